/- Parts of the proof, in order: what the statement leans on. -/
import Derived.Test.YtoajelhfiganaaaGreatBa
section
open Go Go.Den Go.Proofs
namespace Go.Proofs.YtoajelhfiganaaaGreat
set_option maxRecDepth 100000 in
def D_leveelaw13_VolNil (n0 : Int) (g1 : Array Value) (w0 : World) (K : Value → World → Prop) : Prop :=
 ∃ q3 : Addr,∃ w1 : World,Ru (Instr.box 23 (.agg g1)) w0 (.pointer (some q3)) w1 ∧ Cal Tryz.prog F_vol_Mount #[.pointer none] w1 fun r24 w2 => ∃ p24a : Option Addr,∃ n24b : Int,r24 = .tuple #[.pointer p24a,.int .i64 n24b] ∧ ∃ g27 : Array Value,Al (Instr.build 23 #[]) (.agg g27) ∧ ∃ q8 : Addr,∃ w3 : World,Ru (Instr.alloc 23 true (.tuple #[])) w2 (.pointer (some q8)) w3 ∧ ∃ w4 : World,RuU (Instr.storeAt 23 (.pointer (some q8)) (.agg g27)) w3 w4 ∧ Cal Tryz.prog F_vol_Vol_Inode #[.pointer none,.int .i64 n0] w4 fun r31 w5 => ∃ g31a : Array Value,∃ n31b : Int,r31 = .tuple #[.agg g31a,.int .i64 n31b] ∧ ∃ q9 : Addr,∃ w6 : World,Ru (Instr.alloc 55 true (.tuple #[])) w5 (.pointer (some q9)) w6 ∧ ∃ w7 : World,RuU (Instr.storeAt 55 (.pointer (some q9)) (.agg g31a)) w6 w7 ∧ ∃ g37 : Array Value,Al (Instr.build 55 #[]) (.agg g37) ∧ Cal Tryz.prog F_vol_Vol_SetInode #[.pointer none,.int .i64 n0,.agg g37,.slice none 0 0] w7 fun r38 w8 => ∃ n38a : Int,∃ n38b : Int,r38 = .tuple #[.int .i64 n38a,.int .i64 n38b] ∧ Cal Tryz.prog F_vol_Vol_Head #[.pointer none,.int .i64 n0] w8 fun r44 w9 => ∃ g44a : Array Value,∃ n44b : Int,r44 = .tuple #[.agg g44a,.int .i64 n44b] ∧ ∃ q13 : Addr,∃ w10 : World,Ru (Instr.alloc 63 true (.tuple #[])) w9 (.pointer (some q13)) w10 ∧ ∃ w11 : World,RuU (Instr.storeAt 63 (.pointer (some q13)) (.agg g44a)) w10 w11 ∧ ∃ g50 : Array Value,Al (Instr.build 63 #[]) (.agg g50) ∧ Cal Tryz.prog F_vol_Vol_SetHead #[.pointer none,.int .i64 n0,.agg g50,.slice none 0 0] w11 fun r51 w12 => ∃ n51a : Int,∃ n51b : Int,r51 = .tuple #[.int .i64 n51a,.int .i64 n51b] ∧ Cal Tryz.prog F_vol_Vol_Data #[.pointer none,.int .i64 n0] w12 fun r57 w13 => ∃ (a57a : Option Addr) (l57a c57a : Nat),∃ n57b : Int,r57 = .tuple #[.slice a57a l57a c57a,.int .i64 n57b] ∧ ∃ (a63 : Option Addr) (l63 c63 : Nat),∃ w14 : World,Ru (Instr.buildSlice 24 1 #[(0,.int .u8 1)]) w13 (.slice a63 l63 c63) w14 ∧ Cal Tryz.prog F_vol_Vol_SetData #[.pointer none,.int .i64 n0,.int .i64 0,.slice a63 l63 c63,.slice none 0 0] w14 fun r64 w15 => ∃ n64a : Int,∃ n64b : Int,r64 = .tuple #[.int .i64 n64a,.int .i64 n64b] ∧ Cal Tryz.prog F_vol_Vol_NewId #[.pointer none] w15 fun r69 w16 => ∃ n69a : Int,∃ n69b : Int,r69 = .tuple #[.int .i64 n69a,.int .i64 n69b] ∧ Share (fun k => (bif Option.isNone p24a then (bif n24b == 2 then ∃ g81 : Array Value,Ru (Instr.loadAt 23 (.pointer (some q8))) (drew w16) (.agg g81) (drew w16) ∧ Cal Tryz.prog F_vol_Vol_Geo #[.pointer none] (drew w16) fun r80 w17 => ∃ g80 : Array Value,r80 = .agg g80 ∧ Ru (Instr.loadAt 23 (.pointer (some q8))) w17 (.agg g81) w17 ∧ ∃ b82 : Bool,Al (eqS .eql 23 (.tmp 80) (.tmp 81) (.agg g80) (.agg g81)) (.bool b82) ∧ (bif b82 then Cal Tryz.prog F_vol_Vol_Gen #[.pointer none] w17 fun r86 w18 => ∃ n86 : Int,r86 = .int .i64 n86 ∧ (bif n86 == 0 then Cal Tryz.prog F_vol_Vol_Store #[.pointer none] w18 fun r91 w19 => ∃ p91 : Option Addr,r91 = .pointer p91 ∧ (bif Option.isNone p91 then Cal Tryz.prog F_vol_Vol_Work #[.pointer none] w19 fun r96 w20 => ∃ p96 : Option Addr,r96 = .pointer p96 ∧ (bif Option.isNone p96 then (bif n31b == 2 then (bif n38b == 2 then (bif n44b == 2 then (bif n51b == 2 then (bif n57b == 2 then (bif n64b == 2 then (bif n69b == 2 then ∃ g129 : Array Value,Ru (Instr.loadAt 23 (.pointer (some q3))) w20 (.agg g129) w20 ∧ Cal Tryz.prog F_vol_Vol_Prepare #[.pointer none,.agg g129] w20 fun r130 w21 => ∃ n130 : Int,r130 = .int .i64 n130 ∧ (bif n130 == 2 then ∃ g135 : Array Value,Ru (Instr.loadAt 23 (.pointer (some q3))) w21 (.agg g135) w21 ∧ Cal Tryz.prog F_vol_Vol_Switch #[.pointer none,.agg g135] w21 fun r136 w22 => ∃ n136 : Int,r136 = .int .i64 n136 ∧ (bif n136 == 2 then Cal Tryz.prog F_leveelaw13_known #[] w22 fun r140 w23 => ∃ b140 : Bool,r140 = .bool b140 ∧ k [.bool b140] w23 else k [.bool false] w22) else k [.bool false] w21) else k [.bool false] w20) else k [.bool false] w20) else k [.bool false] w20) else k [.bool false] w20) else k [.bool false] w20) else k [.bool false] w20) else k [.bool false] w20) else k [.bool false] w20) else k [.bool false] w19) else k [.bool false] w18) else k [.bool false] w17) else k [.bool false] (drew w16)) else k [.bool false] (drew w16))) fun x w24 =>
 ∃ b4 : Bool,nth x 0 = .bool b4 ∧ K (.bool b4) w24
set_option maxRecDepth 100000 in
theorem C_leveelaw13_VolNil (n0 : Int) (g1 : Array Value) (w0 : World) (K : Value → World → Prop) (h : D_leveelaw13_VolNil n0 g1 w0 K) : Cal Tryz.prog F_leveelaw13_VolNil #[.int .i64 n0,.agg g1] w0 K :=
 denF_sound (A := { S := [4],ty := [(4,4)],raw := [] }) mixed Tryz.func4 (by kernel_rfl) (by kernel_rfl) ((show denF Tryz.prog _ Tryz.f4 _ w0 K = D_leveelaw13_VolNil n0 g1 w0 K by kernel_rfl).mpr h)
set_option maxRecDepth 100000 in
def D_leveelaw13_known (w0 : World) (K : Value → World → Prop) : Prop :=
 Cal Tryz.prog F_disk_New #[.int .i64 34] w0 fun r11 w1 => ∃ p11a : Option Addr,∃ n11b : Int,r11 = .tuple #[.pointer p11a,.int .i64 n11b] ∧ ∃ g15 : Array Value,Al (Instr.build 23 #[(0,.int .i64 16),(1,.int .i64 8),(2,.int .i64 2)]) (.agg g15) ∧ Cal Tryz.prog F_vol_Format #[.pointer p11a,.agg g15] w1 fun r16 w2 => ∃ n16 : Int,r16 = .int .i64 n16 ∧ Cal Tryz.prog F_vol_Mount #[.pointer p11a] w2 fun r19 w3 => ∃ p19a : Option Addr,∃ n19b : Int,r19 = .tuple #[.pointer p19a,.int .i64 n19b] ∧ Share (fun k => (bif n16 != 0 then k [.bool true] w3 else (bif n19b != 0 then k [.bool true] w3 else k [.bool (Option.isNone p19a)] w3))) fun x w4 =>
 ∃ b31 : Bool,nth x 0 = .bool b31 ∧ (bif b31 then
 K (.bool false) w4
 else
 Cal Tryz.prog F_vol_Vol_Inode #[.pointer p19a,.int .i64 1] w4 fun r34 w5 => ∃ g34a : Array Value,∃ n34b : Int,r34 = .tuple #[.agg g34a,.int .i64 n34b] ∧ ∃ q6 : Addr,∃ w6 : World,Ru (Instr.alloc 55 true (.tuple #[])) w5 (.pointer (some q6)) w6 ∧ ∃ w7 : World,RuU (Instr.storeAt 55 (.pointer (some q6)) (.agg g34a)) w6 w7 ∧ Cal Tryz.prog F_vol_Vol_NewId #[.pointer p19a] w7 fun r39 w8 => ∃ n39a : Int,∃ n39b : Int,r39 = .tuple #[.int .i64 n39a,.int .i64 n39b] ∧ Share (fun k_2 => Cal Tryz.prog F_vol_Vol_Gen #[.pointer p19a] w8 fun r43 w9 => ∃ n43 : Int,r43 = .int .i64 n43 ∧ (bif n43 == 1 then ∃ n47 : Int,Ru (Instr.loadAt 3 (.pointer (some (Addr.add q6 0)))) w9 (.int .i64 n47) w9 ∧ (bif n47 == 2 then ∃ n52 : Int,Ru (Instr.loadAt 2 (.pointer (some (Addr.add q6 3)))) w9 (.int .i64 n52) w9 ∧ (bif n52 == 1 then (bif n34b == 0 then (bif n39a == 2 then k_2 [.bool (n39b == 0)] w9 else k_2 [.bool false] w9) else k_2 [.bool false] w9) else k_2 [.bool false] w9) else k_2 [.bool false] w9) else k_2 [.bool false] w9)) fun x_2 w10 =>
 ∃ b0 : Bool,nth x_2 0 = .bool b0 ∧ K (.bool b0) w10)
set_option maxRecDepth 100000 in
theorem C_leveelaw13_known (w0 : World) (K : Value → World → Prop) (h : D_leveelaw13_known  w0 K) : Cal Tryz.prog F_leveelaw13_known #[] w0 K :=
 denF_sound (A := { S := [0,31],ty := [(0,4),(31,4)],raw := [] }) mixed Tryz.func6 (by kernel_rfl) (by kernel_rfl) ((show denF Tryz.prog _ Tryz.f6 _ w0 K = D_leveelaw13_known  w0 K by kernel_rfl).mpr h)
set_option maxRecDepth 100000 in
def D_disk_New (n0 : Int) (w0 : World) (K : Value → World → Prop) : Prop :=
 Share (fun k => (bif decide (n0 < 1) then k [.bool true] w0 else k [.bool (decide (n0 > 4096))] w0)) fun x w1 =>
 ∃ b9 : Bool,nth x 0 = .bool b9 ∧ (bif b9 then
 K (.tuple #[.pointer none,.int .i64 1]) w1
 else
 ∃ (a11 : Option Addr) (l11 c11 : Nat),∃ w2 : World,Ru (Instr.makeSlice 78 (.int .i64 n0) (.int .i64 n0)) w1 (.slice a11 l11 c11) w2 ∧ ∃ m12 : Option Nat,∃ w3 : World,Ru (Instr.makeMap 79 none) w2 (.map m12) w3 ∧ ∃ g13 : Array Value,Al (Instr.build 81 #[(0,.slice a11 l11 c11),(1,.map m12),(2,.int .i64 ((-1)))]) (.agg g13) ∧ ∃ q14 : Addr,∃ w4 : World,Ru (Instr.box 81 (.agg g13)) w3 (.pointer (some q14)) w4 ∧ K (.tuple #[.pointer (some q14),.int .i64 0]) w4)
set_option maxRecDepth 100000 in
theorem C_disk_New (n0 : Int) (w0 : World) (K : Value → World → Prop) (h : D_disk_New n0 w0 K) : Cal Tryz.prog F_disk_New #[.int .i64 n0] w0 K :=
 denF_sound (A := { S := [9],ty := [(9,4)],raw := [] }) mixed Tryz.func7 (by kernel_rfl) (by kernel_rfl) ((show denF Tryz.prog _ Tryz.f7 _ w0 K = D_disk_New n0 w0 K by kernel_rfl).mpr h)
set_option maxRecDepth 100000 in
def D_vol_Format (p0 : Option Addr) (g1 : Array Value) (w0 : World) (K : Value → World → Prop) : Prop :=
 ∃ q3 : Addr,∃ w1 : World,Ru (Instr.box 23 (.agg g1)) w0 (.pointer (some q3)) w1 ∧ (bif Option.isNone p0 then
 K (.int .i64 2) w1
 else
 ∃ g12 : Array Value,Ru (Instr.loadAt 23 (.pointer (some q3))) w1 (.agg g12) w1 ∧ Cal Tryz.prog F_geo_Right #[.agg g12] w1 fun r13 w2 => ∃ b13 : Bool,r13 = .bool b13 ∧ (bif !b13 then
 K (.int .i64 1) w2
 else
 ∃ g18 : Array Value,Ru (Instr.loadAt 23 (.pointer (some q3))) (drew w2) (.agg g18) (drew w2) ∧ Cal Tryz.prog F_disk_Disk_Len #[.pointer p0] (drew w2) fun r17 w3 => ∃ n17 : Int,r17 = .int .i64 n17 ∧ Ru (Instr.loadAt 23 (.pointer (some q3))) w3 (.agg g18) w3 ∧ Cal Tryz.prog F_geo_Size #[.agg g18] w3 fun r19 w4 => ∃ n19 : Int,r19 = .int .i64 n19 ∧ (bif decide (n17 < n19) then
 K (.int .i64 4) w4
 else
 LoopC (fun k x w5 =>
 ∃ n21 : Int,nth x 0 = .int .i64 n21 ∧ (bif decide (n21 < 2) then
 ∃ (a26 : Option Addr) (l26 c26 : Nat),∃ w6 : World,Ru (Instr.makeSlice 24 (.int .i64 256) (.int .i64 256)) w5 (.slice a26 l26 c26) w6 ∧ Cal Tryz.prog F_disk_Disk_Write #[.pointer p0,.int .i64 n21,.slice a26 l26 c26] w6 fun r27 w7 => ∃ n27 : Int,r27 = .int .i64 n27 ∧ k [.int .i64 (IntKind.i64.wrap (n21 + 1))] w7
 else
 Cal Tryz.prog F_disk_Disk_Flush #[.pointer p0] w5 fun r30 w8 => ∃ n30 : Int,r30 = .int .i64 n30 ∧ ∃ g31 : Array Value,Ru (Instr.loadAt 23 (.pointer (some q3))) w8 (.agg g31) w8 ∧ Cal Tryz.prog F_vol_each #[.agg g31,.int .i64 0,.func (.func F_disk_Disk_Write) #[.pointer p0] #[]] w8 fun r34 w9 => ∃ n34 : Int,r34 = .int .i64 n34 ∧ Cal Tryz.prog F_disk_Disk_Flush #[.pointer p0] w9 fun r36 w10 => ∃ n36 : Int,r36 = .int .i64 n36 ∧ ∃ g38 : Array Value,Ru (Instr.loadAt 23 (.pointer (some q3))) w10 (.agg g38) w10 ∧ ∃ g39 : Array Value,Al (Instr.build 94 #[(0,.int .i64 1),(1,.agg g38)]) (.agg g39) ∧ Cal Tryz.prog F_super_Put #[.agg g39] w10 fun r40 w11 => ∃ (a40a : Option Addr) (l40a c40a : Nat),∃ n40b : Int,r40 = .tuple #[.slice a40a l40a c40a,.int .i64 n40b] ∧ Cal Tryz.prog F_disk_Disk_Write #[.pointer p0,.int .i64 1,.slice a40a l40a c40a] w11 fun r45 w12 => ∃ n45 : Int,r45 = .int .i64 n45 ∧ Cal Tryz.prog F_disk_Disk_Flush #[.pointer p0] w12 fun r47 w13 => ∃ n47 : Int,r47 = .int .i64 n47 ∧ K (.int .i64 n47) w13)) [.int .i64 0] w4)))
set_option maxRecDepth 100000 in
theorem C_vol_Format (p0 : Option Addr) (g1 : Array Value) (w0 : World) (K : Value → World → Prop) (h : D_vol_Format p0 g1 w0 K) : Cal Tryz.prog F_vol_Format #[.pointer p0,.agg g1] w0 K :=
 denF_sound (A := { S := [21],ty := [(21,3)],raw := [] }) mixed Tryz.func9 (by kernel_rfl) (by kernel_rfl) ((show denF Tryz.prog _ Tryz.f9 _ w0 K = D_vol_Format p0 g1 w0 K by kernel_rfl).mpr h)
set_option maxRecDepth 100000 in
def D_disk_Disk_Write (p0 : Option Addr) (n1 : Int) (a2 : Option Addr) (l2 c2 : Nat) (w0 : World) (K : Value → World → Prop) : Prop :=
 Cal Tryz.prog F_disk_Disk_may #[.pointer p0,.int .i64 n1] w0 fun r11 w1 => ∃ n11 : Int,r11 = .int .i64 n11 ∧ (bif n11 != 0 then
 K (.int .i64 n11) w1
 else
 (bif (l2 : Int) != 256 then
 K (.int .i64 4) w1
 else
 ∃ q21 : Addr,(.pointer p0 : Value) = .pointer (some q21) ∧ ∃ m23 : Option Nat,Ru (Instr.loadAt 79 (.pointer (some (Addr.add q21 1)))) w1 (.map m23) w1 ∧ ∃ (a25 : Option Addr) (l25 c25 : Nat),Ru (Instr.lookup 79 (.map m23) (.int .i64 n1) false) w1 (.slice a25 l25 c25) w1 ∧ Cal Tryz.prog F_disk_Disk_goes #[.pointer p0] w1 fun r27 w2 => ∃ b27 : Bool,r27 = .bool b27 ∧ Share (fun k => (bif b27 then
 ∃ q29 : Addr,(.pointer p0 : Value) = .pointer (some q29) ∧ ∃ m31 : Option Nat,Ru (Instr.loadAt 79 (.pointer (some (Addr.add q29 1)))) (drew w2) (.map m31) (drew w2) ∧ ∃ (a38 : Option Addr) (l38 c38 : Nat),Al (Instr.sliceAt 78 (.slice a25 l25 c25) none (some (.int .i64 ((l25 : Int)))) (some (.int .i64 ((l25 : Int))))) (.slice a38 l38 c38) ∧ ∃ q40 : Addr,Al (Instr.arrayAt 107 (.slice a2 l2 c2)) (.pointer (some q40)) ∧ ∃ g41 : Array Value,Ru (Instr.loadAt 107 (.pointer (some q40))) (drew w2) (.agg g41) (drew w2) ∧ ∃ (a42 : Option Addr) (l42 c42 : Nat),∃ w3 : World,Ru (Instr.buildSlice 78 1 #[(0,.agg g41)]) (drew w2) (.slice a42 l42 c42) w3 ∧ Ru (Instr.loadAt 79 (.pointer (some (Addr.add q29 1)))) w3 (.map m31) w3 ∧ ∃ (a43 : Option Addr) (l43 c43 : Nat),∃ w4 : World,Ru (Builtin.append_ #[78,78] 78 #[.slice a38 l38 c38,.slice a42 l42 c42]) w3 (.slice a43 l43 c43) w4 ∧ Ru (Instr.loadAt 79 (.pointer (some (Addr.add q29 1)))) w4 (.map m31) w4 ∧ ∃ w5 : World,RuU (Instr.mapUpdate 79 (.map m31) (.int .i64 n1) (.slice a43 l43 c43)) w4 w5 ∧ k [] w5
 else
 k [] w2)) fun x w6 =>
 K (.int .i64 0) w6))
set_option maxRecDepth 100000 in
theorem C_disk_Disk_Write (p0 : Option Addr) (n1 : Int) (a2 : Option Addr) (l2 c2 : Nat) (w0 : World) (K : Value → World → Prop) (h : D_disk_Disk_Write p0 n1 a2 l2 c2 w0 K) : Cal Tryz.prog F_disk_Disk_Write #[.pointer p0,.int .i64 n1,.slice a2 l2 c2] w0 K :=
 denF_sound (A := { S := [],ty := [],raw := [] }) mixed Tryz.func12 (by kernel_rfl) (by kernel_rfl) ((show denF Tryz.prog _ Tryz.f12 _ w0 K = D_disk_Disk_Write p0 n1 a2 l2 c2 w0 K by kernel_rfl).mpr h)
set_option maxRecDepth 100000 in
def D_leveeref02_Disk_Write (p0 : Option Addr) (n1 : Int) (a2 : Option Addr) (l2 c2 : Nat) (w0 : World) (K : Value → World → Prop) : Prop :=
 Cal Tryz.prog F_leveeref02_Disk_there #[.pointer p0,.int .i64 n1] w0 fun r10 w1 => ∃ b10 : Bool,r10 = .bool b10 ∧ (bif !b10 then
 K (.int .i64 3) w1
 else
 (bif (l2 : Int) != 256 then
 K (.int .i64 4) w1
 else
 Cal Tryz.prog F_leveeref02_Disk_goes #[.pointer p0] w1 fun r16 w2 => ∃ b16 : Bool,r16 = .bool b16 ∧ (bif !b16 then
 K (.int .i64 0) w2
 else
 ∃ q20 : Addr,(.pointer p0 : Value) = .pointer (some q20) ∧ ∃ (a22 : Option Addr) (l22 c22 : Nat),Ru (Instr.loadAt 82 (.pointer (some (Addr.add q20 0)))) w2 (.slice a22 l22 c22) w2 ∧ ∃ q24 : Addr,Al (Instr.indexAt 82 (.slice a22 l22 c22) (.int .i64 n1)) (.pointer (some q24)) ∧ ∃ (a26 : Option Addr) (l26 c26 : Nat),Ru (Instr.loadAt 86 (.pointer (some (Addr.add q24 0)))) w2 (.slice a26 l26 c26) w2 ∧ ∃ (a27 : Option Addr) (l27 c27 : Nat),∃ w3 : World,Ru (Builtin.append_ #[86,86] 86 #[.slice none 0 0,.slice a26 l26 c26]) w2 (.slice a27 l27 c27) w3 ∧ ∃ q29 : Addr,(.pointer p0 : Value) = .pointer (some q29) ∧ ∃ (a31 : Option Addr) (l31 c31 : Nat),Ru (Instr.loadAt 82 (.pointer (some (Addr.add q29 0)))) (drew w3) (.slice a31 l31 c31) (drew w3) ∧ ∃ s35 : ByteArray,Ru (convert 24 9 (.slice a2 l2 c2)) (drew w3) (.string s35) (drew w3) ∧ ∃ (a36 : Option Addr) (l36 c36 : Nat),∃ w4 : World,Ru (Instr.buildSlice 86 1 #[(0,.string s35)]) (drew w3) (.slice a36 l36 c36) w4 ∧ Ru (Instr.loadAt 82 (.pointer (some (Addr.add q29 0)))) w4 (.slice a31 l31 c31) w4 ∧ ∃ (a37 : Option Addr) (l37 c37 : Nat),∃ w5 : World,Ru (Builtin.append_ #[86,86] 86 #[.slice a27 l27 c27,.slice a36 l36 c36]) w4 (.slice a37 l37 c37) w5 ∧ Ru (Instr.loadAt 82 (.pointer (some (Addr.add q29 0)))) w5 (.slice a31 l31 c31) w5 ∧ ∃ q38 : Addr,Al (Instr.indexAt 82 (.slice a31 l31 c31) (.int .i64 n1)) (.pointer (some q38)) ∧ ∃ w6 : World,RuU (Instr.storeAt 86 (.pointer (some (Addr.add q38 0))) (.slice a37 l37 c37)) w5 w6 ∧ K (.int .i64 0) w6)))
set_option maxRecDepth 100000 in
theorem C_leveeref02_Disk_Write (p0 : Option Addr) (n1 : Int) (a2 : Option Addr) (l2 c2 : Nat) (w0 : World) (K : Value → World → Prop) (h : D_leveeref02_Disk_Write p0 n1 a2 l2 c2 w0 K) : Cal Tryz.prog F_leveeref02_Disk_Write #[.pointer p0,.int .i64 n1,.slice a2 l2 c2] w0 K :=
 denF_sound (A := { S := [],ty := [],raw := [] }) mixed Tryz.func15 (by kernel_rfl) (by kernel_rfl) ((show denF Tryz.prog _ Tryz.f15 _ w0 K = D_leveeref02_Disk_Write p0 n1 a2 l2 c2 w0 K by kernel_rfl).mpr h)
set_option maxRecDepth 100000 in
def D_vol_Mount (p0 : Option Addr) (w0 : World) (K : Value → World → Prop) : Prop :=
 Cal Tryz.prog F_disk_Disk_Len #[.pointer p0] w0 fun r24 w1 => ∃ n24 : Int,r24 = .int .i64 n24 ∧ Cal Tryz.prog F_patch_Open #[.pointer p0,.int .i64 (if 1 > n24 then 1 else n24)] w1 fun r26 w2 => ∃ p26a : Option Addr,∃ n26b : Int,r26 = .tuple #[.pointer p26a,.int .i64 n26b] ∧ (bif n26b != 0 then
 K (.tuple #[.pointer none,.int .i64 n26b]) w2
 else
 Cal Tryz.prog F_disk_Disk_Read #[.pointer p0,.int .i64 0] w2 fun r34 w3 => ∃ (a34a : Option Addr) (l34a c34a : Nat),∃ n34b : Int,r34 = .tuple #[.slice a34a l34a c34a,.int .i64 n34b] ∧ Cal Tryz.prog F_disk_Disk_Read #[.pointer p0,.int .i64 1] w3 fun r39 w4 => ∃ (a39a : Option Addr) (l39a c39a : Nat),∃ n39b : Int,r39 = .tuple #[.slice a39a l39a c39a,.int .i64 n39b] ∧ Cal Tryz.prog F_disk_Disk_Len #[.pointer p0] w4 fun r46 w5 => ∃ n46 : Int,r46 = .int .i64 n46 ∧ Cal Tryz.prog F_super_Choose #[.slice a34a l34a c34a,.slice a39a l39a c39a,.int .i64 n46] w5 fun r47 w6 => ∃ g47a : Array Value,∃ n47b : Int,∃ n47c : Int,r47 = .tuple #[.agg g47a,.int .i64 n47b,.int .i64 n47c] ∧ ∃ q10 : Addr,∃ w7 : World,Ru (Instr.alloc 94 true (.tuple #[])) w6 (.pointer (some q10)) w7 ∧ ∃ w8 : World,RuU (Instr.storeAt 94 (.pointer (some q10)) (.agg g47a)) w7 w8 ∧ (bif n47c != 0 then
 K (.tuple #[.pointer none,.int .i64 n47c]) w8
 else
 ∃ g54 : Array Value,Ru (Instr.loadAt 94 (.pointer (some q10))) (drew w8) (.agg g54) (drew w8) ∧ Cal Tryz.prog F_push_New #[] (drew w8) fun r56 w9 => ∃ p56 : Option Addr,r56 = .pointer p56 ∧ Ru (Instr.loadAt 94 (.pointer (some q10))) w9 (.agg g54) w9 ∧ ∃ g57 : Array Value,Al (Instr.build 114 #[(0,.agg g54),(1,.pointer p26a),(2,.pointer p56),(3,.int .i64 0)]) (.agg g57) ∧ ∃ q58 : Addr,∃ w10 : World,Ru (Instr.box 114 (.agg g57)) w9 (.pointer (some q58)) w10 ∧ ∃ n61 : Int,Ru (Instr.loadAt 3 (.pointer (some (Addr.add (Addr.add q10 1) 2)))) w10 (.int .i64 n61) w10 ∧ LoopC (fun k x w11 =>
 ∃ n62 : Int,nth x 0 = .int .i64 n62 ∧ (bif decide (n62 < n61) then
 Cal Tryz.prog F_vol_Vol_Head #[.pointer (some q58),.int .i64 n62] w11 fun r68 w12 => ∃ g68a : Array Value,∃ n68b : Int,r68 = .tuple #[.agg g68a,.int .i64 n68b] ∧ ∃ q14 : Addr,∃ w13 : World,Ru (Instr.alloc 63 true (.tuple #[])) w12 (.pointer (some q14)) w13 ∧ ∃ w14 : World,RuU (Instr.storeAt 63 (.pointer (some q14)) (.agg g68a)) w13 w14 ∧ Share (fun k_2 => (bif n68b != 0 then k_2 [.bool true] w14 else ∃ n75 : Int,Ru (Instr.loadAt 3 (.pointer (some (Addr.add q14 0)))) w14 (.int .i64 n75) w14 ∧ k_2 [.bool (n75 != n62)] w14)) fun x_2 w15 =>
 ∃ b78 : Bool,nth x_2 0 = .bool b78 ∧ (bif b78 then
 K (.tuple #[.pointer none,.int .i64 8]) w15
 else
 k [.int .i64 (IntKind.i64.wrap (n62 + 1)),.bool b78] w15)
 else
 Cal Tryz.prog F_vol_Vol_Inode #[.pointer (some q58),.int .i64 1] w11 fun r82 w16 => ∃ g82a : Array Value,∃ n82b : Int,r82 = .tuple #[.agg g82a,.int .i64 n82b] ∧ ∃ q16 : Addr,∃ w17 : World,Ru (Instr.alloc 55 true (.tuple #[])) w16 (.pointer (some q16)) w17 ∧ ∃ w18 : World,RuU (Instr.storeAt 55 (.pointer (some q16)) (.agg g82a)) w17 w18 ∧ Share (fun k_3 => (bif n82b != 0 then k_3 [.bool true] w18 else ∃ n89 : Int,Ru (Instr.loadAt 3 (.pointer (some (Addr.add q16 0)))) w18 (.int .i64 n89) w18 ∧ k_3 [.bool (n89 != 2)] w18)) fun x_3 w19 =>
 ∃ b91 : Bool,nth x_3 0 = .bool b91 ∧ (bif b91 then
 K (.tuple #[.pointer none,.int .i64 8]) w19
 else
 ∃ g93 : Array Value,Ru (Instr.loadAt 23 (.pointer (some (Addr.add q10 1)))) w19 (.agg g93) w19 ∧ Cal Tryz.prog F_geo_Slots #[.agg g93] w19 fun r94 w20 => ∃ n94 : Int,r94 = .int .i64 n94 ∧ LoopC (fun k_4 x_4 w21 =>
 ∃ n95 : Int,nth x_4 0 = .int .i64 n95 ∧ (bif decide (n95 < n94) then
 Cal Tryz.prog F_vol_Vol_Inode #[.pointer (some q58),.int .i64 n95] w21 fun r101 w22 => ∃ g101a : Array Value,∃ n101b : Int,r101 = .tuple #[.agg g101a,.int .i64 n101b] ∧ ∃ q19 : Addr,∃ w23 : World,Ru (Instr.alloc 55 true (.tuple #[])) w22 (.pointer (some q19)) w23 ∧ ∃ w24 : World,RuU (Instr.storeAt 55 (.pointer (some q19)) (.agg g101a)) w23 w24 ∧ ∃ q106 : Addr,(.pointer (some q58) : Value) = .pointer (some q106) ∧ ∃ n108 : Int,Ru (Instr.loadAt 2 (.pointer (some (Addr.add q106 6)))) (drew w24) (.int .i64 n108) (drew w24) ∧ ∃ n110 : Int,Ru (Instr.loadAt 2 (.pointer (some (Addr.add q19 3)))) (drew w24) (.int .i64 n110) (drew w24) ∧ ∃ q112 : Addr,(.pointer (some q58) : Value) = .pointer (some q112) ∧ ∃ w25 : World,RuU (Instr.storeAt 2 (.pointer (some (Addr.add q112 6))) (.int .i64 (if n110 > n108 then n110 else n108))) (drew w24) w25 ∧ k_4 [.int .i64 (IntKind.i64.wrap (n95 + 1))] w25
 else
 ∃ q116 : Addr,(.pointer (some q58) : Value) = .pointer (some q116) ∧ ∃ n118 : Int,Ru (Instr.loadAt 2 (.pointer (some (Addr.add q116 6)))) w21 (.int .i64 n118) w21 ∧ ∃ q120 : Addr,(.pointer (some q58) : Value) = .pointer (some q120) ∧ ∃ w26 : World,RuU (Instr.storeAt 2 (.pointer (some (Addr.add q120 6))) (.int .i64 (IntKind.i64.wrap (n118 + 1)))) w21 w26 ∧ K (.tuple #[.pointer (some q58),.int .i64 0]) w26)) [.int .i64 0] w20))) [.int .i64 0,undef] w10))
set_option maxRecDepth 100000 in
theorem C_vol_Mount (p0 : Option Addr) (w0 : World) (K : Value → World → Prop) (h : D_vol_Mount p0 w0 K) : Cal Tryz.prog F_vol_Mount #[.pointer p0] w0 K :=
 denF_sound (A := { S := [62,78,91,95],ty := [(62,3),(78,4),(91,4),(95,3)],raw := [] }) mixed Tryz.func16 (by kernel_rfl) (by kernel_rfl) ((show denF Tryz.prog _ Tryz.f16 _ w0 K = D_vol_Mount p0 w0 K by kernel_rfl).mpr h)
set_option maxRecDepth 100000 in
def D_vol_Vol_Gen (p0 : Option Addr) (w0 : World) (K : Value → World → Prop) : Prop :=
 (bif Option.isNone p0 then
 K (.int .i64 0) w0
 else
 ∃ q6 : Addr,(.pointer p0 : Value) = .pointer (some q6) ∧ ∃ n9 : Int,Ru (Instr.loadAt 2 (.pointer (some (Addr.add (Addr.add q6 0) 0)))) w0 (.int .i64 n9) w0 ∧ K (.int .i64 n9) w0)
set_option maxRecDepth 100000 in
theorem C_vol_Vol_Gen (p0 : Option Addr) (w0 : World) (K : Value → World → Prop) (h : D_vol_Vol_Gen p0 w0 K) : Cal Tryz.prog F_vol_Vol_Gen #[.pointer p0] w0 K :=
 denF_sound (A := { S := [],ty := [],raw := [] }) mixed Tryz.func18 (by kernel_rfl) (by kernel_rfl) ((show denF Tryz.prog _ Tryz.f18 _ w0 K = D_vol_Vol_Gen p0 w0 K by kernel_rfl).mpr h)
set_option maxRecDepth 100000 in
def D_vol_Vol_Geo (p0 : Option Addr) (w0 : World) (K : Value → World → Prop) : Prop :=
 ∃ q2 : Addr,∃ w1 : World,Ru (Instr.alloc 23 true (.tuple #[])) w0 (.pointer (some q2)) w1 ∧ (bif Option.isNone p0 then
 ∃ g5 : Array Value,Al (Instr.build 23 #[]) (.agg g5) ∧ ∃ w2 : World,RuU (Instr.storeAt 23 (.pointer (some q2)) (.agg g5)) w1 w2 ∧ ∃ gR2 : Array Value,Ru (Instr.loadAt 23 (.pointer (some q2))) w2 (.agg gR2) w2 ∧ K (.agg gR2) w2
 else
 ∃ q7 : Addr,(.pointer p0 : Value) = .pointer (some q7) ∧ ∃ g10 : Array Value,Ru (Instr.loadAt 23 (.pointer (some (Addr.add (Addr.add q7 0) 1)))) w1 (.agg g10) w1 ∧ ∃ w3 : World,RuU (Instr.storeAt 23 (.pointer (some q2)) (.agg g10)) w1 w3 ∧ ∃ gR2_2 : Array Value,Ru (Instr.loadAt 23 (.pointer (some q2))) w3 (.agg gR2_2) w3 ∧ K (.agg gR2_2) w3)
set_option maxRecDepth 100000 in
theorem C_vol_Vol_Geo (p0 : Option Addr) (w0 : World) (K : Value → World → Prop) (h : D_vol_Vol_Geo p0 w0 K) : Cal Tryz.prog F_vol_Vol_Geo #[.pointer p0] w0 K :=
 denF_sound (A := { S := [],ty := [],raw := [] }) mixed Tryz.func19 (by kernel_rfl) (by kernel_rfl) ((show denF Tryz.prog _ Tryz.f19 _ w0 K = D_vol_Vol_Geo p0 w0 K by kernel_rfl).mpr h)
set_option maxRecDepth 100000 in
def D_vol_Vol_Inode (p0 : Option Addr) (n1 : Int) (w0 : World) (K : Value → World → Prop) : Prop :=
 ∃ q4 : Addr,∃ w1 : World,Ru (Instr.alloc 55 true (.tuple #[])) w0 (.pointer (some q4)) w1 ∧ Cal Tryz.prog F_vol_Vol_place #[.pointer p0,.int .i64 n1] w1 fun r13 w2 => ∃ n13a : Int,∃ n13b : Int,∃ n13c : Int,r13 = .tuple #[.int .i64 n13a,.int .i64 n13b,.int .i64 n13c] ∧ (bif n13c != 0 then
 ∃ g19 : Array Value,Al (Instr.build 55 #[]) (.agg g19) ∧ ∃ w3 : World,RuU (Instr.storeAt 55 (.pointer (some q4)) (.agg g19)) w2 w3 ∧ ∃ gR4 : Array Value,Ru (Instr.loadAt 55 (.pointer (some q4))) w3 (.agg gR4) w3 ∧ K (.tuple #[.agg gR4,.int .i64 n13c]) w3
 else
 ∃ q23 : Addr,(.pointer p0 : Value) = .pointer (some q23) ∧ ∃ p25 : Option Addr,Ru (Instr.loadAt 71 (.pointer (some (Addr.add q23 4)))) w2 (.pointer p25) w2 ∧ Cal Tryz.prog F_patch_Store_Read #[.pointer p25,.int .i64 n13a] w2 fun r27 w4 => ∃ (a27a : Option Addr) (l27a c27a : Nat),∃ n27b : Int,r27 = .tuple #[.slice a27a l27a c27a,.int .i64 n27b] ∧ (bif n27b != 0 then
 ∃ g32 : Array Value,Al (Instr.build 55 #[]) (.agg g32) ∧ ∃ w5 : World,RuU (Instr.storeAt 55 (.pointer (some q4)) (.agg g32)) w4 w5 ∧ ∃ gR4_2 : Array Value,Ru (Instr.loadAt 55 (.pointer (some q4))) w5 (.agg gR4_2) w5 ∧ K (.tuple #[.agg gR4_2,.int .i64 n27b]) w5
 else
 Cal Tryz.prog F_inode_Read #[.slice a27a l27a c27a,.int .i64 n13b] w4 fun r36 w6 => ∃ g36a : Array Value,∃ n36b : Int,r36 = .tuple #[.agg g36a,.int .i64 n36b] ∧ ∃ w7 : World,RuU (Instr.storeAt 55 (.pointer (some q4)) (.agg g36a)) w6 w7 ∧ ∃ gR4_3 : Array Value,Ru (Instr.loadAt 55 (.pointer (some q4))) w7 (.agg gR4_3) w7 ∧ K (.tuple #[.agg gR4_3,.int .i64 n36b]) w7))
set_option maxRecDepth 100000 in
theorem C_vol_Vol_Inode (p0 : Option Addr) (n1 : Int) (w0 : World) (K : Value → World → Prop) (h : D_vol_Vol_Inode p0 n1 w0 K) : Cal Tryz.prog F_vol_Vol_Inode #[.pointer p0,.int .i64 n1] w0 K :=
 denF_sound (A := { S := [],ty := [],raw := [] }) mixed Tryz.func20 (by kernel_rfl) (by kernel_rfl) ((show denF Tryz.prog _ Tryz.f20 _ w0 K = D_vol_Vol_Inode p0 n1 w0 K by kernel_rfl).mpr h)
set_option maxRecDepth 100000 in
def D_vol_Vol_SetInode (p0 : Option Addr) (n1 : Int) (g2 : Array Value) (a3 : Option Addr) (l3 c3 : Nat) (w0 : World) (K : Value → World → Prop) : Prop :=
 ∃ q6 : Addr,∃ w1 : World,Ru (Instr.box 55 (.agg g2)) w0 (.pointer (some q6)) w1 ∧ Cal Tryz.prog F_vol_Vol_place #[.pointer p0,.int .i64 n1] w1 fun r17 w2 => ∃ n17a : Int,∃ n17b : Int,∃ n17c : Int,r17 = .tuple #[.int .i64 n17a,.int .i64 n17b,.int .i64 n17c] ∧ (bif n17c != 0 then
 K (.tuple #[.int .i64 0,.int .i64 n17c]) w2
 else
 ∃ g25 : Array Value,Ru (Instr.loadAt 55 (.pointer (some q6))) w2 (.agg g25) w2 ∧ Cal Tryz.prog F_inode_Put #[.agg g25] w2 fun r26 w3 => ∃ (a26a : Option Addr) (l26a c26a : Nat),∃ n26b : Int,r26 = .tuple #[.slice a26a l26a c26a,.int .i64 n26b] ∧ (bif n26b != 0 then
 K (.tuple #[.int .i64 0,.int .i64 n26b]) w3
 else
 ∃ q33 : Addr,(.pointer p0 : Value) = .pointer (some q33) ∧ ∃ p35 : Option Addr,Ru (Instr.loadAt 71 (.pointer (some (Addr.add q33 4)))) w3 (.pointer p35) w3 ∧ Cal Tryz.prog F_patch_Store_Patch #[.pointer p35,.int .i64 n17a,.int .i64 (IntKind.i64.wrap (n17b * 64)),.slice a26a l26a c26a,.slice a3 l3 c3] w3 fun r41 w4 => ∃ n41a : Int,∃ n41b : Int,r41 = .tuple #[.int .i64 n41a,.int .i64 n41b] ∧ K (.tuple #[.int .i64 n41a,.int .i64 n41b]) w4))
set_option maxRecDepth 100000 in
theorem C_vol_Vol_SetInode (p0 : Option Addr) (n1 : Int) (g2 : Array Value) (a3 : Option Addr) (l3 c3 : Nat) (w0 : World) (K : Value → World → Prop) (h : D_vol_Vol_SetInode p0 n1 g2 a3 l3 c3 w0 K) : Cal Tryz.prog F_vol_Vol_SetInode #[.pointer p0,.int .i64 n1,.agg g2,.slice a3 l3 c3] w0 K :=
 denF_sound (A := { S := [],ty := [],raw := [] }) mixed Tryz.func21 (by kernel_rfl) (by kernel_rfl) ((show denF Tryz.prog _ Tryz.f21 _ w0 K = D_vol_Vol_SetInode p0 n1 g2 a3 l3 c3 w0 K by kernel_rfl).mpr h)
set_option maxRecDepth 100000 in
def D_vol_Vol_Head (p0 : Option Addr) (n1 : Int) (w0 : World) (K : Value → World → Prop) : Prop :=
 ∃ q4 : Addr,∃ w1 : World,Ru (Instr.alloc 63 true (.tuple #[])) w0 (.pointer (some q4)) w1 ∧ Cal Tryz.prog F_vol_Vol_head #[.pointer p0,.int .i64 n1] w1 fun r12 w2 => ∃ n12a : Int,∃ n12b : Int,r12 = .tuple #[.int .i64 n12a,.int .i64 n12b] ∧ (bif n12b != 0 then
 ∃ g17 : Array Value,Al (Instr.build 63 #[]) (.agg g17) ∧ ∃ w3 : World,RuU (Instr.storeAt 63 (.pointer (some q4)) (.agg g17)) w2 w3 ∧ ∃ gR4 : Array Value,Ru (Instr.loadAt 63 (.pointer (some q4))) w3 (.agg gR4) w3 ∧ K (.tuple #[.agg gR4,.int .i64 n12b]) w3
 else
 ∃ q21 : Addr,(.pointer p0 : Value) = .pointer (some q21) ∧ ∃ p23 : Option Addr,Ru (Instr.loadAt 71 (.pointer (some (Addr.add q21 4)))) w2 (.pointer p23) w2 ∧ Cal Tryz.prog F_patch_Store_Read #[.pointer p23,.int .i64 n12a] w2 fun r25 w4 => ∃ (a25a : Option Addr) (l25a c25a : Nat),∃ n25b : Int,r25 = .tuple #[.slice a25a l25a c25a,.int .i64 n25b] ∧ (bif n25b != 0 then
 ∃ g30 : Array Value,Al (Instr.build 63 #[]) (.agg g30) ∧ ∃ w5 : World,RuU (Instr.storeAt 63 (.pointer (some q4)) (.agg g30)) w4 w5 ∧ ∃ gR4_2 : Array Value,Ru (Instr.loadAt 63 (.pointer (some q4))) w5 (.agg gR4_2) w5 ∧ K (.tuple #[.agg gR4_2,.int .i64 n25b]) w5
 else
 ∃ q33 : Addr,(.pointer p0 : Value) = .pointer (some q33) ∧ ∃ g36 : Array Value,Ru (Instr.loadAt 23 (.pointer (some (Addr.add (Addr.add q33 0) 1)))) w4 (.agg g36) w4 ∧ Cal Tryz.prog F_group_Get #[.agg g36,.slice a25a l25a c25a] w4 fun r38 w6 => ∃ g38a : Array Value,∃ n38b : Int,r38 = .tuple #[.agg g38a,.int .i64 n38b] ∧ ∃ w7 : World,RuU (Instr.storeAt 63 (.pointer (some q4)) (.agg g38a)) w6 w7 ∧ ∃ gR4_3 : Array Value,Ru (Instr.loadAt 63 (.pointer (some q4))) w7 (.agg gR4_3) w7 ∧ K (.tuple #[.agg gR4_3,.int .i64 n38b]) w7))
set_option maxRecDepth 100000 in
theorem C_vol_Vol_Head (p0 : Option Addr) (n1 : Int) (w0 : World) (K : Value → World → Prop) (h : D_vol_Vol_Head p0 n1 w0 K) : Cal Tryz.prog F_vol_Vol_Head #[.pointer p0,.int .i64 n1] w0 K :=
 denF_sound (A := { S := [],ty := [],raw := [] }) mixed Tryz.func22 (by kernel_rfl) (by kernel_rfl) ((show denF Tryz.prog _ Tryz.f22 _ w0 K = D_vol_Vol_Head p0 n1 w0 K by kernel_rfl).mpr h)
set_option maxRecDepth 100000 in
def D_vol_Vol_SetHead (p0 : Option Addr) (n1 : Int) (g2 : Array Value) (a3 : Option Addr) (l3 c3 : Nat) (w0 : World) (K : Value → World → Prop) : Prop :=
 ∃ q6 : Addr,∃ w1 : World,Ru (Instr.box 63 (.agg g2)) w0 (.pointer (some q6)) w1 ∧ Cal Tryz.prog F_vol_Vol_head #[.pointer p0,.int .i64 n1] w1 fun r16 w2 => ∃ n16a : Int,∃ n16b : Int,r16 = .tuple #[.int .i64 n16a,.int .i64 n16b] ∧ (bif n16b != 0 then
 K (.tuple #[.int .i64 0,.int .i64 n16b]) w2
 else
 ∃ q24 : Addr,(.pointer p0 : Value) = .pointer (some q24) ∧ ∃ g27 : Array Value,Ru (Instr.loadAt 23 (.pointer (some (Addr.add (Addr.add q24 0) 1)))) (drew w2) (.agg g27) (drew w2) ∧ ∃ g28 : Array Value,Ru (Instr.loadAt 63 (.pointer (some q6))) (drew w2) (.agg g28) (drew w2) ∧ Cal Tryz.prog F_group_Put #[.agg g27,.agg g28] (drew w2) fun r29 w3 => ∃ (a29a : Option Addr) (l29a c29a : Nat),∃ n29b : Int,r29 = .tuple #[.slice a29a l29a c29a,.int .i64 n29b] ∧ Share (fun k => (bif n29b != 0 then k [.bool true] w3 else ∃ n36 : Int,Ru (Instr.loadAt 3 (.pointer (some (Addr.add q6 0)))) w3 (.int .i64 n36) w3 ∧ k [.bool (n36 != n1)] w3)) fun x w4 =>
 ∃ b39 : Bool,nth x 0 = .bool b39 ∧ (bif b39 then
 K (.tuple #[.int .i64 0,.int .i64 1]) w4
 else
 ∃ q41 : Addr,(.pointer p0 : Value) = .pointer (some q41) ∧ ∃ p43 : Option Addr,Ru (Instr.loadAt 71 (.pointer (some (Addr.add q41 4)))) (drew w4) (.pointer p43) (drew w4) ∧ ∃ (a46 : Option Addr) (l46 c46 : Nat),Al (Instr.sliceAt 24 (.slice a29a l29a c29a) none (some (.int .i64 64)) none) (.slice a46 l46 c46) ∧ Cal Tryz.prog F_patch_Store_Patch #[.pointer p43,.int .i64 n16a,.int .i64 0,.slice a46 l46 c46,.slice a3 l3 c3] (drew w4) fun r48 w5 => ∃ n48a : Int,∃ n48b : Int,r48 = .tuple #[.int .i64 n48a,.int .i64 n48b] ∧ K (.tuple #[.int .i64 n48a,.int .i64 n48b]) w5))
set_option maxRecDepth 100000 in
theorem C_vol_Vol_SetHead (p0 : Option Addr) (n1 : Int) (g2 : Array Value) (a3 : Option Addr) (l3 c3 : Nat) (w0 : World) (K : Value → World → Prop) (h : D_vol_Vol_SetHead p0 n1 g2 a3 l3 c3 w0 K) : Cal Tryz.prog F_vol_Vol_SetHead #[.pointer p0,.int .i64 n1,.agg g2,.slice a3 l3 c3] w0 K :=
 denF_sound (A := { S := [39],ty := [(39,4)],raw := [] }) mixed Tryz.func23 (by kernel_rfl) (by kernel_rfl) ((show denF Tryz.prog _ Tryz.f23 _ w0 K = D_vol_Vol_SetHead p0 n1 g2 a3 l3 c3 w0 K by kernel_rfl).mpr h)
set_option maxRecDepth 100000 in
def D_vol_Vol_Data (p0 : Option Addr) (n1 : Int) (w0 : World) (K : Value → World → Prop) : Prop :=
 Cal Tryz.prog F_vol_Vol_data #[.pointer p0,.int .i64 n1] w0 fun r9 w1 => ∃ n9 : Int,r9 = .int .i64 n9 ∧ (bif n9 != 0 then
 K (.tuple #[.slice none 0 0,.int .i64 n9]) w1
 else
 ∃ q14 : Addr,(.pointer p0 : Value) = .pointer (some q14) ∧ ∃ p16 : Option Addr,Ru (Instr.loadAt 71 (.pointer (some (Addr.add q14 4)))) w1 (.pointer p16) w1 ∧ Cal Tryz.prog F_patch_Store_Read #[.pointer p16,.int .i64 n1] w1 fun r18 w2 => ∃ (a18a : Option Addr) (l18a c18a : Nat),∃ n18b : Int,r18 = .tuple #[.slice a18a l18a c18a,.int .i64 n18b] ∧ K (.tuple #[.slice a18a l18a c18a,.int .i64 n18b]) w2)
set_option maxRecDepth 100000 in
theorem C_vol_Vol_Data (p0 : Option Addr) (n1 : Int) (w0 : World) (K : Value → World → Prop) (h : D_vol_Vol_Data p0 n1 w0 K) : Cal Tryz.prog F_vol_Vol_Data #[.pointer p0,.int .i64 n1] w0 K :=
 denF_sound (A := { S := [],ty := [],raw := [] }) mixed Tryz.func24 (by kernel_rfl) (by kernel_rfl) ((show denF Tryz.prog _ Tryz.f24 _ w0 K = D_vol_Vol_Data p0 n1 w0 K by kernel_rfl).mpr h)
set_option maxRecDepth 100000 in
def D_vol_Vol_SetData (p0 : Option Addr) (n1 : Int) (n2 : Int) (a3 : Option Addr) (l3 c3 : Nat) (a4 : Option Addr) (l4 c4 : Nat) (w0 : World) (K : Value → World → Prop) : Prop :=
 Cal Tryz.prog F_vol_Vol_data #[.pointer p0,.int .i64 n1] w0 fun r15 w1 => ∃ n15 : Int,r15 = .int .i64 n15 ∧ (bif n15 != 0 then
 K (.tuple #[.int .i64 0,.int .i64 n15]) w1
 else
 ∃ q20 : Addr,(.pointer p0 : Value) = .pointer (some q20) ∧ ∃ p22 : Option Addr,Ru (Instr.loadAt 71 (.pointer (some (Addr.add q20 4)))) w1 (.pointer p22) w1 ∧ Cal Tryz.prog F_patch_Store_Patch #[.pointer p22,.int .i64 n1,.int .i64 n2,.slice a3 l3 c3,.slice a4 l4 c4] w1 fun r27 w2 => ∃ n27a : Int,∃ n27b : Int,r27 = .tuple #[.int .i64 n27a,.int .i64 n27b] ∧ K (.tuple #[.int .i64 n27a,.int .i64 n27b]) w2)
set_option maxRecDepth 100000 in
theorem C_vol_Vol_SetData (p0 : Option Addr) (n1 : Int) (n2 : Int) (a3 : Option Addr) (l3 c3 : Nat) (a4 : Option Addr) (l4 c4 : Nat) (w0 : World) (K : Value → World → Prop) (h : D_vol_Vol_SetData p0 n1 n2 a3 l3 c3 a4 l4 c4 w0 K) : Cal Tryz.prog F_vol_Vol_SetData #[.pointer p0,.int .i64 n1,.int .i64 n2,.slice a3 l3 c3,.slice a4 l4 c4] w0 K :=
 denF_sound (A := { S := [],ty := [],raw := [] }) mixed Tryz.func25 (by kernel_rfl) (by kernel_rfl) ((show denF Tryz.prog _ Tryz.f25 _ w0 K = D_vol_Vol_SetData p0 n1 n2 a3 l3 c3 a4 l4 c4 w0 K by kernel_rfl).mpr h)
set_option maxRecDepth 100000 in
def D_vol_Vol_NewId (p0 : Option Addr) (w0 : World) (K : Value → World → Prop) : Prop :=
 (bif Option.isNone p0 then
 K (.tuple #[.int .i64 0,.int .i64 2]) w0
 else
 ∃ q9 : Addr,(.pointer p0 : Value) = .pointer (some q9) ∧ ∃ n11 : Int,Ru (Instr.loadAt 2 (.pointer (some (Addr.add q9 6)))) w0 (.int .i64 n11) w0 ∧ (bif decide (n11 > 4611686018427387904) then
 K (.tuple #[.int .i64 0,.int .i64 5]) w0
 else
 ∃ q14 : Addr,(.pointer p0 : Value) = .pointer (some q14) ∧ ∃ n16 : Int,Ru (Instr.loadAt 2 (.pointer (some (Addr.add q14 6)))) w0 (.int .i64 n16) w0 ∧ ∃ q18 : Addr,(.pointer p0 : Value) = .pointer (some q18) ∧ ∃ w1 : World,RuU (Instr.storeAt 2 (.pointer (some (Addr.add q18 6))) (.int .i64 (IntKind.i64.wrap (n16 + 1)))) w0 w1 ∧ ∃ q21 : Addr,(.pointer p0 : Value) = .pointer (some q21) ∧ ∃ n23 : Int,Ru (Instr.loadAt 2 (.pointer (some (Addr.add q21 6)))) w1 (.int .i64 n23) w1 ∧ K (.tuple #[.int .i64 (IntKind.i64.wrap (n23 - 1)),.int .i64 0]) w1))
set_option maxRecDepth 100000 in
theorem C_vol_Vol_NewId (p0 : Option Addr) (w0 : World) (K : Value → World → Prop) (h : D_vol_Vol_NewId p0 w0 K) : Cal Tryz.prog F_vol_Vol_NewId #[.pointer p0] w0 K :=
 denF_sound (A := { S := [],ty := [],raw := [] }) mixed Tryz.func26 (by kernel_rfl) (by kernel_rfl) ((show denF Tryz.prog _ Tryz.f26 _ w0 K = D_vol_Vol_NewId p0 w0 K by kernel_rfl).mpr h)
set_option maxRecDepth 100000 in
def D_vol_Vol_Store (p0 : Option Addr) (w0 : World) (K : Value → World → Prop) : Prop :=
 (bif Option.isNone p0 then
 K (.pointer none) w0
 else
 ∃ q6 : Addr,(.pointer p0 : Value) = .pointer (some q6) ∧ ∃ p8 : Option Addr,Ru (Instr.loadAt 71 (.pointer (some (Addr.add q6 4)))) w0 (.pointer p8) w0 ∧ K (.pointer p8) w0)
set_option maxRecDepth 100000 in
theorem C_vol_Vol_Store (p0 : Option Addr) (w0 : World) (K : Value → World → Prop) (h : D_vol_Vol_Store p0 w0 K) : Cal Tryz.prog F_vol_Vol_Store #[.pointer p0] w0 K :=
 denF_sound (A := { S := [],ty := [],raw := [] }) mixed Tryz.func27 (by kernel_rfl) (by kernel_rfl) ((show denF Tryz.prog _ Tryz.f27 _ w0 K = D_vol_Vol_Store p0 w0 K by kernel_rfl).mpr h)
set_option maxRecDepth 100000 in
def D_vol_Vol_Work (p0 : Option Addr) (w0 : World) (K : Value → World → Prop) : Prop :=
 (bif Option.isNone p0 then
 K (.pointer none) w0
 else
 ∃ q6 : Addr,(.pointer p0 : Value) = .pointer (some q6) ∧ ∃ p8 : Option Addr,Ru (Instr.loadAt 73 (.pointer (some (Addr.add q6 5)))) w0 (.pointer p8) w0 ∧ K (.pointer p8) w0)
set_option maxRecDepth 100000 in
theorem C_vol_Vol_Work (p0 : Option Addr) (w0 : World) (K : Value → World → Prop) (h : D_vol_Vol_Work p0 w0 K) : Cal Tryz.prog F_vol_Vol_Work #[.pointer p0] w0 K :=
 denF_sound (A := { S := [],ty := [],raw := [] }) mixed Tryz.func28 (by kernel_rfl) (by kernel_rfl) ((show denF Tryz.prog _ Tryz.f28 _ w0 K = D_vol_Vol_Work p0 w0 K by kernel_rfl).mpr h)
set_option maxRecDepth 100000 in
def D_vol_Vol_Prepare (p0 : Option Addr) (g1 : Array Value) (w0 : World) (K : Value → World → Prop) : Prop :=
 ∃ q2 : Addr,∃ w1 : World,Ru (Instr.box 40 (.pointer p0)) w0 (.pointer (some q2)) w1 ∧ ∃ q3 : Addr,∃ w2 : World,Ru (Instr.box 23 (.agg g1)) w1 (.pointer (some q3)) w2 ∧ ∃ p7 : Option Addr,Ru (Instr.loadAt 40 (.pointer (some q2))) (drew w2) (.pointer p7) (drew w2) ∧ ∃ g8 : Array Value,Ru (Instr.loadAt 23 (.pointer (some q3))) (drew w2) (.agg g8) (drew w2) ∧ ∃ p9 : Option Addr,Ru (Instr.loadAt 40 (.pointer (some q2))) (drew w2) (.pointer p9) (drew w2) ∧ Cal Tryz.prog F_vol_Vol_Geo #[.pointer p9] (drew w2) fun r10 w3 => ∃ g10 : Array Value,r10 = .agg g10 ∧ Ru (Instr.loadAt 40 (.pointer (some q2))) w3 (.pointer p7) w3 ∧ Ru (Instr.loadAt 23 (.pointer (some q3))) w3 (.agg g8) w3 ∧ ∃ n11 : Int,Al (Instr.field 23 (.agg g10) 2) (.int .i64 n11) ∧ Cal Tryz.prog F_vol_Vol_may #[.pointer p7,.agg g8,.int .i64 n11] w3 fun r12 w4 => ∃ n12 : Int,r12 = .int .i64 n12 ∧ (bif n12 != 0 then
 K (.int .i64 n12) w4
 else
 ∃ g16 : Array Value,Ru (Instr.loadAt 23 (.pointer (some q3))) (drew w4) (.agg g16) (drew w4) ∧ ∃ p17 : Option Addr,Ru (Instr.loadAt 40 (.pointer (some q2))) (drew w4) (.pointer p17) (drew w4) ∧ ∃ q18 : Addr,(.pointer p17 : Value) = .pointer (some q18) ∧ ∃ n22 : Int,Ru (Instr.loadAt 3 (.pointer (some (Addr.add (Addr.add (Addr.add q18 0) 1) 2)))) (drew w4) (.int .i64 n22) (drew w4) ∧ Cal Tryz.prog F_vol_each #[.agg g16,.int .i64 n22,.func (.func F_vol_Vol_Prepare_1) #[] #[.pointer (some q2)]] (drew w4) fun r24 w5 => ∃ n24 : Int,r24 = .int .i64 n24 ∧ Share (fun k => (bif n24 == 0 then
 ∃ p28 : Option Addr,Ru (Instr.loadAt 40 (.pointer (some q2))) w5 (.pointer p28) w5 ∧ ∃ q29 : Addr,(.pointer p28 : Value) = .pointer (some q29) ∧ ∃ p31 : Option Addr,Ru (Instr.loadAt 71 (.pointer (some (Addr.add q29 4)))) w5 (.pointer p31) w5 ∧ Cal Tryz.prog F_push_All #[.pointer p31] w5 fun r32 w6 => ∃ n32a : Int,∃ n32b : Int,r32 = .tuple #[.int .i64 n32a,.int .i64 n32b] ∧ k [.int .i64 n32b] w6
 else
 k [.int .i64 n24] w5)) fun x w7 =>
 ∃ n6 : Int,nth x 0 = .int .i64 n6 ∧ K (.int .i64 n6) w7)
set_option maxRecDepth 100000 in
theorem C_vol_Vol_Prepare (p0 : Option Addr) (g1 : Array Value) (w0 : World) (K : Value → World → Prop) (h : D_vol_Vol_Prepare p0 g1 w0 K) : Cal Tryz.prog F_vol_Vol_Prepare #[.pointer p0,.agg g1] w0 K :=
 denF_sound (A := { S := [6],ty := [(6,28)],raw := [] }) mixed Tryz.func29 (by kernel_rfl) (by kernel_rfl) ((show denF Tryz.prog _ Tryz.f29 _ w0 K = D_vol_Vol_Prepare p0 g1 w0 K by kernel_rfl).mpr h)
set_option maxRecDepth 100000 in
def D_vol_Vol_Switch (p0 : Option Addr) (g1 : Array Value) (w0 : World) (K : Value → World → Prop) : Prop :=
 ∃ q3 : Addr,∃ w1 : World,Ru (Instr.box 23 (.agg g1)) w0 (.pointer (some q3)) w1 ∧ ∃ g13 : Array Value,Ru (Instr.loadAt 23 (.pointer (some q3))) w1 (.agg g13) w1 ∧ Cal Tryz.prog F_vol_Vol_may #[.pointer p0,.agg g13,.int .i64 1] w1 fun r14 w2 => ∃ n14 : Int,r14 = .int .i64 n14 ∧ (bif n14 != 0 then
 K (.int .i64 n14) w2
 else
 ∃ q20 : Addr,(.pointer p0 : Value) = .pointer (some q20) ∧ ∃ g22 : Array Value,Ru (Instr.loadAt 94 (.pointer (some (Addr.add q20 0)))) (drew w2) (.agg g22) (drew w2) ∧ ∃ g23 : Array Value,Ru (Instr.loadAt 23 (.pointer (some q3))) (drew w2) (.agg g23) (drew w2) ∧ (Cal Tryz.prog F_super_Next #[.agg g22,.agg g23] (drew w2) fun r24 w3 => ∃ g24a : Array Value,∃ n24b : Int,∃ n24c : Int,r24 = .tuple #[.agg g24a,.int .i64 n24b,.int .i64 n24c] ∧ ∃ q6 : Addr,∃ w4 : World,Ru (Instr.alloc 94 true (.tuple #[])) w3 (.pointer (some q6)) w4 ∧ Ru (Instr.loadAt 94 (.pointer (some (Addr.add q20 0)))) w4 (.agg g22) w4 ∧ Ru (Instr.loadAt 23 (.pointer (some q3))) w4 (.agg g23) w4 ∧ ∃ w5 : World,RuU (Instr.storeAt 94 (.pointer (some q6)) (.agg g24a)) w4 w5 ∧ (bif n24c != 0 then
 K (.int .i64 n24c) w5
 else
 ∃ g32 : Array Value,Ru (Instr.loadAt 94 (.pointer (some q6))) w5 (.agg g32) w5 ∧ Cal Tryz.prog F_super_Put #[.agg g32] w5 fun r33 w6 => ∃ (a33a : Option Addr) (l33a c33a : Nat),∃ n33b : Int,r33 = .tuple #[.slice a33a l33a c33a,.int .i64 n33b] ∧ ∃ q38 : Addr,(.pointer p0 : Value) = .pointer (some q38) ∧ ∃ p40 : Option Addr,Ru (Instr.loadAt 71 (.pointer (some (Addr.add q38 4)))) w6 (.pointer p40) w6 ∧ Cal Tryz.prog F_patch_Store_Patch #[.pointer p40,.int .i64 n24b,.int .i64 0,.slice a33a l33a c33a,.slice none 0 0] w6 fun r43 w7 => ∃ n43a : Int,∃ n43b : Int,r43 = .tuple #[.int .i64 n43a,.int .i64 n43b] ∧ Share (fun k => (bif n43b == 0 then
 ∃ q50 : Addr,(.pointer p0 : Value) = .pointer (some q50) ∧ ∃ p52 : Option Addr,Ru (Instr.loadAt 71 (.pointer (some (Addr.add q50 4)))) w7 (.pointer p52) w7 ∧ Cal Tryz.prog F_push_One #[.pointer p52,.int .i64 n43a] w7 fun r54 w8 => ∃ n54a : Int,∃ n54b : Int,r54 = .tuple #[.int .i64 n54a,.int .i64 n54b] ∧ k [.int .i64 n54b] w8
 else
 k [.int .i64 n43b] w7)) fun x w9 =>
 ∃ n8 : Int,nth x 0 = .int .i64 n8 ∧ Share (fun k_2 => (bif n8 == 0 then
 ∃ g60 : Array Value,Ru (Instr.loadAt 94 (.pointer (some q6))) w9 (.agg g60) w9 ∧ ∃ q61 : Addr,(.pointer p0 : Value) = .pointer (some q61) ∧ ∃ w10 : World,RuU (Instr.storeAt 94 (.pointer (some (Addr.add q61 0))) (.agg g60)) w9 w10 ∧ k_2 [] w10
 else
 k_2 [] w9)) fun x_2 w11 =>
 K (.int .i64 n8) w11)) ∧ (∃ q6_2 : Addr,∃ w12 : World,Ru (Instr.alloc 94 true (.tuple #[])) (drew w2) (.pointer (some q6_2)) w12 ∧ Ru (Instr.loadAt 94 (.pointer (some (Addr.add q20 0)))) w12 (.agg g22) w12 ∧ Ru (Instr.loadAt 23 (.pointer (some q3))) w12 (.agg g23) w12 ∧ Cal Tryz.prog F_super_Next #[.agg g22,.agg g23] w12 fun r24_2 w13 => ∃ g24a_2 : Array Value,∃ n24b_2 : Int,∃ n24c_2 : Int,r24_2 = .tuple #[.agg g24a_2,.int .i64 n24b_2,.int .i64 n24c_2] ∧ ∃ w14 : World,RuU (Instr.storeAt 94 (.pointer (some q6_2)) (.agg g24a_2)) w13 w14 ∧ (bif n24c_2 != 0 then
 K (.int .i64 n24c_2) w14
 else
 ∃ g32_2 : Array Value,Ru (Instr.loadAt 94 (.pointer (some q6_2))) w14 (.agg g32_2) w14 ∧ Cal Tryz.prog F_super_Put #[.agg g32_2] w14 fun r33_2 w15 => ∃ (a33a_2 : Option Addr) (l33a_2 c33a_2 : Nat),∃ n33b_2 : Int,r33_2 = .tuple #[.slice a33a_2 l33a_2 c33a_2,.int .i64 n33b_2] ∧ ∃ q38_2 : Addr,(.pointer p0 : Value) = .pointer (some q38_2) ∧ ∃ p40_2 : Option Addr,Ru (Instr.loadAt 71 (.pointer (some (Addr.add q38_2 4)))) w15 (.pointer p40_2) w15 ∧ Cal Tryz.prog F_patch_Store_Patch #[.pointer p40_2,.int .i64 n24b_2,.int .i64 0,.slice a33a_2 l33a_2 c33a_2,.slice none 0 0] w15 fun r43_2 w16 => ∃ n43a_2 : Int,∃ n43b_2 : Int,r43_2 = .tuple #[.int .i64 n43a_2,.int .i64 n43b_2] ∧ Share (fun k_3 => (bif n43b_2 == 0 then
 ∃ q50_2 : Addr,(.pointer p0 : Value) = .pointer (some q50_2) ∧ ∃ p52_2 : Option Addr,Ru (Instr.loadAt 71 (.pointer (some (Addr.add q50_2 4)))) w16 (.pointer p52_2) w16 ∧ Cal Tryz.prog F_push_One #[.pointer p52_2,.int .i64 n43a_2] w16 fun r54_2 w17 => ∃ n54a_2 : Int,∃ n54b_2 : Int,r54_2 = .tuple #[.int .i64 n54a_2,.int .i64 n54b_2] ∧ k_3 [.int .i64 n54b_2] w17
 else
 k_3 [.int .i64 n43b_2] w16)) fun x_3 w18 =>
 ∃ n8_2 : Int,nth x_3 0 = .int .i64 n8_2 ∧ Share (fun k_4 => (bif n8_2 == 0 then
 ∃ g60_2 : Array Value,Ru (Instr.loadAt 94 (.pointer (some q6_2))) w18 (.agg g60_2) w18 ∧ ∃ q61_2 : Addr,(.pointer p0 : Value) = .pointer (some q61_2) ∧ ∃ w19 : World,RuU (Instr.storeAt 94 (.pointer (some (Addr.add q61_2 0))) (.agg g60_2)) w18 w19 ∧ k_4 [] w19
 else
 k_4 [] w18)) fun x_4 w20 =>
 K (.int .i64 n8_2) w20)))
set_option maxRecDepth 100000 in
theorem C_vol_Vol_Switch (p0 : Option Addr) (g1 : Array Value) (w0 : World) (K : Value → World → Prop) (h : D_vol_Vol_Switch p0 g1 w0 K) : Cal Tryz.prog F_vol_Vol_Switch #[.pointer p0,.agg g1] w0 K :=
 denF_sound (A := { S := [8],ty := [(8,28)],raw := [] }) mixed Tryz.func30 (by kernel_rfl) (by kernel_rfl) ((show denF Tryz.prog _ Tryz.f30 _ w0 K = D_vol_Vol_Switch p0 g1 w0 K by kernel_rfl).mpr h)
set_option maxRecDepth 100000 in
def D_geo_Right (g0 : Array Value) (w0 : World) (K : Value → World → Prop) : Prop :=
 ∃ q1 : Addr,∃ w1 : World,Ru (Instr.box 23 (.agg g0)) w0 (.pointer (some q1)) w1 ∧ ∃ g4 : Array Value,Ru (Instr.loadAt 23 (.pointer (some q1))) w1 (.agg g4) w1 ∧ Cal Tryz.prog F_geo_whole #[.agg g4] w1 fun r5 w2 => ∃ g5 : Array Value,r5 = .agg g5 ∧ ∃ q3 : Addr,∃ w3 : World,Ru (Instr.alloc 23 true (.tuple #[])) w2 (.pointer (some q3)) w3 ∧ ∃ w4 : World,RuU (Instr.storeAt 23 (.pointer (some q3)) (.agg g5)) w3 w4 ∧ Share (fun k => ∃ g6 : Array Value,Ru (Instr.loadAt 23 (.pointer (some q3))) w4 (.agg g6) w4 ∧ ∃ g7 : Array Value,Ru (Instr.loadAt 23 (.pointer (some q1))) w4 (.agg g7) w4 ∧ ∃ b8 : Bool,Al (eqS .eql 23 (.tmp 6) (.tmp 7) (.agg g6) (.agg g7)) (.bool b8) ∧ (bif b8 then ∃ n11 : Int,Ru (Instr.loadAt 3 (.pointer (some (Addr.add q3 2)))) w4 (.int .i64 n11) w4 ∧ k [.bool (decide (n11 > 0))] w4 else k [.bool false] w4)) fun x w5 =>
 ∃ b2 : Bool,nth x 0 = .bool b2 ∧ K (.bool b2) w5
set_option maxRecDepth 100000 in
theorem C_geo_Right (g0 : Array Value) (w0 : World) (K : Value → World → Prop) (h : D_geo_Right g0 w0 K) : Cal Tryz.prog F_geo_Right #[.agg g0] w0 K :=
 denF_sound (A := { S := [2],ty := [(2,4)],raw := [] }) mixed Tryz.func33 (by kernel_rfl) (by kernel_rfl) ((show denF Tryz.prog _ Tryz.f33 _ w0 K = D_geo_Right g0 w0 K by kernel_rfl).mpr h)
set_option maxRecDepth 100000 in
def D_disk_Disk_Len (p0 : Option Addr) (w0 : World) (K : Value → World → Prop) : Prop :=
 (bif Option.isNone p0 then
 K (.int .i64 0) w0
 else
 ∃ q6 : Addr,(.pointer p0 : Value) = .pointer (some q6) ∧ ∃ (a8 : Option Addr) (l8 c8 : Nat),Ru (Instr.loadAt 78 (.pointer (some (Addr.add q6 0)))) w0 (.slice a8 l8 c8) w0 ∧ K (.int .i64 ((l8 : Int))) w0)
set_option maxRecDepth 100000 in
theorem C_disk_Disk_Len (p0 : Option Addr) (w0 : World) (K : Value → World → Prop) (h : D_disk_Disk_Len p0 w0 K) : Cal Tryz.prog F_disk_Disk_Len #[.pointer p0] w0 K :=
 denF_sound (A := { S := [],ty := [],raw := [] }) mixed Tryz.func34 (by kernel_rfl) (by kernel_rfl) ((show denF Tryz.prog _ Tryz.f34 _ w0 K = D_disk_Disk_Len p0 w0 K by kernel_rfl).mpr h)
set_option maxRecDepth 100000 in
def D_geo_Size (g0 : Array Value) (w0 : World) (K : Value → World → Prop) : Prop :=
 ∃ q1 : Addr,∃ w1 : World,Ru (Instr.box 23 (.agg g0)) w0 (.pointer (some q1)) w1 ∧ ∃ g3 : Array Value,Ru (Instr.loadAt 23 (.pointer (some q1))) w1 (.agg g3) w1 ∧ Cal Tryz.prog F_geo_Right #[.agg g3] w1 fun r4 w2 => ∃ b4 : Bool,r4 = .bool b4 ∧ (bif !b4 then
 K (.int .i64 0) w2
 else
 ∃ n7 : Int,Ru (Instr.loadAt 3 (.pointer (some (Addr.add q1 2)))) w2 (.int .i64 n7) w2 ∧ ∃ n9 : Int,Ru (Instr.loadAt 3 (.pointer (some (Addr.add q1 0)))) w2 (.int .i64 n9) w2 ∧ K (.int .i64 (IntKind.i64.wrap (2 + (IntKind.i64.wrap (n7 * n9))))) w2)
set_option maxRecDepth 100000 in
theorem C_geo_Size (g0 : Array Value) (w0 : World) (K : Value → World → Prop) (h : D_geo_Size g0 w0 K) : Cal Tryz.prog F_geo_Size #[.agg g0] w0 K :=
 denF_sound (A := { S := [],ty := [],raw := [] }) mixed Tryz.func35 (by kernel_rfl) (by kernel_rfl) ((show denF Tryz.prog _ Tryz.f35 _ w0 K = D_geo_Size g0 w0 K by kernel_rfl).mpr h)
set_option maxRecDepth 100000 in
def D_disk_Disk_Flush (p0 : Option Addr) (w0 : World) (K : Value → World → Prop) : Prop :=
 (bif Option.isNone p0 then
 K (.int .i64 2) w0
 else
 Cal Tryz.prog F_disk_Disk_goes #[.pointer p0] w0 fun r10 w1 => ∃ b10 : Bool,r10 = .bool b10 ∧ (bif !b10 then
 K (.int .i64 0) w1
 else
 Cal Tryz.prog F_disk_Disk_Open #[.pointer p0] w1 fun r13 w2 => ∃ (a13 : Option Addr) (l13 c13 : Nat),r13 = .slice a13 l13 c13 ∧ LoopC (fun k x w3 =>
 ∃ n15 : Int,nth x 0 = .int .i64 n15 ∧ (bif decide (n15 < (l13 : Int)) then
 ∃ q17 : Addr,Al (Instr.indexAt 103 (.slice a13 l13 c13) (.int .i64 n15)) (.pointer (some q17)) ∧ ∃ n18 : Int,Ru (Instr.loadAt 3 (.pointer (some q17))) w3 (.int .i64 n18) w3 ∧ ∃ q20 : Addr,(.pointer p0 : Value) = .pointer (some q20) ∧ ∃ (a22 : Option Addr) (l22 c22 : Nat),Ru (Instr.loadAt 78 (.pointer (some (Addr.add q20 0)))) (drew w3) (.slice a22 l22 c22) (drew w3) ∧ Cal Tryz.prog F_disk_Disk_last #[.pointer p0,.int .i64 n18] (drew w3) fun r26 w4 => ∃ g26 : Array Value,r26 = .agg g26 ∧ Ru (Instr.loadAt 78 (.pointer (some (Addr.add q20 0)))) w4 (.slice a22 l22 c22) w4 ∧ ∃ q27 : Addr,Al (Instr.indexAt 78 (.slice a22 l22 c22) (.int .i64 n18)) (.pointer (some q27)) ∧ ∃ w5 : World,RuU (Instr.storeAt 107 (.pointer (some q27)) (.agg g26)) w4 w5 ∧ k [.int .i64 (IntKind.i64.wrap (n15 + 1))] w5
 else
 ∃ q30 : Addr,(.pointer p0 : Value) = .pointer (some q30) ∧ ∃ m32 : Option Nat,Ru (Instr.loadAt 79 (.pointer (some (Addr.add q30 1)))) w3 (.map m32) w3 ∧ ∃ w6 : World,Ru (Builtin.clear_ #[79] 0 #[.map m32]) w3 (.tuple #[]) w6 ∧ K (.int .i64 0) w6)) [.int .i64 0] w2))
set_option maxRecDepth 100000 in
theorem C_disk_Disk_Flush (p0 : Option Addr) (w0 : World) (K : Value → World → Prop) (h : D_disk_Disk_Flush p0 w0 K) : Cal Tryz.prog F_disk_Disk_Flush #[.pointer p0] w0 K :=
 denF_sound (A := { S := [15],ty := [(15,3)],raw := [] }) mixed Tryz.func36 (by kernel_rfl) (by kernel_rfl) ((show denF Tryz.prog _ Tryz.f36 _ w0 K = D_disk_Disk_Flush p0 w0 K by kernel_rfl).mpr h)
set_option maxRecDepth 100000 in
def D_vol_each (g0 : Array Value) (n1 : Int) (v2 : Value) (w0 : World) (K : Value → World → Prop) : Prop :=
 ∃ q3 : Addr,∃ w1 : World,Ru (Instr.box 23 (.agg g0)) w0 (.pointer (some q3)) w1 ∧ LoopC (fun k x w2 =>
 ∃ n7 : Int,nth x 0 = .int .i64 n7 ∧ ∃ n19 : Int,Ru (Instr.loadAt 3 (.pointer (some (Addr.add q3 2)))) w2 (.int .i64 n19) w2 ∧ (bif decide (n7 < n19) then
 ∃ g24 : Array Value,Ru (Instr.loadAt 23 (.pointer (some q3))) w2 (.agg g24) w2 ∧ Cal Tryz.prog F_group_Fresh #[.agg g24,.int .i64 n7] w2 fun r26 w3 => ∃ g26a : Array Value,∃ n26b : Int,r26 = .tuple #[.agg g26a,.int .i64 n26b] ∧ ∃ q8 : Addr,∃ w4 : World,Ru (Instr.alloc 63 true (.tuple #[])) w3 (.pointer (some q8)) w4 ∧ ∃ w5 : World,RuU (Instr.storeAt 63 (.pointer (some q8)) (.agg g26a)) w4 w5 ∧ ∃ g30 : Array Value,Ru (Instr.loadAt 23 (.pointer (some q3))) w5 (.agg g30) w5 ∧ ∃ g31 : Array Value,Ru (Instr.loadAt 63 (.pointer (some q8))) w5 (.agg g31) w5 ∧ Cal Tryz.prog F_group_Put #[.agg g30,.agg g31] w5 fun r32 w6 => ∃ (a32a : Option Addr) (l32a c32a : Nat),∃ n32b : Int,r32 = .tuple #[.slice a32a l32a c32a,.int .i64 n32b] ∧ ∃ g36 : Array Value,Ru (Instr.loadAt 23 (.pointer (some q3))) w6 (.agg g36) w6 ∧ Cal Tryz.prog F_geo_Head #[.agg g36,.int .i64 n7] w6 fun r38 w7 => ∃ n38a : Int,∃ n38b : Int,r38 = .tuple #[.int .i64 n38a,.int .i64 n38b] ∧ ∃ g41 : Array Value,Ru (Instr.loadAt 23 (.pointer (some q3))) w7 (.agg g41) w7 ∧ Cal Tryz.prog F_geo_Tables #[.agg g41] w7 fun r42 w8 => ∃ n42 : Int,r42 = .int .i64 n42 ∧ LoopC (fun k_2 x_2 w9 =>
 ∃ n44 : Int,nth x_2 1 = .int .i64 n44 ∧ (bif decide (n44 < (IntKind.i64.wrap (1 + n42))) then
 Share (fun k_3 => (bif decide (n44 > 0) then
 ∃ (a49 : Option Addr) (l49 c49 : Nat),∃ w10 : World,Ru (Instr.makeSlice 24 (.int .i64 256) (.int .i64 256)) w9 (.slice a49 l49 c49) w10 ∧ k_3 [.slice a49 l49 c49] w10
 else
 k_3 [nth x_2 0] w9)) fun x_3 w11 =>
 Share (fun k_4 => (bif n7 == 0 then k_4 [.bool (n44 == 1)] w11 else k_4 [.bool false] w11)) fun x_4 w12 =>
 ∃ b55 : Bool,nth x_4 0 = .bool b55 ∧ Share (fun k_5 => (bif b55 then
 ∃ (a10 : Option Addr) (l10 c10 : Nat),nth x_3 0 = .slice a10 l10 c10 ∧ ∃ g58 : Array Value,Al (Instr.build 55 #[(0,.int .i64 2),(1,.int .i64 1),(3,.int .i64 1)]) (.agg g58) ∧ Cal Tryz.prog F_inode_Lay #[.slice a10 l10 c10,.int .i64 1,.agg g58] w12 fun r59 w13 => ∃ (a59a : Option Addr) (l59a c59a : Nat),∃ n59b : Int,r59 = .tuple #[.slice a59a l59a c59a,.int .i64 n59b] ∧ k_5 [.slice a59a l59a c59a] w13
 else
 k_5 [nth x_3 0] w12)) fun x_5 w14 =>
 ∃ (a10_2 : Option Addr) (l10_2 c10_2 : Nat),nth x_5 0 = .slice a10_2 l10_2 c10_2 ∧ Dyn Tryz.prog v2 #[.int .i64 (IntKind.i64.wrap (n38a + n44)),.slice a10_2 l10_2 c10_2] w14 fun r67 w15 => ∃ n67 : Int,r67 = .int .i64 n67 ∧ (bif n67 != 0 then
 K (.int .i64 n67) w15
 else
 k_2 [.slice a10_2 l10_2 c10_2,.int .i64 (IntKind.i64.wrap (n44 + 1)),.bool b55] w15)
 else
 k [.int .i64 (IntKind.i64.wrap (n7 + 1)),nth x_2 0,.int .i64 n44,nth x_2 2] w9)) [.slice a32a l32a c32a,.int .i64 0,nth x 3] w8
 else
 K (.int .i64 0) w2)) [.int .i64 n1,undef,undef,undef] w1
set_option maxRecDepth 100000 in
theorem C_vol_each (g0 : Array Value) (n1 : Int) (v2 : Value) (w0 : World) (K : Value → World → Prop) (h : D_vol_each g0 n1 v2 w0 K) : Cal Tryz.prog F_vol_each #[.agg g0,.int .i64 n1,v2] w0 K :=
 denF_sound (A := { S := [7,10,44,55],ty := [(7,3),(10,24),(44,3),(55,4)],raw := [] }) mixed Tryz.func37 (by kernel_rfl) (by kernel_rfl) ((show denF Tryz.prog _ Tryz.f37 _ w0 K = D_vol_each g0 n1 v2 w0 K by kernel_rfl).mpr h)
set_option maxRecDepth 100000 in
def D_super_Put (g0 : Array Value) (w0 : World) (K : Value → World → Prop) : Prop :=
 ∃ q1 : Addr,∃ w1 : World,Ru (Instr.box 94 (.agg g0)) w0 (.pointer (some q1)) w1 ∧ ∃ g5 : Array Value,Ru (Instr.loadAt 94 (.pointer (some q1))) w1 (.agg g5) w1 ∧ Cal Tryz.prog F_super_Super_right #[.agg g5] w1 fun r6 w2 => ∃ b6 : Bool,r6 = .bool b6 ∧ (bif !b6 then
 K (.tuple #[.slice none 0 0,.int .i64 1]) w2
 else
 ∃ q4 : Addr,∃ w3 : World,Ru (Instr.alloc 106 true (.tuple #[])) w2 (.pointer (some q4)) w3 ∧ ∃ (a8 : Option Addr) (l8 c8 : Nat),Al (Instr.sliceAt 106 (.pointer (some q4)) none none none) (.slice a8 l8 c8) ∧ ∃ n9 : Int,∃ w4 : World,Ru (Builtin.copy_ #[24,9] 3 #[.slice a8 l8 c8,.string (⟨#[76,86,69,69]⟩)]) w3 (.int .i64 n9) w4 ∧ ∃ (a10 : Option Addr) (l10 c10 : Nat),Al (Instr.sliceAt 106 (.pointer (some q4)) (some (.int .i64 4)) (some (.int .i64 12)) none) (.slice a10 l10 c10) ∧ ∃ n12 : Int,Ru (Instr.loadAt 2 (.pointer (some (Addr.add q1 0)))) (drew w4) (.int .i64 n12) (drew w4) ∧ Cal Tryz.prog F_num_Put #[.slice a10 l10 c10,.int .u64 (IntKind.u64.wrap n12)] (drew w4) fun r14 w5 => r14 = .tuple #[] ∧ ∃ (a15 : Option Addr) (l15 c15 : Nat),Al (Instr.sliceAt 106 (.pointer (some q4)) (some (.int .i64 12)) (some (.int .i64 14)) none) (.slice a15 l15 c15) ∧ ∃ n18 : Int,Ru (Instr.loadAt 3 (.pointer (some (Addr.add (Addr.add q1 1) 0)))) (drew w5) (.int .i64 n18) (drew w5) ∧ Cal Tryz.prog F_num_Put #[.slice a15 l15 c15,.int .u64 (IntKind.u64.wrap n18)] (drew w5) fun r20 w6 => r20 = .tuple #[] ∧ ∃ (a21 : Option Addr) (l21 c21 : Nat),Al (Instr.sliceAt 106 (.pointer (some q4)) (some (.int .i64 14)) (some (.int .i64 16)) none) (.slice a21 l21 c21) ∧ ∃ n24 : Int,Ru (Instr.loadAt 3 (.pointer (some (Addr.add (Addr.add q1 1) 1)))) (drew w6) (.int .i64 n24) (drew w6) ∧ Cal Tryz.prog F_num_Put #[.slice a21 l21 c21,.int .u64 (IntKind.u64.wrap n24)] (drew w6) fun r26 w7 => r26 = .tuple #[] ∧ ∃ (a27 : Option Addr) (l27 c27 : Nat),Al (Instr.sliceAt 106 (.pointer (some q4)) (some (.int .i64 16)) (some (.int .i64 18)) none) (.slice a27 l27 c27) ∧ ∃ n30 : Int,Ru (Instr.loadAt 3 (.pointer (some (Addr.add (Addr.add q1 1) 2)))) (drew w7) (.int .i64 n30) (drew w7) ∧ Cal Tryz.prog F_num_Put #[.slice a27 l27 c27,.int .u64 (IntKind.u64.wrap n30)] (drew w7) fun r32 w8 => r32 = .tuple #[] ∧ ∃ (a33 : Option Addr) (l33 c33 : Nat),Al (Instr.sliceAt 106 (.pointer (some q4)) (some (.int .i64 252)) none none) (.slice a33 l33 c33) ∧ ∃ (a34 : Option Addr) (l34 c34 : Nat),Al (Instr.sliceAt 106 (.pointer (some q4)) none (some (.int .i64 252)) none) (.slice a34 l34 c34) ∧ Cal Tryz.prog F_num_Sum #[.slice a34 l34 c34] (drew w8) fun r35 w9 => ∃ n35 : Int,r35 = .int .u32 n35 ∧ Cal Tryz.prog F_num_Put #[.slice a33 l33 c33,.int .u64 (IntKind.u64.wrap n35)] w9 fun r37 w10 => r37 = .tuple #[] ∧ ∃ (a38 : Option Addr) (l38 c38 : Nat),Al (Instr.sliceAt 106 (.pointer (some q4)) none none none) (.slice a38 l38 c38) ∧ K (.tuple #[.slice a38 l38 c38,.int .i64 0]) w10)
set_option maxRecDepth 100000 in
theorem C_super_Put (g0 : Array Value) (w0 : World) (K : Value → World → Prop) (h : D_super_Put g0 w0 K) : Cal Tryz.prog F_super_Put #[.agg g0] w0 K :=
 denF_sound (A := { S := [],ty := [],raw := [] }) mixed Tryz.func38 (by kernel_rfl) (by kernel_rfl) ((show denF Tryz.prog _ Tryz.f38 _ w0 K = D_super_Put g0 w0 K by kernel_rfl).mpr h)
set_option maxRecDepth 100000 in
def D_leveeref02_Disk_Flush (p0 : Option Addr) (w0 : World) (K : Value → World → Prop) : Prop :=
 Cal Tryz.prog F_leveeref02_Disk_goes #[.pointer p0] w0 fun r6 w1 => ∃ b6 : Bool,r6 = .bool b6 ∧ (bif !b6 then
 K (.int .i64 0) w1
 else
 LoopC (fun k x w2 =>
 ∃ n3 : Int,nth x 0 = .int .i64 n3 ∧ ∃ q10 : Addr,(.pointer p0 : Value) = .pointer (some q10) ∧ ∃ (a12 : Option Addr) (l12 c12 : Nat),Ru (Instr.loadAt 82 (.pointer (some (Addr.add q10 0)))) w2 (.slice a12 l12 c12) w2 ∧ (bif decide (n3 < (l12 : Int)) then
 ∃ q18 : Addr,(.pointer p0 : Value) = .pointer (some q18) ∧ ∃ (a20 : Option Addr) (l20 c20 : Nat),Ru (Instr.loadAt 82 (.pointer (some (Addr.add q18 0)))) w2 (.slice a20 l20 c20) w2 ∧ ∃ q22 : Addr,Al (Instr.indexAt 82 (.slice a20 l20 c20) (.int .i64 n3)) (.pointer (some q22)) ∧ ∃ (a24 : Option Addr) (l24 c24 : Nat),Ru (Instr.loadAt 86 (.pointer (some (Addr.add q22 0)))) w2 (.slice a24 l24 c24) w2 ∧ ∃ q26 : Addr,(.pointer p0 : Value) = .pointer (some q26) ∧ ∃ (a28 : Option Addr) (l28 c28 : Nat),Ru (Instr.loadAt 82 (.pointer (some (Addr.add q26 0)))) (drew w2) (.slice a28 l28 c28) (drew w2) ∧ ∃ q34 : Addr,Al (Instr.indexAt 86 (.slice a24 l24 c24) (.int .i64 (IntKind.i64.wrap ((l24 : Int) - 1)))) (.pointer (some q34)) ∧ ∃ s35 : ByteArray,Ru (Instr.loadAt 9 (.pointer (some q34))) (drew w2) (.string s35) (drew w2) ∧ ∃ (a36 : Option Addr) (l36 c36 : Nat),∃ w3 : World,Ru (Instr.buildSlice 86 1 #[(0,.string s35)]) (drew w2) (.slice a36 l36 c36) w3 ∧ Ru (Instr.loadAt 82 (.pointer (some (Addr.add q26 0)))) w3 (.slice a28 l28 c28) w3 ∧ ∃ q37 : Addr,Al (Instr.indexAt 82 (.slice a28 l28 c28) (.int .i64 n3)) (.pointer (some q37)) ∧ ∃ w4 : World,RuU (Instr.storeAt 86 (.pointer (some (Addr.add q37 0))) (.slice a36 l36 c36)) w3 w4 ∧ k [.int .i64 (IntKind.i64.wrap (n3 + 1))] w4
 else
 K (.int .i64 0) w2)) [.int .i64 0] w1)
set_option maxRecDepth 100000 in
theorem C_leveeref02_Disk_Flush (p0 : Option Addr) (w0 : World) (K : Value → World → Prop) (h : D_leveeref02_Disk_Flush p0 w0 K) : Cal Tryz.prog F_leveeref02_Disk_Flush #[.pointer p0] w0 K :=
 denF_sound (A := { S := [3],ty := [(3,3)],raw := [] }) mixed Tryz.func39 (by kernel_rfl) (by kernel_rfl) ((show denF Tryz.prog _ Tryz.f39 _ w0 K = D_leveeref02_Disk_Flush p0 w0 K by kernel_rfl).mpr h)
set_option maxRecDepth 100000 in
def D_disk_Disk_Open (p0 : Option Addr) (w0 : World) (K : Value → World → Prop) : Prop :=
 (bif Option.isNone p0 then
 K (.slice none 0 0) w0
 else
 ∃ q8 : Addr,(.pointer p0 : Value) = .pointer (some q8) ∧ ∃ m10 : Option Nat,Ru (Instr.loadAt 79 (.pointer (some (Addr.add q8 1)))) w0 (.map m10) w0 ∧ ∃ q11 : Addr,∃ w1 : World,Ru (Instr.range 79 (.map m10)) w0 (.pointer (some q11)) w1 ∧ LoopC (fun k x w2 =>
 ∃ v12 : Value,∃ w3 : World,Ru (Instr.next (.pointer (some q11)) false 0) w2 v12 w3 ∧ ∃ b13 : Bool,Al (Instr.extract v12 0) (.bool b13) ∧ (bif b13 then
 ∃ v14 : Value,Ru (Instr.entry (.pointer (some q11))) w3 v14 w3 ∧ ∃ n15 : Int,Al (Instr.extract v14 0) (.int .i64 n15) ∧ ∃ (a3 : Option Addr) (l3 c3 : Nat),nth x 0 = .slice a3 l3 c3 ∧ ∃ (a18 : Option Addr) (l18 c18 : Nat),∃ w4 : World,Ru (Instr.buildSlice 103 1 #[(0,.int .i64 n15)]) w3 (.slice a18 l18 c18) w4 ∧ ∃ (a19 : Option Addr) (l19 c19 : Nat),∃ w5 : World,Ru (Builtin.append_ #[103,103] 103 #[.slice a3 l3 c3,.slice a18 l18 c18]) w4 (.slice a19 l19 c19) w5 ∧ k [.slice a19 l19 c19] w5
 else
 ∃ (a3_2 : Option Addr) (l3_2 c3_2 : Nat),nth x 0 = .slice a3_2 l3_2 c3_2 ∧ Cal Tryz.prog F_slices_Sort_int #[.slice a3_2 l3_2 c3_2] w3 fun r21 w6 => r21 = .tuple #[] ∧ K (.slice a3_2 l3_2 c3_2) w6)) [.slice none 0 0] w1)
set_option maxRecDepth 100000 in
theorem C_disk_Disk_Open (p0 : Option Addr) (w0 : World) (K : Value → World → Prop) (h : D_disk_Disk_Open p0 w0 K) : Cal Tryz.prog F_disk_Disk_Open #[.pointer p0] w0 K :=
 denF_sound (A := { S := [3],ty := [(3,103)],raw := [12,14] }) mixed Tryz.func45 (by kernel_rfl) (by kernel_rfl) ((show denF Tryz.prog _ Tryz.f45 _ w0 K = D_disk_Disk_Open p0 w0 K by kernel_rfl).mpr h)
set_option maxRecDepth 100000 in
def D_disk_Disk_may (p0 : Option Addr) (n1 : Int) (w0 : World) (K : Value → World → Prop) : Prop :=
 (bif Option.isNone p0 then
 K (.int .i64 2) w0
 else
 Share (fun k => (bif decide (n1 < 0) then k [.bool true] w0 else ∃ q14 : Addr,(.pointer p0 : Value) = .pointer (some q14) ∧ ∃ (a16 : Option Addr) (l16 c16 : Nat),Ru (Instr.loadAt 78 (.pointer (some (Addr.add q14 0)))) w0 (.slice a16 l16 c16) w0 ∧ k [.bool (decide (n1 ≥ (l16 : Int)))] w0)) fun x w1 =>
 ∃ b8 : Bool,nth x 0 = .bool b8 ∧ (bif b8 then
 K (.int .i64 3) w1
 else
 K (.int .i64 0) w1))
set_option maxRecDepth 100000 in
theorem C_disk_Disk_may (p0 : Option Addr) (n1 : Int) (w0 : World) (K : Value → World → Prop) (h : D_disk_Disk_may p0 n1 w0 K) : Cal Tryz.prog F_disk_Disk_may #[.pointer p0,.int .i64 n1] w0 K :=
 denF_sound (A := { S := [8],ty := [(8,4)],raw := [] }) mixed Tryz.func49 (by kernel_rfl) (by kernel_rfl) ((show denF Tryz.prog _ Tryz.f49 _ w0 K = D_disk_Disk_may p0 n1 w0 K by kernel_rfl).mpr h)
set_option maxRecDepth 100000 in
def D_disk_Disk_goes (p0 : Option Addr) (w0 : World) (K : Value → World → Prop) : Prop :=
 ∃ q4 : Addr,(.pointer p0 : Value) = .pointer (some q4) ∧ ∃ n6 : Int,Ru (Instr.loadAt 3 (.pointer (some (Addr.add q4 2)))) w0 (.int .i64 n6) w0 ∧ (bif n6 == 0 then
 K (.bool false) w0
 else
 ∃ q10 : Addr,(.pointer p0 : Value) = .pointer (some q10) ∧ ∃ n12 : Int,Ru (Instr.loadAt 3 (.pointer (some (Addr.add q10 2)))) w0 (.int .i64 n12) w0 ∧ ∃ q15 : Addr,(.pointer p0 : Value) = .pointer (some q15) ∧ ∃ w1 : World,RuU (Instr.storeAt 3 (.pointer (some (Addr.add q15 2))) (.int .i64 (if (-1) > (IntKind.i64.wrap (n12 - 1)) then (-1) else (IntKind.i64.wrap (n12 - 1))))) w0 w1 ∧ K (.bool true) w1)
set_option maxRecDepth 100000 in
theorem C_disk_Disk_goes (p0 : Option Addr) (w0 : World) (K : Value → World → Prop) (h : D_disk_Disk_goes p0 w0 K) : Cal Tryz.prog F_disk_Disk_goes #[.pointer p0] w0 K :=
 denF_sound (A := { S := [],ty := [],raw := [] }) mixed Tryz.func50 (by kernel_rfl) (by kernel_rfl) ((show denF Tryz.prog _ Tryz.f50 _ w0 K = D_disk_Disk_goes p0 w0 K by kernel_rfl).mpr h)
set_option maxRecDepth 100000 in
def D_leveeref02_Disk_there (p0 : Option Addr) (n1 : Int) (w0 : World) (K : Value → World → Prop) : Prop :=
 Share (fun k => (bif decide (n1 ≥ 0) then ∃ q10 : Addr,(.pointer p0 : Value) = .pointer (some q10) ∧ ∃ (a12 : Option Addr) (l12 c12 : Nat),Ru (Instr.loadAt 82 (.pointer (some (Addr.add q10 0)))) w0 (.slice a12 l12 c12) w0 ∧ k [.bool (decide (n1 < (l12 : Int)))] w0 else k [.bool false] w0)) fun x w1 =>
 ∃ b4 : Bool,nth x 0 = .bool b4 ∧ K (.bool b4) w1
set_option maxRecDepth 100000 in
theorem C_leveeref02_Disk_there (p0 : Option Addr) (n1 : Int) (w0 : World) (K : Value → World → Prop) (h : D_leveeref02_Disk_there p0 n1 w0 K) : Cal Tryz.prog F_leveeref02_Disk_there #[.pointer p0,.int .i64 n1] w0 K :=
 denF_sound (A := { S := [4],ty := [(4,4)],raw := [] }) mixed Tryz.func51 (by kernel_rfl) (by kernel_rfl) ((show denF Tryz.prog _ Tryz.f51 _ w0 K = D_leveeref02_Disk_there p0 n1 w0 K by kernel_rfl).mpr h)
set_option maxRecDepth 100000 in
def D_leveeref02_Disk_goes (p0 : Option Addr) (w0 : World) (K : Value → World → Prop) : Prop :=
 Cal Tryz.prog F_leveeref02_Disk_Stopped #[.pointer p0] w0 fun r4 w1 => ∃ b4 : Bool,r4 = .bool b4 ∧ (bif b4 then
 K (.bool false) w1
 else
 ∃ q6 : Addr,(.pointer p0 : Value) = .pointer (some q6) ∧ ∃ b8 : Bool,Ru (Instr.loadAt 4 (.pointer (some (Addr.add q6 1)))) w1 (.bool b8) w1 ∧ Share (fun k => (bif b8 then
 ∃ q10 : Addr,(.pointer p0 : Value) = .pointer (some q10) ∧ ∃ n12 : Int,Ru (Instr.loadAt 3 (.pointer (some (Addr.add q10 2)))) w1 (.int .i64 n12) w1 ∧ ∃ q14 : Addr,(.pointer p0 : Value) = .pointer (some q14) ∧ ∃ w2 : World,RuU (Instr.storeAt 3 (.pointer (some (Addr.add q14 2))) (.int .i64 (IntKind.i64.wrap (n12 - 1)))) w1 w2 ∧ k [] w2
 else
 k [] w1)) fun x w3 =>
 K (.bool true) w3)
set_option maxRecDepth 100000 in
theorem C_leveeref02_Disk_goes (p0 : Option Addr) (w0 : World) (K : Value → World → Prop) (h : D_leveeref02_Disk_goes p0 w0 K) : Cal Tryz.prog F_leveeref02_Disk_goes #[.pointer p0] w0 K :=
 denF_sound (A := { S := [],ty := [],raw := [] }) mixed Tryz.func52 (by kernel_rfl) (by kernel_rfl) ((show denF Tryz.prog _ Tryz.f52 _ w0 K = D_leveeref02_Disk_goes p0 w0 K by kernel_rfl).mpr h)
set_option maxRecDepth 100000 in
def D_patch_Open (p0 : Option Addr) (n1 : Int) (w0 : World) (K : Value → World → Prop) : Prop :=
 Cal Tryz.prog F_cache_New #[.pointer p0,.int .i64 n1] w0 fun r11 w1 => ∃ p11a : Option Addr,∃ n11b : Int,r11 = .tuple #[.pointer p11a,.int .i64 n11b] ∧ (bif n11b != 0 then
 K (.tuple #[.pointer none,.int .i64 n11b]) w1
 else
 Cal Tryz.prog F_disk_Disk_Len #[.pointer p0] w1 fun r19 w2 => ∃ n19 : Int,r19 = .int .i64 n19 ∧ ∃ m20 : Option Nat,∃ w3 : World,Ru (Instr.makeMap 156 none) w2 (.map m20) w3 ∧ ∃ m21 : Option Nat,∃ w4 : World,Ru (Instr.makeMap 157 none) w3 (.map m21) w4 ∧ ∃ g22 : Array Value,Al (Instr.build 159 #[(0,.pointer p11a),(1,.int .i64 n19),(3,.map m20),(4,.map m21)]) (.agg g22) ∧ ∃ q23 : Addr,∃ w5 : World,Ru (Instr.box 159 (.agg g22)) w4 (.pointer (some q23)) w5 ∧ K (.tuple #[.pointer (some q23),.int .i64 0]) w5)
set_option maxRecDepth 100000 in
theorem C_patch_Open (p0 : Option Addr) (n1 : Int) (w0 : World) (K : Value → World → Prop) (h : D_patch_Open p0 n1 w0 K) : Cal Tryz.prog F_patch_Open #[.pointer p0,.int .i64 n1] w0 K :=
 denF_sound (A := { S := [],ty := [],raw := [] }) mixed Tryz.func53 (by kernel_rfl) (by kernel_rfl) ((show denF Tryz.prog _ Tryz.f53 _ w0 K = D_patch_Open p0 n1 w0 K by kernel_rfl).mpr h)
set_option maxRecDepth 100000 in
def D_disk_Disk_Read (p0 : Option Addr) (n1 : Int) (w0 : World) (K : Value → World → Prop) : Prop :=
 Cal Tryz.prog F_disk_Disk_may #[.pointer p0,.int .i64 n1] w0 fun r10 w1 => ∃ n10 : Int,r10 = .int .i64 n10 ∧ (bif n10 != 0 then
 K (.tuple #[.slice none 0 0,.int .i64 n10]) w1
 else
 Cal Tryz.prog F_disk_Disk_last #[.pointer p0,.int .i64 n1] w1 fun r16 w2 => ∃ g16 : Array Value,r16 = .agg g16 ∧ ∃ q7 : Addr,∃ w3 : World,Ru (Instr.alloc 107 true (.tuple #[])) w2 (.pointer (some q7)) w3 ∧ ∃ w4 : World,RuU (Instr.storeAt 107 (.pointer (some q7)) (.agg g16)) w3 w4 ∧ ∃ (a17 : Option Addr) (l17 c17 : Nat),Al (Instr.sliceAt 107 (.pointer (some q7)) none none none) (.slice a17 l17 c17) ∧ K (.tuple #[.slice a17 l17 c17,.int .i64 0]) w4)
set_option maxRecDepth 100000 in
theorem C_disk_Disk_Read (p0 : Option Addr) (n1 : Int) (w0 : World) (K : Value → World → Prop) (h : D_disk_Disk_Read p0 n1 w0 K) : Cal Tryz.prog F_disk_Disk_Read #[.pointer p0,.int .i64 n1] w0 K :=
 denF_sound (A := { S := [],ty := [],raw := [] }) mixed Tryz.func54 (by kernel_rfl) (by kernel_rfl) ((show denF Tryz.prog _ Tryz.f54 _ w0 K = D_disk_Disk_Read p0 n1 w0 K by kernel_rfl).mpr h)
set_option maxRecDepth 100000 in
def D_super_Choose (a0 : Option Addr) (l0 c0 : Nat) (a1 : Option Addr) (l1 c1 : Nat) (n2 : Int) (w0 : World) (K : Value → World → Prop) : Prop :=
 ∃ q6 : Addr,∃ w1 : World,Ru (Instr.alloc 94 true (.tuple #[])) w0 (.pointer (some q6)) w1 ∧ ∃ g15 : Array Value,Al (Instr.build 94 #[]) (.agg g15) ∧ ∃ q9 : Addr,∃ w2 : World,Ru (Instr.alloc 94 true (.tuple #[])) w1 (.pointer (some q9)) w2 ∧ ∃ w3 : World,RuU (Instr.storeAt 94 (.pointer (some q9)) (.agg g15)) w2 w3 ∧ ∃ g18 : Array Value,Al (Instr.build 160 #[(0,.slice a0 l0 c0),(1,.slice a1 l1 c1)]) (.agg g18) ∧ LoopC (fun k x w4 =>
 ∃ n19 : Int,nth x 0 = .int .i64 n19 ∧ (bif decide (n19 < 2) then
 ∃ (a22 : Option Addr) (l22 c22 : Nat),Al (Instr.index 160 (.agg g18) (.int .i64 n19)) (.slice a22 l22 c22) ∧ Cal Tryz.prog F_super_Get #[.slice a22 l22 c22] w4 fun r25 w5 => ∃ g25a : Array Value,∃ n25b : Int,r25 = .tuple #[.agg g25a,.int .i64 n25b] ∧ ∃ q12 : Addr,∃ w6 : World,Ru (Instr.alloc 94 true (.tuple #[])) w5 (.pointer (some q12)) w6 ∧ ∃ w7 : World,RuU (Instr.storeAt 94 (.pointer (some q12)) (.agg g25a)) w6 w7 ∧ Share (fun k_2 => (bif n25b == 0 then ∃ g31 : Array Value,Ru (Instr.loadAt 94 (.pointer (some q12))) w7 (.agg g31) w7 ∧ Cal Tryz.prog F_super_Super_place #[.agg g31] w7 fun r32 w8 => ∃ n32 : Int,r32 = .int .i64 n32 ∧ (bif n32 == n19 then ∃ g38 : Array Value,Ru (Instr.loadAt 23 (.pointer (some (Addr.add q12 1)))) w8 (.agg g38) w8 ∧ Cal Tryz.prog F_geo_Size #[.agg g38] w8 fun r39 w9 => ∃ n39 : Int,r39 = .int .i64 n39 ∧ (bif decide (n39 ≤ n2) then ∃ n45 : Int,Ru (Instr.loadAt 2 (.pointer (some (Addr.add q12 0)))) w9 (.int .i64 n45) w9 ∧ ∃ n47 : Int,Ru (Instr.loadAt 2 (.pointer (some (Addr.add q9 0)))) w9 (.int .i64 n47) w9 ∧ k_2 [.bool (decide (n45 > n47))] w9 else k_2 [.bool false] w9) else k_2 [.bool false] w8) else k_2 [.bool false] w7)) fun x_2 w10 =>
 ∃ b49 : Bool,nth x_2 0 = .bool b49 ∧ Share (fun k_3 => (bif b49 then
 ∃ g50 : Array Value,Ru (Instr.loadAt 94 (.pointer (some q12))) w10 (.agg g50) w10 ∧ ∃ w11 : World,RuU (Instr.storeAt 94 (.pointer (some q9)) (.agg g50)) w10 w11 ∧ k_3 [] w11
 else
 k_3 [] w10)) fun x_3 w12 =>
 k [.int .i64 (IntKind.i64.wrap (n19 + 1)),.bool b49] w12
 else
 ∃ g52 : Array Value,Al (Instr.build 94 #[]) (.agg g52) ∧ ∃ q14 : Addr,∃ w13 : World,Ru (Instr.alloc 94 true (.tuple #[])) w4 (.pointer (some q14)) w13 ∧ ∃ w14 : World,RuU (Instr.storeAt 94 (.pointer (some q14)) (.agg g52)) w13 w14 ∧ ∃ g53 : Array Value,Ru (Instr.loadAt 94 (.pointer (some q9))) w14 (.agg g53) w14 ∧ ∃ g54 : Array Value,Ru (Instr.loadAt 94 (.pointer (some q14))) w14 (.agg g54) w14 ∧ ∃ b55 : Bool,Al (eqS .eql 94 (.tmp 53) (.tmp 54) (.agg g53) (.agg g54)) (.bool b55) ∧ (bif b55 then
 ∃ g56 : Array Value,Ru (Instr.loadAt 94 (.pointer (some q9))) w14 (.agg g56) w14 ∧ ∃ w15 : World,RuU (Instr.storeAt 94 (.pointer (some q6)) (.agg g56)) w14 w15 ∧ ∃ gR6 : Array Value,Ru (Instr.loadAt 94 (.pointer (some q6))) w15 (.agg gR6) w15 ∧ K (.tuple #[.agg gR6,.int .i64 0,.int .i64 10]) w15
 else
 ∃ g57 : Array Value,Ru (Instr.loadAt 94 (.pointer (some q9))) (drew w14) (.agg g57) (drew w14) ∧ ∃ g58 : Array Value,Ru (Instr.loadAt 94 (.pointer (some q9))) (drew w14) (.agg g58) (drew w14) ∧ Cal Tryz.prog F_super_Super_place #[.agg g58] (drew w14) fun r59 w16 => ∃ n59 : Int,r59 = .int .i64 n59 ∧ Ru (Instr.loadAt 94 (.pointer (some q9))) w16 (.agg g57) w16 ∧ ∃ w17 : World,RuU (Instr.storeAt 94 (.pointer (some q6)) (.agg g57)) w16 w17 ∧ ∃ gR6_2 : Array Value,Ru (Instr.loadAt 94 (.pointer (some q6))) w17 (.agg gR6_2) w17 ∧ K (.tuple #[.agg gR6_2,.int .i64 n59,.int .i64 0]) w17))) [.int .i64 0,undef] w3
set_option maxRecDepth 100000 in
theorem C_super_Choose (a0 : Option Addr) (l0 c0 : Nat) (a1 : Option Addr) (l1 c1 : Nat) (n2 : Int) (w0 : World) (K : Value → World → Prop) (h : D_super_Choose a0 l0 c0 a1 l1 c1 n2 w0 K) : Cal Tryz.prog F_super_Choose #[.slice a0 l0 c0,.slice a1 l1 c1,.int .i64 n2] w0 K :=
 denF_sound (A := { S := [19,49],ty := [(19,3),(49,4)],raw := [] }) mixed Tryz.func55 (by kernel_rfl) (by kernel_rfl) ((show denF Tryz.prog _ Tryz.f55 _ w0 K = D_super_Choose a0 l0 c0 a1 l1 c1 n2 w0 K by kernel_rfl).mpr h)
set_option maxRecDepth 100000 in
def D_push_New (w0 : World) (K : Value → World → Prop) : Prop :=
 ∃ g1 : Array Value,Al (Instr.build 165 #[]) (.agg g1) ∧ ∃ q2 : Addr,∃ w1 : World,Ru (Instr.box 165 (.agg g1)) w0 (.pointer (some q2)) w1 ∧ K (.pointer (some q2)) w1
set_option maxRecDepth 100000 in
theorem C_push_New (w0 : World) (K : Value → World → Prop) (h : D_push_New  w0 K) : Cal Tryz.prog F_push_New #[] w0 K :=
 denF_sound (A := { S := [],ty := [],raw := [] }) mixed Tryz.func56 (by kernel_rfl) (by kernel_rfl) ((show denF Tryz.prog _ Tryz.f56 _ w0 K = D_push_New  w0 K by kernel_rfl).mpr h)
set_option maxRecDepth 100000 in
def D_geo_Slots (g0 : Array Value) (w0 : World) (K : Value → World → Prop) : Prop :=
 ∃ q1 : Addr,∃ w1 : World,Ru (Instr.box 23 (.agg g0)) w0 (.pointer (some q1)) w1 ∧ ∃ g4 : Array Value,Ru (Instr.loadAt 23 (.pointer (some q1))) w1 (.agg g4) w1 ∧ Cal Tryz.prog F_geo_whole #[.agg g4] w1 fun r5 w2 => ∃ g5 : Array Value,r5 = .agg g5 ∧ ∃ q3 : Addr,∃ w3 : World,Ru (Instr.alloc 23 true (.tuple #[])) w2 (.pointer (some q3)) w3 ∧ ∃ w4 : World,RuU (Instr.storeAt 23 (.pointer (some q3)) (.agg g5)) w3 w4 ∧ ∃ n7 : Int,Ru (Instr.loadAt 3 (.pointer (some (Addr.add q3 2)))) w4 (.int .i64 n7) w4 ∧ ∃ n9 : Int,Ru (Instr.loadAt 3 (.pointer (some (Addr.add q3 1)))) w4 (.int .i64 n9) w4 ∧ K (.int .i64 (IntKind.i64.wrap (n7 * n9))) w4
set_option maxRecDepth 100000 in
theorem C_geo_Slots (g0 : Array Value) (w0 : World) (K : Value → World → Prop) (h : D_geo_Slots g0 w0 K) : Cal Tryz.prog F_geo_Slots #[.agg g0] w0 K :=
 denF_sound (A := { S := [],ty := [],raw := [] }) mixed Tryz.func57 (by kernel_rfl) (by kernel_rfl) ((show denF Tryz.prog _ Tryz.f57 _ w0 K = D_geo_Slots g0 w0 K by kernel_rfl).mpr h)
set_option maxRecDepth 100000 in
def D_vol_Vol_place (p0 : Option Addr) (n1 : Int) (w0 : World) (K : Value → World → Prop) : Prop :=
 (bif Option.isNone p0 then
 K (.tuple #[.int .i64 0,.int .i64 0,.int .i64 2]) w0
 else
 ∃ q10 : Addr,(.pointer p0 : Value) = .pointer (some q10) ∧ ∃ g13 : Array Value,Ru (Instr.loadAt 23 (.pointer (some (Addr.add (Addr.add q10 0) 1)))) w0 (.agg g13) w0 ∧ Cal Tryz.prog F_geo_Place #[.agg g13,.int .i64 n1] w0 fun r15 w1 => ∃ n15a : Int,∃ n15b : Int,∃ n15c : Int,r15 = .tuple #[.int .i64 n15a,.int .i64 n15b,.int .i64 n15c] ∧ K (.tuple #[.int .i64 n15a,.int .i64 n15b,.int .i64 n15c]) w1)
set_option maxRecDepth 100000 in
theorem C_vol_Vol_place (p0 : Option Addr) (n1 : Int) (w0 : World) (K : Value → World → Prop) (h : D_vol_Vol_place p0 n1 w0 K) : Cal Tryz.prog F_vol_Vol_place #[.pointer p0,.int .i64 n1] w0 K :=
 denF_sound (A := { S := [],ty := [],raw := [] }) mixed Tryz.func64 (by kernel_rfl) (by kernel_rfl) ((show denF Tryz.prog _ Tryz.f64 _ w0 K = D_vol_Vol_place p0 n1 w0 K by kernel_rfl).mpr h)
set_option maxRecDepth 100000 in
def D_patch_Store_Read (p0 : Option Addr) (n1 : Int) (w0 : World) (K : Value → World → Prop) : Prop :=
 (bif Option.isNone p0 then
 K (.tuple #[.slice none 0 0,.int .i64 2]) w0
 else
 ∃ q9 : Addr,(.pointer p0 : Value) = .pointer (some q9) ∧ ∃ p11 : Option Addr,Ru (Instr.loadAt 153 (.pointer (some (Addr.add q9 0)))) w0 (.pointer p11) w0 ∧ Cal Tryz.prog F_cache_Cache_Read #[.pointer p11,.int .i64 n1] w0 fun r13 w1 => ∃ (a13a : Option Addr) (l13a c13a : Nat),∃ n13b : Int,r13 = .tuple #[.slice a13a l13a c13a,.int .i64 n13b] ∧ K (.tuple #[.slice a13a l13a c13a,.int .i64 n13b]) w1)
set_option maxRecDepth 100000 in
theorem C_patch_Store_Read (p0 : Option Addr) (n1 : Int) (w0 : World) (K : Value → World → Prop) (h : D_patch_Store_Read p0 n1 w0 K) : Cal Tryz.prog F_patch_Store_Read #[.pointer p0,.int .i64 n1] w0 K :=
 denF_sound (A := { S := [],ty := [],raw := [] }) mixed Tryz.func65 (by kernel_rfl) (by kernel_rfl) ((show denF Tryz.prog _ Tryz.f65 _ w0 K = D_patch_Store_Read p0 n1 w0 K by kernel_rfl).mpr h)
set_option maxRecDepth 100000 in
def D_inode_Read (a0 : Option Addr) (l0 c0 : Nat) (n1 : Int) (w0 : World) (K : Value → World → Prop) : Prop :=
 ∃ q4 : Addr,∃ w1 : World,Ru (Instr.alloc 55 true (.tuple #[])) w0 (.pointer (some q4)) w1 ∧ Cal Tryz.prog F_inode_may #[.slice a0 l0 c0,.int .i64 n1] w1 fun r9 w2 => ∃ n9 : Int,r9 = .int .i64 n9 ∧ (bif n9 != 0 then
 ∃ g12 : Array Value,Al (Instr.build 55 #[]) (.agg g12) ∧ ∃ w3 : World,RuU (Instr.storeAt 55 (.pointer (some q4)) (.agg g12)) w2 w3 ∧ ∃ gR4 : Array Value,Ru (Instr.loadAt 55 (.pointer (some q4))) w3 (.agg gR4) w3 ∧ K (.tuple #[.agg gR4,.int .i64 n9]) w3
 else
 ∃ (a20 : Option Addr) (l20 c20 : Nat),Al (Instr.sliceAt 24 (.slice a0 l0 c0) (some (.int .i64 (IntKind.i64.wrap (n1 * 64)))) (some (.int .i64 (IntKind.i64.wrap ((IntKind.i64.wrap (n1 + 1)) * 64)))) none) (.slice a20 l20 c20) ∧ Cal Tryz.prog F_inode_Get #[.slice a20 l20 c20] w2 fun r21 w4 => ∃ g21a : Array Value,∃ n21b : Int,r21 = .tuple #[.agg g21a,.int .i64 n21b] ∧ ∃ w5 : World,RuU (Instr.storeAt 55 (.pointer (some q4)) (.agg g21a)) w4 w5 ∧ ∃ gR4_2 : Array Value,Ru (Instr.loadAt 55 (.pointer (some q4))) w5 (.agg gR4_2) w5 ∧ K (.tuple #[.agg gR4_2,.int .i64 n21b]) w5)
set_option maxRecDepth 100000 in
theorem C_inode_Read (a0 : Option Addr) (l0 c0 : Nat) (n1 : Int) (w0 : World) (K : Value → World → Prop) (h : D_inode_Read a0 l0 c0 n1 w0 K) : Cal Tryz.prog F_inode_Read #[.slice a0 l0 c0,.int .i64 n1] w0 K :=
 denF_sound (A := { S := [],ty := [],raw := [] }) mixed Tryz.func66 (by kernel_rfl) (by kernel_rfl) ((show denF Tryz.prog _ Tryz.f66 _ w0 K = D_inode_Read a0 l0 c0 n1 w0 K by kernel_rfl).mpr h)
set_option maxRecDepth 100000 in
def D_inode_Put (g0 : Array Value) (w0 : World) (K : Value → World → Prop) : Prop :=
 ∃ q1 : Addr,∃ w1 : World,Ru (Instr.box 55 (.agg g0)) w0 (.pointer (some q1)) w1 ∧ ∃ g7 : Array Value,Ru (Instr.loadAt 55 (.pointer (some q1))) w1 (.agg g7) w1 ∧ Cal Tryz.prog F_inode_Right #[.agg g7] w1 fun r8 w2 => ∃ b8 : Bool,r8 = .bool b8 ∧ (bif !b8 then
 K (.tuple #[.slice none 0 0,.int .i64 1]) w2
 else
 ∃ (a10 : Option Addr) (l10 c10 : Nat),∃ w3 : World,Ru (Instr.makeSlice 24 (.int .i64 64) (.int .i64 64)) w2 (.slice a10 l10 c10) w3 ∧ ∃ n13 : Int,Ru (Instr.loadAt 3 (.pointer (some (Addr.add q1 0)))) w3 (.int .i64 n13) w3 ∧ ∃ q15 : Addr,Al (Instr.indexAt 24 (.slice a10 l10 c10) (.int .i64 0)) (.pointer (some q15)) ∧ ∃ w4 : World,RuU (Instr.storeAt 5 (.pointer (some q15)) (.int .u8 (IntKind.u8.wrap n13))) w3 w4 ∧ ∃ (a17 : Option Addr) (l17 c17 : Nat),Al (Instr.sliceAt 24 (.slice a10 l10 c10) (some (.int .i64 2)) (some (.int .i64 4)) none) (.slice a17 l17 c17) ∧ ∃ n19 : Int,Ru (Instr.loadAt 3 (.pointer (some (Addr.add q1 1)))) (drew w4) (.int .i64 n19) (drew w4) ∧ Cal Tryz.prog F_num_Put #[.slice a17 l17 c17,.int .u64 (IntKind.u64.wrap n19)] (drew w4) fun r21 w5 => r21 = .tuple #[] ∧ ∃ (a23 : Option Addr) (l23 c23 : Nat),Al (Instr.sliceAt 24 (.slice a10 l10 c10) (some (.int .i64 4)) (some (.int .i64 8)) none) (.slice a23 l23 c23) ∧ ∃ n25 : Int,Ru (Instr.loadAt 2 (.pointer (some (Addr.add q1 2)))) (drew w5) (.int .i64 n25) (drew w5) ∧ Cal Tryz.prog F_num_Put #[.slice a23 l23 c23,.int .u64 (IntKind.u64.wrap n25)] (drew w5) fun r27 w6 => r27 = .tuple #[] ∧ ∃ (a29 : Option Addr) (l29 c29 : Nat),Al (Instr.sliceAt 24 (.slice a10 l10 c10) (some (.int .i64 8)) (some (.int .i64 16)) none) (.slice a29 l29 c29) ∧ ∃ n31 : Int,Ru (Instr.loadAt 2 (.pointer (some (Addr.add q1 3)))) (drew w6) (.int .i64 n31) (drew w6) ∧ Cal Tryz.prog F_num_Put #[.slice a29 l29 c29,.int .u64 (IntKind.u64.wrap n31)] (drew w6) fun r33 w7 => r33 = .tuple #[] ∧ ∃ g34 : Array Value,Ru (Instr.loadAt 55 (.pointer (some q1))) w7 (.agg g34) w7 ∧ Cal Tryz.prog F_inode_all #[.agg g34] w7 fun r35 w8 => ∃ g35 : Array Value,r35 = .agg g35 ∧ LoopC (fun k x w9 =>
 ∃ n36 : Int,nth x 0 = .int .i64 n36 ∧ (bif decide (n36 < 8) then
 ∃ n39 : Int,Al (Instr.index 177 (.agg g35) (.int .i64 n36)) (.int .i64 n39) ∧ ∃ (a48 : Option Addr) (l48 c48 : Nat),Al (Instr.sliceAt 24 (.slice a10 l10 c10) (some (.int .i64 (IntKind.i64.wrap (16 + (IntKind.i64.wrap (n36 * 2)))))) (some (.int .i64 (IntKind.i64.wrap (16 + (IntKind.i64.wrap ((IntKind.i64.wrap (n36 + 1)) * 2)))))) none) (.slice a48 l48 c48) ∧ Cal Tryz.prog F_num_Put #[.slice a48 l48 c48,.int .u64 (IntKind.u64.wrap n39)] w9 fun r51 w10 => r51 = .tuple #[] ∧ k [.int .i64 (IntKind.i64.wrap (n36 + 1))] w10
 else
 K (.tuple #[.slice a10 l10 c10,.int .i64 0]) w9)) [.int .i64 0] w8)
set_option maxRecDepth 100000 in
theorem C_inode_Put (g0 : Array Value) (w0 : World) (K : Value → World → Prop) (h : D_inode_Put g0 w0 K) : Cal Tryz.prog F_inode_Put #[.agg g0] w0 K :=
 denF_sound (A := { S := [36],ty := [(36,3)],raw := [] }) mixed Tryz.func67 (by kernel_rfl) (by kernel_rfl) ((show denF Tryz.prog _ Tryz.f67 _ w0 K = D_inode_Put g0 w0 K by kernel_rfl).mpr h)
set_option maxRecDepth 100000 in
def D_vol_Vol_head (p0 : Option Addr) (n1 : Int) (w0 : World) (K : Value → World → Prop) : Prop :=
 (bif Option.isNone p0 then
 K (.tuple #[.int .i64 0,.int .i64 2]) w0
 else
 ∃ q9 : Addr,(.pointer p0 : Value) = .pointer (some q9) ∧ ∃ g12 : Array Value,Ru (Instr.loadAt 23 (.pointer (some (Addr.add (Addr.add q9 0) 1)))) w0 (.agg g12) w0 ∧ Cal Tryz.prog F_geo_Head #[.agg g12,.int .i64 n1] w0 fun r14 w1 => ∃ n14a : Int,∃ n14b : Int,r14 = .tuple #[.int .i64 n14a,.int .i64 n14b] ∧ K (.tuple #[.int .i64 n14a,.int .i64 n14b]) w1)
set_option maxRecDepth 100000 in
theorem C_vol_Vol_head (p0 : Option Addr) (n1 : Int) (w0 : World) (K : Value → World → Prop) (h : D_vol_Vol_head p0 n1 w0 K) : Cal Tryz.prog F_vol_Vol_head #[.pointer p0,.int .i64 n1] w0 K :=
 denF_sound (A := { S := [],ty := [],raw := [] }) mixed Tryz.func69 (by kernel_rfl) (by kernel_rfl) ((show denF Tryz.prog _ Tryz.f69 _ w0 K = D_vol_Vol_head p0 n1 w0 K by kernel_rfl).mpr h)
set_option maxRecDepth 100000 in
def D_group_Get (g0 : Array Value) (a1 : Option Addr) (l1 c1 : Nat) (w0 : World) (K : Value → World → Prop) : Prop :=
 ∃ q2 : Addr,∃ w1 : World,Ru (Instr.box 23 (.agg g0)) w0 (.pointer (some q2)) w1 ∧ ∃ q4 : Addr,∃ w2 : World,Ru (Instr.alloc 63 true (.tuple #[])) w1 (.pointer (some q4)) w2 ∧ ∃ g12 : Array Value,Ru (Instr.loadAt 23 (.pointer (some q2))) w2 (.agg g12) w2 ∧ Cal Tryz.prog F_geo_Right #[.agg g12] w2 fun r13 w3 => ∃ b13 : Bool,r13 = .bool b13 ∧ (bif !b13 then
 ∃ g15 : Array Value,Al (Instr.build 63 #[]) (.agg g15) ∧ ∃ w4 : World,RuU (Instr.storeAt 63 (.pointer (some q4)) (.agg g15)) w3 w4 ∧ ∃ gR4 : Array Value,Ru (Instr.loadAt 63 (.pointer (some q4))) w4 (.agg gR4) w4 ∧ K (.tuple #[.agg gR4,.int .i64 1]) w4
 else
 (bif (l1 : Int) != 256 then
 ∃ g20 : Array Value,Al (Instr.build 63 #[]) (.agg g20) ∧ ∃ w5 : World,RuU (Instr.storeAt 63 (.pointer (some q4)) (.agg g20)) w3 w5 ∧ ∃ gR4_2 : Array Value,Ru (Instr.loadAt 63 (.pointer (some q4))) w5 (.agg gR4_2) w5 ∧ K (.tuple #[.agg gR4_2,.int .i64 4]) w5
 else
 ∃ (a22 : Option Addr) (l22 c22 : Nat),Al (Instr.sliceAt 24 (.slice a1 l1 c1) (some (.int .i64 4)) (some (.int .i64 6)) none) (.slice a22 l22 c22) ∧ Cal Tryz.prog F_num_Get #[.slice a22 l22 c22] w3 fun r23 w6 => ∃ n23 : Int,r23 = .int .u64 n23 ∧ ∃ g25 : Array Value,Al (Instr.build 63 #[(0,.int .i64 (IntKind.i64.wrap n23))]) (.agg g25) ∧ ∃ q6 : Addr,∃ w7 : World,Ru (Instr.alloc 63 true (.tuple #[])) w6 (.pointer (some q6)) w7 ∧ ∃ w8 : World,RuU (Instr.storeAt 63 (.pointer (some q6)) (.agg g25)) w7 w8 ∧ ∃ (a27 : Option Addr) (l27 c27 : Nat),Al (Instr.sliceAt 60 (.pointer (some (Addr.add q6 1))) none none none) (.slice a27 l27 c27) ∧ ∃ (a29 : Option Addr) (l29 c29 : Nat),Al (Instr.sliceAt 24 (.slice a1 l1 c1) (some (.int .i64 16)) none none) (.slice a29 l29 c29) ∧ ∃ n30 : Int,∃ w9 : World,Ru (Builtin.copy_ #[24,24] 3 #[.slice a27 l27 c27,.slice a29 l29 c29]) (drew w8) (.int .i64 n30) w9 ∧ ∃ (a32 : Option Addr) (l32 c32 : Nat),Al (Instr.sliceAt 61 (.pointer (some (Addr.add q6 17))) none none none) (.slice a32 l32 c32) ∧ ∃ (a34 : Option Addr) (l34 c34 : Nat),Al (Instr.sliceAt 24 (.slice a1 l1 c1) (some (.int .i64 32)) none none) (.slice a34 l34 c34) ∧ ∃ n35 : Int,∃ w10 : World,Ru (Builtin.copy_ #[24,24] 3 #[.slice a32 l32 c32,.slice a34 l34 c34]) (drew w9) (.int .i64 n35) w10 ∧ ∃ g37 : Array Value,Ru (Instr.loadAt 23 (.pointer (some q2))) w10 (.agg g37) w10 ∧ ∃ g38 : Array Value,Ru (Instr.loadAt 63 (.pointer (some q6))) w10 (.agg g38) w10 ∧ Cal Tryz.prog F_group_Put #[.agg g37,.agg g38] w10 fun r39 w11 => ∃ (a39a : Option Addr) (l39a c39a : Nat),∃ n39b : Int,r39 = .tuple #[.slice a39a l39a c39a,.int .i64 n39b] ∧ Cal Tryz.prog F_num_Diff #[.slice a1 l1 c1,.slice a39a l39a c39a] w11 fun r45 w12 => ∃ n45a : Int,∃ n45b : Int,r45 = .tuple #[.int .i64 n45a,.int .i64 n45b] ∧ Share (fun k => (bif n39b != 0 then k [.bool true] w12 else k [.bool (decide (n45a ≥ 0))] w12)) fun x w13 =>
 ∃ b53 : Bool,nth x 0 = .bool b53 ∧ (bif b53 then
 ∃ g54 : Array Value,Al (Instr.build 63 #[]) (.agg g54) ∧ ∃ w14 : World,RuU (Instr.storeAt 63 (.pointer (some q4)) (.agg g54)) w13 w14 ∧ ∃ gR4_3 : Array Value,Ru (Instr.loadAt 63 (.pointer (some q4))) w14 (.agg gR4_3) w14 ∧ K (.tuple #[.agg gR4_3,.int .i64 8]) w14
 else
 ∃ g55 : Array Value,Ru (Instr.loadAt 63 (.pointer (some q6))) w13 (.agg g55) w13 ∧ ∃ w15 : World,RuU (Instr.storeAt 63 (.pointer (some q4)) (.agg g55)) w13 w15 ∧ ∃ gR4_4 : Array Value,Ru (Instr.loadAt 63 (.pointer (some q4))) w15 (.agg gR4_4) w15 ∧ K (.tuple #[.agg gR4_4,.int .i64 0]) w15)))
set_option maxRecDepth 100000 in
theorem C_group_Get (g0 : Array Value) (a1 : Option Addr) (l1 c1 : Nat) (w0 : World) (K : Value → World → Prop) (h : D_group_Get g0 a1 l1 c1 w0 K) : Cal Tryz.prog F_group_Get #[.agg g0,.slice a1 l1 c1] w0 K :=
 denF_sound (A := { S := [53],ty := [(53,4)],raw := [] }) mixed Tryz.func70 (by kernel_rfl) (by kernel_rfl) ((show denF Tryz.prog _ Tryz.f70 _ w0 K = D_group_Get g0 a1 l1 c1 w0 K by kernel_rfl).mpr h)
set_option maxRecDepth 100000 in
def D_group_Put (g0 : Array Value) (g1 : Array Value) (w0 : World) (K : Value → World → Prop) : Prop :=
 ∃ q2 : Addr,∃ w1 : World,Ru (Instr.box 23 (.agg g0)) w0 (.pointer (some q2)) w1 ∧ ∃ q3 : Addr,∃ w2 : World,Ru (Instr.box 63 (.agg g1)) w1 (.pointer (some q3)) w2 ∧ ∃ g11 : Array Value,Ru (Instr.loadAt 23 (.pointer (some q2))) w2 (.agg g11) w2 ∧ ∃ g12 : Array Value,Ru (Instr.loadAt 63 (.pointer (some q3))) w2 (.agg g12) w2 ∧ Cal Tryz.prog F_group_Right #[.agg g11,.agg g12] w2 fun r13 w3 => ∃ b13 : Bool,r13 = .bool b13 ∧ (bif !b13 then
 K (.tuple #[.slice none 0 0,.int .i64 1]) w3
 else
 ∃ (a15 : Option Addr) (l15 c15 : Nat),∃ w4 : World,Ru (Instr.makeSlice 24 (.int .i64 256) (.int .i64 256)) w3 (.slice a15 l15 c15) w4 ∧ ∃ n17 : Int,∃ w5 : World,Ru (Builtin.copy_ #[24,9] 3 #[.slice a15 l15 c15,.string (⟨#[76,71,82,80]⟩)]) w4 (.int .i64 n17) w5 ∧ ∃ g19 : Array Value,Ru (Instr.loadAt 23 (.pointer (some q2))) w5 (.agg g19) w5 ∧ ∃ g20 : Array Value,Ru (Instr.loadAt 63 (.pointer (some q3))) w5 (.agg g20) w5 ∧ Cal Tryz.prog F_group_Free #[.agg g19,.agg g20] w5 fun r21 w6 => ∃ n21a : Int,∃ n21b : Int,r21 = .tuple #[.int .i64 n21a,.int .i64 n21b] ∧ ∃ n25 : Int,Ru (Instr.loadAt 3 (.pointer (some (Addr.add q3 0)))) w6 (.int .i64 n25) w6 ∧ ∃ g28 : Array Value,Al (Instr.build 194 #[(0,.int .i64 n25),(1,.int .i64 n21a),(2,.int .i64 n21b)]) (.agg g28) ∧ LoopC (fun k x w7 =>
 ∃ n29 : Int,nth x 0 = .int .i64 n29 ∧ (bif decide (n29 < 3) then
 ∃ n32 : Int,Al (Instr.index 194 (.agg g28) (.int .i64 n29)) (.int .i64 n32) ∧ ∃ (a41 : Option Addr) (l41 c41 : Nat),Al (Instr.sliceAt 24 (.slice a15 l15 c15) (some (.int .i64 (IntKind.i64.wrap (4 + (IntKind.i64.wrap (n29 * 2)))))) (some (.int .i64 (IntKind.i64.wrap (4 + (IntKind.i64.wrap ((IntKind.i64.wrap (n29 + 1)) * 2)))))) none) (.slice a41 l41 c41) ∧ Cal Tryz.prog F_num_Put #[.slice a41 l41 c41,.int .u64 (IntKind.u64.wrap n32)] w7 fun r44 w8 => r44 = .tuple #[] ∧ k [.int .i64 (IntKind.i64.wrap (n29 + 1))] w8
 else
 ∃ (a47 : Option Addr) (l47 c47 : Nat),Al (Instr.sliceAt 24 (.slice a15 l15 c15) (some (.int .i64 16)) none none) (.slice a47 l47 c47) ∧ ∃ (a49 : Option Addr) (l49 c49 : Nat),Al (Instr.sliceAt 60 (.pointer (some (Addr.add q3 1))) none none none) (.slice a49 l49 c49) ∧ ∃ n50 : Int,∃ w9 : World,Ru (Builtin.copy_ #[24,24] 3 #[.slice a47 l47 c47,.slice a49 l49 c49]) (drew w7) (.int .i64 n50) w9 ∧ ∃ (a52 : Option Addr) (l52 c52 : Nat),Al (Instr.sliceAt 24 (.slice a15 l15 c15) (some (.int .i64 32)) none none) (.slice a52 l52 c52) ∧ ∃ (a54 : Option Addr) (l54 c54 : Nat),Al (Instr.sliceAt 61 (.pointer (some (Addr.add q3 17))) none none none) (.slice a54 l54 c54) ∧ ∃ n55 : Int,∃ w10 : World,Ru (Builtin.copy_ #[24,24] 3 #[.slice a52 l52 c52,.slice a54 l54 c54]) (drew w9) (.int .i64 n55) w10 ∧ K (.tuple #[.slice a15 l15 c15,.int .i64 0]) w10)) [.int .i64 0] w6)
set_option maxRecDepth 100000 in
theorem C_group_Put (g0 : Array Value) (g1 : Array Value) (w0 : World) (K : Value → World → Prop) (h : D_group_Put g0 g1 w0 K) : Cal Tryz.prog F_group_Put #[.agg g0,.agg g1] w0 K :=
 denF_sound (A := { S := [29],ty := [(29,3)],raw := [] }) mixed Tryz.func71 (by kernel_rfl) (by kernel_rfl) ((show denF Tryz.prog _ Tryz.f71 _ w0 K = D_group_Put g0 g1 w0 K by kernel_rfl).mpr h)
set_option maxRecDepth 100000 in
def D_vol_Vol_data (p0 : Option Addr) (n1 : Int) (w0 : World) (K : Value → World → Prop) : Prop :=
 (bif Option.isNone p0 then
 K (.int .i64 2) w0
 else
 ∃ q11 : Addr,(.pointer p0 : Value) = .pointer (some q11) ∧ ∃ g14 : Array Value,Ru (Instr.loadAt 23 (.pointer (some (Addr.add (Addr.add q11 0) 1)))) w0 (.agg g14) w0 ∧ Cal Tryz.prog F_geo_Kind #[.agg g14,.int .i64 n1] w0 fun r16 w1 => ∃ n16a : Int,∃ n16b : Int,r16 = .tuple #[.int .i64 n16a,.int .i64 n16b] ∧ (bif n16a != 4 then
 K (.int .i64 3) w1
 else
 K (.int .i64 0) w1))
set_option maxRecDepth 100000 in
theorem C_vol_Vol_data (p0 : Option Addr) (n1 : Int) (w0 : World) (K : Value → World → Prop) (h : D_vol_Vol_data p0 n1 w0 K) : Cal Tryz.prog F_vol_Vol_data #[.pointer p0,.int .i64 n1] w0 K :=
 denF_sound (A := { S := [],ty := [],raw := [] }) mixed Tryz.func72 (by kernel_rfl) (by kernel_rfl) ((show denF Tryz.prog _ Tryz.f72 _ w0 K = D_vol_Vol_data p0 n1 w0 K by kernel_rfl).mpr h)
set_option maxRecDepth 100000 in
def D_vol_Vol_may (p0 : Option Addr) (g1 : Array Value) (n2 : Int) (w0 : World) (K : Value → World → Prop) : Prop :=
 ∃ q4 : Addr,∃ w1 : World,Ru (Instr.box 23 (.agg g1)) w0 (.pointer (some q4)) w1 ∧ (bif Option.isNone p0 then
 K (.int .i64 2) w1
 else
 ∃ q11 : Addr,(.pointer p0 : Value) = .pointer (some q11) ∧ ∃ g14 : Array Value,Ru (Instr.loadAt 23 (.pointer (some (Addr.add (Addr.add q11 0) 1)))) w1 (.agg g14) w1 ∧ ∃ q7 : Addr,∃ w2 : World,Ru (Instr.alloc 23 true (.tuple #[])) w1 (.pointer (some q7)) w2 ∧ ∃ w3 : World,RuU (Instr.storeAt 23 (.pointer (some q7)) (.agg g14)) w2 w3 ∧ Share (fun k => ∃ g16 : Array Value,Ru (Instr.loadAt 23 (.pointer (some q4))) w3 (.agg g16) w3 ∧ Cal Tryz.prog F_geo_Right #[.agg g16] w3 fun r17 w4 => ∃ b17 : Bool,r17 = .bool b17 ∧ (bif !b17 then k [.bool true] w4 else ∃ n21 : Int,Ru (Instr.loadAt 3 (.pointer (some (Addr.add q4 0)))) w4 (.int .i64 n21) w4 ∧ ∃ n23 : Int,Ru (Instr.loadAt 3 (.pointer (some (Addr.add q7 0)))) w4 (.int .i64 n23) w4 ∧ (bif n21 != n23 then k [.bool true] w4 else ∃ n28 : Int,Ru (Instr.loadAt 3 (.pointer (some (Addr.add q4 1)))) w4 (.int .i64 n28) w4 ∧ ∃ n30 : Int,Ru (Instr.loadAt 3 (.pointer (some (Addr.add q7 1)))) w4 (.int .i64 n30) w4 ∧ (bif n28 != n30 then k [.bool true] w4 else ∃ n35 : Int,Ru (Instr.loadAt 3 (.pointer (some (Addr.add q4 2)))) w4 (.int .i64 n35) w4 ∧ k [.bool (decide (n35 < n2))] w4)))) fun x w5 =>
 ∃ b15 : Bool,nth x 0 = .bool b15 ∧ (bif b15 then
 K (.int .i64 1) w5
 else
 ∃ g40 : Array Value,Ru (Instr.loadAt 23 (.pointer (some q4))) (drew w5) (.agg g40) (drew w5) ∧ ∃ q43 : Addr,(.pointer p0 : Value) = .pointer (some q43) ∧ ∃ p45 : Option Addr,Ru (Instr.loadAt 71 (.pointer (some (Addr.add q43 4)))) (drew w5) (.pointer p45) (drew w5) ∧ Cal Tryz.prog F_geo_Size #[.agg g40] (drew w5) fun r41 w6 => ∃ n41 : Int,r41 = .int .i64 n41 ∧ Ru (Instr.loadAt 71 (.pointer (some (Addr.add q43 4)))) w6 (.pointer p45) w6 ∧ Cal Tryz.prog F_patch_Store_Len #[.pointer p45] w6 fun r46 w7 => ∃ n46 : Int,r46 = .int .i64 n46 ∧ (bif decide (n41 > n46) then
 K (.int .i64 4) w7
 else
 K (.int .i64 0) w7)))
set_option maxRecDepth 100000 in
theorem C_vol_Vol_may (p0 : Option Addr) (g1 : Array Value) (n2 : Int) (w0 : World) (K : Value → World → Prop) (h : D_vol_Vol_may p0 g1 n2 w0 K) : Cal Tryz.prog F_vol_Vol_may #[.pointer p0,.agg g1,.int .i64 n2] w0 K :=
 denF_sound (A := { S := [15],ty := [(15,4)],raw := [] }) mixed Tryz.func73 (by kernel_rfl) (by kernel_rfl) ((show denF Tryz.prog _ Tryz.f73 _ w0 K = D_vol_Vol_may p0 g1 n2 w0 K by kernel_rfl).mpr h)
set_option maxRecDepth 100000 in
def D_geo_whole (g0 : Array Value) (w0 : World) (K : Value → World → Prop) : Prop :=
 ∃ q1 : Addr,∃ w1 : World,Ru (Instr.box 23 (.agg g0)) w0 (.pointer (some q1)) w1 ∧ ∃ q2 : Addr,∃ w2 : World,Ru (Instr.alloc 23 true (.tuple #[])) w1 (.pointer (some q2)) w2 ∧ Share (fun k => ∃ n5 : Int,Ru (Instr.loadAt 3 (.pointer (some (Addr.add q1 0)))) w2 (.int .i64 n5) w2 ∧ Cal Tryz.prog F_geo_within #[.int .i64 n5,.int .i64 16,.int .i64 128] w2 fun r6 w3 => ∃ b6 : Bool,r6 = .bool b6 ∧ (bif !b6 then k [.bool true] w3 else ∃ n10 : Int,Ru (Instr.loadAt 3 (.pointer (some (Addr.add q1 2)))) w3 (.int .i64 n10) w3 ∧ Cal Tryz.prog F_geo_within #[.int .i64 n10,.int .i64 1,.int .i64 16] w3 fun r11 w4 => ∃ b11 : Bool,r11 = .bool b11 ∧ k [.bool (!b11)] w4)) fun x w5 =>
 ∃ b3 : Bool,nth x 0 = .bool b3 ∧ (bif b3 then
 ∃ g14 : Array Value,Al (Instr.build 23 #[]) (.agg g14) ∧ ∃ w6 : World,RuU (Instr.storeAt 23 (.pointer (some q2)) (.agg g14)) w5 w6 ∧ ∃ gR2 : Array Value,Ru (Instr.loadAt 23 (.pointer (some q2))) w6 (.agg gR2) w6 ∧ K (.agg gR2) w6
 else
 Share (fun k_2 => ∃ n17 : Int,Ru (Instr.loadAt 3 (.pointer (some (Addr.add q1 1)))) w5 (.int .i64 n17) w5 ∧ Cal Tryz.prog F_geo_within #[.int .i64 n17,.int .i64 4,.int .i64 64] w5 fun r18 w7 => ∃ b18 : Bool,r18 = .bool b18 ∧ (bif !b18 then k_2 [.bool true] w7 else ∃ n22 : Int,Ru (Instr.loadAt 3 (.pointer (some (Addr.add q1 1)))) w7 (.int .i64 n22) w7 ∧ k_2 [.bool ((Int.tmod n22 4) != 0)] w7)) fun x_2 w8 =>
 ∃ b15 : Bool,nth x_2 0 = .bool b15 ∧ (bif b15 then
 ∃ g26 : Array Value,Al (Instr.build 23 #[]) (.agg g26) ∧ ∃ w9 : World,RuU (Instr.storeAt 23 (.pointer (some q2)) (.agg g26)) w8 w9 ∧ ∃ gR2_2 : Array Value,Ru (Instr.loadAt 23 (.pointer (some q2))) w9 (.agg gR2_2) w9 ∧ K (.agg gR2_2) w9
 else
 Share (fun k_3 => ∃ n29 : Int,Ru (Instr.loadAt 3 (.pointer (some (Addr.add q1 0)))) w8 (.int .i64 n29) w8 ∧ ∃ n32 : Int,Ru (Instr.loadAt 3 (.pointer (some (Addr.add q1 1)))) w8 (.int .i64 n32) w8 ∧ (bif decide ((IntKind.i64.wrap ((IntKind.i64.wrap (n29 - 1)) - (IntKind.i64.wrap (Int.tdiv n32 4)))) < 4) then k_3 [.bool true] w8 else ∃ n38 : Int,Ru (Instr.loadAt 3 (.pointer (some (Addr.add q1 2)))) w8 (.int .i64 n38) w8 ∧ ∃ n40 : Int,Ru (Instr.loadAt 3 (.pointer (some (Addr.add q1 0)))) w8 (.int .i64 n40) w8 ∧ k_3 [.bool (decide ((IntKind.i64.wrap (2 + (IntKind.i64.wrap (n38 * n40)))) > 4096))] w8)) fun x_3 w10 =>
 ∃ b27 : Bool,nth x_3 0 = .bool b27 ∧ (bif b27 then
 ∃ g45 : Array Value,Al (Instr.build 23 #[]) (.agg g45) ∧ ∃ w11 : World,RuU (Instr.storeAt 23 (.pointer (some q2)) (.agg g45)) w10 w11 ∧ ∃ gR2_3 : Array Value,Ru (Instr.loadAt 23 (.pointer (some q2))) w11 (.agg gR2_3) w11 ∧ K (.agg gR2_3) w11
 else
 ∃ g46 : Array Value,Ru (Instr.loadAt 23 (.pointer (some q1))) w10 (.agg g46) w10 ∧ ∃ w12 : World,RuU (Instr.storeAt 23 (.pointer (some q2)) (.agg g46)) w10 w12 ∧ ∃ gR2_4 : Array Value,Ru (Instr.loadAt 23 (.pointer (some q2))) w12 (.agg gR2_4) w12 ∧ K (.agg gR2_4) w12)))
set_option maxRecDepth 100000 in
theorem C_geo_whole (g0 : Array Value) (w0 : World) (K : Value → World → Prop) (h : D_geo_whole g0 w0 K) : Cal Tryz.prog F_geo_whole #[.agg g0] w0 K :=
 denF_sound (A := { S := [3,15,27],ty := [(3,4),(15,4),(27,4)],raw := [] }) mixed Tryz.func78 (by kernel_rfl) (by kernel_rfl) ((show denF Tryz.prog _ Tryz.f78 _ w0 K = D_geo_whole g0 w0 K by kernel_rfl).mpr h)
set_option maxRecDepth 100000 in
def D_disk_Disk_last (p0 : Option Addr) (n1 : Int) (w0 : World) (K : Value → World → Prop) : Prop :=
 ∃ q4 : Addr,∃ w1 : World,Ru (Instr.alloc 107 true (.tuple #[])) w0 (.pointer (some q4)) w1 ∧ ∃ q7 : Addr,(.pointer p0 : Value) = .pointer (some q7) ∧ ∃ m9 : Option Nat,Ru (Instr.loadAt 79 (.pointer (some (Addr.add q7 1)))) w1 (.map m9) w1 ∧ ∃ (a11 : Option Addr) (l11 c11 : Nat),Ru (Instr.lookup 79 (.map m9) (.int .i64 n1) false) w1 (.slice a11 l11 c11) w1 ∧ (bif decide ((l11 : Int) > 0) then
 ∃ q19 : Addr,Al (Instr.indexAt 78 (.slice a11 l11 c11) (.int .i64 (IntKind.i64.wrap ((l11 : Int) - 1)))) (.pointer (some q19)) ∧ ∃ g20 : Array Value,Ru (Instr.loadAt 107 (.pointer (some q19))) w1 (.agg g20) w1 ∧ ∃ w2 : World,RuU (Instr.storeAt 107 (.pointer (some q4)) (.agg g20)) w1 w2 ∧ ∃ gR4 : Array Value,Ru (Instr.loadAt 107 (.pointer (some q4))) w2 (.agg gR4) w2 ∧ K (.agg gR4) w2
 else
 ∃ q22 : Addr,(.pointer p0 : Value) = .pointer (some q22) ∧ ∃ (a24 : Option Addr) (l24 c24 : Nat),Ru (Instr.loadAt 78 (.pointer (some (Addr.add q22 0)))) w1 (.slice a24 l24 c24) w1 ∧ ∃ q26 : Addr,Al (Instr.indexAt 78 (.slice a24 l24 c24) (.int .i64 n1)) (.pointer (some q26)) ∧ ∃ g27 : Array Value,Ru (Instr.loadAt 107 (.pointer (some q26))) w1 (.agg g27) w1 ∧ ∃ w3 : World,RuU (Instr.storeAt 107 (.pointer (some q4)) (.agg g27)) w1 w3 ∧ ∃ gR4_2 : Array Value,Ru (Instr.loadAt 107 (.pointer (some q4))) w3 (.agg gR4_2) w3 ∧ K (.agg gR4_2) w3)
set_option maxRecDepth 100000 in
theorem C_disk_Disk_last (p0 : Option Addr) (n1 : Int) (w0 : World) (K : Value → World → Prop) (h : D_disk_Disk_last p0 n1 w0 K) : Cal Tryz.prog F_disk_Disk_last #[.pointer p0,.int .i64 n1] w0 K :=
 denF_sound (A := { S := [],ty := [],raw := [] }) mixed Tryz.func79 (by kernel_rfl) (by kernel_rfl) ((show denF Tryz.prog _ Tryz.f79 _ w0 K = D_disk_Disk_last p0 n1 w0 K by kernel_rfl).mpr h)
set_option maxRecDepth 100000 in
def D_group_Fresh (g0 : Array Value) (n1 : Int) (w0 : World) (K : Value → World → Prop) : Prop :=
 ∃ q2 : Addr,∃ w1 : World,Ru (Instr.box 23 (.agg g0)) w0 (.pointer (some q2)) w1 ∧ ∃ q4 : Addr,∃ w2 : World,Ru (Instr.alloc 63 true (.tuple #[])) w1 (.pointer (some q4)) w2 ∧ ∃ g9 : Array Value,Ru (Instr.loadAt 23 (.pointer (some q2))) w2 (.agg g9) w2 ∧ Cal Tryz.prog F_geo_Head #[.agg g9,.int .i64 n1] w2 fun r11 w3 => ∃ n11a : Int,∃ n11b : Int,r11 = .tuple #[.int .i64 n11a,.int .i64 n11b] ∧ (bif n11b != 0 then
 ∃ g16 : Array Value,Al (Instr.build 63 #[]) (.agg g16) ∧ ∃ w4 : World,RuU (Instr.storeAt 63 (.pointer (some q4)) (.agg g16)) w3 w4 ∧ ∃ gR4 : Array Value,Ru (Instr.loadAt 63 (.pointer (some q4))) w4 (.agg gR4) w4 ∧ K (.tuple #[.agg gR4,.int .i64 1]) w4
 else
 ∃ g17 : Array Value,Ru (Instr.loadAt 23 (.pointer (some q2))) w3 (.agg g17) w3 ∧ Cal Tryz.prog F_group_base #[.agg g17,.int .i64 n1] w3 fun r19 w5 => ∃ g19 : Array Value,r19 = .agg g19 ∧ ∃ w6 : World,RuU (Instr.storeAt 63 (.pointer (some q4)) (.agg g19)) w5 w6 ∧ ∃ gR4_2 : Array Value,Ru (Instr.loadAt 63 (.pointer (some q4))) w6 (.agg gR4_2) w6 ∧ K (.tuple #[.agg gR4_2,.int .i64 0]) w6)
set_option maxRecDepth 100000 in
theorem C_group_Fresh (g0 : Array Value) (n1 : Int) (w0 : World) (K : Value → World → Prop) (h : D_group_Fresh g0 n1 w0 K) : Cal Tryz.prog F_group_Fresh #[.agg g0,.int .i64 n1] w0 K :=
 denF_sound (A := { S := [],ty := [],raw := [] }) mixed Tryz.func80 (by kernel_rfl) (by kernel_rfl) ((show denF Tryz.prog _ Tryz.f80 _ w0 K = D_group_Fresh g0 n1 w0 K by kernel_rfl).mpr h)
set_option maxRecDepth 100000 in
def D_geo_Head (g0 : Array Value) (n1 : Int) (w0 : World) (K : Value → World → Prop) : Prop :=
 ∃ q2 : Addr,∃ w1 : World,Ru (Instr.box 23 (.agg g0)) w0 (.pointer (some q2)) w1 ∧ ∃ g7 : Array Value,Ru (Instr.loadAt 23 (.pointer (some q2))) w1 (.agg g7) w1 ∧ Cal Tryz.prog F_geo_Right #[.agg g7] w1 fun r8 w2 => ∃ b8 : Bool,r8 = .bool b8 ∧ (bif !b8 then
 K (.tuple #[.int .i64 0,.int .i64 1]) w2
 else
 Share (fun k => (bif decide (n1 < 0) then k [.bool true] w2 else ∃ n16 : Int,Ru (Instr.loadAt 3 (.pointer (some (Addr.add q2 2)))) w2 (.int .i64 n16) w2 ∧ k [.bool (decide (n1 ≥ n16))] w2)) fun x w3 =>
 ∃ b10 : Bool,nth x 0 = .bool b10 ∧ (bif b10 then
 K (.tuple #[.int .i64 0,.int .i64 3]) w3
 else
 ∃ n21 : Int,Ru (Instr.loadAt 3 (.pointer (some (Addr.add q2 0)))) w3 (.int .i64 n21) w3 ∧ K (.tuple #[.int .i64 (IntKind.i64.wrap (2 + (IntKind.i64.wrap (n1 * n21)))),.int .i64 0]) w3))
set_option maxRecDepth 100000 in
theorem C_geo_Head (g0 : Array Value) (n1 : Int) (w0 : World) (K : Value → World → Prop) (h : D_geo_Head g0 n1 w0 K) : Cal Tryz.prog F_geo_Head #[.agg g0,.int .i64 n1] w0 K :=
 denF_sound (A := { S := [10],ty := [(10,4)],raw := [] }) mixed Tryz.func81 (by kernel_rfl) (by kernel_rfl) ((show denF Tryz.prog _ Tryz.f81 _ w0 K = D_geo_Head g0 n1 w0 K by kernel_rfl).mpr h)
set_option maxRecDepth 100000 in
def D_geo_Tables (g0 : Array Value) (w0 : World) (K : Value → World → Prop) : Prop :=
 ∃ q1 : Addr,∃ w1 : World,Ru (Instr.box 23 (.agg g0)) w0 (.pointer (some q1)) w1 ∧ ∃ g4 : Array Value,Al (Instr.build 23 #[]) (.agg g4) ∧ ∃ q3 : Addr,∃ w2 : World,Ru (Instr.alloc 23 true (.tuple #[])) w1 (.pointer (some q3)) w2 ∧ ∃ w3 : World,RuU (Instr.storeAt 23 (.pointer (some q3)) (.agg g4)) w2 w3 ∧ ∃ g5 : Array Value,Ru (Instr.loadAt 23 (.pointer (some q1))) (drew w3) (.agg g5) (drew w3) ∧ ∃ g7 : Array Value,Ru (Instr.loadAt 23 (.pointer (some q3))) (drew w3) (.agg g7) (drew w3) ∧ Cal Tryz.prog F_geo_whole #[.agg g5] (drew w3) fun r6 w4 => ∃ g6 : Array Value,r6 = .agg g6 ∧ Ru (Instr.loadAt 23 (.pointer (some q3))) w4 (.agg g7) w4 ∧ ∃ b8 : Bool,Al (eqS .eql 23 (.tmp 6) (.tmp 7) (.agg g6) (.agg g7)) (.bool b8) ∧ (bif b8 then
 K (.int .i64 0) w4
 else
 ∃ n10 : Int,Ru (Instr.loadAt 3 (.pointer (some (Addr.add q1 1)))) w4 (.int .i64 n10) w4 ∧ K (.int .i64 (IntKind.i64.wrap (Int.tdiv n10 4))) w4)
set_option maxRecDepth 100000 in
theorem C_geo_Tables (g0 : Array Value) (w0 : World) (K : Value → World → Prop) (h : D_geo_Tables g0 w0 K) : Cal Tryz.prog F_geo_Tables #[.agg g0] w0 K :=
 denF_sound (A := { S := [],ty := [],raw := [] }) mixed Tryz.func82 (by kernel_rfl) (by kernel_rfl) ((show denF Tryz.prog _ Tryz.f82 _ w0 K = D_geo_Tables g0 w0 K by kernel_rfl).mpr h)
set_option maxRecDepth 100000 in
def D_inode_Lay (a0 : Option Addr) (l0 c0 : Nat) (n1 : Int) (g2 : Array Value) (w0 : World) (K : Value → World → Prop) : Prop :=
 ∃ q5 : Addr,∃ w1 : World,Ru (Instr.box 55 (.agg g2)) w0 (.pointer (some q5)) w1 ∧ Cal Tryz.prog F_inode_may #[.slice a0 l0 c0,.int .i64 n1] w1 fun r13 w2 => ∃ n13 : Int,r13 = .int .i64 n13 ∧ (bif n13 != 0 then
 K (.tuple #[.slice none 0 0,.int .i64 n13]) w2
 else
 ∃ g18 : Array Value,Ru (Instr.loadAt 55 (.pointer (some q5))) w2 (.agg g18) w2 ∧ Cal Tryz.prog F_inode_Put #[.agg g18] w2 fun r19 w3 => ∃ (a19a : Option Addr) (l19a c19a : Nat),∃ n19b : Int,r19 = .tuple #[.slice a19a l19a c19a,.int .i64 n19b] ∧ (bif n19b != 0 then
 K (.tuple #[.slice none 0 0,.int .i64 n19b]) w3
 else
 Cal Tryz.prog F_num_Lay #[.slice a0 l0 c0,.int .i64 (IntKind.i64.wrap (n1 * 64)),.slice a19a l19a c19a] w3 fun r29 w4 => ∃ (a29a : Option Addr) (l29a c29a : Nat),∃ n29b : Int,r29 = .tuple #[.slice a29a l29a c29a,.int .i64 n29b] ∧ K (.tuple #[.slice a29a l29a c29a,.int .i64 n29b]) w4))
set_option maxRecDepth 100000 in
theorem C_inode_Lay (a0 : Option Addr) (l0 c0 : Nat) (n1 : Int) (g2 : Array Value) (w0 : World) (K : Value → World → Prop) (h : D_inode_Lay a0 l0 c0 n1 g2 w0 K) : Cal Tryz.prog F_inode_Lay #[.slice a0 l0 c0,.int .i64 n1,.agg g2] w0 K :=
 denF_sound (A := { S := [],ty := [],raw := [] }) mixed Tryz.func83 (by kernel_rfl) (by kernel_rfl) ((show denF Tryz.prog _ Tryz.f83 _ w0 K = D_inode_Lay a0 l0 c0 n1 g2 w0 K by kernel_rfl).mpr h)
set_option maxRecDepth 100000 in
def D_super_Super_right (g0 : Array Value) (w0 : World) (K : Value → World → Prop) : Prop :=
 ∃ q1 : Addr,∃ w1 : World,Ru (Instr.box 94 (.agg g0)) w0 (.pointer (some q1)) w1 ∧ Share (fun k => ∃ n4 : Int,Ru (Instr.loadAt 2 (.pointer (some (Addr.add q1 0)))) w1 (.int .i64 n4) w1 ∧ (bif decide (n4 ≥ 1) then ∃ n8 : Int,Ru (Instr.loadAt 2 (.pointer (some (Addr.add q1 0)))) w1 (.int .i64 n8) w1 ∧ (bif decide (n8 ≤ 4611686018427387904) then ∃ g13 : Array Value,Ru (Instr.loadAt 23 (.pointer (some (Addr.add q1 1)))) w1 (.agg g13) w1 ∧ Cal Tryz.prog F_geo_Right #[.agg g13] w1 fun r14 w2 => ∃ b14 : Bool,r14 = .bool b14 ∧ k [.bool b14] w2 else k [.bool false] w1) else k [.bool false] w1)) fun x w3 =>
 ∃ b2 : Bool,nth x 0 = .bool b2 ∧ K (.bool b2) w3
set_option maxRecDepth 100000 in
theorem C_super_Super_right (g0 : Array Value) (w0 : World) (K : Value → World → Prop) (h : D_super_Super_right g0 w0 K) : Cal Tryz.prog F_super_Super_right #[.agg g0] w0 K :=
 denF_sound (A := { S := [2],ty := [(2,4)],raw := [] }) mixed Tryz.func84 (by kernel_rfl) (by kernel_rfl) ((show denF Tryz.prog _ Tryz.f84 _ w0 K = D_super_Super_right g0 w0 K by kernel_rfl).mpr h)
set_option maxRecDepth 100000 in
def D_num_Put (a0 : Option Addr) (l0 c0 : Nat) (n1 : Int) (w0 : World) (K : Value → World → Prop) : Prop :=
 LoopC (fun k x w1 =>
 ∃ n7 : Int,nth x 1 = .int .i64 n7 ∧ (bif decide (n7 < (l0 : Int)) then
 ∃ n1_2 : Int,nth x 0 = .int .u64 n1_2 ∧ ∃ q14 : Addr,Al (Instr.indexAt 24 (.slice a0 l0 c0) (.int .i64 n7)) (.pointer (some q14)) ∧ ∃ w2 : World,RuU (Instr.storeAt 5 (.pointer (some q14)) (.int .u8 (IntKind.u8.wrap n1_2))) w1 w2 ∧ k [.int .u64 (Int.fdiv n1_2 256),.int .i64 (IntKind.i64.wrap (n7 + 1))] w2
 else
 K (.tuple #[]) w1)) [.int .u64 n1,.int .i64 0] w0
set_option maxRecDepth 100000 in
theorem C_num_Put (a0 : Option Addr) (l0 c0 : Nat) (n1 : Int) (w0 : World) (K : Value → World → Prop) (h : D_num_Put a0 l0 c0 n1 w0 K) : Cal Tryz.prog F_num_Put #[.slice a0 l0 c0,.int .u64 n1] w0 K :=
 denF_sound (A := { S := [1,7],ty := [(1,144),(7,3)],raw := [] }) mixed Tryz.func85 (by kernel_rfl) (by kernel_rfl) ((show denF Tryz.prog _ Tryz.f85 _ w0 K = D_num_Put a0 l0 c0 n1 w0 K by kernel_rfl).mpr h)
set_option maxRecDepth 100000 in
def D_num_Sum (a0 : Option Addr) (l0 c0 : Nat) (w0 : World) (K : Value → World → Prop) : Prop :=
 ∃ q3 : Addr,∃ w1 : World,Ru (Instr.alloc 202 true (.tuple #[])) w0 (.pointer (some q3)) w1 ∧ LoopC (fun k x w2 =>
 ∃ n9 : Int,nth x 1 = .int .i64 n9 ∧ (bif decide (n9 < 16) then
 LoopC (fun k_2 x_2 w3 =>
 ∃ n14 : Int,nth x_2 1 = .int .i64 n14 ∧ (bif decide (n14 < 4) then
 ∃ n5 : Int,nth x_2 0 = .int .u32 n5 ∧ k_2 [.int .u32 (IntKind.u32.wrap (bvXor 32 (Int.fdiv n5 2) (IntKind.u32.wrap (3988292384 * (IntKind.u32.wrap (bvAnd 32 n5 1)))))),.int .i64 (IntKind.i64.wrap (n14 + 1))] w3
 else
 ∃ n5_2 : Int,nth x_2 0 = .int .u32 n5_2 ∧ ∃ q25 : Addr,Al (Instr.indexAt 202 (.pointer (some q3)) (.int .i64 n9)) (.pointer (some q25)) ∧ ∃ w4 : World,RuU (Instr.storeAt 145 (.pointer (some q25)) (.int .u32 n5_2)) w3 w4 ∧ k [.int .u32 n5_2,.int .i64 (IntKind.i64.wrap (n9 + 1)),.int .i64 n14] w4)) [.int .u32 (IntKind.u32.wrap n9),.int .i64 0] w2
 else
 LoopC (fun k_3 x_3 w5 =>
 ∃ n29 : Int,nth x_3 1 = .int .i64 n29 ∧ (bif decide (n29 < (l0 : Int)) then
 ∃ q31 : Addr,Al (Instr.indexAt 24 (.slice a0 l0 c0) (.int .i64 n29)) (.pointer (some q31)) ∧ ∃ n32 : Int,Ru (Instr.loadAt 5 (.pointer (some q31))) w5 (.int .u8 n32) w5 ∧ ∃ n6 : Int,nth x_3 0 = .int .u32 n6 ∧ ∃ q41 : Addr,Al (Instr.indexAt 202 (.pointer (some q3)) (.int .u32 (IntKind.u32.wrap (bvAnd 32 (IntKind.u32.wrap (bvXor 32 n6 (IntKind.u32.wrap n32))) 15)))) (.pointer (some q41)) ∧ ∃ n42 : Int,Ru (Instr.loadAt 145 (.pointer (some q41))) w5 (.int .u32 n42) w5 ∧ ∃ q48 : Addr,Al (Instr.indexAt 202 (.pointer (some q3)) (.int .u32 (IntKind.u32.wrap (bvAnd 32 (IntKind.u32.wrap (bvXor 32 (Int.fdiv (IntKind.u32.wrap (bvXor 32 n6 (IntKind.u32.wrap n32))) 16) n42)) 15)))) (.pointer (some q48)) ∧ ∃ n49 : Int,Ru (Instr.loadAt 145 (.pointer (some q48))) w5 (.int .u32 n49) w5 ∧ k_3 [.int .u32 (IntKind.u32.wrap (bvXor 32 (Int.fdiv (IntKind.u32.wrap (bvXor 32 (Int.fdiv (IntKind.u32.wrap (bvXor 32 n6 (IntKind.u32.wrap n32))) 16) n42)) 16) n49)),.int .i64 (IntKind.i64.wrap (n29 + 1))] w5
 else
 ∃ n6_2 : Int,nth x_3 0 = .int .u32 n6_2 ∧ ∃ n53 : Int,Al (Op.unary .xor (.int .u32 n6_2)) (.int .u32 n53) ∧ K (.int .u32 n53) w5)) [.int .u32 4294967295,.int .i64 0] w2)) [undef,.int .i64 0,undef] w1
set_option maxRecDepth 100000 in
theorem C_num_Sum (a0 : Option Addr) (l0 c0 : Nat) (w0 : World) (K : Value → World → Prop) (h : D_num_Sum a0 l0 c0 w0 K) : Cal Tryz.prog F_num_Sum #[.slice a0 l0 c0] w0 K :=
 denF_sound (A := { S := [5,6,9,14,29],ty := [(5,145),(6,145),(9,3),(14,3),(29,3)],raw := [] }) mixed Tryz.func86 (by kernel_rfl) (by kernel_rfl) ((show denF Tryz.prog _ Tryz.f86 _ w0 K = D_num_Sum a0 l0 c0 w0 K by kernel_rfl).mpr h)
set_option maxRecDepth 100000 in
def D_leveeref02_Disk_Stopped (p0 : Option Addr) (w0 : World) (K : Value → World → Prop) : Prop :=
 Share (fun k => ∃ q4 : Addr,(.pointer p0 : Value) = .pointer (some q4) ∧ ∃ b6 : Bool,Ru (Instr.loadAt 4 (.pointer (some (Addr.add q4 1)))) w0 (.bool b6) w0 ∧ (bif b6 then ∃ q9 : Addr,(.pointer p0 : Value) = .pointer (some q9) ∧ ∃ n11 : Int,Ru (Instr.loadAt 3 (.pointer (some (Addr.add q9 2)))) w0 (.int .i64 n11) w0 ∧ k [.bool (n11 == 0)] w0 else k [.bool false] w0)) fun x w1 =>
 ∃ b2 : Bool,nth x 0 = .bool b2 ∧ K (.bool b2) w1
set_option maxRecDepth 100000 in
theorem C_leveeref02_Disk_Stopped (p0 : Option Addr) (w0 : World) (K : Value → World → Prop) (h : D_leveeref02_Disk_Stopped p0 w0 K) : Cal Tryz.prog F_leveeref02_Disk_Stopped #[.pointer p0] w0 K :=
 denF_sound (A := { S := [2],ty := [(2,4)],raw := [] }) mixed Tryz.func97 (by kernel_rfl) (by kernel_rfl) ((show denF Tryz.prog _ Tryz.f97 _ w0 K = D_leveeref02_Disk_Stopped p0 w0 K by kernel_rfl).mpr h)
set_option maxRecDepth 100000 in
def D_cache_New (p0 : Option Addr) (n1 : Int) (w0 : World) (K : Value → World → Prop) : Prop :=
 (bif Option.isNone p0 then
 K (.tuple #[.pointer none,.int .i64 2]) w0
 else
 Share (fun k => (bif decide (n1 < 1) then k [.bool true] w0 else k [.bool (decide (n1 > 4096))] w0)) fun x w1 =>
 ∃ b9 : Bool,nth x 0 = .bool b9 ∧ (bif b9 then
 K (.tuple #[.pointer none,.int .i64 1]) w1
 else
 ∃ m18 : Option Nat,∃ w2 : World,Ru (Instr.makeMap 208 none) w1 (.map m18) w2 ∧ ∃ g19 : Array Value,Al (Instr.build 210 #[(0,.pointer p0),(1,.int .i64 n1),(2,.map m18)]) (.agg g19) ∧ ∃ q20 : Addr,∃ w3 : World,Ru (Instr.box 210 (.agg g19)) w2 (.pointer (some q20)) w3 ∧ K (.tuple #[.pointer (some q20),.int .i64 0]) w3))
set_option maxRecDepth 100000 in
theorem C_cache_New (p0 : Option Addr) (n1 : Int) (w0 : World) (K : Value → World → Prop) (h : D_cache_New p0 n1 w0 K) : Cal Tryz.prog F_cache_New #[.pointer p0,.int .i64 n1] w0 K :=
 denF_sound (A := { S := [9],ty := [(9,4)],raw := [] }) mixed Tryz.func98 (by kernel_rfl) (by kernel_rfl) ((show denF Tryz.prog _ Tryz.f98 _ w0 K = D_cache_New p0 n1 w0 K by kernel_rfl).mpr h)
set_option maxRecDepth 100000 in
def D_super_Get (a0 : Option Addr) (l0 c0 : Nat) (w0 : World) (K : Value → World → Prop) : Prop :=
 ∃ q1 : Addr,∃ w1 : World,Ru (Instr.box 24 (.slice a0 l0 c0)) w0 (.pointer (some q1)) w1 ∧ ∃ q2 : Addr,∃ w2 : World,Ru (Instr.alloc 94 true (.tuple #[])) w1 (.pointer (some q2)) w2 ∧ ∃ (a7 : Option Addr) (l7 c7 : Nat),Ru (Instr.loadAt 24 (.pointer (some q1))) w2 (.slice a7 l7 c7) w2 ∧ (bif (l7 : Int) != 256 then
 ∃ g10 : Array Value,Al (Instr.build 94 #[]) (.agg g10) ∧ ∃ w3 : World,RuU (Instr.storeAt 94 (.pointer (some q2)) (.agg g10)) w2 w3 ∧ ∃ gR2 : Array Value,Ru (Instr.loadAt 94 (.pointer (some q2))) w3 (.agg gR2) w3 ∧ K (.tuple #[.agg gR2,.int .i64 4]) w3
 else
 ∃ (a12 : Option Addr) (l12 c12 : Nat),Ru (Instr.loadAt 24 (.pointer (some q1))) w2 (.slice a12 l12 c12) w2 ∧ ∃ (a13 : Option Addr) (l13 c13 : Nat),Al (Instr.sliceAt 24 (.slice a12 l12 c12) none (some (.int .i64 4)) none) (.slice a13 l13 c13) ∧ ∃ s14 : ByteArray,Ru (convert 24 9 (.slice a13 l13 c13)) w2 (.string s14) w2 ∧ (bif !((ByteArray.toList s14) == (ByteArray.toList (⟨#[76,86,69,69]⟩))) then
 ∃ g16 : Array Value,Al (Instr.build 94 #[]) (.agg g16) ∧ ∃ w4 : World,RuU (Instr.storeAt 94 (.pointer (some q2)) (.agg g16)) w2 w4 ∧ ∃ gR2_2 : Array Value,Ru (Instr.loadAt 94 (.pointer (some q2))) w4 (.agg gR2_2) w4 ∧ K (.tuple #[.agg gR2_2,.int .i64 8]) w4
 else
 ∃ (a18 : Option Addr) (l18 c18 : Nat),Ru (Instr.loadAt 24 (.pointer (some q1))) (drew w2) (.slice a18 l18 c18) (drew w2) ∧ ∃ (a19 : Option Addr) (l19 c19 : Nat),Al (Instr.sliceAt 24 (.slice a18 l18 c18) (some (.int .i64 252)) none none) (.slice a19 l19 c19) ∧ ∃ (a21 : Option Addr) (l21 c21 : Nat),Ru (Instr.loadAt 24 (.pointer (some q1))) (drew w2) (.slice a21 l21 c21) (drew w2) ∧ ∃ (a22 : Option Addr) (l22 c22 : Nat),Al (Instr.sliceAt 24 (.slice a21 l21 c21) none (some (.int .i64 252)) none) (.slice a22 l22 c22) ∧ Cal Tryz.prog F_num_Get #[.slice a19 l19 c19] (drew w2) fun r20 w5 => ∃ n20 : Int,r20 = .int .u64 n20 ∧ Ru (Instr.loadAt 24 (.pointer (some q1))) w5 (.slice a21 l21 c21) w5 ∧ Cal Tryz.prog F_num_Sum #[.slice a22 l22 c22] w5 fun r23 w6 => ∃ n23 : Int,r23 = .int .u32 n23 ∧ (bif n20 != (IntKind.u64.wrap n23) then
 ∃ g26 : Array Value,Al (Instr.build 94 #[]) (.agg g26) ∧ ∃ w7 : World,RuU (Instr.storeAt 94 (.pointer (some q2)) (.agg g26)) w6 w7 ∧ ∃ gR2_3 : Array Value,Ru (Instr.loadAt 94 (.pointer (some q2))) w7 (.agg gR2_3) w7 ∧ K (.tuple #[.agg gR2_3,.int .i64 7]) w7
 else
 ∃ (a28 : Option Addr) (l28 c28 : Nat),Ru (Instr.loadAt 24 (.pointer (some q1))) w6 (.slice a28 l28 c28) w6 ∧ ∃ (a29 : Option Addr) (l29 c29 : Nat),Al (Instr.sliceAt 24 (.slice a28 l28 c28) (some (.int .i64 4)) (some (.int .i64 12)) none) (.slice a29 l29 c29) ∧ Cal Tryz.prog F_num_Get #[.slice a29 l29 c29] w6 fun r30 w8 => ∃ n30 : Int,r30 = .int .u64 n30 ∧ Dyn Tryz.prog (.func (.func F_super_Get_1) #[] #[.pointer (some q1)]) #[.int .i64 12] w8 fun r33 w9 => ∃ n33 : Int,r33 = .int .i64 n33 ∧ Dyn Tryz.prog (.func (.func F_super_Get_1) #[] #[.pointer (some q1)]) #[.int .i64 14] w9 fun r35 w10 => ∃ n35 : Int,r35 = .int .i64 n35 ∧ Dyn Tryz.prog (.func (.func F_super_Get_1) #[] #[.pointer (some q1)]) #[.int .i64 16] w10 fun r37 w11 => ∃ n37 : Int,r37 = .int .i64 n37 ∧ ∃ g38 : Array Value,Al (Instr.build 23 #[(0,.int .i64 n33),(1,.int .i64 n35),(2,.int .i64 n37)]) (.agg g38) ∧ ∃ g39 : Array Value,Al (Instr.build 94 #[(0,.int .i64 (IntKind.i64.wrap n30)),(1,.agg g38)]) (.agg g39) ∧ ∃ q5 : Addr,∃ w12 : World,Ru (Instr.alloc 94 true (.tuple #[])) w11 (.pointer (some q5)) w12 ∧ ∃ w13 : World,RuU (Instr.storeAt 94 (.pointer (some q5)) (.agg g39)) w12 w13 ∧ ∃ g41 : Array Value,Ru (Instr.loadAt 94 (.pointer (some q5))) w13 (.agg g41) w13 ∧ Cal Tryz.prog F_super_Super_right #[.agg g41] w13 fun r42 w14 => ∃ b42 : Bool,r42 = .bool b42 ∧ (bif !b42 then
 ∃ g44 : Array Value,Al (Instr.build 94 #[]) (.agg g44) ∧ ∃ w15 : World,RuU (Instr.storeAt 94 (.pointer (some q2)) (.agg g44)) w14 w15 ∧ ∃ gR2_4 : Array Value,Ru (Instr.loadAt 94 (.pointer (some q2))) w15 (.agg gR2_4) w15 ∧ K (.tuple #[.agg gR2_4,.int .i64 1]) w15
 else
 ∃ (a46 : Option Addr) (l46 c46 : Nat),Ru (Instr.loadAt 24 (.pointer (some q1))) w14 (.slice a46 l46 c46) w14 ∧ ∃ (a47 : Option Addr) (l47 c47 : Nat),Al (Instr.sliceAt 24 (.slice a46 l46 c46) (some (.int .i64 18)) (some (.int .i64 252)) none) (.slice a47 l47 c47) ∧ Cal Tryz.prog F_num_Zero #[.slice a47 l47 c47] w14 fun r48 w16 => ∃ b48 : Bool,r48 = .bool b48 ∧ (bif !b48 then
 ∃ g50 : Array Value,Al (Instr.build 94 #[]) (.agg g50) ∧ ∃ w17 : World,RuU (Instr.storeAt 94 (.pointer (some q2)) (.agg g50)) w16 w17 ∧ ∃ gR2_5 : Array Value,Ru (Instr.loadAt 94 (.pointer (some q2))) w17 (.agg gR2_5) w17 ∧ K (.tuple #[.agg gR2_5,.int .i64 8]) w17
 else
 ∃ g51 : Array Value,Ru (Instr.loadAt 94 (.pointer (some q5))) w16 (.agg g51) w16 ∧ ∃ w18 : World,RuU (Instr.storeAt 94 (.pointer (some q2)) (.agg g51)) w16 w18 ∧ ∃ gR2_6 : Array Value,Ru (Instr.loadAt 94 (.pointer (some q2))) w18 (.agg gR2_6) w18 ∧ K (.tuple #[.agg gR2_6,.int .i64 0]) w18)))))
set_option maxRecDepth 100000 in
theorem C_super_Get (a0 : Option Addr) (l0 c0 : Nat) (w0 : World) (K : Value → World → Prop) (h : D_super_Get a0 l0 c0 w0 K) : Cal Tryz.prog F_super_Get #[.slice a0 l0 c0] w0 K :=
 denF_sound (A := { S := [],ty := [],raw := [] }) mixed Tryz.func99 (by kernel_rfl) (by kernel_rfl) ((show denF Tryz.prog _ Tryz.f99 _ w0 K = D_super_Get a0 l0 c0 w0 K by kernel_rfl).mpr h)
set_option maxRecDepth 100000 in
def D_super_Super_place (g0 : Array Value) (w0 : World) (K : Value → World → Prop) : Prop :=
 ∃ q1 : Addr,∃ w1 : World,Ru (Instr.box 94 (.agg g0)) w0 (.pointer (some q1)) w1 ∧ ∃ n4 : Int,Ru (Instr.loadAt 2 (.pointer (some (Addr.add q1 0)))) w1 (.int .i64 n4) w1 ∧ K (.int .i64 (Int.tmod n4 2)) w1
set_option maxRecDepth 100000 in
theorem C_super_Super_place (g0 : Array Value) (w0 : World) (K : Value → World → Prop) (h : D_super_Super_place g0 w0 K) : Cal Tryz.prog F_super_Super_place #[.agg g0] w0 K :=
 denF_sound (A := { S := [],ty := [],raw := [] }) mixed Tryz.func100 (by kernel_rfl) (by kernel_rfl) ((show denF Tryz.prog _ Tryz.f100 _ w0 K = D_super_Super_place g0 w0 K by kernel_rfl).mpr h)
set_option maxRecDepth 100000 in
def D_leveeref11_Store_Read (p0 : Option Addr) (n1 : Int) (w0 : World) (K : Value → World → Prop) : Prop :=
 Cal Tryz.prog F_leveeref11_Store_there #[.pointer p0,.int .i64 n1] w0 fun r10 w1 => ∃ b10 : Bool,r10 = .bool b10 ∧ (bif !b10 then
 K (.tuple #[.slice none 0 0,.int .i64 3]) w1
 else
 ∃ q13 : Addr,(.pointer p0 : Value) = .pointer (some q13) ∧ ∃ (a15 : Option Addr) (l15 c15 : Nat),Ru (Instr.loadAt 86 (.pointer (some (Addr.add q13 1)))) w1 (.slice a15 l15 c15) w1 ∧ ∃ q17 : Addr,Al (Instr.indexAt 86 (.slice a15 l15 c15) (.int .i64 n1)) (.pointer (some q17)) ∧ ∃ s18 : ByteArray,Ru (Instr.loadAt 9 (.pointer (some q17))) w1 (.string s18) w1 ∧ ∃ (a19 : Option Addr) (l19 c19 : Nat),∃ w2 : World,Ru (convert 9 24 (.string s18)) w1 (.slice a19 l19 c19) w2 ∧ LoopC (fun k x w3 =>
 ∃ n7 : Int,nth x 1 = .int .i64 n7 ∧ ∃ q22 : Addr,(.pointer p0 : Value) = .pointer (some q22) ∧ ∃ (a24 : Option Addr) (l24 c24 : Nat),Ru (Instr.loadAt 169 (.pointer (some (Addr.add q22 2)))) w3 (.slice a24 l24 c24) w3 ∧ (bif decide (n7 < (l24 : Int)) then
 ∃ q30 : Addr,(.pointer p0 : Value) = .pointer (some q30) ∧ ∃ (a32 : Option Addr) (l32 c32 : Nat),Ru (Instr.loadAt 169 (.pointer (some (Addr.add q30 2)))) w3 (.slice a32 l32 c32) w3 ∧ ∃ q34 : Addr,Al (Instr.indexAt 169 (.slice a32 l32 c32) (.int .i64 n7)) (.pointer (some q34)) ∧ ∃ n36 : Int,Ru (Instr.loadAt 3 (.pointer (some (Addr.add q34 1)))) w3 (.int .i64 n36) w3 ∧ Share (fun k_2 => (bif n36 == n1 then
 ∃ (a6 : Option Addr) (l6 c6 : Nat),nth x 0 = .slice a6 l6 c6 ∧ ∃ q41 : Addr,(.pointer p0 : Value) = .pointer (some q41) ∧ ∃ (a43 : Option Addr) (l43 c43 : Nat),Ru (Instr.loadAt 169 (.pointer (some (Addr.add q41 2)))) w3 (.slice a43 l43 c43) w3 ∧ ∃ q45 : Addr,Al (Instr.indexAt 169 (.slice a43 l43 c43) (.int .i64 n7)) (.pointer (some q45)) ∧ ∃ g46 : Array Value,Ru (Instr.loadAt 213 (.pointer (some q45))) w3 (.agg g46) w3 ∧ Cal Tryz.prog F_leveeref11_upon #[.slice a6 l6 c6,.agg g46] w3 fun r47 w4 => ∃ (a47 : Option Addr) (l47 c47 : Nat),r47 = .slice a47 l47 c47 ∧ k_2 [.slice a47 l47 c47] w4
 else
 k_2 [nth x 0] w3)) fun x_2 w5 =>
 k [nth x_2 0,.int .i64 (IntKind.i64.wrap (n7 + 1))] w5
 else
 ∃ (a6_2 : Option Addr) (l6_2 c6_2 : Nat),nth x 0 = .slice a6_2 l6_2 c6_2 ∧ K (.tuple #[.slice a6_2 l6_2 c6_2,.int .i64 0]) w3)) [.slice a19 l19 c19,.int .i64 0] w2)
set_option maxRecDepth 100000 in
theorem C_leveeref11_Store_Read (p0 : Option Addr) (n1 : Int) (w0 : World) (K : Value → World → Prop) (h : D_leveeref11_Store_Read p0 n1 w0 K) : Cal Tryz.prog F_leveeref11_Store_Read #[.pointer p0,.int .i64 n1] w0 K :=
 denF_sound (A := { S := [6,7],ty := [(6,24),(7,3)],raw := [] }) mixed Tryz.func102 (by kernel_rfl) (by kernel_rfl) ((show denF Tryz.prog _ Tryz.f102 _ w0 K = D_leveeref11_Store_Read p0 n1 w0 K by kernel_rfl).mpr h)
set_option maxRecDepth 100000 in
def D_geo_Place (g0 : Array Value) (n1 : Int) (w0 : World) (K : Value → World → Prop) : Prop :=
 ∃ q2 : Addr,∃ w1 : World,Ru (Instr.box 23 (.agg g0)) w0 (.pointer (some q2)) w1 ∧ ∃ g11 : Array Value,Ru (Instr.loadAt 23 (.pointer (some q2))) w1 (.agg g11) w1 ∧ Cal Tryz.prog F_geo_Right #[.agg g11] w1 fun r12 w2 => ∃ b12 : Bool,r12 = .bool b12 ∧ (bif !b12 then
 K (.tuple #[.int .i64 0,.int .i64 0,.int .i64 1]) w2
 else
 Share (fun k => (bif decide (n1 < 0) then k [.bool true] w2 else ∃ g19 : Array Value,Ru (Instr.loadAt 23 (.pointer (some q2))) w2 (.agg g19) w2 ∧ Cal Tryz.prog F_geo_Slots #[.agg g19] w2 fun r20 w3 => ∃ n20 : Int,r20 = .int .i64 n20 ∧ k [.bool (decide (n1 ≥ n20))] w3)) fun x w4 =>
 ∃ b14 : Bool,nth x 0 = .bool b14 ∧ (bif b14 then
 K (.tuple #[.int .i64 0,.int .i64 0,.int .i64 3]) w4
 else
 ∃ n25 : Int,Ru (Instr.loadAt 3 (.pointer (some (Addr.add q2 1)))) w4 (.int .i64 n25) w4 ∧ ∃ n26 : Int,Al (eqS .rem 3 (.tmp 23) (.tmp 25) (.int .i64 n1) (.int .i64 n25)) (.int .i64 n26) ∧ ∃ g28 : Array Value,Ru (Instr.loadAt 23 (.pointer (some q2))) (drew w4) (.agg g28) (drew w4) ∧ ∃ n31 : Int,Ru (Instr.loadAt 3 (.pointer (some (Addr.add q2 1)))) (drew w4) (.int .i64 n31) (drew w4) ∧ ∃ n32 : Int,Al (eqS .quo 3 (.tmp 29) (.tmp 31) (.int .i64 n1) (.int .i64 n31)) (.int .i64 n32) ∧ Cal Tryz.prog F_geo_Head #[.agg g28,.int .i64 n32] (drew w4) fun r33 w5 => ∃ n33a : Int,∃ n33b : Int,r33 = .tuple #[.int .i64 n33a,.int .i64 n33b] ∧ K (.tuple #[.int .i64 (IntKind.i64.wrap ((IntKind.i64.wrap (n33a + 1)) + (IntKind.i64.wrap (Int.tdiv n26 4)))),.int .i64 (Int.tmod n26 4),.int .i64 0]) w5))
set_option maxRecDepth 100000 in
theorem C_geo_Place (g0 : Array Value) (n1 : Int) (w0 : World) (K : Value → World → Prop) (h : D_geo_Place g0 n1 w0 K) : Cal Tryz.prog F_geo_Place #[.agg g0,.int .i64 n1] w0 K :=
 denF_sound (A := { S := [14],ty := [(14,4)],raw := [] }) mixed Tryz.func106 (by kernel_rfl) (by kernel_rfl) ((show denF Tryz.prog _ Tryz.f106 _ w0 K = D_geo_Place g0 n1 w0 K by kernel_rfl).mpr h)
set_option maxRecDepth 100000 in
def D_cache_Cache_Read (p0 : Option Addr) (n1 : Int) (w0 : World) (K : Value → World → Prop) : Prop :=
 Cal Tryz.prog F_cache_Cache_may #[.pointer p0,.int .i64 n1,.slice none 0 0,.slice none 0 0] w0 fun r11 w1 => ∃ n11 : Int,r11 = .int .i64 n11 ∧ (bif n11 != 0 then
 K (.tuple #[.slice none 0 0,.int .i64 n11]) w1
 else
 Cal Tryz.prog F_cache_Cache_ask #[.pointer p0,.int .i64 n1] w1 fun r18 w2 => ∃ p18a : Option Addr,∃ n18b : Int,r18 = .tuple #[.pointer p18a,.int .i64 n18b] ∧ (bif n18b != 0 then
 K (.tuple #[.slice none 0 0,.int .i64 n18b]) w2
 else
 ∃ q25 : Addr,(.pointer p18a : Value) = .pointer (some q25) ∧ ∃ (a28 : Option Addr) (l28 c28 : Nat),Ru (Instr.loadAt 24 (.pointer (some (Addr.add (Addr.add q25 0) 0)))) w2 (.slice a28 l28 c28) w2 ∧ Cal Tryz.prog F_slices_Clone_byte #[.slice a28 l28 c28] w2 fun r29 w3 => ∃ (a29 : Option Addr) (l29 c29 : Nat),r29 = .slice a29 l29 c29 ∧ K (.tuple #[.slice a29 l29 c29,.int .i64 0]) w3))
set_option maxRecDepth 100000 in
theorem C_cache_Cache_Read (p0 : Option Addr) (n1 : Int) (w0 : World) (K : Value → World → Prop) (h : D_cache_Cache_Read p0 n1 w0 K) : Cal Tryz.prog F_cache_Cache_Read #[.pointer p0,.int .i64 n1] w0 K :=
 denF_sound (A := { S := [],ty := [],raw := [] }) mixed Tryz.func107 (by kernel_rfl) (by kernel_rfl) ((show denF Tryz.prog _ Tryz.f107 _ w0 K = D_cache_Cache_Read p0 n1 w0 K by kernel_rfl).mpr h)
set_option maxRecDepth 100000 in
def D_inode_may (a0 : Option Addr) (l0 c0 : Nat) (n1 : Int) (w0 : World) (K : Value → World → Prop) : Prop :=
 (bif (l0 : Int) != 256 then
 K (.int .i64 4) w0
 else
 Share (fun k => (bif decide (n1 < 0) then k [.bool true] w0 else k [.bool (decide (n1 ≥ 4))] w0)) fun x w1 =>
 ∃ b9 : Bool,nth x 0 = .bool b9 ∧ (bif b9 then
 K (.int .i64 3) w1
 else
 K (.int .i64 0) w1))
set_option maxRecDepth 100000 in
theorem C_inode_may (a0 : Option Addr) (l0 c0 : Nat) (n1 : Int) (w0 : World) (K : Value → World → Prop) (h : D_inode_may a0 l0 c0 n1 w0 K) : Cal Tryz.prog F_inode_may #[.slice a0 l0 c0,.int .i64 n1] w0 K :=
 denF_sound (A := { S := [9],ty := [(9,4)],raw := [] }) mixed Tryz.func108 (by kernel_rfl) (by kernel_rfl) ((show denF Tryz.prog _ Tryz.f108 _ w0 K = D_inode_may a0 l0 c0 n1 w0 K by kernel_rfl).mpr h)
set_option maxRecDepth 100000 in
def D_inode_Get (a0 : Option Addr) (l0 c0 : Nat) (w0 : World) (K : Value → World → Prop) : Prop :=
 ∃ q2 : Addr,∃ w1 : World,Ru (Instr.alloc 55 true (.tuple #[])) w0 (.pointer (some q2)) w1 ∧ (bif (l0 : Int) != 64 then
 ∃ g10 : Array Value,Al (Instr.build 55 #[]) (.agg g10) ∧ ∃ w2 : World,RuU (Instr.storeAt 55 (.pointer (some q2)) (.agg g10)) w1 w2 ∧ ∃ gR2 : Array Value,Ru (Instr.loadAt 55 (.pointer (some q2))) w2 (.agg gR2) w2 ∧ K (.tuple #[.agg gR2,.int .i64 4]) w2
 else
 ∃ q12 : Addr,Al (Instr.indexAt 24 (.slice a0 l0 c0) (.int .i64 0)) (.pointer (some q12)) ∧ ∃ n13 : Int,Ru (Instr.loadAt 5 (.pointer (some q12))) (drew w1) (.int .u8 n13) (drew w1) ∧ ∃ (a16 : Option Addr) (l16 c16 : Nat),Al (Instr.sliceAt 24 (.slice a0 l0 c0) (some (.int .i64 2)) (some (.int .i64 4)) none) (.slice a16 l16 c16) ∧ ∃ (a20 : Option Addr) (l20 c20 : Nat),Al (Instr.sliceAt 24 (.slice a0 l0 c0) (some (.int .i64 4)) (some (.int .i64 8)) none) (.slice a20 l20 c20) ∧ ∃ (a24 : Option Addr) (l24 c24 : Nat),Al (Instr.sliceAt 24 (.slice a0 l0 c0) (some (.int .i64 8)) (some (.int .i64 16)) none) (.slice a24 l24 c24) ∧ (Cal Tryz.prog F_num_Get #[.slice a16 l16 c16] (drew w1) fun r17 w3 => ∃ n17 : Int,r17 = .int .u64 n17 ∧ Ru (Instr.loadAt 5 (.pointer (some q12))) w3 (.int .u8 n13) w3 ∧ (Cal Tryz.prog F_num_Get #[.slice a20 l20 c20] w3 fun r21 w4 => ∃ n21 : Int,r21 = .int .u64 n21 ∧ Ru (Instr.loadAt 5 (.pointer (some q12))) w4 (.int .u8 n13) w4 ∧ (Cal Tryz.prog F_num_Get #[.slice a24 l24 c24] w4 fun r25 w5 => ∃ n25 : Int,r25 = .int .u64 n25 ∧ Ru (Instr.loadAt 5 (.pointer (some q12))) w5 (.int .u8 n13) w5 ∧ ∃ g27 : Array Value,Al (Instr.build 55 #[(0,.int .i64 (IntKind.i64.wrap n13)),(1,.int .i64 (IntKind.i64.wrap n17)),(2,.int .i64 (IntKind.i64.wrap n21)),(3,.int .i64 (IntKind.i64.wrap n25))]) (.agg g27) ∧ ∃ q4 : Addr,∃ w6 : World,Ru (Instr.alloc 55 true (.tuple #[])) w5 (.pointer (some q4)) w6 ∧ Ru (Instr.loadAt 5 (.pointer (some q12))) w6 (.int .u8 n13) w6 ∧ ∃ w7 : World,RuU (Instr.storeAt 55 (.pointer (some q4)) (.agg g27)) w6 w7 ∧ ∃ q5 : Addr,∃ w8 : World,Ru (Instr.alloc 177 true (.tuple #[])) w7 (.pointer (some q5)) w8 ∧ LoopC (fun k x w9 =>
 ∃ n28 : Int,nth x 0 = .int .i64 n28 ∧ (bif decide (n28 < 8) then
 ∃ (a40 : Option Addr) (l40 c40 : Nat),Al (Instr.sliceAt 24 (.slice a0 l0 c0) (some (.int .i64 (IntKind.i64.wrap (16 + (IntKind.i64.wrap (n28 * 2)))))) (some (.int .i64 (IntKind.i64.wrap (16 + (IntKind.i64.wrap ((IntKind.i64.wrap (n28 + 1)) * 2)))))) none) (.slice a40 l40 c40) ∧ Cal Tryz.prog F_num_Get #[.slice a40 l40 c40] w9 fun r41 w10 => ∃ n41 : Int,r41 = .int .u64 n41 ∧ ∃ q43 : Addr,Al (Instr.indexAt 177 (.pointer (some q5)) (.int .i64 n28)) (.pointer (some q43)) ∧ ∃ w11 : World,RuU (Instr.storeAt 3 (.pointer (some q43)) (.int .i64 (IntKind.i64.wrap n41))) w10 w11 ∧ k [.int .i64 (IntKind.i64.wrap (n28 + 1))] w11
 else
 ∃ (a46 : Option Addr) (l46 c46 : Nat),Al (Instr.sliceAt 53 (.pointer (some (Addr.add q4 4))) none none none) (.slice a46 l46 c46) ∧ ∃ (a47 : Option Addr) (l47 c47 : Nat),Al (Instr.sliceAt 177 (.pointer (some q5)) none none none) (.slice a47 l47 c47) ∧ ∃ n48 : Int,∃ w12 : World,Ru (Builtin.copy_ #[103,103] 3 #[.slice a46 l46 c46,.slice a47 l47 c47]) (drew w9) (.int .i64 n48) w12 ∧ ∃ q49 : Addr,Al (Instr.indexAt 177 (.pointer (some q5)) (.int .i64 6)) (.pointer (some q49)) ∧ ∃ n50 : Int,Ru (Instr.loadAt 3 (.pointer (some q49))) w12 (.int .i64 n50) w12 ∧ ∃ q51 : Addr,Al (Instr.indexAt 177 (.pointer (some q5)) (.int .i64 7)) (.pointer (some q51)) ∧ ∃ n52 : Int,Ru (Instr.loadAt 3 (.pointer (some q51))) w12 (.int .i64 n52) w12 ∧ ∃ w13 : World,RuU (Instr.storeAt 3 (.pointer (some (Addr.add q4 10))) (.int .i64 n50)) w12 w13 ∧ ∃ w14 : World,RuU (Instr.storeAt 3 (.pointer (some (Addr.add q4 11))) (.int .i64 n52)) w13 w14 ∧ Share (fun k_2 => ∃ q56 : Addr,Al (Instr.indexAt 24 (.slice a0 l0 c0) (.int .i64 1)) (.pointer (some q56)) ∧ ∃ n57 : Int,Ru (Instr.loadAt 5 (.pointer (some q56))) w14 (.int .u8 n57) w14 ∧ (bif n57 != 0 then k_2 [.bool true] w14 else ∃ (a61 : Option Addr) (l61 c61 : Nat),Al (Instr.sliceAt 24 (.slice a0 l0 c0) (some (.int .i64 32)) none none) (.slice a61 l61 c61) ∧ Cal Tryz.prog F_num_Zero #[.slice a61 l61 c61] w14 fun r62 w15 => ∃ b62 : Bool,r62 = .bool b62 ∧ (bif !b62 then k_2 [.bool true] w15 else ∃ g66 : Array Value,Ru (Instr.loadAt 55 (.pointer (some q4))) w15 (.agg g66) w15 ∧ Cal Tryz.prog F_inode_Right #[.agg g66] w15 fun r67 w16 => ∃ b67 : Bool,r67 = .bool b67 ∧ k_2 [.bool (!b67)] w16))) fun x_2 w17 =>
 ∃ b69 : Bool,nth x_2 0 = .bool b69 ∧ (bif b69 then
 ∃ g70 : Array Value,Al (Instr.build 55 #[]) (.agg g70) ∧ ∃ w18 : World,RuU (Instr.storeAt 55 (.pointer (some q2)) (.agg g70)) w17 w18 ∧ ∃ gR2_2 : Array Value,Ru (Instr.loadAt 55 (.pointer (some q2))) w18 (.agg gR2_2) w18 ∧ K (.tuple #[.agg gR2_2,.int .i64 8]) w18
 else
 ∃ g71 : Array Value,Ru (Instr.loadAt 55 (.pointer (some q4))) w17 (.agg g71) w17 ∧ ∃ w19 : World,RuU (Instr.storeAt 55 (.pointer (some q2)) (.agg g71)) w17 w19 ∧ ∃ gR2_3 : Array Value,Ru (Instr.loadAt 55 (.pointer (some q2))) w19 (.agg gR2_3) w19 ∧ K (.tuple #[.agg gR2_3,.int .i64 0]) w19))) [.int .i64 0] w8) ∧ (∃ q4_2 : Addr,∃ w20 : World,Ru (Instr.alloc 55 true (.tuple #[])) w4 (.pointer (some q4_2)) w20 ∧ Ru (Instr.loadAt 5 (.pointer (some q12))) w20 (.int .u8 n13) w20 ∧ Cal Tryz.prog F_num_Get #[.slice a24 l24 c24] w20 fun r25_2 w21 => ∃ n25_2 : Int,r25_2 = .int .u64 n25_2 ∧ Ru (Instr.loadAt 5 (.pointer (some q12))) w21 (.int .u8 n13) w21 ∧ ∃ g27_2 : Array Value,Al (Instr.build 55 #[(0,.int .i64 (IntKind.i64.wrap n13)),(1,.int .i64 (IntKind.i64.wrap n17)),(2,.int .i64 (IntKind.i64.wrap n21)),(3,.int .i64 (IntKind.i64.wrap n25_2))]) (.agg g27_2) ∧ ∃ w22 : World,RuU (Instr.storeAt 55 (.pointer (some q4_2)) (.agg g27_2)) w21 w22 ∧ ∃ q5_2 : Addr,∃ w23 : World,Ru (Instr.alloc 177 true (.tuple #[])) w22 (.pointer (some q5_2)) w23 ∧ LoopC (fun k_3 x_3 w24 =>
 ∃ n28_2 : Int,nth x_3 0 = .int .i64 n28_2 ∧ (bif decide (n28_2 < 8) then
 ∃ (a40_2 : Option Addr) (l40_2 c40_2 : Nat),Al (Instr.sliceAt 24 (.slice a0 l0 c0) (some (.int .i64 (IntKind.i64.wrap (16 + (IntKind.i64.wrap (n28_2 * 2)))))) (some (.int .i64 (IntKind.i64.wrap (16 + (IntKind.i64.wrap ((IntKind.i64.wrap (n28_2 + 1)) * 2)))))) none) (.slice a40_2 l40_2 c40_2) ∧ Cal Tryz.prog F_num_Get #[.slice a40_2 l40_2 c40_2] w24 fun r41_2 w25 => ∃ n41_2 : Int,r41_2 = .int .u64 n41_2 ∧ ∃ q43_2 : Addr,Al (Instr.indexAt 177 (.pointer (some q5_2)) (.int .i64 n28_2)) (.pointer (some q43_2)) ∧ ∃ w26 : World,RuU (Instr.storeAt 3 (.pointer (some q43_2)) (.int .i64 (IntKind.i64.wrap n41_2))) w25 w26 ∧ k_3 [.int .i64 (IntKind.i64.wrap (n28_2 + 1))] w26
 else
 ∃ (a46_2 : Option Addr) (l46_2 c46_2 : Nat),Al (Instr.sliceAt 53 (.pointer (some (Addr.add q4_2 4))) none none none) (.slice a46_2 l46_2 c46_2) ∧ ∃ (a47_2 : Option Addr) (l47_2 c47_2 : Nat),Al (Instr.sliceAt 177 (.pointer (some q5_2)) none none none) (.slice a47_2 l47_2 c47_2) ∧ ∃ n48_2 : Int,∃ w27 : World,Ru (Builtin.copy_ #[103,103] 3 #[.slice a46_2 l46_2 c46_2,.slice a47_2 l47_2 c47_2]) (drew w24) (.int .i64 n48_2) w27 ∧ ∃ q49_2 : Addr,Al (Instr.indexAt 177 (.pointer (some q5_2)) (.int .i64 6)) (.pointer (some q49_2)) ∧ ∃ n50_2 : Int,Ru (Instr.loadAt 3 (.pointer (some q49_2))) w27 (.int .i64 n50_2) w27 ∧ ∃ q51_2 : Addr,Al (Instr.indexAt 177 (.pointer (some q5_2)) (.int .i64 7)) (.pointer (some q51_2)) ∧ ∃ n52_2 : Int,Ru (Instr.loadAt 3 (.pointer (some q51_2))) w27 (.int .i64 n52_2) w27 ∧ ∃ w28 : World,RuU (Instr.storeAt 3 (.pointer (some (Addr.add q4_2 10))) (.int .i64 n50_2)) w27 w28 ∧ ∃ w29 : World,RuU (Instr.storeAt 3 (.pointer (some (Addr.add q4_2 11))) (.int .i64 n52_2)) w28 w29 ∧ Share (fun k_4 => ∃ q56_2 : Addr,Al (Instr.indexAt 24 (.slice a0 l0 c0) (.int .i64 1)) (.pointer (some q56_2)) ∧ ∃ n57_2 : Int,Ru (Instr.loadAt 5 (.pointer (some q56_2))) w29 (.int .u8 n57_2) w29 ∧ (bif n57_2 != 0 then k_4 [.bool true] w29 else ∃ (a61_2 : Option Addr) (l61_2 c61_2 : Nat),Al (Instr.sliceAt 24 (.slice a0 l0 c0) (some (.int .i64 32)) none none) (.slice a61_2 l61_2 c61_2) ∧ Cal Tryz.prog F_num_Zero #[.slice a61_2 l61_2 c61_2] w29 fun r62_2 w30 => ∃ b62_2 : Bool,r62_2 = .bool b62_2 ∧ (bif !b62_2 then k_4 [.bool true] w30 else ∃ g66_2 : Array Value,Ru (Instr.loadAt 55 (.pointer (some q4_2))) w30 (.agg g66_2) w30 ∧ Cal Tryz.prog F_inode_Right #[.agg g66_2] w30 fun r67_2 w31 => ∃ b67_2 : Bool,r67_2 = .bool b67_2 ∧ k_4 [.bool (!b67_2)] w31))) fun x_4 w32 =>
 ∃ b69_2 : Bool,nth x_4 0 = .bool b69_2 ∧ (bif b69_2 then
 ∃ g70_2 : Array Value,Al (Instr.build 55 #[]) (.agg g70_2) ∧ ∃ w33 : World,RuU (Instr.storeAt 55 (.pointer (some q2)) (.agg g70_2)) w32 w33 ∧ ∃ gR2_4 : Array Value,Ru (Instr.loadAt 55 (.pointer (some q2))) w33 (.agg gR2_4) w33 ∧ K (.tuple #[.agg gR2_4,.int .i64 8]) w33
 else
 ∃ g71_2 : Array Value,Ru (Instr.loadAt 55 (.pointer (some q4_2))) w32 (.agg g71_2) w32 ∧ ∃ w34 : World,RuU (Instr.storeAt 55 (.pointer (some q2)) (.agg g71_2)) w32 w34 ∧ ∃ gR2_5 : Array Value,Ru (Instr.loadAt 55 (.pointer (some q2))) w34 (.agg gR2_5) w34 ∧ K (.tuple #[.agg gR2_5,.int .i64 0]) w34))) [.int .i64 0] w23)) ∧ (∃ q4_3 : Addr,∃ w35 : World,Ru (Instr.alloc 55 true (.tuple #[])) w3 (.pointer (some q4_3)) w35 ∧ Ru (Instr.loadAt 5 (.pointer (some q12))) w35 (.int .u8 n13) w35 ∧ Cal Tryz.prog F_num_Get #[.slice a20 l20 c20] w35 fun r21_2 w36 => ∃ n21_2 : Int,r21_2 = .int .u64 n21_2 ∧ Ru (Instr.loadAt 5 (.pointer (some q12))) w36 (.int .u8 n13) w36 ∧ Cal Tryz.prog F_num_Get #[.slice a24 l24 c24] w36 fun r25_3 w37 => ∃ n25_3 : Int,r25_3 = .int .u64 n25_3 ∧ Ru (Instr.loadAt 5 (.pointer (some q12))) w37 (.int .u8 n13) w37 ∧ ∃ g27_3 : Array Value,Al (Instr.build 55 #[(0,.int .i64 (IntKind.i64.wrap n13)),(1,.int .i64 (IntKind.i64.wrap n17)),(2,.int .i64 (IntKind.i64.wrap n21_2)),(3,.int .i64 (IntKind.i64.wrap n25_3))]) (.agg g27_3) ∧ ∃ w38 : World,RuU (Instr.storeAt 55 (.pointer (some q4_3)) (.agg g27_3)) w37 w38 ∧ ∃ q5_3 : Addr,∃ w39 : World,Ru (Instr.alloc 177 true (.tuple #[])) w38 (.pointer (some q5_3)) w39 ∧ LoopC (fun k_5 x_5 w40 =>
 ∃ n28_3 : Int,nth x_5 0 = .int .i64 n28_3 ∧ (bif decide (n28_3 < 8) then
 ∃ (a40_3 : Option Addr) (l40_3 c40_3 : Nat),Al (Instr.sliceAt 24 (.slice a0 l0 c0) (some (.int .i64 (IntKind.i64.wrap (16 + (IntKind.i64.wrap (n28_3 * 2)))))) (some (.int .i64 (IntKind.i64.wrap (16 + (IntKind.i64.wrap ((IntKind.i64.wrap (n28_3 + 1)) * 2)))))) none) (.slice a40_3 l40_3 c40_3) ∧ Cal Tryz.prog F_num_Get #[.slice a40_3 l40_3 c40_3] w40 fun r41_3 w41 => ∃ n41_3 : Int,r41_3 = .int .u64 n41_3 ∧ ∃ q43_3 : Addr,Al (Instr.indexAt 177 (.pointer (some q5_3)) (.int .i64 n28_3)) (.pointer (some q43_3)) ∧ ∃ w42 : World,RuU (Instr.storeAt 3 (.pointer (some q43_3)) (.int .i64 (IntKind.i64.wrap n41_3))) w41 w42 ∧ k_5 [.int .i64 (IntKind.i64.wrap (n28_3 + 1))] w42
 else
 ∃ (a46_3 : Option Addr) (l46_3 c46_3 : Nat),Al (Instr.sliceAt 53 (.pointer (some (Addr.add q4_3 4))) none none none) (.slice a46_3 l46_3 c46_3) ∧ ∃ (a47_3 : Option Addr) (l47_3 c47_3 : Nat),Al (Instr.sliceAt 177 (.pointer (some q5_3)) none none none) (.slice a47_3 l47_3 c47_3) ∧ ∃ n48_3 : Int,∃ w43 : World,Ru (Builtin.copy_ #[103,103] 3 #[.slice a46_3 l46_3 c46_3,.slice a47_3 l47_3 c47_3]) (drew w40) (.int .i64 n48_3) w43 ∧ ∃ q49_3 : Addr,Al (Instr.indexAt 177 (.pointer (some q5_3)) (.int .i64 6)) (.pointer (some q49_3)) ∧ ∃ n50_3 : Int,Ru (Instr.loadAt 3 (.pointer (some q49_3))) w43 (.int .i64 n50_3) w43 ∧ ∃ q51_3 : Addr,Al (Instr.indexAt 177 (.pointer (some q5_3)) (.int .i64 7)) (.pointer (some q51_3)) ∧ ∃ n52_3 : Int,Ru (Instr.loadAt 3 (.pointer (some q51_3))) w43 (.int .i64 n52_3) w43 ∧ ∃ w44 : World,RuU (Instr.storeAt 3 (.pointer (some (Addr.add q4_3 10))) (.int .i64 n50_3)) w43 w44 ∧ ∃ w45 : World,RuU (Instr.storeAt 3 (.pointer (some (Addr.add q4_3 11))) (.int .i64 n52_3)) w44 w45 ∧ Share (fun k_6 => ∃ q56_3 : Addr,Al (Instr.indexAt 24 (.slice a0 l0 c0) (.int .i64 1)) (.pointer (some q56_3)) ∧ ∃ n57_3 : Int,Ru (Instr.loadAt 5 (.pointer (some q56_3))) w45 (.int .u8 n57_3) w45 ∧ (bif n57_3 != 0 then k_6 [.bool true] w45 else ∃ (a61_3 : Option Addr) (l61_3 c61_3 : Nat),Al (Instr.sliceAt 24 (.slice a0 l0 c0) (some (.int .i64 32)) none none) (.slice a61_3 l61_3 c61_3) ∧ Cal Tryz.prog F_num_Zero #[.slice a61_3 l61_3 c61_3] w45 fun r62_3 w46 => ∃ b62_3 : Bool,r62_3 = .bool b62_3 ∧ (bif !b62_3 then k_6 [.bool true] w46 else ∃ g66_3 : Array Value,Ru (Instr.loadAt 55 (.pointer (some q4_3))) w46 (.agg g66_3) w46 ∧ Cal Tryz.prog F_inode_Right #[.agg g66_3] w46 fun r67_3 w47 => ∃ b67_3 : Bool,r67_3 = .bool b67_3 ∧ k_6 [.bool (!b67_3)] w47))) fun x_6 w48 =>
 ∃ b69_3 : Bool,nth x_6 0 = .bool b69_3 ∧ (bif b69_3 then
 ∃ g70_3 : Array Value,Al (Instr.build 55 #[]) (.agg g70_3) ∧ ∃ w49 : World,RuU (Instr.storeAt 55 (.pointer (some q2)) (.agg g70_3)) w48 w49 ∧ ∃ gR2_6 : Array Value,Ru (Instr.loadAt 55 (.pointer (some q2))) w49 (.agg gR2_6) w49 ∧ K (.tuple #[.agg gR2_6,.int .i64 8]) w49
 else
 ∃ g71_3 : Array Value,Ru (Instr.loadAt 55 (.pointer (some q4_3))) w48 (.agg g71_3) w48 ∧ ∃ w50 : World,RuU (Instr.storeAt 55 (.pointer (some q2)) (.agg g71_3)) w48 w50 ∧ ∃ gR2_7 : Array Value,Ru (Instr.loadAt 55 (.pointer (some q2))) w50 (.agg gR2_7) w50 ∧ K (.tuple #[.agg gR2_7,.int .i64 0]) w50))) [.int .i64 0] w39)) ∧ (∃ q4_4 : Addr,∃ w51 : World,Ru (Instr.alloc 55 true (.tuple #[])) (drew w1) (.pointer (some q4_4)) w51 ∧ Ru (Instr.loadAt 5 (.pointer (some q12))) w51 (.int .u8 n13) w51 ∧ Cal Tryz.prog F_num_Get #[.slice a16 l16 c16] w51 fun r17_2 w52 => ∃ n17_2 : Int,r17_2 = .int .u64 n17_2 ∧ Ru (Instr.loadAt 5 (.pointer (some q12))) w52 (.int .u8 n13) w52 ∧ Cal Tryz.prog F_num_Get #[.slice a20 l20 c20] w52 fun r21_3 w53 => ∃ n21_3 : Int,r21_3 = .int .u64 n21_3 ∧ Ru (Instr.loadAt 5 (.pointer (some q12))) w53 (.int .u8 n13) w53 ∧ Cal Tryz.prog F_num_Get #[.slice a24 l24 c24] w53 fun r25_4 w54 => ∃ n25_4 : Int,r25_4 = .int .u64 n25_4 ∧ Ru (Instr.loadAt 5 (.pointer (some q12))) w54 (.int .u8 n13) w54 ∧ ∃ g27_4 : Array Value,Al (Instr.build 55 #[(0,.int .i64 (IntKind.i64.wrap n13)),(1,.int .i64 (IntKind.i64.wrap n17_2)),(2,.int .i64 (IntKind.i64.wrap n21_3)),(3,.int .i64 (IntKind.i64.wrap n25_4))]) (.agg g27_4) ∧ ∃ w55 : World,RuU (Instr.storeAt 55 (.pointer (some q4_4)) (.agg g27_4)) w54 w55 ∧ ∃ q5_4 : Addr,∃ w56 : World,Ru (Instr.alloc 177 true (.tuple #[])) w55 (.pointer (some q5_4)) w56 ∧ LoopC (fun k_7 x_7 w57 =>
 ∃ n28_4 : Int,nth x_7 0 = .int .i64 n28_4 ∧ (bif decide (n28_4 < 8) then
 ∃ (a40_4 : Option Addr) (l40_4 c40_4 : Nat),Al (Instr.sliceAt 24 (.slice a0 l0 c0) (some (.int .i64 (IntKind.i64.wrap (16 + (IntKind.i64.wrap (n28_4 * 2)))))) (some (.int .i64 (IntKind.i64.wrap (16 + (IntKind.i64.wrap ((IntKind.i64.wrap (n28_4 + 1)) * 2)))))) none) (.slice a40_4 l40_4 c40_4) ∧ Cal Tryz.prog F_num_Get #[.slice a40_4 l40_4 c40_4] w57 fun r41_4 w58 => ∃ n41_4 : Int,r41_4 = .int .u64 n41_4 ∧ ∃ q43_4 : Addr,Al (Instr.indexAt 177 (.pointer (some q5_4)) (.int .i64 n28_4)) (.pointer (some q43_4)) ∧ ∃ w59 : World,RuU (Instr.storeAt 3 (.pointer (some q43_4)) (.int .i64 (IntKind.i64.wrap n41_4))) w58 w59 ∧ k_7 [.int .i64 (IntKind.i64.wrap (n28_4 + 1))] w59
 else
 ∃ (a46_4 : Option Addr) (l46_4 c46_4 : Nat),Al (Instr.sliceAt 53 (.pointer (some (Addr.add q4_4 4))) none none none) (.slice a46_4 l46_4 c46_4) ∧ ∃ (a47_4 : Option Addr) (l47_4 c47_4 : Nat),Al (Instr.sliceAt 177 (.pointer (some q5_4)) none none none) (.slice a47_4 l47_4 c47_4) ∧ ∃ n48_4 : Int,∃ w60 : World,Ru (Builtin.copy_ #[103,103] 3 #[.slice a46_4 l46_4 c46_4,.slice a47_4 l47_4 c47_4]) (drew w57) (.int .i64 n48_4) w60 ∧ ∃ q49_4 : Addr,Al (Instr.indexAt 177 (.pointer (some q5_4)) (.int .i64 6)) (.pointer (some q49_4)) ∧ ∃ n50_4 : Int,Ru (Instr.loadAt 3 (.pointer (some q49_4))) w60 (.int .i64 n50_4) w60 ∧ ∃ q51_4 : Addr,Al (Instr.indexAt 177 (.pointer (some q5_4)) (.int .i64 7)) (.pointer (some q51_4)) ∧ ∃ n52_4 : Int,Ru (Instr.loadAt 3 (.pointer (some q51_4))) w60 (.int .i64 n52_4) w60 ∧ ∃ w61 : World,RuU (Instr.storeAt 3 (.pointer (some (Addr.add q4_4 10))) (.int .i64 n50_4)) w60 w61 ∧ ∃ w62 : World,RuU (Instr.storeAt 3 (.pointer (some (Addr.add q4_4 11))) (.int .i64 n52_4)) w61 w62 ∧ Share (fun k_8 => ∃ q56_4 : Addr,Al (Instr.indexAt 24 (.slice a0 l0 c0) (.int .i64 1)) (.pointer (some q56_4)) ∧ ∃ n57_4 : Int,Ru (Instr.loadAt 5 (.pointer (some q56_4))) w62 (.int .u8 n57_4) w62 ∧ (bif n57_4 != 0 then k_8 [.bool true] w62 else ∃ (a61_4 : Option Addr) (l61_4 c61_4 : Nat),Al (Instr.sliceAt 24 (.slice a0 l0 c0) (some (.int .i64 32)) none none) (.slice a61_4 l61_4 c61_4) ∧ Cal Tryz.prog F_num_Zero #[.slice a61_4 l61_4 c61_4] w62 fun r62_4 w63 => ∃ b62_4 : Bool,r62_4 = .bool b62_4 ∧ (bif !b62_4 then k_8 [.bool true] w63 else ∃ g66_4 : Array Value,Ru (Instr.loadAt 55 (.pointer (some q4_4))) w63 (.agg g66_4) w63 ∧ Cal Tryz.prog F_inode_Right #[.agg g66_4] w63 fun r67_4 w64 => ∃ b67_4 : Bool,r67_4 = .bool b67_4 ∧ k_8 [.bool (!b67_4)] w64))) fun x_8 w65 =>
 ∃ b69_4 : Bool,nth x_8 0 = .bool b69_4 ∧ (bif b69_4 then
 ∃ g70_4 : Array Value,Al (Instr.build 55 #[]) (.agg g70_4) ∧ ∃ w66 : World,RuU (Instr.storeAt 55 (.pointer (some q2)) (.agg g70_4)) w65 w66 ∧ ∃ gR2_8 : Array Value,Ru (Instr.loadAt 55 (.pointer (some q2))) w66 (.agg gR2_8) w66 ∧ K (.tuple #[.agg gR2_8,.int .i64 8]) w66
 else
 ∃ g71_4 : Array Value,Ru (Instr.loadAt 55 (.pointer (some q4_4))) w65 (.agg g71_4) w65 ∧ ∃ w67 : World,RuU (Instr.storeAt 55 (.pointer (some q2)) (.agg g71_4)) w65 w67 ∧ ∃ gR2_9 : Array Value,Ru (Instr.loadAt 55 (.pointer (some q2))) w67 (.agg gR2_9) w67 ∧ K (.tuple #[.agg gR2_9,.int .i64 0]) w67))) [.int .i64 0] w56))
set_option maxRecDepth 100000 in
theorem C_inode_Get (a0 : Option Addr) (l0 c0 : Nat) (w0 : World) (K : Value → World → Prop) (h : D_inode_Get a0 l0 c0 w0 K) : Cal Tryz.prog F_inode_Get #[.slice a0 l0 c0] w0 K :=
 denF_sound (A := { S := [28,69],ty := [(28,3),(69,4)],raw := [] }) mixed Tryz.func109 (by kernel_rfl) (by kernel_rfl) ((show denF Tryz.prog _ Tryz.f109 _ w0 K = D_inode_Get a0 l0 c0 w0 K by kernel_rfl).mpr h)
set_option maxRecDepth 100000 in
def D_inode_Right (g0 : Array Value) (w0 : World) (K : Value → World → Prop) : Prop :=
 ∃ q1 : Addr,∃ w1 : World,Ru (Instr.box 55 (.agg g0)) w0 (.pointer (some q1)) w1 ∧ ∃ g6 : Array Value,Ru (Instr.loadAt 55 (.pointer (some q1))) w1 (.agg g6) w1 ∧ Cal Tryz.prog F_inode_all #[.agg g6] w1 fun r7 w2 => ∃ g7 : Array Value,r7 = .agg g7 ∧ LoopC (fun k x w3 =>
 ∃ n8 : Int,nth x 1 = .int .i64 n8 ∧ (bif decide (n8 < 8) then
 ∃ n10 : Int,Al (Instr.index 177 (.agg g7) (.int .i64 n8)) (.int .i64 n10) ∧ Share (fun k_2 => (bif decide (n10 < 0) then k_2 [.bool true] w3 else k_2 [.bool (decide (n10 ≥ 4096))] w3)) fun x_2 w4 =>
 ∃ b16 : Bool,nth x_2 0 = .bool b16 ∧ (bif b16 then
 K (.bool false) w4
 else
 k [nth x 0,.int .i64 (IntKind.i64.wrap (n8 + 1)),.bool b16] w4)
 else
 ∃ n19 : Int,Ru (Instr.loadAt 3 (.pointer (some (Addr.add q1 0)))) w3 (.int .i64 n19) w3 ∧ Share (fun k_3 => Share (fun k_4 => (bif n19 == 0 then
 ∃ g28 : Array Value,Al (Instr.build 55 #[]) (.agg g28) ∧ ∃ q5 : Addr,∃ w5 : World,Ru (Instr.alloc 55 true (.tuple #[])) w3 (.pointer (some q5)) w5 ∧ ∃ w6 : World,RuU (Instr.storeAt 55 (.pointer (some q5)) (.agg g28)) w5 w6 ∧ ∃ g29 : Array Value,Ru (Instr.loadAt 55 (.pointer (some q1))) w6 (.agg g29) w6 ∧ ∃ g30 : Array Value,Ru (Instr.loadAt 55 (.pointer (some q5))) w6 (.agg g30) w6 ∧ ∃ b31 : Bool,Al (eqS .eql 55 (.tmp 29) (.tmp 30) (.agg g29) (.agg g30)) (.bool b31) ∧ K (.bool b31) w6
 else
 (bif n19 == 2 then
 ∃ n33 : Int,Ru (Instr.loadAt 2 (.pointer (some (Addr.add q1 2)))) w3 (.int .i64 n33) w3 ∧ (bif (Int.tmod n33 256) != 0 then
 K (.bool false) w3
 else
 k_4 [nth x 0] w3)
 else
 (bif n19 == 1 then
 k_4 [nth x 0] w3
 else
 (bif n19 == 3 then
 Share (fun k_5 => ∃ g38 : Array Value,Ru (Instr.loadAt 55 (.pointer (some q1))) w3 (.agg g38) w3 ∧ Cal Tryz.prog F_inode_sized #[.agg g38] w3 fun r39 w7 => ∃ b39 : Bool,r39 = .bool b39 ∧ (bif b39 then ∃ n42 : Int,Ru (Instr.loadAt 2 (.pointer (some (Addr.add q1 2)))) w7 (.int .i64 n42) w7 ∧ (bif decide (n42 ≥ 1) then ∃ n47 : Int,Ru (Instr.loadAt 2 (.pointer (some (Addr.add q1 2)))) w7 (.int .i64 n47) w7 ∧ k_5 [.bool (decide (n47 ≤ 255))] w7 else k_5 [.bool false] w7) else k_5 [.bool false] w7)) fun x_5 w8 =>
 ∃ b2 : Bool,nth x_5 0 = .bool b2 ∧ K (.bool b2) w8
 else
 k_3 [nth x 0] w3))))) fun x_4 w9 =>
 ∃ g36 : Array Value,Ru (Instr.loadAt 55 (.pointer (some q1))) w9 (.agg g36) w9 ∧ Cal Tryz.prog F_inode_sized #[.agg g36] w9 fun r37 w10 => ∃ b37 : Bool,r37 = .bool b37 ∧ K (.bool b37) w10) fun x_3 w11 =>
 K (.bool false) w11)) [.bool false,.int .i64 0,undef] w2
set_option maxRecDepth 100000 in
theorem C_inode_Right (g0 : Array Value) (w0 : World) (K : Value → World → Prop) (h : D_inode_Right g0 w0 K) : Cal Tryz.prog F_inode_Right #[.agg g0] w0 K :=
 denF_sound (A := { S := [2,8,16],ty := [(2,4),(8,3),(16,4)],raw := [] }) mixed Tryz.func110 (by kernel_rfl) (by kernel_rfl) ((show denF Tryz.prog _ Tryz.f110 _ w0 K = D_inode_Right g0 w0 K by kernel_rfl).mpr h)
set_option maxRecDepth 100000 in
def D_inode_all (g0 : Array Value) (w0 : World) (K : Value → World → Prop) : Prop :=
 ∃ q1 : Addr,∃ w1 : World,Ru (Instr.box 55 (.agg g0)) w0 (.pointer (some q1)) w1 ∧ ∃ q2 : Addr,∃ w2 : World,Ru (Instr.alloc 177 true (.tuple #[])) w1 (.pointer (some q2)) w2 ∧ ∃ q3 : Addr,∃ w3 : World,Ru (Instr.alloc 177 true (.tuple #[])) w2 (.pointer (some q3)) w3 ∧ ∃ (a4 : Option Addr) (l4 c4 : Nat),Al (Instr.sliceAt 177 (.pointer (some q3)) none none none) (.slice a4 l4 c4) ∧ ∃ (a6 : Option Addr) (l6 c6 : Nat),Al (Instr.sliceAt 53 (.pointer (some (Addr.add q1 4))) none none none) (.slice a6 l6 c6) ∧ ∃ n7 : Int,∃ w4 : World,Ru (Builtin.copy_ #[103,103] 3 #[.slice a4 l4 c4,.slice a6 l6 c6]) (drew w3) (.int .i64 n7) w4 ∧ ∃ n9 : Int,Ru (Instr.loadAt 3 (.pointer (some (Addr.add q1 10)))) w4 (.int .i64 n9) w4 ∧ ∃ n11 : Int,Ru (Instr.loadAt 3 (.pointer (some (Addr.add q1 11)))) w4 (.int .i64 n11) w4 ∧ ∃ q12 : Addr,Al (Instr.indexAt 177 (.pointer (some q3)) (.int .i64 6)) (.pointer (some q12)) ∧ ∃ w5 : World,RuU (Instr.storeAt 3 (.pointer (some q12)) (.int .i64 n9)) w4 w5 ∧ ∃ q13 : Addr,Al (Instr.indexAt 177 (.pointer (some q3)) (.int .i64 7)) (.pointer (some q13)) ∧ ∃ w6 : World,RuU (Instr.storeAt 3 (.pointer (some q13)) (.int .i64 n11)) w5 w6 ∧ ∃ g14 : Array Value,Ru (Instr.loadAt 177 (.pointer (some q3))) w6 (.agg g14) w6 ∧ ∃ w7 : World,RuU (Instr.storeAt 177 (.pointer (some q2)) (.agg g14)) w6 w7 ∧ ∃ gR2 : Array Value,Ru (Instr.loadAt 177 (.pointer (some q2))) w7 (.agg gR2) w7 ∧ K (.agg gR2) w7
set_option maxRecDepth 100000 in
theorem C_inode_all (g0 : Array Value) (w0 : World) (K : Value → World → Prop) (h : D_inode_all g0 w0 K) : Cal Tryz.prog F_inode_all #[.agg g0] w0 K :=
 denF_sound (A := { S := [],ty := [],raw := [] }) mixed Tryz.func111 (by kernel_rfl) (by kernel_rfl) ((show denF Tryz.prog _ Tryz.f111 _ w0 K = D_inode_all g0 w0 K by kernel_rfl).mpr h)
set_option maxRecDepth 100000 in
def D_num_Lay (a0 : Option Addr) (l0 c0 : Nat) (n1 : Int) (a2 : Option Addr) (l2 c2 : Nat) (w0 : World) (K : Value → World → Prop) : Prop :=
 Cal Tryz.prog F_num_within #[.slice a0 l0 c0,.int .i64 n1,.int .i64 ((l2 : Int))] w0 fun r13 w1 => ∃ b13 : Bool,r13 = .bool b13 ∧ (bif !b13 then
 K (.tuple #[.slice none 0 0,.int .i64 3]) w1
 else
 ∃ (a17 : Option Addr) (l17 c17 : Nat),∃ w2 : World,Ru (Instr.makeSlice 24 (.int .i64 ((l0 : Int))) (.int .i64 ((l0 : Int)))) w1 (.slice a17 l17 c17) w2 ∧ ∃ n20 : Int,∃ w3 : World,Ru (Builtin.copy_ #[24,24] 3 #[.slice a17 l17 c17,.slice a0 l0 c0]) w2 (.int .i64 n20) w3 ∧ ∃ (a23 : Option Addr) (l23 c23 : Nat),Al (Instr.sliceAt 24 (.slice a17 l17 c17) (some (.int .i64 n1)) none none) (.slice a23 l23 c23) ∧ ∃ n25 : Int,∃ w4 : World,Ru (Builtin.copy_ #[24,24] 3 #[.slice a23 l23 c23,.slice a2 l2 c2]) w3 (.int .i64 n25) w4 ∧ K (.tuple #[.slice a17 l17 c17,.int .i64 0]) w4)
set_option maxRecDepth 100000 in
theorem C_num_Lay (a0 : Option Addr) (l0 c0 : Nat) (n1 : Int) (a2 : Option Addr) (l2 c2 : Nat) (w0 : World) (K : Value → World → Prop) (h : D_num_Lay a0 l0 c0 n1 a2 l2 c2 w0 K) : Cal Tryz.prog F_num_Lay #[.slice a0 l0 c0,.int .i64 n1,.slice a2 l2 c2] w0 K :=
 denF_sound (A := { S := [],ty := [],raw := [] }) mixed Tryz.func116 (by kernel_rfl) (by kernel_rfl) ((show denF Tryz.prog _ Tryz.f116 _ w0 K = D_num_Lay a0 l0 c0 n1 a2 l2 c2 w0 K by kernel_rfl).mpr h)
set_option maxRecDepth 100000 in
def D_slices_Clone_byte (a0 : Option Addr) (l0 c0 : Nat) (w0 : World) (K : Value → World → Prop) : Prop :=
 ∃ b4 : Bool,Al (eqS .eql 24 (.tmp 3) (.const (.slice none 0 0)) (.slice a0 l0 c0) (.slice none 0 0)) (.bool b4) ∧ (bif b4 then
 K (.slice none 0 0) w0
 else
 ∃ (a5 : Option Addr) (l5 c5 : Nat),∃ w1 : World,Ru (Instr.buildSlice 24 0 #[]) w0 (.slice a5 l5 c5) w1 ∧ ∃ (a7 : Option Addr) (l7 c7 : Nat),∃ w2 : World,Ru (Builtin.append_ #[24,24] 24 #[.slice a5 l5 c5,.slice a0 l0 c0]) w1 (.slice a7 l7 c7) w2 ∧ K (.slice a7 l7 c7) w2)
set_option maxRecDepth 100000 in
theorem C_slices_Clone_byte (a0 : Option Addr) (l0 c0 : Nat) (w0 : World) (K : Value → World → Prop) (h : D_slices_Clone_byte a0 l0 c0 w0 K) : Cal Tryz.prog F_slices_Clone_byte #[.slice a0 l0 c0] w0 K :=
 denF_sound (A := { S := [],ty := [],raw := [] }) mixed Tryz.func118 (by kernel_rfl) (by kernel_rfl) ((show denF Tryz.prog _ Tryz.f118 _ w0 K = D_slices_Clone_byte a0 l0 c0 w0 K by kernel_rfl).mpr h)
set_option maxRecDepth 100000 in
def D_num_Get (a0 : Option Addr) (l0 c0 : Nat) (w0 : World) (K : Value → World → Prop) : Prop :=
 LoopC (fun k x w1 =>
 ∃ n8 : Int,nth x 1 = .int .i64 n8 ∧ (bif decide (n8 < (if 8 < (l0 : Int) then 8 else (l0 : Int))) then
 ∃ n3 : Int,nth x 0 = .int .u64 n3 ∧ ∃ q14 : Addr,Al (Instr.indexAt 24 (.slice a0 l0 c0) (.int .i64 n8)) (.pointer (some q14)) ∧ ∃ n15 : Int,Ru (Instr.loadAt 5 (.pointer (some q14))) w1 (.int .u8 n15) w1 ∧ ∃ n19 : Int,Al (eqS .shl 144 (.tmp 16) (.tmp 18) (.int .u64 (IntKind.u64.wrap n15)) (.int .i64 (IntKind.i64.wrap (8 * n8)))) (.int .u64 n19) ∧ k [.int .u64 (IntKind.u64.wrap (bvOr 64 n3 n19)),.int .i64 (IntKind.i64.wrap (n8 + 1))] w1
 else
 ∃ n3_2 : Int,nth x 0 = .int .u64 n3_2 ∧ K (.int .u64 n3_2) w1)) [.int .u64 0,.int .i64 0] w0
set_option maxRecDepth 100000 in
theorem C_num_Get (a0 : Option Addr) (l0 c0 : Nat) (w0 : World) (K : Value → World → Prop) (h : D_num_Get a0 l0 c0 w0 K) : Cal Tryz.prog F_num_Get #[.slice a0 l0 c0] w0 K :=
 denF_sound (A := { S := [3,8],ty := [(3,144),(8,3)],raw := [] }) mixed Tryz.func119 (by kernel_rfl) (by kernel_rfl) ((show denF Tryz.prog _ Tryz.f119 _ w0 K = D_num_Get a0 l0 c0 w0 K by kernel_rfl).mpr h)
set_option maxRecDepth 100000 in
def D_num_Diff (a0 : Option Addr) (l0 c0 : Nat) (a1 : Option Addr) (l1 c1 : Nat) (w0 : World) (K : Value → World → Prop) : Prop :=
 LoopC (fun k x w1 =>
 ∃ n14 : Int,nth x 2 = .int .i64 n14 ∧ (bif decide (n14 < (if (l1 : Int) > (l0 : Int) then (l1 : Int) else (l0 : Int))) then
 Share (fun k_2 => Share (fun k_3 => (bif decide (n14 < (if (l1 : Int) < (l0 : Int) then (l1 : Int) else (l0 : Int))) then ∃ q27 : Addr,Al (Instr.indexAt 24 (.slice a0 l0 c0) (.int .i64 n14)) (.pointer (some q27)) ∧ ∃ n28 : Int,Ru (Instr.loadAt 5 (.pointer (some q27))) (drew w1) (.int .u8 n28) (drew w1) ∧ ∃ q31 : Addr,Al (Instr.indexAt 24 (.slice a1 l1 c1) (.int .i64 n14)) (.pointer (some q31)) ∧ ∃ n32 : Int,Ru (Instr.loadAt 5 (.pointer (some q31))) (drew w1) (.int .u8 n32) (drew w1) ∧ k_3 [.bool (n28 == n32)] (drew w1) else k_3 [.bool false] (drew w1))) fun x_3 w2 =>
 ∃ b34 : Bool,nth x_3 0 = .bool b34 ∧ (bif b34 then
 k_2 [nth x 0,nth x 1,.bool b34] w2
 else
 ∃ n6 : Int,nth x 0 = .int .i64 n6 ∧ Share (fun k_4 => (bif decide (n6 < 0) then
 k_4 [.int .i64 n14] w2
 else
 k_4 [.int .i64 n6] w2)) fun x_4 w3 =>
 k_2 [nth x_4 0,.int .i64 (IntKind.i64.wrap (n14 + 1)),.bool b34] w3)) fun x_2 w4 =>
 k [nth x_2 0,nth x_2 1,.int .i64 (IntKind.i64.wrap (n14 + 1)),nth x_2 2] w4
 else
 ∃ n6_2 : Int,nth x 0 = .int .i64 n6_2 ∧ ∃ n7 : Int,nth x 1 = .int .i64 n7 ∧ K (.tuple #[.int .i64 n6_2,.int .i64 n7]) w1)) [.int .i64 ((-1)),.int .i64 ((-1)),.int .i64 0,undef] w0
set_option maxRecDepth 100000 in
theorem C_num_Diff (a0 : Option Addr) (l0 c0 : Nat) (a1 : Option Addr) (l1 c1 : Nat) (w0 : World) (K : Value → World → Prop) (h : D_num_Diff a0 l0 c0 a1 l1 c1 w0 K) : Cal Tryz.prog F_num_Diff #[.slice a0 l0 c0,.slice a1 l1 c1] w0 K :=
 denF_sound (A := { S := [6,7,14,34],ty := [(6,3),(7,3),(14,3),(34,4)],raw := [] }) mixed Tryz.func120 (by kernel_rfl) (by kernel_rfl) ((show denF Tryz.prog _ Tryz.f120 _ w0 K = D_num_Diff a0 l0 c0 a1 l1 c1 w0 K by kernel_rfl).mpr h)
set_option maxRecDepth 100000 in
def D_group_Right (g0 : Array Value) (g1 : Array Value) (w0 : World) (K : Value → World → Prop) : Prop :=
 ∃ q2 : Addr,∃ w1 : World,Ru (Instr.box 23 (.agg g0)) w0 (.pointer (some q2)) w1 ∧ ∃ q3 : Addr,∃ w2 : World,Ru (Instr.box 63 (.agg g1)) w1 (.pointer (some q3)) w2 ∧ ∃ g14 : Array Value,Ru (Instr.loadAt 23 (.pointer (some q2))) w2 (.agg g14) w2 ∧ ∃ n16 : Int,Ru (Instr.loadAt 3 (.pointer (some (Addr.add q3 0)))) w2 (.int .i64 n16) w2 ∧ Cal Tryz.prog F_group_Fresh #[.agg g14,.int .i64 n16] w2 fun r17 w3 => ∃ g17a : Array Value,∃ n17b : Int,r17 = .tuple #[.agg g17a,.int .i64 n17b] ∧ ∃ q5 : Addr,∃ w4 : World,Ru (Instr.alloc 63 true (.tuple #[])) w3 (.pointer (some q5)) w4 ∧ ∃ w5 : World,RuU (Instr.storeAt 63 (.pointer (some q5)) (.agg g17a)) w4 w5 ∧ (bif n17b != 0 then
 K (.bool false) w5
 else
 ∃ n23 : Int,Ru (Instr.loadAt 3 (.pointer (some (Addr.add q3 0)))) w5 (.int .i64 n23) w5 ∧ ∃ g24 : Array Value,Al (Instr.build 63 #[(0,.int .i64 n23)]) (.agg g24) ∧ ∃ q7 : Addr,∃ w6 : World,Ru (Instr.alloc 63 true (.tuple #[])) w5 (.pointer (some q7)) w6 ∧ ∃ w7 : World,RuU (Instr.storeAt 63 (.pointer (some q7)) (.agg g24)) w6 w7 ∧ ∃ g26 : Array Value,Ru (Instr.loadAt 60 (.pointer (some (Addr.add q3 1)))) w7 (.agg g26) w7 ∧ LoopC (fun k x w8 =>
 ∃ n27 : Int,nth x 0 = .int .i64 n27 ∧ (bif decide (n27 < 16) then
 ∃ n30 : Int,Al (Instr.index 60 (.agg g26) (.int .i64 n27)) (.int .u8 n30) ∧ ∃ q35 : Addr,Al (Instr.indexAt 60 (.pointer (some (Addr.add q5 1))) (.int .i64 n27)) (.pointer (some q35)) ∧ ∃ n36 : Int,Ru (Instr.loadAt 5 (.pointer (some q35))) w8 (.int .u8 n36) w8 ∧ ∃ q39 : Addr,Al (Instr.indexAt 60 (.pointer (some (Addr.add q7 1))) (.int .i64 n27)) (.pointer (some q39)) ∧ ∃ w9 : World,RuU (Instr.storeAt 5 (.pointer (some q39)) (.int .u8 (IntKind.u8.wrap (bvOr 8 n30 n36)))) w8 w9 ∧ k [.int .i64 (IntKind.i64.wrap (n27 + 1))] w9
 else
 ∃ g42 : Array Value,Ru (Instr.loadAt 61 (.pointer (some (Addr.add q3 17)))) w8 (.agg g42) w8 ∧ LoopC (fun k_2 x_2 w10 =>
 ∃ n43 : Int,nth x_2 0 = .int .i64 n43 ∧ (bif decide (n43 < 8) then
 ∃ n46 : Int,Al (Instr.index 61 (.agg g42) (.int .i64 n43)) (.int .u8 n46) ∧ ∃ q51 : Addr,Al (Instr.indexAt 61 (.pointer (some (Addr.add q5 17))) (.int .i64 n43)) (.pointer (some q51)) ∧ ∃ n52 : Int,Ru (Instr.loadAt 5 (.pointer (some q51))) w10 (.int .u8 n52) w10 ∧ ∃ q55 : Addr,Al (Instr.indexAt 61 (.pointer (some (Addr.add q7 17))) (.int .i64 n43)) (.pointer (some q55)) ∧ ∃ w11 : World,RuU (Instr.storeAt 5 (.pointer (some q55)) (.int .u8 (IntKind.u8.wrap (bvOr 8 n46 n52)))) w10 w11 ∧ k_2 [.int .i64 (IntKind.i64.wrap (n43 + 1))] w11
 else
 Share (fun k_3 => ∃ (a58 : Option Addr) (l58 c58 : Nat),Al (Instr.sliceAt 60 (.pointer (some (Addr.add q3 1))) none none none) (.slice a58 l58 c58) ∧ ∃ n60 : Int,Ru (Instr.loadAt 3 (.pointer (some (Addr.add q2 0)))) (drew w10) (.int .i64 n60) (drew w10) ∧ ∃ (a63 : Option Addr) (l63 c63 : Nat),Al (Instr.sliceAt 60 (.pointer (some (Addr.add q3 1))) none none none) (.slice a63 l63 c63) ∧ Cal Tryz.prog F_bits_Count #[.slice a58 l58 c58,.int .i64 n60] (drew w10) fun r61 w12 => ∃ n61 : Int,r61 = .int .i64 n61 ∧ Cal Tryz.prog F_bits_Count #[.slice a63 l63 c63,.int .i64 128] w12 fun r64 w13 => ∃ n64 : Int,r64 = .int .i64 n64 ∧ (bif n61 == n64 then ∃ (a68 : Option Addr) (l68 c68 : Nat),Al (Instr.sliceAt 61 (.pointer (some (Addr.add q3 17))) none none none) (.slice a68 l68 c68) ∧ ∃ n70 : Int,Ru (Instr.loadAt 3 (.pointer (some (Addr.add q2 1)))) w13 (.int .i64 n70) w13 ∧ ∃ (a73 : Option Addr) (l73 c73 : Nat),Al (Instr.sliceAt 61 (.pointer (some (Addr.add q3 17))) none none none) (.slice a73 l73 c73) ∧ Cal Tryz.prog F_bits_Count #[.slice a68 l68 c68,.int .i64 n70] w13 fun r71 w14 => ∃ n71 : Int,r71 = .int .i64 n71 ∧ Cal Tryz.prog F_bits_Count #[.slice a73 l73 c73,.int .i64 64] w14 fun r74 w15 => ∃ n74 : Int,r74 = .int .i64 n74 ∧ k_3 [.bool (n71 == n74)] w15 else k_3 [.bool false] w13)) fun x_3 w16 =>
 Share (fun k_4 => ∃ g78 : Array Value,Ru (Instr.loadAt 60 (.pointer (some (Addr.add q7 1)))) w16 (.agg g78) w16 ∧ ∃ g80 : Array Value,Ru (Instr.loadAt 60 (.pointer (some (Addr.add q3 1)))) w16 (.agg g80) w16 ∧ ∃ b81 : Bool,Al (eqS .eql 60 (.tmp 78) (.tmp 80) (.agg g78) (.agg g80)) (.bool b81) ∧ (bif b81 then ∃ g84 : Array Value,Ru (Instr.loadAt 61 (.pointer (some (Addr.add q7 17)))) w16 (.agg g84) w16 ∧ ∃ g86 : Array Value,Ru (Instr.loadAt 61 (.pointer (some (Addr.add q3 17)))) w16 (.agg g86) w16 ∧ ∃ b87 : Bool,Al (eqS .eql 61 (.tmp 84) (.tmp 86) (.agg g84) (.agg g86)) (.bool b87) ∧ (bif b87 then ∃ b12 : Bool,nth x_3 0 = .bool b12 ∧ k_4 [.bool b12] w16 else k_4 [.bool false] w16) else k_4 [.bool false] w16)) fun x_4 w17 =>
 ∃ b4 : Bool,nth x_4 0 = .bool b4 ∧ K (.bool b4) w17)) [.int .i64 0] w8)) [.int .i64 0] w7)
set_option maxRecDepth 100000 in
theorem C_group_Right (g0 : Array Value) (g1 : Array Value) (w0 : World) (K : Value → World → Prop) (h : D_group_Right g0 g1 w0 K) : Cal Tryz.prog F_group_Right #[.agg g0,.agg g1] w0 K :=
 denF_sound (A := { S := [4,12,27,43],ty := [(4,4),(12,4),(27,3),(43,3)],raw := [] }) mixed Tryz.func121 (by kernel_rfl) (by kernel_rfl) ((show denF Tryz.prog _ Tryz.f121 _ w0 K = D_group_Right g0 g1 w0 K by kernel_rfl).mpr h)
set_option maxRecDepth 100000 in
def D_group_Free (g0 : Array Value) (g1 : Array Value) (w0 : World) (K : Value → World → Prop) : Prop :=
 ∃ q2 : Addr,∃ w1 : World,Ru (Instr.box 23 (.agg g0)) w0 (.pointer (some q2)) w1 ∧ ∃ q3 : Addr,∃ w2 : World,Ru (Instr.box 63 (.agg g1)) w1 (.pointer (some q3)) w2 ∧ ∃ g6 : Array Value,Ru (Instr.loadAt 23 (.pointer (some q2))) w2 (.agg g6) w2 ∧ ∃ g7 : Array Value,Ru (Instr.loadAt 63 (.pointer (some q3))) w2 (.agg g7) w2 ∧ Cal Tryz.prog F_group_Right #[.agg g6,.agg g7] w2 fun r8 w3 => ∃ b8 : Bool,r8 = .bool b8 ∧ (bif !b8 then
 K (.tuple #[.int .i64 0,.int .i64 0]) w3
 else
 ∃ n11 : Int,Ru (Instr.loadAt 3 (.pointer (some (Addr.add q2 0)))) (drew w3) (.int .i64 n11) (drew w3) ∧ ∃ (a13 : Option Addr) (l13 c13 : Nat),Al (Instr.sliceAt 60 (.pointer (some (Addr.add q3 1))) none none none) (.slice a13 l13 c13) ∧ ∃ n15 : Int,Ru (Instr.loadAt 3 (.pointer (some (Addr.add q2 0)))) (drew w3) (.int .i64 n15) (drew w3) ∧ ∃ n19 : Int,Ru (Instr.loadAt 3 (.pointer (some (Addr.add q2 1)))) (drew w3) (.int .i64 n19) (drew w3) ∧ ∃ (a21 : Option Addr) (l21 c21 : Nat),Al (Instr.sliceAt 61 (.pointer (some (Addr.add q3 17))) none none none) (.slice a21 l21 c21) ∧ ∃ n23 : Int,Ru (Instr.loadAt 3 (.pointer (some (Addr.add q2 1)))) (drew w3) (.int .i64 n23) (drew w3) ∧ Cal Tryz.prog F_bits_Count #[.slice a13 l13 c13,.int .i64 n15] (drew w3) fun r16 w4 => ∃ n16 : Int,r16 = .int .i64 n16 ∧ Ru (Instr.loadAt 3 (.pointer (some (Addr.add q2 0)))) w4 (.int .i64 n11) w4 ∧ Ru (Instr.loadAt 3 (.pointer (some (Addr.add q2 1)))) w4 (.int .i64 n19) w4 ∧ Ru (Instr.loadAt 3 (.pointer (some (Addr.add q2 1)))) w4 (.int .i64 n23) w4 ∧ Cal Tryz.prog F_bits_Count #[.slice a21 l21 c21,.int .i64 n23] w4 fun r24 w5 => ∃ n24 : Int,r24 = .int .i64 n24 ∧ Ru (Instr.loadAt 3 (.pointer (some (Addr.add q2 0)))) w5 (.int .i64 n11) w5 ∧ Ru (Instr.loadAt 3 (.pointer (some (Addr.add q2 1)))) w5 (.int .i64 n19) w5 ∧ K (.tuple #[.int .i64 (IntKind.i64.wrap (n11 - n16)),.int .i64 (IntKind.i64.wrap (n19 - n24))]) w5)
set_option maxRecDepth 100000 in
theorem C_group_Free (g0 : Array Value) (g1 : Array Value) (w0 : World) (K : Value → World → Prop) (h : D_group_Free g0 g1 w0 K) : Cal Tryz.prog F_group_Free #[.agg g0,.agg g1] w0 K :=
 denF_sound (A := { S := [],ty := [],raw := [] }) mixed Tryz.func122 (by kernel_rfl) (by kernel_rfl) ((show denF Tryz.prog _ Tryz.f122 _ w0 K = D_group_Free g0 g1 w0 K by kernel_rfl).mpr h)
set_option maxRecDepth 100000 in
def D_geo_within (n0 : Int) (n1 : Int) (n2 : Int) (w0 : World) (K : Value → World → Prop) : Prop :=
 Share (fun k => (bif decide (n0 ≥ n1) then k [.bool (decide (n0 ≤ n2))] w0 else k [.bool false] w0)) fun x w1 =>
 ∃ b6 : Bool,nth x 0 = .bool b6 ∧ K (.bool b6) w1
set_option maxRecDepth 100000 in
theorem C_geo_within (n0 : Int) (n1 : Int) (n2 : Int) (w0 : World) (K : Value → World → Prop) (h : D_geo_within n0 n1 n2 w0 K) : Cal Tryz.prog F_geo_within #[.int .i64 n0,.int .i64 n1,.int .i64 n2] w0 K :=
 denF_sound (A := { S := [6],ty := [(6,4)],raw := [] }) mixed Tryz.func130 (by kernel_rfl) (by kernel_rfl) ((show denF Tryz.prog _ Tryz.f130 _ w0 K = D_geo_within n0 n1 n2 w0 K by kernel_rfl).mpr h)
set_option maxRecDepth 100000 in
def D_group_base (g0 : Array Value) (n1 : Int) (w0 : World) (K : Value → World → Prop) : Prop :=
 ∃ q2 : Addr,∃ w1 : World,Ru (Instr.box 23 (.agg g0)) w0 (.pointer (some q2)) w1 ∧ ∃ q4 : Addr,∃ w2 : World,Ru (Instr.alloc 63 true (.tuple #[])) w1 (.pointer (some q4)) w2 ∧ ∃ g8 : Array Value,Al (Instr.build 63 #[(0,.int .i64 n1)]) (.agg g8) ∧ ∃ q5 : Addr,∃ w3 : World,Ru (Instr.alloc 63 true (.tuple #[])) w2 (.pointer (some q5)) w3 ∧ ∃ w4 : World,RuU (Instr.storeAt 63 (.pointer (some q5)) (.agg g8)) w3 w4 ∧ ∃ g9 : Array Value,Ru (Instr.loadAt 23 (.pointer (some q2))) w4 (.agg g9) w4 ∧ Cal Tryz.prog F_geo_Tables #[.agg g9] w4 fun r10 w5 => ∃ n10 : Int,r10 = .int .i64 n10 ∧ LoopC (fun k x w6 =>
 ∃ n12 : Int,nth x 0 = .int .i64 n12 ∧ (bif decide (n12 < (IntKind.i64.wrap (1 + n10))) then
 ∃ q18 : Addr,Al (Instr.indexAt 60 (.pointer (some (Addr.add q5 1))) (.int .i64 (IntKind.i64.wrap (Int.tdiv n12 8)))) (.pointer (some q18)) ∧ ∃ n19 : Int,Ru (Instr.loadAt 5 (.pointer (some q18))) (drew w6) (.int .u8 n19) (drew w6) ∧ ∃ n22 : Int,Al (eqS .shl 5 (.const (.int .u8 1)) (.tmp 21) (.int .u8 1) (.int .i64 (Int.tmod n12 8))) (.int .u8 n22) ∧ ∃ q25 : Addr,Al (Instr.indexAt 60 (.pointer (some (Addr.add q5 1))) (.int .i64 (IntKind.i64.wrap (Int.tdiv n12 8)))) (.pointer (some q25)) ∧ ∃ w7 : World,RuU (Instr.storeAt 5 (.pointer (some q25)) (.int .u8 (IntKind.u8.wrap (bvOr 8 n19 n22)))) (drew w6) w7 ∧ k [.int .i64 (IntKind.i64.wrap (n12 + 1))] w7
 else
 Share (fun k_2 => (bif n1 == 0 then
 ∃ q30 : Addr,Al (Instr.indexAt 61 (.pointer (some (Addr.add q5 17))) (.int .i64 0)) (.pointer (some q30)) ∧ ∃ w8 : World,RuU (Instr.storeAt 5 (.pointer (some q30)) (.int .u8 3)) w6 w8 ∧ k_2 [] w8
 else
 k_2 [] w6)) fun x_2 w9 =>
 ∃ g31 : Array Value,Ru (Instr.loadAt 63 (.pointer (some q5))) w9 (.agg g31) w9 ∧ ∃ w10 : World,RuU (Instr.storeAt 63 (.pointer (some q4)) (.agg g31)) w9 w10 ∧ ∃ gR4 : Array Value,Ru (Instr.loadAt 63 (.pointer (some q4))) w10 (.agg gR4) w10 ∧ K (.agg gR4) w10)) [.int .i64 0] w5
set_option maxRecDepth 100000 in
theorem C_group_base (g0 : Array Value) (n1 : Int) (w0 : World) (K : Value → World → Prop) (h : D_group_base g0 n1 w0 K) : Cal Tryz.prog F_group_base #[.agg g0,.int .i64 n1] w0 K :=
 denF_sound (A := { S := [12],ty := [(12,3)],raw := [] }) mixed Tryz.func131 (by kernel_rfl) (by kernel_rfl) ((show denF Tryz.prog _ Tryz.f131 _ w0 K = D_group_base g0 n1 w0 K by kernel_rfl).mpr h)
set_option maxRecDepth 100000 in
def D_leveeref01_Lay (a0 : Option Addr) (l0 c0 : Nat) (n1 : Int) (a2 : Option Addr) (l2 c2 : Nat) (w0 : World) (K : Value → World → Prop) : Prop :=
 Share (fun k => (bif decide (n1 < 0) then k [.bool true] w0 else (bif decide (n1 > (l0 : Int)) then k [.bool true] w0 else k [.bool (decide ((l2 : Int) > (IntKind.i64.wrap ((l0 : Int) - n1))))] w0))) fun x w1 =>
 ∃ b25 : Bool,nth x 0 = .bool b25 ∧ (bif b25 then
 K (.tuple #[.slice none 0 0,.int .i64 3]) w1
 else
 ∃ (a29 : Option Addr) (l29 c29 : Nat),Al (Instr.sliceAt 24 (.slice a0 l0 c0) none (some (.int .i64 n1)) none) (.slice a29 l29 c29) ∧ ∃ (a30 : Option Addr) (l30 c30 : Nat),∃ w2 : World,Ru (Builtin.append_ #[24,24] 24 #[.slice none 0 0,.slice a29 l29 c29]) w1 (.slice a30 l30 c30) w2 ∧ ∃ (a33 : Option Addr) (l33 c33 : Nat),∃ w3 : World,Ru (Builtin.append_ #[24,24] 24 #[.slice a30 l30 c30,.slice a2 l2 c2]) w2 (.slice a33 l33 c33) w3 ∧ ∃ (a40 : Option Addr) (l40 c40 : Nat),Al (Instr.sliceAt 24 (.slice a0 l0 c0) (some (.int .i64 (IntKind.i64.wrap (n1 + (l2 : Int))))) none none) (.slice a40 l40 c40) ∧ ∃ (a41 : Option Addr) (l41 c41 : Nat),∃ w4 : World,Ru (Builtin.append_ #[24,24] 24 #[.slice a33 l33 c33,.slice a40 l40 c40]) w3 (.slice a41 l41 c41) w4 ∧ K (.tuple #[.slice a41 l41 c41,.int .i64 0]) w4)
set_option maxRecDepth 100000 in
theorem C_leveeref01_Lay (a0 : Option Addr) (l0 c0 : Nat) (n1 : Int) (a2 : Option Addr) (l2 c2 : Nat) (w0 : World) (K : Value → World → Prop) (h : D_leveeref01_Lay a0 l0 c0 n1 a2 l2 c2 w0 K) : Cal Tryz.prog F_leveeref01_Lay #[.slice a0 l0 c0,.int .i64 n1,.slice a2 l2 c2] w0 K :=
 denF_sound (A := { S := [25],ty := [(25,4)],raw := [] }) mixed Tryz.func136 (by kernel_rfl) (by kernel_rfl) ((show denF Tryz.prog _ Tryz.f136 _ w0 K = D_leveeref01_Lay a0 l0 c0 n1 a2 l2 c2 w0 K by kernel_rfl).mpr h)
set_option maxRecDepth 100000 in
def D_super_Get_1 (n0 : Int) (v1 : Value) (w0 : World) (K : Value → World → Prop) : Prop :=
 ∃ (a4 : Option Addr) (l4 c4 : Nat),Ru (Instr.loadAt 24 v1) w0 (.slice a4 l4 c4) w0 ∧ ∃ (a8 : Option Addr) (l8 c8 : Nat),Al (Instr.sliceAt 24 (.slice a4 l4 c4) (some (.int .i64 n0)) (some (.int .i64 (IntKind.i64.wrap (n0 + 2)))) none) (.slice a8 l8 c8) ∧ Cal Tryz.prog F_num_Get #[.slice a8 l8 c8] w0 fun r9 w1 => ∃ n9 : Int,r9 = .int .u64 n9 ∧ K (.int .i64 (IntKind.i64.wrap n9)) w1
set_option maxRecDepth 100000 in
theorem C_super_Get_1 (n0 : Int) (v1 : Value) (w0 : World) (K : Value → World → Prop) (h : D_super_Get_1 n0 v1 w0 K) : Cal Tryz.prog F_super_Get_1 #[.int .i64 n0,v1] w0 K :=
 denF_sound (A := { S := [],ty := [],raw := [] }) mixed Tryz.func139 (by kernel_rfl) (by kernel_rfl) ((show denF Tryz.prog _ Tryz.f139 _ w0 K = D_super_Get_1 n0 v1 w0 K by kernel_rfl).mpr h)
set_option maxRecDepth 100000 in
def D_num_Zero (a0 : Option Addr) (l0 c0 : Nat) (w0 : World) (K : Value → World → Prop) : Prop :=
 LoopC (fun k x w1 =>
 ∃ n8 : Int,nth x 1 = .int .i64 n8 ∧ (bif decide (n8 < (l0 : Int)) then
 ∃ q10 : Addr,Al (Instr.indexAt 24 (.slice a0 l0 c0) (.int .i64 n8)) (.pointer (some q10)) ∧ ∃ n11 : Int,Ru (Instr.loadAt 5 (.pointer (some q10))) w1 (.int .u8 n11) w1 ∧ ∃ n3 : Int,nth x 0 = .int .u8 n3 ∧ k [.int .u8 (IntKind.u8.wrap (bvOr 8 n3 n11)),.int .i64 (IntKind.i64.wrap (n8 + 1))] w1
 else
 ∃ n3_2 : Int,nth x 0 = .int .u8 n3_2 ∧ K (.bool (n3_2 == 0)) w1)) [.int .u8 0,.int .i64 0] w0
set_option maxRecDepth 100000 in
theorem C_num_Zero (a0 : Option Addr) (l0 c0 : Nat) (w0 : World) (K : Value → World → Prop) (h : D_num_Zero a0 l0 c0 w0 K) : Cal Tryz.prog F_num_Zero #[.slice a0 l0 c0] w0 K :=
 denF_sound (A := { S := [3,8],ty := [(3,5),(8,3)],raw := [] }) mixed Tryz.func140 (by kernel_rfl) (by kernel_rfl) ((show denF Tryz.prog _ Tryz.f140 _ w0 K = D_num_Zero a0 l0 c0 w0 K by kernel_rfl).mpr h)
set_option maxRecDepth 100000 in
def D_leveeref11_Store_there (p0 : Option Addr) (n1 : Int) (w0 : World) (K : Value → World → Prop) : Prop :=
 Share (fun k => (bif decide (n1 ≥ 0) then ∃ q10 : Addr,(.pointer p0 : Value) = .pointer (some q10) ∧ ∃ (a12 : Option Addr) (l12 c12 : Nat),Ru (Instr.loadAt 86 (.pointer (some (Addr.add q10 1)))) w0 (.slice a12 l12 c12) w0 ∧ k [.bool (decide (n1 < (l12 : Int)))] w0 else k [.bool false] w0)) fun x w1 =>
 ∃ b4 : Bool,nth x 0 = .bool b4 ∧ K (.bool b4) w1
set_option maxRecDepth 100000 in
theorem C_leveeref11_Store_there (p0 : Option Addr) (n1 : Int) (w0 : World) (K : Value → World → Prop) (h : D_leveeref11_Store_there p0 n1 w0 K) : Cal Tryz.prog F_leveeref11_Store_there #[.pointer p0,.int .i64 n1] w0 K :=
 denF_sound (A := { S := [4],ty := [(4,4)],raw := [] }) mixed Tryz.func142 (by kernel_rfl) (by kernel_rfl) ((show denF Tryz.prog _ Tryz.f142 _ w0 K = D_leveeref11_Store_there p0 n1 w0 K by kernel_rfl).mpr h)
set_option maxRecDepth 100000 in
def D_leveeref11_upon (a0 : Option Addr) (l0 c0 : Nat) (g1 : Array Value) (w0 : World) (K : Value → World → Prop) : Prop :=
 ∃ q3 : Addr,∃ w1 : World,Ru (Instr.box 213 (.agg g1)) w0 (.pointer (some q3)) w1 ∧ ∃ n10 : Int,Ru (Instr.loadAt 3 (.pointer (some (Addr.add q3 2)))) w1 (.int .i64 n10) w1 ∧ ∃ s12 : ByteArray,Ru (Instr.loadAt 9 (.pointer (some (Addr.add q3 3)))) w1 (.string s12) w1 ∧ ∃ (a13 : Option Addr) (l13 c13 : Nat),∃ w2 : World,Ru (convert 9 24 (.string s12)) w1 (.slice a13 l13 c13) w2 ∧ Cal Tryz.prog F_leveeref01_Lay #[.slice a0 l0 c0,.int .i64 n10,.slice a13 l13 c13] w2 fun r14 w3 => ∃ (a14a : Option Addr) (l14a c14a : Nat),∃ n14b : Int,r14 = .tuple #[.slice a14a l14a c14a,.int .i64 n14b] ∧ K (.slice a14a l14a c14a) w3
set_option maxRecDepth 100000 in
theorem C_leveeref11_upon (a0 : Option Addr) (l0 c0 : Nat) (g1 : Array Value) (w0 : World) (K : Value → World → Prop) (h : D_leveeref11_upon a0 l0 c0 g1 w0 K) : Cal Tryz.prog F_leveeref11_upon #[.slice a0 l0 c0,.agg g1] w0 K :=
 denF_sound (A := { S := [],ty := [],raw := [] }) mixed Tryz.func143 (by kernel_rfl) (by kernel_rfl) ((show denF Tryz.prog _ Tryz.f143 _ w0 K = D_leveeref11_upon a0 l0 c0 g1 w0 K by kernel_rfl).mpr h)
set_option maxRecDepth 100000 in
def D_cache_Cache_may (p0 : Option Addr) (n1 : Int) (a2 : Option Addr) (l2 c2 : Nat) (a3 : Option Addr) (l3 c3 : Nat) (w0 : World) (K : Value → World → Prop) : Prop :=
 (bif Option.isNone p0 then
 K (.int .i64 2) w0
 else
 Share (fun k => (bif decide (n1 < 0) then k [.bool true] w0 else ∃ q18 : Addr,(.pointer p0 : Value) = .pointer (some q18) ∧ ∃ p20 : Option Addr,Ru (Instr.loadAt 27 (.pointer (some (Addr.add q18 0)))) w0 (.pointer p20) w0 ∧ Cal Tryz.prog F_disk_Disk_Len #[.pointer p20] w0 fun r21 w1 => ∃ n21 : Int,r21 = .int .i64 n21 ∧ k [.bool (decide (n1 ≥ n21))] w1)) fun x w2 =>
 ∃ b12 : Bool,nth x 0 = .bool b12 ∧ (bif b12 then
 K (.int .i64 3) w2
 else
 Share (fun k_2 => (bif decide ((l3 : Int) > 0) then Cal Tryz.prog F_slices_Contains_int #[.slice a3 l3 c3,.int .i64 ((l2 : Int))] w2 fun r32 w3 => ∃ b32 : Bool,r32 = .bool b32 ∧ k_2 [.bool (!b32)] w3 else k_2 [.bool false] w2)) fun x_2 w4 =>
 ∃ b24 : Bool,nth x_2 0 = .bool b24 ∧ (bif b24 then
 K (.int .i64 4) w4
 else
 K (.int .i64 0) w4)))
set_option maxRecDepth 100000 in
theorem C_cache_Cache_may (p0 : Option Addr) (n1 : Int) (a2 : Option Addr) (l2 c2 : Nat) (a3 : Option Addr) (l3 c3 : Nat) (w0 : World) (K : Value → World → Prop) (h : D_cache_Cache_may p0 n1 a2 l2 c2 a3 l3 c3 w0 K) : Cal Tryz.prog F_cache_Cache_may #[.pointer p0,.int .i64 n1,.slice a2 l2 c2,.slice a3 l3 c3] w0 K :=
 denF_sound (A := { S := [12,24],ty := [(12,4),(24,4)],raw := [] }) mixed Tryz.func146 (by kernel_rfl) (by kernel_rfl) ((show denF Tryz.prog _ Tryz.f146 _ w0 K = D_cache_Cache_may p0 n1 a2 l2 c2 a3 l3 c3 w0 K by kernel_rfl).mpr h)
set_option maxRecDepth 100000 in
def D_cache_Cache_ask (p0 : Option Addr) (n1 : Int) (w0 : World) (K : Value → World → Prop) : Prop :=
 ∃ q3 : Addr,∃ w1 : World,Ru (Instr.box 3 (.int .i64 n1)) w0 (.pointer (some q3)) w1 ∧ ∃ q14 : Addr,(.pointer p0 : Value) = .pointer (some q14) ∧ ∃ m16 : Option Nat,Ru (Instr.loadAt 208 (.pointer (some (Addr.add q14 2)))) (drew w1) (.map m16) (drew w1) ∧ ∃ n17 : Int,Ru (Instr.loadAt 3 (.pointer (some q3))) (drew w1) (.int .i64 n17) (drew w1) ∧ ∃ p18a : Option Addr,∃ b18b : Bool,Ru (Instr.lookup 208 (.map m16) (.int .i64 n17) true) (drew w1) (.tuple #[.pointer p18a,.bool b18b]) (drew w1) ∧ (bif b18b then
 ∃ q24 : Addr,(.pointer p0 : Value) = .pointer (some q24) ∧ ∃ (a26 : Option Addr) (l26 c26 : Nat),Ru (Instr.loadAt 103 (.pointer (some (Addr.add q24 3)))) (drew (drew w1)) (.slice a26 l26 c26) (drew (drew w1)) ∧ ∃ n29 : Int,Ru (Instr.loadAt 3 (.pointer (some q3))) (drew (drew w1)) (.int .i64 n29) (drew (drew w1)) ∧ (Cal Tryz.prog F_slices_DeleteFunc_int #[.slice a26 l26 c26,.func (.func F_cache_Cache_ask_1) #[] #[.pointer (some q3)]] (drew (drew w1)) fun r28 w2 => ∃ (a28 : Option Addr) (l28 c28 : Nat),r28 = .slice a28 l28 c28 ∧ Ru (Instr.loadAt 3 (.pointer (some q3))) w2 (.int .i64 n29) w2 ∧ ∃ (a30 : Option Addr) (l30 c30 : Nat),∃ w3 : World,Ru (Instr.buildSlice 103 1 #[(0,.int .i64 n29)]) w2 (.slice a30 l30 c30) w3 ∧ Ru (Instr.loadAt 103 (.pointer (some (Addr.add q24 3)))) w3 (.slice a26 l26 c26) w3 ∧ ∃ (a31 : Option Addr) (l31 c31 : Nat),∃ w4 : World,Ru (Builtin.append_ #[103,103] 103 #[.slice a28 l28 c28,.slice a30 l30 c30]) w3 (.slice a31 l31 c31) w4 ∧ ∃ q32 : Addr,(.pointer p0 : Value) = .pointer (some q32) ∧ ∃ w5 : World,RuU (Instr.storeAt 103 (.pointer (some (Addr.add q32 3))) (.slice a31 l31 c31)) w4 w5 ∧ K (.tuple #[.pointer p18a,.int .i64 0]) w5) ∧ (∃ (a30_2 : Option Addr) (l30_2 c30_2 : Nat),∃ w6 : World,Ru (Instr.buildSlice 103 1 #[(0,.int .i64 n29)]) (drew (drew w1)) (.slice a30_2 l30_2 c30_2) w6 ∧ Ru (Instr.loadAt 103 (.pointer (some (Addr.add q24 3)))) w6 (.slice a26 l26 c26) w6 ∧ Cal Tryz.prog F_slices_DeleteFunc_int #[.slice a26 l26 c26,.func (.func F_cache_Cache_ask_1) #[] #[.pointer (some q3)]] w6 fun r28_2 w7 => ∃ (a28_2 : Option Addr) (l28_2 c28_2 : Nat),r28_2 = .slice a28_2 l28_2 c28_2 ∧ Ru (Instr.loadAt 3 (.pointer (some q3))) w7 (.int .i64 n29) w7 ∧ ∃ (a31_2 : Option Addr) (l31_2 c31_2 : Nat),∃ w8 : World,Ru (Builtin.append_ #[103,103] 103 #[.slice a28_2 l28_2 c28_2,.slice a30_2 l30_2 c30_2]) w7 (.slice a31_2 l31_2 c31_2) w8 ∧ ∃ q32_2 : Addr,(.pointer p0 : Value) = .pointer (some q32_2) ∧ ∃ w9 : World,RuU (Instr.storeAt 103 (.pointer (some (Addr.add q32_2 3))) (.slice a31_2 l31_2 c31_2)) w8 w9 ∧ K (.tuple #[.pointer p18a,.int .i64 0]) w9)
 else
 Cal Tryz.prog F_cache_Cache_room #[.pointer p0] (drew w1) fun r36 w10 => ∃ n36 : Int,r36 = .int .i64 n36 ∧ (bif n36 != 0 then
 K (.tuple #[.pointer none,.int .i64 n36]) w10
 else
 ∃ q42 : Addr,(.pointer p0 : Value) = .pointer (some q42) ∧ ∃ p44 : Option Addr,Ru (Instr.loadAt 27 (.pointer (some (Addr.add q42 0)))) (drew w10) (.pointer p44) (drew w10) ∧ ∃ n45 : Int,Ru (Instr.loadAt 3 (.pointer (some q3))) (drew w10) (.int .i64 n45) (drew w10) ∧ Cal Tryz.prog F_disk_Disk_Read #[.pointer p44,.int .i64 n45] (drew w10) fun r46 w11 => ∃ (a46a : Option Addr) (l46a c46a : Nat),∃ n46b : Int,r46 = .tuple #[.slice a46a l46a c46a,.int .i64 n46b] ∧ (bif n46b != 0 then
 K (.tuple #[.pointer none,.int .i64 n46b]) w11
 else
 ∃ g53 : Array Value,Al (Instr.build 220 #[(0,.slice a46a l46a c46a)]) (.agg g53) ∧ ∃ g54 : Array Value,Al (Instr.build 222 #[(0,.agg g53)]) (.agg g54) ∧ ∃ q55 : Addr,∃ w12 : World,Ru (Instr.box 222 (.agg g54)) w11 (.pointer (some q55)) w12 ∧ ∃ q57 : Addr,(.pointer p0 : Value) = .pointer (some q57) ∧ ∃ m59 : Option Nat,Ru (Instr.loadAt 208 (.pointer (some (Addr.add q57 2)))) (drew w12) (.map m59) (drew w12) ∧ ∃ n60 : Int,Ru (Instr.loadAt 3 (.pointer (some q3))) (drew w12) (.int .i64 n60) (drew w12) ∧ ∃ w13 : World,RuU (Instr.mapUpdate 208 (.map m59) (.int .i64 n60) (.pointer (some q55))) (drew w12) w13 ∧ ∃ q64 : Addr,(.pointer p0 : Value) = .pointer (some q64) ∧ ∃ (a66 : Option Addr) (l66 c66 : Nat),Ru (Instr.loadAt 103 (.pointer (some (Addr.add q64 3)))) (drew w13) (.slice a66 l66 c66) (drew w13) ∧ ∃ n67 : Int,Ru (Instr.loadAt 3 (.pointer (some q3))) (drew w13) (.int .i64 n67) (drew w13) ∧ ∃ (a68 : Option Addr) (l68 c68 : Nat),∃ w14 : World,Ru (Instr.buildSlice 103 1 #[(0,.int .i64 n67)]) (drew w13) (.slice a68 l68 c68) w14 ∧ Ru (Instr.loadAt 103 (.pointer (some (Addr.add q64 3)))) w14 (.slice a66 l66 c66) w14 ∧ ∃ (a69 : Option Addr) (l69 c69 : Nat),∃ w15 : World,Ru (Builtin.append_ #[103,103] 103 #[.slice a66 l66 c66,.slice a68 l68 c68]) w14 (.slice a69 l69 c69) w15 ∧ ∃ q70 : Addr,(.pointer p0 : Value) = .pointer (some q70) ∧ ∃ w16 : World,RuU (Instr.storeAt 103 (.pointer (some (Addr.add q70 3))) (.slice a69 l69 c69)) w15 w16 ∧ K (.tuple #[.pointer (some q55),.int .i64 0]) w16)))
set_option maxRecDepth 100000 in
theorem C_cache_Cache_ask (p0 : Option Addr) (n1 : Int) (w0 : World) (K : Value → World → Prop) (h : D_cache_Cache_ask p0 n1 w0 K) : Cal Tryz.prog F_cache_Cache_ask #[.pointer p0,.int .i64 n1] w0 K :=
 denF_sound (A := { S := [],ty := [],raw := [] }) mixed Tryz.func147 (by kernel_rfl) (by kernel_rfl) ((show denF Tryz.prog _ Tryz.f147 _ w0 K = D_cache_Cache_ask p0 n1 w0 K by kernel_rfl).mpr h)
set_option maxRecDepth 100000 in
def D_inode_sized (g0 : Array Value) (w0 : World) (K : Value → World → Prop) : Prop :=
 ∃ q1 : Addr,∃ w1 : World,Ru (Instr.box 55 (.agg g0)) w0 (.pointer (some q1)) w1 ∧ Share (fun k => ∃ n4 : Int,Ru (Instr.loadAt 3 (.pointer (some (Addr.add q1 1)))) w1 (.int .i64 n4) w1 ∧ (bif decide (n4 ≥ 0) then ∃ n8 : Int,Ru (Instr.loadAt 3 (.pointer (some (Addr.add q1 1)))) w1 (.int .i64 n8) w1 ∧ (bif decide (n8 ≤ 1000) then ∃ n13 : Int,Ru (Instr.loadAt 2 (.pointer (some (Addr.add q1 2)))) w1 (.int .i64 n13) w1 ∧ (bif decide (n13 ≥ 0) then ∃ n18 : Int,Ru (Instr.loadAt 2 (.pointer (some (Addr.add q1 2)))) w1 (.int .i64 n18) w1 ∧ (bif decide (n18 ≤ 1066496) then ∃ n23 : Int,Ru (Instr.loadAt 2 (.pointer (some (Addr.add q1 3)))) w1 (.int .i64 n23) w1 ∧ (bif decide (n23 ≥ 1) then ∃ n28 : Int,Ru (Instr.loadAt 2 (.pointer (some (Addr.add q1 3)))) w1 (.int .i64 n28) w1 ∧ k [.bool (decide (n28 ≤ 4611686018427387904))] w1 else k [.bool false] w1) else k [.bool false] w1) else k [.bool false] w1) else k [.bool false] w1) else k [.bool false] w1)) fun x w2 =>
 ∃ b2 : Bool,nth x 0 = .bool b2 ∧ K (.bool b2) w2
set_option maxRecDepth 100000 in
theorem C_inode_sized (g0 : Array Value) (w0 : World) (K : Value → World → Prop) (h : D_inode_sized g0 w0 K) : Cal Tryz.prog F_inode_sized #[.agg g0] w0 K :=
 denF_sound (A := { S := [2],ty := [(2,4)],raw := [] }) mixed Tryz.func148 (by kernel_rfl) (by kernel_rfl) ((show denF Tryz.prog _ Tryz.f148 _ w0 K = D_inode_sized g0 w0 K by kernel_rfl).mpr h)
set_option maxRecDepth 100000 in
def D_num_within (a0 : Option Addr) (l0 c0 : Nat) (n1 : Int) (n2 : Int) (w0 : World) (K : Value → World → Prop) : Prop :=
 Share (fun k => (bif decide (n1 ≥ 0) then (bif decide (n2 ≥ 0) then (bif decide (n1 ≤ (l0 : Int)) then k [.bool (decide (n2 ≤ (IntKind.i64.wrap ((l0 : Int) - n1))))] w0 else k [.bool false] w0) else k [.bool false] w0) else k [.bool false] w0)) fun x w1 =>
 ∃ b6 : Bool,nth x 0 = .bool b6 ∧ K (.bool b6) w1
set_option maxRecDepth 100000 in
theorem C_num_within (a0 : Option Addr) (l0 c0 : Nat) (n1 : Int) (n2 : Int) (w0 : World) (K : Value → World → Prop) (h : D_num_within a0 l0 c0 n1 n2 w0 K) : Cal Tryz.prog F_num_within #[.slice a0 l0 c0,.int .i64 n1,.int .i64 n2] w0 K :=
 denF_sound (A := { S := [6],ty := [(6,4)],raw := [] }) mixed Tryz.func151 (by kernel_rfl) (by kernel_rfl) ((show denF Tryz.prog _ Tryz.f151 _ w0 K = D_num_within a0 l0 c0 n1 n2 w0 K by kernel_rfl).mpr h)
set_option maxRecDepth 100000 in
def D_bits_Count (a0 : Option Addr) (l0 c0 : Nat) (n1 : Int) (w0 : World) (K : Value → World → Prop) : Prop :=
 Cal Tryz.prog F_bits_most #[.slice a0 l0 c0,.int .i64 n1] w0 fun r9 w1 => ∃ n9 : Int,r9 = .int .i64 n9 ∧ LoopC (fun k x w2 =>
 ∃ n10 : Int,nth x 1 = .int .i64 n10 ∧ (bif decide (n10 < n9) then
 Cal Tryz.prog F_bits_Get #[.slice a0 l0 c0,.int .i64 n10] w2 fun r15 w3 => ∃ b15 : Bool,r15 = .bool b15 ∧ Share (fun k_2 => (bif b15 then
 ∃ n5 : Int,nth x 0 = .int .i64 n5 ∧ k_2 [.int .i64 (IntKind.i64.wrap (n5 + 1))] w3
 else
 k_2 [nth x 0] w3)) fun x_2 w4 =>
 k [nth x_2 0,.int .i64 (IntKind.i64.wrap (n10 + 1))] w4
 else
 ∃ n5_2 : Int,nth x 0 = .int .i64 n5_2 ∧ K (.int .i64 n5_2) w2)) [.int .i64 0,.int .i64 0] w1
set_option maxRecDepth 100000 in
theorem C_bits_Count (a0 : Option Addr) (l0 c0 : Nat) (n1 : Int) (w0 : World) (K : Value → World → Prop) (h : D_bits_Count a0 l0 c0 n1 w0 K) : Cal Tryz.prog F_bits_Count #[.slice a0 l0 c0,.int .i64 n1] w0 K :=
 denF_sound (A := { S := [5,10],ty := [(5,3),(10,3)],raw := [] }) mixed Tryz.func152 (by kernel_rfl) (by kernel_rfl) ((show denF Tryz.prog _ Tryz.f152 _ w0 K = D_bits_Count a0 l0 c0 n1 w0 K by kernel_rfl).mpr h)
set_option maxRecDepth 100000 in
def D_slices_Contains_int (a0 : Option Addr) (l0 c0 : Nat) (n1 : Int) (w0 : World) (K : Value → World → Prop) : Prop :=
 Cal Tryz.prog F_slices_Index_int #[.slice a0 l0 c0,.int .i64 n1] w0 fun r7 w1 => ∃ n7 : Int,r7 = .int .i64 n7 ∧ K (.bool (decide (n7 ≥ 0))) w1
set_option maxRecDepth 100000 in
theorem C_slices_Contains_int (a0 : Option Addr) (l0 c0 : Nat) (n1 : Int) (w0 : World) (K : Value → World → Prop) (h : D_slices_Contains_int a0 l0 c0 n1 w0 K) : Cal Tryz.prog F_slices_Contains_int #[.slice a0 l0 c0,.int .i64 n1] w0 K :=
 denF_sound (A := { S := [],ty := [],raw := [] }) mixed Tryz.func175 (by kernel_rfl) (by kernel_rfl) ((show denF Tryz.prog _ Tryz.f175 _ w0 K = D_slices_Contains_int a0 l0 c0 n1 w0 K by kernel_rfl).mpr h)
set_option maxRecDepth 100000 in
def D_slices_DeleteFunc_int (a0 : Option Addr) (l0 c0 : Nat) (v1 : Value) (w0 : World) (K : Value → World → Prop) : Prop :=
 Cal Tryz.prog F_slices_IndexFunc_int #[.slice a0 l0 c0,v1] w0 fun r10 w1 => ∃ n10 : Int,r10 = .int .i64 n10 ∧ (bif n10 == (-1) then
 K (.slice a0 l0 c0) w1
 else
 LoopC (fun k x w2 =>
 ∃ n6 : Int,nth x 1 = .int .i64 n6 ∧ (bif decide (n6 < (l0 : Int)) then
 ∃ q24 : Addr,Al (Instr.indexAt 103 (.slice a0 l0 c0) (.int .i64 n6)) (.pointer (some q24)) ∧ ∃ n25 : Int,Ru (Instr.loadAt 3 (.pointer (some q24))) w2 (.int .i64 n25) w2 ∧ Dyn Tryz.prog v1 #[.int .i64 n25] w2 fun r28 w3 => ∃ b28 : Bool,r28 = .bool b28 ∧ Share (fun k_2 => (bif !b28 then
 ∃ n5 : Int,nth x 0 = .int .i64 n5 ∧ ∃ q33 : Addr,Al (Instr.indexAt 103 (.slice a0 l0 c0) (.int .i64 n5)) (.pointer (some q33)) ∧ ∃ w4 : World,RuU (Instr.storeAt 3 (.pointer (some q33)) (.int .i64 n25)) w3 w4 ∧ k_2 [.int .i64 (IntKind.i64.wrap (n5 + 1))] w4
 else
 k_2 [nth x 0] w3)) fun x_2 w5 =>
 k [nth x_2 0,.int .i64 (IntKind.i64.wrap (n6 + 1))] w5
 else
 ∃ n5_2 : Int,nth x 0 = .int .i64 n5_2 ∧ ∃ (a38 : Option Addr) (l38 c38 : Nat),Al (Instr.sliceAt 103 (.slice a0 l0 c0) (some (.int .i64 n5_2)) none none) (.slice a38 l38 c38) ∧ ∃ w6 : World,Ru (Builtin.clear_ #[103] 0 #[.slice a38 l38 c38]) w2 (.tuple #[]) w6 ∧ ∃ (a41 : Option Addr) (l41 c41 : Nat),Al (Instr.sliceAt 103 (.slice a0 l0 c0) none (some (.int .i64 n5_2)) none) (.slice a41 l41 c41) ∧ K (.slice a41 l41 c41) w6)) [.int .i64 n10,.int .i64 (IntKind.i64.wrap (n10 + 1))] w1)
set_option maxRecDepth 100000 in
theorem C_slices_DeleteFunc_int (a0 : Option Addr) (l0 c0 : Nat) (v1 : Value) (w0 : World) (K : Value → World → Prop) (h : D_slices_DeleteFunc_int a0 l0 c0 v1 w0 K) : Cal Tryz.prog F_slices_DeleteFunc_int #[.slice a0 l0 c0,v1] w0 K :=
 denF_sound (A := { S := [5,6],ty := [(5,3),(6,3)],raw := [] }) mixed Tryz.func176 (by kernel_rfl) (by kernel_rfl) ((show denF Tryz.prog _ Tryz.f176 _ w0 K = D_slices_DeleteFunc_int a0 l0 c0 v1 w0 K by kernel_rfl).mpr h)
set_option maxRecDepth 100000 in
def D_cache_Cache_ask_1 (n0 : Int) (v1 : Value) (w0 : World) (K : Value → World → Prop) : Prop :=
 ∃ n5 : Int,Ru (Instr.loadAt 3 v1) w0 (.int .i64 n5) w0 ∧ K (.bool (n0 == n5)) w0
set_option maxRecDepth 100000 in
theorem C_cache_Cache_ask_1 (n0 : Int) (v1 : Value) (w0 : World) (K : Value → World → Prop) (h : D_cache_Cache_ask_1 n0 v1 w0 K) : Cal Tryz.prog F_cache_Cache_ask_1 #[.int .i64 n0,v1] w0 K :=
 denF_sound (A := { S := [],ty := [],raw := [] }) mixed Tryz.func177 (by kernel_rfl) (by kernel_rfl) ((show denF Tryz.prog _ Tryz.f177 _ w0 K = D_cache_Cache_ask_1 n0 v1 w0 K by kernel_rfl).mpr h)
set_option maxRecDepth 100000 in
def D_cache_Cache_room (p0 : Option Addr) (w0 : World) (K : Value → World → Prop) : Prop :=
 ∃ q1 : Addr,∃ w1 : World,Ru (Instr.box 153 (.pointer p0)) w0 (.pointer (some q1)) w1 ∧ ∃ p4 : Option Addr,Ru (Instr.loadAt 153 (.pointer (some q1))) (drew w1) (.pointer p4) (drew w1) ∧ ∃ q5 : Addr,(.pointer p4 : Value) = .pointer (some q5) ∧ ∃ (a7 : Option Addr) (l7 c7 : Nat),Ru (Instr.loadAt 103 (.pointer (some (Addr.add q5 3)))) (drew w1) (.slice a7 l7 c7) (drew w1) ∧ ∃ p9 : Option Addr,Ru (Instr.loadAt 153 (.pointer (some q1))) (drew w1) (.pointer p9) (drew w1) ∧ ∃ q10 : Addr,(.pointer p9 : Value) = .pointer (some q10) ∧ ∃ n12 : Int,Ru (Instr.loadAt 3 (.pointer (some (Addr.add q10 1)))) (drew w1) (.int .i64 n12) (drew w1) ∧ (bif decide ((l7 : Int) < n12) then
 K (.int .i64 0) (drew w1)
 else
 ∃ p14 : Option Addr,Ru (Instr.loadAt 153 (.pointer (some q1))) (drew w1) (.pointer p14) (drew w1) ∧ ∃ q15 : Addr,(.pointer p14 : Value) = .pointer (some q15) ∧ ∃ (a17 : Option Addr) (l17 c17 : Nat),Ru (Instr.loadAt 103 (.pointer (some (Addr.add q15 3)))) (drew w1) (.slice a17 l17 c17) (drew w1) ∧ Cal Tryz.prog F_slices_IndexFunc_int #[.slice a17 l17 c17,.func (.func F_cache_Cache_room_1) #[] #[.pointer (some q1)]] (drew w1) fun r19 w2 => ∃ n19 : Int,r19 = .int .i64 n19 ∧ (bif decide (n19 < 0) then
 K (.int .i64 5) w2
 else
 ∃ p22 : Option Addr,Ru (Instr.loadAt 153 (.pointer (some q1))) (drew w2) (.pointer p22) (drew w2) ∧ ∃ p23 : Option Addr,Ru (Instr.loadAt 153 (.pointer (some q1))) (drew w2) (.pointer p23) (drew w2) ∧ ∃ q24 : Addr,(.pointer p23 : Value) = .pointer (some q24) ∧ ∃ (a26 : Option Addr) (l26 c26 : Nat),Ru (Instr.loadAt 103 (.pointer (some (Addr.add q24 3)))) (drew w2) (.slice a26 l26 c26) (drew w2) ∧ ∃ q28 : Addr,Al (Instr.indexAt 103 (.slice a26 l26 c26) (.int .i64 n19)) (.pointer (some q28)) ∧ ∃ n29 : Int,Ru (Instr.loadAt 3 (.pointer (some q28))) (drew w2) (.int .i64 n29) (drew w2) ∧ Cal Tryz.prog F_cache_Cache_out #[.pointer p22,.int .i64 n29] (drew w2) fun r30 w3 => r30 = .tuple #[] ∧ K (.int .i64 0) w3))
set_option maxRecDepth 100000 in
theorem C_cache_Cache_room (p0 : Option Addr) (w0 : World) (K : Value → World → Prop) (h : D_cache_Cache_room p0 w0 K) : Cal Tryz.prog F_cache_Cache_room #[.pointer p0] w0 K :=
 denF_sound (A := { S := [],ty := [],raw := [] }) mixed Tryz.func178 (by kernel_rfl) (by kernel_rfl) ((show denF Tryz.prog _ Tryz.f178 _ w0 K = D_cache_Cache_room p0 w0 K by kernel_rfl).mpr h)
set_option maxRecDepth 100000 in
def D_bits_most (a0 : Option Addr) (l0 c0 : Nat) (n1 : Int) (w0 : World) (K : Value → World → Prop) : Prop :=
 K (.int .i64 (if (IntKind.i64.wrap (8 * (l0 : Int))) < (if 0 > n1 then 0 else n1) then (IntKind.i64.wrap (8 * (l0 : Int))) else (if 0 > n1 then 0 else n1))) w0
set_option maxRecDepth 100000 in
theorem C_bits_most (a0 : Option Addr) (l0 c0 : Nat) (n1 : Int) (w0 : World) (K : Value → World → Prop) (h : D_bits_most a0 l0 c0 n1 w0 K) : Cal Tryz.prog F_bits_most #[.slice a0 l0 c0,.int .i64 n1] w0 K :=
 denF_sound (A := { S := [],ty := [],raw := [] }) mixed Tryz.func179 (by kernel_rfl) (by kernel_rfl) ((show denF Tryz.prog _ Tryz.f179 _ w0 K = D_bits_most a0 l0 c0 n1 w0 K by kernel_rfl).mpr h)
set_option maxRecDepth 100000 in
def D_bits_Get (a0 : Option Addr) (l0 c0 : Nat) (n1 : Int) (w0 : World) (K : Value → World → Prop) : Prop :=
 Share (fun k => Cal Tryz.prog F_bits_there #[.slice a0 l0 c0,.int .i64 n1] (drew w0) fun r7 w1 => ∃ b7 : Bool,r7 = .bool b7 ∧ (bif b7 then ∃ q12 : Addr,Al (Instr.indexAt 24 (.slice a0 l0 c0) (.int .i64 (IntKind.i64.wrap (Int.tdiv n1 8)))) (.pointer (some q12)) ∧ ∃ n13 : Int,Ru (Instr.loadAt 5 (.pointer (some q12))) w1 (.int .u8 n13) w1 ∧ ∃ n16 : Int,Al (eqS .shl 5 (.const (.int .u8 1)) (.tmp 15) (.int .u8 1) (.int .i64 (Int.tmod n1 8))) (.int .u8 n16) ∧ k [.bool ((IntKind.u8.wrap (bvAnd 8 n13 n16)) != 0)] w1 else k [.bool false] w1)) fun x w2 =>
 ∃ b4 : Bool,nth x 0 = .bool b4 ∧ K (.bool b4) w2
set_option maxRecDepth 100000 in
theorem C_bits_Get (a0 : Option Addr) (l0 c0 : Nat) (n1 : Int) (w0 : World) (K : Value → World → Prop) (h : D_bits_Get a0 l0 c0 n1 w0 K) : Cal Tryz.prog F_bits_Get #[.slice a0 l0 c0,.int .i64 n1] w0 K :=
 denF_sound (A := { S := [4],ty := [(4,4)],raw := [] }) mixed Tryz.func180 (by kernel_rfl) (by kernel_rfl) ((show denF Tryz.prog _ Tryz.f180 _ w0 K = D_bits_Get a0 l0 c0 n1 w0 K by kernel_rfl).mpr h)
set_option maxRecDepth 100000 in
def D_slices_Index_int (a0 : Option Addr) (l0 c0 : Nat) (n1 : Int) (w0 : World) (K : Value → World → Prop) : Prop :=
 LoopC (fun k x w1 =>
 ∃ n8 : Int,nth x 0 = .int .i64 n8 ∧ (bif decide (n8 < (l0 : Int)) then
 ∃ q14 : Addr,Al (Instr.indexAt 103 (.slice a0 l0 c0) (.int .i64 n8)) (.pointer (some q14)) ∧ ∃ n15 : Int,Ru (Instr.loadAt 3 (.pointer (some q14))) w1 (.int .i64 n15) w1 ∧ (bif n1 == n15 then
 K (.int .i64 n8) w1
 else
 k [.int .i64 (IntKind.i64.wrap (n8 + 1))] w1)
 else
 K (.int .i64 ((-1))) w1)) [.int .i64 0] w0
set_option maxRecDepth 100000 in
theorem C_slices_Index_int (a0 : Option Addr) (l0 c0 : Nat) (n1 : Int) (w0 : World) (K : Value → World → Prop) (h : D_slices_Index_int a0 l0 c0 n1 w0 K) : Cal Tryz.prog F_slices_Index_int #[.slice a0 l0 c0,.int .i64 n1] w0 K :=
 denF_sound (A := { S := [8],ty := [(8,3)],raw := [] }) mixed Tryz.func198 (by kernel_rfl) (by kernel_rfl) ((show denF Tryz.prog _ Tryz.f198 _ w0 K = D_slices_Index_int a0 l0 c0 n1 w0 K by kernel_rfl).mpr h)
set_option maxRecDepth 100000 in
def D_slices_IndexFunc_int (a0 : Option Addr) (l0 c0 : Nat) (v1 : Value) (w0 : World) (K : Value → World → Prop) : Prop :=
 LoopC (fun k x w1 =>
 ∃ n8 : Int,nth x 0 = .int .i64 n8 ∧ (bif decide (n8 < (l0 : Int)) then
 ∃ q14 : Addr,Al (Instr.indexAt 103 (.slice a0 l0 c0) (.int .i64 n8)) (.pointer (some q14)) ∧ ∃ n15 : Int,Ru (Instr.loadAt 3 (.pointer (some q14))) w1 (.int .i64 n15) w1 ∧ Dyn Tryz.prog v1 #[.int .i64 n15] w1 fun r16 w2 => ∃ b16 : Bool,r16 = .bool b16 ∧ (bif b16 then
 K (.int .i64 n8) w2
 else
 k [.int .i64 (IntKind.i64.wrap (n8 + 1))] w2)
 else
 K (.int .i64 ((-1))) w1)) [.int .i64 0] w0
set_option maxRecDepth 100000 in
theorem C_slices_IndexFunc_int (a0 : Option Addr) (l0 c0 : Nat) (v1 : Value) (w0 : World) (K : Value → World → Prop) (h : D_slices_IndexFunc_int a0 l0 c0 v1 w0 K) : Cal Tryz.prog F_slices_IndexFunc_int #[.slice a0 l0 c0,v1] w0 K :=
 denF_sound (A := { S := [8],ty := [(8,3)],raw := [] }) mixed Tryz.func199 (by kernel_rfl) (by kernel_rfl) ((show denF Tryz.prog _ Tryz.f199 _ w0 K = D_slices_IndexFunc_int a0 l0 c0 v1 w0 K by kernel_rfl).mpr h)
set_option maxRecDepth 100000 in
def D_cache_Cache_room_1 (n0 : Int) (v1 : Value) (w0 : World) (K : Value → World → Prop) : Prop :=
 Share (fun k => ∃ p4 : Option Addr,Ru (Instr.loadAt 153 v1) w0 (.pointer p4) w0 ∧ ∃ q5 : Addr,(.pointer p4 : Value) = .pointer (some q5) ∧ ∃ m7 : Option Nat,Ru (Instr.loadAt 208 (.pointer (some (Addr.add q5 2)))) w0 (.map m7) w0 ∧ ∃ p9 : Option Addr,Ru (Instr.lookup 208 (.map m7) (.int .i64 n0) false) w0 (.pointer p9) w0 ∧ ∃ q10 : Addr,(.pointer p9 : Value) = .pointer (some q10) ∧ ∃ n12 : Int,Ru (Instr.loadAt 3 (.pointer (some (Addr.add q10 1)))) w0 (.int .i64 n12) w0 ∧ (bif n12 == 0 then ∃ p15 : Option Addr,Ru (Instr.loadAt 153 v1) w0 (.pointer p15) w0 ∧ Cal Tryz.prog F_cache_Cache_dirty #[.pointer p15,.int .i64 n0] w0 fun r17 w1 => ∃ b17 : Bool,r17 = .bool b17 ∧ k [.bool (!b17)] w1 else k [.bool false] w0)) fun x w2 =>
 ∃ b3 : Bool,nth x 0 = .bool b3 ∧ K (.bool b3) w2
set_option maxRecDepth 100000 in
theorem C_cache_Cache_room_1 (n0 : Int) (v1 : Value) (w0 : World) (K : Value → World → Prop) (h : D_cache_Cache_room_1 n0 v1 w0 K) : Cal Tryz.prog F_cache_Cache_room_1 #[.int .i64 n0,v1] w0 K :=
 denF_sound (A := { S := [3],ty := [(3,4)],raw := [] }) mixed Tryz.func200 (by kernel_rfl) (by kernel_rfl) ((show denF Tryz.prog _ Tryz.f200 _ w0 K = D_cache_Cache_room_1 n0 v1 w0 K by kernel_rfl).mpr h)
set_option maxRecDepth 100000 in
def D_cache_Cache_dirty (p0 : Option Addr) (n1 : Int) (w0 : World) (K : Value → World → Prop) : Prop :=
 ∃ q11 : Addr,(.pointer p0 : Value) = .pointer (some q11) ∧ ∃ p13 : Option Addr,Ru (Instr.loadAt 27 (.pointer (some (Addr.add q11 0)))) w0 (.pointer p13) w0 ∧ Cal Tryz.prog F_disk_Disk_Read #[.pointer p13,.int .i64 n1] w0 fun r15 w1 => ∃ (a15a : Option Addr) (l15a c15a : Nat),∃ n15b : Int,r15 = .tuple #[.slice a15a l15a c15a,.int .i64 n15b] ∧ ∃ q21 : Addr,(.pointer p0 : Value) = .pointer (some q21) ∧ ∃ m23 : Option Nat,Ru (Instr.loadAt 208 (.pointer (some (Addr.add q21 2)))) w1 (.map m23) w1 ∧ ∃ p25 : Option Addr,Ru (Instr.lookup 208 (.map m23) (.int .i64 n1) false) w1 (.pointer p25) w1 ∧ ∃ q26 : Addr,(.pointer p25 : Value) = .pointer (some q26) ∧ ∃ (a29 : Option Addr) (l29 c29 : Nat),Ru (Instr.loadAt 24 (.pointer (some (Addr.add (Addr.add q26 0) 0)))) w1 (.slice a29 l29 c29) w1 ∧ Cal Tryz.prog F_num_Diff #[.slice a15a l15a c15a,.slice a29 l29 c29] w1 fun r30 w2 => ∃ n30a : Int,∃ n30b : Int,r30 = .tuple #[.int .i64 n30a,.int .i64 n30b] ∧ K (.bool (decide (n30a ≥ 0))) w2
set_option maxRecDepth 100000 in
theorem C_cache_Cache_dirty (p0 : Option Addr) (n1 : Int) (w0 : World) (K : Value → World → Prop) (h : D_cache_Cache_dirty p0 n1 w0 K) : Cal Tryz.prog F_cache_Cache_dirty #[.pointer p0,.int .i64 n1] w0 K :=
 denF_sound (A := { S := [],ty := [],raw := [] }) mixed Tryz.func201 (by kernel_rfl) (by kernel_rfl) ((show denF Tryz.prog _ Tryz.f201 _ w0 K = D_cache_Cache_dirty p0 n1 w0 K by kernel_rfl).mpr h)
set_option maxRecDepth 100000 in
def D_cache_Cache_out (p0 : Option Addr) (n1 : Int) (w0 : World) (K : Value → World → Prop) : Prop :=
 ∃ q3 : Addr,∃ w1 : World,Ru (Instr.box 3 (.int .i64 n1)) w0 (.pointer (some q3)) w1 ∧ ∃ q5 : Addr,(.pointer p0 : Value) = .pointer (some q5) ∧ ∃ m7 : Option Nat,Ru (Instr.loadAt 208 (.pointer (some (Addr.add q5 2)))) (drew w1) (.map m7) (drew w1) ∧ ∃ n8 : Int,Ru (Instr.loadAt 3 (.pointer (some q3))) (drew w1) (.int .i64 n8) (drew w1) ∧ ∃ w2 : World,Ru (Builtin.delete_ #[208,246] 0 #[.map m7,.int .i64 n8]) (drew w1) (.tuple #[]) w2 ∧ ∃ q11 : Addr,(.pointer p0 : Value) = .pointer (some q11) ∧ ∃ (a13 : Option Addr) (l13 c13 : Nat),Ru (Instr.loadAt 103 (.pointer (some (Addr.add q11 3)))) w2 (.slice a13 l13 c13) w2 ∧ Cal Tryz.prog F_slices_DeleteFunc_int #[.slice a13 l13 c13,.func (.func F_cache_Cache_out_1) #[] #[.pointer (some q3)]] w2 fun r15 w3 => ∃ (a15 : Option Addr) (l15 c15 : Nat),r15 = .slice a15 l15 c15 ∧ ∃ q16 : Addr,(.pointer p0 : Value) = .pointer (some q16) ∧ ∃ w4 : World,RuU (Instr.storeAt 103 (.pointer (some (Addr.add q16 3))) (.slice a15 l15 c15)) w3 w4 ∧ K (.tuple #[]) w4
set_option maxRecDepth 100000 in
theorem C_cache_Cache_out (p0 : Option Addr) (n1 : Int) (w0 : World) (K : Value → World → Prop) (h : D_cache_Cache_out p0 n1 w0 K) : Cal Tryz.prog F_cache_Cache_out #[.pointer p0,.int .i64 n1] w0 K :=
 denF_sound (A := { S := [],ty := [],raw := [] }) mixed Tryz.func202 (by kernel_rfl) (by kernel_rfl) ((show denF Tryz.prog _ Tryz.f202 _ w0 K = D_cache_Cache_out p0 n1 w0 K by kernel_rfl).mpr h)
set_option maxRecDepth 100000 in
def D_bits_there (a0 : Option Addr) (l0 c0 : Nat) (n1 : Int) (w0 : World) (K : Value → World → Prop) : Prop :=
 Share (fun k => (bif decide (n1 ≥ 0) then k [.bool (decide (n1 < (IntKind.i64.wrap (8 * (l0 : Int)))))] w0 else k [.bool false] w0)) fun x w1 =>
 ∃ b4 : Bool,nth x 0 = .bool b4 ∧ K (.bool b4) w1
set_option maxRecDepth 100000 in
theorem C_bits_there (a0 : Option Addr) (l0 c0 : Nat) (n1 : Int) (w0 : World) (K : Value → World → Prop) (h : D_bits_there a0 l0 c0 n1 w0 K) : Cal Tryz.prog F_bits_there #[.slice a0 l0 c0,.int .i64 n1] w0 K :=
 denF_sound (A := { S := [4],ty := [(4,4)],raw := [] }) mixed Tryz.func203 (by kernel_rfl) (by kernel_rfl) ((show denF Tryz.prog _ Tryz.f203 _ w0 K = D_bits_there a0 l0 c0 n1 w0 K by kernel_rfl).mpr h)
set_option maxRecDepth 100000 in
def D_cache_Cache_out_1 (n0 : Int) (v1 : Value) (w0 : World) (K : Value → World → Prop) : Prop :=
 ∃ n5 : Int,Ru (Instr.loadAt 3 v1) w0 (.int .i64 n5) w0 ∧ K (.bool (n0 == n5)) w0
set_option maxRecDepth 100000 in
theorem C_cache_Cache_out_1 (n0 : Int) (v1 : Value) (w0 : World) (K : Value → World → Prop) (h : D_cache_Cache_out_1 n0 v1 w0 K) : Cal Tryz.prog F_cache_Cache_out_1 #[.int .i64 n0,v1] w0 K :=
 denF_sound (A := { S := [],ty := [],raw := [] }) mixed Tryz.func219 (by kernel_rfl) (by kernel_rfl) ((show denF Tryz.prog _ Tryz.f219 _ w0 K = D_cache_Cache_out_1 n0 v1 w0 K by kernel_rfl).mpr h)
end Go.Proofs.YtoajelhfiganaaaGreat
end
section
open Go Go.Den Go.Proofs
namespace Go.Proofs.YtoajelhfiganaaaGreat
structure Wy where
  d : Int
  a : Int
  b : Int
  c : Int
  deriving DecidableEq
def Wy.l (x : Wy) : List Value := [.int .i64 x.d, .int .i64 x.a, .int .i64 x.b, .int .i64 x.c]
end Go.Proofs.YtoajelhfiganaaaGreat
end
section
open Go Go.Den Go.Proofs
namespace Go.Den
def u8 (x : UInt8) : Value := .int .u8 (x.toNat : Int)
def u8L (xs : List UInt8) : List Value := xs.map u8
@[simp] theorem length_u8L (xs : List UInt8) : (u8L xs).length = xs.length := by simp [u8L]
theorem u8_ofNat (q : Nat) : (((UInt8.ofNat (q % 256)).toNat : Nat) : Int) = (q : Int) % 256 := by
  have : (UInt8.ofNat (q % 256)).toNat = q % 256 := by rw [UInt8.toNat_ofNat']; omega
  rw [this]; omega
theorem u8L_get {xs : List UInt8} {i : Nat} (hi : i < xs.length) : (u8L xs)[i]? = some (.int .u8 (xs[i].toNat : Int)) := by simp [u8L, hi, u8]
def leN : List UInt8 → Nat
  | [] => 0
  | x :: r => x.toNat + 256 * leN r
theorem leN_lt : ∀ xs : List UInt8, leN xs < 256 ^ xs.length
  | [] => by simp [leN]
  | x :: r => by
    have := leN_lt r
    have hx := x.toNat_lt
    simp only [leN, List.length_cons, Nat.pow_succ]
    omega
theorem leN_append : ∀ (xs ys : List UInt8), leN (xs ++ ys) = leN xs + 256 ^ xs.length * leN ys
  | [], ys => by simp [leN]
  | x :: r, ys => by
    simp only [List.cons_append, leN, leN_append r ys, List.length_cons, Nat.pow_succ]
    rw [Nat.mul_add, ← Nat.mul_assoc, Nat.mul_comm 256 (256 ^ r.length), Nat.add_assoc]
theorem leN_snoc (xs : List UInt8) (i : Nat) (hi : i < xs.length) : leN (xs.take (i + 1)) = leN (xs.take i) + 256 ^ i * xs[i].toNat := by
  rw [List.take_succ_eq_append_getElem hi, leN_append]
  simp [leN, Nat.min_eq_left (Nat.le_of_lt hi)]
theorem or_add {a x i : Nat} (ha : a < 256 ^ i) : a ||| (x * 256 ^ i) = a + 256 ^ i * x := by
  have e : (256 : Nat) ^ i = 2 ^ (8 * i) := by rw [Nat.pow_mul]
  rw [e] at ha ⊢
  rw [Nat.or_comm, Nat.mul_comm x, ← Nat.two_pow_add_eq_or_of_lt ha, Nat.add_comm]
theorem shl_run {P : Program} {T : TypeId} {x y : Operand} {a b : Int} (hb : 0 ≤ b) (w : World) : (eqS .shl T x y (.int .u64 a) (.int .i64 b)).run P w = .ok (.int .u64 (IntKind.u64.wrap (a * 2 ^ (min b.toNat 64)))) w := by
  rw [eqS_run (fun w => guard_int _ _ _ _ _ _ _ _ w)]
  have : ¬ b < 0 := by omega
  simp [binOp, Op.shift, this, IntKind.bits]
def lastI : List Value → Int
  | [.int _ n] => n
  | [_, .int _ n] => n
  | [_, _, .int _ n] => n
  | [_, _, _, .int _ n] => n
  | _ => 0
def Row (w : World) (a : Option Addr) (cs : List Value) : Prop := cs = [] ∨ ∃ b o, a = some ⟨b, o, none⟩ ∧ At w b o cs
def RowU (w : World) (a : Option Addr) (cs : List Value) : Prop := cs = [] ∨ ∃ b o, a = some ⟨b, o, none⟩ ∧ AtU w b o cs
end Go.Den
namespace Go.Proofs.YtoajelhfiganaaaGreat
theorem or_nat {a b : Nat} (ha : a < 18446744073709551616) (hb : b < 18446744073709551616) : bvOr 64 (a : Int) (b : Int) = ((a ||| b : Nat) : Int) := by
  show (((_ : BitVec 64).toNat : Nat) : Int) = _
  rw [BitVec.ofInt_natCast, BitVec.ofInt_natCast, BitVec.toNat_or, BitVec.toNat_ofNat, BitVec.toNat_ofNat, Nat.mod_eq_of_lt ha, Nat.mod_eq_of_lt hb]
theorem pow_le_64 {i : Nat} (h : i < 8) : 256 ^ (i + 1) ≤ 18446744073709551616 := by
  have : 256 ^ (i + 1) ≤ 256 ^ 8 := Nat.pow_le_pow_right (by omega) (by omega)
  simpa using this
theorem Get_c {a : Option Addr} {l c : Nat} {xs : List UInt8} {w : World} {K : Value → World → Prop} (hl : xs.length = l) (hr : Row w a (u8L xs)) (h63 : l ≤ 9223372036854775807)
    (h : K (.int .u64 (leN (xs.take 8) : Int)) w) : Cal Tryz.prog F_num_Get #[.slice a l c] w K := by
  apply C_num_Get
  unfold D_num_Get
  refine ⟨fun x w1 => w1 = w ∧ ∃ i : Nat, i ≤ 8 ∧ i ≤ l ∧ x = [.int .u64 (leN (xs.take i) : Int), .int .i64 i], fun x _ => (8 - lastI x).toNat, ⟨rfl, 0, by omega, by omega, rfl⟩, ?_⟩
  rintro x w1 ⟨rfl, i, hi8, hil, rfl⟩
  refine ⟨_, rfl, cond_of (fun hb => ?_) (fun hb => ?_)⟩
  · have hb := of_decide_eq_true hb
    have hi : i < 8 ∧ i < l := by split at hb <;> omega
    have hix : i < xs.length := by omega
    obtain ⟨b, o, rfl, hat⟩ := hr.resolve_left (by intro e; have := congrArg List.length e; simp at this; rw [this] at hix; simp at hix)
    have hx := xs[i].toNat_lt
    have hlt : leN (xs.take i) < 256 ^ i := by have := leN_lt (xs.take i); rwa [List.length_take_of_le (by omega)] at this
    have hp := pow_le_64 hi.1
    have hpi : 256 ^ i * xs[i].toNat + 256 ^ i ≤ 256 ^ (i + 1) := by rw [Nat.pow_succ, ← Nat.mul_succ]; exact Nat.mul_le_mul_left _ (by omega)
    refine ⟨_, rfl, _, index_slice (k := 1) (by kernel_rfl) (by omega) (by omega), ?_⟩
    rw [add_none, show (i : Int).toNat * 1 = i by omega]
    refine ⟨_, hat.load (by kernel_rfl) (u8L_get hix), ?_⟩
    rw [wrapU64 (by omega) (by omega), wrap64 (x := 8 * (i : Int)) (by omega) (by omega)]
    refine ⟨_, shl_run (by omega), ?_⟩
    have e1 : ((xs[i].toNat : Int) * 2 ^ (min (8 * (i : Int)).toNat 64)) = ((xs[i].toNat * 256 ^ i : Nat) : Int) := by
      rw [show min (8 * (i : Int)).toNat 64 = 8 * i by omega]
      have : (256 : Nat) ^ i = 2 ^ (8 * i) := by rw [Nat.pow_mul]
      rw [this]; push_cast; rfl
    have hmul : xs[i].toNat * 256 ^ i = 256 ^ i * xs[i].toNat := Nat.mul_comm _ _
    rw [e1, wrapU64 (x := ((xs[i].toNat * 256 ^ i : Nat) : Int)) (by omega) (by omega), or_nat (by omega) (by omega), or_add hlt, ← leN_snoc xs i hix,
      wrapU64 (x := ((leN (xs.take (i + 1)) : Nat) : Int)) (by omega) (by rw [leN_snoc xs i hix]; omega), wrap64 (x := (i : Int) + 1) (by omega) (by omega)]
    exact ⟨⟨rfl, i + 1, by omega, by omega, rfl⟩, by simp [lastI]; omega⟩
  · have hb := of_decide_eq_false hb
    have hi : i = 8 ∨ i = l := by split at hb <;> omega
    refine ⟨_, rfl, ?_⟩
    have e : xs.take i = xs.take 8 := by
      rcases hi with rfl | rfl
      · rfl
      · rw [List.take_of_length_le (by omega), List.take_of_length_le (by omega)]
    rw [e]; exact h
def toLe : Nat → Nat → List UInt8
  | 0, _ => []
  | k + 1, n => UInt8.ofNat (n % 256) :: toLe k (n / 256)
@[simp] theorem length_toLe : ∀ k n, (toLe k n).length = k
  | 0, _ => rfl
  | k + 1, n => by simp [toLe, length_toLe k]
theorem toLe_snoc : ∀ (k n : Nat), toLe (k + 1) n = toLe k n ++ [UInt8.ofNat (n / 256 ^ k % 256)]
  | 0, n => by simp [toLe]
  | k + 1, n => by
    rw [toLe, toLe_snoc k (n / 256)]
    simp only [toLe, List.cons_append]
    rw [Nat.div_div_eq_div_mul, Nat.pow_succ, Nat.mul_comm 256]
theorem Put_c {b o i l c : Nat} {cs : List Value} {n : Nat} {w : World} {K : Value → World → Prop} (hat : AtU w b o cs) (hil : i + l ≤ cs.length) (h63 : l ≤ 9223372036854775807)
    (h : ∀ w', Mod (fun x => x = b) w w' → AtU w' b o (splice cs i (u8L (toLe l n))) → w'.heap.size = w.heap.size → K (.tuple #[]) w') : Cal Tryz.prog F_num_Put #[.slice (some ⟨b, o + i, none⟩) l c, .int .u64 n] w K := by
  apply C_num_Put
  unfold D_num_Put
  refine ⟨fun x w1 => ∃ j : Nat, j ≤ l ∧ x = [.int .u64 ((n / 256 ^ j : Nat) : Int), .int .i64 j] ∧ AtU w1 b o (splice cs i (u8L (toLe j n))) ∧ Mod (fun x => x = b) w w1 ∧ w1.heap.size = w.heap.size,
    fun x _ => (l - lastI x).toNat, ⟨0, by omega, by simp, by simpa [toLe, u8L, splice] using hat, Mod.refl _ _, rfl⟩, ?_⟩
  rintro x w1 ⟨j, hjl, rfl, hat1, hm, hsz⟩
  refine ⟨_, rfl, cond_of (fun hb => ?_) (fun hb => ?_)⟩
  · have hb := of_decide_eq_true hb
    have hj : j < l := by omega
    refine ⟨_, rfl, _, index_slice (k := 1) (by kernel_rfl) (by omega) (by omega), ?_⟩
    rw [add_none, show (j : Int).toNat * 1 = j by omega, Nat.add_assoc]
    obtain ⟨w2, h1, h2, h3, h4⟩ := hat1.store (P := Tryz.prog) (T := 5) (i := i + j) (v := .int .u8 (IntKind.u8.wrap ((n / 256 ^ j : Nat) : Int))) (by kernel_rfl) (by rw [length_splice (by simp; omega)]; omega) rfl
    refine ⟨w2, h1, ?_⟩
    rw [wrap64 (x := (j : Int) + 1) (by omega) (by omega)]
    have e1 : Int.fdiv ((n / 256 ^ j : Nat) : Int) 256 = ((n / 256 ^ (j + 1) : Nat) : Int) := by
      rw [Nat.pow_succ, ← Nat.div_div_eq_div_mul, Int.fdiv_eq_ediv_of_nonneg _ (by omega)]
      exact (Int.natCast_ediv _ _).symm
    rw [e1]
    refine ⟨⟨j + 1, by omega, by simp, ?_, hm.trans h3 (fun _ _ h => h), by omega⟩, by simp [lastI]; omega⟩
    have ev : (Value.int .u8 (IntKind.u8.wrap ((n / 256 ^ j : Nat) : Int))) = u8 (UInt8.ofNat (n / 256 ^ j % 256)) := by
      rw [wrapU8]; unfold u8; rw [u8_ofNat]
    have e2 : (splice cs i (u8L (toLe j n))).set (i + j) (u8 (UInt8.ofNat (n / 256 ^ j % 256))) = splice cs i (u8L (toLe (j + 1) n)) := by
      have := splice_snoc (cs := cs) (vs := u8L (toLe j n)) (i := i) (v := u8 (UInt8.ofNat (n / 256 ^ j % 256))) (by simp; omega)
      rw [length_u8L, length_toLe] at this
      rw [this, toLe_snoc]; simp [u8L]
    rw [ev, e2] at h2
    exact h2
  · have hb := of_decide_eq_false hb
    have hj : j = l := by omega
    subst hj
    exact h w1 hm hat1 hsz
end Go.Proofs.YtoajelhfiganaaaGreat
end
section
open Go Go.Den Go.Proofs
namespace Go.Den
def I (n : Int) : Value := .int .i64 n
def iL (ns : List Int) : List Value := ns.map I
@[simp] theorem length_iL (ns : List Int) : (iL ns).length = ns.length := by simp [iL]
theorem iL_get {ns : List Int} {i : Nat} (hi : i < ns.length) : (iL ns)[i]? = some (.int .i64 ns[i]) := by simp [iL, hi, I]
theorem one_u8L (xs : List UInt8) : ∀ v ∈ u8L xs, v.oneCell' = true := by
  intro v hv; simp [u8L] at hv; obtain ⟨x, _, rfl⟩ := hv; rfl
theorem one_iL (xs : List Int) : ∀ v ∈ iL xs, v.oneCell' = true := by
  intro v hv; simp [iL] at hv; obtain ⟨x, _, rfl⟩ := hv; rfl
theorem u8L_sub (xs : List UInt8) (i m : Nat) : ((u8L xs).drop i).take m = u8L ((xs.drop i).take m) := by simp [u8L, List.map_drop, List.map_take]
theorem Row.sub {w : World} {a : Option Addr} {c i m : Nat} {xs : List UInt8} (h : Row w a (u8L xs)) (him : i + m ≤ xs.length) (hc : xs.length ≤ c) (hm : 0 < m) : Row w (cutA a c i 1) (u8L ((xs.drop i).take m)) := by
  rcases h with h | ⟨b, o, rfl, hat⟩
  · have := congrArg List.length h; simp at this; rw [this] at him; simp at him; omega
  · refine .inr ⟨b, o + i, ?_, ?_⟩
    · unfold cutA; rw [if_neg (by omega)]; simp [add_none]
    · rw [← u8L_sub]; exact hat.sub (by simpa using him)
theorem splice_u8L (xs ys : List UInt8) (i : Nat) : splice (u8L xs) i (u8L ys) = u8L (xs.take i ++ ys ++ xs.drop (i + ys.length)) := by
  simp [splice, u8L, List.map_take, List.map_drop]
end Go.Den
namespace Go.Proofs.YtoajelhfiganaaaGreat
theorem elemZ_ints : elemZ Tryz.prog 103 1 (.int .i64 0) 8 := by unfold elemZ; kernel_rfl
theorem elemZ_bytes : elemZ Tryz.prog 24 1 (.int .u8 0) 1 := by unfold elemZ; kernel_rfl
end Go.Proofs.YtoajelhfiganaaaGreat
end
section
open Go Go.Den
namespace Go.Den
section
variable {P : Program} {w : World}
theorem Mod.grown {b : World} {row : Option Nat} (h : w.grownBy b row) : Mod (fun x => row = some x) w b :=
  ⟨h.tape, h.os, h.output, h.size, fun k hk hn => h.block k hk (fun e => hn e.symm)⟩
def Own (P : Program) (w : World) (base : Nat) (T : TypeId) (k : Nat) (a : Option Addr) (l c : Nat) (xs : List Value) : Prop :=
  ∃ e, P.underlying T = some (.slice e) ∧ w.ownsRow base e k (.slice a l c) l xs
theorem Own.len {base k l c : Nat} {T : TypeId} {a : Option Addr} {xs : List Value} (h : Own P w base T k a l c xs) : xs.length = l * k := by obtain ⟨e, _, h⟩ := h; exact h.1
theorem Own.nil {base k bytes : Nat} {T : TypeId} {z : Value} (hT : elemZ P T k z bytes) : Own P w base T k none 0 0 [] := by
  obtain ⟨e, i, zv, he, _⟩ := hT.is
  exact ⟨e, he, World.ownsRow_nil w base e k⟩
theorem Own.base {base k l c : Nat} {T : TypeId} {a : Option Addr} {xs : List Value} (h : Own P w base T k a l c xs) {q : Addr} (hq : a = some q) : base ≤ q.block ∧ q.block < w.heap.size := by
  obtain ⟨e, _, h⟩ := h
  exact h.lt q.block (by rw [hq]; rfl)
theorem Own.zero {base k l c : Nat} {T : TypeId} {xs : List Value} (h : Own P w base T k none l c xs) : l = 0 ∧ c = 0 := by
  obtain ⟨e, _, h⟩ := h
  rcases h.2 with ⟨h1, h2⟩ | ⟨g, cap, cur, h1, _⟩
  · simp at h1; exact ⟨h2, h1.2⟩
  · simp at h1
theorem Own.cap {base k l c : Nat} {T : TypeId} {a : Option Addr} {xs : List Value} (h : Own P w base T k a l c xs) : l ≤ c ∧ c ≤ maxLen := by
  obtain ⟨e, _, h⟩ := h
  rcases h.2 with ⟨h1, h2⟩ | ⟨g, cap, cur, h1, _, _, h3, h4, _⟩
  · simp at h1; omega
  · simp at h1; obtain ⟨_, rfl⟩ := h1; exact ⟨h3, h4⟩
theorem Own.keep {base k l c : Nat} {T : TypeId} {a : Option Addr} {xs : List Value} {S : Nat → Prop} {w' : World} (h : Own P w base T k a l c xs) (m : Mod S w w') (hs : ∀ q, a = some q → ¬ S q.block) : Own P w' base T k a l c xs := by
  obtain ⟨e, he, h1, h2⟩ := h
  refine ⟨e, he, h1, ?_⟩
  rcases h2 with hn | ⟨g, cap, cur, hv, hb, hg, rest⟩
  · exact .inl hn
  · refine .inr ⟨g, cap, cur, hv, hb, ?_, rest⟩
    simp at hv
    exact m.keep hg (hs _ hv.1)
theorem Own.mono {base base' k l c : Nat} {T : TypeId} {a : Option Addr} {xs : List Value} (h : Own P w base T k a l c xs) (hb : base' ≤ base) : Own P w base' T k a l c xs := by
  obtain ⟨e, he, h1, h2⟩ := h
  refine ⟨e, he, h1, ?_⟩
  rcases h2 with hn | ⟨g, cap, cur, hv, hb', rest⟩
  · exact .inl hn
  · exact .inr ⟨g, cap, cur, hv, by omega, rest⟩
theorem Own.rowU {base k l c : Nat} {T : TypeId} {a : Option Addr} {xs : List Value} (h : Own P w base T k a l c xs) : RowU w a xs := by
  obtain ⟨e, he, h1, h2⟩ := h
  rcases h2 with ⟨hn, hz⟩ | ⟨g, cap, cur, hv, hb, hg, hle, _, hsz, ht⟩
  · left; exact List.eq_nil_of_length_eq_zero (by rw [h1, hz]; omega)
  · right
    simp at hv
    have hm : l * k ≤ cap * k := Nat.mul_le_mul_right _ hle
    refine ⟨g, 0, hv.1, cur.toList, e, (0, 0), hg, ?_, ?_, fun j _ _ => by simp⟩
    · rw [h1]; simp [hsz]; exact hm
    · rw [h1]; simpa using ht
theorem RowU.row {a : Option Addr} {xs : List Value} (h : RowU w a xs) : Row w a xs := by
  rcases h with h | ⟨b, o, e, h⟩
  · exact .inl h
  · exact .inr ⟨b, o, e, h.at⟩
theorem Row.keep {a : Option Addr} {xs : List Value} {S : Nat → Prop} {w' : World} (h : Row w a xs) (m : Mod S w w') (hs : ∀ q, a = some q → ¬ S q.block) : Row w' a xs := by
  rcases h with h | ⟨b, o, e, h⟩
  · exact .inl h
  · exact .inr ⟨b, o, e, h.keep m (hs _ e)⟩
theorem RowU.keep {a : Option Addr} {xs : List Value} {S : Nat → Prop} {w' : World} (h : RowU w a xs) (m : Mod S w w') (hs : ∀ q, a = some q → ¬ S q.block) : RowU w' a xs := by
  rcases h with h | ⟨b, o, e, h⟩
  · exact .inl h
  · exact .inr ⟨b, o, e, h.keep m (hs _ e)⟩
theorem Row.nos {a : Option Addr} {xs : List Value} {w' : World} (h : Row w a xs) (m : Mod No w w') : Row w' a xs := h.keep m fun _ _ => id
theorem Own.nos {base k l c : Nat} {T : TypeId} {a : Option Addr} {xs : List Value} {w' : World} (h : Own P w base T k a l c xs) (m : Mod No w w') : Own P w' base T k a l c xs := h.keep m fun _ _ => id
theorem At.cell {b o j : Nat} {xs : List Value} {v : Value} (h : At w b o xs) (hj : xs[j]? = some v) : w.cell? (Addr.add ⟨b, o, none⟩ j) = some v := by
  obtain ⟨l, t, fz, h1, h2, h3⟩ := h
  have hjn : j < xs.length := (List.getElem?_eq_some_iff.1 hj).1
  rw [add_none, cell_of h1, take_drop_get h3 j hjn, ← hj]; simp [hjn]
theorem Own.append {base k bytes l c m c2 : Nat} {T ty : TypeId} {z : Value} {a a2 : Option Addr} {xs ys : List Value} (hT : elemZ P T k z bytes) (hk : 0 < k) (h : Own P w base T k a l c xs)
    (hr : Row w a2 ys) (hl : ys.length = m * k) (h0 : a2 = none → m = 0 ∧ c2 = 0) (h1 : ∀ v ∈ ys, v.oneCell' = true) (h63 : (l + m) * bytes ≤ 140737488355328) (hb : 0 < bytes) (hbase : base ≤ w.heap.size) :
    ∃ a' c' w', (Builtin.append_ #[T, T] ty #[.slice a l c, .slice a2 m c2]).run P w = .ok (.slice a' (l + m) c') w' ∧ Own P w' base T k a' (l + m) c' (xs ++ ys) ∧ Mod (fun x => base ≤ x) w w' := by
  obtain ⟨e, i, zv, he, hi, hsz, hz, hzc, hby⟩ := hT.is
  obtain ⟨e', he', how⟩ := h
  have : e' = e := by rw [he] at he'; simpa using he'.symm
  subst this
  have h63' : l + m ≤ maxLen := by
    have : l + m ≤ (l + m) * bytes := Nat.le_mul_of_pos_right _ hb
    simp [maxLen]; omega
  cases a2 with
  | none =>
    obtain ⟨rfl, rfl⟩ := h0 rfl
    have hy : ys = [] := List.eq_nil_of_length_eq_zero (by omega)
    subst hy
    refine ⟨a, c, w, ?_, ⟨e', he, by simpa using how⟩, Mod.refl _ _⟩
    exact run_append_owned_none w base T ty e' i k he hi _ l xs how
  | some ad =>
    have hcell : ∀ j u, ys[j]? = some u → w.cell? (ad.add j) = some u := by
      intro j u hj
      rcases hr with hr | ⟨b, o, e, hat⟩
      · subst hr; simp at hj
      · simp at e; subst e; exact hat.cell hj
    obtain ⟨v', w', hrun, how', hgr, _⟩ := run_append_own w base T ty e' i zv k bytes he hi hz hsz hby (by rw [hzc]; simp) hk (.slice a l c) l xs how ad m c2 ys hl hcell h1 h63' h63 hbase
    have hv : ∃ a' c', v' = .slice a' (l + m) c' := by
      rcases how'.2 with ⟨hn, hz⟩ | ⟨g, cap, cur, hv, _⟩
      · exact ⟨none, 0, by rw [hn, hz]⟩
      · exact ⟨_, cap, hv⟩
    obtain ⟨a', c', rfl⟩ := hv
    refine ⟨a', c', w', hrun, ⟨e', he, how'⟩, (Mod.grown hgr).mono fun x hx e => ?_⟩
    exact (how.lt x e).1
theorem Own.append' {base k bytes l c m c2 : Nat} {T ty : TypeId} {z : Value} {a a2 : Option Addr} {xs ys : List Value} (hT : elemZ P T k z bytes) (hk : 0 < k) (h : Own P w base T k a l c xs)
    (hr : Row w a2 ys) (hl : ys.length = m * k) (h0 : a2 ≠ none) (h1 : ∀ v ∈ ys, v.oneCell' = true) (h63 : (l + m) * bytes ≤ 140737488355328) (hb : 0 < bytes) (hbase : base ≤ w.heap.size) :
    ∃ a' c' w', (Builtin.append_ #[T, T] ty #[.slice a l c, .slice a2 m c2]).run P w = .ok (.slice a' (l + m) c') w' ∧ Own P w' base T k a' (l + m) c' (xs ++ ys) ∧ Mod (fun x => ∃ q, a = some q ∧ x = q.block) w w' := by
  obtain ⟨e, i, zv, he, hi, hsz, hz, hzc, hby⟩ := hT.is
  obtain ⟨e', he', how⟩ := h
  have : e' = e := by rw [he] at he'; simpa using he'.symm
  subst this
  have h63' : l + m ≤ maxLen := by
    have : l + m ≤ (l + m) * bytes := Nat.le_mul_of_pos_right _ hb
    simp [maxLen]; omega
  cases a2 with
  | none => exact absurd rfl h0
  | some ad =>
    have hcell : ∀ j u, ys[j]? = some u → w.cell? (ad.add j) = some u := by
      intro j u hj
      rcases hr with hr | ⟨b, o, e, hat⟩
      · subst hr; simp at hj
      · simp at e; subst e; exact hat.cell hj
    obtain ⟨v', w', hrun, how', hgr, _⟩ := run_append_own w base T ty e' i zv k bytes he hi hz hsz hby (by rw [hzc]; simp) hk (.slice a l c) l xs how ad m c2 ys hl hcell h1 h63' h63 hbase
    have hv : ∃ a' c', v' = .slice a' (l + m) c' := by
      rcases how'.2 with ⟨hn, hz⟩ | ⟨g, cap, cur, hv, _⟩
      · exact ⟨none, 0, by rw [hn, hz]⟩
      · exact ⟨_, cap, hv⟩
    obtain ⟨a', c', rfl⟩ := hv
    refine ⟨a', c', w', hrun, ⟨e', he, how'⟩, (Mod.grown hgr).mono fun x hx e => ?_⟩
    cases a with
    | none => cases e
    | some q => exact ⟨q, rfl, by simpa [Value.ownBlock] using e.symm⟩
theorem foldl_push : ∀ (xs : List UInt8) (r : List UInt8), (xs.map fun x => (x.toNat : Int)).foldl (fun r n => r.push (UInt8.ofNat n.toNat)) (⟨r.toArray⟩ : ByteArray) = ⟨(r ++ xs).toArray⟩
  | [], r => by simp
  | x :: xs, r => by
    have := foldl_push xs (r ++ [x])
    simp only [List.map_cons, List.foldl_cons]
    have e : ByteArray.push (⟨r.toArray⟩ : ByteArray) (UInt8.ofNat ((x.toNat : Int)).toNat) = ⟨(r ++ [x]).toArray⟩ := by
      simp [ByteArray.push]
    rw [e, this]; simp
def bytesT (P : Program) (S T : TypeId) : Bool :=
  match P.underlying S with
  | some (.slice e) => match P.underlying e with
    | some (.int .u8) => match P.underlying T with | some .string => true | _ => false
    | _ => false
  | _ => false
theorem str_run {S T : TypeId} {a : Option Addr} {l c : Nat} {xs : List UInt8} (hT : bytesT P S T = true) (hr : Row w a (u8L xs)) (hl : xs.length = l) : (convert S T (.slice a l c)).run P w = .ok (.string ⟨xs.toArray⟩) w := by
  have hT' : ∃ e, P.underlying S = some (.slice e) ∧ P.underlying e = some (.int .u8) ∧ P.underlying T = some .string := by
    unfold bytesT at hT
    split at hT
    · rename_i e he
      split at hT
      · rename_i h1
        split at hT
        · rename_i h2; exact ⟨e, he, h1, h2⟩
        · cases hT
      · cases hT
    · cases hT
  obtain ⟨e, h1, h2, h3⟩ := hT'
  rw [run_convert_bytes_string w S T e a l c h1 h2 h3]
  have hmap : u8L xs = (xs.map fun x => (x.toNat : Int)).map (Value.int .u8) := by simp [u8L, u8]
  cases a with
  | none =>
    rcases hr with hr | ⟨b, o, e, _⟩
    · have : xs = [] := by simpa [u8L] using hr
      subst this; rfl
    · cases e
  | some ad =>
    have hload : (loadCells ad l).run P w = .ok ((xs.map fun x => (x.toNat : Int)).map (Value.int .u8)).toArray w := by
      rcases hr with hr | ⟨b, o, e, hat⟩
      · have : xs = [] := by simpa [u8L] using hr
        subst this; subst hl; rfl
      · simp at e; subst e
        have := hat.cells (P := P) (n := l) (by simp; omega)
        rw [this, ← hmap]
        congr 1
        have : (u8L xs).take l = u8L xs := List.take_of_length_le (by simp; omega)
        rw [this]
    rw [run_bytesToString w ad l c _ hload]
    have := foldl_push xs []
    simp only [List.nil_append] at this
    rw [← this]; rfl
theorem toList_mk (xs : List UInt8) : ByteArray.toList ⟨xs.toArray⟩ = xs := ByteArray.toList_mk xs
end
end Go.Den
end
section
open Go Go.Den Go.Proofs
namespace Go.Den
def nI (x : List Value) (i : Nat) : Int := match nth x i with | .int _ n => n | _ => 0
section
variable {P : Program} {w : World}
theorem Own.sm {base k l c : Nat} {T : TypeId} {a : Option Addr} {xs : List Value} (h : Own P w base T k a l c xs) (hl : 0 < l) : ∃ g, a = some ⟨g, 0, none⟩ ∧ base ≤ g ∧ AtU w g 0 xs := by
  obtain ⟨e, he, h1, h2⟩ := h
  rcases h2 with ⟨hn, hz⟩ | ⟨g, cap, cur, hv, hb, hg, hle, _, hsz, ht⟩
  · omega
  · simp at hv
    have hm : l * k ≤ cap * k := Nat.mul_le_mul_right _ hle
    refine ⟨g, hv.1, hb, cur.toList, e, (0, 0), hg, ?_, ?_, fun j _ _ => by simp⟩
    · rw [h1]; simp [hsz]; exact hm
    · rw [h1]; simpa using ht
theorem Own.snoc {base k bytes l c : Nat} {T ty : TypeId} {t : TypeId} {z : Value} {a : Option Addr} {xs ys : List Value} (hT : elemZ P T k z bytes) (hk : 0 < k) (h : Own P w base T k a l c xs)
    (hl : ys.length = k) (h1 : ∀ v ∈ ys, v.oneCell' = true) (h63 : (l + 1) * bytes ≤ 140737488355328) (hb : 0 < bytes) (hbase : base ≤ w.heap.size) :
    ∃ a' c' w', (Builtin.append_ #[T, T] ty #[.slice a l c, .slice (some ⟨w.heap.size, 0, none⟩) 1 1]).run P (w.alloc (.cells ⟨ys⟩ t)) = .ok (.slice a' (l + 1) c') w' ∧ Own P w' base T k a' (l + 1) c' (xs ++ ys) ∧ Mod (fun x => base ≤ x) w w' := by
  have hm : Mod No w (w.alloc (.cells ⟨ys⟩ t)) := (Mod.refl No w).alloc _
  obtain ⟨a', c', w', h2, h3, h4⟩ := (h.nos hm).append (ty := ty) hT hk (a2 := some ⟨w.heap.size, 0, none⟩) (m := 1) (c2 := 1) (ys := ys) (.inr ⟨_, _, rfl, AtU.new.at⟩) (by omega) (fun e => by cases e) h1 h63 hb (Nat.le_trans hbase hm.size)
  exact ⟨a', c', w', h2, h3, (hm.mono fun _ _ h => h.elim).trans h4 fun _ _ h => h⟩
theorem Mod.up {base : Nat} {a b c : World} (h : Mod No a b) (m : Mod (fun x => base ≤ x) b c) (hb : a.heap.size ≤ base) : Mod No a c := h.trans m fun x hx e => by omega
theorem u8L_append (xs ys : List UInt8) : u8L (xs ++ ys) = u8L xs ++ u8L ys := by simp [u8L]
end
end Go.Den
namespace Go.Proofs.YtoajelhfiganaaaGreat
theorem builtI (w : World) (v : Int) : (Instr.buildSlice 103 1 #[(0, .int .i64 v)]).run Tryz.prog w = .ok (.slice (some ⟨w.heap.size, 0, none⟩) 1 1) (w.alloc (.cells ⟨[.int .i64 v]⟩ 3)) := by kernel_rfl
def a5 : List UInt8 := [165, 165, 165, 165, 165, 165, 165, 165]
def LentAt (w : World) (b l c : Nat) (xs : List UInt8) : Prop := l = xs.length ∧ l + 8 ≤ c ∧ AtU w b 0 (u8L (xs ++ a5))
theorem LentAt.row {w : World} {b l c : Nat} {xs : List UInt8} (h : LentAt w b l c xs) : Row w (some ⟨b, 0, none⟩) (u8L xs) := by
  obtain ⟨h1, h2, h3⟩ := h
  refine .inr ⟨b, 0, rfl, ?_⟩
  have := h3.at.sub (i := 0) (m := xs.length) (by simp)
  simpa [u8L] using this
theorem LentAt.keep {w w' : World} {b l c : Nat} {xs : List UInt8} {S : Nat → Prop} (h : LentAt w b l c xs) (m : Mod S w w') (hb : ¬ S b) : LentAt w' b l c xs := ⟨h.1, h.2.1, h.2.2.keep m hb⟩
end Go.Proofs.YtoajelhfiganaaaGreat
end
section
namespace Go.Den
def sStep (s : Nat) : Nat := (s / 2) ^^^ (if s % 2 = 1 then 3988292384 else 0)
def sSteps : Nat → Nat → Nat
  | 0, s => s
  | n + 1, s => sSteps n (sStep s)
def sByte (s : Nat) (c : UInt8) : Nat := sSteps 8 (s ^^^ c.toNat)
def crcAcc (xs : List UInt8) (s : Nat) : Nat := xs.foldl sByte s
def crc (xs : List UInt8) : Nat := crcAcc xs 4294967295 ^^^ 4294967295
theorem sSteps_snoc : ∀ (n s : Nat), sSteps (n + 1) s = sStep (sSteps n s)
  | 0, _ => rfl
  | n + 1, s => by rw [sSteps, sSteps_snoc n]; rfl
theorem sSteps_add : ∀ (m n s : Nat), sSteps (m + n) s = sSteps n (sSteps m s)
  | 0, n, s => by rw [Nat.zero_add]; rfl
  | m + 1, n, s => by rw [show m + 1 + n = (m + n) + 1 by omega, sSteps, sSteps_add m n]; rfl
theorem xor_div2 (a b : Nat) : (a ^^^ b) / 2 = a / 2 ^^^ b / 2 := by
  have := Nat.shiftRight_xor_distrib (a := a) (b := b) (i := 1)
  simpa [Nat.shiftRight_succ] using this
theorem xor_mod2 (a b : Nat) : (a ^^^ b) % 2 = 1 ↔ ¬ (a % 2 = 1 ↔ b % 2 = 1) := by
  rw [Nat.xor_mod_two_eq_one]
theorem sStep_xor (a b : Nat) : sStep (a ^^^ b) = sStep a ^^^ sStep b := by
  unfold sStep
  rw [xor_div2]
  have h := xor_mod2 a b
  by_cases ha : a % 2 = 1
  · by_cases hb : b % 2 = 1
    · rw [if_neg (by rw [h]; simp [ha, hb]), if_pos ha, if_pos hb, Nat.xor_zero]
      rw [Nat.xor_assoc, ← Nat.xor_assoc 3988292384, Nat.xor_comm 3988292384, Nat.xor_assoc, Nat.xor_self, Nat.xor_zero]
    · rw [if_pos (by rw [h]; simp [ha, hb]), if_pos ha, if_neg hb, Nat.xor_zero, Nat.xor_assoc, Nat.xor_assoc, Nat.xor_comm 3988292384]
  · by_cases hb : b % 2 = 1
    · rw [if_pos (by rw [h]; simp [ha, hb]), if_neg ha, if_pos hb, Nat.xor_zero, Nat.xor_assoc]
    · rw [if_neg (by rw [h]; simp [ha, hb]), if_neg ha, if_neg hb, Nat.xor_zero, Nat.xor_zero, Nat.xor_zero]
theorem sSteps_xor : ∀ (n a b : Nat), sSteps n (a ^^^ b) = sSteps n a ^^^ sSteps n b
  | 0, _, _ => rfl
  | n + 1, a, b => by rw [sSteps, sSteps, sSteps, sStep_xor, sSteps_xor n]
theorem sStep_even (m : Nat) : sStep (2 * m) = m := by
  unfold sStep
  rw [if_neg (by omega), Nat.xor_zero]; omega
theorem sSteps_even : ∀ (n m : Nat), sSteps n (2 ^ n * m) = m
  | 0, m => by simp [sSteps]
  | n + 1, m => by rw [sSteps, Nat.pow_succ, Nat.mul_comm (2 ^ n) 2, Nat.mul_assoc, sStep_even, sSteps_even n m]
theorem split16 (s : Nat) : 16 * (s / 16) ^^^ (s % 16) = s := by
  apply Nat.eq_of_testBit_eq
  intro i
  rw [Nat.testBit_xor]
  have e : s = 2 ^ 4 * (s / 16) + s % 16 := by omega
  have hlt : s % 16 < 2 ^ 4 := by omega
  by_cases hi : i < 4
  · have h1 : (16 * (s / 16)).testBit i = false := by
      rw [show 16 * (s / 16) = 2 ^ 4 * (s / 16) by omega, Nat.testBit_two_pow_mul]; simp; omega
    rw [h1, Bool.false_xor, show s % 16 = s % 2 ^ 4 by rfl, Nat.testBit_mod_two_pow]; simp [hi]
  · have h2 : (s % 16).testBit i = false := Nat.testBit_lt_two_pow (Nat.lt_of_lt_of_le hlt (Nat.pow_le_pow_right (by omega) (by omega)))
    rw [h2, Bool.xor_false, show 16 * (s / 16) = 2 ^ 4 * (s / 16) by omega, Nat.testBit_two_pow_mul]
    rw [show s / 16 = s / 2 ^ 4 by rfl, Nat.testBit_div_two_pow, show i - 4 + 4 = i by omega, decide_eq_true (show i ≥ 4 by omega), Bool.true_and]
theorem half_step (s : Nat) : s / 16 ^^^ sSteps 4 (s % 16) = sSteps 4 s := by
  have h := sSteps_xor 4 (16 * (s / 16)) (s % 16)
  rw [split16] at h
  rw [h, show 16 * (s / 16) = 2 ^ 4 * (s / 16) by omega, sSteps_even]
theorem sStep_lt {s : Nat} (h : s < 4294967296) : sStep s < 4294967296 := by
  unfold sStep
  refine Nat.xor_lt_two_pow (n := 32) (by omega) ?_
  split <;> omega
theorem sSteps_lt : ∀ {n s : Nat}, s < 4294967296 → sSteps n s < 4294967296
  | 0, _, h => h
  | n + 1, s, h => by rw [sSteps]; exact sSteps_lt (sStep_lt h)
theorem sByte_lt {s : Nat} {c : UInt8} (h : s < 4294967296) : sByte s c < 4294967296 := sSteps_lt (Nat.xor_lt_two_pow (n := 32) (by omega) (by have := c.toNat_lt; omega))
theorem crcAcc_lt : ∀ {xs : List UInt8} {s : Nat}, s < 4294967296 → crcAcc xs s < 4294967296
  | [], _, h => h
  | c :: r, s, h => by unfold crcAcc; rw [List.foldl_cons]; exact crcAcc_lt (xs := r) (sByte_lt h)
theorem crc_lt (xs : List UInt8) : crc xs < 4294967296 := Nat.xor_lt_two_pow (n := 32) (crcAcc_lt (by omega)) (by omega)
theorem crcAcc_snoc (xs : List UInt8) (c : UInt8) (s : Nat) : crcAcc (xs ++ [c]) s = sByte (crcAcc xs s) c := by
  unfold crcAcc; rw [List.foldl_append]; rfl
theorem crcAcc_take {xs : List UInt8} {i : Nat} (h : i < xs.length) (s : Nat) : crcAcc (xs.take (i + 1)) s = sByte (crcAcc (xs.take i) s) xs[i] := by
  rw [List.take_succ_eq_append_getElem h, crcAcc_snoc]
theorem sByte_half (s : Nat) (c : UInt8) : sByte s c = (let a := s ^^^ c.toNat; let b := a / 16 ^^^ sSteps 4 (a % 16); b / 16 ^^^ sSteps 4 (b % 16)) := by
  show _ = _
  simp only [half_step]
  exact sSteps_add 4 4 _
end Go.Den
end
section
open Go Go.Den Go.Proofs
namespace Go.Proofs.YtoajelhfiganaaaGreat
theorem xor_nat32 {a b : Nat} (ha : a < 4294967296) (hb : b < 4294967296) : bvXor 32 (a : Int) (b : Int) = ((a ^^^ b : Nat) : Int) := by
  show (((_ : BitVec 32).toNat : Nat) : Int) = _
  rw [BitVec.ofInt_natCast, BitVec.ofInt_natCast, BitVec.toNat_xor, BitVec.toNat_ofNat, BitVec.toNat_ofNat, Nat.mod_eq_of_lt ha, Nat.mod_eq_of_lt hb]
theorem and_nat32 {a b : Nat} (ha : a < 4294967296) (hb : b < 4294967296) : bvAnd 32 (a : Int) (b : Int) = ((a &&& b : Nat) : Int) := by
  show (((_ : BitVec 32).toNat : Nat) : Int) = _
  rw [BitVec.ofInt_natCast, BitVec.ofInt_natCast, BitVec.toNat_and, BitVec.toNat_ofNat, BitVec.toNat_ofNat, Nat.mod_eq_of_lt ha, Nat.mod_eq_of_lt hb]
theorem wrapU32 {x : Int} (h0 : 0 ≤ x) (h1 : x ≤ 4294967295) : IntKind.u32.wrap x = x := by
  simp only [IntKind.wrap, IntKind.bits, IntKind.signed] at *; simp at *; omega
theorem wxor {a b : Nat} (ha : a < 4294967296) (hb : b < 4294967296) : IntKind.u32.wrap (bvXor 32 (a : Int) (b : Int)) = ((a ^^^ b : Nat) : Int) := by
  have h := Nat.xor_lt_two_pow (n := 32) ha hb
  rw [xor_nat32 ha hb, wrapU32 (by omega) (by omega)]
theorem low1 (a : Nat) : a &&& 1 = a % 2 := Nat.and_one_is_mod a
theorem low4 (a : Nat) : a &&& 15 = a % 16 := Nat.and_two_pow_sub_one_eq_mod a 4
theorem wand1 {a : Nat} (ha : a < 4294967296) : IntKind.u32.wrap (bvAnd 32 (a : Int) 1) = ((a % 2 : Nat) : Int) := by
  have := and_nat32 (b := 1) ha (by omega)
  rw [low1] at this
  rw [show ((1 : Nat) : Int) = 1 from rfl] at this
  rw [this, wrapU32 (by omega) (by omega)]
theorem wand4 {a : Nat} (ha : a < 4294967296) : IntKind.u32.wrap (bvAnd 32 (a : Int) 15) = ((a % 16 : Nat) : Int) := by
  have := and_nat32 (b := 15) ha (by omega)
  rw [low4] at this
  rw [show ((15 : Nat) : Int) = 15 from rfl] at this
  rw [this, wrapU32 (by omega) (by omega)]
theorem fdivN (a : Nat) (k : Nat) : Int.fdiv (a : Int) (k : Int) = ((a / k : Nat) : Int) := by
  rw [Int.fdiv_eq_ediv_of_nonneg _ (by omega)]; exact (Int.natCast_ediv _ _).symm
theorem fdiv2N (a : Nat) : Int.fdiv (a : Int) 2 = ((a / 2 : Nat) : Int) := fdivN a 2
theorem fdiv16N (a : Nat) : Int.fdiv (a : Int) 16 = ((a / 16 : Nat) : Int) := fdivN a 16
def halfC (i : Nat) : List Value := (List.range 16).map fun k => .int .u32 (if k < i then (sSteps 4 k : Int) else 0)
theorem halfC_len (i : Nat) : (halfC i).length = 16 := by simp [halfC]
theorem halfC_get {i k : Nat} (hk : k < i) (h16 : k < 16) : (halfC i)[k]? = some (.int .u32 (sSteps 4 k : Int)) := by
  simp [halfC, h16, hk]
theorem halfC_set {i : Nat} (hi : i < 16) : (halfC i).set i (.int .u32 (sSteps 4 i : Int)) = halfC (i + 1) := by
  apply List.ext_getElem?
  intro k
  by_cases hk : i = k
  · subst hk
    rw [List.getElem?_set_self (by rw [halfC_len]; exact hi), halfC_get (by omega) hi]
  · rw [List.getElem?_set_ne hk]
    unfold halfC
    by_cases h16 : k < 16
    · simp only [List.getElem?_map, List.getElem?_range h16, Option.map_some]
      congr 3
      exact propext ⟨fun _ => by omega, fun _ => by omega⟩
    · rw [List.getElem?_eq_none (by simp; omega), List.getElem?_eq_none (by simp; omega)]
theorem row_at {w : World} {a : Option Addr} {xs : List UInt8} (hr : Row w a (u8L xs)) {i : Nat} (hi : i < xs.length) : ∃ b o, a = some ⟨b, o, none⟩ ∧ At w b o (u8L xs) :=
  hr.resolve_left (by intro e; have := congrArg List.length e; simp at this; rw [this] at hi; simp at hi)
section
variable {w : World} {K : Value → World → Prop}
theorem nSum_c {a : Option Addr} {l c : Nat} {xs : List UInt8} (hl : xs.length = l) (hr : Row w a (u8L xs)) (h63 : l ≤ 9223372036854775807)
    (hk : ∀ w', Mod No w w' → K (.int .u32 (crc xs : Int)) w') : Cal Tryz.prog F_num_Sum #[.slice a l c] w K := by
  apply C_num_Sum
  unfold D_num_Sum
  obtain ⟨w1, n1, n2, n3, n4⟩ := new_u (P := Tryz.prog) (w := w) (T := 202) (cs := halfC 0) (by kernel_rfl)
  have hA : arrN Tryz.prog 202 = some (16, 1) := by kernel_rfl
  have hS : scal Tryz.prog 145 = true := by kernel_rfl
  refine ⟨_, w1, n1, ?_⟩
  refine ⟨fun x w2 => ∃ (i : Nat) (y z : Value), i ≤ 16 ∧ x = [y, .int .i64 i, z] ∧ AtU w2 w.heap.size 0 (halfC i) ∧ Mod No w w2, fun x _ => (16 - nI x 1).toNat, ⟨0, _, _, by omega, rfl, n2, n3⟩, ?_⟩
  rintro x w2 ⟨i, y, z, hi, rfl, hat, hm⟩
  refine ⟨_, rfl, cond_of (fun hb => ?_) (fun hb => ?_)⟩
  · have hb := of_decide_eq_true hb
    have hi16 : i < 16 := by omega
    rw [wrapU32 (x := (i : Int)) (by omega) (by omega)]
    refine ⟨fun x w3 => ∃ j : Nat, j ≤ 4 ∧ x = [.int .u32 (sSteps j i : Int), .int .i64 j] ∧ w3 = w2, fun x _ => (4 - nI x 1).toNat, ⟨0, by omega, rfl, rfl⟩, ?_⟩
    rintro x w3 ⟨j, hj, rfl, rfl⟩
    refine ⟨_, rfl, cond_of (fun hb => ?_) (fun hb => ?_)⟩
    · have hb := of_decide_eq_true hb
      have hs : sSteps j i < 4294967296 := sSteps_lt (by omega)
      refine ⟨_, rfl, ?_⟩
      have e : IntKind.u32.wrap (bvXor 32 (Int.fdiv (sSteps j i : Int) 2) (IntKind.u32.wrap (3988292384 * (IntKind.u32.wrap (bvAnd 32 (sSteps j i : Int) 1))))) = (sSteps (j + 1) i : Int) := by
        rw [wand1 hs, fdiv2N, sSteps_snoc]
        unfold sStep
        by_cases h2 : sSteps j i % 2 = 1
        · rw [h2, if_pos rfl]
          exact wxor (b := 3988292384) (by omega) (by omega)
        · rw [show sSteps j i % 2 = 0 by omega, if_neg (by omega)]
          exact wxor (b := 0) (by omega) (by omega)
      rw [e, wrap64 (x := (j : Int) + 1) (by omega) (by omega)]
      exact ⟨⟨j + 1, by omega, by simp, rfl⟩, by simp [nI, nth]; omega⟩
    · have hb := of_decide_eq_false hb
      have hj4 : j = 4 := by omega
      subst hj4
      refine ⟨_, rfl, _, index_arr hA (by omega) (by omega), ?_⟩
      rw [add_none, show (i : Int).toNat * 1 = i by omega]
      obtain ⟨w4, p1, p2, p3, p4⟩ := hat.store (P := Tryz.prog) (T := 145) (i := i) (v := .int .u32 (sSteps 4 i : Int)) hS (by rw [halfC_len]; exact hi16) rfl
      refine ⟨w4, p1, ?_⟩
      rw [halfC_set hi16] at p2
      rw [wrap64 (x := (i : Int) + 1) (by omega) (by omega)]
      exact ⟨⟨i + 1, .int .u32 (sSteps 4 i : Int), .int .i64 ((4 : Nat) : Int), by omega, by simp, p2, hm.own p3 (Nat.le_refl _)⟩, by simp [nI, nth]; omega⟩
  · have hb := of_decide_eq_false hb
    have hi16 : i = 16 := by omega
    subst hi16
    have hr2 := hr.nos hm
    refine ⟨fun x w3 => ∃ j : Nat, j ≤ l ∧ x = [.int .u32 (crcAcc (xs.take j) 4294967295 : Int), .int .i64 j] ∧ w3 = w2, fun x _ => (l - nI x 1).toNat, ⟨0, by omega, rfl, rfl⟩, ?_⟩
    rintro x w3 ⟨j, hj, rfl, rfl⟩
    refine ⟨_, rfl, cond_of (fun hb => ?_) (fun hb => ?_)⟩
    · have hb := of_decide_eq_true hb
      have hjl : j < xs.length := by omega
      obtain ⟨b, o, rfl, hx⟩ := row_at hr2 hjl
      have hs : crcAcc (xs.take j) 4294967295 < 4294967296 := crcAcc_lt (by omega)
      have hc := xs[j].toNat_lt
      refine ⟨_, index_slice (k := 1) (by kernel_rfl) (by omega) (by omega), (xs[j].toNat : Int), ?_, _, rfl, ?_⟩
      · rw [add_none, show (j : Int).toNat * 1 = j by omega]; exact hx.load (by kernel_rfl) (u8L_get hjl)
      have key := crcAcc_take hjl 4294967295
      rw [sByte_half] at key
      generalize crcAcc (xs.take j) 4294967295 = s at hs key ⊢
      rw [wrapU32 (x := (xs[j].toNat : Int)) (by omega) (by omega), wxor hs (by omega)]
      have ha : s ^^^ xs[j].toNat < 4294967296 := Nat.xor_lt_two_pow (n := 32) hs (by omega)
      generalize s ^^^ xs[j].toNat = A at ha key ⊢
      rw [wand4 ha, fdiv16N]
      refine ⟨_, index_arr hA (by omega) (by omega), (sSteps 4 (A % 16) : Int), ?_, ?_⟩
      · rw [add_none, show ((A % 16 : Nat) : Int).toNat * 1 = A % 16 by omega]; exact hat.at.load (b := w.heap.size) (o := 0) hS (halfC_get (by omega) (by omega))
      have hs4 : sSteps 4 (A % 16) < 4294967296 := sSteps_lt (by omega)
      rw [wxor (by omega) hs4]
      have hB : A / 16 ^^^ sSteps 4 (A % 16) < 4294967296 := Nat.xor_lt_two_pow (n := 32) (by omega) hs4
      simp only at key
      generalize A / 16 ^^^ sSteps 4 (A % 16) = B at hB key ⊢
      rw [wand4 hB, fdiv16N]
      refine ⟨_, index_arr hA (by omega) (by omega), (sSteps 4 (B % 16) : Int), ?_, ?_⟩
      · rw [add_none, show ((B % 16 : Nat) : Int).toNat * 1 = B % 16 by omega]; exact hat.at.load (b := w.heap.size) (o := 0) hS (halfC_get (by omega) (by omega))
      rw [wxor (by omega) (sSteps_lt (by omega)), wrap64 (x := (j : Int) + 1) (by omega) (by omega)]
      exact ⟨⟨j + 1, by omega, by rw [key]; simp, rfl⟩, by simp [nI, nth]; omega⟩
    · have hb := of_decide_eq_false hb
      have hjl : j = l := by omega
      subst hjl
      have hs : crcAcc xs 4294967295 < 4294967296 := crcAcc_lt (by omega)
      have e : IntKind.u32.wrap (bvXor 32 4294967295 (crcAcc xs 4294967295 : Int)) = (crc xs : Int) := by
        rw [show (4294967295 : Int) = ((4294967295 : Nat) : Int) from rfl, wxor (by omega) hs, Nat.xor_comm]; rfl
      refine ⟨_, rfl, (crc xs : Int), fun w => ?_, hk _ hm⟩
      rw [List.take_of_length_le (by omega), ← e]
      simp only [Op.unary, Op.intBits]
      rfl
theorem nZero_c {a : Option Addr} {l c : Nat} {xs : List UInt8} (hl : xs.length = l) (hr : Row w a (u8L xs)) (h63 : l ≤ 9223372036854775807)
    (hk : K (.bool (xs.all (· == 0))) w) : Cal Tryz.prog F_num_Zero #[.slice a l c] w K := by
  apply C_num_Zero
  unfold D_num_Zero
  refine ⟨fun x w2 => ∃ (j n : Nat), j ≤ l ∧ n < 256 ∧ (n = 0 ↔ (xs.take j).all (· == 0) = true) ∧ x = [.int .u8 (n : Int), .int .i64 j] ∧ w2 = w, fun x _ => (l - nI x 1).toNat, ⟨0, 0, by omega, by omega, by simp, rfl, rfl⟩, ?_⟩
  rintro x w2 ⟨j, n, hj, hn, hz, rfl, rfl⟩
  refine ⟨_, rfl, cond_of (fun hb => ?_) (fun hb => ?_)⟩
  · have hb := of_decide_eq_true hb
    have hjl : j < xs.length := by omega
    obtain ⟨b, o, rfl, hx⟩ := row_at hr hjl
    have hc := xs[j].toNat_lt
    refine ⟨_, index_slice (k := 1) (by kernel_rfl) (by omega) (by omega), (xs[j].toNat : Int), ?_, _, rfl, ?_⟩
    · rw [add_none, show (j : Int).toNat * 1 = j by omega]; exact hx.load (by kernel_rfl) (u8L_get hjl)
    have hor : n ||| xs[j].toNat < 256 := Nat.or_lt_two_pow (n := 8) hn (by omega)
    have e : IntKind.u8.wrap (bvOr 8 (n : Int) (xs[j].toNat : Int)) = ((n ||| xs[j].toNat : Nat) : Int) := by
      have : bvOr 8 (n : Int) (xs[j].toNat : Int) = ((n ||| xs[j].toNat : Nat) : Int) := by
        show (((_ : BitVec 8).toNat : Nat) : Int) = _
        rw [BitVec.ofInt_natCast, BitVec.ofInt_natCast, BitVec.toNat_or, BitVec.toNat_ofNat, BitVec.toNat_ofNat, Nat.mod_eq_of_lt hn, Nat.mod_eq_of_lt hc]
      rw [this, wrapU8]; omega
    rw [e, wrap64 (x := (j : Int) + 1) (by omega) (by omega)]
    refine ⟨⟨j + 1, n ||| xs[j].toNat, by omega, hor, ?_, by simp, rfl⟩, by simp [nI, nth]; omega⟩
    rw [List.take_succ_eq_append_getElem hjl, List.all_append, Bool.and_eq_true, ← hz, Nat.or_eq_zero_iff]
    simp [← UInt8.toNat_inj]
  · have hb := of_decide_eq_false hb
    have hjl : j = l := by omega
    subst hjl
    refine ⟨_, rfl, ?_⟩
    rw [List.take_of_length_le (by omega)] at hz
    have e : ((n : Int) == 0) = xs.all (· == 0) := by
      rw [Bool.eq_iff_iff, beq_iff_eq, ← hz]; omega
    rw [e]; exact hk
end
end Go.Proofs.YtoajelhfiganaaaGreat
end
