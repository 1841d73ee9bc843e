/- Parts of the proof, in order: what the statement leans on. -/
import Derived.Test.YtoajelhfiganaaaGreatBa
section
open Go Go.Den Go.Proofs
namespace Go.Proofs.YtoajelhfiganaaaGreat
set_option maxRecDepth 100000 in
def D_leveelaw13_VolFormats (g0 : Array Value) (n1 : Int) (n2 : Int) (a3 : Option Addr) (l3 c3 : Nat) (w0 : World) (K : Value → World → Prop) : Prop :=
 ∃ q4 : Addr,∃ w1 : World,Ru (Instr.box 23 (.agg g0)) w0 (.pointer (some q4)) w1 ∧ Share (fun k => ∃ g17 : Array Value,Ru (Instr.loadAt 23 (.pointer (some q4))) w1 (.agg g17) w1 ∧ Cal Tryz.prog F_leveeref03_Size #[.agg g17] w1 fun r18 w2 => ∃ n18 : Int,r18 = .int .i64 n18 ∧ (bif decide (n18 > 300) then k [.bool true] w2 else k [.bool (decide (n1 > 300))] w2)) fun x w3 =>
 ∃ b23 : Bool,nth x 0 = .bool b23 ∧ (bif b23 then
 Cal Tryz.prog F_leveelaw13_known #[] w3 fun r24 w4 => ∃ b24 : Bool,r24 = .bool b24 ∧ K (.bool b24) w4
 else
 Cal Tryz.prog F_disk_New #[.int .i64 n1] w3 fun r27 w5 => ∃ p27a : Option Addr,∃ n27b : Int,r27 = .tuple #[.pointer p27a,.int .i64 n27b] ∧ Cal Tryz.prog F_leveeref02_New #[.int .i64 n1] w5 fun r32 w6 => ∃ p32a : Option Addr,∃ n32b : Int,r32 = .tuple #[.pointer p32a,.int .i64 n32b] ∧ (bif n27b != n32b then
 K (.bool false) w6
 else
 (bif n32b != 0 then
 Share (fun k_2 => ∃ g40 : Array Value,Ru (Instr.loadAt 23 (.pointer (some q4))) w6 (.agg g40) w6 ∧ Cal Tryz.prog F_vol_Format #[.pointer none,.agg g40] w6 fun r41 w7 => ∃ n41 : Int,r41 = .int .i64 n41 ∧ (bif n41 == 2 then Cal Tryz.prog F_leveelaw13_known #[] w7 fun r44 w8 => ∃ b44 : Bool,r44 = .bool b44 ∧ k_2 [.bool b44] w8 else k_2 [.bool false] w7)) fun x_2 w9 =>
 ∃ b8 : Bool,nth x_2 0 = .bool b8 ∧ K (.bool b8) w9
 else
 Share (fun k_3 => ∃ g47 : Array Value,Ru (Instr.loadAt 23 (.pointer (some q4))) (drew w6) (.agg g47) (drew w6) ∧ ∃ g50 : Array Value,Ru (Instr.loadAt 23 (.pointer (some q4))) (drew w6) (.agg g50) (drew w6) ∧ Cal Tryz.prog F_vol_Format #[.pointer p27a,.agg g47] (drew w6) fun r48 w10 => ∃ n48 : Int,r48 = .int .i64 n48 ∧ Ru (Instr.loadAt 23 (.pointer (some q4))) w10 (.agg g50) w10 ∧ Cal Tryz.prog F_leveeref13_Format #[.pointer p32a,.agg g50] w10 fun r51 w11 => ∃ n51 : Int,r51 = .int .i64 n51 ∧ (bif n48 != n51 then k_3 [.bool true] w11 else Cal Tryz.prog F_leveelaw13_same #[.pointer p27a,.pointer p32a] w11 fun r56 w12 => ∃ b56 : Bool,r56 = .bool b56 ∧ k_3 [.bool (!b56)] w12)) fun x_3 w13 =>
 ∃ b58 : Bool,nth x_3 0 = .bool b58 ∧ (bif b58 then
 K (.bool false) w13
 else
 Cal Tryz.prog F_leveeref01_Count #[.int .i64 n2,.int .i64 n1] w13 fun r62 w14 => ∃ n62 : Int,r62 = .int .i64 n62 ∧ Cal Tryz.prog F_leveeref01_Fill #[.slice a3 l3 c3] w14 fun r64 w15 => ∃ (a64 : Option Addr) (l64 c64 : Nat),r64 = .slice a64 l64 c64 ∧ Cal Tryz.prog F_disk_Disk_Write #[.pointer p27a,.int .i64 n62,.slice a64 l64 c64] w15 fun r65 w16 => ∃ n65 : Int,r65 = .int .i64 n65 ∧ Cal Tryz.prog F_leveeref01_Count #[.int .i64 n2,.int .i64 n1] w16 fun r69 w17 => ∃ n69 : Int,r69 = .int .i64 n69 ∧ Cal Tryz.prog F_leveeref01_Fill #[.slice a3 l3 c3] w17 fun r71 w18 => ∃ (a71 : Option Addr) (l71 c71 : Nat),r71 = .slice a71 l71 c71 ∧ Cal Tryz.prog F_leveeref02_Disk_Write #[.pointer p32a,.int .i64 n69,.slice a71 l71 c71] w18 fun r72 w19 => ∃ n72 : Int,r72 = .int .i64 n72 ∧ Cal Tryz.prog F_vol_Mount #[.pointer p27a] w19 fun r75 w20 => ∃ p75a : Option Addr,∃ n75b : Int,r75 = .tuple #[.pointer p75a,.int .i64 n75b] ∧ Cal Tryz.prog F_leveeref13_Mount #[.pointer p32a] w20 fun r80 w21 => ∃ p80a : Option Addr,∃ n80b : Int,r80 = .tuple #[.pointer p80a,.int .i64 n80b] ∧ Share (fun k_4 => (bif n75b != n80b then k_4 [.bool true] w21 else k_4 [.bool (!((Option.isNone p75a) == (Option.isNone p80a)))] w21)) fun x_4 w22 =>
 ∃ b92 : Bool,nth x_4 0 = .bool b92 ∧ (bif b92 then
 K (.bool false) w22
 else
 Share (fun k_5 => (bif Option.isNone p75a then Cal Tryz.prog F_leveelaw13_known #[] (drew w22) fun r114 w23 => ∃ b114 : Bool,r114 = .bool b114 ∧ k_5 [.bool b114] w23 else ∃ q99 : Addr,(.pointer p80a : Value) = .pointer (some q99) ∧ ∃ n101 : Int,Ru (Instr.loadAt 2 (.pointer (some (Addr.add q99 2)))) (drew w22) (.int .i64 n101) (drew w22) ∧ Cal Tryz.prog F_vol_Vol_Gen #[.pointer p75a] (drew w22) fun r97 w24 => ∃ n97 : Int,r97 = .int .i64 n97 ∧ Ru (Instr.loadAt 2 (.pointer (some (Addr.add q99 2)))) w24 (.int .i64 n101) w24 ∧ (bif n97 == n101 then ∃ q107 : Addr,(.pointer p80a : Value) = .pointer (some q107) ∧ ∃ g109 : Array Value,Ru (Instr.loadAt 23 (.pointer (some (Addr.add q107 3)))) w24 (.agg g109) w24 ∧ Cal Tryz.prog F_vol_Vol_Geo #[.pointer p75a] w24 fun r105 w25 => ∃ g105 : Array Value,r105 = .agg g105 ∧ Ru (Instr.loadAt 23 (.pointer (some (Addr.add q107 3)))) w25 (.agg g109) w25 ∧ ∃ b110 : Bool,Al (eqS .eql 23 (.tmp 105) (.tmp 109) (.agg g105) (.agg g109)) (.bool b110) ∧ (bif b110 then Cal Tryz.prog F_leveelaw13_known #[] w25 fun r114_2 w26 => ∃ b114_2 : Bool,r114_2 = .bool b114_2 ∧ k_5 [.bool b114_2] w26 else k_5 [.bool false] w25) else k_5 [.bool false] w24))) fun x_5 w27 =>
 ∃ b8_2 : Bool,nth x_5 0 = .bool b8_2 ∧ K (.bool b8_2) w27)))))
set_option maxRecDepth 100000 in
theorem C_leveelaw13_VolFormats (g0 : Array Value) (n1 : Int) (n2 : Int) (a3 : Option Addr) (l3 c3 : Nat) (w0 : World) (K : Value → World → Prop) (h : D_leveelaw13_VolFormats g0 n1 n2 a3 l3 c3 w0 K) : Cal Tryz.prog F_leveelaw13_VolFormats #[.agg g0,.int .i64 n1,.int .i64 n2,.slice a3 l3 c3] w0 K :=
 denF_sound (A := { S := [8,23,58,92],ty := [(8,4),(23,4),(58,4),(92,4)],raw := [] }) mixed Tryz.func3 (by kernel_rfl) (by kernel_rfl) ((show denF Tryz.prog _ Tryz.f3 _ w0 K = D_leveelaw13_VolFormats g0 n1 n2 a3 l3 c3 w0 K by kernel_rfl).mpr h)
set_option maxRecDepth 100000 in
def D_leveeref03_Size (g0 : Array Value) (w0 : World) (K : Value → World → Prop) : Prop :=
 ∃ q1 : Addr,∃ w1 : World,Ru (Instr.box 23 (.agg g0)) w0 (.pointer (some q1)) w1 ∧ ∃ g3 : Array Value,Ru (Instr.loadAt 23 (.pointer (some q1))) w1 (.agg g3) w1 ∧ Cal Tryz.prog F_leveeref03_Right #[.agg g3] w1 fun r4 w2 => ∃ b4 : Bool,r4 = .bool b4 ∧ (bif !b4 then
 K (.int .i64 0) w2
 else
 ∃ n7 : Int,Ru (Instr.loadAt 3 (.pointer (some (Addr.add q1 2)))) w2 (.int .i64 n7) w2 ∧ ∃ n9 : Int,Ru (Instr.loadAt 3 (.pointer (some (Addr.add q1 0)))) w2 (.int .i64 n9) w2 ∧ K (.int .i64 (IntKind.i64.wrap (2 + (IntKind.i64.wrap (n7 * n9))))) w2)
set_option maxRecDepth 100000 in
theorem C_leveeref03_Size (g0 : Array Value) (w0 : World) (K : Value → World → Prop) (h : D_leveeref03_Size g0 w0 K) : Cal Tryz.prog F_leveeref03_Size #[.agg g0] w0 K :=
 denF_sound (A := { S := [],ty := [],raw := [] }) mixed Tryz.func5 (by kernel_rfl) (by kernel_rfl) ((show denF Tryz.prog _ Tryz.f5 _ w0 K = D_leveeref03_Size g0 w0 K by kernel_rfl).mpr h)
set_option maxRecDepth 100000 in
def D_leveelaw13_known (w0 : World) (K : Value → World → Prop) : Prop :=
 Cal Tryz.prog F_disk_New #[.int .i64 34] w0 fun r11 w1 => ∃ p11a : Option Addr,∃ n11b : Int,r11 = .tuple #[.pointer p11a,.int .i64 n11b] ∧ ∃ g15 : Array Value,Al (Instr.build 23 #[(0,.int .i64 16),(1,.int .i64 8),(2,.int .i64 2)]) (.agg g15) ∧ Cal Tryz.prog F_vol_Format #[.pointer p11a,.agg g15] w1 fun r16 w2 => ∃ n16 : Int,r16 = .int .i64 n16 ∧ Cal Tryz.prog F_vol_Mount #[.pointer p11a] w2 fun r19 w3 => ∃ p19a : Option Addr,∃ n19b : Int,r19 = .tuple #[.pointer p19a,.int .i64 n19b] ∧ Share (fun k => (bif n16 != 0 then k [.bool true] w3 else (bif n19b != 0 then k [.bool true] w3 else k [.bool (Option.isNone p19a)] w3))) fun x w4 =>
 ∃ b31 : Bool,nth x 0 = .bool b31 ∧ (bif b31 then
 K (.bool false) w4
 else
 Cal Tryz.prog F_vol_Vol_Inode #[.pointer p19a,.int .i64 1] w4 fun r34 w5 => ∃ g34a : Array Value,∃ n34b : Int,r34 = .tuple #[.agg g34a,.int .i64 n34b] ∧ ∃ q6 : Addr,∃ w6 : World,Ru (Instr.alloc 55 true (.tuple #[])) w5 (.pointer (some q6)) w6 ∧ ∃ w7 : World,RuU (Instr.storeAt 55 (.pointer (some q6)) (.agg g34a)) w6 w7 ∧ Cal Tryz.prog F_vol_Vol_NewId #[.pointer p19a] w7 fun r39 w8 => ∃ n39a : Int,∃ n39b : Int,r39 = .tuple #[.int .i64 n39a,.int .i64 n39b] ∧ Share (fun k_2 => Cal Tryz.prog F_vol_Vol_Gen #[.pointer p19a] w8 fun r43 w9 => ∃ n43 : Int,r43 = .int .i64 n43 ∧ (bif n43 == 1 then ∃ n47 : Int,Ru (Instr.loadAt 3 (.pointer (some (Addr.add q6 0)))) w9 (.int .i64 n47) w9 ∧ (bif n47 == 2 then ∃ n52 : Int,Ru (Instr.loadAt 2 (.pointer (some (Addr.add q6 3)))) w9 (.int .i64 n52) w9 ∧ (bif n52 == 1 then (bif n34b == 0 then (bif n39a == 2 then k_2 [.bool (n39b == 0)] w9 else k_2 [.bool false] w9) else k_2 [.bool false] w9) else k_2 [.bool false] w9) else k_2 [.bool false] w9) else k_2 [.bool false] w9)) fun x_2 w10 =>
 ∃ b0 : Bool,nth x_2 0 = .bool b0 ∧ K (.bool b0) w10)
set_option maxRecDepth 100000 in
theorem C_leveelaw13_known (w0 : World) (K : Value → World → Prop) (h : D_leveelaw13_known  w0 K) : Cal Tryz.prog F_leveelaw13_known #[] w0 K :=
 denF_sound (A := { S := [0,31],ty := [(0,4),(31,4)],raw := [] }) mixed Tryz.func6 (by kernel_rfl) (by kernel_rfl) ((show denF Tryz.prog _ Tryz.f6 _ w0 K = D_leveelaw13_known  w0 K by kernel_rfl).mpr h)
set_option maxRecDepth 100000 in
def D_disk_New (n0 : Int) (w0 : World) (K : Value → World → Prop) : Prop :=
 Share (fun k => (bif decide (n0 < 1) then k [.bool true] w0 else k [.bool (decide (n0 > 4096))] w0)) fun x w1 =>
 ∃ b9 : Bool,nth x 0 = .bool b9 ∧ (bif b9 then
 K (.tuple #[.pointer none,.int .i64 1]) w1
 else
 ∃ (a11 : Option Addr) (l11 c11 : Nat),∃ w2 : World,Ru (Instr.makeSlice 78 (.int .i64 n0) (.int .i64 n0)) w1 (.slice a11 l11 c11) w2 ∧ ∃ m12 : Option Nat,∃ w3 : World,Ru (Instr.makeMap 79 none) w2 (.map m12) w3 ∧ ∃ g13 : Array Value,Al (Instr.build 81 #[(0,.slice a11 l11 c11),(1,.map m12),(2,.int .i64 ((-1)))]) (.agg g13) ∧ ∃ q14 : Addr,∃ w4 : World,Ru (Instr.box 81 (.agg g13)) w3 (.pointer (some q14)) w4 ∧ K (.tuple #[.pointer (some q14),.int .i64 0]) w4)
set_option maxRecDepth 100000 in
theorem C_disk_New (n0 : Int) (w0 : World) (K : Value → World → Prop) (h : D_disk_New n0 w0 K) : Cal Tryz.prog F_disk_New #[.int .i64 n0] w0 K :=
 denF_sound (A := { S := [9],ty := [(9,4)],raw := [] }) mixed Tryz.func7 (by kernel_rfl) (by kernel_rfl) ((show denF Tryz.prog _ Tryz.f7 _ w0 K = D_disk_New n0 w0 K by kernel_rfl).mpr h)
set_option maxRecDepth 100000 in
def D_leveeref02_New (n0 : Int) (w0 : World) (K : Value → World → Prop) : Prop :=
 Share (fun k => (bif decide (n0 < 1) then k [.bool true] w0 else k [.bool (decide (n0 > 4096))] w0)) fun x w1 =>
 ∃ b11 : Bool,nth x 0 = .bool b11 ∧ (bif b11 then
 K (.tuple #[.pointer none,.int .i64 1]) w1
 else
 ∃ g12 : Array Value,Al (Instr.build 84 #[]) (.agg g12) ∧ ∃ q13 : Addr,∃ w2 : World,Ru (Instr.box 84 (.agg g12)) w1 (.pointer (some q13)) w2 ∧ LoopC (fun k_2 x_2 w3 =>
 ∃ n5 : Int,nth x_2 0 = .int .i64 n5 ∧ (bif decide (n5 < n0) then
 ∃ q21 : Addr,(.pointer (some q13) : Value) = .pointer (some q21) ∧ ∃ (a23 : Option Addr) (l23 c23 : Nat),Ru (Instr.loadAt 82 (.pointer (some (Addr.add q21 0)))) (drew w3) (.slice a23 l23 c23) (drew w3) ∧ Cal Tryz.prog F_leveeref02_none #[] (drew w3) fun r24 w4 => ∃ s24 : ByteArray,r24 = .string s24 ∧ Ru (Instr.loadAt 82 (.pointer (some (Addr.add q21 0)))) w4 (.slice a23 l23 c23) w4 ∧ ∃ (a25 : Option Addr) (l25 c25 : Nat),∃ w5 : World,Ru (Instr.buildSlice 86 1 #[(0,.string s24)]) w4 (.slice a25 l25 c25) w5 ∧ Ru (Instr.loadAt 82 (.pointer (some (Addr.add q21 0)))) w5 (.slice a23 l23 c23) w5 ∧ ∃ g26 : Array Value,Al (Instr.build 88 #[(0,.slice a25 l25 c25)]) (.agg g26) ∧ ∃ (a27 : Option Addr) (l27 c27 : Nat),∃ w6 : World,Ru (Instr.buildSlice 82 1 #[(0,.agg g26)]) w5 (.slice a27 l27 c27) w6 ∧ Ru (Instr.loadAt 82 (.pointer (some (Addr.add q21 0)))) w6 (.slice a23 l23 c23) w6 ∧ ∃ (a28 : Option Addr) (l28 c28 : Nat),∃ w7 : World,Ru (Builtin.append_ #[82,82] 82 #[.slice a23 l23 c23,.slice a27 l27 c27]) w6 (.slice a28 l28 c28) w7 ∧ ∃ q29 : Addr,(.pointer (some q13) : Value) = .pointer (some q29) ∧ ∃ w8 : World,RuU (Instr.storeAt 82 (.pointer (some (Addr.add q29 0))) (.slice a28 l28 c28)) w7 w8 ∧ k_2 [.int .i64 (IntKind.i64.wrap (n5 + 1))] w8
 else
 K (.tuple #[.pointer (some q13),.int .i64 0]) w3)) [.int .i64 0] w2)
set_option maxRecDepth 100000 in
theorem C_leveeref02_New (n0 : Int) (w0 : World) (K : Value → World → Prop) (h : D_leveeref02_New n0 w0 K) : Cal Tryz.prog F_leveeref02_New #[.int .i64 n0] w0 K :=
 denF_sound (A := { S := [5,11],ty := [(5,3),(11,4)],raw := [] }) mixed Tryz.func8 (by kernel_rfl) (by kernel_rfl) ((show denF Tryz.prog _ Tryz.f8 _ w0 K = D_leveeref02_New n0 w0 K by kernel_rfl).mpr h)
set_option maxRecDepth 100000 in
def D_vol_Format (p0 : Option Addr) (g1 : Array Value) (w0 : World) (K : Value → World → Prop) : Prop :=
 ∃ q3 : Addr,∃ w1 : World,Ru (Instr.box 23 (.agg g1)) w0 (.pointer (some q3)) w1 ∧ (bif Option.isNone p0 then
 K (.int .i64 2) w1
 else
 ∃ g12 : Array Value,Ru (Instr.loadAt 23 (.pointer (some q3))) w1 (.agg g12) w1 ∧ Cal Tryz.prog F_geo_Right #[.agg g12] w1 fun r13 w2 => ∃ b13 : Bool,r13 = .bool b13 ∧ (bif !b13 then
 K (.int .i64 1) w2
 else
 ∃ g18 : Array Value,Ru (Instr.loadAt 23 (.pointer (some q3))) (drew w2) (.agg g18) (drew w2) ∧ Cal Tryz.prog F_disk_Disk_Len #[.pointer p0] (drew w2) fun r17 w3 => ∃ n17 : Int,r17 = .int .i64 n17 ∧ Ru (Instr.loadAt 23 (.pointer (some q3))) w3 (.agg g18) w3 ∧ Cal Tryz.prog F_geo_Size #[.agg g18] w3 fun r19 w4 => ∃ n19 : Int,r19 = .int .i64 n19 ∧ (bif decide (n17 < n19) then
 K (.int .i64 4) w4
 else
 LoopC (fun k x w5 =>
 ∃ n21 : Int,nth x 0 = .int .i64 n21 ∧ (bif decide (n21 < 2) then
 ∃ (a26 : Option Addr) (l26 c26 : Nat),∃ w6 : World,Ru (Instr.makeSlice 24 (.int .i64 256) (.int .i64 256)) w5 (.slice a26 l26 c26) w6 ∧ Cal Tryz.prog F_disk_Disk_Write #[.pointer p0,.int .i64 n21,.slice a26 l26 c26] w6 fun r27 w7 => ∃ n27 : Int,r27 = .int .i64 n27 ∧ k [.int .i64 (IntKind.i64.wrap (n21 + 1))] w7
 else
 Cal Tryz.prog F_disk_Disk_Flush #[.pointer p0] w5 fun r30 w8 => ∃ n30 : Int,r30 = .int .i64 n30 ∧ ∃ g31 : Array Value,Ru (Instr.loadAt 23 (.pointer (some q3))) w8 (.agg g31) w8 ∧ Cal Tryz.prog F_vol_each #[.agg g31,.int .i64 0,.func (.func F_disk_Disk_Write) #[.pointer p0] #[]] w8 fun r34 w9 => ∃ n34 : Int,r34 = .int .i64 n34 ∧ Cal Tryz.prog F_disk_Disk_Flush #[.pointer p0] w9 fun r36 w10 => ∃ n36 : Int,r36 = .int .i64 n36 ∧ ∃ g38 : Array Value,Ru (Instr.loadAt 23 (.pointer (some q3))) w10 (.agg g38) w10 ∧ ∃ g39 : Array Value,Al (Instr.build 94 #[(0,.int .i64 1),(1,.agg g38)]) (.agg g39) ∧ Cal Tryz.prog F_super_Put #[.agg g39] w10 fun r40 w11 => ∃ (a40a : Option Addr) (l40a c40a : Nat),∃ n40b : Int,r40 = .tuple #[.slice a40a l40a c40a,.int .i64 n40b] ∧ Cal Tryz.prog F_disk_Disk_Write #[.pointer p0,.int .i64 1,.slice a40a l40a c40a] w11 fun r45 w12 => ∃ n45 : Int,r45 = .int .i64 n45 ∧ Cal Tryz.prog F_disk_Disk_Flush #[.pointer p0] w12 fun r47 w13 => ∃ n47 : Int,r47 = .int .i64 n47 ∧ K (.int .i64 n47) w13)) [.int .i64 0] w4)))
set_option maxRecDepth 100000 in
theorem C_vol_Format (p0 : Option Addr) (g1 : Array Value) (w0 : World) (K : Value → World → Prop) (h : D_vol_Format p0 g1 w0 K) : Cal Tryz.prog F_vol_Format #[.pointer p0,.agg g1] w0 K :=
 denF_sound (A := { S := [21],ty := [(21,3)],raw := [] }) mixed Tryz.func9 (by kernel_rfl) (by kernel_rfl) ((show denF Tryz.prog _ Tryz.f9 _ w0 K = D_vol_Format p0 g1 w0 K by kernel_rfl).mpr h)
set_option maxRecDepth 100000 in
def D_leveeref13_Format (p0 : Option Addr) (g1 : Array Value) (w0 : World) (K : Value → World → Prop) : Prop :=
 ∃ q3 : Addr,∃ w1 : World,Ru (Instr.box 23 (.agg g1)) w0 (.pointer (some q3)) w1 ∧ ∃ g9 : Array Value,Ru (Instr.loadAt 23 (.pointer (some q3))) w1 (.agg g9) w1 ∧ Cal Tryz.prog F_leveeref03_Right #[.agg g9] w1 fun r10 w2 => ∃ b10 : Bool,r10 = .bool b10 ∧ (bif !b10 then
 K (.int .i64 1) w2
 else
 ∃ q13 : Addr,(.pointer p0 : Value) = .pointer (some q13) ∧ ∃ (a15 : Option Addr) (l15 c15 : Nat),Ru (Instr.loadAt 82 (.pointer (some (Addr.add q13 0)))) (drew w2) (.slice a15 l15 c15) (drew w2) ∧ ∃ g17 : Array Value,Ru (Instr.loadAt 23 (.pointer (some q3))) (drew w2) (.agg g17) (drew w2) ∧ Cal Tryz.prog F_leveeref03_Size #[.agg g17] (drew w2) fun r18 w3 => ∃ n18 : Int,r18 = .int .i64 n18 ∧ Ru (Instr.loadAt 82 (.pointer (some (Addr.add q13 0)))) w3 (.slice a15 l15 c15) w3 ∧ (bif decide ((l15 : Int) < n18) then
 K (.int .i64 4) w3
 else
 ∃ (a21 : Option Addr) (l21 c21 : Nat),∃ w4 : World,Ru (Instr.makeSlice 24 (.int .i64 256) (.int .i64 256)) w3 (.slice a21 l21 c21) w4 ∧ Cal Tryz.prog F_leveeref02_Disk_Write #[.pointer p0,.int .i64 0,.slice a21 l21 c21] w4 fun r22 w5 => ∃ n22 : Int,r22 = .int .i64 n22 ∧ ∃ (a24 : Option Addr) (l24 c24 : Nat),∃ w6 : World,Ru (Instr.makeSlice 24 (.int .i64 256) (.int .i64 256)) w5 (.slice a24 l24 c24) w6 ∧ Cal Tryz.prog F_leveeref02_Disk_Write #[.pointer p0,.int .i64 1,.slice a24 l24 c24] w6 fun r25 w7 => ∃ n25 : Int,r25 = .int .i64 n25 ∧ Cal Tryz.prog F_leveeref02_Disk_Flush #[.pointer p0] w7 fun r27 w8 => ∃ n27 : Int,r27 = .int .i64 n27 ∧ ∃ g28 : Array Value,Ru (Instr.loadAt 23 (.pointer (some q3))) w8 (.agg g28) w8 ∧ Cal Tryz.prog F_leveeref13_groups #[.agg g28,.int .i64 0] w8 fun r29 w9 => ∃ (a29 : Option Addr) (l29 c29 : Nat),r29 = .slice a29 l29 c29 ∧ LoopC (fun k x w10 =>
 ∃ n6 : Int,nth x 0 = .int .i64 n6 ∧ (bif decide (n6 < (l29 : Int)) then
 ∃ q39 : Addr,Al (Instr.indexAt 95 (.slice a29 l29 c29) (.int .i64 n6)) (.pointer (some q39)) ∧ ∃ n41 : Int,Ru (Instr.loadAt 3 (.pointer (some (Addr.add q39 0)))) (drew w10) (.int .i64 n41) (drew w10) ∧ ∃ q44 : Addr,Al (Instr.indexAt 95 (.slice a29 l29 c29) (.int .i64 n6)) (.pointer (some q44)) ∧ ∃ (a46 : Option Addr) (l46 c46 : Nat),Ru (Instr.loadAt 24 (.pointer (some (Addr.add q44 1)))) (drew w10) (.slice a46 l46 c46) (drew w10) ∧ Cal Tryz.prog F_leveeref02_Disk_Write #[.pointer p0,.int .i64 n41,.slice a46 l46 c46] (drew w10) fun r47 w11 => ∃ n47 : Int,r47 = .int .i64 n47 ∧ k [.int .i64 (IntKind.i64.wrap (n6 + 1))] w11
 else
 Cal Tryz.prog F_leveeref02_Disk_Flush #[.pointer p0] w10 fun r49 w12 => ∃ n49 : Int,r49 = .int .i64 n49 ∧ ∃ g51 : Array Value,Ru (Instr.loadAt 23 (.pointer (some q3))) w12 (.agg g51) w12 ∧ ∃ g52 : Array Value,Al (Instr.build 100 #[(0,.int .i64 1),(1,.agg g51)]) (.agg g52) ∧ Cal Tryz.prog F_leveeref04_Put #[.agg g52] w12 fun r53 w13 => ∃ (a53a : Option Addr) (l53a c53a : Nat),∃ n53b : Int,r53 = .tuple #[.slice a53a l53a c53a,.int .i64 n53b] ∧ Cal Tryz.prog F_leveeref02_Disk_Write #[.pointer p0,.int .i64 1,.slice a53a l53a c53a] w13 fun r58 w14 => ∃ n58 : Int,r58 = .int .i64 n58 ∧ Cal Tryz.prog F_leveeref02_Disk_Flush #[.pointer p0] w14 fun r60 w15 => ∃ n60 : Int,r60 = .int .i64 n60 ∧ K (.int .i64 n60) w15)) [.int .i64 0] w9))
set_option maxRecDepth 100000 in
theorem C_leveeref13_Format (p0 : Option Addr) (g1 : Array Value) (w0 : World) (K : Value → World → Prop) (h : D_leveeref13_Format p0 g1 w0 K) : Cal Tryz.prog F_leveeref13_Format #[.pointer p0,.agg g1] w0 K :=
 denF_sound (A := { S := [6],ty := [(6,3)],raw := [] }) mixed Tryz.func10 (by kernel_rfl) (by kernel_rfl) ((show denF Tryz.prog _ Tryz.f10 _ w0 K = D_leveeref13_Format p0 g1 w0 K by kernel_rfl).mpr h)
set_option maxRecDepth 100000 in
def D_leveelaw13_same (p0 : Option Addr) (p1 : Option Addr) (w0 : World) (K : Value → World → Prop) : Prop :=
 Share (fun k => Cal Tryz.prog F_disk_Disk_Bytes #[.pointer p0] (drew w0) fun r11 w1 => ∃ (a11 : Option Addr) (l11 c11 : Nat),r11 = .slice a11 l11 c11 ∧ ∃ s12 : ByteArray,Ru (convert 24 9 (.slice a11 l11 c11)) w1 (.string s12) w1 ∧ Cal Tryz.prog F_leveeref02_Disk_Bytes #[.pointer p1] w1 fun r14 w2 => ∃ (a14 : Option Addr) (l14 c14 : Nat),r14 = .slice a14 l14 c14 ∧ Ru (convert 24 9 (.slice a11 l11 c11)) w2 (.string s12) w2 ∧ ∃ s15 : ByteArray,Ru (convert 24 9 (.slice a14 l14 c14)) w2 (.string s15) w2 ∧ (bif !((ByteArray.toList s12) == (ByteArray.toList s15)) then k [.bool true] w2 else Cal Tryz.prog F_disk_Disk_Open #[.pointer p0] w2 fun r19 w3 => ∃ (a19 : Option Addr) (l19 c19 : Nat),r19 = .slice a19 l19 c19 ∧ Cal Tryz.prog F_leveeref02_Disk_Open #[.pointer p1] w3 fun r21 w4 => ∃ (a21 : Option Addr) (l21 c21 : Nat),r21 = .slice a21 l21 c21 ∧ Cal Tryz.prog F_leveeref01_Ints #[.slice a19 l19 c19,.slice a21 l21 c21] w4 fun r22 w5 => ∃ b22 : Bool,r22 = .bool b22 ∧ k [.bool (!b22)] w5)) fun x w6 =>
 ∃ b24 : Bool,nth x 0 = .bool b24 ∧ (bif b24 then
 K (.bool false) w6
 else
 LoopC (fun k_2 x_2 w7 =>
 ∃ n5 : Int,nth x_2 0 = .int .i64 n5 ∧ ∃ q27 : Addr,(.pointer p1 : Value) = .pointer (some q27) ∧ ∃ (a29 : Option Addr) (l29 c29 : Nat),Ru (Instr.loadAt 82 (.pointer (some (Addr.add q27 0)))) w7 (.slice a29 l29 c29) w7 ∧ (bif decide (n5 < (l29 : Int)) then
 Cal Tryz.prog F_disk_Disk_Safe #[.pointer p0,.int .i64 n5] w7 fun r37 w8 => ∃ (a37a : Option Addr) (l37a c37a : Nat),∃ n37b : Int,r37 = .tuple #[.slice a37a l37a c37a,.int .i64 n37b] ∧ Cal Tryz.prog F_leveeref02_Disk_Safe #[.pointer p1,.int .i64 n5] w8 fun r43 w9 => ∃ (a43a : Option Addr) (l43a c43a : Nat),∃ n43b : Int,r43 = .tuple #[.slice a43a l43a c43a,.int .i64 n43b] ∧ ∃ s47 : ByteArray,Ru (convert 24 9 (.slice a37a l37a c37a)) w9 (.string s47) w9 ∧ ∃ s49 : ByteArray,Ru (convert 24 9 (.slice a43a l43a c43a)) w9 (.string s49) w9 ∧ (bif !((ByteArray.toList s47) == (ByteArray.toList s49)) then
 K (.bool false) w9
 else
 k_2 [.int .i64 (IntKind.i64.wrap (n5 + 1))] w9)
 else
 K (.bool true) w7)) [.int .i64 0] w6)
set_option maxRecDepth 100000 in
theorem C_leveelaw13_same (p0 : Option Addr) (p1 : Option Addr) (w0 : World) (K : Value → World → Prop) (h : D_leveelaw13_same p0 p1 w0 K) : Cal Tryz.prog F_leveelaw13_same #[.pointer p0,.pointer p1] w0 K :=
 denF_sound (A := { S := [5,24],ty := [(5,3),(24,4)],raw := [] }) mixed Tryz.func11 (by kernel_rfl) (by kernel_rfl) ((show denF Tryz.prog _ Tryz.f11 _ w0 K = D_leveelaw13_same p0 p1 w0 K by kernel_rfl).mpr h)
set_option maxRecDepth 100000 in
def D_disk_Disk_Write (p0 : Option Addr) (n1 : Int) (a2 : Option Addr) (l2 c2 : Nat) (w0 : World) (K : Value → World → Prop) : Prop :=
 Cal Tryz.prog F_disk_Disk_may #[.pointer p0,.int .i64 n1] w0 fun r11 w1 => ∃ n11 : Int,r11 = .int .i64 n11 ∧ (bif n11 != 0 then
 K (.int .i64 n11) w1
 else
 (bif (l2 : Int) != 256 then
 K (.int .i64 4) w1
 else
 ∃ q21 : Addr,(.pointer p0 : Value) = .pointer (some q21) ∧ ∃ m23 : Option Nat,Ru (Instr.loadAt 79 (.pointer (some (Addr.add q21 1)))) w1 (.map m23) w1 ∧ ∃ (a25 : Option Addr) (l25 c25 : Nat),Ru (Instr.lookup 79 (.map m23) (.int .i64 n1) false) w1 (.slice a25 l25 c25) w1 ∧ Cal Tryz.prog F_disk_Disk_goes #[.pointer p0] w1 fun r27 w2 => ∃ b27 : Bool,r27 = .bool b27 ∧ Share (fun k => (bif b27 then
 ∃ q29 : Addr,(.pointer p0 : Value) = .pointer (some q29) ∧ ∃ m31 : Option Nat,Ru (Instr.loadAt 79 (.pointer (some (Addr.add q29 1)))) (drew w2) (.map m31) (drew w2) ∧ ∃ (a38 : Option Addr) (l38 c38 : Nat),Al (Instr.sliceAt 78 (.slice a25 l25 c25) none (some (.int .i64 ((l25 : Int)))) (some (.int .i64 ((l25 : Int))))) (.slice a38 l38 c38) ∧ ∃ q40 : Addr,Al (Instr.arrayAt 107 (.slice a2 l2 c2)) (.pointer (some q40)) ∧ ∃ g41 : Array Value,Ru (Instr.loadAt 107 (.pointer (some q40))) (drew w2) (.agg g41) (drew w2) ∧ ∃ (a42 : Option Addr) (l42 c42 : Nat),∃ w3 : World,Ru (Instr.buildSlice 78 1 #[(0,.agg g41)]) (drew w2) (.slice a42 l42 c42) w3 ∧ Ru (Instr.loadAt 79 (.pointer (some (Addr.add q29 1)))) w3 (.map m31) w3 ∧ ∃ (a43 : Option Addr) (l43 c43 : Nat),∃ w4 : World,Ru (Builtin.append_ #[78,78] 78 #[.slice a38 l38 c38,.slice a42 l42 c42]) w3 (.slice a43 l43 c43) w4 ∧ Ru (Instr.loadAt 79 (.pointer (some (Addr.add q29 1)))) w4 (.map m31) w4 ∧ ∃ w5 : World,RuU (Instr.mapUpdate 79 (.map m31) (.int .i64 n1) (.slice a43 l43 c43)) w4 w5 ∧ k [] w5
 else
 k [] w2)) fun x w6 =>
 K (.int .i64 0) w6))
set_option maxRecDepth 100000 in
theorem C_disk_Disk_Write (p0 : Option Addr) (n1 : Int) (a2 : Option Addr) (l2 c2 : Nat) (w0 : World) (K : Value → World → Prop) (h : D_disk_Disk_Write p0 n1 a2 l2 c2 w0 K) : Cal Tryz.prog F_disk_Disk_Write #[.pointer p0,.int .i64 n1,.slice a2 l2 c2] w0 K :=
 denF_sound (A := { S := [],ty := [],raw := [] }) mixed Tryz.func12 (by kernel_rfl) (by kernel_rfl) ((show denF Tryz.prog _ Tryz.f12 _ w0 K = D_disk_Disk_Write p0 n1 a2 l2 c2 w0 K by kernel_rfl).mpr h)
set_option maxRecDepth 100000 in
def D_leveeref01_Count (n0 : Int) (n1 : Int) (w0 : World) (K : Value → World → Prop) : Prop :=
 (bif decide (n1 < 1) then
 K (.int .i64 0) w0
 else
 ∃ n9 : Int,Al (eqS .rem 3 (.tmp 7) (.tmp 8) (.int .i64 n0) (.int .i64 n1)) (.int .i64 n9) ∧ Share (fun k => (bif decide (n9 < 0) then
 k [.int .i64 (IntKind.i64.wrap (n9 + n1))] w0
 else
 k [.int .i64 n9] w0)) fun x w1 =>
 ∃ n0_2 : Int,nth x 0 = .int .i64 n0_2 ∧ K (.int .i64 n0_2) w1)
set_option maxRecDepth 100000 in
theorem C_leveeref01_Count (n0 : Int) (n1 : Int) (w0 : World) (K : Value → World → Prop) (h : D_leveeref01_Count n0 n1 w0 K) : Cal Tryz.prog F_leveeref01_Count #[.int .i64 n0,.int .i64 n1] w0 K :=
 denF_sound (A := { S := [0],ty := [(0,3)],raw := [] }) mixed Tryz.func13 (by kernel_rfl) (by kernel_rfl) ((show denF Tryz.prog _ Tryz.f13 _ w0 K = D_leveeref01_Count n0 n1 w0 K by kernel_rfl).mpr h)
set_option maxRecDepth 100000 in
def D_leveeref01_Fill (a0 : Option Addr) (l0 c0 : Nat) (w0 : World) (K : Value → World → Prop) : Prop :=
 ∃ (a5 : Option Addr) (l5 c5 : Nat),∃ w1 : World,Ru (Instr.makeSlice 24 (.int .i64 256) (.int .i64 256)) w0 (.slice a5 l5 c5) w1 ∧ LoopC (fun k x w2 =>
 Share (fun k_2 => ∃ n4 : Int,nth x 0 = .int .i64 n4 ∧ (bif decide (n4 < 256) then k_2 [.bool (decide ((l0 : Int) > 0))] w2 else k_2 [.bool false] w2)) fun x_2 w3 =>
 ∃ b12 : Bool,nth x_2 0 = .bool b12 ∧ (bif b12 then
 ∃ n4_2 : Int,nth x 0 = .int .i64 n4_2 ∧ ∃ n21 : Int,Al (eqS .rem 3 (.tmp 18) (.tmp 20) (.int .i64 n4_2) (.int .i64 ((l0 : Int)))) (.int .i64 n21) ∧ ∃ q22 : Addr,Al (Instr.indexAt 24 (.slice a0 l0 c0) (.int .i64 n21)) (.pointer (some q22)) ∧ ∃ n23 : Int,Ru (Instr.loadAt 5 (.pointer (some q22))) w3 (.int .u8 n23) w3 ∧ ∃ q24 : Addr,Al (Instr.indexAt 24 (.slice a5 l5 c5) (.int .i64 n4_2)) (.pointer (some q24)) ∧ ∃ w4 : World,RuU (Instr.storeAt 5 (.pointer (some q24)) (.int .u8 n23)) w3 w4 ∧ k [.int .i64 (IntKind.i64.wrap (n4_2 + 1)),.bool b12] w4
 else
 K (.slice a5 l5 c5) w3)) [.int .i64 0,undef] w1
set_option maxRecDepth 100000 in
theorem C_leveeref01_Fill (a0 : Option Addr) (l0 c0 : Nat) (w0 : World) (K : Value → World → Prop) (h : D_leveeref01_Fill a0 l0 c0 w0 K) : Cal Tryz.prog F_leveeref01_Fill #[.slice a0 l0 c0] w0 K :=
 denF_sound (A := { S := [4,12],ty := [(4,3),(12,4)],raw := [] }) mixed Tryz.func14 (by kernel_rfl) (by kernel_rfl) ((show denF Tryz.prog _ Tryz.f14 _ w0 K = D_leveeref01_Fill a0 l0 c0 w0 K by kernel_rfl).mpr h)
set_option maxRecDepth 100000 in
def D_leveeref02_Disk_Write (p0 : Option Addr) (n1 : Int) (a2 : Option Addr) (l2 c2 : Nat) (w0 : World) (K : Value → World → Prop) : Prop :=
 Cal Tryz.prog F_leveeref02_Disk_there #[.pointer p0,.int .i64 n1] w0 fun r10 w1 => ∃ b10 : Bool,r10 = .bool b10 ∧ (bif !b10 then
 K (.int .i64 3) w1
 else
 (bif (l2 : Int) != 256 then
 K (.int .i64 4) w1
 else
 Cal Tryz.prog F_leveeref02_Disk_goes #[.pointer p0] w1 fun r16 w2 => ∃ b16 : Bool,r16 = .bool b16 ∧ (bif !b16 then
 K (.int .i64 0) w2
 else
 ∃ q20 : Addr,(.pointer p0 : Value) = .pointer (some q20) ∧ ∃ (a22 : Option Addr) (l22 c22 : Nat),Ru (Instr.loadAt 82 (.pointer (some (Addr.add q20 0)))) w2 (.slice a22 l22 c22) w2 ∧ ∃ q24 : Addr,Al (Instr.indexAt 82 (.slice a22 l22 c22) (.int .i64 n1)) (.pointer (some q24)) ∧ ∃ (a26 : Option Addr) (l26 c26 : Nat),Ru (Instr.loadAt 86 (.pointer (some (Addr.add q24 0)))) w2 (.slice a26 l26 c26) w2 ∧ ∃ (a27 : Option Addr) (l27 c27 : Nat),∃ w3 : World,Ru (Builtin.append_ #[86,86] 86 #[.slice none 0 0,.slice a26 l26 c26]) w2 (.slice a27 l27 c27) w3 ∧ ∃ q29 : Addr,(.pointer p0 : Value) = .pointer (some q29) ∧ ∃ (a31 : Option Addr) (l31 c31 : Nat),Ru (Instr.loadAt 82 (.pointer (some (Addr.add q29 0)))) (drew w3) (.slice a31 l31 c31) (drew w3) ∧ ∃ s35 : ByteArray,Ru (convert 24 9 (.slice a2 l2 c2)) (drew w3) (.string s35) (drew w3) ∧ ∃ (a36 : Option Addr) (l36 c36 : Nat),∃ w4 : World,Ru (Instr.buildSlice 86 1 #[(0,.string s35)]) (drew w3) (.slice a36 l36 c36) w4 ∧ Ru (Instr.loadAt 82 (.pointer (some (Addr.add q29 0)))) w4 (.slice a31 l31 c31) w4 ∧ ∃ (a37 : Option Addr) (l37 c37 : Nat),∃ w5 : World,Ru (Builtin.append_ #[86,86] 86 #[.slice a27 l27 c27,.slice a36 l36 c36]) w4 (.slice a37 l37 c37) w5 ∧ Ru (Instr.loadAt 82 (.pointer (some (Addr.add q29 0)))) w5 (.slice a31 l31 c31) w5 ∧ ∃ q38 : Addr,Al (Instr.indexAt 82 (.slice a31 l31 c31) (.int .i64 n1)) (.pointer (some q38)) ∧ ∃ w6 : World,RuU (Instr.storeAt 86 (.pointer (some (Addr.add q38 0))) (.slice a37 l37 c37)) w5 w6 ∧ K (.int .i64 0) w6)))
set_option maxRecDepth 100000 in
theorem C_leveeref02_Disk_Write (p0 : Option Addr) (n1 : Int) (a2 : Option Addr) (l2 c2 : Nat) (w0 : World) (K : Value → World → Prop) (h : D_leveeref02_Disk_Write p0 n1 a2 l2 c2 w0 K) : Cal Tryz.prog F_leveeref02_Disk_Write #[.pointer p0,.int .i64 n1,.slice a2 l2 c2] w0 K :=
 denF_sound (A := { S := [],ty := [],raw := [] }) mixed Tryz.func15 (by kernel_rfl) (by kernel_rfl) ((show denF Tryz.prog _ Tryz.f15 _ w0 K = D_leveeref02_Disk_Write p0 n1 a2 l2 c2 w0 K by kernel_rfl).mpr h)
set_option maxRecDepth 100000 in
def D_vol_Mount (p0 : Option Addr) (w0 : World) (K : Value → World → Prop) : Prop :=
 Cal Tryz.prog F_disk_Disk_Len #[.pointer p0] w0 fun r24 w1 => ∃ n24 : Int,r24 = .int .i64 n24 ∧ Cal Tryz.prog F_patch_Open #[.pointer p0,.int .i64 (if 1 > n24 then 1 else n24)] w1 fun r26 w2 => ∃ p26a : Option Addr,∃ n26b : Int,r26 = .tuple #[.pointer p26a,.int .i64 n26b] ∧ (bif n26b != 0 then
 K (.tuple #[.pointer none,.int .i64 n26b]) w2
 else
 Cal Tryz.prog F_disk_Disk_Read #[.pointer p0,.int .i64 0] w2 fun r34 w3 => ∃ (a34a : Option Addr) (l34a c34a : Nat),∃ n34b : Int,r34 = .tuple #[.slice a34a l34a c34a,.int .i64 n34b] ∧ Cal Tryz.prog F_disk_Disk_Read #[.pointer p0,.int .i64 1] w3 fun r39 w4 => ∃ (a39a : Option Addr) (l39a c39a : Nat),∃ n39b : Int,r39 = .tuple #[.slice a39a l39a c39a,.int .i64 n39b] ∧ Cal Tryz.prog F_disk_Disk_Len #[.pointer p0] w4 fun r46 w5 => ∃ n46 : Int,r46 = .int .i64 n46 ∧ Cal Tryz.prog F_super_Choose #[.slice a34a l34a c34a,.slice a39a l39a c39a,.int .i64 n46] w5 fun r47 w6 => ∃ g47a : Array Value,∃ n47b : Int,∃ n47c : Int,r47 = .tuple #[.agg g47a,.int .i64 n47b,.int .i64 n47c] ∧ ∃ q10 : Addr,∃ w7 : World,Ru (Instr.alloc 94 true (.tuple #[])) w6 (.pointer (some q10)) w7 ∧ ∃ w8 : World,RuU (Instr.storeAt 94 (.pointer (some q10)) (.agg g47a)) w7 w8 ∧ (bif n47c != 0 then
 K (.tuple #[.pointer none,.int .i64 n47c]) w8
 else
 ∃ g54 : Array Value,Ru (Instr.loadAt 94 (.pointer (some q10))) (drew w8) (.agg g54) (drew w8) ∧ Cal Tryz.prog F_push_New #[] (drew w8) fun r56 w9 => ∃ p56 : Option Addr,r56 = .pointer p56 ∧ Ru (Instr.loadAt 94 (.pointer (some q10))) w9 (.agg g54) w9 ∧ ∃ g57 : Array Value,Al (Instr.build 114 #[(0,.agg g54),(1,.pointer p26a),(2,.pointer p56),(3,.int .i64 0)]) (.agg g57) ∧ ∃ q58 : Addr,∃ w10 : World,Ru (Instr.box 114 (.agg g57)) w9 (.pointer (some q58)) w10 ∧ ∃ n61 : Int,Ru (Instr.loadAt 3 (.pointer (some (Addr.add (Addr.add q10 1) 2)))) w10 (.int .i64 n61) w10 ∧ LoopC (fun k x w11 =>
 ∃ n62 : Int,nth x 0 = .int .i64 n62 ∧ (bif decide (n62 < n61) then
 Cal Tryz.prog F_vol_Vol_Head #[.pointer (some q58),.int .i64 n62] w11 fun r68 w12 => ∃ g68a : Array Value,∃ n68b : Int,r68 = .tuple #[.agg g68a,.int .i64 n68b] ∧ ∃ q14 : Addr,∃ w13 : World,Ru (Instr.alloc 63 true (.tuple #[])) w12 (.pointer (some q14)) w13 ∧ ∃ w14 : World,RuU (Instr.storeAt 63 (.pointer (some q14)) (.agg g68a)) w13 w14 ∧ Share (fun k_2 => (bif n68b != 0 then k_2 [.bool true] w14 else ∃ n75 : Int,Ru (Instr.loadAt 3 (.pointer (some (Addr.add q14 0)))) w14 (.int .i64 n75) w14 ∧ k_2 [.bool (n75 != n62)] w14)) fun x_2 w15 =>
 ∃ b78 : Bool,nth x_2 0 = .bool b78 ∧ (bif b78 then
 K (.tuple #[.pointer none,.int .i64 8]) w15
 else
 k [.int .i64 (IntKind.i64.wrap (n62 + 1)),.bool b78] w15)
 else
 Cal Tryz.prog F_vol_Vol_Inode #[.pointer (some q58),.int .i64 1] w11 fun r82 w16 => ∃ g82a : Array Value,∃ n82b : Int,r82 = .tuple #[.agg g82a,.int .i64 n82b] ∧ ∃ q16 : Addr,∃ w17 : World,Ru (Instr.alloc 55 true (.tuple #[])) w16 (.pointer (some q16)) w17 ∧ ∃ w18 : World,RuU (Instr.storeAt 55 (.pointer (some q16)) (.agg g82a)) w17 w18 ∧ Share (fun k_3 => (bif n82b != 0 then k_3 [.bool true] w18 else ∃ n89 : Int,Ru (Instr.loadAt 3 (.pointer (some (Addr.add q16 0)))) w18 (.int .i64 n89) w18 ∧ k_3 [.bool (n89 != 2)] w18)) fun x_3 w19 =>
 ∃ b91 : Bool,nth x_3 0 = .bool b91 ∧ (bif b91 then
 K (.tuple #[.pointer none,.int .i64 8]) w19
 else
 ∃ g93 : Array Value,Ru (Instr.loadAt 23 (.pointer (some (Addr.add q10 1)))) w19 (.agg g93) w19 ∧ Cal Tryz.prog F_geo_Slots #[.agg g93] w19 fun r94 w20 => ∃ n94 : Int,r94 = .int .i64 n94 ∧ LoopC (fun k_4 x_4 w21 =>
 ∃ n95 : Int,nth x_4 0 = .int .i64 n95 ∧ (bif decide (n95 < n94) then
 Cal Tryz.prog F_vol_Vol_Inode #[.pointer (some q58),.int .i64 n95] w21 fun r101 w22 => ∃ g101a : Array Value,∃ n101b : Int,r101 = .tuple #[.agg g101a,.int .i64 n101b] ∧ ∃ q19 : Addr,∃ w23 : World,Ru (Instr.alloc 55 true (.tuple #[])) w22 (.pointer (some q19)) w23 ∧ ∃ w24 : World,RuU (Instr.storeAt 55 (.pointer (some q19)) (.agg g101a)) w23 w24 ∧ ∃ q106 : Addr,(.pointer (some q58) : Value) = .pointer (some q106) ∧ ∃ n108 : Int,Ru (Instr.loadAt 2 (.pointer (some (Addr.add q106 6)))) (drew w24) (.int .i64 n108) (drew w24) ∧ ∃ n110 : Int,Ru (Instr.loadAt 2 (.pointer (some (Addr.add q19 3)))) (drew w24) (.int .i64 n110) (drew w24) ∧ ∃ q112 : Addr,(.pointer (some q58) : Value) = .pointer (some q112) ∧ ∃ w25 : World,RuU (Instr.storeAt 2 (.pointer (some (Addr.add q112 6))) (.int .i64 (if n110 > n108 then n110 else n108))) (drew w24) w25 ∧ k_4 [.int .i64 (IntKind.i64.wrap (n95 + 1))] w25
 else
 ∃ q116 : Addr,(.pointer (some q58) : Value) = .pointer (some q116) ∧ ∃ n118 : Int,Ru (Instr.loadAt 2 (.pointer (some (Addr.add q116 6)))) w21 (.int .i64 n118) w21 ∧ ∃ q120 : Addr,(.pointer (some q58) : Value) = .pointer (some q120) ∧ ∃ w26 : World,RuU (Instr.storeAt 2 (.pointer (some (Addr.add q120 6))) (.int .i64 (IntKind.i64.wrap (n118 + 1)))) w21 w26 ∧ K (.tuple #[.pointer (some q58),.int .i64 0]) w26)) [.int .i64 0] w20))) [.int .i64 0,undef] w10))
set_option maxRecDepth 100000 in
theorem C_vol_Mount (p0 : Option Addr) (w0 : World) (K : Value → World → Prop) (h : D_vol_Mount p0 w0 K) : Cal Tryz.prog F_vol_Mount #[.pointer p0] w0 K :=
 denF_sound (A := { S := [62,78,91,95],ty := [(62,3),(78,4),(91,4),(95,3)],raw := [] }) mixed Tryz.func16 (by kernel_rfl) (by kernel_rfl) ((show denF Tryz.prog _ Tryz.f16 _ w0 K = D_vol_Mount p0 w0 K by kernel_rfl).mpr h)
set_option maxRecDepth 100000 in
def D_leveeref13_Mount (p0 : Option Addr) (w0 : World) (K : Value → World → Prop) : Prop :=
 Cal Tryz.prog F_leveeref02_Disk_Read #[.pointer p0,.int .i64 0] w0 fun r20 w1 => ∃ (a20a : Option Addr) (l20a c20a : Nat),∃ n20b : Int,r20 = .tuple #[.slice a20a l20a c20a,.int .i64 n20b] ∧ Cal Tryz.prog F_leveeref02_Disk_Read #[.pointer p0,.int .i64 1] w1 fun r25 w2 => ∃ (a25a : Option Addr) (l25a c25a : Nat),∃ n25b : Int,r25 = .tuple #[.slice a25a l25a c25a,.int .i64 n25b] ∧ ∃ q32 : Addr,(.pointer p0 : Value) = .pointer (some q32) ∧ ∃ (a34 : Option Addr) (l34 c34 : Nat),Ru (Instr.loadAt 82 (.pointer (some (Addr.add q32 0)))) w2 (.slice a34 l34 c34) w2 ∧ Cal Tryz.prog F_leveeref04_Choose #[.slice a20a l20a c20a,.slice a25a l25a c25a,.int .i64 ((l34 : Int))] w2 fun r36 w3 => ∃ g36a : Array Value,∃ n36b : Int,∃ n36c : Int,r36 = .tuple #[.agg g36a,.int .i64 n36b,.int .i64 n36c] ∧ ∃ q8 : Addr,∃ w4 : World,Ru (Instr.alloc 100 true (.tuple #[])) w3 (.pointer (some q8)) w4 ∧ ∃ w5 : World,RuU (Instr.storeAt 100 (.pointer (some q8)) (.agg g36a)) w4 w5 ∧ (bif n36c != 0 then
 K (.tuple #[.pointer none,.int .i64 n36c]) w5
 else
 ∃ g45 : Array Value,Al (Instr.build 120 #[]) (.agg g45) ∧ ∃ n48 : Int,Ru (Instr.loadAt 2 (.pointer (some (Addr.add q8 0)))) (drew w5) (.int .i64 n48) (drew w5) ∧ ∃ g50 : Array Value,Ru (Instr.loadAt 23 (.pointer (some (Addr.add q8 1)))) (drew w5) (.agg g50) (drew w5) ∧ (Cal Tryz.prog F_leveeref11_Open #[.pointer p0] (drew w5) fun r44 w6 => ∃ p44 : Option Addr,r44 = .pointer p44 ∧ Ru (Instr.loadAt 2 (.pointer (some (Addr.add q8 0)))) w6 (.int .i64 n48) w6 ∧ Ru (Instr.loadAt 23 (.pointer (some (Addr.add q8 1)))) w6 (.agg g50) w6 ∧ ∃ q46 : Addr,∃ w7 : World,Ru (Instr.box 120 (.agg g45)) w6 (.pointer (some q46)) w7 ∧ Ru (Instr.loadAt 2 (.pointer (some (Addr.add q8 0)))) w7 (.int .i64 n48) w7 ∧ Ru (Instr.loadAt 23 (.pointer (some (Addr.add q8 1)))) w7 (.agg g50) w7 ∧ ∃ g51 : Array Value,Al (Instr.build 50 #[(0,.pointer p44),(1,.pointer (some q46)),(2,.int .i64 n48),(3,.agg g50)]) (.agg g51) ∧ ∃ q52 : Addr,∃ w8 : World,Ru (Instr.box 50 (.agg g51)) w7 (.pointer (some q52)) w8 ∧ LoopC (fun k x w9 =>
 ∃ n12 : Int,nth x 0 = .int .i64 n12 ∧ ∃ q55 : Addr,(.pointer (some q52) : Value) = .pointer (some q55) ∧ ∃ n58 : Int,Ru (Instr.loadAt 3 (.pointer (some (Addr.add (Addr.add q55 3) 2)))) w9 (.int .i64 n58) w9 ∧ (bif decide (n12 < n58) then
 Cal Tryz.prog F_leveeref13_Vol_Head #[.pointer (some q52),.int .i64 n12] w9 fun r65 w10 => ∃ g65a : Array Value,∃ n65b : Int,r65 = .tuple #[.agg g65a,.int .i64 n65b] ∧ ∃ q13 : Addr,∃ w11 : World,Ru (Instr.alloc 122 true (.tuple #[])) w10 (.pointer (some q13)) w11 ∧ ∃ w12 : World,RuU (Instr.storeAt 122 (.pointer (some q13)) (.agg g65a)) w11 w12 ∧ Share (fun k_2 => (bif n65b != 0 then k_2 [.bool true] w12 else ∃ n72 : Int,Ru (Instr.loadAt 3 (.pointer (some (Addr.add q13 0)))) w12 (.int .i64 n72) w12 ∧ k_2 [.bool (n72 != n12)] w12)) fun x_2 w13 =>
 ∃ b75 : Bool,nth x_2 0 = .bool b75 ∧ (bif b75 then
 K (.tuple #[.pointer none,.int .i64 8]) w13
 else
 k [.int .i64 (IntKind.i64.wrap (n12 + 1)),.bool b75] w13)
 else
 LoopC (fun k_3 x_3 w14 =>
 ∃ n15 : Int,nth x_3 0 = .int .i64 n15 ∧ ∃ q78 : Addr,(.pointer (some q52) : Value) = .pointer (some q78) ∧ ∃ g80 : Array Value,Ru (Instr.loadAt 23 (.pointer (some (Addr.add q78 3)))) w14 (.agg g80) w14 ∧ Cal Tryz.prog F_leveeref03_Slots #[.agg g80] w14 fun r81 w15 => ∃ n81 : Int,r81 = .int .i64 n81 ∧ (bif decide (n15 < n81) then
 Cal Tryz.prog F_leveeref13_Vol_Inode #[.pointer (some q52),.int .i64 n15] w15 fun r88 w16 => ∃ g88a : Array Value,∃ n88b : Int,r88 = .tuple #[.agg g88a,.int .i64 n88b] ∧ ∃ q16 : Addr,∃ w17 : World,Ru (Instr.alloc 55 true (.tuple #[])) w16 (.pointer (some q16)) w17 ∧ ∃ w18 : World,RuU (Instr.storeAt 55 (.pointer (some q16)) (.agg g88a)) w17 w18 ∧ Share (fun k_4 => (bif n88b == 0 then ∃ n95 : Int,Ru (Instr.loadAt 2 (.pointer (some (Addr.add q16 3)))) (drew w18) (.int .i64 n95) (drew w18) ∧ ∃ q97 : Addr,(.pointer (some q52) : Value) = .pointer (some q97) ∧ ∃ n99 : Int,Ru (Instr.loadAt 2 (.pointer (some (Addr.add q97 6)))) (drew w18) (.int .i64 n99) (drew w18) ∧ k_4 [.bool (decide (n95 > n99))] (drew w18) else k_4 [.bool false] (drew w18))) fun x_4 w19 =>
 ∃ b101 : Bool,nth x_4 0 = .bool b101 ∧ Share (fun k_5 => (bif b101 then
 ∃ n104 : Int,Ru (Instr.loadAt 2 (.pointer (some (Addr.add q16 3)))) w19 (.int .i64 n104) w19 ∧ ∃ q105 : Addr,(.pointer (some q52) : Value) = .pointer (some q105) ∧ ∃ w20 : World,RuU (Instr.storeAt 2 (.pointer (some (Addr.add q105 6))) (.int .i64 n104)) w19 w20 ∧ k_5 [] w20
 else
 k_5 [] w19)) fun x_5 w21 =>
 Share (fun k_6 => (bif n15 == 1 then (bif n88b != 0 then k_6 [.bool true] w21 else ∃ n114 : Int,Ru (Instr.loadAt 3 (.pointer (some (Addr.add q16 0)))) w21 (.int .i64 n114) w21 ∧ k_6 [.bool (n114 != 2)] w21) else k_6 [.bool false] w21)) fun x_6 w22 =>
 ∃ b117 : Bool,nth x_6 0 = .bool b117 ∧ (bif b117 then
 K (.tuple #[.pointer none,.int .i64 8]) w22
 else
 k_3 [.int .i64 (IntKind.i64.wrap (n15 + 1)),.bool b101,.bool b117] w22)
 else
 ∃ q119 : Addr,(.pointer (some q52) : Value) = .pointer (some q119) ∧ ∃ n121 : Int,Ru (Instr.loadAt 2 (.pointer (some (Addr.add q119 6)))) w15 (.int .i64 n121) w15 ∧ ∃ q123 : Addr,(.pointer (some q52) : Value) = .pointer (some q123) ∧ ∃ w23 : World,RuU (Instr.storeAt 2 (.pointer (some (Addr.add q123 6))) (.int .i64 (IntKind.i64.wrap (n121 + 1)))) w15 w23 ∧ K (.tuple #[.pointer (some q52),.int .i64 0]) w23)) [.int .i64 0,undef,undef] w9)) [.int .i64 0,undef] w8) ∧ (∃ q46_2 : Addr,∃ w24 : World,Ru (Instr.box 120 (.agg g45)) (drew w5) (.pointer (some q46_2)) w24 ∧ Ru (Instr.loadAt 2 (.pointer (some (Addr.add q8 0)))) w24 (.int .i64 n48) w24 ∧ Ru (Instr.loadAt 23 (.pointer (some (Addr.add q8 1)))) w24 (.agg g50) w24 ∧ Cal Tryz.prog F_leveeref11_Open #[.pointer p0] w24 fun r44_2 w25 => ∃ p44_2 : Option Addr,r44_2 = .pointer p44_2 ∧ Ru (Instr.loadAt 2 (.pointer (some (Addr.add q8 0)))) w25 (.int .i64 n48) w25 ∧ Ru (Instr.loadAt 23 (.pointer (some (Addr.add q8 1)))) w25 (.agg g50) w25 ∧ ∃ g51_2 : Array Value,Al (Instr.build 50 #[(0,.pointer p44_2),(1,.pointer (some q46_2)),(2,.int .i64 n48),(3,.agg g50)]) (.agg g51_2) ∧ ∃ q52_2 : Addr,∃ w26 : World,Ru (Instr.box 50 (.agg g51_2)) w25 (.pointer (some q52_2)) w26 ∧ LoopC (fun k_7 x_7 w27 =>
 ∃ n12_2 : Int,nth x_7 0 = .int .i64 n12_2 ∧ ∃ q55_2 : Addr,(.pointer (some q52_2) : Value) = .pointer (some q55_2) ∧ ∃ n58_2 : Int,Ru (Instr.loadAt 3 (.pointer (some (Addr.add (Addr.add q55_2 3) 2)))) w27 (.int .i64 n58_2) w27 ∧ (bif decide (n12_2 < n58_2) then
 Cal Tryz.prog F_leveeref13_Vol_Head #[.pointer (some q52_2),.int .i64 n12_2] w27 fun r65_2 w28 => ∃ g65a_2 : Array Value,∃ n65b_2 : Int,r65_2 = .tuple #[.agg g65a_2,.int .i64 n65b_2] ∧ ∃ q13_2 : Addr,∃ w29 : World,Ru (Instr.alloc 122 true (.tuple #[])) w28 (.pointer (some q13_2)) w29 ∧ ∃ w30 : World,RuU (Instr.storeAt 122 (.pointer (some q13_2)) (.agg g65a_2)) w29 w30 ∧ Share (fun k_8 => (bif n65b_2 != 0 then k_8 [.bool true] w30 else ∃ n72_2 : Int,Ru (Instr.loadAt 3 (.pointer (some (Addr.add q13_2 0)))) w30 (.int .i64 n72_2) w30 ∧ k_8 [.bool (n72_2 != n12_2)] w30)) fun x_8 w31 =>
 ∃ b75_2 : Bool,nth x_8 0 = .bool b75_2 ∧ (bif b75_2 then
 K (.tuple #[.pointer none,.int .i64 8]) w31
 else
 k_7 [.int .i64 (IntKind.i64.wrap (n12_2 + 1)),.bool b75_2] w31)
 else
 LoopC (fun k_9 x_9 w32 =>
 ∃ n15_2 : Int,nth x_9 0 = .int .i64 n15_2 ∧ ∃ q78_2 : Addr,(.pointer (some q52_2) : Value) = .pointer (some q78_2) ∧ ∃ g80_2 : Array Value,Ru (Instr.loadAt 23 (.pointer (some (Addr.add q78_2 3)))) w32 (.agg g80_2) w32 ∧ Cal Tryz.prog F_leveeref03_Slots #[.agg g80_2] w32 fun r81_2 w33 => ∃ n81_2 : Int,r81_2 = .int .i64 n81_2 ∧ (bif decide (n15_2 < n81_2) then
 Cal Tryz.prog F_leveeref13_Vol_Inode #[.pointer (some q52_2),.int .i64 n15_2] w33 fun r88_2 w34 => ∃ g88a_2 : Array Value,∃ n88b_2 : Int,r88_2 = .tuple #[.agg g88a_2,.int .i64 n88b_2] ∧ ∃ q16_2 : Addr,∃ w35 : World,Ru (Instr.alloc 55 true (.tuple #[])) w34 (.pointer (some q16_2)) w35 ∧ ∃ w36 : World,RuU (Instr.storeAt 55 (.pointer (some q16_2)) (.agg g88a_2)) w35 w36 ∧ Share (fun k_10 => (bif n88b_2 == 0 then ∃ n95_2 : Int,Ru (Instr.loadAt 2 (.pointer (some (Addr.add q16_2 3)))) (drew w36) (.int .i64 n95_2) (drew w36) ∧ ∃ q97_2 : Addr,(.pointer (some q52_2) : Value) = .pointer (some q97_2) ∧ ∃ n99_2 : Int,Ru (Instr.loadAt 2 (.pointer (some (Addr.add q97_2 6)))) (drew w36) (.int .i64 n99_2) (drew w36) ∧ k_10 [.bool (decide (n95_2 > n99_2))] (drew w36) else k_10 [.bool false] (drew w36))) fun x_10 w37 =>
 ∃ b101_2 : Bool,nth x_10 0 = .bool b101_2 ∧ Share (fun k_11 => (bif b101_2 then
 ∃ n104_2 : Int,Ru (Instr.loadAt 2 (.pointer (some (Addr.add q16_2 3)))) w37 (.int .i64 n104_2) w37 ∧ ∃ q105_2 : Addr,(.pointer (some q52_2) : Value) = .pointer (some q105_2) ∧ ∃ w38 : World,RuU (Instr.storeAt 2 (.pointer (some (Addr.add q105_2 6))) (.int .i64 n104_2)) w37 w38 ∧ k_11 [] w38
 else
 k_11 [] w37)) fun x_11 w39 =>
 Share (fun k_12 => (bif n15_2 == 1 then (bif n88b_2 != 0 then k_12 [.bool true] w39 else ∃ n114_2 : Int,Ru (Instr.loadAt 3 (.pointer (some (Addr.add q16_2 0)))) w39 (.int .i64 n114_2) w39 ∧ k_12 [.bool (n114_2 != 2)] w39) else k_12 [.bool false] w39)) fun x_12 w40 =>
 ∃ b117_2 : Bool,nth x_12 0 = .bool b117_2 ∧ (bif b117_2 then
 K (.tuple #[.pointer none,.int .i64 8]) w40
 else
 k_9 [.int .i64 (IntKind.i64.wrap (n15_2 + 1)),.bool b101_2,.bool b117_2] w40)
 else
 ∃ q119_2 : Addr,(.pointer (some q52_2) : Value) = .pointer (some q119_2) ∧ ∃ n121_2 : Int,Ru (Instr.loadAt 2 (.pointer (some (Addr.add q119_2 6)))) w33 (.int .i64 n121_2) w33 ∧ ∃ q123_2 : Addr,(.pointer (some q52_2) : Value) = .pointer (some q123_2) ∧ ∃ w41 : World,RuU (Instr.storeAt 2 (.pointer (some (Addr.add q123_2 6))) (.int .i64 (IntKind.i64.wrap (n121_2 + 1)))) w33 w41 ∧ K (.tuple #[.pointer (some q52_2),.int .i64 0]) w41)) [.int .i64 0,undef,undef] w27)) [.int .i64 0,undef] w26))
set_option maxRecDepth 100000 in
theorem C_leveeref13_Mount (p0 : Option Addr) (w0 : World) (K : Value → World → Prop) (h : D_leveeref13_Mount p0 w0 K) : Cal Tryz.prog F_leveeref13_Mount #[.pointer p0] w0 K :=
 denF_sound (A := { S := [12,15,75,101,117],ty := [(12,3),(15,3),(75,4),(101,4),(117,4)],raw := [] }) mixed Tryz.func17 (by kernel_rfl) (by kernel_rfl) ((show denF Tryz.prog _ Tryz.f17 _ w0 K = D_leveeref13_Mount p0 w0 K by kernel_rfl).mpr h)
set_option maxRecDepth 100000 in
def D_vol_Vol_Gen (p0 : Option Addr) (w0 : World) (K : Value → World → Prop) : Prop :=
 (bif Option.isNone p0 then
 K (.int .i64 0) w0
 else
 ∃ q6 : Addr,(.pointer p0 : Value) = .pointer (some q6) ∧ ∃ n9 : Int,Ru (Instr.loadAt 2 (.pointer (some (Addr.add (Addr.add q6 0) 0)))) w0 (.int .i64 n9) w0 ∧ K (.int .i64 n9) w0)
set_option maxRecDepth 100000 in
theorem C_vol_Vol_Gen (p0 : Option Addr) (w0 : World) (K : Value → World → Prop) (h : D_vol_Vol_Gen p0 w0 K) : Cal Tryz.prog F_vol_Vol_Gen #[.pointer p0] w0 K :=
 denF_sound (A := { S := [],ty := [],raw := [] }) mixed Tryz.func18 (by kernel_rfl) (by kernel_rfl) ((show denF Tryz.prog _ Tryz.f18 _ w0 K = D_vol_Vol_Gen p0 w0 K by kernel_rfl).mpr h)
set_option maxRecDepth 100000 in
def D_vol_Vol_Geo (p0 : Option Addr) (w0 : World) (K : Value → World → Prop) : Prop :=
 ∃ q2 : Addr,∃ w1 : World,Ru (Instr.alloc 23 true (.tuple #[])) w0 (.pointer (some q2)) w1 ∧ (bif Option.isNone p0 then
 ∃ g5 : Array Value,Al (Instr.build 23 #[]) (.agg g5) ∧ ∃ w2 : World,RuU (Instr.storeAt 23 (.pointer (some q2)) (.agg g5)) w1 w2 ∧ ∃ gR2 : Array Value,Ru (Instr.loadAt 23 (.pointer (some q2))) w2 (.agg gR2) w2 ∧ K (.agg gR2) w2
 else
 ∃ q7 : Addr,(.pointer p0 : Value) = .pointer (some q7) ∧ ∃ g10 : Array Value,Ru (Instr.loadAt 23 (.pointer (some (Addr.add (Addr.add q7 0) 1)))) w1 (.agg g10) w1 ∧ ∃ w3 : World,RuU (Instr.storeAt 23 (.pointer (some q2)) (.agg g10)) w1 w3 ∧ ∃ gR2_2 : Array Value,Ru (Instr.loadAt 23 (.pointer (some q2))) w3 (.agg gR2_2) w3 ∧ K (.agg gR2_2) w3)
set_option maxRecDepth 100000 in
theorem C_vol_Vol_Geo (p0 : Option Addr) (w0 : World) (K : Value → World → Prop) (h : D_vol_Vol_Geo p0 w0 K) : Cal Tryz.prog F_vol_Vol_Geo #[.pointer p0] w0 K :=
 denF_sound (A := { S := [],ty := [],raw := [] }) mixed Tryz.func19 (by kernel_rfl) (by kernel_rfl) ((show denF Tryz.prog _ Tryz.f19 _ w0 K = D_vol_Vol_Geo p0 w0 K by kernel_rfl).mpr h)
set_option maxRecDepth 100000 in
def D_vol_Vol_Inode (p0 : Option Addr) (n1 : Int) (w0 : World) (K : Value → World → Prop) : Prop :=
 ∃ q4 : Addr,∃ w1 : World,Ru (Instr.alloc 55 true (.tuple #[])) w0 (.pointer (some q4)) w1 ∧ Cal Tryz.prog F_vol_Vol_place #[.pointer p0,.int .i64 n1] w1 fun r13 w2 => ∃ n13a : Int,∃ n13b : Int,∃ n13c : Int,r13 = .tuple #[.int .i64 n13a,.int .i64 n13b,.int .i64 n13c] ∧ (bif n13c != 0 then
 ∃ g19 : Array Value,Al (Instr.build 55 #[]) (.agg g19) ∧ ∃ w3 : World,RuU (Instr.storeAt 55 (.pointer (some q4)) (.agg g19)) w2 w3 ∧ ∃ gR4 : Array Value,Ru (Instr.loadAt 55 (.pointer (some q4))) w3 (.agg gR4) w3 ∧ K (.tuple #[.agg gR4,.int .i64 n13c]) w3
 else
 ∃ q23 : Addr,(.pointer p0 : Value) = .pointer (some q23) ∧ ∃ p25 : Option Addr,Ru (Instr.loadAt 71 (.pointer (some (Addr.add q23 4)))) w2 (.pointer p25) w2 ∧ Cal Tryz.prog F_patch_Store_Read #[.pointer p25,.int .i64 n13a] w2 fun r27 w4 => ∃ (a27a : Option Addr) (l27a c27a : Nat),∃ n27b : Int,r27 = .tuple #[.slice a27a l27a c27a,.int .i64 n27b] ∧ (bif n27b != 0 then
 ∃ g32 : Array Value,Al (Instr.build 55 #[]) (.agg g32) ∧ ∃ w5 : World,RuU (Instr.storeAt 55 (.pointer (some q4)) (.agg g32)) w4 w5 ∧ ∃ gR4_2 : Array Value,Ru (Instr.loadAt 55 (.pointer (some q4))) w5 (.agg gR4_2) w5 ∧ K (.tuple #[.agg gR4_2,.int .i64 n27b]) w5
 else
 Cal Tryz.prog F_inode_Read #[.slice a27a l27a c27a,.int .i64 n13b] w4 fun r36 w6 => ∃ g36a : Array Value,∃ n36b : Int,r36 = .tuple #[.agg g36a,.int .i64 n36b] ∧ ∃ w7 : World,RuU (Instr.storeAt 55 (.pointer (some q4)) (.agg g36a)) w6 w7 ∧ ∃ gR4_3 : Array Value,Ru (Instr.loadAt 55 (.pointer (some q4))) w7 (.agg gR4_3) w7 ∧ K (.tuple #[.agg gR4_3,.int .i64 n36b]) w7))
set_option maxRecDepth 100000 in
theorem C_vol_Vol_Inode (p0 : Option Addr) (n1 : Int) (w0 : World) (K : Value → World → Prop) (h : D_vol_Vol_Inode p0 n1 w0 K) : Cal Tryz.prog F_vol_Vol_Inode #[.pointer p0,.int .i64 n1] w0 K :=
 denF_sound (A := { S := [],ty := [],raw := [] }) mixed Tryz.func20 (by kernel_rfl) (by kernel_rfl) ((show denF Tryz.prog _ Tryz.f20 _ w0 K = D_vol_Vol_Inode p0 n1 w0 K by kernel_rfl).mpr h)
set_option maxRecDepth 100000 in
def D_vol_Vol_Head (p0 : Option Addr) (n1 : Int) (w0 : World) (K : Value → World → Prop) : Prop :=
 ∃ q4 : Addr,∃ w1 : World,Ru (Instr.alloc 63 true (.tuple #[])) w0 (.pointer (some q4)) w1 ∧ Cal Tryz.prog F_vol_Vol_head #[.pointer p0,.int .i64 n1] w1 fun r12 w2 => ∃ n12a : Int,∃ n12b : Int,r12 = .tuple #[.int .i64 n12a,.int .i64 n12b] ∧ (bif n12b != 0 then
 ∃ g17 : Array Value,Al (Instr.build 63 #[]) (.agg g17) ∧ ∃ w3 : World,RuU (Instr.storeAt 63 (.pointer (some q4)) (.agg g17)) w2 w3 ∧ ∃ gR4 : Array Value,Ru (Instr.loadAt 63 (.pointer (some q4))) w3 (.agg gR4) w3 ∧ K (.tuple #[.agg gR4,.int .i64 n12b]) w3
 else
 ∃ q21 : Addr,(.pointer p0 : Value) = .pointer (some q21) ∧ ∃ p23 : Option Addr,Ru (Instr.loadAt 71 (.pointer (some (Addr.add q21 4)))) w2 (.pointer p23) w2 ∧ Cal Tryz.prog F_patch_Store_Read #[.pointer p23,.int .i64 n12a] w2 fun r25 w4 => ∃ (a25a : Option Addr) (l25a c25a : Nat),∃ n25b : Int,r25 = .tuple #[.slice a25a l25a c25a,.int .i64 n25b] ∧ (bif n25b != 0 then
 ∃ g30 : Array Value,Al (Instr.build 63 #[]) (.agg g30) ∧ ∃ w5 : World,RuU (Instr.storeAt 63 (.pointer (some q4)) (.agg g30)) w4 w5 ∧ ∃ gR4_2 : Array Value,Ru (Instr.loadAt 63 (.pointer (some q4))) w5 (.agg gR4_2) w5 ∧ K (.tuple #[.agg gR4_2,.int .i64 n25b]) w5
 else
 ∃ q33 : Addr,(.pointer p0 : Value) = .pointer (some q33) ∧ ∃ g36 : Array Value,Ru (Instr.loadAt 23 (.pointer (some (Addr.add (Addr.add q33 0) 1)))) w4 (.agg g36) w4 ∧ Cal Tryz.prog F_group_Get #[.agg g36,.slice a25a l25a c25a] w4 fun r38 w6 => ∃ g38a : Array Value,∃ n38b : Int,r38 = .tuple #[.agg g38a,.int .i64 n38b] ∧ ∃ w7 : World,RuU (Instr.storeAt 63 (.pointer (some q4)) (.agg g38a)) w6 w7 ∧ ∃ gR4_3 : Array Value,Ru (Instr.loadAt 63 (.pointer (some q4))) w7 (.agg gR4_3) w7 ∧ K (.tuple #[.agg gR4_3,.int .i64 n38b]) w7))
set_option maxRecDepth 100000 in
theorem C_vol_Vol_Head (p0 : Option Addr) (n1 : Int) (w0 : World) (K : Value → World → Prop) (h : D_vol_Vol_Head p0 n1 w0 K) : Cal Tryz.prog F_vol_Vol_Head #[.pointer p0,.int .i64 n1] w0 K :=
 denF_sound (A := { S := [],ty := [],raw := [] }) mixed Tryz.func22 (by kernel_rfl) (by kernel_rfl) ((show denF Tryz.prog _ Tryz.f22 _ w0 K = D_vol_Vol_Head p0 n1 w0 K by kernel_rfl).mpr h)
set_option maxRecDepth 100000 in
def D_vol_Vol_NewId (p0 : Option Addr) (w0 : World) (K : Value → World → Prop) : Prop :=
 (bif Option.isNone p0 then
 K (.tuple #[.int .i64 0,.int .i64 2]) w0
 else
 ∃ q9 : Addr,(.pointer p0 : Value) = .pointer (some q9) ∧ ∃ n11 : Int,Ru (Instr.loadAt 2 (.pointer (some (Addr.add q9 6)))) w0 (.int .i64 n11) w0 ∧ (bif decide (n11 > 4611686018427387904) then
 K (.tuple #[.int .i64 0,.int .i64 5]) w0
 else
 ∃ q14 : Addr,(.pointer p0 : Value) = .pointer (some q14) ∧ ∃ n16 : Int,Ru (Instr.loadAt 2 (.pointer (some (Addr.add q14 6)))) w0 (.int .i64 n16) w0 ∧ ∃ q18 : Addr,(.pointer p0 : Value) = .pointer (some q18) ∧ ∃ w1 : World,RuU (Instr.storeAt 2 (.pointer (some (Addr.add q18 6))) (.int .i64 (IntKind.i64.wrap (n16 + 1)))) w0 w1 ∧ ∃ q21 : Addr,(.pointer p0 : Value) = .pointer (some q21) ∧ ∃ n23 : Int,Ru (Instr.loadAt 2 (.pointer (some (Addr.add q21 6)))) w1 (.int .i64 n23) w1 ∧ K (.tuple #[.int .i64 (IntKind.i64.wrap (n23 - 1)),.int .i64 0]) w1))
set_option maxRecDepth 100000 in
theorem C_vol_Vol_NewId (p0 : Option Addr) (w0 : World) (K : Value → World → Prop) (h : D_vol_Vol_NewId p0 w0 K) : Cal Tryz.prog F_vol_Vol_NewId #[.pointer p0] w0 K :=
 denF_sound (A := { S := [],ty := [],raw := [] }) mixed Tryz.func26 (by kernel_rfl) (by kernel_rfl) ((show denF Tryz.prog _ Tryz.f26 _ w0 K = D_vol_Vol_NewId p0 w0 K by kernel_rfl).mpr h)
set_option maxRecDepth 100000 in
def D_leveeref03_Right (g0 : Array Value) (w0 : World) (K : Value → World → Prop) : Prop :=
 ∃ q1 : Addr,∃ w1 : World,Ru (Instr.box 23 (.agg g0)) w0 (.pointer (some q1)) w1 ∧ Share (fun k => ∃ n4 : Int,Ru (Instr.loadAt 3 (.pointer (some (Addr.add q1 0)))) w1 (.int .i64 n4) w1 ∧ (bif decide (n4 < 16) then k [.bool true] w1 else ∃ n8 : Int,Ru (Instr.loadAt 3 (.pointer (some (Addr.add q1 0)))) w1 (.int .i64 n8) w1 ∧ (bif decide (n8 > 128) then k [.bool true] w1 else ∃ n13 : Int,Ru (Instr.loadAt 3 (.pointer (some (Addr.add q1 1)))) w1 (.int .i64 n13) w1 ∧ (bif decide (n13 < 4) then k [.bool true] w1 else ∃ n18 : Int,Ru (Instr.loadAt 3 (.pointer (some (Addr.add q1 1)))) w1 (.int .i64 n18) w1 ∧ (bif decide (n18 > 64) then k [.bool true] w1 else ∃ n23 : Int,Ru (Instr.loadAt 3 (.pointer (some (Addr.add q1 1)))) w1 (.int .i64 n23) w1 ∧ (bif (Int.tmod n23 4) != 0 then k [.bool true] w1 else ∃ n29 : Int,Ru (Instr.loadAt 3 (.pointer (some (Addr.add q1 2)))) w1 (.int .i64 n29) w1 ∧ (bif decide (n29 < 1) then k [.bool true] w1 else ∃ n34 : Int,Ru (Instr.loadAt 3 (.pointer (some (Addr.add q1 2)))) w1 (.int .i64 n34) w1 ∧ k [.bool (decide (n34 > 16))] w1))))))) fun x w2 =>
 ∃ b36 : Bool,nth x 0 = .bool b36 ∧ (bif b36 then
 K (.bool false) w2
 else
 Share (fun k_2 => ∃ n38 : Int,Ru (Instr.loadAt 3 (.pointer (some (Addr.add q1 0)))) w2 (.int .i64 n38) w2 ∧ ∃ n41 : Int,Ru (Instr.loadAt 3 (.pointer (some (Addr.add q1 1)))) w2 (.int .i64 n41) w2 ∧ (bif decide ((IntKind.i64.wrap ((IntKind.i64.wrap (n38 - 1)) - (IntKind.i64.wrap (Int.tdiv n41 4)))) ≥ 4) then ∃ n47 : Int,Ru (Instr.loadAt 3 (.pointer (some (Addr.add q1 2)))) w2 (.int .i64 n47) w2 ∧ ∃ n49 : Int,Ru (Instr.loadAt 3 (.pointer (some (Addr.add q1 0)))) w2 (.int .i64 n49) w2 ∧ k_2 [.bool (decide ((IntKind.i64.wrap (2 + (IntKind.i64.wrap (n47 * n49)))) ≤ 4096))] w2 else k_2 [.bool false] w2)) fun x_2 w3 =>
 ∃ b2 : Bool,nth x_2 0 = .bool b2 ∧ K (.bool b2) w3)
set_option maxRecDepth 100000 in
theorem C_leveeref03_Right (g0 : Array Value) (w0 : World) (K : Value → World → Prop) (h : D_leveeref03_Right g0 w0 K) : Cal Tryz.prog F_leveeref03_Right #[.agg g0] w0 K :=
 denF_sound (A := { S := [2,36],ty := [(2,4),(36,4)],raw := [] }) mixed Tryz.func31 (by kernel_rfl) (by kernel_rfl) ((show denF Tryz.prog _ Tryz.f31 _ w0 K = D_leveeref03_Right g0 w0 K by kernel_rfl).mpr h)
set_option maxRecDepth 100000 in
def D_leveeref02_none (w0 : World) (K : Value → World → Prop) : Prop :=
 ∃ (a1 : Option Addr) (l1 c1 : Nat),∃ w1 : World,Ru (Instr.makeSlice 24 (.int .i64 256) (.int .i64 256)) w0 (.slice a1 l1 c1) w1 ∧ ∃ s2 : ByteArray,Ru (convert 24 9 (.slice a1 l1 c1)) w1 (.string s2) w1 ∧ K (.string s2) w1
set_option maxRecDepth 100000 in
theorem C_leveeref02_none (w0 : World) (K : Value → World → Prop) (h : D_leveeref02_none  w0 K) : Cal Tryz.prog F_leveeref02_none #[] w0 K :=
 denF_sound (A := { S := [],ty := [],raw := [] }) mixed Tryz.func32 (by kernel_rfl) (by kernel_rfl) ((show denF Tryz.prog _ Tryz.f32 _ w0 K = D_leveeref02_none  w0 K by kernel_rfl).mpr h)
set_option maxRecDepth 100000 in
def D_geo_Right (g0 : Array Value) (w0 : World) (K : Value → World → Prop) : Prop :=
 ∃ q1 : Addr,∃ w1 : World,Ru (Instr.box 23 (.agg g0)) w0 (.pointer (some q1)) w1 ∧ ∃ g4 : Array Value,Ru (Instr.loadAt 23 (.pointer (some q1))) w1 (.agg g4) w1 ∧ Cal Tryz.prog F_geo_whole #[.agg g4] w1 fun r5 w2 => ∃ g5 : Array Value,r5 = .agg g5 ∧ ∃ q3 : Addr,∃ w3 : World,Ru (Instr.alloc 23 true (.tuple #[])) w2 (.pointer (some q3)) w3 ∧ ∃ w4 : World,RuU (Instr.storeAt 23 (.pointer (some q3)) (.agg g5)) w3 w4 ∧ Share (fun k => ∃ g6 : Array Value,Ru (Instr.loadAt 23 (.pointer (some q3))) w4 (.agg g6) w4 ∧ ∃ g7 : Array Value,Ru (Instr.loadAt 23 (.pointer (some q1))) w4 (.agg g7) w4 ∧ ∃ b8 : Bool,Al (eqS .eql 23 (.tmp 6) (.tmp 7) (.agg g6) (.agg g7)) (.bool b8) ∧ (bif b8 then ∃ n11 : Int,Ru (Instr.loadAt 3 (.pointer (some (Addr.add q3 2)))) w4 (.int .i64 n11) w4 ∧ k [.bool (decide (n11 > 0))] w4 else k [.bool false] w4)) fun x w5 =>
 ∃ b2 : Bool,nth x 0 = .bool b2 ∧ K (.bool b2) w5
set_option maxRecDepth 100000 in
theorem C_geo_Right (g0 : Array Value) (w0 : World) (K : Value → World → Prop) (h : D_geo_Right g0 w0 K) : Cal Tryz.prog F_geo_Right #[.agg g0] w0 K :=
 denF_sound (A := { S := [2],ty := [(2,4)],raw := [] }) mixed Tryz.func33 (by kernel_rfl) (by kernel_rfl) ((show denF Tryz.prog _ Tryz.f33 _ w0 K = D_geo_Right g0 w0 K by kernel_rfl).mpr h)
set_option maxRecDepth 100000 in
def D_disk_Disk_Len (p0 : Option Addr) (w0 : World) (K : Value → World → Prop) : Prop :=
 (bif Option.isNone p0 then
 K (.int .i64 0) w0
 else
 ∃ q6 : Addr,(.pointer p0 : Value) = .pointer (some q6) ∧ ∃ (a8 : Option Addr) (l8 c8 : Nat),Ru (Instr.loadAt 78 (.pointer (some (Addr.add q6 0)))) w0 (.slice a8 l8 c8) w0 ∧ K (.int .i64 ((l8 : Int))) w0)
set_option maxRecDepth 100000 in
theorem C_disk_Disk_Len (p0 : Option Addr) (w0 : World) (K : Value → World → Prop) (h : D_disk_Disk_Len p0 w0 K) : Cal Tryz.prog F_disk_Disk_Len #[.pointer p0] w0 K :=
 denF_sound (A := { S := [],ty := [],raw := [] }) mixed Tryz.func34 (by kernel_rfl) (by kernel_rfl) ((show denF Tryz.prog _ Tryz.f34 _ w0 K = D_disk_Disk_Len p0 w0 K by kernel_rfl).mpr h)
set_option maxRecDepth 100000 in
def D_geo_Size (g0 : Array Value) (w0 : World) (K : Value → World → Prop) : Prop :=
 ∃ q1 : Addr,∃ w1 : World,Ru (Instr.box 23 (.agg g0)) w0 (.pointer (some q1)) w1 ∧ ∃ g3 : Array Value,Ru (Instr.loadAt 23 (.pointer (some q1))) w1 (.agg g3) w1 ∧ Cal Tryz.prog F_geo_Right #[.agg g3] w1 fun r4 w2 => ∃ b4 : Bool,r4 = .bool b4 ∧ (bif !b4 then
 K (.int .i64 0) w2
 else
 ∃ n7 : Int,Ru (Instr.loadAt 3 (.pointer (some (Addr.add q1 2)))) w2 (.int .i64 n7) w2 ∧ ∃ n9 : Int,Ru (Instr.loadAt 3 (.pointer (some (Addr.add q1 0)))) w2 (.int .i64 n9) w2 ∧ K (.int .i64 (IntKind.i64.wrap (2 + (IntKind.i64.wrap (n7 * n9))))) w2)
set_option maxRecDepth 100000 in
theorem C_geo_Size (g0 : Array Value) (w0 : World) (K : Value → World → Prop) (h : D_geo_Size g0 w0 K) : Cal Tryz.prog F_geo_Size #[.agg g0] w0 K :=
 denF_sound (A := { S := [],ty := [],raw := [] }) mixed Tryz.func35 (by kernel_rfl) (by kernel_rfl) ((show denF Tryz.prog _ Tryz.f35 _ w0 K = D_geo_Size g0 w0 K by kernel_rfl).mpr h)
set_option maxRecDepth 100000 in
def D_disk_Disk_Flush (p0 : Option Addr) (w0 : World) (K : Value → World → Prop) : Prop :=
 (bif Option.isNone p0 then
 K (.int .i64 2) w0
 else
 Cal Tryz.prog F_disk_Disk_goes #[.pointer p0] w0 fun r10 w1 => ∃ b10 : Bool,r10 = .bool b10 ∧ (bif !b10 then
 K (.int .i64 0) w1
 else
 Cal Tryz.prog F_disk_Disk_Open #[.pointer p0] w1 fun r13 w2 => ∃ (a13 : Option Addr) (l13 c13 : Nat),r13 = .slice a13 l13 c13 ∧ LoopC (fun k x w3 =>
 ∃ n15 : Int,nth x 0 = .int .i64 n15 ∧ (bif decide (n15 < (l13 : Int)) then
 ∃ q17 : Addr,Al (Instr.indexAt 103 (.slice a13 l13 c13) (.int .i64 n15)) (.pointer (some q17)) ∧ ∃ n18 : Int,Ru (Instr.loadAt 3 (.pointer (some q17))) w3 (.int .i64 n18) w3 ∧ ∃ q20 : Addr,(.pointer p0 : Value) = .pointer (some q20) ∧ ∃ (a22 : Option Addr) (l22 c22 : Nat),Ru (Instr.loadAt 78 (.pointer (some (Addr.add q20 0)))) (drew w3) (.slice a22 l22 c22) (drew w3) ∧ Cal Tryz.prog F_disk_Disk_last #[.pointer p0,.int .i64 n18] (drew w3) fun r26 w4 => ∃ g26 : Array Value,r26 = .agg g26 ∧ Ru (Instr.loadAt 78 (.pointer (some (Addr.add q20 0)))) w4 (.slice a22 l22 c22) w4 ∧ ∃ q27 : Addr,Al (Instr.indexAt 78 (.slice a22 l22 c22) (.int .i64 n18)) (.pointer (some q27)) ∧ ∃ w5 : World,RuU (Instr.storeAt 107 (.pointer (some q27)) (.agg g26)) w4 w5 ∧ k [.int .i64 (IntKind.i64.wrap (n15 + 1))] w5
 else
 ∃ q30 : Addr,(.pointer p0 : Value) = .pointer (some q30) ∧ ∃ m32 : Option Nat,Ru (Instr.loadAt 79 (.pointer (some (Addr.add q30 1)))) w3 (.map m32) w3 ∧ ∃ w6 : World,Ru (Builtin.clear_ #[79] 0 #[.map m32]) w3 (.tuple #[]) w6 ∧ K (.int .i64 0) w6)) [.int .i64 0] w2))
set_option maxRecDepth 100000 in
theorem C_disk_Disk_Flush (p0 : Option Addr) (w0 : World) (K : Value → World → Prop) (h : D_disk_Disk_Flush p0 w0 K) : Cal Tryz.prog F_disk_Disk_Flush #[.pointer p0] w0 K :=
 denF_sound (A := { S := [15],ty := [(15,3)],raw := [] }) mixed Tryz.func36 (by kernel_rfl) (by kernel_rfl) ((show denF Tryz.prog _ Tryz.f36 _ w0 K = D_disk_Disk_Flush p0 w0 K by kernel_rfl).mpr h)
set_option maxRecDepth 100000 in
def D_vol_each (g0 : Array Value) (n1 : Int) (v2 : Value) (w0 : World) (K : Value → World → Prop) : Prop :=
 ∃ q3 : Addr,∃ w1 : World,Ru (Instr.box 23 (.agg g0)) w0 (.pointer (some q3)) w1 ∧ LoopC (fun k x w2 =>
 ∃ n7 : Int,nth x 0 = .int .i64 n7 ∧ ∃ n19 : Int,Ru (Instr.loadAt 3 (.pointer (some (Addr.add q3 2)))) w2 (.int .i64 n19) w2 ∧ (bif decide (n7 < n19) then
 ∃ g24 : Array Value,Ru (Instr.loadAt 23 (.pointer (some q3))) w2 (.agg g24) w2 ∧ Cal Tryz.prog F_group_Fresh #[.agg g24,.int .i64 n7] w2 fun r26 w3 => ∃ g26a : Array Value,∃ n26b : Int,r26 = .tuple #[.agg g26a,.int .i64 n26b] ∧ ∃ q8 : Addr,∃ w4 : World,Ru (Instr.alloc 63 true (.tuple #[])) w3 (.pointer (some q8)) w4 ∧ ∃ w5 : World,RuU (Instr.storeAt 63 (.pointer (some q8)) (.agg g26a)) w4 w5 ∧ ∃ g30 : Array Value,Ru (Instr.loadAt 23 (.pointer (some q3))) w5 (.agg g30) w5 ∧ ∃ g31 : Array Value,Ru (Instr.loadAt 63 (.pointer (some q8))) w5 (.agg g31) w5 ∧ Cal Tryz.prog F_group_Put #[.agg g30,.agg g31] w5 fun r32 w6 => ∃ (a32a : Option Addr) (l32a c32a : Nat),∃ n32b : Int,r32 = .tuple #[.slice a32a l32a c32a,.int .i64 n32b] ∧ ∃ g36 : Array Value,Ru (Instr.loadAt 23 (.pointer (some q3))) w6 (.agg g36) w6 ∧ Cal Tryz.prog F_geo_Head #[.agg g36,.int .i64 n7] w6 fun r38 w7 => ∃ n38a : Int,∃ n38b : Int,r38 = .tuple #[.int .i64 n38a,.int .i64 n38b] ∧ ∃ g41 : Array Value,Ru (Instr.loadAt 23 (.pointer (some q3))) w7 (.agg g41) w7 ∧ Cal Tryz.prog F_geo_Tables #[.agg g41] w7 fun r42 w8 => ∃ n42 : Int,r42 = .int .i64 n42 ∧ LoopC (fun k_2 x_2 w9 =>
 ∃ n44 : Int,nth x_2 1 = .int .i64 n44 ∧ (bif decide (n44 < (IntKind.i64.wrap (1 + n42))) then
 Share (fun k_3 => (bif decide (n44 > 0) then
 ∃ (a49 : Option Addr) (l49 c49 : Nat),∃ w10 : World,Ru (Instr.makeSlice 24 (.int .i64 256) (.int .i64 256)) w9 (.slice a49 l49 c49) w10 ∧ k_3 [.slice a49 l49 c49] w10
 else
 k_3 [nth x_2 0] w9)) fun x_3 w11 =>
 Share (fun k_4 => (bif n7 == 0 then k_4 [.bool (n44 == 1)] w11 else k_4 [.bool false] w11)) fun x_4 w12 =>
 ∃ b55 : Bool,nth x_4 0 = .bool b55 ∧ Share (fun k_5 => (bif b55 then
 ∃ (a10 : Option Addr) (l10 c10 : Nat),nth x_3 0 = .slice a10 l10 c10 ∧ ∃ g58 : Array Value,Al (Instr.build 55 #[(0,.int .i64 2),(1,.int .i64 1),(3,.int .i64 1)]) (.agg g58) ∧ Cal Tryz.prog F_inode_Lay #[.slice a10 l10 c10,.int .i64 1,.agg g58] w12 fun r59 w13 => ∃ (a59a : Option Addr) (l59a c59a : Nat),∃ n59b : Int,r59 = .tuple #[.slice a59a l59a c59a,.int .i64 n59b] ∧ k_5 [.slice a59a l59a c59a] w13
 else
 k_5 [nth x_3 0] w12)) fun x_5 w14 =>
 ∃ (a10_2 : Option Addr) (l10_2 c10_2 : Nat),nth x_5 0 = .slice a10_2 l10_2 c10_2 ∧ Dyn Tryz.prog v2 #[.int .i64 (IntKind.i64.wrap (n38a + n44)),.slice a10_2 l10_2 c10_2] w14 fun r67 w15 => ∃ n67 : Int,r67 = .int .i64 n67 ∧ (bif n67 != 0 then
 K (.int .i64 n67) w15
 else
 k_2 [.slice a10_2 l10_2 c10_2,.int .i64 (IntKind.i64.wrap (n44 + 1)),.bool b55] w15)
 else
 k [.int .i64 (IntKind.i64.wrap (n7 + 1)),nth x_2 0,.int .i64 n44,nth x_2 2] w9)) [.slice a32a l32a c32a,.int .i64 0,nth x 3] w8
 else
 K (.int .i64 0) w2)) [.int .i64 n1,undef,undef,undef] w1
set_option maxRecDepth 100000 in
theorem C_vol_each (g0 : Array Value) (n1 : Int) (v2 : Value) (w0 : World) (K : Value → World → Prop) (h : D_vol_each g0 n1 v2 w0 K) : Cal Tryz.prog F_vol_each #[.agg g0,.int .i64 n1,v2] w0 K :=
 denF_sound (A := { S := [7,10,44,55],ty := [(7,3),(10,24),(44,3),(55,4)],raw := [] }) mixed Tryz.func37 (by kernel_rfl) (by kernel_rfl) ((show denF Tryz.prog _ Tryz.f37 _ w0 K = D_vol_each g0 n1 v2 w0 K by kernel_rfl).mpr h)
set_option maxRecDepth 100000 in
def D_super_Put (g0 : Array Value) (w0 : World) (K : Value → World → Prop) : Prop :=
 ∃ q1 : Addr,∃ w1 : World,Ru (Instr.box 94 (.agg g0)) w0 (.pointer (some q1)) w1 ∧ ∃ g5 : Array Value,Ru (Instr.loadAt 94 (.pointer (some q1))) w1 (.agg g5) w1 ∧ Cal Tryz.prog F_super_Super_right #[.agg g5] w1 fun r6 w2 => ∃ b6 : Bool,r6 = .bool b6 ∧ (bif !b6 then
 K (.tuple #[.slice none 0 0,.int .i64 1]) w2
 else
 ∃ q4 : Addr,∃ w3 : World,Ru (Instr.alloc 106 true (.tuple #[])) w2 (.pointer (some q4)) w3 ∧ ∃ (a8 : Option Addr) (l8 c8 : Nat),Al (Instr.sliceAt 106 (.pointer (some q4)) none none none) (.slice a8 l8 c8) ∧ ∃ n9 : Int,∃ w4 : World,Ru (Builtin.copy_ #[24,9] 3 #[.slice a8 l8 c8,.string (⟨#[76,86,69,69]⟩)]) w3 (.int .i64 n9) w4 ∧ ∃ (a10 : Option Addr) (l10 c10 : Nat),Al (Instr.sliceAt 106 (.pointer (some q4)) (some (.int .i64 4)) (some (.int .i64 12)) none) (.slice a10 l10 c10) ∧ ∃ n12 : Int,Ru (Instr.loadAt 2 (.pointer (some (Addr.add q1 0)))) (drew w4) (.int .i64 n12) (drew w4) ∧ Cal Tryz.prog F_num_Put #[.slice a10 l10 c10,.int .u64 (IntKind.u64.wrap n12)] (drew w4) fun r14 w5 => r14 = .tuple #[] ∧ ∃ (a15 : Option Addr) (l15 c15 : Nat),Al (Instr.sliceAt 106 (.pointer (some q4)) (some (.int .i64 12)) (some (.int .i64 14)) none) (.slice a15 l15 c15) ∧ ∃ n18 : Int,Ru (Instr.loadAt 3 (.pointer (some (Addr.add (Addr.add q1 1) 0)))) (drew w5) (.int .i64 n18) (drew w5) ∧ Cal Tryz.prog F_num_Put #[.slice a15 l15 c15,.int .u64 (IntKind.u64.wrap n18)] (drew w5) fun r20 w6 => r20 = .tuple #[] ∧ ∃ (a21 : Option Addr) (l21 c21 : Nat),Al (Instr.sliceAt 106 (.pointer (some q4)) (some (.int .i64 14)) (some (.int .i64 16)) none) (.slice a21 l21 c21) ∧ ∃ n24 : Int,Ru (Instr.loadAt 3 (.pointer (some (Addr.add (Addr.add q1 1) 1)))) (drew w6) (.int .i64 n24) (drew w6) ∧ Cal Tryz.prog F_num_Put #[.slice a21 l21 c21,.int .u64 (IntKind.u64.wrap n24)] (drew w6) fun r26 w7 => r26 = .tuple #[] ∧ ∃ (a27 : Option Addr) (l27 c27 : Nat),Al (Instr.sliceAt 106 (.pointer (some q4)) (some (.int .i64 16)) (some (.int .i64 18)) none) (.slice a27 l27 c27) ∧ ∃ n30 : Int,Ru (Instr.loadAt 3 (.pointer (some (Addr.add (Addr.add q1 1) 2)))) (drew w7) (.int .i64 n30) (drew w7) ∧ Cal Tryz.prog F_num_Put #[.slice a27 l27 c27,.int .u64 (IntKind.u64.wrap n30)] (drew w7) fun r32 w8 => r32 = .tuple #[] ∧ ∃ (a33 : Option Addr) (l33 c33 : Nat),Al (Instr.sliceAt 106 (.pointer (some q4)) (some (.int .i64 252)) none none) (.slice a33 l33 c33) ∧ ∃ (a34 : Option Addr) (l34 c34 : Nat),Al (Instr.sliceAt 106 (.pointer (some q4)) none (some (.int .i64 252)) none) (.slice a34 l34 c34) ∧ Cal Tryz.prog F_num_Sum #[.slice a34 l34 c34] (drew w8) fun r35 w9 => ∃ n35 : Int,r35 = .int .u32 n35 ∧ Cal Tryz.prog F_num_Put #[.slice a33 l33 c33,.int .u64 (IntKind.u64.wrap n35)] w9 fun r37 w10 => r37 = .tuple #[] ∧ ∃ (a38 : Option Addr) (l38 c38 : Nat),Al (Instr.sliceAt 106 (.pointer (some q4)) none none none) (.slice a38 l38 c38) ∧ K (.tuple #[.slice a38 l38 c38,.int .i64 0]) w10)
set_option maxRecDepth 100000 in
theorem C_super_Put (g0 : Array Value) (w0 : World) (K : Value → World → Prop) (h : D_super_Put g0 w0 K) : Cal Tryz.prog F_super_Put #[.agg g0] w0 K :=
 denF_sound (A := { S := [],ty := [],raw := [] }) mixed Tryz.func38 (by kernel_rfl) (by kernel_rfl) ((show denF Tryz.prog _ Tryz.f38 _ w0 K = D_super_Put g0 w0 K by kernel_rfl).mpr h)
set_option maxRecDepth 100000 in
def D_leveeref02_Disk_Flush (p0 : Option Addr) (w0 : World) (K : Value → World → Prop) : Prop :=
 Cal Tryz.prog F_leveeref02_Disk_goes #[.pointer p0] w0 fun r6 w1 => ∃ b6 : Bool,r6 = .bool b6 ∧ (bif !b6 then
 K (.int .i64 0) w1
 else
 LoopC (fun k x w2 =>
 ∃ n3 : Int,nth x 0 = .int .i64 n3 ∧ ∃ q10 : Addr,(.pointer p0 : Value) = .pointer (some q10) ∧ ∃ (a12 : Option Addr) (l12 c12 : Nat),Ru (Instr.loadAt 82 (.pointer (some (Addr.add q10 0)))) w2 (.slice a12 l12 c12) w2 ∧ (bif decide (n3 < (l12 : Int)) then
 ∃ q18 : Addr,(.pointer p0 : Value) = .pointer (some q18) ∧ ∃ (a20 : Option Addr) (l20 c20 : Nat),Ru (Instr.loadAt 82 (.pointer (some (Addr.add q18 0)))) w2 (.slice a20 l20 c20) w2 ∧ ∃ q22 : Addr,Al (Instr.indexAt 82 (.slice a20 l20 c20) (.int .i64 n3)) (.pointer (some q22)) ∧ ∃ (a24 : Option Addr) (l24 c24 : Nat),Ru (Instr.loadAt 86 (.pointer (some (Addr.add q22 0)))) w2 (.slice a24 l24 c24) w2 ∧ ∃ q26 : Addr,(.pointer p0 : Value) = .pointer (some q26) ∧ ∃ (a28 : Option Addr) (l28 c28 : Nat),Ru (Instr.loadAt 82 (.pointer (some (Addr.add q26 0)))) (drew w2) (.slice a28 l28 c28) (drew w2) ∧ ∃ q34 : Addr,Al (Instr.indexAt 86 (.slice a24 l24 c24) (.int .i64 (IntKind.i64.wrap ((l24 : Int) - 1)))) (.pointer (some q34)) ∧ ∃ s35 : ByteArray,Ru (Instr.loadAt 9 (.pointer (some q34))) (drew w2) (.string s35) (drew w2) ∧ ∃ (a36 : Option Addr) (l36 c36 : Nat),∃ w3 : World,Ru (Instr.buildSlice 86 1 #[(0,.string s35)]) (drew w2) (.slice a36 l36 c36) w3 ∧ Ru (Instr.loadAt 82 (.pointer (some (Addr.add q26 0)))) w3 (.slice a28 l28 c28) w3 ∧ ∃ q37 : Addr,Al (Instr.indexAt 82 (.slice a28 l28 c28) (.int .i64 n3)) (.pointer (some q37)) ∧ ∃ w4 : World,RuU (Instr.storeAt 86 (.pointer (some (Addr.add q37 0))) (.slice a36 l36 c36)) w3 w4 ∧ k [.int .i64 (IntKind.i64.wrap (n3 + 1))] w4
 else
 K (.int .i64 0) w2)) [.int .i64 0] w1)
set_option maxRecDepth 100000 in
theorem C_leveeref02_Disk_Flush (p0 : Option Addr) (w0 : World) (K : Value → World → Prop) (h : D_leveeref02_Disk_Flush p0 w0 K) : Cal Tryz.prog F_leveeref02_Disk_Flush #[.pointer p0] w0 K :=
 denF_sound (A := { S := [3],ty := [(3,3)],raw := [] }) mixed Tryz.func39 (by kernel_rfl) (by kernel_rfl) ((show denF Tryz.prog _ Tryz.f39 _ w0 K = D_leveeref02_Disk_Flush p0 w0 K by kernel_rfl).mpr h)
set_option maxRecDepth 100000 in
def D_leveeref13_groups (g0 : Array Value) (n1 : Int) (w0 : World) (K : Value → World → Prop) : Prop :=
 ∃ q2 : Addr,∃ w1 : World,Ru (Instr.box 23 (.agg g0)) w0 (.pointer (some q2)) w1 ∧ LoopC (fun k x w2 =>
 ∃ n6 : Int,nth x 1 = .int .i64 n6 ∧ ∃ n18 : Int,Ru (Instr.loadAt 3 (.pointer (some (Addr.add q2 2)))) w2 (.int .i64 n18) w2 ∧ (bif decide (n6 < n18) then
 ∃ g23 : Array Value,Ru (Instr.loadAt 23 (.pointer (some q2))) w2 (.agg g23) w2 ∧ Cal Tryz.prog F_leveeref06_Fresh #[.agg g23,.int .i64 n6] w2 fun r25 w3 => ∃ g25a : Array Value,∃ n25b : Int,r25 = .tuple #[.agg g25a,.int .i64 n25b] ∧ ∃ q7 : Addr,∃ w4 : World,Ru (Instr.alloc 122 true (.tuple #[])) w3 (.pointer (some q7)) w4 ∧ ∃ w5 : World,RuU (Instr.storeAt 122 (.pointer (some q7)) (.agg g25a)) w4 w5 ∧ ∃ g29 : Array Value,Ru (Instr.loadAt 23 (.pointer (some q2))) w5 (.agg g29) w5 ∧ ∃ g30 : Array Value,Ru (Instr.loadAt 122 (.pointer (some q7))) w5 (.agg g30) w5 ∧ Cal Tryz.prog F_leveeref06_Put #[.agg g29,.agg g30] w5 fun r31 w6 => ∃ (a31a : Option Addr) (l31a c31a : Nat),∃ n31b : Int,r31 = .tuple #[.slice a31a l31a c31a,.int .i64 n31b] ∧ ∃ g35 : Array Value,Ru (Instr.loadAt 23 (.pointer (some q2))) w6 (.agg g35) w6 ∧ Cal Tryz.prog F_leveeref03_Head #[.agg g35,.int .i64 n6] w6 fun r37 w7 => ∃ n37a : Int,∃ n37b : Int,r37 = .tuple #[.int .i64 n37a,.int .i64 n37b] ∧ ∃ (a5 : Option Addr) (l5 c5 : Nat),nth x 0 = .slice a5 l5 c5 ∧ ∃ g43 : Array Value,Al (Instr.build 98 #[(0,.int .i64 n37a),(1,.slice a31a l31a c31a)]) (.agg g43) ∧ ∃ (a44 : Option Addr) (l44 c44 : Nat),∃ w8 : World,Ru (Instr.buildSlice 95 1 #[(0,.agg g43)]) w7 (.slice a44 l44 c44) w8 ∧ ∃ (a45 : Option Addr) (l45 c45 : Nat),∃ w9 : World,Ru (Builtin.append_ #[95,95] 95 #[.slice a5 l5 c5,.slice a44 l44 c44]) w8 (.slice a45 l45 c45) w9 ∧ LoopC (fun k_2 x_2 w10 =>
 ∃ n13 : Int,nth x_2 1 = .int .i64 n13 ∧ ∃ g47 : Array Value,Ru (Instr.loadAt 23 (.pointer (some q2))) w10 (.agg g47) w10 ∧ Cal Tryz.prog F_leveeref03_Tables #[.agg g47] w10 fun r48 w11 => ∃ n48 : Int,r48 = .int .i64 n48 ∧ (bif decide (n13 < n48) then
 ∃ (a52 : Option Addr) (l52 c52 : Nat),∃ w12 : World,Ru (Instr.makeSlice 24 (.int .i64 256) (.int .i64 256)) w11 (.slice a52 l52 c52) w12 ∧ Share (fun k_3 => (bif n6 == 0 then k_3 [.bool (n13 == 0)] w12 else k_3 [.bool false] w12)) fun x_3 w13 =>
 ∃ b58 : Bool,nth x_3 0 = .bool b58 ∧ Share (fun k_4 => (bif b58 then
 ∃ g61 : Array Value,Al (Instr.build 55 #[(0,.int .i64 2),(1,.int .i64 1),(3,.int .i64 1)]) (.agg g61) ∧ Cal Tryz.prog F_leveeref07_Lay #[.slice a52 l52 c52,.int .i64 1,.agg g61] w13 fun r62 w14 => ∃ (a62a : Option Addr) (l62a c62a : Nat),∃ n62b : Int,r62 = .tuple #[.slice a62a l62a c62a,.int .i64 n62b] ∧ k_4 [.slice a62a l62a c62a] w14
 else
 k_4 [.slice a52 l52 c52] w13)) fun x_4 w15 =>
 ∃ (a5_2 : Option Addr) (l5_2 c5_2 : Nat),nth x_2 0 = .slice a5_2 l5_2 c5_2 ∧ ∃ (a14 : Option Addr) (l14 c14 : Nat),nth x_4 0 = .slice a14 l14 c14 ∧ ∃ g71 : Array Value,Al (Instr.build 98 #[(0,.int .i64 (IntKind.i64.wrap ((IntKind.i64.wrap (n37a + 1)) + n13))),(1,.slice a14 l14 c14)]) (.agg g71) ∧ ∃ (a72 : Option Addr) (l72 c72 : Nat),∃ w16 : World,Ru (Instr.buildSlice 95 1 #[(0,.agg g71)]) w15 (.slice a72 l72 c72) w16 ∧ ∃ (a73 : Option Addr) (l73 c73 : Nat),∃ w17 : World,Ru (Builtin.append_ #[95,95] 95 #[.slice a5_2 l5_2 c5_2,.slice a72 l72 c72]) w16 (.slice a73 l73 c73) w17 ∧ k_2 [.slice a73 l73 c73,.int .i64 (IntKind.i64.wrap (n13 + 1)),.slice a14 l14 c14,.bool b58] w17
 else
 k [nth x_2 0,.int .i64 (IntKind.i64.wrap (n6 + 1)),.int .i64 n13,nth x_2 2,nth x_2 3] w11)) [.slice a45 l45 c45,.int .i64 0,nth x 3,nth x 4] w9
 else
 ∃ (a5_3 : Option Addr) (l5_3 c5_3 : Nat),nth x 0 = .slice a5_3 l5_3 c5_3 ∧ K (.slice a5_3 l5_3 c5_3) w2)) [.slice none 0 0,.int .i64 n1,undef,undef,undef] w1
set_option maxRecDepth 100000 in
theorem C_leveeref13_groups (g0 : Array Value) (n1 : Int) (w0 : World) (K : Value → World → Prop) (h : D_leveeref13_groups g0 n1 w0 K) : Cal Tryz.prog F_leveeref13_groups #[.agg g0,.int .i64 n1] w0 K :=
 denF_sound (A := { S := [5,6,13,14,58],ty := [(5,95),(6,3),(13,3),(14,24),(58,4)],raw := [] }) mixed Tryz.func40 (by kernel_rfl) (by kernel_rfl) ((show denF Tryz.prog _ Tryz.f40 _ w0 K = D_leveeref13_groups g0 n1 w0 K by kernel_rfl).mpr h)
set_option maxRecDepth 100000 in
def D_leveeref04_Put (g0 : Array Value) (w0 : World) (K : Value → World → Prop) : Prop :=
 ∃ q1 : Addr,∃ w1 : World,Ru (Instr.box 100 (.agg g0)) w0 (.pointer (some q1)) w1 ∧ ∃ g5 : Array Value,Ru (Instr.loadAt 100 (.pointer (some q1))) w1 (.agg g5) w1 ∧ Cal Tryz.prog F_leveeref04_Right #[.agg g5] w1 fun r6 w2 => ∃ b6 : Bool,r6 = .bool b6 ∧ (bif !b6 then
 K (.tuple #[.slice none 0 0,.int .i64 1]) w2
 else
 ∃ (a8 : Option Addr) (l8 c8 : Nat),∃ w3 : World,Ru (Instr.buildSlice 24 4 #[(0,.int .u8 76),(1,.int .u8 86),(2,.int .u8 69),(3,.int .u8 69)]) w2 (.slice a8 l8 c8) w3 ∧ ∃ (a9 : Option Addr) (l9 c9 : Nat),∃ w4 : World,Ru (convert 24 24 (.slice a8 l8 c8)) w3 (.slice a9 l9 c9) w4 ∧ ∃ n12 : Int,Ru (Instr.loadAt 2 (.pointer (some (Addr.add q1 0)))) w4 (.int .i64 n12) w4 ∧ Cal Tryz.prog F_leveeref01_Bytes #[.int .u64 (IntKind.u64.wrap n12),.int .i64 8] w4 fun r14 w5 => ∃ (a14 : Option Addr) (l14 c14 : Nat),r14 = .slice a14 l14 c14 ∧ ∃ (a15 : Option Addr) (l15 c15 : Nat),∃ w6 : World,Ru (Builtin.append_ #[24,24] 24 #[.slice a9 l9 c9,.slice a14 l14 c14]) w5 (.slice a15 l15 c15) w6 ∧ ∃ n19 : Int,Ru (Instr.loadAt 3 (.pointer (some (Addr.add (Addr.add q1 1) 0)))) w6 (.int .i64 n19) w6 ∧ Cal Tryz.prog F_leveeref01_Bytes #[.int .u64 (IntKind.u64.wrap n19),.int .i64 2] w6 fun r21 w7 => ∃ (a21 : Option Addr) (l21 c21 : Nat),r21 = .slice a21 l21 c21 ∧ ∃ (a22 : Option Addr) (l22 c22 : Nat),∃ w8 : World,Ru (Builtin.append_ #[24,24] 24 #[.slice a15 l15 c15,.slice a21 l21 c21]) w7 (.slice a22 l22 c22) w8 ∧ ∃ n26 : Int,Ru (Instr.loadAt 3 (.pointer (some (Addr.add (Addr.add q1 1) 1)))) w8 (.int .i64 n26) w8 ∧ Cal Tryz.prog F_leveeref01_Bytes #[.int .u64 (IntKind.u64.wrap n26),.int .i64 2] w8 fun r28 w9 => ∃ (a28 : Option Addr) (l28 c28 : Nat),r28 = .slice a28 l28 c28 ∧ ∃ (a29 : Option Addr) (l29 c29 : Nat),∃ w10 : World,Ru (Builtin.append_ #[24,24] 24 #[.slice a22 l22 c22,.slice a28 l28 c28]) w9 (.slice a29 l29 c29) w10 ∧ ∃ n33 : Int,Ru (Instr.loadAt 3 (.pointer (some (Addr.add (Addr.add q1 1) 2)))) w10 (.int .i64 n33) w10 ∧ Cal Tryz.prog F_leveeref01_Bytes #[.int .u64 (IntKind.u64.wrap n33),.int .i64 2] w10 fun r35 w11 => ∃ (a35 : Option Addr) (l35 c35 : Nat),r35 = .slice a35 l35 c35 ∧ ∃ (a36 : Option Addr) (l36 c36 : Nat),∃ w12 : World,Ru (Builtin.append_ #[24,24] 24 #[.slice a29 l29 c29,.slice a35 l35 c35]) w11 (.slice a36 l36 c36) w12 ∧ LoopC (fun k x w13 =>
 ∃ (a4 : Option Addr) (l4 c4 : Nat),nth x 0 = .slice a4 l4 c4 ∧ (bif decide ((l4 : Int) < 252) then
 ∃ (a41 : Option Addr) (l41 c41 : Nat),∃ w14 : World,Ru (Instr.buildSlice 24 1 #[(0,.int .u8 0)]) w13 (.slice a41 l41 c41) w14 ∧ ∃ (a42 : Option Addr) (l42 c42 : Nat),∃ w15 : World,Ru (Builtin.append_ #[24,24] 24 #[.slice a4 l4 c4,.slice a41 l41 c41]) w14 (.slice a42 l42 c42) w15 ∧ k [.slice a42 l42 c42] w15
 else
 Cal Tryz.prog F_leveeref01_Sum #[.slice a4 l4 c4] w13 fun r45 w16 => ∃ n45 : Int,r45 = .int .u32 n45 ∧ Cal Tryz.prog F_leveeref01_Bytes #[.int .u64 (IntKind.u64.wrap n45),.int .i64 4] w16 fun r47 w17 => ∃ (a47 : Option Addr) (l47 c47 : Nat),r47 = .slice a47 l47 c47 ∧ ∃ (a48 : Option Addr) (l48 c48 : Nat),∃ w18 : World,Ru (Builtin.append_ #[24,24] 24 #[.slice a4 l4 c4,.slice a47 l47 c47]) w17 (.slice a48 l48 c48) w18 ∧ K (.tuple #[.slice a48 l48 c48,.int .i64 0]) w18)) [.slice a36 l36 c36] w12)
set_option maxRecDepth 100000 in
theorem C_leveeref04_Put (g0 : Array Value) (w0 : World) (K : Value → World → Prop) (h : D_leveeref04_Put g0 w0 K) : Cal Tryz.prog F_leveeref04_Put #[.agg g0] w0 K :=
 denF_sound (A := { S := [4],ty := [(4,24)],raw := [] }) mixed Tryz.func41 (by kernel_rfl) (by kernel_rfl) ((show denF Tryz.prog _ Tryz.f41 _ w0 K = D_leveeref04_Put g0 w0 K by kernel_rfl).mpr h)
set_option maxRecDepth 100000 in
def D_disk_Disk_Bytes (p0 : Option Addr) (w0 : World) (K : Value → World → Prop) : Prop :=
 Cal Tryz.prog F_disk_Disk_Len #[.pointer p0] w0 fun r7 w1 => ∃ n7 : Int,r7 = .int .i64 n7 ∧ LoopC (fun k x w2 =>
 ∃ n8 : Int,nth x 1 = .int .i64 n8 ∧ (bif decide (n8 < n7) then
 Cal Tryz.prog F_disk_Disk_last #[.pointer p0,.int .i64 n8] w2 fun r13 w3 => ∃ g13 : Array Value,r13 = .agg g13 ∧ ∃ q5 : Addr,∃ w4 : World,Ru (Instr.alloc 107 true (.tuple #[])) w3 (.pointer (some q5)) w4 ∧ ∃ w5 : World,RuU (Instr.storeAt 107 (.pointer (some q5)) (.agg g13)) w4 w5 ∧ ∃ (a3 : Option Addr) (l3 c3 : Nat),nth x 0 = .slice a3 l3 c3 ∧ ∃ (a15 : Option Addr) (l15 c15 : Nat),Al (Instr.sliceAt 107 (.pointer (some q5)) none none none) (.slice a15 l15 c15) ∧ ∃ (a16 : Option Addr) (l16 c16 : Nat),∃ w6 : World,Ru (Builtin.append_ #[24,24] 24 #[.slice a3 l3 c3,.slice a15 l15 c15]) w5 (.slice a16 l16 c16) w6 ∧ k [.slice a16 l16 c16,.int .i64 (IntKind.i64.wrap (n8 + 1))] w6
 else
 ∃ (a3_2 : Option Addr) (l3_2 c3_2 : Nat),nth x 0 = .slice a3_2 l3_2 c3_2 ∧ K (.slice a3_2 l3_2 c3_2) w2)) [.slice none 0 0,.int .i64 0] w1
set_option maxRecDepth 100000 in
theorem C_disk_Disk_Bytes (p0 : Option Addr) (w0 : World) (K : Value → World → Prop) (h : D_disk_Disk_Bytes p0 w0 K) : Cal Tryz.prog F_disk_Disk_Bytes #[.pointer p0] w0 K :=
 denF_sound (A := { S := [3,8],ty := [(3,24),(8,3)],raw := [] }) mixed Tryz.func42 (by kernel_rfl) (by kernel_rfl) ((show denF Tryz.prog _ Tryz.f42 _ w0 K = D_disk_Disk_Bytes p0 w0 K by kernel_rfl).mpr h)
set_option maxRecDepth 100000 in
def D_leveeref02_Disk_Bytes (p0 : Option Addr) (w0 : World) (K : Value → World → Prop) : Prop :=
 LoopC (fun k x w1 =>
 ∃ n4 : Int,nth x 1 = .int .i64 n4 ∧ ∃ q9 : Addr,(.pointer p0 : Value) = .pointer (some q9) ∧ ∃ (a11 : Option Addr) (l11 c11 : Nat),Ru (Instr.loadAt 82 (.pointer (some (Addr.add q9 0)))) w1 (.slice a11 l11 c11) w1 ∧ (bif decide (n4 < (l11 : Int)) then
 Cal Tryz.prog F_leveeref02_Disk_Read #[.pointer p0,.int .i64 n4] w1 fun r19 w2 => ∃ (a19a : Option Addr) (l19a c19a : Nat),∃ n19b : Int,r19 = .tuple #[.slice a19a l19a c19a,.int .i64 n19b] ∧ ∃ (a3 : Option Addr) (l3 c3 : Nat),nth x 0 = .slice a3 l3 c3 ∧ ∃ (a24 : Option Addr) (l24 c24 : Nat),∃ w3 : World,Ru (Builtin.append_ #[24,24] 24 #[.slice a3 l3 c3,.slice a19a l19a c19a]) w2 (.slice a24 l24 c24) w3 ∧ k [.slice a24 l24 c24,.int .i64 (IntKind.i64.wrap (n4 + 1))] w3
 else
 ∃ (a3_2 : Option Addr) (l3_2 c3_2 : Nat),nth x 0 = .slice a3_2 l3_2 c3_2 ∧ K (.slice a3_2 l3_2 c3_2) w1)) [.slice none 0 0,.int .i64 0] w0
set_option maxRecDepth 100000 in
theorem C_leveeref02_Disk_Bytes (p0 : Option Addr) (w0 : World) (K : Value → World → Prop) (h : D_leveeref02_Disk_Bytes p0 w0 K) : Cal Tryz.prog F_leveeref02_Disk_Bytes #[.pointer p0] w0 K :=
 denF_sound (A := { S := [3,4],ty := [(3,24),(4,3)],raw := [] }) mixed Tryz.func43 (by kernel_rfl) (by kernel_rfl) ((show denF Tryz.prog _ Tryz.f43 _ w0 K = D_leveeref02_Disk_Bytes p0 w0 K by kernel_rfl).mpr h)
set_option maxRecDepth 100000 in
def D_leveeref01_Ints (a0 : Option Addr) (l0 c0 : Nat) (a1 : Option Addr) (l1 c1 : Nat) (w0 : World) (K : Value → World → Prop) : Prop :=
 (bif (l0 : Int) != (l1 : Int) then
 K (.bool false) w0
 else
 LoopC (fun k x w1 =>
 ∃ n5 : Int,nth x 0 = .int .i64 n5 ∧ (bif decide (n5 < (l0 : Int)) then
 ∃ q19 : Addr,Al (Instr.indexAt 103 (.slice a0 l0 c0) (.int .i64 n5)) (.pointer (some q19)) ∧ ∃ n20 : Int,Ru (Instr.loadAt 3 (.pointer (some q19))) (drew w1) (.int .i64 n20) (drew w1) ∧ ∃ q23 : Addr,Al (Instr.indexAt 103 (.slice a1 l1 c1) (.int .i64 n5)) (.pointer (some q23)) ∧ ∃ n24 : Int,Ru (Instr.loadAt 3 (.pointer (some q23))) (drew w1) (.int .i64 n24) (drew w1) ∧ (bif n20 != n24 then
 K (.bool false) (drew w1)
 else
 k [.int .i64 (IntKind.i64.wrap (n5 + 1))] (drew w1))
 else
 K (.bool true) w1)) [.int .i64 0] w0)
set_option maxRecDepth 100000 in
theorem C_leveeref01_Ints (a0 : Option Addr) (l0 c0 : Nat) (a1 : Option Addr) (l1 c1 : Nat) (w0 : World) (K : Value → World → Prop) (h : D_leveeref01_Ints a0 l0 c0 a1 l1 c1 w0 K) : Cal Tryz.prog F_leveeref01_Ints #[.slice a0 l0 c0,.slice a1 l1 c1] w0 K :=
 denF_sound (A := { S := [5],ty := [(5,3)],raw := [] }) mixed Tryz.func44 (by kernel_rfl) (by kernel_rfl) ((show denF Tryz.prog _ Tryz.f44 _ w0 K = D_leveeref01_Ints a0 l0 c0 a1 l1 c1 w0 K by kernel_rfl).mpr h)
set_option maxRecDepth 100000 in
def D_disk_Disk_Open (p0 : Option Addr) (w0 : World) (K : Value → World → Prop) : Prop :=
 (bif Option.isNone p0 then
 K (.slice none 0 0) w0
 else
 ∃ q8 : Addr,(.pointer p0 : Value) = .pointer (some q8) ∧ ∃ m10 : Option Nat,Ru (Instr.loadAt 79 (.pointer (some (Addr.add q8 1)))) w0 (.map m10) w0 ∧ ∃ q11 : Addr,∃ w1 : World,Ru (Instr.range 79 (.map m10)) w0 (.pointer (some q11)) w1 ∧ LoopC (fun k x w2 =>
 ∃ v12 : Value,∃ w3 : World,Ru (Instr.next (.pointer (some q11)) false 0) w2 v12 w3 ∧ ∃ b13 : Bool,Al (Instr.extract v12 0) (.bool b13) ∧ (bif b13 then
 ∃ v14 : Value,Ru (Instr.entry (.pointer (some q11))) w3 v14 w3 ∧ ∃ n15 : Int,Al (Instr.extract v14 0) (.int .i64 n15) ∧ ∃ (a3 : Option Addr) (l3 c3 : Nat),nth x 0 = .slice a3 l3 c3 ∧ ∃ (a18 : Option Addr) (l18 c18 : Nat),∃ w4 : World,Ru (Instr.buildSlice 103 1 #[(0,.int .i64 n15)]) w3 (.slice a18 l18 c18) w4 ∧ ∃ (a19 : Option Addr) (l19 c19 : Nat),∃ w5 : World,Ru (Builtin.append_ #[103,103] 103 #[.slice a3 l3 c3,.slice a18 l18 c18]) w4 (.slice a19 l19 c19) w5 ∧ k [.slice a19 l19 c19] w5
 else
 ∃ (a3_2 : Option Addr) (l3_2 c3_2 : Nat),nth x 0 = .slice a3_2 l3_2 c3_2 ∧ Cal Tryz.prog F_slices_Sort_int #[.slice a3_2 l3_2 c3_2] w3 fun r21 w6 => r21 = .tuple #[] ∧ K (.slice a3_2 l3_2 c3_2) w6)) [.slice none 0 0] w1)
set_option maxRecDepth 100000 in
theorem C_disk_Disk_Open (p0 : Option Addr) (w0 : World) (K : Value → World → Prop) (h : D_disk_Disk_Open p0 w0 K) : Cal Tryz.prog F_disk_Disk_Open #[.pointer p0] w0 K :=
 denF_sound (A := { S := [3],ty := [(3,103)],raw := [12,14] }) mixed Tryz.func45 (by kernel_rfl) (by kernel_rfl) ((show denF Tryz.prog _ Tryz.f45 _ w0 K = D_disk_Disk_Open p0 w0 K by kernel_rfl).mpr h)
set_option maxRecDepth 100000 in
def D_leveeref02_Disk_Open (p0 : Option Addr) (w0 : World) (K : Value → World → Prop) : Prop :=
 LoopC (fun k x w1 =>
 ∃ n4 : Int,nth x 1 = .int .i64 n4 ∧ ∃ q7 : Addr,(.pointer p0 : Value) = .pointer (some q7) ∧ ∃ (a9 : Option Addr) (l9 c9 : Nat),Ru (Instr.loadAt 82 (.pointer (some (Addr.add q7 0)))) w1 (.slice a9 l9 c9) w1 ∧ (bif decide (n4 < (l9 : Int)) then
 Cal Tryz.prog F_leveeref02_Disk_Writes #[.pointer p0,.int .i64 n4] w1 fun r16 w2 => ∃ n16 : Int,r16 = .int .i64 n16 ∧ Share (fun k_2 => (bif decide (n16 > 0) then
 ∃ (a3 : Option Addr) (l3 c3 : Nat),nth x 0 = .slice a3 l3 c3 ∧ ∃ (a20 : Option Addr) (l20 c20 : Nat),∃ w3 : World,Ru (Instr.buildSlice 103 1 #[(0,.int .i64 n4)]) w2 (.slice a20 l20 c20) w3 ∧ ∃ (a21 : Option Addr) (l21 c21 : Nat),∃ w4 : World,Ru (Builtin.append_ #[103,103] 103 #[.slice a3 l3 c3,.slice a20 l20 c20]) w3 (.slice a21 l21 c21) w4 ∧ k_2 [.slice a21 l21 c21] w4
 else
 k_2 [nth x 0] w2)) fun x_2 w5 =>
 k [nth x_2 0,.int .i64 (IntKind.i64.wrap (n4 + 1))] w5
 else
 ∃ (a3_2 : Option Addr) (l3_2 c3_2 : Nat),nth x 0 = .slice a3_2 l3_2 c3_2 ∧ K (.slice a3_2 l3_2 c3_2) w1)) [.slice none 0 0,.int .i64 0] w0
set_option maxRecDepth 100000 in
theorem C_leveeref02_Disk_Open (p0 : Option Addr) (w0 : World) (K : Value → World → Prop) (h : D_leveeref02_Disk_Open p0 w0 K) : Cal Tryz.prog F_leveeref02_Disk_Open #[.pointer p0] w0 K :=
 denF_sound (A := { S := [3,4],ty := [(3,103),(4,3)],raw := [] }) mixed Tryz.func46 (by kernel_rfl) (by kernel_rfl) ((show denF Tryz.prog _ Tryz.f46 _ w0 K = D_leveeref02_Disk_Open p0 w0 K by kernel_rfl).mpr h)
set_option maxRecDepth 100000 in
def D_disk_Disk_Safe (p0 : Option Addr) (n1 : Int) (w0 : World) (K : Value → World → Prop) : Prop :=
 Cal Tryz.prog F_disk_Disk_may #[.pointer p0,.int .i64 n1] w0 fun r10 w1 => ∃ n10 : Int,r10 = .int .i64 n10 ∧ (bif n10 != 0 then
 K (.tuple #[.slice none 0 0,.int .i64 n10]) w1
 else
 ∃ q15 : Addr,(.pointer p0 : Value) = .pointer (some q15) ∧ ∃ (a17 : Option Addr) (l17 c17 : Nat),Ru (Instr.loadAt 78 (.pointer (some (Addr.add q15 0)))) w1 (.slice a17 l17 c17) w1 ∧ ∃ q19 : Addr,Al (Instr.indexAt 78 (.slice a17 l17 c17) (.int .i64 n1)) (.pointer (some q19)) ∧ ∃ g20 : Array Value,Ru (Instr.loadAt 107 (.pointer (some q19))) w1 (.agg g20) w1 ∧ ∃ q7 : Addr,∃ w2 : World,Ru (Instr.alloc 107 true (.tuple #[])) w1 (.pointer (some q7)) w2 ∧ ∃ w3 : World,RuU (Instr.storeAt 107 (.pointer (some q7)) (.agg g20)) w2 w3 ∧ ∃ (a21 : Option Addr) (l21 c21 : Nat),Al (Instr.sliceAt 107 (.pointer (some q7)) none none none) (.slice a21 l21 c21) ∧ K (.tuple #[.slice a21 l21 c21,.int .i64 0]) w3)
set_option maxRecDepth 100000 in
theorem C_disk_Disk_Safe (p0 : Option Addr) (n1 : Int) (w0 : World) (K : Value → World → Prop) (h : D_disk_Disk_Safe p0 n1 w0 K) : Cal Tryz.prog F_disk_Disk_Safe #[.pointer p0,.int .i64 n1] w0 K :=
 denF_sound (A := { S := [],ty := [],raw := [] }) mixed Tryz.func47 (by kernel_rfl) (by kernel_rfl) ((show denF Tryz.prog _ Tryz.f47 _ w0 K = D_disk_Disk_Safe p0 n1 w0 K by kernel_rfl).mpr h)
set_option maxRecDepth 100000 in
def D_leveeref02_Disk_Safe (p0 : Option Addr) (n1 : Int) (w0 : World) (K : Value → World → Prop) : Prop :=
 Cal Tryz.prog F_leveeref02_Disk_there #[.pointer p0,.int .i64 n1] w0 fun r8 w1 => ∃ b8 : Bool,r8 = .bool b8 ∧ (bif !b8 then
 K (.tuple #[.slice none 0 0,.int .i64 3]) w1
 else
 ∃ q11 : Addr,(.pointer p0 : Value) = .pointer (some q11) ∧ ∃ (a13 : Option Addr) (l13 c13 : Nat),Ru (Instr.loadAt 82 (.pointer (some (Addr.add q11 0)))) w1 (.slice a13 l13 c13) w1 ∧ ∃ q15 : Addr,Al (Instr.indexAt 82 (.slice a13 l13 c13) (.int .i64 n1)) (.pointer (some q15)) ∧ ∃ (a17 : Option Addr) (l17 c17 : Nat),Ru (Instr.loadAt 86 (.pointer (some (Addr.add q15 0)))) w1 (.slice a17 l17 c17) w1 ∧ ∃ q18 : Addr,Al (Instr.indexAt 86 (.slice a17 l17 c17) (.int .i64 0)) (.pointer (some q18)) ∧ ∃ s19 : ByteArray,Ru (Instr.loadAt 9 (.pointer (some q18))) w1 (.string s19) w1 ∧ ∃ (a20 : Option Addr) (l20 c20 : Nat),∃ w2 : World,Ru (convert 9 24 (.string s19)) w1 (.slice a20 l20 c20) w2 ∧ K (.tuple #[.slice a20 l20 c20,.int .i64 0]) w2)
set_option maxRecDepth 100000 in
theorem C_leveeref02_Disk_Safe (p0 : Option Addr) (n1 : Int) (w0 : World) (K : Value → World → Prop) (h : D_leveeref02_Disk_Safe p0 n1 w0 K) : Cal Tryz.prog F_leveeref02_Disk_Safe #[.pointer p0,.int .i64 n1] w0 K :=
 denF_sound (A := { S := [],ty := [],raw := [] }) mixed Tryz.func48 (by kernel_rfl) (by kernel_rfl) ((show denF Tryz.prog _ Tryz.f48 _ w0 K = D_leveeref02_Disk_Safe p0 n1 w0 K by kernel_rfl).mpr h)
set_option maxRecDepth 100000 in
def D_disk_Disk_may (p0 : Option Addr) (n1 : Int) (w0 : World) (K : Value → World → Prop) : Prop :=
 (bif Option.isNone p0 then
 K (.int .i64 2) w0
 else
 Share (fun k => (bif decide (n1 < 0) then k [.bool true] w0 else ∃ q14 : Addr,(.pointer p0 : Value) = .pointer (some q14) ∧ ∃ (a16 : Option Addr) (l16 c16 : Nat),Ru (Instr.loadAt 78 (.pointer (some (Addr.add q14 0)))) w0 (.slice a16 l16 c16) w0 ∧ k [.bool (decide (n1 ≥ (l16 : Int)))] w0)) fun x w1 =>
 ∃ b8 : Bool,nth x 0 = .bool b8 ∧ (bif b8 then
 K (.int .i64 3) w1
 else
 K (.int .i64 0) w1))
set_option maxRecDepth 100000 in
theorem C_disk_Disk_may (p0 : Option Addr) (n1 : Int) (w0 : World) (K : Value → World → Prop) (h : D_disk_Disk_may p0 n1 w0 K) : Cal Tryz.prog F_disk_Disk_may #[.pointer p0,.int .i64 n1] w0 K :=
 denF_sound (A := { S := [8],ty := [(8,4)],raw := [] }) mixed Tryz.func49 (by kernel_rfl) (by kernel_rfl) ((show denF Tryz.prog _ Tryz.f49 _ w0 K = D_disk_Disk_may p0 n1 w0 K by kernel_rfl).mpr h)
set_option maxRecDepth 100000 in
def D_disk_Disk_goes (p0 : Option Addr) (w0 : World) (K : Value → World → Prop) : Prop :=
 ∃ q4 : Addr,(.pointer p0 : Value) = .pointer (some q4) ∧ ∃ n6 : Int,Ru (Instr.loadAt 3 (.pointer (some (Addr.add q4 2)))) w0 (.int .i64 n6) w0 ∧ (bif n6 == 0 then
 K (.bool false) w0
 else
 ∃ q10 : Addr,(.pointer p0 : Value) = .pointer (some q10) ∧ ∃ n12 : Int,Ru (Instr.loadAt 3 (.pointer (some (Addr.add q10 2)))) w0 (.int .i64 n12) w0 ∧ ∃ q15 : Addr,(.pointer p0 : Value) = .pointer (some q15) ∧ ∃ w1 : World,RuU (Instr.storeAt 3 (.pointer (some (Addr.add q15 2))) (.int .i64 (if (-1) > (IntKind.i64.wrap (n12 - 1)) then (-1) else (IntKind.i64.wrap (n12 - 1))))) w0 w1 ∧ K (.bool true) w1)
set_option maxRecDepth 100000 in
theorem C_disk_Disk_goes (p0 : Option Addr) (w0 : World) (K : Value → World → Prop) (h : D_disk_Disk_goes p0 w0 K) : Cal Tryz.prog F_disk_Disk_goes #[.pointer p0] w0 K :=
 denF_sound (A := { S := [],ty := [],raw := [] }) mixed Tryz.func50 (by kernel_rfl) (by kernel_rfl) ((show denF Tryz.prog _ Tryz.f50 _ w0 K = D_disk_Disk_goes p0 w0 K by kernel_rfl).mpr h)
set_option maxRecDepth 100000 in
def D_leveeref02_Disk_there (p0 : Option Addr) (n1 : Int) (w0 : World) (K : Value → World → Prop) : Prop :=
 Share (fun k => (bif decide (n1 ≥ 0) then ∃ q10 : Addr,(.pointer p0 : Value) = .pointer (some q10) ∧ ∃ (a12 : Option Addr) (l12 c12 : Nat),Ru (Instr.loadAt 82 (.pointer (some (Addr.add q10 0)))) w0 (.slice a12 l12 c12) w0 ∧ k [.bool (decide (n1 < (l12 : Int)))] w0 else k [.bool false] w0)) fun x w1 =>
 ∃ b4 : Bool,nth x 0 = .bool b4 ∧ K (.bool b4) w1
set_option maxRecDepth 100000 in
theorem C_leveeref02_Disk_there (p0 : Option Addr) (n1 : Int) (w0 : World) (K : Value → World → Prop) (h : D_leveeref02_Disk_there p0 n1 w0 K) : Cal Tryz.prog F_leveeref02_Disk_there #[.pointer p0,.int .i64 n1] w0 K :=
 denF_sound (A := { S := [4],ty := [(4,4)],raw := [] }) mixed Tryz.func51 (by kernel_rfl) (by kernel_rfl) ((show denF Tryz.prog _ Tryz.f51 _ w0 K = D_leveeref02_Disk_there p0 n1 w0 K by kernel_rfl).mpr h)
set_option maxRecDepth 100000 in
def D_leveeref02_Disk_goes (p0 : Option Addr) (w0 : World) (K : Value → World → Prop) : Prop :=
 Cal Tryz.prog F_leveeref02_Disk_Stopped #[.pointer p0] w0 fun r4 w1 => ∃ b4 : Bool,r4 = .bool b4 ∧ (bif b4 then
 K (.bool false) w1
 else
 ∃ q6 : Addr,(.pointer p0 : Value) = .pointer (some q6) ∧ ∃ b8 : Bool,Ru (Instr.loadAt 4 (.pointer (some (Addr.add q6 1)))) w1 (.bool b8) w1 ∧ Share (fun k => (bif b8 then
 ∃ q10 : Addr,(.pointer p0 : Value) = .pointer (some q10) ∧ ∃ n12 : Int,Ru (Instr.loadAt 3 (.pointer (some (Addr.add q10 2)))) w1 (.int .i64 n12) w1 ∧ ∃ q14 : Addr,(.pointer p0 : Value) = .pointer (some q14) ∧ ∃ w2 : World,RuU (Instr.storeAt 3 (.pointer (some (Addr.add q14 2))) (.int .i64 (IntKind.i64.wrap (n12 - 1)))) w1 w2 ∧ k [] w2
 else
 k [] w1)) fun x w3 =>
 K (.bool true) w3)
set_option maxRecDepth 100000 in
theorem C_leveeref02_Disk_goes (p0 : Option Addr) (w0 : World) (K : Value → World → Prop) (h : D_leveeref02_Disk_goes p0 w0 K) : Cal Tryz.prog F_leveeref02_Disk_goes #[.pointer p0] w0 K :=
 denF_sound (A := { S := [],ty := [],raw := [] }) mixed Tryz.func52 (by kernel_rfl) (by kernel_rfl) ((show denF Tryz.prog _ Tryz.f52 _ w0 K = D_leveeref02_Disk_goes p0 w0 K by kernel_rfl).mpr h)
set_option maxRecDepth 100000 in
def D_patch_Open (p0 : Option Addr) (n1 : Int) (w0 : World) (K : Value → World → Prop) : Prop :=
 Cal Tryz.prog F_cache_New #[.pointer p0,.int .i64 n1] w0 fun r11 w1 => ∃ p11a : Option Addr,∃ n11b : Int,r11 = .tuple #[.pointer p11a,.int .i64 n11b] ∧ (bif n11b != 0 then
 K (.tuple #[.pointer none,.int .i64 n11b]) w1
 else
 Cal Tryz.prog F_disk_Disk_Len #[.pointer p0] w1 fun r19 w2 => ∃ n19 : Int,r19 = .int .i64 n19 ∧ ∃ m20 : Option Nat,∃ w3 : World,Ru (Instr.makeMap 156 none) w2 (.map m20) w3 ∧ ∃ m21 : Option Nat,∃ w4 : World,Ru (Instr.makeMap 157 none) w3 (.map m21) w4 ∧ ∃ g22 : Array Value,Al (Instr.build 159 #[(0,.pointer p11a),(1,.int .i64 n19),(3,.map m20),(4,.map m21)]) (.agg g22) ∧ ∃ q23 : Addr,∃ w5 : World,Ru (Instr.box 159 (.agg g22)) w4 (.pointer (some q23)) w5 ∧ K (.tuple #[.pointer (some q23),.int .i64 0]) w5)
set_option maxRecDepth 100000 in
theorem C_patch_Open (p0 : Option Addr) (n1 : Int) (w0 : World) (K : Value → World → Prop) (h : D_patch_Open p0 n1 w0 K) : Cal Tryz.prog F_patch_Open #[.pointer p0,.int .i64 n1] w0 K :=
 denF_sound (A := { S := [],ty := [],raw := [] }) mixed Tryz.func53 (by kernel_rfl) (by kernel_rfl) ((show denF Tryz.prog _ Tryz.f53 _ w0 K = D_patch_Open p0 n1 w0 K by kernel_rfl).mpr h)
set_option maxRecDepth 100000 in
def D_disk_Disk_Read (p0 : Option Addr) (n1 : Int) (w0 : World) (K : Value → World → Prop) : Prop :=
 Cal Tryz.prog F_disk_Disk_may #[.pointer p0,.int .i64 n1] w0 fun r10 w1 => ∃ n10 : Int,r10 = .int .i64 n10 ∧ (bif n10 != 0 then
 K (.tuple #[.slice none 0 0,.int .i64 n10]) w1
 else
 Cal Tryz.prog F_disk_Disk_last #[.pointer p0,.int .i64 n1] w1 fun r16 w2 => ∃ g16 : Array Value,r16 = .agg g16 ∧ ∃ q7 : Addr,∃ w3 : World,Ru (Instr.alloc 107 true (.tuple #[])) w2 (.pointer (some q7)) w3 ∧ ∃ w4 : World,RuU (Instr.storeAt 107 (.pointer (some q7)) (.agg g16)) w3 w4 ∧ ∃ (a17 : Option Addr) (l17 c17 : Nat),Al (Instr.sliceAt 107 (.pointer (some q7)) none none none) (.slice a17 l17 c17) ∧ K (.tuple #[.slice a17 l17 c17,.int .i64 0]) w4)
set_option maxRecDepth 100000 in
theorem C_disk_Disk_Read (p0 : Option Addr) (n1 : Int) (w0 : World) (K : Value → World → Prop) (h : D_disk_Disk_Read p0 n1 w0 K) : Cal Tryz.prog F_disk_Disk_Read #[.pointer p0,.int .i64 n1] w0 K :=
 denF_sound (A := { S := [],ty := [],raw := [] }) mixed Tryz.func54 (by kernel_rfl) (by kernel_rfl) ((show denF Tryz.prog _ Tryz.f54 _ w0 K = D_disk_Disk_Read p0 n1 w0 K by kernel_rfl).mpr h)
set_option maxRecDepth 100000 in
def D_super_Choose (a0 : Option Addr) (l0 c0 : Nat) (a1 : Option Addr) (l1 c1 : Nat) (n2 : Int) (w0 : World) (K : Value → World → Prop) : Prop :=
 ∃ q6 : Addr,∃ w1 : World,Ru (Instr.alloc 94 true (.tuple #[])) w0 (.pointer (some q6)) w1 ∧ ∃ g15 : Array Value,Al (Instr.build 94 #[]) (.agg g15) ∧ ∃ q9 : Addr,∃ w2 : World,Ru (Instr.alloc 94 true (.tuple #[])) w1 (.pointer (some q9)) w2 ∧ ∃ w3 : World,RuU (Instr.storeAt 94 (.pointer (some q9)) (.agg g15)) w2 w3 ∧ ∃ g18 : Array Value,Al (Instr.build 160 #[(0,.slice a0 l0 c0),(1,.slice a1 l1 c1)]) (.agg g18) ∧ LoopC (fun k x w4 =>
 ∃ n19 : Int,nth x 0 = .int .i64 n19 ∧ (bif decide (n19 < 2) then
 ∃ (a22 : Option Addr) (l22 c22 : Nat),Al (Instr.index 160 (.agg g18) (.int .i64 n19)) (.slice a22 l22 c22) ∧ Cal Tryz.prog F_super_Get #[.slice a22 l22 c22] w4 fun r25 w5 => ∃ g25a : Array Value,∃ n25b : Int,r25 = .tuple #[.agg g25a,.int .i64 n25b] ∧ ∃ q12 : Addr,∃ w6 : World,Ru (Instr.alloc 94 true (.tuple #[])) w5 (.pointer (some q12)) w6 ∧ ∃ w7 : World,RuU (Instr.storeAt 94 (.pointer (some q12)) (.agg g25a)) w6 w7 ∧ Share (fun k_2 => (bif n25b == 0 then ∃ g31 : Array Value,Ru (Instr.loadAt 94 (.pointer (some q12))) w7 (.agg g31) w7 ∧ Cal Tryz.prog F_super_Super_place #[.agg g31] w7 fun r32 w8 => ∃ n32 : Int,r32 = .int .i64 n32 ∧ (bif n32 == n19 then ∃ g38 : Array Value,Ru (Instr.loadAt 23 (.pointer (some (Addr.add q12 1)))) w8 (.agg g38) w8 ∧ Cal Tryz.prog F_geo_Size #[.agg g38] w8 fun r39 w9 => ∃ n39 : Int,r39 = .int .i64 n39 ∧ (bif decide (n39 ≤ n2) then ∃ n45 : Int,Ru (Instr.loadAt 2 (.pointer (some (Addr.add q12 0)))) w9 (.int .i64 n45) w9 ∧ ∃ n47 : Int,Ru (Instr.loadAt 2 (.pointer (some (Addr.add q9 0)))) w9 (.int .i64 n47) w9 ∧ k_2 [.bool (decide (n45 > n47))] w9 else k_2 [.bool false] w9) else k_2 [.bool false] w8) else k_2 [.bool false] w7)) fun x_2 w10 =>
 ∃ b49 : Bool,nth x_2 0 = .bool b49 ∧ Share (fun k_3 => (bif b49 then
 ∃ g50 : Array Value,Ru (Instr.loadAt 94 (.pointer (some q12))) w10 (.agg g50) w10 ∧ ∃ w11 : World,RuU (Instr.storeAt 94 (.pointer (some q9)) (.agg g50)) w10 w11 ∧ k_3 [] w11
 else
 k_3 [] w10)) fun x_3 w12 =>
 k [.int .i64 (IntKind.i64.wrap (n19 + 1)),.bool b49] w12
 else
 ∃ g52 : Array Value,Al (Instr.build 94 #[]) (.agg g52) ∧ ∃ q14 : Addr,∃ w13 : World,Ru (Instr.alloc 94 true (.tuple #[])) w4 (.pointer (some q14)) w13 ∧ ∃ w14 : World,RuU (Instr.storeAt 94 (.pointer (some q14)) (.agg g52)) w13 w14 ∧ ∃ g53 : Array Value,Ru (Instr.loadAt 94 (.pointer (some q9))) w14 (.agg g53) w14 ∧ ∃ g54 : Array Value,Ru (Instr.loadAt 94 (.pointer (some q14))) w14 (.agg g54) w14 ∧ ∃ b55 : Bool,Al (eqS .eql 94 (.tmp 53) (.tmp 54) (.agg g53) (.agg g54)) (.bool b55) ∧ (bif b55 then
 ∃ g56 : Array Value,Ru (Instr.loadAt 94 (.pointer (some q9))) w14 (.agg g56) w14 ∧ ∃ w15 : World,RuU (Instr.storeAt 94 (.pointer (some q6)) (.agg g56)) w14 w15 ∧ ∃ gR6 : Array Value,Ru (Instr.loadAt 94 (.pointer (some q6))) w15 (.agg gR6) w15 ∧ K (.tuple #[.agg gR6,.int .i64 0,.int .i64 10]) w15
 else
 ∃ g57 : Array Value,Ru (Instr.loadAt 94 (.pointer (some q9))) (drew w14) (.agg g57) (drew w14) ∧ ∃ g58 : Array Value,Ru (Instr.loadAt 94 (.pointer (some q9))) (drew w14) (.agg g58) (drew w14) ∧ Cal Tryz.prog F_super_Super_place #[.agg g58] (drew w14) fun r59 w16 => ∃ n59 : Int,r59 = .int .i64 n59 ∧ Ru (Instr.loadAt 94 (.pointer (some q9))) w16 (.agg g57) w16 ∧ ∃ w17 : World,RuU (Instr.storeAt 94 (.pointer (some q6)) (.agg g57)) w16 w17 ∧ ∃ gR6_2 : Array Value,Ru (Instr.loadAt 94 (.pointer (some q6))) w17 (.agg gR6_2) w17 ∧ K (.tuple #[.agg gR6_2,.int .i64 n59,.int .i64 0]) w17))) [.int .i64 0,undef] w3
set_option maxRecDepth 100000 in
theorem C_super_Choose (a0 : Option Addr) (l0 c0 : Nat) (a1 : Option Addr) (l1 c1 : Nat) (n2 : Int) (w0 : World) (K : Value → World → Prop) (h : D_super_Choose a0 l0 c0 a1 l1 c1 n2 w0 K) : Cal Tryz.prog F_super_Choose #[.slice a0 l0 c0,.slice a1 l1 c1,.int .i64 n2] w0 K :=
 denF_sound (A := { S := [19,49],ty := [(19,3),(49,4)],raw := [] }) mixed Tryz.func55 (by kernel_rfl) (by kernel_rfl) ((show denF Tryz.prog _ Tryz.f55 _ w0 K = D_super_Choose a0 l0 c0 a1 l1 c1 n2 w0 K by kernel_rfl).mpr h)
set_option maxRecDepth 100000 in
def D_push_New (w0 : World) (K : Value → World → Prop) : Prop :=
 ∃ g1 : Array Value,Al (Instr.build 165 #[]) (.agg g1) ∧ ∃ q2 : Addr,∃ w1 : World,Ru (Instr.box 165 (.agg g1)) w0 (.pointer (some q2)) w1 ∧ K (.pointer (some q2)) w1
set_option maxRecDepth 100000 in
theorem C_push_New (w0 : World) (K : Value → World → Prop) (h : D_push_New  w0 K) : Cal Tryz.prog F_push_New #[] w0 K :=
 denF_sound (A := { S := [],ty := [],raw := [] }) mixed Tryz.func56 (by kernel_rfl) (by kernel_rfl) ((show denF Tryz.prog _ Tryz.f56 _ w0 K = D_push_New  w0 K by kernel_rfl).mpr h)
set_option maxRecDepth 100000 in
def D_geo_Slots (g0 : Array Value) (w0 : World) (K : Value → World → Prop) : Prop :=
 ∃ q1 : Addr,∃ w1 : World,Ru (Instr.box 23 (.agg g0)) w0 (.pointer (some q1)) w1 ∧ ∃ g4 : Array Value,Ru (Instr.loadAt 23 (.pointer (some q1))) w1 (.agg g4) w1 ∧ Cal Tryz.prog F_geo_whole #[.agg g4] w1 fun r5 w2 => ∃ g5 : Array Value,r5 = .agg g5 ∧ ∃ q3 : Addr,∃ w3 : World,Ru (Instr.alloc 23 true (.tuple #[])) w2 (.pointer (some q3)) w3 ∧ ∃ w4 : World,RuU (Instr.storeAt 23 (.pointer (some q3)) (.agg g5)) w3 w4 ∧ ∃ n7 : Int,Ru (Instr.loadAt 3 (.pointer (some (Addr.add q3 2)))) w4 (.int .i64 n7) w4 ∧ ∃ n9 : Int,Ru (Instr.loadAt 3 (.pointer (some (Addr.add q3 1)))) w4 (.int .i64 n9) w4 ∧ K (.int .i64 (IntKind.i64.wrap (n7 * n9))) w4
set_option maxRecDepth 100000 in
theorem C_geo_Slots (g0 : Array Value) (w0 : World) (K : Value → World → Prop) (h : D_geo_Slots g0 w0 K) : Cal Tryz.prog F_geo_Slots #[.agg g0] w0 K :=
 denF_sound (A := { S := [],ty := [],raw := [] }) mixed Tryz.func57 (by kernel_rfl) (by kernel_rfl) ((show denF Tryz.prog _ Tryz.f57 _ w0 K = D_geo_Slots g0 w0 K by kernel_rfl).mpr h)
set_option maxRecDepth 100000 in
def D_leveeref02_Disk_Read (p0 : Option Addr) (n1 : Int) (w0 : World) (K : Value → World → Prop) : Prop :=
 Cal Tryz.prog F_leveeref02_Disk_there #[.pointer p0,.int .i64 n1] w0 fun r9 w1 => ∃ b9 : Bool,r9 = .bool b9 ∧ (bif !b9 then
 K (.tuple #[.slice none 0 0,.int .i64 3]) w1
 else
 ∃ q12 : Addr,(.pointer p0 : Value) = .pointer (some q12) ∧ ∃ (a14 : Option Addr) (l14 c14 : Nat),Ru (Instr.loadAt 82 (.pointer (some (Addr.add q12 0)))) w1 (.slice a14 l14 c14) w1 ∧ ∃ q16 : Addr,Al (Instr.indexAt 82 (.slice a14 l14 c14) (.int .i64 n1)) (.pointer (some q16)) ∧ ∃ (a18 : Option Addr) (l18 c18 : Nat),Ru (Instr.loadAt 86 (.pointer (some (Addr.add q16 0)))) w1 (.slice a18 l18 c18) w1 ∧ ∃ q23 : Addr,Al (Instr.indexAt 86 (.slice a18 l18 c18) (.int .i64 (IntKind.i64.wrap ((l18 : Int) - 1)))) (.pointer (some q23)) ∧ ∃ s24 : ByteArray,Ru (Instr.loadAt 9 (.pointer (some q23))) w1 (.string s24) w1 ∧ ∃ (a25 : Option Addr) (l25 c25 : Nat),∃ w2 : World,Ru (convert 9 24 (.string s24)) w1 (.slice a25 l25 c25) w2 ∧ K (.tuple #[.slice a25 l25 c25,.int .i64 0]) w2)
set_option maxRecDepth 100000 in
theorem C_leveeref02_Disk_Read (p0 : Option Addr) (n1 : Int) (w0 : World) (K : Value → World → Prop) (h : D_leveeref02_Disk_Read p0 n1 w0 K) : Cal Tryz.prog F_leveeref02_Disk_Read #[.pointer p0,.int .i64 n1] w0 K :=
 denF_sound (A := { S := [],ty := [],raw := [] }) mixed Tryz.func58 (by kernel_rfl) (by kernel_rfl) ((show denF Tryz.prog _ Tryz.f58 _ w0 K = D_leveeref02_Disk_Read p0 n1 w0 K by kernel_rfl).mpr h)
set_option maxRecDepth 100000 in
def D_leveeref04_Choose (a0 : Option Addr) (l0 c0 : Nat) (a1 : Option Addr) (l1 c1 : Nat) (n2 : Int) (w0 : World) (K : Value → World → Prop) : Prop :=
 ∃ q6 : Addr,∃ w1 : World,Ru (Instr.alloc 100 true (.tuple #[])) w0 (.pointer (some q6)) w1 ∧ ∃ (a17 : Option Addr) (l17 c17 : Nat),∃ w2 : World,Ru (Instr.buildSlice 166 2 #[(0,.slice a0 l0 c0),(1,.slice a1 l1 c1)]) w1 (.slice a17 l17 c17) w2 ∧ ∃ q10 : Addr,∃ w3 : World,Ru (Instr.alloc 100 true (.tuple #[])) w2 (.pointer (some q10)) w3 ∧ LoopC (fun k x w4 =>
 ∃ n12 : Int,nth x 1 = .int .i64 n12 ∧ (bif decide (n12 < 2) then
 ∃ q25 : Addr,Al (Instr.indexAt 166 (.slice a17 l17 c17) (.int .i64 n12)) (.pointer (some q25)) ∧ ∃ (a26 : Option Addr) (l26 c26 : Nat),Ru (Instr.loadAt 24 (.pointer (some q25))) w4 (.slice a26 l26 c26) w4 ∧ Cal Tryz.prog F_leveeref04_Get #[.slice a26 l26 c26] w4 fun r27 w5 => ∃ g27a : Array Value,∃ n27b : Int,r27 = .tuple #[.agg g27a,.int .i64 n27b] ∧ ∃ q13 : Addr,∃ w6 : World,Ru (Instr.alloc 100 true (.tuple #[])) w5 (.pointer (some q13)) w6 ∧ ∃ w7 : World,RuU (Instr.storeAt 100 (.pointer (some q13)) (.agg g27a)) w6 w7 ∧ Share (fun k_2 => (bif n27b == 0 then ∃ n34 : Int,Ru (Instr.loadAt 2 (.pointer (some (Addr.add q13 0)))) w7 (.int .i64 n34) w7 ∧ (bif (Int.tmod n34 2) == n12 then ∃ g41 : Array Value,Ru (Instr.loadAt 23 (.pointer (some (Addr.add q13 1)))) w7 (.agg g41) w7 ∧ Cal Tryz.prog F_leveeref03_Size #[.agg g41] w7 fun r42 w8 => ∃ n42 : Int,r42 = .int .i64 n42 ∧ (bif decide (n42 ≤ n2) then ∃ n48 : Int,Ru (Instr.loadAt 2 (.pointer (some (Addr.add q13 0)))) w8 (.int .i64 n48) w8 ∧ ∃ n50 : Int,Ru (Instr.loadAt 2 (.pointer (some (Addr.add q10 0)))) w8 (.int .i64 n50) w8 ∧ k_2 [.bool (decide (n48 > n50))] w8 else k_2 [.bool false] w8) else k_2 [.bool false] w7) else k_2 [.bool false] w7)) fun x_2 w9 =>
 ∃ b52 : Bool,nth x_2 0 = .bool b52 ∧ Share (fun k_3 => (bif b52 then
 ∃ g53 : Array Value,Ru (Instr.loadAt 100 (.pointer (some q13))) w9 (.agg g53) w9 ∧ ∃ w10 : World,RuU (Instr.storeAt 100 (.pointer (some q10)) (.agg g53)) w9 w10 ∧ k_3 [.int .i64 n12] w10
 else
 k_3 [nth x 0] w9)) fun x_3 w11 =>
 k [nth x_3 0,.int .i64 (IntKind.i64.wrap (n12 + 1)),.bool b52] w11
 else
 ∃ n11 : Int,nth x 0 = .int .i64 n11 ∧ (bif decide (n11 < 0) then
 ∃ g57 : Array Value,Al (Instr.build 100 #[]) (.agg g57) ∧ ∃ w12 : World,RuU (Instr.storeAt 100 (.pointer (some q6)) (.agg g57)) w4 w12 ∧ ∃ gR6 : Array Value,Ru (Instr.loadAt 100 (.pointer (some q6))) w12 (.agg gR6) w12 ∧ K (.tuple #[.agg gR6,.int .i64 0,.int .i64 10]) w12
 else
 ∃ g58 : Array Value,Ru (Instr.loadAt 100 (.pointer (some q10))) w4 (.agg g58) w4 ∧ ∃ w13 : World,RuU (Instr.storeAt 100 (.pointer (some q6)) (.agg g58)) w4 w13 ∧ ∃ gR6_2 : Array Value,Ru (Instr.loadAt 100 (.pointer (some q6))) w13 (.agg gR6_2) w13 ∧ K (.tuple #[.agg gR6_2,.int .i64 n11,.int .i64 0]) w13))) [.int .i64 ((-1)),.int .i64 0,undef] w3
set_option maxRecDepth 100000 in
theorem C_leveeref04_Choose (a0 : Option Addr) (l0 c0 : Nat) (a1 : Option Addr) (l1 c1 : Nat) (n2 : Int) (w0 : World) (K : Value → World → Prop) (h : D_leveeref04_Choose a0 l0 c0 a1 l1 c1 n2 w0 K) : Cal Tryz.prog F_leveeref04_Choose #[.slice a0 l0 c0,.slice a1 l1 c1,.int .i64 n2] w0 K :=
 denF_sound (A := { S := [11,12,52],ty := [(11,3),(12,3),(52,4)],raw := [] }) mixed Tryz.func59 (by kernel_rfl) (by kernel_rfl) ((show denF Tryz.prog _ Tryz.f59 _ w0 K = D_leveeref04_Choose a0 l0 c0 a1 l1 c1 n2 w0 K by kernel_rfl).mpr h)
set_option maxRecDepth 100000 in
def D_leveeref11_Open (p0 : Option Addr) (w0 : World) (K : Value → World → Prop) : Prop :=
 ∃ g8 : Array Value,Al (Instr.build 171 #[(0,.pointer p0)]) (.agg g8) ∧ ∃ q9 : Addr,∃ w1 : World,Ru (Instr.box 171 (.agg g8)) w0 (.pointer (some q9)) w1 ∧ LoopC (fun k x w2 =>
 ∃ n4 : Int,nth x 0 = .int .i64 n4 ∧ ∃ q12 : Addr,(.pointer p0 : Value) = .pointer (some q12) ∧ ∃ (a14 : Option Addr) (l14 c14 : Nat),Ru (Instr.loadAt 82 (.pointer (some (Addr.add q12 0)))) w2 (.slice a14 l14 c14) w2 ∧ (bif decide (n4 < (l14 : Int)) then
 Cal Tryz.prog F_leveeref02_Disk_Read #[.pointer p0,.int .i64 n4] w2 fun r22 w3 => ∃ (a22a : Option Addr) (l22a c22a : Nat),∃ n22b : Int,r22 = .tuple #[.slice a22a l22a c22a,.int .i64 n22b] ∧ ∃ q27 : Addr,(.pointer (some q9) : Value) = .pointer (some q27) ∧ ∃ (a29 : Option Addr) (l29 c29 : Nat),Ru (Instr.loadAt 86 (.pointer (some (Addr.add q27 1)))) (drew w3) (.slice a29 l29 c29) (drew w3) ∧ ∃ s31 : ByteArray,Ru (convert 24 9 (.slice a22a l22a c22a)) (drew w3) (.string s31) (drew w3) ∧ ∃ (a32 : Option Addr) (l32 c32 : Nat),∃ w4 : World,Ru (Instr.buildSlice 86 1 #[(0,.string s31)]) (drew w3) (.slice a32 l32 c32) w4 ∧ Ru (Instr.loadAt 86 (.pointer (some (Addr.add q27 1)))) w4 (.slice a29 l29 c29) w4 ∧ ∃ (a33 : Option Addr) (l33 c33 : Nat),∃ w5 : World,Ru (Builtin.append_ #[86,86] 86 #[.slice a29 l29 c29,.slice a32 l32 c32]) w4 (.slice a33 l33 c33) w5 ∧ ∃ q34 : Addr,(.pointer (some q9) : Value) = .pointer (some q34) ∧ ∃ w6 : World,RuU (Instr.storeAt 86 (.pointer (some (Addr.add q34 1))) (.slice a33 l33 c33)) w5 w6 ∧ k [.int .i64 (IntKind.i64.wrap (n4 + 1))] w6
 else
 K (.pointer (some q9)) w2)) [.int .i64 0] w1
set_option maxRecDepth 100000 in
theorem C_leveeref11_Open (p0 : Option Addr) (w0 : World) (K : Value → World → Prop) (h : D_leveeref11_Open p0 w0 K) : Cal Tryz.prog F_leveeref11_Open #[.pointer p0] w0 K :=
 denF_sound (A := { S := [4],ty := [(4,3)],raw := [] }) mixed Tryz.func60 (by kernel_rfl) (by kernel_rfl) ((show denF Tryz.prog _ Tryz.f60 _ w0 K = D_leveeref11_Open p0 w0 K by kernel_rfl).mpr h)
set_option maxRecDepth 100000 in
def D_leveeref13_Vol_Head (p0 : Option Addr) (n1 : Int) (w0 : World) (K : Value → World → Prop) : Prop :=
 ∃ q4 : Addr,∃ w1 : World,Ru (Instr.alloc 122 true (.tuple #[])) w0 (.pointer (some q4)) w1 ∧ ∃ q12 : Addr,(.pointer p0 : Value) = .pointer (some q12) ∧ ∃ g14 : Array Value,Ru (Instr.loadAt 23 (.pointer (some (Addr.add q12 3)))) w1 (.agg g14) w1 ∧ Cal Tryz.prog F_leveeref03_Head #[.agg g14,.int .i64 n1] w1 fun r16 w2 => ∃ n16a : Int,∃ n16b : Int,r16 = .tuple #[.int .i64 n16a,.int .i64 n16b] ∧ (bif n16b != 0 then
 ∃ g21 : Array Value,Al (Instr.build 122 #[]) (.agg g21) ∧ ∃ w3 : World,RuU (Instr.storeAt 122 (.pointer (some q4)) (.agg g21)) w2 w3 ∧ ∃ gR4 : Array Value,Ru (Instr.loadAt 122 (.pointer (some q4))) w3 (.agg gR4) w3 ∧ K (.tuple #[.agg gR4,.int .i64 n16b]) w3
 else
 ∃ q25 : Addr,(.pointer p0 : Value) = .pointer (some q25) ∧ ∃ p27 : Option Addr,Ru (Instr.loadAt 47 (.pointer (some (Addr.add q25 0)))) w2 (.pointer p27) w2 ∧ Cal Tryz.prog F_leveeref11_Store_Read #[.pointer p27,.int .i64 n16a] w2 fun r29 w4 => ∃ (a29a : Option Addr) (l29a c29a : Nat),∃ n29b : Int,r29 = .tuple #[.slice a29a l29a c29a,.int .i64 n29b] ∧ ∃ q33 : Addr,(.pointer p0 : Value) = .pointer (some q33) ∧ ∃ g35 : Array Value,Ru (Instr.loadAt 23 (.pointer (some (Addr.add q33 3)))) w4 (.agg g35) w4 ∧ Cal Tryz.prog F_leveeref06_Get #[.agg g35,.slice a29a l29a c29a] w4 fun r37 w5 => ∃ g37a : Array Value,∃ n37b : Int,r37 = .tuple #[.agg g37a,.int .i64 n37b] ∧ ∃ w6 : World,RuU (Instr.storeAt 122 (.pointer (some q4)) (.agg g37a)) w5 w6 ∧ ∃ gR4_2 : Array Value,Ru (Instr.loadAt 122 (.pointer (some q4))) w6 (.agg gR4_2) w6 ∧ K (.tuple #[.agg gR4_2,.int .i64 n37b]) w6)
set_option maxRecDepth 100000 in
theorem C_leveeref13_Vol_Head (p0 : Option Addr) (n1 : Int) (w0 : World) (K : Value → World → Prop) (h : D_leveeref13_Vol_Head p0 n1 w0 K) : Cal Tryz.prog F_leveeref13_Vol_Head #[.pointer p0,.int .i64 n1] w0 K :=
 denF_sound (A := { S := [],ty := [],raw := [] }) mixed Tryz.func61 (by kernel_rfl) (by kernel_rfl) ((show denF Tryz.prog _ Tryz.f61 _ w0 K = D_leveeref13_Vol_Head p0 n1 w0 K by kernel_rfl).mpr h)
set_option maxRecDepth 100000 in
def D_leveeref03_Slots (g0 : Array Value) (w0 : World) (K : Value → World → Prop) : Prop :=
 ∃ q1 : Addr,∃ w1 : World,Ru (Instr.box 23 (.agg g0)) w0 (.pointer (some q1)) w1 ∧ ∃ g3 : Array Value,Ru (Instr.loadAt 23 (.pointer (some q1))) w1 (.agg g3) w1 ∧ Cal Tryz.prog F_leveeref03_Right #[.agg g3] w1 fun r4 w2 => ∃ b4 : Bool,r4 = .bool b4 ∧ (bif !b4 then
 K (.int .i64 0) w2
 else
 ∃ n7 : Int,Ru (Instr.loadAt 3 (.pointer (some (Addr.add q1 2)))) w2 (.int .i64 n7) w2 ∧ ∃ n9 : Int,Ru (Instr.loadAt 3 (.pointer (some (Addr.add q1 1)))) w2 (.int .i64 n9) w2 ∧ K (.int .i64 (IntKind.i64.wrap (n7 * n9))) w2)
set_option maxRecDepth 100000 in
theorem C_leveeref03_Slots (g0 : Array Value) (w0 : World) (K : Value → World → Prop) (h : D_leveeref03_Slots g0 w0 K) : Cal Tryz.prog F_leveeref03_Slots #[.agg g0] w0 K :=
 denF_sound (A := { S := [],ty := [],raw := [] }) mixed Tryz.func62 (by kernel_rfl) (by kernel_rfl) ((show denF Tryz.prog _ Tryz.f62 _ w0 K = D_leveeref03_Slots g0 w0 K by kernel_rfl).mpr h)
set_option maxRecDepth 100000 in
def D_leveeref13_Vol_Inode (p0 : Option Addr) (n1 : Int) (w0 : World) (K : Value → World → Prop) : Prop :=
 ∃ q4 : Addr,∃ w1 : World,Ru (Instr.alloc 55 true (.tuple #[])) w0 (.pointer (some q4)) w1 ∧ ∃ q13 : Addr,(.pointer p0 : Value) = .pointer (some q13) ∧ ∃ g15 : Array Value,Ru (Instr.loadAt 23 (.pointer (some (Addr.add q13 3)))) w1 (.agg g15) w1 ∧ Cal Tryz.prog F_leveeref03_Place #[.agg g15,.int .i64 n1] w1 fun r17 w2 => ∃ n17a : Int,∃ n17b : Int,∃ n17c : Int,r17 = .tuple #[.int .i64 n17a,.int .i64 n17b,.int .i64 n17c] ∧ (bif n17c != 0 then
 ∃ g23 : Array Value,Al (Instr.build 55 #[]) (.agg g23) ∧ ∃ w3 : World,RuU (Instr.storeAt 55 (.pointer (some q4)) (.agg g23)) w2 w3 ∧ ∃ gR4 : Array Value,Ru (Instr.loadAt 55 (.pointer (some q4))) w3 (.agg gR4) w3 ∧ K (.tuple #[.agg gR4,.int .i64 n17c]) w3
 else
 ∃ q27 : Addr,(.pointer p0 : Value) = .pointer (some q27) ∧ ∃ p29 : Option Addr,Ru (Instr.loadAt 47 (.pointer (some (Addr.add q27 0)))) w2 (.pointer p29) w2 ∧ Cal Tryz.prog F_leveeref11_Store_Read #[.pointer p29,.int .i64 n17a] w2 fun r31 w4 => ∃ (a31a : Option Addr) (l31a c31a : Nat),∃ n31b : Int,r31 = .tuple #[.slice a31a l31a c31a,.int .i64 n31b] ∧ Cal Tryz.prog F_leveeref07_Read #[.slice a31a l31a c31a,.int .i64 n17b] w4 fun r36 w5 => ∃ g36a : Array Value,∃ n36b : Int,r36 = .tuple #[.agg g36a,.int .i64 n36b] ∧ ∃ w6 : World,RuU (Instr.storeAt 55 (.pointer (some q4)) (.agg g36a)) w5 w6 ∧ ∃ gR4_2 : Array Value,Ru (Instr.loadAt 55 (.pointer (some q4))) w6 (.agg gR4_2) w6 ∧ K (.tuple #[.agg gR4_2,.int .i64 n36b]) w6)
set_option maxRecDepth 100000 in
theorem C_leveeref13_Vol_Inode (p0 : Option Addr) (n1 : Int) (w0 : World) (K : Value → World → Prop) (h : D_leveeref13_Vol_Inode p0 n1 w0 K) : Cal Tryz.prog F_leveeref13_Vol_Inode #[.pointer p0,.int .i64 n1] w0 K :=
 denF_sound (A := { S := [],ty := [],raw := [] }) mixed Tryz.func63 (by kernel_rfl) (by kernel_rfl) ((show denF Tryz.prog _ Tryz.f63 _ w0 K = D_leveeref13_Vol_Inode p0 n1 w0 K by kernel_rfl).mpr h)
set_option maxRecDepth 100000 in
def D_vol_Vol_place (p0 : Option Addr) (n1 : Int) (w0 : World) (K : Value → World → Prop) : Prop :=
 (bif Option.isNone p0 then
 K (.tuple #[.int .i64 0,.int .i64 0,.int .i64 2]) w0
 else
 ∃ q10 : Addr,(.pointer p0 : Value) = .pointer (some q10) ∧ ∃ g13 : Array Value,Ru (Instr.loadAt 23 (.pointer (some (Addr.add (Addr.add q10 0) 1)))) w0 (.agg g13) w0 ∧ Cal Tryz.prog F_geo_Place #[.agg g13,.int .i64 n1] w0 fun r15 w1 => ∃ n15a : Int,∃ n15b : Int,∃ n15c : Int,r15 = .tuple #[.int .i64 n15a,.int .i64 n15b,.int .i64 n15c] ∧ K (.tuple #[.int .i64 n15a,.int .i64 n15b,.int .i64 n15c]) w1)
set_option maxRecDepth 100000 in
theorem C_vol_Vol_place (p0 : Option Addr) (n1 : Int) (w0 : World) (K : Value → World → Prop) (h : D_vol_Vol_place p0 n1 w0 K) : Cal Tryz.prog F_vol_Vol_place #[.pointer p0,.int .i64 n1] w0 K :=
 denF_sound (A := { S := [],ty := [],raw := [] }) mixed Tryz.func64 (by kernel_rfl) (by kernel_rfl) ((show denF Tryz.prog _ Tryz.f64 _ w0 K = D_vol_Vol_place p0 n1 w0 K by kernel_rfl).mpr h)
set_option maxRecDepth 100000 in
def D_patch_Store_Read (p0 : Option Addr) (n1 : Int) (w0 : World) (K : Value → World → Prop) : Prop :=
 (bif Option.isNone p0 then
 K (.tuple #[.slice none 0 0,.int .i64 2]) w0
 else
 ∃ q9 : Addr,(.pointer p0 : Value) = .pointer (some q9) ∧ ∃ p11 : Option Addr,Ru (Instr.loadAt 153 (.pointer (some (Addr.add q9 0)))) w0 (.pointer p11) w0 ∧ Cal Tryz.prog F_cache_Cache_Read #[.pointer p11,.int .i64 n1] w0 fun r13 w1 => ∃ (a13a : Option Addr) (l13a c13a : Nat),∃ n13b : Int,r13 = .tuple #[.slice a13a l13a c13a,.int .i64 n13b] ∧ K (.tuple #[.slice a13a l13a c13a,.int .i64 n13b]) w1)
set_option maxRecDepth 100000 in
theorem C_patch_Store_Read (p0 : Option Addr) (n1 : Int) (w0 : World) (K : Value → World → Prop) (h : D_patch_Store_Read p0 n1 w0 K) : Cal Tryz.prog F_patch_Store_Read #[.pointer p0,.int .i64 n1] w0 K :=
 denF_sound (A := { S := [],ty := [],raw := [] }) mixed Tryz.func65 (by kernel_rfl) (by kernel_rfl) ((show denF Tryz.prog _ Tryz.f65 _ w0 K = D_patch_Store_Read p0 n1 w0 K by kernel_rfl).mpr h)
set_option maxRecDepth 100000 in
def D_inode_Read (a0 : Option Addr) (l0 c0 : Nat) (n1 : Int) (w0 : World) (K : Value → World → Prop) : Prop :=
 ∃ q4 : Addr,∃ w1 : World,Ru (Instr.alloc 55 true (.tuple #[])) w0 (.pointer (some q4)) w1 ∧ Cal Tryz.prog F_inode_may #[.slice a0 l0 c0,.int .i64 n1] w1 fun r9 w2 => ∃ n9 : Int,r9 = .int .i64 n9 ∧ (bif n9 != 0 then
 ∃ g12 : Array Value,Al (Instr.build 55 #[]) (.agg g12) ∧ ∃ w3 : World,RuU (Instr.storeAt 55 (.pointer (some q4)) (.agg g12)) w2 w3 ∧ ∃ gR4 : Array Value,Ru (Instr.loadAt 55 (.pointer (some q4))) w3 (.agg gR4) w3 ∧ K (.tuple #[.agg gR4,.int .i64 n9]) w3
 else
 ∃ (a20 : Option Addr) (l20 c20 : Nat),Al (Instr.sliceAt 24 (.slice a0 l0 c0) (some (.int .i64 (IntKind.i64.wrap (n1 * 64)))) (some (.int .i64 (IntKind.i64.wrap ((IntKind.i64.wrap (n1 + 1)) * 64)))) none) (.slice a20 l20 c20) ∧ Cal Tryz.prog F_inode_Get #[.slice a20 l20 c20] w2 fun r21 w4 => ∃ g21a : Array Value,∃ n21b : Int,r21 = .tuple #[.agg g21a,.int .i64 n21b] ∧ ∃ w5 : World,RuU (Instr.storeAt 55 (.pointer (some q4)) (.agg g21a)) w4 w5 ∧ ∃ gR4_2 : Array Value,Ru (Instr.loadAt 55 (.pointer (some q4))) w5 (.agg gR4_2) w5 ∧ K (.tuple #[.agg gR4_2,.int .i64 n21b]) w5)
set_option maxRecDepth 100000 in
theorem C_inode_Read (a0 : Option Addr) (l0 c0 : Nat) (n1 : Int) (w0 : World) (K : Value → World → Prop) (h : D_inode_Read a0 l0 c0 n1 w0 K) : Cal Tryz.prog F_inode_Read #[.slice a0 l0 c0,.int .i64 n1] w0 K :=
 denF_sound (A := { S := [],ty := [],raw := [] }) mixed Tryz.func66 (by kernel_rfl) (by kernel_rfl) ((show denF Tryz.prog _ Tryz.f66 _ w0 K = D_inode_Read a0 l0 c0 n1 w0 K by kernel_rfl).mpr h)
set_option maxRecDepth 100000 in
def D_inode_Put (g0 : Array Value) (w0 : World) (K : Value → World → Prop) : Prop :=
 ∃ q1 : Addr,∃ w1 : World,Ru (Instr.box 55 (.agg g0)) w0 (.pointer (some q1)) w1 ∧ ∃ g7 : Array Value,Ru (Instr.loadAt 55 (.pointer (some q1))) w1 (.agg g7) w1 ∧ Cal Tryz.prog F_inode_Right #[.agg g7] w1 fun r8 w2 => ∃ b8 : Bool,r8 = .bool b8 ∧ (bif !b8 then
 K (.tuple #[.slice none 0 0,.int .i64 1]) w2
 else
 ∃ (a10 : Option Addr) (l10 c10 : Nat),∃ w3 : World,Ru (Instr.makeSlice 24 (.int .i64 64) (.int .i64 64)) w2 (.slice a10 l10 c10) w3 ∧ ∃ n13 : Int,Ru (Instr.loadAt 3 (.pointer (some (Addr.add q1 0)))) w3 (.int .i64 n13) w3 ∧ ∃ q15 : Addr,Al (Instr.indexAt 24 (.slice a10 l10 c10) (.int .i64 0)) (.pointer (some q15)) ∧ ∃ w4 : World,RuU (Instr.storeAt 5 (.pointer (some q15)) (.int .u8 (IntKind.u8.wrap n13))) w3 w4 ∧ ∃ (a17 : Option Addr) (l17 c17 : Nat),Al (Instr.sliceAt 24 (.slice a10 l10 c10) (some (.int .i64 2)) (some (.int .i64 4)) none) (.slice a17 l17 c17) ∧ ∃ n19 : Int,Ru (Instr.loadAt 3 (.pointer (some (Addr.add q1 1)))) (drew w4) (.int .i64 n19) (drew w4) ∧ Cal Tryz.prog F_num_Put #[.slice a17 l17 c17,.int .u64 (IntKind.u64.wrap n19)] (drew w4) fun r21 w5 => r21 = .tuple #[] ∧ ∃ (a23 : Option Addr) (l23 c23 : Nat),Al (Instr.sliceAt 24 (.slice a10 l10 c10) (some (.int .i64 4)) (some (.int .i64 8)) none) (.slice a23 l23 c23) ∧ ∃ n25 : Int,Ru (Instr.loadAt 2 (.pointer (some (Addr.add q1 2)))) (drew w5) (.int .i64 n25) (drew w5) ∧ Cal Tryz.prog F_num_Put #[.slice a23 l23 c23,.int .u64 (IntKind.u64.wrap n25)] (drew w5) fun r27 w6 => r27 = .tuple #[] ∧ ∃ (a29 : Option Addr) (l29 c29 : Nat),Al (Instr.sliceAt 24 (.slice a10 l10 c10) (some (.int .i64 8)) (some (.int .i64 16)) none) (.slice a29 l29 c29) ∧ ∃ n31 : Int,Ru (Instr.loadAt 2 (.pointer (some (Addr.add q1 3)))) (drew w6) (.int .i64 n31) (drew w6) ∧ Cal Tryz.prog F_num_Put #[.slice a29 l29 c29,.int .u64 (IntKind.u64.wrap n31)] (drew w6) fun r33 w7 => r33 = .tuple #[] ∧ ∃ g34 : Array Value,Ru (Instr.loadAt 55 (.pointer (some q1))) w7 (.agg g34) w7 ∧ Cal Tryz.prog F_inode_all #[.agg g34] w7 fun r35 w8 => ∃ g35 : Array Value,r35 = .agg g35 ∧ LoopC (fun k x w9 =>
 ∃ n36 : Int,nth x 0 = .int .i64 n36 ∧ (bif decide (n36 < 8) then
 ∃ n39 : Int,Al (Instr.index 177 (.agg g35) (.int .i64 n36)) (.int .i64 n39) ∧ ∃ (a48 : Option Addr) (l48 c48 : Nat),Al (Instr.sliceAt 24 (.slice a10 l10 c10) (some (.int .i64 (IntKind.i64.wrap (16 + (IntKind.i64.wrap (n36 * 2)))))) (some (.int .i64 (IntKind.i64.wrap (16 + (IntKind.i64.wrap ((IntKind.i64.wrap (n36 + 1)) * 2)))))) none) (.slice a48 l48 c48) ∧ Cal Tryz.prog F_num_Put #[.slice a48 l48 c48,.int .u64 (IntKind.u64.wrap n39)] w9 fun r51 w10 => r51 = .tuple #[] ∧ k [.int .i64 (IntKind.i64.wrap (n36 + 1))] w10
 else
 K (.tuple #[.slice a10 l10 c10,.int .i64 0]) w9)) [.int .i64 0] w8)
set_option maxRecDepth 100000 in
theorem C_inode_Put (g0 : Array Value) (w0 : World) (K : Value → World → Prop) (h : D_inode_Put g0 w0 K) : Cal Tryz.prog F_inode_Put #[.agg g0] w0 K :=
 denF_sound (A := { S := [36],ty := [(36,3)],raw := [] }) mixed Tryz.func67 (by kernel_rfl) (by kernel_rfl) ((show denF Tryz.prog _ Tryz.f67 _ w0 K = D_inode_Put g0 w0 K by kernel_rfl).mpr h)
set_option maxRecDepth 100000 in
def D_vol_Vol_head (p0 : Option Addr) (n1 : Int) (w0 : World) (K : Value → World → Prop) : Prop :=
 (bif Option.isNone p0 then
 K (.tuple #[.int .i64 0,.int .i64 2]) w0
 else
 ∃ q9 : Addr,(.pointer p0 : Value) = .pointer (some q9) ∧ ∃ g12 : Array Value,Ru (Instr.loadAt 23 (.pointer (some (Addr.add (Addr.add q9 0) 1)))) w0 (.agg g12) w0 ∧ Cal Tryz.prog F_geo_Head #[.agg g12,.int .i64 n1] w0 fun r14 w1 => ∃ n14a : Int,∃ n14b : Int,r14 = .tuple #[.int .i64 n14a,.int .i64 n14b] ∧ K (.tuple #[.int .i64 n14a,.int .i64 n14b]) w1)
set_option maxRecDepth 100000 in
theorem C_vol_Vol_head (p0 : Option Addr) (n1 : Int) (w0 : World) (K : Value → World → Prop) (h : D_vol_Vol_head p0 n1 w0 K) : Cal Tryz.prog F_vol_Vol_head #[.pointer p0,.int .i64 n1] w0 K :=
 denF_sound (A := { S := [],ty := [],raw := [] }) mixed Tryz.func69 (by kernel_rfl) (by kernel_rfl) ((show denF Tryz.prog _ Tryz.f69 _ w0 K = D_vol_Vol_head p0 n1 w0 K by kernel_rfl).mpr h)
set_option maxRecDepth 100000 in
def D_group_Get (g0 : Array Value) (a1 : Option Addr) (l1 c1 : Nat) (w0 : World) (K : Value → World → Prop) : Prop :=
 ∃ q2 : Addr,∃ w1 : World,Ru (Instr.box 23 (.agg g0)) w0 (.pointer (some q2)) w1 ∧ ∃ q4 : Addr,∃ w2 : World,Ru (Instr.alloc 63 true (.tuple #[])) w1 (.pointer (some q4)) w2 ∧ ∃ g12 : Array Value,Ru (Instr.loadAt 23 (.pointer (some q2))) w2 (.agg g12) w2 ∧ Cal Tryz.prog F_geo_Right #[.agg g12] w2 fun r13 w3 => ∃ b13 : Bool,r13 = .bool b13 ∧ (bif !b13 then
 ∃ g15 : Array Value,Al (Instr.build 63 #[]) (.agg g15) ∧ ∃ w4 : World,RuU (Instr.storeAt 63 (.pointer (some q4)) (.agg g15)) w3 w4 ∧ ∃ gR4 : Array Value,Ru (Instr.loadAt 63 (.pointer (some q4))) w4 (.agg gR4) w4 ∧ K (.tuple #[.agg gR4,.int .i64 1]) w4
 else
 (bif (l1 : Int) != 256 then
 ∃ g20 : Array Value,Al (Instr.build 63 #[]) (.agg g20) ∧ ∃ w5 : World,RuU (Instr.storeAt 63 (.pointer (some q4)) (.agg g20)) w3 w5 ∧ ∃ gR4_2 : Array Value,Ru (Instr.loadAt 63 (.pointer (some q4))) w5 (.agg gR4_2) w5 ∧ K (.tuple #[.agg gR4_2,.int .i64 4]) w5
 else
 ∃ (a22 : Option Addr) (l22 c22 : Nat),Al (Instr.sliceAt 24 (.slice a1 l1 c1) (some (.int .i64 4)) (some (.int .i64 6)) none) (.slice a22 l22 c22) ∧ Cal Tryz.prog F_num_Get #[.slice a22 l22 c22] w3 fun r23 w6 => ∃ n23 : Int,r23 = .int .u64 n23 ∧ ∃ g25 : Array Value,Al (Instr.build 63 #[(0,.int .i64 (IntKind.i64.wrap n23))]) (.agg g25) ∧ ∃ q6 : Addr,∃ w7 : World,Ru (Instr.alloc 63 true (.tuple #[])) w6 (.pointer (some q6)) w7 ∧ ∃ w8 : World,RuU (Instr.storeAt 63 (.pointer (some q6)) (.agg g25)) w7 w8 ∧ ∃ (a27 : Option Addr) (l27 c27 : Nat),Al (Instr.sliceAt 60 (.pointer (some (Addr.add q6 1))) none none none) (.slice a27 l27 c27) ∧ ∃ (a29 : Option Addr) (l29 c29 : Nat),Al (Instr.sliceAt 24 (.slice a1 l1 c1) (some (.int .i64 16)) none none) (.slice a29 l29 c29) ∧ ∃ n30 : Int,∃ w9 : World,Ru (Builtin.copy_ #[24,24] 3 #[.slice a27 l27 c27,.slice a29 l29 c29]) (drew w8) (.int .i64 n30) w9 ∧ ∃ (a32 : Option Addr) (l32 c32 : Nat),Al (Instr.sliceAt 61 (.pointer (some (Addr.add q6 17))) none none none) (.slice a32 l32 c32) ∧ ∃ (a34 : Option Addr) (l34 c34 : Nat),Al (Instr.sliceAt 24 (.slice a1 l1 c1) (some (.int .i64 32)) none none) (.slice a34 l34 c34) ∧ ∃ n35 : Int,∃ w10 : World,Ru (Builtin.copy_ #[24,24] 3 #[.slice a32 l32 c32,.slice a34 l34 c34]) (drew w9) (.int .i64 n35) w10 ∧ ∃ g37 : Array Value,Ru (Instr.loadAt 23 (.pointer (some q2))) w10 (.agg g37) w10 ∧ ∃ g38 : Array Value,Ru (Instr.loadAt 63 (.pointer (some q6))) w10 (.agg g38) w10 ∧ Cal Tryz.prog F_group_Put #[.agg g37,.agg g38] w10 fun r39 w11 => ∃ (a39a : Option Addr) (l39a c39a : Nat),∃ n39b : Int,r39 = .tuple #[.slice a39a l39a c39a,.int .i64 n39b] ∧ Cal Tryz.prog F_num_Diff #[.slice a1 l1 c1,.slice a39a l39a c39a] w11 fun r45 w12 => ∃ n45a : Int,∃ n45b : Int,r45 = .tuple #[.int .i64 n45a,.int .i64 n45b] ∧ Share (fun k => (bif n39b != 0 then k [.bool true] w12 else k [.bool (decide (n45a ≥ 0))] w12)) fun x w13 =>
 ∃ b53 : Bool,nth x 0 = .bool b53 ∧ (bif b53 then
 ∃ g54 : Array Value,Al (Instr.build 63 #[]) (.agg g54) ∧ ∃ w14 : World,RuU (Instr.storeAt 63 (.pointer (some q4)) (.agg g54)) w13 w14 ∧ ∃ gR4_3 : Array Value,Ru (Instr.loadAt 63 (.pointer (some q4))) w14 (.agg gR4_3) w14 ∧ K (.tuple #[.agg gR4_3,.int .i64 8]) w14
 else
 ∃ g55 : Array Value,Ru (Instr.loadAt 63 (.pointer (some q6))) w13 (.agg g55) w13 ∧ ∃ w15 : World,RuU (Instr.storeAt 63 (.pointer (some q4)) (.agg g55)) w13 w15 ∧ ∃ gR4_4 : Array Value,Ru (Instr.loadAt 63 (.pointer (some q4))) w15 (.agg gR4_4) w15 ∧ K (.tuple #[.agg gR4_4,.int .i64 0]) w15)))
set_option maxRecDepth 100000 in
theorem C_group_Get (g0 : Array Value) (a1 : Option Addr) (l1 c1 : Nat) (w0 : World) (K : Value → World → Prop) (h : D_group_Get g0 a1 l1 c1 w0 K) : Cal Tryz.prog F_group_Get #[.agg g0,.slice a1 l1 c1] w0 K :=
 denF_sound (A := { S := [53],ty := [(53,4)],raw := [] }) mixed Tryz.func70 (by kernel_rfl) (by kernel_rfl) ((show denF Tryz.prog _ Tryz.f70 _ w0 K = D_group_Get g0 a1 l1 c1 w0 K by kernel_rfl).mpr h)
set_option maxRecDepth 100000 in
def D_group_Put (g0 : Array Value) (g1 : Array Value) (w0 : World) (K : Value → World → Prop) : Prop :=
 ∃ q2 : Addr,∃ w1 : World,Ru (Instr.box 23 (.agg g0)) w0 (.pointer (some q2)) w1 ∧ ∃ q3 : Addr,∃ w2 : World,Ru (Instr.box 63 (.agg g1)) w1 (.pointer (some q3)) w2 ∧ ∃ g11 : Array Value,Ru (Instr.loadAt 23 (.pointer (some q2))) w2 (.agg g11) w2 ∧ ∃ g12 : Array Value,Ru (Instr.loadAt 63 (.pointer (some q3))) w2 (.agg g12) w2 ∧ Cal Tryz.prog F_group_Right #[.agg g11,.agg g12] w2 fun r13 w3 => ∃ b13 : Bool,r13 = .bool b13 ∧ (bif !b13 then
 K (.tuple #[.slice none 0 0,.int .i64 1]) w3
 else
 ∃ (a15 : Option Addr) (l15 c15 : Nat),∃ w4 : World,Ru (Instr.makeSlice 24 (.int .i64 256) (.int .i64 256)) w3 (.slice a15 l15 c15) w4 ∧ ∃ n17 : Int,∃ w5 : World,Ru (Builtin.copy_ #[24,9] 3 #[.slice a15 l15 c15,.string (⟨#[76,71,82,80]⟩)]) w4 (.int .i64 n17) w5 ∧ ∃ g19 : Array Value,Ru (Instr.loadAt 23 (.pointer (some q2))) w5 (.agg g19) w5 ∧ ∃ g20 : Array Value,Ru (Instr.loadAt 63 (.pointer (some q3))) w5 (.agg g20) w5 ∧ Cal Tryz.prog F_group_Free #[.agg g19,.agg g20] w5 fun r21 w6 => ∃ n21a : Int,∃ n21b : Int,r21 = .tuple #[.int .i64 n21a,.int .i64 n21b] ∧ ∃ n25 : Int,Ru (Instr.loadAt 3 (.pointer (some (Addr.add q3 0)))) w6 (.int .i64 n25) w6 ∧ ∃ g28 : Array Value,Al (Instr.build 194 #[(0,.int .i64 n25),(1,.int .i64 n21a),(2,.int .i64 n21b)]) (.agg g28) ∧ LoopC (fun k x w7 =>
 ∃ n29 : Int,nth x 0 = .int .i64 n29 ∧ (bif decide (n29 < 3) then
 ∃ n32 : Int,Al (Instr.index 194 (.agg g28) (.int .i64 n29)) (.int .i64 n32) ∧ ∃ (a41 : Option Addr) (l41 c41 : Nat),Al (Instr.sliceAt 24 (.slice a15 l15 c15) (some (.int .i64 (IntKind.i64.wrap (4 + (IntKind.i64.wrap (n29 * 2)))))) (some (.int .i64 (IntKind.i64.wrap (4 + (IntKind.i64.wrap ((IntKind.i64.wrap (n29 + 1)) * 2)))))) none) (.slice a41 l41 c41) ∧ Cal Tryz.prog F_num_Put #[.slice a41 l41 c41,.int .u64 (IntKind.u64.wrap n32)] w7 fun r44 w8 => r44 = .tuple #[] ∧ k [.int .i64 (IntKind.i64.wrap (n29 + 1))] w8
 else
 ∃ (a47 : Option Addr) (l47 c47 : Nat),Al (Instr.sliceAt 24 (.slice a15 l15 c15) (some (.int .i64 16)) none none) (.slice a47 l47 c47) ∧ ∃ (a49 : Option Addr) (l49 c49 : Nat),Al (Instr.sliceAt 60 (.pointer (some (Addr.add q3 1))) none none none) (.slice a49 l49 c49) ∧ ∃ n50 : Int,∃ w9 : World,Ru (Builtin.copy_ #[24,24] 3 #[.slice a47 l47 c47,.slice a49 l49 c49]) (drew w7) (.int .i64 n50) w9 ∧ ∃ (a52 : Option Addr) (l52 c52 : Nat),Al (Instr.sliceAt 24 (.slice a15 l15 c15) (some (.int .i64 32)) none none) (.slice a52 l52 c52) ∧ ∃ (a54 : Option Addr) (l54 c54 : Nat),Al (Instr.sliceAt 61 (.pointer (some (Addr.add q3 17))) none none none) (.slice a54 l54 c54) ∧ ∃ n55 : Int,∃ w10 : World,Ru (Builtin.copy_ #[24,24] 3 #[.slice a52 l52 c52,.slice a54 l54 c54]) (drew w9) (.int .i64 n55) w10 ∧ K (.tuple #[.slice a15 l15 c15,.int .i64 0]) w10)) [.int .i64 0] w6)
set_option maxRecDepth 100000 in
theorem C_group_Put (g0 : Array Value) (g1 : Array Value) (w0 : World) (K : Value → World → Prop) (h : D_group_Put g0 g1 w0 K) : Cal Tryz.prog F_group_Put #[.agg g0,.agg g1] w0 K :=
 denF_sound (A := { S := [29],ty := [(29,3)],raw := [] }) mixed Tryz.func71 (by kernel_rfl) (by kernel_rfl) ((show denF Tryz.prog _ Tryz.f71 _ w0 K = D_group_Put g0 g1 w0 K by kernel_rfl).mpr h)
set_option maxRecDepth 100000 in
def D_geo_whole (g0 : Array Value) (w0 : World) (K : Value → World → Prop) : Prop :=
 ∃ q1 : Addr,∃ w1 : World,Ru (Instr.box 23 (.agg g0)) w0 (.pointer (some q1)) w1 ∧ ∃ q2 : Addr,∃ w2 : World,Ru (Instr.alloc 23 true (.tuple #[])) w1 (.pointer (some q2)) w2 ∧ Share (fun k => ∃ n5 : Int,Ru (Instr.loadAt 3 (.pointer (some (Addr.add q1 0)))) w2 (.int .i64 n5) w2 ∧ Cal Tryz.prog F_geo_within #[.int .i64 n5,.int .i64 16,.int .i64 128] w2 fun r6 w3 => ∃ b6 : Bool,r6 = .bool b6 ∧ (bif !b6 then k [.bool true] w3 else ∃ n10 : Int,Ru (Instr.loadAt 3 (.pointer (some (Addr.add q1 2)))) w3 (.int .i64 n10) w3 ∧ Cal Tryz.prog F_geo_within #[.int .i64 n10,.int .i64 1,.int .i64 16] w3 fun r11 w4 => ∃ b11 : Bool,r11 = .bool b11 ∧ k [.bool (!b11)] w4)) fun x w5 =>
 ∃ b3 : Bool,nth x 0 = .bool b3 ∧ (bif b3 then
 ∃ g14 : Array Value,Al (Instr.build 23 #[]) (.agg g14) ∧ ∃ w6 : World,RuU (Instr.storeAt 23 (.pointer (some q2)) (.agg g14)) w5 w6 ∧ ∃ gR2 : Array Value,Ru (Instr.loadAt 23 (.pointer (some q2))) w6 (.agg gR2) w6 ∧ K (.agg gR2) w6
 else
 Share (fun k_2 => ∃ n17 : Int,Ru (Instr.loadAt 3 (.pointer (some (Addr.add q1 1)))) w5 (.int .i64 n17) w5 ∧ Cal Tryz.prog F_geo_within #[.int .i64 n17,.int .i64 4,.int .i64 64] w5 fun r18 w7 => ∃ b18 : Bool,r18 = .bool b18 ∧ (bif !b18 then k_2 [.bool true] w7 else ∃ n22 : Int,Ru (Instr.loadAt 3 (.pointer (some (Addr.add q1 1)))) w7 (.int .i64 n22) w7 ∧ k_2 [.bool ((Int.tmod n22 4) != 0)] w7)) fun x_2 w8 =>
 ∃ b15 : Bool,nth x_2 0 = .bool b15 ∧ (bif b15 then
 ∃ g26 : Array Value,Al (Instr.build 23 #[]) (.agg g26) ∧ ∃ w9 : World,RuU (Instr.storeAt 23 (.pointer (some q2)) (.agg g26)) w8 w9 ∧ ∃ gR2_2 : Array Value,Ru (Instr.loadAt 23 (.pointer (some q2))) w9 (.agg gR2_2) w9 ∧ K (.agg gR2_2) w9
 else
 Share (fun k_3 => ∃ n29 : Int,Ru (Instr.loadAt 3 (.pointer (some (Addr.add q1 0)))) w8 (.int .i64 n29) w8 ∧ ∃ n32 : Int,Ru (Instr.loadAt 3 (.pointer (some (Addr.add q1 1)))) w8 (.int .i64 n32) w8 ∧ (bif decide ((IntKind.i64.wrap ((IntKind.i64.wrap (n29 - 1)) - (IntKind.i64.wrap (Int.tdiv n32 4)))) < 4) then k_3 [.bool true] w8 else ∃ n38 : Int,Ru (Instr.loadAt 3 (.pointer (some (Addr.add q1 2)))) w8 (.int .i64 n38) w8 ∧ ∃ n40 : Int,Ru (Instr.loadAt 3 (.pointer (some (Addr.add q1 0)))) w8 (.int .i64 n40) w8 ∧ k_3 [.bool (decide ((IntKind.i64.wrap (2 + (IntKind.i64.wrap (n38 * n40)))) > 4096))] w8)) fun x_3 w10 =>
 ∃ b27 : Bool,nth x_3 0 = .bool b27 ∧ (bif b27 then
 ∃ g45 : Array Value,Al (Instr.build 23 #[]) (.agg g45) ∧ ∃ w11 : World,RuU (Instr.storeAt 23 (.pointer (some q2)) (.agg g45)) w10 w11 ∧ ∃ gR2_3 : Array Value,Ru (Instr.loadAt 23 (.pointer (some q2))) w11 (.agg gR2_3) w11 ∧ K (.agg gR2_3) w11
 else
 ∃ g46 : Array Value,Ru (Instr.loadAt 23 (.pointer (some q1))) w10 (.agg g46) w10 ∧ ∃ w12 : World,RuU (Instr.storeAt 23 (.pointer (some q2)) (.agg g46)) w10 w12 ∧ ∃ gR2_4 : Array Value,Ru (Instr.loadAt 23 (.pointer (some q2))) w12 (.agg gR2_4) w12 ∧ K (.agg gR2_4) w12)))
set_option maxRecDepth 100000 in
theorem C_geo_whole (g0 : Array Value) (w0 : World) (K : Value → World → Prop) (h : D_geo_whole g0 w0 K) : Cal Tryz.prog F_geo_whole #[.agg g0] w0 K :=
 denF_sound (A := { S := [3,15,27],ty := [(3,4),(15,4),(27,4)],raw := [] }) mixed Tryz.func78 (by kernel_rfl) (by kernel_rfl) ((show denF Tryz.prog _ Tryz.f78 _ w0 K = D_geo_whole g0 w0 K by kernel_rfl).mpr h)
set_option maxRecDepth 100000 in
def D_disk_Disk_last (p0 : Option Addr) (n1 : Int) (w0 : World) (K : Value → World → Prop) : Prop :=
 ∃ q4 : Addr,∃ w1 : World,Ru (Instr.alloc 107 true (.tuple #[])) w0 (.pointer (some q4)) w1 ∧ ∃ q7 : Addr,(.pointer p0 : Value) = .pointer (some q7) ∧ ∃ m9 : Option Nat,Ru (Instr.loadAt 79 (.pointer (some (Addr.add q7 1)))) w1 (.map m9) w1 ∧ ∃ (a11 : Option Addr) (l11 c11 : Nat),Ru (Instr.lookup 79 (.map m9) (.int .i64 n1) false) w1 (.slice a11 l11 c11) w1 ∧ (bif decide ((l11 : Int) > 0) then
 ∃ q19 : Addr,Al (Instr.indexAt 78 (.slice a11 l11 c11) (.int .i64 (IntKind.i64.wrap ((l11 : Int) - 1)))) (.pointer (some q19)) ∧ ∃ g20 : Array Value,Ru (Instr.loadAt 107 (.pointer (some q19))) w1 (.agg g20) w1 ∧ ∃ w2 : World,RuU (Instr.storeAt 107 (.pointer (some q4)) (.agg g20)) w1 w2 ∧ ∃ gR4 : Array Value,Ru (Instr.loadAt 107 (.pointer (some q4))) w2 (.agg gR4) w2 ∧ K (.agg gR4) w2
 else
 ∃ q22 : Addr,(.pointer p0 : Value) = .pointer (some q22) ∧ ∃ (a24 : Option Addr) (l24 c24 : Nat),Ru (Instr.loadAt 78 (.pointer (some (Addr.add q22 0)))) w1 (.slice a24 l24 c24) w1 ∧ ∃ q26 : Addr,Al (Instr.indexAt 78 (.slice a24 l24 c24) (.int .i64 n1)) (.pointer (some q26)) ∧ ∃ g27 : Array Value,Ru (Instr.loadAt 107 (.pointer (some q26))) w1 (.agg g27) w1 ∧ ∃ w3 : World,RuU (Instr.storeAt 107 (.pointer (some q4)) (.agg g27)) w1 w3 ∧ ∃ gR4_2 : Array Value,Ru (Instr.loadAt 107 (.pointer (some q4))) w3 (.agg gR4_2) w3 ∧ K (.agg gR4_2) w3)
set_option maxRecDepth 100000 in
theorem C_disk_Disk_last (p0 : Option Addr) (n1 : Int) (w0 : World) (K : Value → World → Prop) (h : D_disk_Disk_last p0 n1 w0 K) : Cal Tryz.prog F_disk_Disk_last #[.pointer p0,.int .i64 n1] w0 K :=
 denF_sound (A := { S := [],ty := [],raw := [] }) mixed Tryz.func79 (by kernel_rfl) (by kernel_rfl) ((show denF Tryz.prog _ Tryz.f79 _ w0 K = D_disk_Disk_last p0 n1 w0 K by kernel_rfl).mpr h)
set_option maxRecDepth 100000 in
def D_group_Fresh (g0 : Array Value) (n1 : Int) (w0 : World) (K : Value → World → Prop) : Prop :=
 ∃ q2 : Addr,∃ w1 : World,Ru (Instr.box 23 (.agg g0)) w0 (.pointer (some q2)) w1 ∧ ∃ q4 : Addr,∃ w2 : World,Ru (Instr.alloc 63 true (.tuple #[])) w1 (.pointer (some q4)) w2 ∧ ∃ g9 : Array Value,Ru (Instr.loadAt 23 (.pointer (some q2))) w2 (.agg g9) w2 ∧ Cal Tryz.prog F_geo_Head #[.agg g9,.int .i64 n1] w2 fun r11 w3 => ∃ n11a : Int,∃ n11b : Int,r11 = .tuple #[.int .i64 n11a,.int .i64 n11b] ∧ (bif n11b != 0 then
 ∃ g16 : Array Value,Al (Instr.build 63 #[]) (.agg g16) ∧ ∃ w4 : World,RuU (Instr.storeAt 63 (.pointer (some q4)) (.agg g16)) w3 w4 ∧ ∃ gR4 : Array Value,Ru (Instr.loadAt 63 (.pointer (some q4))) w4 (.agg gR4) w4 ∧ K (.tuple #[.agg gR4,.int .i64 1]) w4
 else
 ∃ g17 : Array Value,Ru (Instr.loadAt 23 (.pointer (some q2))) w3 (.agg g17) w3 ∧ Cal Tryz.prog F_group_base #[.agg g17,.int .i64 n1] w3 fun r19 w5 => ∃ g19 : Array Value,r19 = .agg g19 ∧ ∃ w6 : World,RuU (Instr.storeAt 63 (.pointer (some q4)) (.agg g19)) w5 w6 ∧ ∃ gR4_2 : Array Value,Ru (Instr.loadAt 63 (.pointer (some q4))) w6 (.agg gR4_2) w6 ∧ K (.tuple #[.agg gR4_2,.int .i64 0]) w6)
set_option maxRecDepth 100000 in
theorem C_group_Fresh (g0 : Array Value) (n1 : Int) (w0 : World) (K : Value → World → Prop) (h : D_group_Fresh g0 n1 w0 K) : Cal Tryz.prog F_group_Fresh #[.agg g0,.int .i64 n1] w0 K :=
 denF_sound (A := { S := [],ty := [],raw := [] }) mixed Tryz.func80 (by kernel_rfl) (by kernel_rfl) ((show denF Tryz.prog _ Tryz.f80 _ w0 K = D_group_Fresh g0 n1 w0 K by kernel_rfl).mpr h)
set_option maxRecDepth 100000 in
def D_geo_Head (g0 : Array Value) (n1 : Int) (w0 : World) (K : Value → World → Prop) : Prop :=
 ∃ q2 : Addr,∃ w1 : World,Ru (Instr.box 23 (.agg g0)) w0 (.pointer (some q2)) w1 ∧ ∃ g7 : Array Value,Ru (Instr.loadAt 23 (.pointer (some q2))) w1 (.agg g7) w1 ∧ Cal Tryz.prog F_geo_Right #[.agg g7] w1 fun r8 w2 => ∃ b8 : Bool,r8 = .bool b8 ∧ (bif !b8 then
 K (.tuple #[.int .i64 0,.int .i64 1]) w2
 else
 Share (fun k => (bif decide (n1 < 0) then k [.bool true] w2 else ∃ n16 : Int,Ru (Instr.loadAt 3 (.pointer (some (Addr.add q2 2)))) w2 (.int .i64 n16) w2 ∧ k [.bool (decide (n1 ≥ n16))] w2)) fun x w3 =>
 ∃ b10 : Bool,nth x 0 = .bool b10 ∧ (bif b10 then
 K (.tuple #[.int .i64 0,.int .i64 3]) w3
 else
 ∃ n21 : Int,Ru (Instr.loadAt 3 (.pointer (some (Addr.add q2 0)))) w3 (.int .i64 n21) w3 ∧ K (.tuple #[.int .i64 (IntKind.i64.wrap (2 + (IntKind.i64.wrap (n1 * n21)))),.int .i64 0]) w3))
set_option maxRecDepth 100000 in
theorem C_geo_Head (g0 : Array Value) (n1 : Int) (w0 : World) (K : Value → World → Prop) (h : D_geo_Head g0 n1 w0 K) : Cal Tryz.prog F_geo_Head #[.agg g0,.int .i64 n1] w0 K :=
 denF_sound (A := { S := [10],ty := [(10,4)],raw := [] }) mixed Tryz.func81 (by kernel_rfl) (by kernel_rfl) ((show denF Tryz.prog _ Tryz.f81 _ w0 K = D_geo_Head g0 n1 w0 K by kernel_rfl).mpr h)
set_option maxRecDepth 100000 in
def D_geo_Tables (g0 : Array Value) (w0 : World) (K : Value → World → Prop) : Prop :=
 ∃ q1 : Addr,∃ w1 : World,Ru (Instr.box 23 (.agg g0)) w0 (.pointer (some q1)) w1 ∧ ∃ g4 : Array Value,Al (Instr.build 23 #[]) (.agg g4) ∧ ∃ q3 : Addr,∃ w2 : World,Ru (Instr.alloc 23 true (.tuple #[])) w1 (.pointer (some q3)) w2 ∧ ∃ w3 : World,RuU (Instr.storeAt 23 (.pointer (some q3)) (.agg g4)) w2 w3 ∧ ∃ g5 : Array Value,Ru (Instr.loadAt 23 (.pointer (some q1))) (drew w3) (.agg g5) (drew w3) ∧ ∃ g7 : Array Value,Ru (Instr.loadAt 23 (.pointer (some q3))) (drew w3) (.agg g7) (drew w3) ∧ Cal Tryz.prog F_geo_whole #[.agg g5] (drew w3) fun r6 w4 => ∃ g6 : Array Value,r6 = .agg g6 ∧ Ru (Instr.loadAt 23 (.pointer (some q3))) w4 (.agg g7) w4 ∧ ∃ b8 : Bool,Al (eqS .eql 23 (.tmp 6) (.tmp 7) (.agg g6) (.agg g7)) (.bool b8) ∧ (bif b8 then
 K (.int .i64 0) w4
 else
 ∃ n10 : Int,Ru (Instr.loadAt 3 (.pointer (some (Addr.add q1 1)))) w4 (.int .i64 n10) w4 ∧ K (.int .i64 (IntKind.i64.wrap (Int.tdiv n10 4))) w4)
set_option maxRecDepth 100000 in
theorem C_geo_Tables (g0 : Array Value) (w0 : World) (K : Value → World → Prop) (h : D_geo_Tables g0 w0 K) : Cal Tryz.prog F_geo_Tables #[.agg g0] w0 K :=
 denF_sound (A := { S := [],ty := [],raw := [] }) mixed Tryz.func82 (by kernel_rfl) (by kernel_rfl) ((show denF Tryz.prog _ Tryz.f82 _ w0 K = D_geo_Tables g0 w0 K by kernel_rfl).mpr h)
set_option maxRecDepth 100000 in
def D_inode_Lay (a0 : Option Addr) (l0 c0 : Nat) (n1 : Int) (g2 : Array Value) (w0 : World) (K : Value → World → Prop) : Prop :=
 ∃ q5 : Addr,∃ w1 : World,Ru (Instr.box 55 (.agg g2)) w0 (.pointer (some q5)) w1 ∧ Cal Tryz.prog F_inode_may #[.slice a0 l0 c0,.int .i64 n1] w1 fun r13 w2 => ∃ n13 : Int,r13 = .int .i64 n13 ∧ (bif n13 != 0 then
 K (.tuple #[.slice none 0 0,.int .i64 n13]) w2
 else
 ∃ g18 : Array Value,Ru (Instr.loadAt 55 (.pointer (some q5))) w2 (.agg g18) w2 ∧ Cal Tryz.prog F_inode_Put #[.agg g18] w2 fun r19 w3 => ∃ (a19a : Option Addr) (l19a c19a : Nat),∃ n19b : Int,r19 = .tuple #[.slice a19a l19a c19a,.int .i64 n19b] ∧ (bif n19b != 0 then
 K (.tuple #[.slice none 0 0,.int .i64 n19b]) w3
 else
 Cal Tryz.prog F_num_Lay #[.slice a0 l0 c0,.int .i64 (IntKind.i64.wrap (n1 * 64)),.slice a19a l19a c19a] w3 fun r29 w4 => ∃ (a29a : Option Addr) (l29a c29a : Nat),∃ n29b : Int,r29 = .tuple #[.slice a29a l29a c29a,.int .i64 n29b] ∧ K (.tuple #[.slice a29a l29a c29a,.int .i64 n29b]) w4))
set_option maxRecDepth 100000 in
theorem C_inode_Lay (a0 : Option Addr) (l0 c0 : Nat) (n1 : Int) (g2 : Array Value) (w0 : World) (K : Value → World → Prop) (h : D_inode_Lay a0 l0 c0 n1 g2 w0 K) : Cal Tryz.prog F_inode_Lay #[.slice a0 l0 c0,.int .i64 n1,.agg g2] w0 K :=
 denF_sound (A := { S := [],ty := [],raw := [] }) mixed Tryz.func83 (by kernel_rfl) (by kernel_rfl) ((show denF Tryz.prog _ Tryz.f83 _ w0 K = D_inode_Lay a0 l0 c0 n1 g2 w0 K by kernel_rfl).mpr h)
set_option maxRecDepth 100000 in
def D_super_Super_right (g0 : Array Value) (w0 : World) (K : Value → World → Prop) : Prop :=
 ∃ q1 : Addr,∃ w1 : World,Ru (Instr.box 94 (.agg g0)) w0 (.pointer (some q1)) w1 ∧ Share (fun k => ∃ n4 : Int,Ru (Instr.loadAt 2 (.pointer (some (Addr.add q1 0)))) w1 (.int .i64 n4) w1 ∧ (bif decide (n4 ≥ 1) then ∃ n8 : Int,Ru (Instr.loadAt 2 (.pointer (some (Addr.add q1 0)))) w1 (.int .i64 n8) w1 ∧ (bif decide (n8 ≤ 4611686018427387904) then ∃ g13 : Array Value,Ru (Instr.loadAt 23 (.pointer (some (Addr.add q1 1)))) w1 (.agg g13) w1 ∧ Cal Tryz.prog F_geo_Right #[.agg g13] w1 fun r14 w2 => ∃ b14 : Bool,r14 = .bool b14 ∧ k [.bool b14] w2 else k [.bool false] w1) else k [.bool false] w1)) fun x w3 =>
 ∃ b2 : Bool,nth x 0 = .bool b2 ∧ K (.bool b2) w3
set_option maxRecDepth 100000 in
theorem C_super_Super_right (g0 : Array Value) (w0 : World) (K : Value → World → Prop) (h : D_super_Super_right g0 w0 K) : Cal Tryz.prog F_super_Super_right #[.agg g0] w0 K :=
 denF_sound (A := { S := [2],ty := [(2,4)],raw := [] }) mixed Tryz.func84 (by kernel_rfl) (by kernel_rfl) ((show denF Tryz.prog _ Tryz.f84 _ w0 K = D_super_Super_right g0 w0 K by kernel_rfl).mpr h)
set_option maxRecDepth 100000 in
def D_num_Put (a0 : Option Addr) (l0 c0 : Nat) (n1 : Int) (w0 : World) (K : Value → World → Prop) : Prop :=
 LoopC (fun k x w1 =>
 ∃ n7 : Int,nth x 1 = .int .i64 n7 ∧ (bif decide (n7 < (l0 : Int)) then
 ∃ n1_2 : Int,nth x 0 = .int .u64 n1_2 ∧ ∃ q14 : Addr,Al (Instr.indexAt 24 (.slice a0 l0 c0) (.int .i64 n7)) (.pointer (some q14)) ∧ ∃ w2 : World,RuU (Instr.storeAt 5 (.pointer (some q14)) (.int .u8 (IntKind.u8.wrap n1_2))) w1 w2 ∧ k [.int .u64 (Int.fdiv n1_2 256),.int .i64 (IntKind.i64.wrap (n7 + 1))] w2
 else
 K (.tuple #[]) w1)) [.int .u64 n1,.int .i64 0] w0
set_option maxRecDepth 100000 in
theorem C_num_Put (a0 : Option Addr) (l0 c0 : Nat) (n1 : Int) (w0 : World) (K : Value → World → Prop) (h : D_num_Put a0 l0 c0 n1 w0 K) : Cal Tryz.prog F_num_Put #[.slice a0 l0 c0,.int .u64 n1] w0 K :=
 denF_sound (A := { S := [1,7],ty := [(1,144),(7,3)],raw := [] }) mixed Tryz.func85 (by kernel_rfl) (by kernel_rfl) ((show denF Tryz.prog _ Tryz.f85 _ w0 K = D_num_Put a0 l0 c0 n1 w0 K by kernel_rfl).mpr h)
set_option maxRecDepth 100000 in
def D_num_Sum (a0 : Option Addr) (l0 c0 : Nat) (w0 : World) (K : Value → World → Prop) : Prop :=
 ∃ q3 : Addr,∃ w1 : World,Ru (Instr.alloc 202 true (.tuple #[])) w0 (.pointer (some q3)) w1 ∧ LoopC (fun k x w2 =>
 ∃ n9 : Int,nth x 1 = .int .i64 n9 ∧ (bif decide (n9 < 16) then
 LoopC (fun k_2 x_2 w3 =>
 ∃ n14 : Int,nth x_2 1 = .int .i64 n14 ∧ (bif decide (n14 < 4) then
 ∃ n5 : Int,nth x_2 0 = .int .u32 n5 ∧ k_2 [.int .u32 (IntKind.u32.wrap (bvXor 32 (Int.fdiv n5 2) (IntKind.u32.wrap (3988292384 * (IntKind.u32.wrap (bvAnd 32 n5 1)))))),.int .i64 (IntKind.i64.wrap (n14 + 1))] w3
 else
 ∃ n5_2 : Int,nth x_2 0 = .int .u32 n5_2 ∧ ∃ q25 : Addr,Al (Instr.indexAt 202 (.pointer (some q3)) (.int .i64 n9)) (.pointer (some q25)) ∧ ∃ w4 : World,RuU (Instr.storeAt 145 (.pointer (some q25)) (.int .u32 n5_2)) w3 w4 ∧ k [.int .u32 n5_2,.int .i64 (IntKind.i64.wrap (n9 + 1)),.int .i64 n14] w4)) [.int .u32 (IntKind.u32.wrap n9),.int .i64 0] w2
 else
 LoopC (fun k_3 x_3 w5 =>
 ∃ n29 : Int,nth x_3 1 = .int .i64 n29 ∧ (bif decide (n29 < (l0 : Int)) then
 ∃ q31 : Addr,Al (Instr.indexAt 24 (.slice a0 l0 c0) (.int .i64 n29)) (.pointer (some q31)) ∧ ∃ n32 : Int,Ru (Instr.loadAt 5 (.pointer (some q31))) w5 (.int .u8 n32) w5 ∧ ∃ n6 : Int,nth x_3 0 = .int .u32 n6 ∧ ∃ q41 : Addr,Al (Instr.indexAt 202 (.pointer (some q3)) (.int .u32 (IntKind.u32.wrap (bvAnd 32 (IntKind.u32.wrap (bvXor 32 n6 (IntKind.u32.wrap n32))) 15)))) (.pointer (some q41)) ∧ ∃ n42 : Int,Ru (Instr.loadAt 145 (.pointer (some q41))) w5 (.int .u32 n42) w5 ∧ ∃ q48 : Addr,Al (Instr.indexAt 202 (.pointer (some q3)) (.int .u32 (IntKind.u32.wrap (bvAnd 32 (IntKind.u32.wrap (bvXor 32 (Int.fdiv (IntKind.u32.wrap (bvXor 32 n6 (IntKind.u32.wrap n32))) 16) n42)) 15)))) (.pointer (some q48)) ∧ ∃ n49 : Int,Ru (Instr.loadAt 145 (.pointer (some q48))) w5 (.int .u32 n49) w5 ∧ k_3 [.int .u32 (IntKind.u32.wrap (bvXor 32 (Int.fdiv (IntKind.u32.wrap (bvXor 32 (Int.fdiv (IntKind.u32.wrap (bvXor 32 n6 (IntKind.u32.wrap n32))) 16) n42)) 16) n49)),.int .i64 (IntKind.i64.wrap (n29 + 1))] w5
 else
 ∃ n6_2 : Int,nth x_3 0 = .int .u32 n6_2 ∧ ∃ n53 : Int,Al (Op.unary .xor (.int .u32 n6_2)) (.int .u32 n53) ∧ K (.int .u32 n53) w5)) [.int .u32 4294967295,.int .i64 0] w2)) [undef,.int .i64 0,undef] w1
set_option maxRecDepth 100000 in
theorem C_num_Sum (a0 : Option Addr) (l0 c0 : Nat) (w0 : World) (K : Value → World → Prop) (h : D_num_Sum a0 l0 c0 w0 K) : Cal Tryz.prog F_num_Sum #[.slice a0 l0 c0] w0 K :=
 denF_sound (A := { S := [5,6,9,14,29],ty := [(5,145),(6,145),(9,3),(14,3),(29,3)],raw := [] }) mixed Tryz.func86 (by kernel_rfl) (by kernel_rfl) ((show denF Tryz.prog _ Tryz.f86 _ w0 K = D_num_Sum a0 l0 c0 w0 K by kernel_rfl).mpr h)
set_option maxRecDepth 100000 in
def D_leveeref06_Fresh (g0 : Array Value) (n1 : Int) (w0 : World) (K : Value → World → Prop) : Prop :=
 ∃ q2 : Addr,∃ w1 : World,Ru (Instr.box 23 (.agg g0)) w0 (.pointer (some q2)) w1 ∧ ∃ q4 : Addr,∃ w2 : World,Ru (Instr.alloc 122 true (.tuple #[])) w1 (.pointer (some q4)) w2 ∧ (∃ (a10 : Option Addr) (l10 c10 : Nat),∃ w3 : World,Ru (Instr.makeSlice 24 (.int .i64 16) (.int .i64 16)) (drew w2) (.slice a10 l10 c10) w3 ∧ (∃ (a11 : Option Addr) (l11 c11 : Nat),∃ w4 : World,Ru (Instr.makeSlice 24 (.int .i64 8) (.int .i64 8)) w3 (.slice a11 l11 c11) w4 ∧ ∃ g12 : Array Value,Al (Instr.build 122 #[(0,.int .i64 n1),(1,.slice a10 l10 c10),(2,.slice a11 l11 c11)]) (.agg g12) ∧ ∃ q6 : Addr,∃ w5 : World,Ru (Instr.alloc 122 true (.tuple #[])) w4 (.pointer (some q6)) w5 ∧ ∃ w6 : World,RuU (Instr.storeAt 122 (.pointer (some q6)) (.agg g12)) w5 w6 ∧ Share (fun k => ∃ g13 : Array Value,Ru (Instr.loadAt 23 (.pointer (some q2))) w6 (.agg g13) w6 ∧ Cal Tryz.prog F_leveeref03_Right #[.agg g13] w6 fun r14 w7 => ∃ b14 : Bool,r14 = .bool b14 ∧ (bif !b14 then k [.bool true] w7 else (bif decide (n1 < 0) then k [.bool true] w7 else ∃ n23 : Int,Ru (Instr.loadAt 3 (.pointer (some (Addr.add q2 2)))) w7 (.int .i64 n23) w7 ∧ k [.bool (decide (n1 ≥ n23))] w7))) fun x w8 =>
 ∃ b25 : Bool,nth x 0 = .bool b25 ∧ (bif b25 then
 ∃ g26 : Array Value,Al (Instr.build 122 #[]) (.agg g26) ∧ ∃ w9 : World,RuU (Instr.storeAt 122 (.pointer (some q4)) (.agg g26)) w8 w9 ∧ ∃ gR4 : Array Value,Ru (Instr.loadAt 122 (.pointer (some q4))) w9 (.agg gR4) w9 ∧ K (.tuple #[.agg gR4,.int .i64 1]) w9
 else
 LoopC (fun k_2 x_2 w10 =>
 ∃ n7 : Int,nth x_2 0 = .int .i64 n7 ∧ ∃ n29 : Int,Ru (Instr.loadAt 3 (.pointer (some (Addr.add q2 1)))) w10 (.int .i64 n29) w10 ∧ (bif decide (n7 < (IntKind.i64.wrap (1 + (IntKind.i64.wrap (Int.tdiv n29 4))))) then
 ∃ (a37 : Option Addr) (l37 c37 : Nat),Ru (Instr.loadAt 24 (.pointer (some (Addr.add q6 1)))) w10 (.slice a37 l37 c37) w10 ∧ Cal Tryz.prog F_leveeref05_Set #[.slice a37 l37 c37,.int .i64 n7,.bool true] w10 fun r39 w11 => ∃ (a39a : Option Addr) (l39a c39a : Nat),∃ n39b : Int,r39 = .tuple #[.slice a39a l39a c39a,.int .i64 n39b] ∧ ∃ w12 : World,RuU (Instr.storeAt 24 (.pointer (some (Addr.add q6 1))) (.slice a39a l39a c39a)) w11 w12 ∧ k_2 [.int .i64 (IntKind.i64.wrap (n7 + 1))] w12
 else
 LoopC (fun k_3 x_3 w13 =>
 Share (fun k_4 => ∃ n8 : Int,nth x_3 0 = .int .i64 n8 ∧ (bif decide (n8 < 2) then k_4 [.bool (n1 == 0)] w13 else k_4 [.bool false] w13)) fun x_4 w14 =>
 ∃ b48 : Bool,nth x_4 0 = .bool b48 ∧ (bif b48 then
 ∃ (a53 : Option Addr) (l53 c53 : Nat),Ru (Instr.loadAt 24 (.pointer (some (Addr.add q6 2)))) w14 (.slice a53 l53 c53) w14 ∧ ∃ n8_2 : Int,nth x_3 0 = .int .i64 n8_2 ∧ Cal Tryz.prog F_leveeref05_Set #[.slice a53 l53 c53,.int .i64 n8_2,.bool true] w14 fun r55 w15 => ∃ (a55a : Option Addr) (l55a c55a : Nat),∃ n55b : Int,r55 = .tuple #[.slice a55a l55a c55a,.int .i64 n55b] ∧ ∃ w16 : World,RuU (Instr.storeAt 24 (.pointer (some (Addr.add q6 2))) (.slice a55a l55a c55a)) w15 w16 ∧ k_3 [.int .i64 (IntKind.i64.wrap (n8_2 + 1)),.bool b48] w16
 else
 ∃ g59 : Array Value,Ru (Instr.loadAt 122 (.pointer (some q6))) w14 (.agg g59) w14 ∧ ∃ w17 : World,RuU (Instr.storeAt 122 (.pointer (some q4)) (.agg g59)) w14 w17 ∧ ∃ gR4_2 : Array Value,Ru (Instr.loadAt 122 (.pointer (some q4))) w17 (.agg gR4_2) w17 ∧ K (.tuple #[.agg gR4_2,.int .i64 0]) w17)) [.int .i64 0,undef] w10)) [.int .i64 0] w8)) ∧ (∃ q6_2 : Addr,∃ w18 : World,Ru (Instr.alloc 122 true (.tuple #[])) w3 (.pointer (some q6_2)) w18 ∧ ∃ (a11_2 : Option Addr) (l11_2 c11_2 : Nat),∃ w19 : World,Ru (Instr.makeSlice 24 (.int .i64 8) (.int .i64 8)) w18 (.slice a11_2 l11_2 c11_2) w19 ∧ ∃ g12_2 : Array Value,Al (Instr.build 122 #[(0,.int .i64 n1),(1,.slice a10 l10 c10),(2,.slice a11_2 l11_2 c11_2)]) (.agg g12_2) ∧ ∃ w20 : World,RuU (Instr.storeAt 122 (.pointer (some q6_2)) (.agg g12_2)) w19 w20 ∧ Share (fun k_5 => ∃ g13_2 : Array Value,Ru (Instr.loadAt 23 (.pointer (some q2))) w20 (.agg g13_2) w20 ∧ Cal Tryz.prog F_leveeref03_Right #[.agg g13_2] w20 fun r14_2 w21 => ∃ b14_2 : Bool,r14_2 = .bool b14_2 ∧ (bif !b14_2 then k_5 [.bool true] w21 else (bif decide (n1 < 0) then k_5 [.bool true] w21 else ∃ n23_2 : Int,Ru (Instr.loadAt 3 (.pointer (some (Addr.add q2 2)))) w21 (.int .i64 n23_2) w21 ∧ k_5 [.bool (decide (n1 ≥ n23_2))] w21))) fun x_5 w22 =>
 ∃ b25_2 : Bool,nth x_5 0 = .bool b25_2 ∧ (bif b25_2 then
 ∃ g26_2 : Array Value,Al (Instr.build 122 #[]) (.agg g26_2) ∧ ∃ w23 : World,RuU (Instr.storeAt 122 (.pointer (some q4)) (.agg g26_2)) w22 w23 ∧ ∃ gR4_3 : Array Value,Ru (Instr.loadAt 122 (.pointer (some q4))) w23 (.agg gR4_3) w23 ∧ K (.tuple #[.agg gR4_3,.int .i64 1]) w23
 else
 LoopC (fun k_6 x_6 w24 =>
 ∃ n7_2 : Int,nth x_6 0 = .int .i64 n7_2 ∧ ∃ n29_2 : Int,Ru (Instr.loadAt 3 (.pointer (some (Addr.add q2 1)))) w24 (.int .i64 n29_2) w24 ∧ (bif decide (n7_2 < (IntKind.i64.wrap (1 + (IntKind.i64.wrap (Int.tdiv n29_2 4))))) then
 ∃ (a37_2 : Option Addr) (l37_2 c37_2 : Nat),Ru (Instr.loadAt 24 (.pointer (some (Addr.add q6_2 1)))) w24 (.slice a37_2 l37_2 c37_2) w24 ∧ Cal Tryz.prog F_leveeref05_Set #[.slice a37_2 l37_2 c37_2,.int .i64 n7_2,.bool true] w24 fun r39_2 w25 => ∃ (a39a_2 : Option Addr) (l39a_2 c39a_2 : Nat),∃ n39b_2 : Int,r39_2 = .tuple #[.slice a39a_2 l39a_2 c39a_2,.int .i64 n39b_2] ∧ ∃ w26 : World,RuU (Instr.storeAt 24 (.pointer (some (Addr.add q6_2 1))) (.slice a39a_2 l39a_2 c39a_2)) w25 w26 ∧ k_6 [.int .i64 (IntKind.i64.wrap (n7_2 + 1))] w26
 else
 LoopC (fun k_7 x_7 w27 =>
 Share (fun k_8 => ∃ n8_3 : Int,nth x_7 0 = .int .i64 n8_3 ∧ (bif decide (n8_3 < 2) then k_8 [.bool (n1 == 0)] w27 else k_8 [.bool false] w27)) fun x_8 w28 =>
 ∃ b48_2 : Bool,nth x_8 0 = .bool b48_2 ∧ (bif b48_2 then
 ∃ (a53_2 : Option Addr) (l53_2 c53_2 : Nat),Ru (Instr.loadAt 24 (.pointer (some (Addr.add q6_2 2)))) w28 (.slice a53_2 l53_2 c53_2) w28 ∧ ∃ n8_4 : Int,nth x_7 0 = .int .i64 n8_4 ∧ Cal Tryz.prog F_leveeref05_Set #[.slice a53_2 l53_2 c53_2,.int .i64 n8_4,.bool true] w28 fun r55_2 w29 => ∃ (a55a_2 : Option Addr) (l55a_2 c55a_2 : Nat),∃ n55b_2 : Int,r55_2 = .tuple #[.slice a55a_2 l55a_2 c55a_2,.int .i64 n55b_2] ∧ ∃ w30 : World,RuU (Instr.storeAt 24 (.pointer (some (Addr.add q6_2 2))) (.slice a55a_2 l55a_2 c55a_2)) w29 w30 ∧ k_7 [.int .i64 (IntKind.i64.wrap (n8_4 + 1)),.bool b48_2] w30
 else
 ∃ g59_2 : Array Value,Ru (Instr.loadAt 122 (.pointer (some q6_2))) w28 (.agg g59_2) w28 ∧ ∃ w31 : World,RuU (Instr.storeAt 122 (.pointer (some q4)) (.agg g59_2)) w28 w31 ∧ ∃ gR4_4 : Array Value,Ru (Instr.loadAt 122 (.pointer (some q4))) w31 (.agg gR4_4) w31 ∧ K (.tuple #[.agg gR4_4,.int .i64 0]) w31)) [.int .i64 0,undef] w24)) [.int .i64 0] w22))) ∧ (∃ (a11_3 : Option Addr) (l11_3 c11_3 : Nat),∃ w32 : World,Ru (Instr.makeSlice 24 (.int .i64 8) (.int .i64 8)) (drew w2) (.slice a11_3 l11_3 c11_3) w32 ∧ (∃ (a10_2 : Option Addr) (l10_2 c10_2 : Nat),∃ w33 : World,Ru (Instr.makeSlice 24 (.int .i64 16) (.int .i64 16)) w32 (.slice a10_2 l10_2 c10_2) w33 ∧ ∃ g12_3 : Array Value,Al (Instr.build 122 #[(0,.int .i64 n1),(1,.slice a10_2 l10_2 c10_2),(2,.slice a11_3 l11_3 c11_3)]) (.agg g12_3) ∧ ∃ q6_3 : Addr,∃ w34 : World,Ru (Instr.alloc 122 true (.tuple #[])) w33 (.pointer (some q6_3)) w34 ∧ ∃ w35 : World,RuU (Instr.storeAt 122 (.pointer (some q6_3)) (.agg g12_3)) w34 w35 ∧ Share (fun k_9 => ∃ g13_3 : Array Value,Ru (Instr.loadAt 23 (.pointer (some q2))) w35 (.agg g13_3) w35 ∧ Cal Tryz.prog F_leveeref03_Right #[.agg g13_3] w35 fun r14_3 w36 => ∃ b14_3 : Bool,r14_3 = .bool b14_3 ∧ (bif !b14_3 then k_9 [.bool true] w36 else (bif decide (n1 < 0) then k_9 [.bool true] w36 else ∃ n23_3 : Int,Ru (Instr.loadAt 3 (.pointer (some (Addr.add q2 2)))) w36 (.int .i64 n23_3) w36 ∧ k_9 [.bool (decide (n1 ≥ n23_3))] w36))) fun x_9 w37 =>
 ∃ b25_3 : Bool,nth x_9 0 = .bool b25_3 ∧ (bif b25_3 then
 ∃ g26_3 : Array Value,Al (Instr.build 122 #[]) (.agg g26_3) ∧ ∃ w38 : World,RuU (Instr.storeAt 122 (.pointer (some q4)) (.agg g26_3)) w37 w38 ∧ ∃ gR4_5 : Array Value,Ru (Instr.loadAt 122 (.pointer (some q4))) w38 (.agg gR4_5) w38 ∧ K (.tuple #[.agg gR4_5,.int .i64 1]) w38
 else
 LoopC (fun k_10 x_10 w39 =>
 ∃ n7_3 : Int,nth x_10 0 = .int .i64 n7_3 ∧ ∃ n29_3 : Int,Ru (Instr.loadAt 3 (.pointer (some (Addr.add q2 1)))) w39 (.int .i64 n29_3) w39 ∧ (bif decide (n7_3 < (IntKind.i64.wrap (1 + (IntKind.i64.wrap (Int.tdiv n29_3 4))))) then
 ∃ (a37_3 : Option Addr) (l37_3 c37_3 : Nat),Ru (Instr.loadAt 24 (.pointer (some (Addr.add q6_3 1)))) w39 (.slice a37_3 l37_3 c37_3) w39 ∧ Cal Tryz.prog F_leveeref05_Set #[.slice a37_3 l37_3 c37_3,.int .i64 n7_3,.bool true] w39 fun r39_3 w40 => ∃ (a39a_3 : Option Addr) (l39a_3 c39a_3 : Nat),∃ n39b_3 : Int,r39_3 = .tuple #[.slice a39a_3 l39a_3 c39a_3,.int .i64 n39b_3] ∧ ∃ w41 : World,RuU (Instr.storeAt 24 (.pointer (some (Addr.add q6_3 1))) (.slice a39a_3 l39a_3 c39a_3)) w40 w41 ∧ k_10 [.int .i64 (IntKind.i64.wrap (n7_3 + 1))] w41
 else
 LoopC (fun k_11 x_11 w42 =>
 Share (fun k_12 => ∃ n8_5 : Int,nth x_11 0 = .int .i64 n8_5 ∧ (bif decide (n8_5 < 2) then k_12 [.bool (n1 == 0)] w42 else k_12 [.bool false] w42)) fun x_12 w43 =>
 ∃ b48_3 : Bool,nth x_12 0 = .bool b48_3 ∧ (bif b48_3 then
 ∃ (a53_3 : Option Addr) (l53_3 c53_3 : Nat),Ru (Instr.loadAt 24 (.pointer (some (Addr.add q6_3 2)))) w43 (.slice a53_3 l53_3 c53_3) w43 ∧ ∃ n8_6 : Int,nth x_11 0 = .int .i64 n8_6 ∧ Cal Tryz.prog F_leveeref05_Set #[.slice a53_3 l53_3 c53_3,.int .i64 n8_6,.bool true] w43 fun r55_3 w44 => ∃ (a55a_3 : Option Addr) (l55a_3 c55a_3 : Nat),∃ n55b_3 : Int,r55_3 = .tuple #[.slice a55a_3 l55a_3 c55a_3,.int .i64 n55b_3] ∧ ∃ w45 : World,RuU (Instr.storeAt 24 (.pointer (some (Addr.add q6_3 2))) (.slice a55a_3 l55a_3 c55a_3)) w44 w45 ∧ k_11 [.int .i64 (IntKind.i64.wrap (n8_6 + 1)),.bool b48_3] w45
 else
 ∃ g59_3 : Array Value,Ru (Instr.loadAt 122 (.pointer (some q6_3))) w43 (.agg g59_3) w43 ∧ ∃ w46 : World,RuU (Instr.storeAt 122 (.pointer (some q4)) (.agg g59_3)) w43 w46 ∧ ∃ gR4_6 : Array Value,Ru (Instr.loadAt 122 (.pointer (some q4))) w46 (.agg gR4_6) w46 ∧ K (.tuple #[.agg gR4_6,.int .i64 0]) w46)) [.int .i64 0,undef] w39)) [.int .i64 0] w37)) ∧ (∃ q6_4 : Addr,∃ w47 : World,Ru (Instr.alloc 122 true (.tuple #[])) w32 (.pointer (some q6_4)) w47 ∧ ∃ (a10_3 : Option Addr) (l10_3 c10_3 : Nat),∃ w48 : World,Ru (Instr.makeSlice 24 (.int .i64 16) (.int .i64 16)) w47 (.slice a10_3 l10_3 c10_3) w48 ∧ ∃ g12_4 : Array Value,Al (Instr.build 122 #[(0,.int .i64 n1),(1,.slice a10_3 l10_3 c10_3),(2,.slice a11_3 l11_3 c11_3)]) (.agg g12_4) ∧ ∃ w49 : World,RuU (Instr.storeAt 122 (.pointer (some q6_4)) (.agg g12_4)) w48 w49 ∧ Share (fun k_13 => ∃ g13_4 : Array Value,Ru (Instr.loadAt 23 (.pointer (some q2))) w49 (.agg g13_4) w49 ∧ Cal Tryz.prog F_leveeref03_Right #[.agg g13_4] w49 fun r14_4 w50 => ∃ b14_4 : Bool,r14_4 = .bool b14_4 ∧ (bif !b14_4 then k_13 [.bool true] w50 else (bif decide (n1 < 0) then k_13 [.bool true] w50 else ∃ n23_4 : Int,Ru (Instr.loadAt 3 (.pointer (some (Addr.add q2 2)))) w50 (.int .i64 n23_4) w50 ∧ k_13 [.bool (decide (n1 ≥ n23_4))] w50))) fun x_13 w51 =>
 ∃ b25_4 : Bool,nth x_13 0 = .bool b25_4 ∧ (bif b25_4 then
 ∃ g26_4 : Array Value,Al (Instr.build 122 #[]) (.agg g26_4) ∧ ∃ w52 : World,RuU (Instr.storeAt 122 (.pointer (some q4)) (.agg g26_4)) w51 w52 ∧ ∃ gR4_7 : Array Value,Ru (Instr.loadAt 122 (.pointer (some q4))) w52 (.agg gR4_7) w52 ∧ K (.tuple #[.agg gR4_7,.int .i64 1]) w52
 else
 LoopC (fun k_14 x_14 w53 =>
 ∃ n7_4 : Int,nth x_14 0 = .int .i64 n7_4 ∧ ∃ n29_4 : Int,Ru (Instr.loadAt 3 (.pointer (some (Addr.add q2 1)))) w53 (.int .i64 n29_4) w53 ∧ (bif decide (n7_4 < (IntKind.i64.wrap (1 + (IntKind.i64.wrap (Int.tdiv n29_4 4))))) then
 ∃ (a37_4 : Option Addr) (l37_4 c37_4 : Nat),Ru (Instr.loadAt 24 (.pointer (some (Addr.add q6_4 1)))) w53 (.slice a37_4 l37_4 c37_4) w53 ∧ Cal Tryz.prog F_leveeref05_Set #[.slice a37_4 l37_4 c37_4,.int .i64 n7_4,.bool true] w53 fun r39_4 w54 => ∃ (a39a_4 : Option Addr) (l39a_4 c39a_4 : Nat),∃ n39b_4 : Int,r39_4 = .tuple #[.slice a39a_4 l39a_4 c39a_4,.int .i64 n39b_4] ∧ ∃ w55 : World,RuU (Instr.storeAt 24 (.pointer (some (Addr.add q6_4 1))) (.slice a39a_4 l39a_4 c39a_4)) w54 w55 ∧ k_14 [.int .i64 (IntKind.i64.wrap (n7_4 + 1))] w55
 else
 LoopC (fun k_15 x_15 w56 =>
 Share (fun k_16 => ∃ n8_7 : Int,nth x_15 0 = .int .i64 n8_7 ∧ (bif decide (n8_7 < 2) then k_16 [.bool (n1 == 0)] w56 else k_16 [.bool false] w56)) fun x_16 w57 =>
 ∃ b48_4 : Bool,nth x_16 0 = .bool b48_4 ∧ (bif b48_4 then
 ∃ (a53_4 : Option Addr) (l53_4 c53_4 : Nat),Ru (Instr.loadAt 24 (.pointer (some (Addr.add q6_4 2)))) w57 (.slice a53_4 l53_4 c53_4) w57 ∧ ∃ n8_8 : Int,nth x_15 0 = .int .i64 n8_8 ∧ Cal Tryz.prog F_leveeref05_Set #[.slice a53_4 l53_4 c53_4,.int .i64 n8_8,.bool true] w57 fun r55_4 w58 => ∃ (a55a_4 : Option Addr) (l55a_4 c55a_4 : Nat),∃ n55b_4 : Int,r55_4 = .tuple #[.slice a55a_4 l55a_4 c55a_4,.int .i64 n55b_4] ∧ ∃ w59 : World,RuU (Instr.storeAt 24 (.pointer (some (Addr.add q6_4 2))) (.slice a55a_4 l55a_4 c55a_4)) w58 w59 ∧ k_15 [.int .i64 (IntKind.i64.wrap (n8_8 + 1)),.bool b48_4] w59
 else
 ∃ g59_4 : Array Value,Ru (Instr.loadAt 122 (.pointer (some q6_4))) w57 (.agg g59_4) w57 ∧ ∃ w60 : World,RuU (Instr.storeAt 122 (.pointer (some q4)) (.agg g59_4)) w57 w60 ∧ ∃ gR4_8 : Array Value,Ru (Instr.loadAt 122 (.pointer (some q4))) w60 (.agg gR4_8) w60 ∧ K (.tuple #[.agg gR4_8,.int .i64 0]) w60)) [.int .i64 0,undef] w53)) [.int .i64 0] w51))) ∧ (∃ q6_5 : Addr,∃ w61 : World,Ru (Instr.alloc 122 true (.tuple #[])) (drew w2) (.pointer (some q6_5)) w61 ∧ (∃ (a10_4 : Option Addr) (l10_4 c10_4 : Nat),∃ w62 : World,Ru (Instr.makeSlice 24 (.int .i64 16) (.int .i64 16)) w61 (.slice a10_4 l10_4 c10_4) w62 ∧ ∃ (a11_4 : Option Addr) (l11_4 c11_4 : Nat),∃ w63 : World,Ru (Instr.makeSlice 24 (.int .i64 8) (.int .i64 8)) w62 (.slice a11_4 l11_4 c11_4) w63 ∧ ∃ g12_5 : Array Value,Al (Instr.build 122 #[(0,.int .i64 n1),(1,.slice a10_4 l10_4 c10_4),(2,.slice a11_4 l11_4 c11_4)]) (.agg g12_5) ∧ ∃ w64 : World,RuU (Instr.storeAt 122 (.pointer (some q6_5)) (.agg g12_5)) w63 w64 ∧ Share (fun k_17 => ∃ g13_5 : Array Value,Ru (Instr.loadAt 23 (.pointer (some q2))) w64 (.agg g13_5) w64 ∧ Cal Tryz.prog F_leveeref03_Right #[.agg g13_5] w64 fun r14_5 w65 => ∃ b14_5 : Bool,r14_5 = .bool b14_5 ∧ (bif !b14_5 then k_17 [.bool true] w65 else (bif decide (n1 < 0) then k_17 [.bool true] w65 else ∃ n23_5 : Int,Ru (Instr.loadAt 3 (.pointer (some (Addr.add q2 2)))) w65 (.int .i64 n23_5) w65 ∧ k_17 [.bool (decide (n1 ≥ n23_5))] w65))) fun x_17 w66 =>
 ∃ b25_5 : Bool,nth x_17 0 = .bool b25_5 ∧ (bif b25_5 then
 ∃ g26_5 : Array Value,Al (Instr.build 122 #[]) (.agg g26_5) ∧ ∃ w67 : World,RuU (Instr.storeAt 122 (.pointer (some q4)) (.agg g26_5)) w66 w67 ∧ ∃ gR4_9 : Array Value,Ru (Instr.loadAt 122 (.pointer (some q4))) w67 (.agg gR4_9) w67 ∧ K (.tuple #[.agg gR4_9,.int .i64 1]) w67
 else
 LoopC (fun k_18 x_18 w68 =>
 ∃ n7_5 : Int,nth x_18 0 = .int .i64 n7_5 ∧ ∃ n29_5 : Int,Ru (Instr.loadAt 3 (.pointer (some (Addr.add q2 1)))) w68 (.int .i64 n29_5) w68 ∧ (bif decide (n7_5 < (IntKind.i64.wrap (1 + (IntKind.i64.wrap (Int.tdiv n29_5 4))))) then
 ∃ (a37_5 : Option Addr) (l37_5 c37_5 : Nat),Ru (Instr.loadAt 24 (.pointer (some (Addr.add q6_5 1)))) w68 (.slice a37_5 l37_5 c37_5) w68 ∧ Cal Tryz.prog F_leveeref05_Set #[.slice a37_5 l37_5 c37_5,.int .i64 n7_5,.bool true] w68 fun r39_5 w69 => ∃ (a39a_5 : Option Addr) (l39a_5 c39a_5 : Nat),∃ n39b_5 : Int,r39_5 = .tuple #[.slice a39a_5 l39a_5 c39a_5,.int .i64 n39b_5] ∧ ∃ w70 : World,RuU (Instr.storeAt 24 (.pointer (some (Addr.add q6_5 1))) (.slice a39a_5 l39a_5 c39a_5)) w69 w70 ∧ k_18 [.int .i64 (IntKind.i64.wrap (n7_5 + 1))] w70
 else
 LoopC (fun k_19 x_19 w71 =>
 Share (fun k_20 => ∃ n8_9 : Int,nth x_19 0 = .int .i64 n8_9 ∧ (bif decide (n8_9 < 2) then k_20 [.bool (n1 == 0)] w71 else k_20 [.bool false] w71)) fun x_20 w72 =>
 ∃ b48_5 : Bool,nth x_20 0 = .bool b48_5 ∧ (bif b48_5 then
 ∃ (a53_5 : Option Addr) (l53_5 c53_5 : Nat),Ru (Instr.loadAt 24 (.pointer (some (Addr.add q6_5 2)))) w72 (.slice a53_5 l53_5 c53_5) w72 ∧ ∃ n8_10 : Int,nth x_19 0 = .int .i64 n8_10 ∧ Cal Tryz.prog F_leveeref05_Set #[.slice a53_5 l53_5 c53_5,.int .i64 n8_10,.bool true] w72 fun r55_5 w73 => ∃ (a55a_5 : Option Addr) (l55a_5 c55a_5 : Nat),∃ n55b_5 : Int,r55_5 = .tuple #[.slice a55a_5 l55a_5 c55a_5,.int .i64 n55b_5] ∧ ∃ w74 : World,RuU (Instr.storeAt 24 (.pointer (some (Addr.add q6_5 2))) (.slice a55a_5 l55a_5 c55a_5)) w73 w74 ∧ k_19 [.int .i64 (IntKind.i64.wrap (n8_10 + 1)),.bool b48_5] w74
 else
 ∃ g59_5 : Array Value,Ru (Instr.loadAt 122 (.pointer (some q6_5))) w72 (.agg g59_5) w72 ∧ ∃ w75 : World,RuU (Instr.storeAt 122 (.pointer (some q4)) (.agg g59_5)) w72 w75 ∧ ∃ gR4_10 : Array Value,Ru (Instr.loadAt 122 (.pointer (some q4))) w75 (.agg gR4_10) w75 ∧ K (.tuple #[.agg gR4_10,.int .i64 0]) w75)) [.int .i64 0,undef] w68)) [.int .i64 0] w66)) ∧ (∃ (a11_5 : Option Addr) (l11_5 c11_5 : Nat),∃ w76 : World,Ru (Instr.makeSlice 24 (.int .i64 8) (.int .i64 8)) w61 (.slice a11_5 l11_5 c11_5) w76 ∧ ∃ (a10_5 : Option Addr) (l10_5 c10_5 : Nat),∃ w77 : World,Ru (Instr.makeSlice 24 (.int .i64 16) (.int .i64 16)) w76 (.slice a10_5 l10_5 c10_5) w77 ∧ ∃ g12_6 : Array Value,Al (Instr.build 122 #[(0,.int .i64 n1),(1,.slice a10_5 l10_5 c10_5),(2,.slice a11_5 l11_5 c11_5)]) (.agg g12_6) ∧ ∃ w78 : World,RuU (Instr.storeAt 122 (.pointer (some q6_5)) (.agg g12_6)) w77 w78 ∧ Share (fun k_21 => ∃ g13_6 : Array Value,Ru (Instr.loadAt 23 (.pointer (some q2))) w78 (.agg g13_6) w78 ∧ Cal Tryz.prog F_leveeref03_Right #[.agg g13_6] w78 fun r14_6 w79 => ∃ b14_6 : Bool,r14_6 = .bool b14_6 ∧ (bif !b14_6 then k_21 [.bool true] w79 else (bif decide (n1 < 0) then k_21 [.bool true] w79 else ∃ n23_6 : Int,Ru (Instr.loadAt 3 (.pointer (some (Addr.add q2 2)))) w79 (.int .i64 n23_6) w79 ∧ k_21 [.bool (decide (n1 ≥ n23_6))] w79))) fun x_21 w80 =>
 ∃ b25_6 : Bool,nth x_21 0 = .bool b25_6 ∧ (bif b25_6 then
 ∃ g26_6 : Array Value,Al (Instr.build 122 #[]) (.agg g26_6) ∧ ∃ w81 : World,RuU (Instr.storeAt 122 (.pointer (some q4)) (.agg g26_6)) w80 w81 ∧ ∃ gR4_11 : Array Value,Ru (Instr.loadAt 122 (.pointer (some q4))) w81 (.agg gR4_11) w81 ∧ K (.tuple #[.agg gR4_11,.int .i64 1]) w81
 else
 LoopC (fun k_22 x_22 w82 =>
 ∃ n7_6 : Int,nth x_22 0 = .int .i64 n7_6 ∧ ∃ n29_6 : Int,Ru (Instr.loadAt 3 (.pointer (some (Addr.add q2 1)))) w82 (.int .i64 n29_6) w82 ∧ (bif decide (n7_6 < (IntKind.i64.wrap (1 + (IntKind.i64.wrap (Int.tdiv n29_6 4))))) then
 ∃ (a37_6 : Option Addr) (l37_6 c37_6 : Nat),Ru (Instr.loadAt 24 (.pointer (some (Addr.add q6_5 1)))) w82 (.slice a37_6 l37_6 c37_6) w82 ∧ Cal Tryz.prog F_leveeref05_Set #[.slice a37_6 l37_6 c37_6,.int .i64 n7_6,.bool true] w82 fun r39_6 w83 => ∃ (a39a_6 : Option Addr) (l39a_6 c39a_6 : Nat),∃ n39b_6 : Int,r39_6 = .tuple #[.slice a39a_6 l39a_6 c39a_6,.int .i64 n39b_6] ∧ ∃ w84 : World,RuU (Instr.storeAt 24 (.pointer (some (Addr.add q6_5 1))) (.slice a39a_6 l39a_6 c39a_6)) w83 w84 ∧ k_22 [.int .i64 (IntKind.i64.wrap (n7_6 + 1))] w84
 else
 LoopC (fun k_23 x_23 w85 =>
 Share (fun k_24 => ∃ n8_11 : Int,nth x_23 0 = .int .i64 n8_11 ∧ (bif decide (n8_11 < 2) then k_24 [.bool (n1 == 0)] w85 else k_24 [.bool false] w85)) fun x_24 w86 =>
 ∃ b48_6 : Bool,nth x_24 0 = .bool b48_6 ∧ (bif b48_6 then
 ∃ (a53_6 : Option Addr) (l53_6 c53_6 : Nat),Ru (Instr.loadAt 24 (.pointer (some (Addr.add q6_5 2)))) w86 (.slice a53_6 l53_6 c53_6) w86 ∧ ∃ n8_12 : Int,nth x_23 0 = .int .i64 n8_12 ∧ Cal Tryz.prog F_leveeref05_Set #[.slice a53_6 l53_6 c53_6,.int .i64 n8_12,.bool true] w86 fun r55_6 w87 => ∃ (a55a_6 : Option Addr) (l55a_6 c55a_6 : Nat),∃ n55b_6 : Int,r55_6 = .tuple #[.slice a55a_6 l55a_6 c55a_6,.int .i64 n55b_6] ∧ ∃ w88 : World,RuU (Instr.storeAt 24 (.pointer (some (Addr.add q6_5 2))) (.slice a55a_6 l55a_6 c55a_6)) w87 w88 ∧ k_23 [.int .i64 (IntKind.i64.wrap (n8_12 + 1)),.bool b48_6] w88
 else
 ∃ g59_6 : Array Value,Ru (Instr.loadAt 122 (.pointer (some q6_5))) w86 (.agg g59_6) w86 ∧ ∃ w89 : World,RuU (Instr.storeAt 122 (.pointer (some q4)) (.agg g59_6)) w86 w89 ∧ ∃ gR4_12 : Array Value,Ru (Instr.loadAt 122 (.pointer (some q4))) w89 (.agg gR4_12) w89 ∧ K (.tuple #[.agg gR4_12,.int .i64 0]) w89)) [.int .i64 0,undef] w82)) [.int .i64 0] w80)))
set_option maxRecDepth 100000 in
theorem C_leveeref06_Fresh (g0 : Array Value) (n1 : Int) (w0 : World) (K : Value → World → Prop) (h : D_leveeref06_Fresh g0 n1 w0 K) : Cal Tryz.prog F_leveeref06_Fresh #[.agg g0,.int .i64 n1] w0 K :=
 denF_sound (A := { S := [7,8,25,48],ty := [(7,3),(8,3),(25,4),(48,4)],raw := [] }) mixed Tryz.func87 (by kernel_rfl) (by kernel_rfl) ((show denF Tryz.prog _ Tryz.f87 _ w0 K = D_leveeref06_Fresh g0 n1 w0 K by kernel_rfl).mpr h)
set_option maxRecDepth 100000 in
def D_leveeref06_Put (g0 : Array Value) (g1 : Array Value) (w0 : World) (K : Value → World → Prop) : Prop :=
 ∃ q2 : Addr,∃ w1 : World,Ru (Instr.box 23 (.agg g0)) w0 (.pointer (some q2)) w1 ∧ ∃ q3 : Addr,∃ w2 : World,Ru (Instr.box 122 (.agg g1)) w1 (.pointer (some q3)) w2 ∧ ∃ g9 : Array Value,Ru (Instr.loadAt 23 (.pointer (some q2))) w2 (.agg g9) w2 ∧ ∃ g10 : Array Value,Ru (Instr.loadAt 122 (.pointer (some q3))) w2 (.agg g10) w2 ∧ Cal Tryz.prog F_leveeref06_Right #[.agg g9,.agg g10] w2 fun r11 w3 => ∃ b11 : Bool,r11 = .bool b11 ∧ (bif !b11 then
 K (.tuple #[.slice none 0 0,.int .i64 1]) w3
 else
 ∃ g14 : Array Value,Ru (Instr.loadAt 23 (.pointer (some q2))) w3 (.agg g14) w3 ∧ ∃ g15 : Array Value,Ru (Instr.loadAt 122 (.pointer (some q3))) w3 (.agg g15) w3 ∧ Cal Tryz.prog F_leveeref06_Free #[.agg g14,.agg g15] w3 fun r16 w4 => ∃ n16a : Int,∃ n16b : Int,r16 = .tuple #[.int .i64 n16a,.int .i64 n16b] ∧ ∃ (a19 : Option Addr) (l19 c19 : Nat),∃ w5 : World,Ru (Instr.buildSlice 24 4 #[(0,.int .u8 76),(1,.int .u8 71),(2,.int .u8 82),(3,.int .u8 80)]) w4 (.slice a19 l19 c19) w5 ∧ ∃ (a20 : Option Addr) (l20 c20 : Nat),∃ w6 : World,Ru (convert 24 24 (.slice a19 l19 c19)) w5 (.slice a20 l20 c20) w6 ∧ ∃ n23 : Int,Ru (Instr.loadAt 3 (.pointer (some (Addr.add q3 0)))) w6 (.int .i64 n23) w6 ∧ Cal Tryz.prog F_leveeref01_Bytes #[.int .u64 (IntKind.u64.wrap n23),.int .i64 2] w6 fun r25 w7 => ∃ (a25 : Option Addr) (l25 c25 : Nat),r25 = .slice a25 l25 c25 ∧ ∃ (a26 : Option Addr) (l26 c26 : Nat),∃ w8 : World,Ru (Builtin.append_ #[24,24] 24 #[.slice a20 l20 c20,.slice a25 l25 c25]) w7 (.slice a26 l26 c26) w8 ∧ Cal Tryz.prog F_leveeref01_Bytes #[.int .u64 (IntKind.u64.wrap n16a),.int .i64 2] w8 fun r30 w9 => ∃ (a30 : Option Addr) (l30 c30 : Nat),r30 = .slice a30 l30 c30 ∧ ∃ (a31 : Option Addr) (l31 c31 : Nat),∃ w10 : World,Ru (Builtin.append_ #[24,24] 24 #[.slice a26 l26 c26,.slice a30 l30 c30]) w9 (.slice a31 l31 c31) w10 ∧ Cal Tryz.prog F_leveeref01_Bytes #[.int .u64 (IntKind.u64.wrap n16b),.int .i64 2] w10 fun r35 w11 => ∃ (a35 : Option Addr) (l35 c35 : Nat),r35 = .slice a35 l35 c35 ∧ ∃ (a36 : Option Addr) (l36 c36 : Nat),∃ w12 : World,Ru (Builtin.append_ #[24,24] 24 #[.slice a31 l31 c31,.slice a35 l35 c35]) w11 (.slice a36 l36 c36) w12 ∧ LoopC (fun k x w13 =>
 ∃ (a8 : Option Addr) (l8 c8 : Nat),nth x 0 = .slice a8 l8 c8 ∧ (bif decide ((l8 : Int) < 16) then
 ∃ (a41 : Option Addr) (l41 c41 : Nat),∃ w14 : World,Ru (Instr.buildSlice 24 1 #[(0,.int .u8 0)]) w13 (.slice a41 l41 c41) w14 ∧ ∃ (a42 : Option Addr) (l42 c42 : Nat),∃ w15 : World,Ru (Builtin.append_ #[24,24] 24 #[.slice a8 l8 c8,.slice a41 l41 c41]) w14 (.slice a42 l42 c42) w15 ∧ k [.slice a42 l42 c42] w15
 else
 ∃ (a45 : Option Addr) (l45 c45 : Nat),Ru (Instr.loadAt 24 (.pointer (some (Addr.add q3 1)))) w13 (.slice a45 l45 c45) w13 ∧ ∃ (a46 : Option Addr) (l46 c46 : Nat),∃ w16 : World,Ru (Builtin.append_ #[24,24] 24 #[.slice a8 l8 c8,.slice a45 l45 c45]) w13 (.slice a46 l46 c46) w16 ∧ ∃ (a49 : Option Addr) (l49 c49 : Nat),Ru (Instr.loadAt 24 (.pointer (some (Addr.add q3 2)))) w16 (.slice a49 l49 c49) w16 ∧ ∃ (a50 : Option Addr) (l50 c50 : Nat),∃ w17 : World,Ru (Builtin.append_ #[24,24] 24 #[.slice a46 l46 c46,.slice a49 l49 c49]) w16 (.slice a50 l50 c50) w17 ∧ LoopC (fun k_2 x_2 w18 =>
 ∃ (a8_2 : Option Addr) (l8_2 c8_2 : Nat),nth x_2 0 = .slice a8_2 l8_2 c8_2 ∧ (bif decide ((l8_2 : Int) < 256) then
 ∃ (a55 : Option Addr) (l55 c55 : Nat),∃ w19 : World,Ru (Instr.buildSlice 24 1 #[(0,.int .u8 0)]) w18 (.slice a55 l55 c55) w19 ∧ ∃ (a56 : Option Addr) (l56 c56 : Nat),∃ w20 : World,Ru (Builtin.append_ #[24,24] 24 #[.slice a8_2 l8_2 c8_2,.slice a55 l55 c55]) w19 (.slice a56 l56 c56) w20 ∧ k_2 [.slice a56 l56 c56] w20
 else
 K (.tuple #[.slice a8_2 l8_2 c8_2,.int .i64 0]) w18)) [.slice a50 l50 c50] w17)) [.slice a36 l36 c36] w12)
set_option maxRecDepth 100000 in
theorem C_leveeref06_Put (g0 : Array Value) (g1 : Array Value) (w0 : World) (K : Value → World → Prop) (h : D_leveeref06_Put g0 g1 w0 K) : Cal Tryz.prog F_leveeref06_Put #[.agg g0,.agg g1] w0 K :=
 denF_sound (A := { S := [8],ty := [(8,24)],raw := [] }) mixed Tryz.func88 (by kernel_rfl) (by kernel_rfl) ((show denF Tryz.prog _ Tryz.f88 _ w0 K = D_leveeref06_Put g0 g1 w0 K by kernel_rfl).mpr h)
set_option maxRecDepth 100000 in
def D_leveeref03_Head (g0 : Array Value) (n1 : Int) (w0 : World) (K : Value → World → Prop) : Prop :=
 ∃ q2 : Addr,∃ w1 : World,Ru (Instr.box 23 (.agg g0)) w0 (.pointer (some q2)) w1 ∧ ∃ g6 : Array Value,Ru (Instr.loadAt 23 (.pointer (some q2))) w1 (.agg g6) w1 ∧ Cal Tryz.prog F_leveeref03_Right #[.agg g6] w1 fun r7 w2 => ∃ b7 : Bool,r7 = .bool b7 ∧ (bif !b7 then
 K (.tuple #[.int .i64 0,.int .i64 1]) w2
 else
 Share (fun k => (bif decide (n1 < 0) then k [.bool true] w2 else ∃ n14 : Int,Ru (Instr.loadAt 3 (.pointer (some (Addr.add q2 2)))) w2 (.int .i64 n14) w2 ∧ k [.bool (decide (n1 ≥ n14))] w2)) fun x w3 =>
 ∃ b16 : Bool,nth x 0 = .bool b16 ∧ (bif b16 then
 K (.tuple #[.int .i64 0,.int .i64 3]) w3
 else
 ∃ n19 : Int,Ru (Instr.loadAt 3 (.pointer (some (Addr.add q2 0)))) w3 (.int .i64 n19) w3 ∧ K (.tuple #[.int .i64 (IntKind.i64.wrap (2 + (IntKind.i64.wrap (n1 * n19)))),.int .i64 0]) w3))
set_option maxRecDepth 100000 in
theorem C_leveeref03_Head (g0 : Array Value) (n1 : Int) (w0 : World) (K : Value → World → Prop) (h : D_leveeref03_Head g0 n1 w0 K) : Cal Tryz.prog F_leveeref03_Head #[.agg g0,.int .i64 n1] w0 K :=
 denF_sound (A := { S := [16],ty := [(16,4)],raw := [] }) mixed Tryz.func89 (by kernel_rfl) (by kernel_rfl) ((show denF Tryz.prog _ Tryz.f89 _ w0 K = D_leveeref03_Head g0 n1 w0 K by kernel_rfl).mpr h)
set_option maxRecDepth 100000 in
def D_leveeref03_Tables (g0 : Array Value) (w0 : World) (K : Value → World → Prop) : Prop :=
 ∃ q1 : Addr,∃ w1 : World,Ru (Instr.box 23 (.agg g0)) w0 (.pointer (some q1)) w1 ∧ ∃ g3 : Array Value,Ru (Instr.loadAt 23 (.pointer (some q1))) w1 (.agg g3) w1 ∧ Cal Tryz.prog F_leveeref03_Right #[.agg g3] w1 fun r4 w2 => ∃ b4 : Bool,r4 = .bool b4 ∧ (bif !b4 then
 K (.int .i64 0) w2
 else
 ∃ n7 : Int,Ru (Instr.loadAt 3 (.pointer (some (Addr.add q1 1)))) w2 (.int .i64 n7) w2 ∧ K (.int .i64 (IntKind.i64.wrap (Int.tdiv n7 4))) w2)
set_option maxRecDepth 100000 in
theorem C_leveeref03_Tables (g0 : Array Value) (w0 : World) (K : Value → World → Prop) (h : D_leveeref03_Tables g0 w0 K) : Cal Tryz.prog F_leveeref03_Tables #[.agg g0] w0 K :=
 denF_sound (A := { S := [],ty := [],raw := [] }) mixed Tryz.func90 (by kernel_rfl) (by kernel_rfl) ((show denF Tryz.prog _ Tryz.f90 _ w0 K = D_leveeref03_Tables g0 w0 K by kernel_rfl).mpr h)
set_option maxRecDepth 100000 in
def D_leveeref07_Lay (a0 : Option Addr) (l0 c0 : Nat) (n1 : Int) (g2 : Array Value) (w0 : World) (K : Value → World → Prop) : Prop :=
 ∃ q5 : Addr,∃ w1 : World,Ru (Instr.box 55 (.agg g2)) w0 (.pointer (some q5)) w1 ∧ (bif (l0 : Int) != 256 then
 K (.tuple #[.slice none 0 0,.int .i64 4]) w1
 else
 Share (fun k => (bif decide (n1 < 0) then k [.bool true] w1 else k [.bool (decide (n1 > 3))] w1)) fun x w2 =>
 ∃ b18 : Bool,nth x 0 = .bool b18 ∧ (bif b18 then
 K (.tuple #[.slice none 0 0,.int .i64 3]) w2
 else
 ∃ g20 : Array Value,Ru (Instr.loadAt 55 (.pointer (some q5))) w2 (.agg g20) w2 ∧ Cal Tryz.prog F_leveeref07_Put #[.agg g20] w2 fun r21 w3 => ∃ (a21a : Option Addr) (l21a c21a : Nat),∃ n21b : Int,r21 = .tuple #[.slice a21a l21a c21a,.int .i64 n21b] ∧ (bif n21b != 0 then
 K (.tuple #[.slice none 0 0,.int .i64 n21b]) w3
 else
 Cal Tryz.prog F_leveeref01_Lay #[.slice a0 l0 c0,.int .i64 (IntKind.i64.wrap (64 * n1)),.slice a21a l21a c21a] w3 fun r31 w4 => ∃ (a31a : Option Addr) (l31a c31a : Nat),∃ n31b : Int,r31 = .tuple #[.slice a31a l31a c31a,.int .i64 n31b] ∧ K (.tuple #[.slice a31a l31a c31a,.int .i64 n31b]) w4)))
set_option maxRecDepth 100000 in
theorem C_leveeref07_Lay (a0 : Option Addr) (l0 c0 : Nat) (n1 : Int) (g2 : Array Value) (w0 : World) (K : Value → World → Prop) (h : D_leveeref07_Lay a0 l0 c0 n1 g2 w0 K) : Cal Tryz.prog F_leveeref07_Lay #[.slice a0 l0 c0,.int .i64 n1,.agg g2] w0 K :=
 denF_sound (A := { S := [18],ty := [(18,4)],raw := [] }) mixed Tryz.func91 (by kernel_rfl) (by kernel_rfl) ((show denF Tryz.prog _ Tryz.f91 _ w0 K = D_leveeref07_Lay a0 l0 c0 n1 g2 w0 K by kernel_rfl).mpr h)
set_option maxRecDepth 100000 in
def D_leveeref04_Right (g0 : Array Value) (w0 : World) (K : Value → World → Prop) : Prop :=
 ∃ q1 : Addr,∃ w1 : World,Ru (Instr.box 100 (.agg g0)) w0 (.pointer (some q1)) w1 ∧ Share (fun k => ∃ n4 : Int,Ru (Instr.loadAt 2 (.pointer (some (Addr.add q1 0)))) w1 (.int .i64 n4) w1 ∧ (bif decide (n4 ≥ 1) then ∃ n8 : Int,Ru (Instr.loadAt 2 (.pointer (some (Addr.add q1 0)))) w1 (.int .i64 n8) w1 ∧ (bif decide (n8 ≤ 4611686018427387904) then ∃ g13 : Array Value,Ru (Instr.loadAt 23 (.pointer (some (Addr.add q1 1)))) w1 (.agg g13) w1 ∧ Cal Tryz.prog F_leveeref03_Right #[.agg g13] w1 fun r14 w2 => ∃ b14 : Bool,r14 = .bool b14 ∧ k [.bool b14] w2 else k [.bool false] w1) else k [.bool false] w1)) fun x w3 =>
 ∃ b2 : Bool,nth x 0 = .bool b2 ∧ K (.bool b2) w3
set_option maxRecDepth 100000 in
theorem C_leveeref04_Right (g0 : Array Value) (w0 : World) (K : Value → World → Prop) (h : D_leveeref04_Right g0 w0 K) : Cal Tryz.prog F_leveeref04_Right #[.agg g0] w0 K :=
 denF_sound (A := { S := [2],ty := [(2,4)],raw := [] }) mixed Tryz.func92 (by kernel_rfl) (by kernel_rfl) ((show denF Tryz.prog _ Tryz.f92 _ w0 K = D_leveeref04_Right g0 w0 K by kernel_rfl).mpr h)
set_option maxRecDepth 100000 in
def D_leveeref01_Bytes (n0 : Int) (n1 : Int) (w0 : World) (K : Value → World → Prop) : Prop :=
 LoopC (fun k x w1 =>
 ∃ n6 : Int,nth x 1 = .int .i64 n6 ∧ (bif decide (n6 < n1) then
 Share (fun k_2 => (bif decide (n6 < 8) then
 ∃ (a5 : Option Addr) (l5 c5 : Nat),nth x 0 = .slice a5 l5 c5 ∧ ∃ n19 : Int,Al (eqS .shr 144 (.tmp 15) (.tmp 18) (.int .u64 n0) (.int .u64 (IntKind.u64.wrap (IntKind.i64.wrap (8 * n6))))) (.int .u64 n19) ∧ ∃ (a21 : Option Addr) (l21 c21 : Nat),∃ w2 : World,Ru (Instr.buildSlice 24 1 #[(0,.int .u8 (IntKind.u8.wrap n19))]) w1 (.slice a21 l21 c21) w2 ∧ ∃ (a22 : Option Addr) (l22 c22 : Nat),∃ w3 : World,Ru (Builtin.append_ #[24,24] 24 #[.slice a5 l5 c5,.slice a21 l21 c21]) w2 (.slice a22 l22 c22) w3 ∧ k_2 [.slice a22 l22 c22] w3
 else
 ∃ (a5_2 : Option Addr) (l5_2 c5_2 : Nat),nth x 0 = .slice a5_2 l5_2 c5_2 ∧ ∃ (a24 : Option Addr) (l24 c24 : Nat),∃ w4 : World,Ru (Instr.buildSlice 24 1 #[(0,.int .u8 0)]) w1 (.slice a24 l24 c24) w4 ∧ ∃ (a25 : Option Addr) (l25 c25 : Nat),∃ w5 : World,Ru (Builtin.append_ #[24,24] 24 #[.slice a5_2 l5_2 c5_2,.slice a24 l24 c24]) w4 (.slice a25 l25 c25) w5 ∧ k_2 [.slice a25 l25 c25] w5)) fun x_2 w6 =>
 k [nth x_2 0,.int .i64 (IntKind.i64.wrap (n6 + 1))] w6
 else
 ∃ (a5_3 : Option Addr) (l5_3 c5_3 : Nat),nth x 0 = .slice a5_3 l5_3 c5_3 ∧ K (.slice a5_3 l5_3 c5_3) w1)) [.slice none 0 0,.int .i64 0] w0
set_option maxRecDepth 100000 in
theorem C_leveeref01_Bytes (n0 : Int) (n1 : Int) (w0 : World) (K : Value → World → Prop) (h : D_leveeref01_Bytes n0 n1 w0 K) : Cal Tryz.prog F_leveeref01_Bytes #[.int .u64 n0,.int .i64 n1] w0 K :=
 denF_sound (A := { S := [5,6],ty := [(5,24),(6,3)],raw := [] }) mixed Tryz.func93 (by kernel_rfl) (by kernel_rfl) ((show denF Tryz.prog _ Tryz.f93 _ w0 K = D_leveeref01_Bytes n0 n1 w0 K by kernel_rfl).mpr h)
set_option maxRecDepth 100000 in
def D_leveeref01_Sum (a0 : Option Addr) (l0 c0 : Nat) (w0 : World) (K : Value → World → Prop) : Prop :=
 LoopC (fun k x w1 =>
 ∃ n4 : Int,nth x 1 = .int .i64 n4 ∧ (bif decide (n4 < (l0 : Int)) then
 ∃ n3 : Int,nth x 0 = .int .u32 n3 ∧ ∃ q15 : Addr,Al (Instr.indexAt 24 (.slice a0 l0 c0) (.int .i64 n4)) (.pointer (some q15)) ∧ ∃ n16 : Int,Ru (Instr.loadAt 5 (.pointer (some q15))) w1 (.int .u8 n16) w1 ∧ LoopC (fun k_2 x_2 w2 =>
 ∃ n5 : Int,nth x_2 1 = .int .i64 n5 ∧ (bif decide (n5 < 8) then
 ∃ n3_2 : Int,nth x_2 0 = .int .u32 n3_2 ∧ Share (fun k_3 => (bif (IntKind.u32.wrap (bvAnd 32 n3_2 1)) == 1 then
 k_3 [.int .u32 (IntKind.u32.wrap (bvXor 32 (Int.fdiv n3_2 2) 3988292384))] w2
 else
 k_3 [.int .u32 (Int.fdiv n3_2 2)] w2)) fun x_3 w3 =>
 k_2 [nth x_3 0,.int .i64 (IntKind.i64.wrap (n5 + 1))] w3
 else
 k [nth x_2 0,.int .i64 (IntKind.i64.wrap (n4 + 1)),.int .i64 n5] w2)) [.int .u32 (IntKind.u32.wrap (bvXor 32 n3 (IntKind.u32.wrap n16))),.int .i64 0] w1
 else
 ∃ n3_3 : Int,nth x 0 = .int .u32 n3_3 ∧ K (.int .u32 (IntKind.u32.wrap (bvXor 32 n3_3 4294967295))) w1)) [.int .u32 4294967295,.int .i64 0,undef] w0
set_option maxRecDepth 100000 in
theorem C_leveeref01_Sum (a0 : Option Addr) (l0 c0 : Nat) (w0 : World) (K : Value → World → Prop) (h : D_leveeref01_Sum a0 l0 c0 w0 K) : Cal Tryz.prog F_leveeref01_Sum #[.slice a0 l0 c0] w0 K :=
 denF_sound (A := { S := [3,4,5],ty := [(3,145),(4,3),(5,3)],raw := [] }) mixed Tryz.func94 (by kernel_rfl) (by kernel_rfl) ((show denF Tryz.prog _ Tryz.f94 _ w0 K = D_leveeref01_Sum a0 l0 c0 w0 K by kernel_rfl).mpr h)
set_option maxRecDepth 100000 in
def D_leveeref02_Disk_Writes (p0 : Option Addr) (n1 : Int) (w0 : World) (K : Value → World → Prop) : Prop :=
 Cal Tryz.prog F_leveeref02_Disk_there #[.pointer p0,.int .i64 n1] w0 fun r7 w1 => ∃ b7 : Bool,r7 = .bool b7 ∧ (bif !b7 then
 K (.int .i64 0) w1
 else
 ∃ q10 : Addr,(.pointer p0 : Value) = .pointer (some q10) ∧ ∃ (a12 : Option Addr) (l12 c12 : Nat),Ru (Instr.loadAt 82 (.pointer (some (Addr.add q10 0)))) w1 (.slice a12 l12 c12) w1 ∧ ∃ q14 : Addr,Al (Instr.indexAt 82 (.slice a12 l12 c12) (.int .i64 n1)) (.pointer (some q14)) ∧ ∃ (a16 : Option Addr) (l16 c16 : Nat),Ru (Instr.loadAt 86 (.pointer (some (Addr.add q14 0)))) w1 (.slice a16 l16 c16) w1 ∧ K (.int .i64 (IntKind.i64.wrap ((l16 : Int) - 1))) w1)
set_option maxRecDepth 100000 in
theorem C_leveeref02_Disk_Writes (p0 : Option Addr) (n1 : Int) (w0 : World) (K : Value → World → Prop) (h : D_leveeref02_Disk_Writes p0 n1 w0 K) : Cal Tryz.prog F_leveeref02_Disk_Writes #[.pointer p0,.int .i64 n1] w0 K :=
 denF_sound (A := { S := [],ty := [],raw := [] }) mixed Tryz.func96 (by kernel_rfl) (by kernel_rfl) ((show denF Tryz.prog _ Tryz.f96 _ w0 K = D_leveeref02_Disk_Writes p0 n1 w0 K by kernel_rfl).mpr h)
set_option maxRecDepth 100000 in
def D_leveeref02_Disk_Stopped (p0 : Option Addr) (w0 : World) (K : Value → World → Prop) : Prop :=
 Share (fun k => ∃ q4 : Addr,(.pointer p0 : Value) = .pointer (some q4) ∧ ∃ b6 : Bool,Ru (Instr.loadAt 4 (.pointer (some (Addr.add q4 1)))) w0 (.bool b6) w0 ∧ (bif b6 then ∃ q9 : Addr,(.pointer p0 : Value) = .pointer (some q9) ∧ ∃ n11 : Int,Ru (Instr.loadAt 3 (.pointer (some (Addr.add q9 2)))) w0 (.int .i64 n11) w0 ∧ k [.bool (n11 == 0)] w0 else k [.bool false] w0)) fun x w1 =>
 ∃ b2 : Bool,nth x 0 = .bool b2 ∧ K (.bool b2) w1
set_option maxRecDepth 100000 in
theorem C_leveeref02_Disk_Stopped (p0 : Option Addr) (w0 : World) (K : Value → World → Prop) (h : D_leveeref02_Disk_Stopped p0 w0 K) : Cal Tryz.prog F_leveeref02_Disk_Stopped #[.pointer p0] w0 K :=
 denF_sound (A := { S := [2],ty := [(2,4)],raw := [] }) mixed Tryz.func97 (by kernel_rfl) (by kernel_rfl) ((show denF Tryz.prog _ Tryz.f97 _ w0 K = D_leveeref02_Disk_Stopped p0 w0 K by kernel_rfl).mpr h)
set_option maxRecDepth 100000 in
def D_cache_New (p0 : Option Addr) (n1 : Int) (w0 : World) (K : Value → World → Prop) : Prop :=
 (bif Option.isNone p0 then
 K (.tuple #[.pointer none,.int .i64 2]) w0
 else
 Share (fun k => (bif decide (n1 < 1) then k [.bool true] w0 else k [.bool (decide (n1 > 4096))] w0)) fun x w1 =>
 ∃ b9 : Bool,nth x 0 = .bool b9 ∧ (bif b9 then
 K (.tuple #[.pointer none,.int .i64 1]) w1
 else
 ∃ m18 : Option Nat,∃ w2 : World,Ru (Instr.makeMap 208 none) w1 (.map m18) w2 ∧ ∃ g19 : Array Value,Al (Instr.build 210 #[(0,.pointer p0),(1,.int .i64 n1),(2,.map m18)]) (.agg g19) ∧ ∃ q20 : Addr,∃ w3 : World,Ru (Instr.box 210 (.agg g19)) w2 (.pointer (some q20)) w3 ∧ K (.tuple #[.pointer (some q20),.int .i64 0]) w3))
set_option maxRecDepth 100000 in
theorem C_cache_New (p0 : Option Addr) (n1 : Int) (w0 : World) (K : Value → World → Prop) (h : D_cache_New p0 n1 w0 K) : Cal Tryz.prog F_cache_New #[.pointer p0,.int .i64 n1] w0 K :=
 denF_sound (A := { S := [9],ty := [(9,4)],raw := [] }) mixed Tryz.func98 (by kernel_rfl) (by kernel_rfl) ((show denF Tryz.prog _ Tryz.f98 _ w0 K = D_cache_New p0 n1 w0 K by kernel_rfl).mpr h)
set_option maxRecDepth 100000 in
def D_super_Get (a0 : Option Addr) (l0 c0 : Nat) (w0 : World) (K : Value → World → Prop) : Prop :=
 ∃ q1 : Addr,∃ w1 : World,Ru (Instr.box 24 (.slice a0 l0 c0)) w0 (.pointer (some q1)) w1 ∧ ∃ q2 : Addr,∃ w2 : World,Ru (Instr.alloc 94 true (.tuple #[])) w1 (.pointer (some q2)) w2 ∧ ∃ (a7 : Option Addr) (l7 c7 : Nat),Ru (Instr.loadAt 24 (.pointer (some q1))) w2 (.slice a7 l7 c7) w2 ∧ (bif (l7 : Int) != 256 then
 ∃ g10 : Array Value,Al (Instr.build 94 #[]) (.agg g10) ∧ ∃ w3 : World,RuU (Instr.storeAt 94 (.pointer (some q2)) (.agg g10)) w2 w3 ∧ ∃ gR2 : Array Value,Ru (Instr.loadAt 94 (.pointer (some q2))) w3 (.agg gR2) w3 ∧ K (.tuple #[.agg gR2,.int .i64 4]) w3
 else
 ∃ (a12 : Option Addr) (l12 c12 : Nat),Ru (Instr.loadAt 24 (.pointer (some q1))) w2 (.slice a12 l12 c12) w2 ∧ ∃ (a13 : Option Addr) (l13 c13 : Nat),Al (Instr.sliceAt 24 (.slice a12 l12 c12) none (some (.int .i64 4)) none) (.slice a13 l13 c13) ∧ ∃ s14 : ByteArray,Ru (convert 24 9 (.slice a13 l13 c13)) w2 (.string s14) w2 ∧ (bif !((ByteArray.toList s14) == (ByteArray.toList (⟨#[76,86,69,69]⟩))) then
 ∃ g16 : Array Value,Al (Instr.build 94 #[]) (.agg g16) ∧ ∃ w4 : World,RuU (Instr.storeAt 94 (.pointer (some q2)) (.agg g16)) w2 w4 ∧ ∃ gR2_2 : Array Value,Ru (Instr.loadAt 94 (.pointer (some q2))) w4 (.agg gR2_2) w4 ∧ K (.tuple #[.agg gR2_2,.int .i64 8]) w4
 else
 ∃ (a18 : Option Addr) (l18 c18 : Nat),Ru (Instr.loadAt 24 (.pointer (some q1))) (drew w2) (.slice a18 l18 c18) (drew w2) ∧ ∃ (a19 : Option Addr) (l19 c19 : Nat),Al (Instr.sliceAt 24 (.slice a18 l18 c18) (some (.int .i64 252)) none none) (.slice a19 l19 c19) ∧ ∃ (a21 : Option Addr) (l21 c21 : Nat),Ru (Instr.loadAt 24 (.pointer (some q1))) (drew w2) (.slice a21 l21 c21) (drew w2) ∧ ∃ (a22 : Option Addr) (l22 c22 : Nat),Al (Instr.sliceAt 24 (.slice a21 l21 c21) none (some (.int .i64 252)) none) (.slice a22 l22 c22) ∧ Cal Tryz.prog F_num_Get #[.slice a19 l19 c19] (drew w2) fun r20 w5 => ∃ n20 : Int,r20 = .int .u64 n20 ∧ Ru (Instr.loadAt 24 (.pointer (some q1))) w5 (.slice a21 l21 c21) w5 ∧ Cal Tryz.prog F_num_Sum #[.slice a22 l22 c22] w5 fun r23 w6 => ∃ n23 : Int,r23 = .int .u32 n23 ∧ (bif n20 != (IntKind.u64.wrap n23) then
 ∃ g26 : Array Value,Al (Instr.build 94 #[]) (.agg g26) ∧ ∃ w7 : World,RuU (Instr.storeAt 94 (.pointer (some q2)) (.agg g26)) w6 w7 ∧ ∃ gR2_3 : Array Value,Ru (Instr.loadAt 94 (.pointer (some q2))) w7 (.agg gR2_3) w7 ∧ K (.tuple #[.agg gR2_3,.int .i64 7]) w7
 else
 ∃ (a28 : Option Addr) (l28 c28 : Nat),Ru (Instr.loadAt 24 (.pointer (some q1))) w6 (.slice a28 l28 c28) w6 ∧ ∃ (a29 : Option Addr) (l29 c29 : Nat),Al (Instr.sliceAt 24 (.slice a28 l28 c28) (some (.int .i64 4)) (some (.int .i64 12)) none) (.slice a29 l29 c29) ∧ Cal Tryz.prog F_num_Get #[.slice a29 l29 c29] w6 fun r30 w8 => ∃ n30 : Int,r30 = .int .u64 n30 ∧ Dyn Tryz.prog (.func (.func F_super_Get_1) #[] #[.pointer (some q1)]) #[.int .i64 12] w8 fun r33 w9 => ∃ n33 : Int,r33 = .int .i64 n33 ∧ Dyn Tryz.prog (.func (.func F_super_Get_1) #[] #[.pointer (some q1)]) #[.int .i64 14] w9 fun r35 w10 => ∃ n35 : Int,r35 = .int .i64 n35 ∧ Dyn Tryz.prog (.func (.func F_super_Get_1) #[] #[.pointer (some q1)]) #[.int .i64 16] w10 fun r37 w11 => ∃ n37 : Int,r37 = .int .i64 n37 ∧ ∃ g38 : Array Value,Al (Instr.build 23 #[(0,.int .i64 n33),(1,.int .i64 n35),(2,.int .i64 n37)]) (.agg g38) ∧ ∃ g39 : Array Value,Al (Instr.build 94 #[(0,.int .i64 (IntKind.i64.wrap n30)),(1,.agg g38)]) (.agg g39) ∧ ∃ q5 : Addr,∃ w12 : World,Ru (Instr.alloc 94 true (.tuple #[])) w11 (.pointer (some q5)) w12 ∧ ∃ w13 : World,RuU (Instr.storeAt 94 (.pointer (some q5)) (.agg g39)) w12 w13 ∧ ∃ g41 : Array Value,Ru (Instr.loadAt 94 (.pointer (some q5))) w13 (.agg g41) w13 ∧ Cal Tryz.prog F_super_Super_right #[.agg g41] w13 fun r42 w14 => ∃ b42 : Bool,r42 = .bool b42 ∧ (bif !b42 then
 ∃ g44 : Array Value,Al (Instr.build 94 #[]) (.agg g44) ∧ ∃ w15 : World,RuU (Instr.storeAt 94 (.pointer (some q2)) (.agg g44)) w14 w15 ∧ ∃ gR2_4 : Array Value,Ru (Instr.loadAt 94 (.pointer (some q2))) w15 (.agg gR2_4) w15 ∧ K (.tuple #[.agg gR2_4,.int .i64 1]) w15
 else
 ∃ (a46 : Option Addr) (l46 c46 : Nat),Ru (Instr.loadAt 24 (.pointer (some q1))) w14 (.slice a46 l46 c46) w14 ∧ ∃ (a47 : Option Addr) (l47 c47 : Nat),Al (Instr.sliceAt 24 (.slice a46 l46 c46) (some (.int .i64 18)) (some (.int .i64 252)) none) (.slice a47 l47 c47) ∧ Cal Tryz.prog F_num_Zero #[.slice a47 l47 c47] w14 fun r48 w16 => ∃ b48 : Bool,r48 = .bool b48 ∧ (bif !b48 then
 ∃ g50 : Array Value,Al (Instr.build 94 #[]) (.agg g50) ∧ ∃ w17 : World,RuU (Instr.storeAt 94 (.pointer (some q2)) (.agg g50)) w16 w17 ∧ ∃ gR2_5 : Array Value,Ru (Instr.loadAt 94 (.pointer (some q2))) w17 (.agg gR2_5) w17 ∧ K (.tuple #[.agg gR2_5,.int .i64 8]) w17
 else
 ∃ g51 : Array Value,Ru (Instr.loadAt 94 (.pointer (some q5))) w16 (.agg g51) w16 ∧ ∃ w18 : World,RuU (Instr.storeAt 94 (.pointer (some q2)) (.agg g51)) w16 w18 ∧ ∃ gR2_6 : Array Value,Ru (Instr.loadAt 94 (.pointer (some q2))) w18 (.agg gR2_6) w18 ∧ K (.tuple #[.agg gR2_6,.int .i64 0]) w18)))))
set_option maxRecDepth 100000 in
theorem C_super_Get (a0 : Option Addr) (l0 c0 : Nat) (w0 : World) (K : Value → World → Prop) (h : D_super_Get a0 l0 c0 w0 K) : Cal Tryz.prog F_super_Get #[.slice a0 l0 c0] w0 K :=
 denF_sound (A := { S := [],ty := [],raw := [] }) mixed Tryz.func99 (by kernel_rfl) (by kernel_rfl) ((show denF Tryz.prog _ Tryz.f99 _ w0 K = D_super_Get a0 l0 c0 w0 K by kernel_rfl).mpr h)
set_option maxRecDepth 100000 in
def D_super_Super_place (g0 : Array Value) (w0 : World) (K : Value → World → Prop) : Prop :=
 ∃ q1 : Addr,∃ w1 : World,Ru (Instr.box 94 (.agg g0)) w0 (.pointer (some q1)) w1 ∧ ∃ n4 : Int,Ru (Instr.loadAt 2 (.pointer (some (Addr.add q1 0)))) w1 (.int .i64 n4) w1 ∧ K (.int .i64 (Int.tmod n4 2)) w1
set_option maxRecDepth 100000 in
theorem C_super_Super_place (g0 : Array Value) (w0 : World) (K : Value → World → Prop) (h : D_super_Super_place g0 w0 K) : Cal Tryz.prog F_super_Super_place #[.agg g0] w0 K :=
 denF_sound (A := { S := [],ty := [],raw := [] }) mixed Tryz.func100 (by kernel_rfl) (by kernel_rfl) ((show denF Tryz.prog _ Tryz.f100 _ w0 K = D_super_Super_place g0 w0 K by kernel_rfl).mpr h)
set_option maxRecDepth 100000 in
def D_leveeref04_Get (a0 : Option Addr) (l0 c0 : Nat) (w0 : World) (K : Value → World → Prop) : Prop :=
 ∃ q2 : Addr,∃ w1 : World,Ru (Instr.alloc 100 true (.tuple #[])) w0 (.pointer (some q2)) w1 ∧ (bif (l0 : Int) != 256 then
 ∃ g10 : Array Value,Al (Instr.build 100 #[]) (.agg g10) ∧ ∃ w2 : World,RuU (Instr.storeAt 100 (.pointer (some q2)) (.agg g10)) w1 w2 ∧ ∃ gR2 : Array Value,Ru (Instr.loadAt 100 (.pointer (some q2))) w2 (.agg gR2) w2 ∧ K (.tuple #[.agg gR2,.int .i64 4]) w2
 else
 ∃ (a12 : Option Addr) (l12 c12 : Nat),Al (Instr.sliceAt 24 (.slice a0 l0 c0) none (some (.int .i64 4)) none) (.slice a12 l12 c12) ∧ ∃ s13 : ByteArray,Ru (convert 24 9 (.slice a12 l12 c12)) w1 (.string s13) w1 ∧ (bif !((ByteArray.toList s13) == (ByteArray.toList (⟨#[76,86,69,69]⟩))) then
 ∃ g15 : Array Value,Al (Instr.build 100 #[]) (.agg g15) ∧ ∃ w3 : World,RuU (Instr.storeAt 100 (.pointer (some q2)) (.agg g15)) w1 w3 ∧ ∃ gR2_2 : Array Value,Ru (Instr.loadAt 100 (.pointer (some q2))) w3 (.agg gR2_2) w3 ∧ K (.tuple #[.agg gR2_2,.int .i64 8]) w3
 else
 ∃ (a17 : Option Addr) (l17 c17 : Nat),Al (Instr.sliceAt 24 (.slice a0 l0 c0) (some (.int .i64 252)) none none) (.slice a17 l17 c17) ∧ ∃ (a20 : Option Addr) (l20 c20 : Nat),Al (Instr.sliceAt 24 (.slice a0 l0 c0) none (some (.int .i64 252)) none) (.slice a20 l20 c20) ∧ Cal Tryz.prog F_leveeref01_Get #[.slice a17 l17 c17] (drew w1) fun r18 w4 => ∃ n18 : Int,r18 = .int .u64 n18 ∧ Cal Tryz.prog F_leveeref01_Sum #[.slice a20 l20 c20] w4 fun r21 w5 => ∃ n21 : Int,r21 = .int .u32 n21 ∧ (bif n18 != (IntKind.u64.wrap n21) then
 ∃ g24 : Array Value,Al (Instr.build 100 #[]) (.agg g24) ∧ ∃ w6 : World,RuU (Instr.storeAt 100 (.pointer (some q2)) (.agg g24)) w5 w6 ∧ ∃ gR2_3 : Array Value,Ru (Instr.loadAt 100 (.pointer (some q2))) w6 (.agg gR2_3) w6 ∧ K (.tuple #[.agg gR2_3,.int .i64 7]) w6
 else
 ∃ (a26 : Option Addr) (l26 c26 : Nat),Al (Instr.sliceAt 24 (.slice a0 l0 c0) (some (.int .i64 4)) (some (.int .i64 12)) none) (.slice a26 l26 c26) ∧ ∃ (a30 : Option Addr) (l30 c30 : Nat),Al (Instr.sliceAt 24 (.slice a0 l0 c0) (some (.int .i64 12)) (some (.int .i64 14)) none) (.slice a30 l30 c30) ∧ ∃ (a34 : Option Addr) (l34 c34 : Nat),Al (Instr.sliceAt 24 (.slice a0 l0 c0) (some (.int .i64 14)) (some (.int .i64 16)) none) (.slice a34 l34 c34) ∧ ∃ (a38 : Option Addr) (l38 c38 : Nat),Al (Instr.sliceAt 24 (.slice a0 l0 c0) (some (.int .i64 16)) (some (.int .i64 18)) none) (.slice a38 l38 c38) ∧ (Cal Tryz.prog F_leveeref01_Get #[.slice a26 l26 c26] (drew w5) fun r27 w7 => ∃ n27 : Int,r27 = .int .u64 n27 ∧ (Cal Tryz.prog F_leveeref01_Get #[.slice a30 l30 c30] w7 fun r31 w8 => ∃ n31 : Int,r31 = .int .u64 n31 ∧ (Cal Tryz.prog F_leveeref01_Get #[.slice a34 l34 c34] w8 fun r35 w9 => ∃ n35 : Int,r35 = .int .u64 n35 ∧ (Cal Tryz.prog F_leveeref01_Get #[.slice a38 l38 c38] w9 fun r39 w10 => ∃ n39 : Int,r39 = .int .u64 n39 ∧ ∃ g41 : Array Value,Al (Instr.build 23 #[(0,.int .i64 (IntKind.i64.wrap n31)),(1,.int .i64 (IntKind.i64.wrap n35)),(2,.int .i64 (IntKind.i64.wrap n39))]) (.agg g41) ∧ ∃ g42 : Array Value,Al (Instr.build 100 #[(0,.int .i64 (IntKind.i64.wrap n27)),(1,.agg g41)]) (.agg g42) ∧ ∃ q4 : Addr,∃ w11 : World,Ru (Instr.alloc 100 true (.tuple #[])) w10 (.pointer (some q4)) w11 ∧ ∃ w12 : World,RuU (Instr.storeAt 100 (.pointer (some q4)) (.agg g42)) w11 w12 ∧ ∃ g44 : Array Value,Ru (Instr.loadAt 100 (.pointer (some q4))) w12 (.agg g44) w12 ∧ Cal Tryz.prog F_leveeref04_Put #[.agg g44] w12 fun r45 w13 => ∃ (a45a : Option Addr) (l45a c45a : Nat),∃ n45b : Int,r45 = .tuple #[.slice a45a l45a c45a,.int .i64 n45b] ∧ (bif n45b != 0 then
 ∃ g50 : Array Value,Al (Instr.build 100 #[]) (.agg g50) ∧ ∃ w14 : World,RuU (Instr.storeAt 100 (.pointer (some q2)) (.agg g50)) w13 w14 ∧ ∃ gR2_4 : Array Value,Ru (Instr.loadAt 100 (.pointer (some q2))) w14 (.agg gR2_4) w14 ∧ K (.tuple #[.agg gR2_4,.int .i64 1]) w14
 else
 ∃ s52 : ByteArray,Ru (convert 24 9 (.slice a45a l45a c45a)) w13 (.string s52) w13 ∧ ∃ s54 : ByteArray,Ru (convert 24 9 (.slice a0 l0 c0)) w13 (.string s54) w13 ∧ (bif !((ByteArray.toList s52) == (ByteArray.toList s54)) then
 ∃ g56 : Array Value,Al (Instr.build 100 #[]) (.agg g56) ∧ ∃ w15 : World,RuU (Instr.storeAt 100 (.pointer (some q2)) (.agg g56)) w13 w15 ∧ ∃ gR2_5 : Array Value,Ru (Instr.loadAt 100 (.pointer (some q2))) w15 (.agg gR2_5) w15 ∧ K (.tuple #[.agg gR2_5,.int .i64 8]) w15
 else
 ∃ g57 : Array Value,Ru (Instr.loadAt 100 (.pointer (some q4))) w13 (.agg g57) w13 ∧ ∃ w16 : World,RuU (Instr.storeAt 100 (.pointer (some q2)) (.agg g57)) w13 w16 ∧ ∃ gR2_6 : Array Value,Ru (Instr.loadAt 100 (.pointer (some q2))) w16 (.agg gR2_6) w16 ∧ K (.tuple #[.agg gR2_6,.int .i64 0]) w16))) ∧ (∃ q4_2 : Addr,∃ w17 : World,Ru (Instr.alloc 100 true (.tuple #[])) w9 (.pointer (some q4_2)) w17 ∧ Cal Tryz.prog F_leveeref01_Get #[.slice a38 l38 c38] w17 fun r39_2 w18 => ∃ n39_2 : Int,r39_2 = .int .u64 n39_2 ∧ ∃ g41_2 : Array Value,Al (Instr.build 23 #[(0,.int .i64 (IntKind.i64.wrap n31)),(1,.int .i64 (IntKind.i64.wrap n35)),(2,.int .i64 (IntKind.i64.wrap n39_2))]) (.agg g41_2) ∧ ∃ g42_2 : Array Value,Al (Instr.build 100 #[(0,.int .i64 (IntKind.i64.wrap n27)),(1,.agg g41_2)]) (.agg g42_2) ∧ ∃ w19 : World,RuU (Instr.storeAt 100 (.pointer (some q4_2)) (.agg g42_2)) w18 w19 ∧ ∃ g44_2 : Array Value,Ru (Instr.loadAt 100 (.pointer (some q4_2))) w19 (.agg g44_2) w19 ∧ Cal Tryz.prog F_leveeref04_Put #[.agg g44_2] w19 fun r45_2 w20 => ∃ (a45a_2 : Option Addr) (l45a_2 c45a_2 : Nat),∃ n45b_2 : Int,r45_2 = .tuple #[.slice a45a_2 l45a_2 c45a_2,.int .i64 n45b_2] ∧ (bif n45b_2 != 0 then
 ∃ g50_2 : Array Value,Al (Instr.build 100 #[]) (.agg g50_2) ∧ ∃ w21 : World,RuU (Instr.storeAt 100 (.pointer (some q2)) (.agg g50_2)) w20 w21 ∧ ∃ gR2_7 : Array Value,Ru (Instr.loadAt 100 (.pointer (some q2))) w21 (.agg gR2_7) w21 ∧ K (.tuple #[.agg gR2_7,.int .i64 1]) w21
 else
 ∃ s52_2 : ByteArray,Ru (convert 24 9 (.slice a45a_2 l45a_2 c45a_2)) w20 (.string s52_2) w20 ∧ ∃ s54_2 : ByteArray,Ru (convert 24 9 (.slice a0 l0 c0)) w20 (.string s54_2) w20 ∧ (bif !((ByteArray.toList s52_2) == (ByteArray.toList s54_2)) then
 ∃ g56_2 : Array Value,Al (Instr.build 100 #[]) (.agg g56_2) ∧ ∃ w22 : World,RuU (Instr.storeAt 100 (.pointer (some q2)) (.agg g56_2)) w20 w22 ∧ ∃ gR2_8 : Array Value,Ru (Instr.loadAt 100 (.pointer (some q2))) w22 (.agg gR2_8) w22 ∧ K (.tuple #[.agg gR2_8,.int .i64 8]) w22
 else
 ∃ g57_2 : Array Value,Ru (Instr.loadAt 100 (.pointer (some q4_2))) w20 (.agg g57_2) w20 ∧ ∃ w23 : World,RuU (Instr.storeAt 100 (.pointer (some q2)) (.agg g57_2)) w20 w23 ∧ ∃ gR2_9 : Array Value,Ru (Instr.loadAt 100 (.pointer (some q2))) w23 (.agg gR2_9) w23 ∧ K (.tuple #[.agg gR2_9,.int .i64 0]) w23)))) ∧ (∃ q4_3 : Addr,∃ w24 : World,Ru (Instr.alloc 100 true (.tuple #[])) w8 (.pointer (some q4_3)) w24 ∧ Cal Tryz.prog F_leveeref01_Get #[.slice a34 l34 c34] w24 fun r35_2 w25 => ∃ n35_2 : Int,r35_2 = .int .u64 n35_2 ∧ Cal Tryz.prog F_leveeref01_Get #[.slice a38 l38 c38] w25 fun r39_3 w26 => ∃ n39_3 : Int,r39_3 = .int .u64 n39_3 ∧ ∃ g41_3 : Array Value,Al (Instr.build 23 #[(0,.int .i64 (IntKind.i64.wrap n31)),(1,.int .i64 (IntKind.i64.wrap n35_2)),(2,.int .i64 (IntKind.i64.wrap n39_3))]) (.agg g41_3) ∧ ∃ g42_3 : Array Value,Al (Instr.build 100 #[(0,.int .i64 (IntKind.i64.wrap n27)),(1,.agg g41_3)]) (.agg g42_3) ∧ ∃ w27 : World,RuU (Instr.storeAt 100 (.pointer (some q4_3)) (.agg g42_3)) w26 w27 ∧ ∃ g44_3 : Array Value,Ru (Instr.loadAt 100 (.pointer (some q4_3))) w27 (.agg g44_3) w27 ∧ Cal Tryz.prog F_leveeref04_Put #[.agg g44_3] w27 fun r45_3 w28 => ∃ (a45a_3 : Option Addr) (l45a_3 c45a_3 : Nat),∃ n45b_3 : Int,r45_3 = .tuple #[.slice a45a_3 l45a_3 c45a_3,.int .i64 n45b_3] ∧ (bif n45b_3 != 0 then
 ∃ g50_3 : Array Value,Al (Instr.build 100 #[]) (.agg g50_3) ∧ ∃ w29 : World,RuU (Instr.storeAt 100 (.pointer (some q2)) (.agg g50_3)) w28 w29 ∧ ∃ gR2_10 : Array Value,Ru (Instr.loadAt 100 (.pointer (some q2))) w29 (.agg gR2_10) w29 ∧ K (.tuple #[.agg gR2_10,.int .i64 1]) w29
 else
 ∃ s52_3 : ByteArray,Ru (convert 24 9 (.slice a45a_3 l45a_3 c45a_3)) w28 (.string s52_3) w28 ∧ ∃ s54_3 : ByteArray,Ru (convert 24 9 (.slice a0 l0 c0)) w28 (.string s54_3) w28 ∧ (bif !((ByteArray.toList s52_3) == (ByteArray.toList s54_3)) then
 ∃ g56_3 : Array Value,Al (Instr.build 100 #[]) (.agg g56_3) ∧ ∃ w30 : World,RuU (Instr.storeAt 100 (.pointer (some q2)) (.agg g56_3)) w28 w30 ∧ ∃ gR2_11 : Array Value,Ru (Instr.loadAt 100 (.pointer (some q2))) w30 (.agg gR2_11) w30 ∧ K (.tuple #[.agg gR2_11,.int .i64 8]) w30
 else
 ∃ g57_3 : Array Value,Ru (Instr.loadAt 100 (.pointer (some q4_3))) w28 (.agg g57_3) w28 ∧ ∃ w31 : World,RuU (Instr.storeAt 100 (.pointer (some q2)) (.agg g57_3)) w28 w31 ∧ ∃ gR2_12 : Array Value,Ru (Instr.loadAt 100 (.pointer (some q2))) w31 (.agg gR2_12) w31 ∧ K (.tuple #[.agg gR2_12,.int .i64 0]) w31)))) ∧ (∃ q4_4 : Addr,∃ w32 : World,Ru (Instr.alloc 100 true (.tuple #[])) w7 (.pointer (some q4_4)) w32 ∧ Cal Tryz.prog F_leveeref01_Get #[.slice a30 l30 c30] w32 fun r31_2 w33 => ∃ n31_2 : Int,r31_2 = .int .u64 n31_2 ∧ Cal Tryz.prog F_leveeref01_Get #[.slice a34 l34 c34] w33 fun r35_3 w34 => ∃ n35_3 : Int,r35_3 = .int .u64 n35_3 ∧ Cal Tryz.prog F_leveeref01_Get #[.slice a38 l38 c38] w34 fun r39_4 w35 => ∃ n39_4 : Int,r39_4 = .int .u64 n39_4 ∧ ∃ g41_4 : Array Value,Al (Instr.build 23 #[(0,.int .i64 (IntKind.i64.wrap n31_2)),(1,.int .i64 (IntKind.i64.wrap n35_3)),(2,.int .i64 (IntKind.i64.wrap n39_4))]) (.agg g41_4) ∧ ∃ g42_4 : Array Value,Al (Instr.build 100 #[(0,.int .i64 (IntKind.i64.wrap n27)),(1,.agg g41_4)]) (.agg g42_4) ∧ ∃ w36 : World,RuU (Instr.storeAt 100 (.pointer (some q4_4)) (.agg g42_4)) w35 w36 ∧ ∃ g44_4 : Array Value,Ru (Instr.loadAt 100 (.pointer (some q4_4))) w36 (.agg g44_4) w36 ∧ Cal Tryz.prog F_leveeref04_Put #[.agg g44_4] w36 fun r45_4 w37 => ∃ (a45a_4 : Option Addr) (l45a_4 c45a_4 : Nat),∃ n45b_4 : Int,r45_4 = .tuple #[.slice a45a_4 l45a_4 c45a_4,.int .i64 n45b_4] ∧ (bif n45b_4 != 0 then
 ∃ g50_4 : Array Value,Al (Instr.build 100 #[]) (.agg g50_4) ∧ ∃ w38 : World,RuU (Instr.storeAt 100 (.pointer (some q2)) (.agg g50_4)) w37 w38 ∧ ∃ gR2_13 : Array Value,Ru (Instr.loadAt 100 (.pointer (some q2))) w38 (.agg gR2_13) w38 ∧ K (.tuple #[.agg gR2_13,.int .i64 1]) w38
 else
 ∃ s52_4 : ByteArray,Ru (convert 24 9 (.slice a45a_4 l45a_4 c45a_4)) w37 (.string s52_4) w37 ∧ ∃ s54_4 : ByteArray,Ru (convert 24 9 (.slice a0 l0 c0)) w37 (.string s54_4) w37 ∧ (bif !((ByteArray.toList s52_4) == (ByteArray.toList s54_4)) then
 ∃ g56_4 : Array Value,Al (Instr.build 100 #[]) (.agg g56_4) ∧ ∃ w39 : World,RuU (Instr.storeAt 100 (.pointer (some q2)) (.agg g56_4)) w37 w39 ∧ ∃ gR2_14 : Array Value,Ru (Instr.loadAt 100 (.pointer (some q2))) w39 (.agg gR2_14) w39 ∧ K (.tuple #[.agg gR2_14,.int .i64 8]) w39
 else
 ∃ g57_4 : Array Value,Ru (Instr.loadAt 100 (.pointer (some q4_4))) w37 (.agg g57_4) w37 ∧ ∃ w40 : World,RuU (Instr.storeAt 100 (.pointer (some q2)) (.agg g57_4)) w37 w40 ∧ ∃ gR2_15 : Array Value,Ru (Instr.loadAt 100 (.pointer (some q2))) w40 (.agg gR2_15) w40 ∧ K (.tuple #[.agg gR2_15,.int .i64 0]) w40)))) ∧ (∃ q4_5 : Addr,∃ w41 : World,Ru (Instr.alloc 100 true (.tuple #[])) (drew w5) (.pointer (some q4_5)) w41 ∧ Cal Tryz.prog F_leveeref01_Get #[.slice a26 l26 c26] w41 fun r27_2 w42 => ∃ n27_2 : Int,r27_2 = .int .u64 n27_2 ∧ Cal Tryz.prog F_leveeref01_Get #[.slice a30 l30 c30] w42 fun r31_3 w43 => ∃ n31_3 : Int,r31_3 = .int .u64 n31_3 ∧ Cal Tryz.prog F_leveeref01_Get #[.slice a34 l34 c34] w43 fun r35_4 w44 => ∃ n35_4 : Int,r35_4 = .int .u64 n35_4 ∧ Cal Tryz.prog F_leveeref01_Get #[.slice a38 l38 c38] w44 fun r39_5 w45 => ∃ n39_5 : Int,r39_5 = .int .u64 n39_5 ∧ ∃ g41_5 : Array Value,Al (Instr.build 23 #[(0,.int .i64 (IntKind.i64.wrap n31_3)),(1,.int .i64 (IntKind.i64.wrap n35_4)),(2,.int .i64 (IntKind.i64.wrap n39_5))]) (.agg g41_5) ∧ ∃ g42_5 : Array Value,Al (Instr.build 100 #[(0,.int .i64 (IntKind.i64.wrap n27_2)),(1,.agg g41_5)]) (.agg g42_5) ∧ ∃ w46 : World,RuU (Instr.storeAt 100 (.pointer (some q4_5)) (.agg g42_5)) w45 w46 ∧ ∃ g44_5 : Array Value,Ru (Instr.loadAt 100 (.pointer (some q4_5))) w46 (.agg g44_5) w46 ∧ Cal Tryz.prog F_leveeref04_Put #[.agg g44_5] w46 fun r45_5 w47 => ∃ (a45a_5 : Option Addr) (l45a_5 c45a_5 : Nat),∃ n45b_5 : Int,r45_5 = .tuple #[.slice a45a_5 l45a_5 c45a_5,.int .i64 n45b_5] ∧ (bif n45b_5 != 0 then
 ∃ g50_5 : Array Value,Al (Instr.build 100 #[]) (.agg g50_5) ∧ ∃ w48 : World,RuU (Instr.storeAt 100 (.pointer (some q2)) (.agg g50_5)) w47 w48 ∧ ∃ gR2_16 : Array Value,Ru (Instr.loadAt 100 (.pointer (some q2))) w48 (.agg gR2_16) w48 ∧ K (.tuple #[.agg gR2_16,.int .i64 1]) w48
 else
 ∃ s52_5 : ByteArray,Ru (convert 24 9 (.slice a45a_5 l45a_5 c45a_5)) w47 (.string s52_5) w47 ∧ ∃ s54_5 : ByteArray,Ru (convert 24 9 (.slice a0 l0 c0)) w47 (.string s54_5) w47 ∧ (bif !((ByteArray.toList s52_5) == (ByteArray.toList s54_5)) then
 ∃ g56_5 : Array Value,Al (Instr.build 100 #[]) (.agg g56_5) ∧ ∃ w49 : World,RuU (Instr.storeAt 100 (.pointer (some q2)) (.agg g56_5)) w47 w49 ∧ ∃ gR2_17 : Array Value,Ru (Instr.loadAt 100 (.pointer (some q2))) w49 (.agg gR2_17) w49 ∧ K (.tuple #[.agg gR2_17,.int .i64 8]) w49
 else
 ∃ g57_5 : Array Value,Ru (Instr.loadAt 100 (.pointer (some q4_5))) w47 (.agg g57_5) w47 ∧ ∃ w50 : World,RuU (Instr.storeAt 100 (.pointer (some q2)) (.agg g57_5)) w47 w50 ∧ ∃ gR2_18 : Array Value,Ru (Instr.loadAt 100 (.pointer (some q2))) w50 (.agg gR2_18) w50 ∧ K (.tuple #[.agg gR2_18,.int .i64 0]) w50))))))
set_option maxRecDepth 100000 in
theorem C_leveeref04_Get (a0 : Option Addr) (l0 c0 : Nat) (w0 : World) (K : Value → World → Prop) (h : D_leveeref04_Get a0 l0 c0 w0 K) : Cal Tryz.prog F_leveeref04_Get #[.slice a0 l0 c0] w0 K :=
 denF_sound (A := { S := [],ty := [],raw := [] }) mixed Tryz.func101 (by kernel_rfl) (by kernel_rfl) ((show denF Tryz.prog _ Tryz.f101 _ w0 K = D_leveeref04_Get a0 l0 c0 w0 K by kernel_rfl).mpr h)
set_option maxRecDepth 100000 in
def D_leveeref11_Store_Read (p0 : Option Addr) (n1 : Int) (w0 : World) (K : Value → World → Prop) : Prop :=
 Cal Tryz.prog F_leveeref11_Store_there #[.pointer p0,.int .i64 n1] w0 fun r10 w1 => ∃ b10 : Bool,r10 = .bool b10 ∧ (bif !b10 then
 K (.tuple #[.slice none 0 0,.int .i64 3]) w1
 else
 ∃ q13 : Addr,(.pointer p0 : Value) = .pointer (some q13) ∧ ∃ (a15 : Option Addr) (l15 c15 : Nat),Ru (Instr.loadAt 86 (.pointer (some (Addr.add q13 1)))) w1 (.slice a15 l15 c15) w1 ∧ ∃ q17 : Addr,Al (Instr.indexAt 86 (.slice a15 l15 c15) (.int .i64 n1)) (.pointer (some q17)) ∧ ∃ s18 : ByteArray,Ru (Instr.loadAt 9 (.pointer (some q17))) w1 (.string s18) w1 ∧ ∃ (a19 : Option Addr) (l19 c19 : Nat),∃ w2 : World,Ru (convert 9 24 (.string s18)) w1 (.slice a19 l19 c19) w2 ∧ LoopC (fun k x w3 =>
 ∃ n7 : Int,nth x 1 = .int .i64 n7 ∧ ∃ q22 : Addr,(.pointer p0 : Value) = .pointer (some q22) ∧ ∃ (a24 : Option Addr) (l24 c24 : Nat),Ru (Instr.loadAt 169 (.pointer (some (Addr.add q22 2)))) w3 (.slice a24 l24 c24) w3 ∧ (bif decide (n7 < (l24 : Int)) then
 ∃ q30 : Addr,(.pointer p0 : Value) = .pointer (some q30) ∧ ∃ (a32 : Option Addr) (l32 c32 : Nat),Ru (Instr.loadAt 169 (.pointer (some (Addr.add q30 2)))) w3 (.slice a32 l32 c32) w3 ∧ ∃ q34 : Addr,Al (Instr.indexAt 169 (.slice a32 l32 c32) (.int .i64 n7)) (.pointer (some q34)) ∧ ∃ n36 : Int,Ru (Instr.loadAt 3 (.pointer (some (Addr.add q34 1)))) w3 (.int .i64 n36) w3 ∧ Share (fun k_2 => (bif n36 == n1 then
 ∃ (a6 : Option Addr) (l6 c6 : Nat),nth x 0 = .slice a6 l6 c6 ∧ ∃ q41 : Addr,(.pointer p0 : Value) = .pointer (some q41) ∧ ∃ (a43 : Option Addr) (l43 c43 : Nat),Ru (Instr.loadAt 169 (.pointer (some (Addr.add q41 2)))) w3 (.slice a43 l43 c43) w3 ∧ ∃ q45 : Addr,Al (Instr.indexAt 169 (.slice a43 l43 c43) (.int .i64 n7)) (.pointer (some q45)) ∧ ∃ g46 : Array Value,Ru (Instr.loadAt 213 (.pointer (some q45))) w3 (.agg g46) w3 ∧ Cal Tryz.prog F_leveeref11_upon #[.slice a6 l6 c6,.agg g46] w3 fun r47 w4 => ∃ (a47 : Option Addr) (l47 c47 : Nat),r47 = .slice a47 l47 c47 ∧ k_2 [.slice a47 l47 c47] w4
 else
 k_2 [nth x 0] w3)) fun x_2 w5 =>
 k [nth x_2 0,.int .i64 (IntKind.i64.wrap (n7 + 1))] w5
 else
 ∃ (a6_2 : Option Addr) (l6_2 c6_2 : Nat),nth x 0 = .slice a6_2 l6_2 c6_2 ∧ K (.tuple #[.slice a6_2 l6_2 c6_2,.int .i64 0]) w3)) [.slice a19 l19 c19,.int .i64 0] w2)
set_option maxRecDepth 100000 in
theorem C_leveeref11_Store_Read (p0 : Option Addr) (n1 : Int) (w0 : World) (K : Value → World → Prop) (h : D_leveeref11_Store_Read p0 n1 w0 K) : Cal Tryz.prog F_leveeref11_Store_Read #[.pointer p0,.int .i64 n1] w0 K :=
 denF_sound (A := { S := [6,7],ty := [(6,24),(7,3)],raw := [] }) mixed Tryz.func102 (by kernel_rfl) (by kernel_rfl) ((show denF Tryz.prog _ Tryz.f102 _ w0 K = D_leveeref11_Store_Read p0 n1 w0 K by kernel_rfl).mpr h)
set_option maxRecDepth 100000 in
def D_leveeref06_Get (g0 : Array Value) (a1 : Option Addr) (l1 c1 : Nat) (w0 : World) (K : Value → World → Prop) : Prop :=
 ∃ q2 : Addr,∃ w1 : World,Ru (Instr.box 23 (.agg g0)) w0 (.pointer (some q2)) w1 ∧ ∃ q4 : Addr,∃ w2 : World,Ru (Instr.alloc 122 true (.tuple #[])) w1 (.pointer (some q4)) w2 ∧ ∃ g9 : Array Value,Ru (Instr.loadAt 23 (.pointer (some q2))) w2 (.agg g9) w2 ∧ Cal Tryz.prog F_leveeref03_Right #[.agg g9] w2 fun r10 w3 => ∃ b10 : Bool,r10 = .bool b10 ∧ (bif !b10 then
 ∃ g12 : Array Value,Al (Instr.build 122 #[]) (.agg g12) ∧ ∃ w4 : World,RuU (Instr.storeAt 122 (.pointer (some q4)) (.agg g12)) w3 w4 ∧ ∃ gR4 : Array Value,Ru (Instr.loadAt 122 (.pointer (some q4))) w4 (.agg gR4) w4 ∧ K (.tuple #[.agg gR4,.int .i64 1]) w4
 else
 (bif (l1 : Int) != 256 then
 ∃ g16 : Array Value,Al (Instr.build 122 #[]) (.agg g16) ∧ ∃ w5 : World,RuU (Instr.storeAt 122 (.pointer (some q4)) (.agg g16)) w3 w5 ∧ ∃ gR4_2 : Array Value,Ru (Instr.loadAt 122 (.pointer (some q4))) w5 (.agg gR4_2) w5 ∧ K (.tuple #[.agg gR4_2,.int .i64 4]) w5
 else
 ∃ (a18 : Option Addr) (l18 c18 : Nat),Al (Instr.sliceAt 24 (.slice a1 l1 c1) (some (.int .i64 4)) (some (.int .i64 6)) none) (.slice a18 l18 c18) ∧ ∃ (a22 : Option Addr) (l22 c22 : Nat),Al (Instr.sliceAt 24 (.slice a1 l1 c1) (some (.int .i64 16)) (some (.int .i64 32)) none) (.slice a22 l22 c22) ∧ ∃ (a25 : Option Addr) (l25 c25 : Nat),Al (Instr.sliceAt 24 (.slice a1 l1 c1) (some (.int .i64 32)) (some (.int .i64 40)) none) (.slice a25 l25 c25) ∧ (Cal Tryz.prog F_leveeref01_Get #[.slice a18 l18 c18] (drew w3) fun r19 w6 => ∃ n19 : Int,r19 = .int .u64 n19 ∧ (Cal Tryz.prog F_leveeref01_Lent #[.slice a22 l22 c22] w6 fun r23 w7 => ∃ (a23 : Option Addr) (l23 c23 : Nat),r23 = .slice a23 l23 c23 ∧ (Cal Tryz.prog F_leveeref01_Lent #[.slice a25 l25 c25] w7 fun r26 w8 => ∃ (a26 : Option Addr) (l26 c26 : Nat),r26 = .slice a26 l26 c26 ∧ ∃ g27 : Array Value,Al (Instr.build 122 #[(0,.int .i64 (IntKind.i64.wrap n19)),(1,.slice a23 l23 c23),(2,.slice a26 l26 c26)]) (.agg g27) ∧ ∃ q6 : Addr,∃ w9 : World,Ru (Instr.alloc 122 true (.tuple #[])) w8 (.pointer (some q6)) w9 ∧ ∃ w10 : World,RuU (Instr.storeAt 122 (.pointer (some q6)) (.agg g27)) w9 w10 ∧ ∃ g29 : Array Value,Ru (Instr.loadAt 23 (.pointer (some q2))) w10 (.agg g29) w10 ∧ ∃ g30 : Array Value,Ru (Instr.loadAt 122 (.pointer (some q6))) w10 (.agg g30) w10 ∧ Cal Tryz.prog F_leveeref06_Put #[.agg g29,.agg g30] w10 fun r31 w11 => ∃ (a31a : Option Addr) (l31a c31a : Nat),∃ n31b : Int,r31 = .tuple #[.slice a31a l31a c31a,.int .i64 n31b] ∧ Share (fun k => (bif n31b != 0 then k [.bool true] w11 else ∃ s38 : ByteArray,Ru (convert 24 9 (.slice a31a l31a c31a)) w11 (.string s38) w11 ∧ ∃ s40 : ByteArray,Ru (convert 24 9 (.slice a1 l1 c1)) w11 (.string s40) w11 ∧ k [.bool (!((ByteArray.toList s38) == (ByteArray.toList s40)))] w11)) fun x w12 =>
 ∃ b42 : Bool,nth x 0 = .bool b42 ∧ (bif b42 then
 ∃ g43 : Array Value,Al (Instr.build 122 #[]) (.agg g43) ∧ ∃ w13 : World,RuU (Instr.storeAt 122 (.pointer (some q4)) (.agg g43)) w12 w13 ∧ ∃ gR4_3 : Array Value,Ru (Instr.loadAt 122 (.pointer (some q4))) w13 (.agg gR4_3) w13 ∧ K (.tuple #[.agg gR4_3,.int .i64 8]) w13
 else
 ∃ g44 : Array Value,Ru (Instr.loadAt 122 (.pointer (some q6))) w12 (.agg g44) w12 ∧ ∃ w14 : World,RuU (Instr.storeAt 122 (.pointer (some q4)) (.agg g44)) w12 w14 ∧ ∃ gR4_4 : Array Value,Ru (Instr.loadAt 122 (.pointer (some q4))) w14 (.agg gR4_4) w14 ∧ K (.tuple #[.agg gR4_4,.int .i64 0]) w14)) ∧ (∃ q6_2 : Addr,∃ w15 : World,Ru (Instr.alloc 122 true (.tuple #[])) w7 (.pointer (some q6_2)) w15 ∧ Cal Tryz.prog F_leveeref01_Lent #[.slice a25 l25 c25] w15 fun r26_2 w16 => ∃ (a26_2 : Option Addr) (l26_2 c26_2 : Nat),r26_2 = .slice a26_2 l26_2 c26_2 ∧ ∃ g27_2 : Array Value,Al (Instr.build 122 #[(0,.int .i64 (IntKind.i64.wrap n19)),(1,.slice a23 l23 c23),(2,.slice a26_2 l26_2 c26_2)]) (.agg g27_2) ∧ ∃ w17 : World,RuU (Instr.storeAt 122 (.pointer (some q6_2)) (.agg g27_2)) w16 w17 ∧ ∃ g29_2 : Array Value,Ru (Instr.loadAt 23 (.pointer (some q2))) w17 (.agg g29_2) w17 ∧ ∃ g30_2 : Array Value,Ru (Instr.loadAt 122 (.pointer (some q6_2))) w17 (.agg g30_2) w17 ∧ Cal Tryz.prog F_leveeref06_Put #[.agg g29_2,.agg g30_2] w17 fun r31_2 w18 => ∃ (a31a_2 : Option Addr) (l31a_2 c31a_2 : Nat),∃ n31b_2 : Int,r31_2 = .tuple #[.slice a31a_2 l31a_2 c31a_2,.int .i64 n31b_2] ∧ Share (fun k_2 => (bif n31b_2 != 0 then k_2 [.bool true] w18 else ∃ s38_2 : ByteArray,Ru (convert 24 9 (.slice a31a_2 l31a_2 c31a_2)) w18 (.string s38_2) w18 ∧ ∃ s40_2 : ByteArray,Ru (convert 24 9 (.slice a1 l1 c1)) w18 (.string s40_2) w18 ∧ k_2 [.bool (!((ByteArray.toList s38_2) == (ByteArray.toList s40_2)))] w18)) fun x_2 w19 =>
 ∃ b42_2 : Bool,nth x_2 0 = .bool b42_2 ∧ (bif b42_2 then
 ∃ g43_2 : Array Value,Al (Instr.build 122 #[]) (.agg g43_2) ∧ ∃ w20 : World,RuU (Instr.storeAt 122 (.pointer (some q4)) (.agg g43_2)) w19 w20 ∧ ∃ gR4_5 : Array Value,Ru (Instr.loadAt 122 (.pointer (some q4))) w20 (.agg gR4_5) w20 ∧ K (.tuple #[.agg gR4_5,.int .i64 8]) w20
 else
 ∃ g44_2 : Array Value,Ru (Instr.loadAt 122 (.pointer (some q6_2))) w19 (.agg g44_2) w19 ∧ ∃ w21 : World,RuU (Instr.storeAt 122 (.pointer (some q4)) (.agg g44_2)) w19 w21 ∧ ∃ gR4_6 : Array Value,Ru (Instr.loadAt 122 (.pointer (some q4))) w21 (.agg gR4_6) w21 ∧ K (.tuple #[.agg gR4_6,.int .i64 0]) w21))) ∧ (∃ q6_3 : Addr,∃ w22 : World,Ru (Instr.alloc 122 true (.tuple #[])) w6 (.pointer (some q6_3)) w22 ∧ Cal Tryz.prog F_leveeref01_Lent #[.slice a22 l22 c22] w22 fun r23_2 w23 => ∃ (a23_2 : Option Addr) (l23_2 c23_2 : Nat),r23_2 = .slice a23_2 l23_2 c23_2 ∧ Cal Tryz.prog F_leveeref01_Lent #[.slice a25 l25 c25] w23 fun r26_3 w24 => ∃ (a26_3 : Option Addr) (l26_3 c26_3 : Nat),r26_3 = .slice a26_3 l26_3 c26_3 ∧ ∃ g27_3 : Array Value,Al (Instr.build 122 #[(0,.int .i64 (IntKind.i64.wrap n19)),(1,.slice a23_2 l23_2 c23_2),(2,.slice a26_3 l26_3 c26_3)]) (.agg g27_3) ∧ ∃ w25 : World,RuU (Instr.storeAt 122 (.pointer (some q6_3)) (.agg g27_3)) w24 w25 ∧ ∃ g29_3 : Array Value,Ru (Instr.loadAt 23 (.pointer (some q2))) w25 (.agg g29_3) w25 ∧ ∃ g30_3 : Array Value,Ru (Instr.loadAt 122 (.pointer (some q6_3))) w25 (.agg g30_3) w25 ∧ Cal Tryz.prog F_leveeref06_Put #[.agg g29_3,.agg g30_3] w25 fun r31_3 w26 => ∃ (a31a_3 : Option Addr) (l31a_3 c31a_3 : Nat),∃ n31b_3 : Int,r31_3 = .tuple #[.slice a31a_3 l31a_3 c31a_3,.int .i64 n31b_3] ∧ Share (fun k_3 => (bif n31b_3 != 0 then k_3 [.bool true] w26 else ∃ s38_3 : ByteArray,Ru (convert 24 9 (.slice a31a_3 l31a_3 c31a_3)) w26 (.string s38_3) w26 ∧ ∃ s40_3 : ByteArray,Ru (convert 24 9 (.slice a1 l1 c1)) w26 (.string s40_3) w26 ∧ k_3 [.bool (!((ByteArray.toList s38_3) == (ByteArray.toList s40_3)))] w26)) fun x_3 w27 =>
 ∃ b42_3 : Bool,nth x_3 0 = .bool b42_3 ∧ (bif b42_3 then
 ∃ g43_3 : Array Value,Al (Instr.build 122 #[]) (.agg g43_3) ∧ ∃ w28 : World,RuU (Instr.storeAt 122 (.pointer (some q4)) (.agg g43_3)) w27 w28 ∧ ∃ gR4_7 : Array Value,Ru (Instr.loadAt 122 (.pointer (some q4))) w28 (.agg gR4_7) w28 ∧ K (.tuple #[.agg gR4_7,.int .i64 8]) w28
 else
 ∃ g44_3 : Array Value,Ru (Instr.loadAt 122 (.pointer (some q6_3))) w27 (.agg g44_3) w27 ∧ ∃ w29 : World,RuU (Instr.storeAt 122 (.pointer (some q4)) (.agg g44_3)) w27 w29 ∧ ∃ gR4_8 : Array Value,Ru (Instr.loadAt 122 (.pointer (some q4))) w29 (.agg gR4_8) w29 ∧ K (.tuple #[.agg gR4_8,.int .i64 0]) w29))) ∧ (∃ q6_4 : Addr,∃ w30 : World,Ru (Instr.alloc 122 true (.tuple #[])) (drew w3) (.pointer (some q6_4)) w30 ∧ Cal Tryz.prog F_leveeref01_Get #[.slice a18 l18 c18] w30 fun r19_2 w31 => ∃ n19_2 : Int,r19_2 = .int .u64 n19_2 ∧ Cal Tryz.prog F_leveeref01_Lent #[.slice a22 l22 c22] w31 fun r23_3 w32 => ∃ (a23_3 : Option Addr) (l23_3 c23_3 : Nat),r23_3 = .slice a23_3 l23_3 c23_3 ∧ Cal Tryz.prog F_leveeref01_Lent #[.slice a25 l25 c25] w32 fun r26_4 w33 => ∃ (a26_4 : Option Addr) (l26_4 c26_4 : Nat),r26_4 = .slice a26_4 l26_4 c26_4 ∧ ∃ g27_4 : Array Value,Al (Instr.build 122 #[(0,.int .i64 (IntKind.i64.wrap n19_2)),(1,.slice a23_3 l23_3 c23_3),(2,.slice a26_4 l26_4 c26_4)]) (.agg g27_4) ∧ ∃ w34 : World,RuU (Instr.storeAt 122 (.pointer (some q6_4)) (.agg g27_4)) w33 w34 ∧ ∃ g29_4 : Array Value,Ru (Instr.loadAt 23 (.pointer (some q2))) w34 (.agg g29_4) w34 ∧ ∃ g30_4 : Array Value,Ru (Instr.loadAt 122 (.pointer (some q6_4))) w34 (.agg g30_4) w34 ∧ Cal Tryz.prog F_leveeref06_Put #[.agg g29_4,.agg g30_4] w34 fun r31_4 w35 => ∃ (a31a_4 : Option Addr) (l31a_4 c31a_4 : Nat),∃ n31b_4 : Int,r31_4 = .tuple #[.slice a31a_4 l31a_4 c31a_4,.int .i64 n31b_4] ∧ Share (fun k_4 => (bif n31b_4 != 0 then k_4 [.bool true] w35 else ∃ s38_4 : ByteArray,Ru (convert 24 9 (.slice a31a_4 l31a_4 c31a_4)) w35 (.string s38_4) w35 ∧ ∃ s40_4 : ByteArray,Ru (convert 24 9 (.slice a1 l1 c1)) w35 (.string s40_4) w35 ∧ k_4 [.bool (!((ByteArray.toList s38_4) == (ByteArray.toList s40_4)))] w35)) fun x_4 w36 =>
 ∃ b42_4 : Bool,nth x_4 0 = .bool b42_4 ∧ (bif b42_4 then
 ∃ g43_4 : Array Value,Al (Instr.build 122 #[]) (.agg g43_4) ∧ ∃ w37 : World,RuU (Instr.storeAt 122 (.pointer (some q4)) (.agg g43_4)) w36 w37 ∧ ∃ gR4_9 : Array Value,Ru (Instr.loadAt 122 (.pointer (some q4))) w37 (.agg gR4_9) w37 ∧ K (.tuple #[.agg gR4_9,.int .i64 8]) w37
 else
 ∃ g44_4 : Array Value,Ru (Instr.loadAt 122 (.pointer (some q6_4))) w36 (.agg g44_4) w36 ∧ ∃ w38 : World,RuU (Instr.storeAt 122 (.pointer (some q4)) (.agg g44_4)) w36 w38 ∧ ∃ gR4_10 : Array Value,Ru (Instr.loadAt 122 (.pointer (some q4))) w38 (.agg gR4_10) w38 ∧ K (.tuple #[.agg gR4_10,.int .i64 0]) w38))))
set_option maxRecDepth 100000 in
theorem C_leveeref06_Get (g0 : Array Value) (a1 : Option Addr) (l1 c1 : Nat) (w0 : World) (K : Value → World → Prop) (h : D_leveeref06_Get g0 a1 l1 c1 w0 K) : Cal Tryz.prog F_leveeref06_Get #[.agg g0,.slice a1 l1 c1] w0 K :=
 denF_sound (A := { S := [42],ty := [(42,4)],raw := [] }) mixed Tryz.func103 (by kernel_rfl) (by kernel_rfl) ((show denF Tryz.prog _ Tryz.f103 _ w0 K = D_leveeref06_Get g0 a1 l1 c1 w0 K by kernel_rfl).mpr h)
set_option maxRecDepth 100000 in
def D_leveeref03_Place (g0 : Array Value) (n1 : Int) (w0 : World) (K : Value → World → Prop) : Prop :=
 ∃ q2 : Addr,∃ w1 : World,Ru (Instr.box 23 (.agg g0)) w0 (.pointer (some q2)) w1 ∧ ∃ g9 : Array Value,Ru (Instr.loadAt 23 (.pointer (some q2))) w1 (.agg g9) w1 ∧ Cal Tryz.prog F_leveeref03_Right #[.agg g9] w1 fun r10 w2 => ∃ b10 : Bool,r10 = .bool b10 ∧ (bif !b10 then
 K (.tuple #[.int .i64 0,.int .i64 0,.int .i64 1]) w2
 else
 Share (fun k => (bif decide (n1 < 0) then k [.bool true] w2 else ∃ g16 : Array Value,Ru (Instr.loadAt 23 (.pointer (some q2))) w2 (.agg g16) w2 ∧ Cal Tryz.prog F_leveeref03_Slots #[.agg g16] w2 fun r17 w3 => ∃ n17 : Int,r17 = .int .i64 n17 ∧ k [.bool (decide (n1 ≥ n17))] w3)) fun x w4 =>
 ∃ b19 : Bool,nth x 0 = .bool b19 ∧ (bif b19 then
 K (.tuple #[.int .i64 0,.int .i64 0,.int .i64 3]) w4
 else
 ∃ n22 : Int,Ru (Instr.loadAt 3 (.pointer (some (Addr.add q2 1)))) w4 (.int .i64 n22) w4 ∧ ∃ n23 : Int,Al (eqS .quo 3 (.tmp 20) (.tmp 22) (.int .i64 n1) (.int .i64 n22)) (.int .i64 n23) ∧ ∃ n26 : Int,Ru (Instr.loadAt 3 (.pointer (some (Addr.add q2 1)))) w4 (.int .i64 n26) w4 ∧ ∃ n27 : Int,Al (eqS .rem 3 (.tmp 24) (.tmp 26) (.int .i64 n1) (.int .i64 n26)) (.int .i64 n27) ∧ ∃ n30 : Int,Ru (Instr.loadAt 3 (.pointer (some (Addr.add q2 0)))) w4 (.int .i64 n30) w4 ∧ K (.tuple #[.int .i64 (IntKind.i64.wrap ((IntKind.i64.wrap ((IntKind.i64.wrap (2 + (IntKind.i64.wrap (n23 * n30)))) + 1)) + (IntKind.i64.wrap (Int.tdiv n27 4)))),.int .i64 (Int.tmod n27 4),.int .i64 0]) w4))
set_option maxRecDepth 100000 in
theorem C_leveeref03_Place (g0 : Array Value) (n1 : Int) (w0 : World) (K : Value → World → Prop) (h : D_leveeref03_Place g0 n1 w0 K) : Cal Tryz.prog F_leveeref03_Place #[.agg g0,.int .i64 n1] w0 K :=
 denF_sound (A := { S := [19],ty := [(19,4)],raw := [] }) mixed Tryz.func104 (by kernel_rfl) (by kernel_rfl) ((show denF Tryz.prog _ Tryz.f104 _ w0 K = D_leveeref03_Place g0 n1 w0 K by kernel_rfl).mpr h)
set_option maxRecDepth 100000 in
def D_leveeref07_Read (a0 : Option Addr) (l0 c0 : Nat) (n1 : Int) (w0 : World) (K : Value → World → Prop) : Prop :=
 ∃ q4 : Addr,∃ w1 : World,Ru (Instr.alloc 55 true (.tuple #[])) w0 (.pointer (some q4)) w1 ∧ (bif (l0 : Int) != 256 then
 ∃ g9 : Array Value,Al (Instr.build 55 #[]) (.agg g9) ∧ ∃ w2 : World,RuU (Instr.storeAt 55 (.pointer (some q4)) (.agg g9)) w1 w2 ∧ ∃ gR4 : Array Value,Ru (Instr.loadAt 55 (.pointer (some q4))) w2 (.agg gR4) w2 ∧ K (.tuple #[.agg gR4,.int .i64 4]) w2
 else
 Share (fun k => (bif decide (n1 < 0) then k [.bool true] w1 else k [.bool (decide (n1 > 3))] w1)) fun x w3 =>
 ∃ b15 : Bool,nth x 0 = .bool b15 ∧ (bif b15 then
 ∃ g16 : Array Value,Al (Instr.build 55 #[]) (.agg g16) ∧ ∃ w4 : World,RuU (Instr.storeAt 55 (.pointer (some q4)) (.agg g16)) w3 w4 ∧ ∃ gR4_2 : Array Value,Ru (Instr.loadAt 55 (.pointer (some q4))) w4 (.agg gR4_2) w4 ∧ K (.tuple #[.agg gR4_2,.int .i64 3]) w4
 else
 ∃ (a23 : Option Addr) (l23 c23 : Nat),Al (Instr.sliceAt 24 (.slice a0 l0 c0) (some (.int .i64 (IntKind.i64.wrap (64 * n1)))) (some (.int .i64 (IntKind.i64.wrap ((IntKind.i64.wrap (64 * n1)) + 64)))) none) (.slice a23 l23 c23) ∧ Cal Tryz.prog F_leveeref07_Get #[.slice a23 l23 c23] w3 fun r24 w5 => ∃ g24a : Array Value,∃ n24b : Int,r24 = .tuple #[.agg g24a,.int .i64 n24b] ∧ ∃ w6 : World,RuU (Instr.storeAt 55 (.pointer (some q4)) (.agg g24a)) w5 w6 ∧ ∃ gR4_3 : Array Value,Ru (Instr.loadAt 55 (.pointer (some q4))) w6 (.agg gR4_3) w6 ∧ K (.tuple #[.agg gR4_3,.int .i64 n24b]) w6))
set_option maxRecDepth 100000 in
theorem C_leveeref07_Read (a0 : Option Addr) (l0 c0 : Nat) (n1 : Int) (w0 : World) (K : Value → World → Prop) (h : D_leveeref07_Read a0 l0 c0 n1 w0 K) : Cal Tryz.prog F_leveeref07_Read #[.slice a0 l0 c0,.int .i64 n1] w0 K :=
 denF_sound (A := { S := [15],ty := [(15,4)],raw := [] }) mixed Tryz.func105 (by kernel_rfl) (by kernel_rfl) ((show denF Tryz.prog _ Tryz.f105 _ w0 K = D_leveeref07_Read a0 l0 c0 n1 w0 K by kernel_rfl).mpr h)
set_option maxRecDepth 100000 in
def D_geo_Place (g0 : Array Value) (n1 : Int) (w0 : World) (K : Value → World → Prop) : Prop :=
 ∃ q2 : Addr,∃ w1 : World,Ru (Instr.box 23 (.agg g0)) w0 (.pointer (some q2)) w1 ∧ ∃ g11 : Array Value,Ru (Instr.loadAt 23 (.pointer (some q2))) w1 (.agg g11) w1 ∧ Cal Tryz.prog F_geo_Right #[.agg g11] w1 fun r12 w2 => ∃ b12 : Bool,r12 = .bool b12 ∧ (bif !b12 then
 K (.tuple #[.int .i64 0,.int .i64 0,.int .i64 1]) w2
 else
 Share (fun k => (bif decide (n1 < 0) then k [.bool true] w2 else ∃ g19 : Array Value,Ru (Instr.loadAt 23 (.pointer (some q2))) w2 (.agg g19) w2 ∧ Cal Tryz.prog F_geo_Slots #[.agg g19] w2 fun r20 w3 => ∃ n20 : Int,r20 = .int .i64 n20 ∧ k [.bool (decide (n1 ≥ n20))] w3)) fun x w4 =>
 ∃ b14 : Bool,nth x 0 = .bool b14 ∧ (bif b14 then
 K (.tuple #[.int .i64 0,.int .i64 0,.int .i64 3]) w4
 else
 ∃ n25 : Int,Ru (Instr.loadAt 3 (.pointer (some (Addr.add q2 1)))) w4 (.int .i64 n25) w4 ∧ ∃ n26 : Int,Al (eqS .rem 3 (.tmp 23) (.tmp 25) (.int .i64 n1) (.int .i64 n25)) (.int .i64 n26) ∧ ∃ g28 : Array Value,Ru (Instr.loadAt 23 (.pointer (some q2))) (drew w4) (.agg g28) (drew w4) ∧ ∃ n31 : Int,Ru (Instr.loadAt 3 (.pointer (some (Addr.add q2 1)))) (drew w4) (.int .i64 n31) (drew w4) ∧ ∃ n32 : Int,Al (eqS .quo 3 (.tmp 29) (.tmp 31) (.int .i64 n1) (.int .i64 n31)) (.int .i64 n32) ∧ Cal Tryz.prog F_geo_Head #[.agg g28,.int .i64 n32] (drew w4) fun r33 w5 => ∃ n33a : Int,∃ n33b : Int,r33 = .tuple #[.int .i64 n33a,.int .i64 n33b] ∧ K (.tuple #[.int .i64 (IntKind.i64.wrap ((IntKind.i64.wrap (n33a + 1)) + (IntKind.i64.wrap (Int.tdiv n26 4)))),.int .i64 (Int.tmod n26 4),.int .i64 0]) w5))
set_option maxRecDepth 100000 in
theorem C_geo_Place (g0 : Array Value) (n1 : Int) (w0 : World) (K : Value → World → Prop) (h : D_geo_Place g0 n1 w0 K) : Cal Tryz.prog F_geo_Place #[.agg g0,.int .i64 n1] w0 K :=
 denF_sound (A := { S := [14],ty := [(14,4)],raw := [] }) mixed Tryz.func106 (by kernel_rfl) (by kernel_rfl) ((show denF Tryz.prog _ Tryz.f106 _ w0 K = D_geo_Place g0 n1 w0 K by kernel_rfl).mpr h)
set_option maxRecDepth 100000 in
def D_cache_Cache_Read (p0 : Option Addr) (n1 : Int) (w0 : World) (K : Value → World → Prop) : Prop :=
 Cal Tryz.prog F_cache_Cache_may #[.pointer p0,.int .i64 n1,.slice none 0 0,.slice none 0 0] w0 fun r11 w1 => ∃ n11 : Int,r11 = .int .i64 n11 ∧ (bif n11 != 0 then
 K (.tuple #[.slice none 0 0,.int .i64 n11]) w1
 else
 Cal Tryz.prog F_cache_Cache_ask #[.pointer p0,.int .i64 n1] w1 fun r18 w2 => ∃ p18a : Option Addr,∃ n18b : Int,r18 = .tuple #[.pointer p18a,.int .i64 n18b] ∧ (bif n18b != 0 then
 K (.tuple #[.slice none 0 0,.int .i64 n18b]) w2
 else
 ∃ q25 : Addr,(.pointer p18a : Value) = .pointer (some q25) ∧ ∃ (a28 : Option Addr) (l28 c28 : Nat),Ru (Instr.loadAt 24 (.pointer (some (Addr.add (Addr.add q25 0) 0)))) w2 (.slice a28 l28 c28) w2 ∧ Cal Tryz.prog F_slices_Clone_byte #[.slice a28 l28 c28] w2 fun r29 w3 => ∃ (a29 : Option Addr) (l29 c29 : Nat),r29 = .slice a29 l29 c29 ∧ K (.tuple #[.slice a29 l29 c29,.int .i64 0]) w3))
set_option maxRecDepth 100000 in
theorem C_cache_Cache_Read (p0 : Option Addr) (n1 : Int) (w0 : World) (K : Value → World → Prop) (h : D_cache_Cache_Read p0 n1 w0 K) : Cal Tryz.prog F_cache_Cache_Read #[.pointer p0,.int .i64 n1] w0 K :=
 denF_sound (A := { S := [],ty := [],raw := [] }) mixed Tryz.func107 (by kernel_rfl) (by kernel_rfl) ((show denF Tryz.prog _ Tryz.f107 _ w0 K = D_cache_Cache_Read p0 n1 w0 K by kernel_rfl).mpr h)
set_option maxRecDepth 100000 in
def D_inode_may (a0 : Option Addr) (l0 c0 : Nat) (n1 : Int) (w0 : World) (K : Value → World → Prop) : Prop :=
 (bif (l0 : Int) != 256 then
 K (.int .i64 4) w0
 else
 Share (fun k => (bif decide (n1 < 0) then k [.bool true] w0 else k [.bool (decide (n1 ≥ 4))] w0)) fun x w1 =>
 ∃ b9 : Bool,nth x 0 = .bool b9 ∧ (bif b9 then
 K (.int .i64 3) w1
 else
 K (.int .i64 0) w1))
set_option maxRecDepth 100000 in
theorem C_inode_may (a0 : Option Addr) (l0 c0 : Nat) (n1 : Int) (w0 : World) (K : Value → World → Prop) (h : D_inode_may a0 l0 c0 n1 w0 K) : Cal Tryz.prog F_inode_may #[.slice a0 l0 c0,.int .i64 n1] w0 K :=
 denF_sound (A := { S := [9],ty := [(9,4)],raw := [] }) mixed Tryz.func108 (by kernel_rfl) (by kernel_rfl) ((show denF Tryz.prog _ Tryz.f108 _ w0 K = D_inode_may a0 l0 c0 n1 w0 K by kernel_rfl).mpr h)
set_option maxRecDepth 100000 in
def D_inode_Get (a0 : Option Addr) (l0 c0 : Nat) (w0 : World) (K : Value → World → Prop) : Prop :=
 ∃ q2 : Addr,∃ w1 : World,Ru (Instr.alloc 55 true (.tuple #[])) w0 (.pointer (some q2)) w1 ∧ (bif (l0 : Int) != 64 then
 ∃ g10 : Array Value,Al (Instr.build 55 #[]) (.agg g10) ∧ ∃ w2 : World,RuU (Instr.storeAt 55 (.pointer (some q2)) (.agg g10)) w1 w2 ∧ ∃ gR2 : Array Value,Ru (Instr.loadAt 55 (.pointer (some q2))) w2 (.agg gR2) w2 ∧ K (.tuple #[.agg gR2,.int .i64 4]) w2
 else
 ∃ q12 : Addr,Al (Instr.indexAt 24 (.slice a0 l0 c0) (.int .i64 0)) (.pointer (some q12)) ∧ ∃ n13 : Int,Ru (Instr.loadAt 5 (.pointer (some q12))) (drew w1) (.int .u8 n13) (drew w1) ∧ ∃ (a16 : Option Addr) (l16 c16 : Nat),Al (Instr.sliceAt 24 (.slice a0 l0 c0) (some (.int .i64 2)) (some (.int .i64 4)) none) (.slice a16 l16 c16) ∧ ∃ (a20 : Option Addr) (l20 c20 : Nat),Al (Instr.sliceAt 24 (.slice a0 l0 c0) (some (.int .i64 4)) (some (.int .i64 8)) none) (.slice a20 l20 c20) ∧ ∃ (a24 : Option Addr) (l24 c24 : Nat),Al (Instr.sliceAt 24 (.slice a0 l0 c0) (some (.int .i64 8)) (some (.int .i64 16)) none) (.slice a24 l24 c24) ∧ (Cal Tryz.prog F_num_Get #[.slice a16 l16 c16] (drew w1) fun r17 w3 => ∃ n17 : Int,r17 = .int .u64 n17 ∧ Ru (Instr.loadAt 5 (.pointer (some q12))) w3 (.int .u8 n13) w3 ∧ (Cal Tryz.prog F_num_Get #[.slice a20 l20 c20] w3 fun r21 w4 => ∃ n21 : Int,r21 = .int .u64 n21 ∧ Ru (Instr.loadAt 5 (.pointer (some q12))) w4 (.int .u8 n13) w4 ∧ (Cal Tryz.prog F_num_Get #[.slice a24 l24 c24] w4 fun r25 w5 => ∃ n25 : Int,r25 = .int .u64 n25 ∧ Ru (Instr.loadAt 5 (.pointer (some q12))) w5 (.int .u8 n13) w5 ∧ ∃ g27 : Array Value,Al (Instr.build 55 #[(0,.int .i64 (IntKind.i64.wrap n13)),(1,.int .i64 (IntKind.i64.wrap n17)),(2,.int .i64 (IntKind.i64.wrap n21)),(3,.int .i64 (IntKind.i64.wrap n25))]) (.agg g27) ∧ ∃ q4 : Addr,∃ w6 : World,Ru (Instr.alloc 55 true (.tuple #[])) w5 (.pointer (some q4)) w6 ∧ Ru (Instr.loadAt 5 (.pointer (some q12))) w6 (.int .u8 n13) w6 ∧ ∃ w7 : World,RuU (Instr.storeAt 55 (.pointer (some q4)) (.agg g27)) w6 w7 ∧ ∃ q5 : Addr,∃ w8 : World,Ru (Instr.alloc 177 true (.tuple #[])) w7 (.pointer (some q5)) w8 ∧ LoopC (fun k x w9 =>
 ∃ n28 : Int,nth x 0 = .int .i64 n28 ∧ (bif decide (n28 < 8) then
 ∃ (a40 : Option Addr) (l40 c40 : Nat),Al (Instr.sliceAt 24 (.slice a0 l0 c0) (some (.int .i64 (IntKind.i64.wrap (16 + (IntKind.i64.wrap (n28 * 2)))))) (some (.int .i64 (IntKind.i64.wrap (16 + (IntKind.i64.wrap ((IntKind.i64.wrap (n28 + 1)) * 2)))))) none) (.slice a40 l40 c40) ∧ Cal Tryz.prog F_num_Get #[.slice a40 l40 c40] w9 fun r41 w10 => ∃ n41 : Int,r41 = .int .u64 n41 ∧ ∃ q43 : Addr,Al (Instr.indexAt 177 (.pointer (some q5)) (.int .i64 n28)) (.pointer (some q43)) ∧ ∃ w11 : World,RuU (Instr.storeAt 3 (.pointer (some q43)) (.int .i64 (IntKind.i64.wrap n41))) w10 w11 ∧ k [.int .i64 (IntKind.i64.wrap (n28 + 1))] w11
 else
 ∃ (a46 : Option Addr) (l46 c46 : Nat),Al (Instr.sliceAt 53 (.pointer (some (Addr.add q4 4))) none none none) (.slice a46 l46 c46) ∧ ∃ (a47 : Option Addr) (l47 c47 : Nat),Al (Instr.sliceAt 177 (.pointer (some q5)) none none none) (.slice a47 l47 c47) ∧ ∃ n48 : Int,∃ w12 : World,Ru (Builtin.copy_ #[103,103] 3 #[.slice a46 l46 c46,.slice a47 l47 c47]) (drew w9) (.int .i64 n48) w12 ∧ ∃ q49 : Addr,Al (Instr.indexAt 177 (.pointer (some q5)) (.int .i64 6)) (.pointer (some q49)) ∧ ∃ n50 : Int,Ru (Instr.loadAt 3 (.pointer (some q49))) w12 (.int .i64 n50) w12 ∧ ∃ q51 : Addr,Al (Instr.indexAt 177 (.pointer (some q5)) (.int .i64 7)) (.pointer (some q51)) ∧ ∃ n52 : Int,Ru (Instr.loadAt 3 (.pointer (some q51))) w12 (.int .i64 n52) w12 ∧ ∃ w13 : World,RuU (Instr.storeAt 3 (.pointer (some (Addr.add q4 10))) (.int .i64 n50)) w12 w13 ∧ ∃ w14 : World,RuU (Instr.storeAt 3 (.pointer (some (Addr.add q4 11))) (.int .i64 n52)) w13 w14 ∧ Share (fun k_2 => ∃ q56 : Addr,Al (Instr.indexAt 24 (.slice a0 l0 c0) (.int .i64 1)) (.pointer (some q56)) ∧ ∃ n57 : Int,Ru (Instr.loadAt 5 (.pointer (some q56))) w14 (.int .u8 n57) w14 ∧ (bif n57 != 0 then k_2 [.bool true] w14 else ∃ (a61 : Option Addr) (l61 c61 : Nat),Al (Instr.sliceAt 24 (.slice a0 l0 c0) (some (.int .i64 32)) none none) (.slice a61 l61 c61) ∧ Cal Tryz.prog F_num_Zero #[.slice a61 l61 c61] w14 fun r62 w15 => ∃ b62 : Bool,r62 = .bool b62 ∧ (bif !b62 then k_2 [.bool true] w15 else ∃ g66 : Array Value,Ru (Instr.loadAt 55 (.pointer (some q4))) w15 (.agg g66) w15 ∧ Cal Tryz.prog F_inode_Right #[.agg g66] w15 fun r67 w16 => ∃ b67 : Bool,r67 = .bool b67 ∧ k_2 [.bool (!b67)] w16))) fun x_2 w17 =>
 ∃ b69 : Bool,nth x_2 0 = .bool b69 ∧ (bif b69 then
 ∃ g70 : Array Value,Al (Instr.build 55 #[]) (.agg g70) ∧ ∃ w18 : World,RuU (Instr.storeAt 55 (.pointer (some q2)) (.agg g70)) w17 w18 ∧ ∃ gR2_2 : Array Value,Ru (Instr.loadAt 55 (.pointer (some q2))) w18 (.agg gR2_2) w18 ∧ K (.tuple #[.agg gR2_2,.int .i64 8]) w18
 else
 ∃ g71 : Array Value,Ru (Instr.loadAt 55 (.pointer (some q4))) w17 (.agg g71) w17 ∧ ∃ w19 : World,RuU (Instr.storeAt 55 (.pointer (some q2)) (.agg g71)) w17 w19 ∧ ∃ gR2_3 : Array Value,Ru (Instr.loadAt 55 (.pointer (some q2))) w19 (.agg gR2_3) w19 ∧ K (.tuple #[.agg gR2_3,.int .i64 0]) w19))) [.int .i64 0] w8) ∧ (∃ q4_2 : Addr,∃ w20 : World,Ru (Instr.alloc 55 true (.tuple #[])) w4 (.pointer (some q4_2)) w20 ∧ Ru (Instr.loadAt 5 (.pointer (some q12))) w20 (.int .u8 n13) w20 ∧ Cal Tryz.prog F_num_Get #[.slice a24 l24 c24] w20 fun r25_2 w21 => ∃ n25_2 : Int,r25_2 = .int .u64 n25_2 ∧ Ru (Instr.loadAt 5 (.pointer (some q12))) w21 (.int .u8 n13) w21 ∧ ∃ g27_2 : Array Value,Al (Instr.build 55 #[(0,.int .i64 (IntKind.i64.wrap n13)),(1,.int .i64 (IntKind.i64.wrap n17)),(2,.int .i64 (IntKind.i64.wrap n21)),(3,.int .i64 (IntKind.i64.wrap n25_2))]) (.agg g27_2) ∧ ∃ w22 : World,RuU (Instr.storeAt 55 (.pointer (some q4_2)) (.agg g27_2)) w21 w22 ∧ ∃ q5_2 : Addr,∃ w23 : World,Ru (Instr.alloc 177 true (.tuple #[])) w22 (.pointer (some q5_2)) w23 ∧ LoopC (fun k_3 x_3 w24 =>
 ∃ n28_2 : Int,nth x_3 0 = .int .i64 n28_2 ∧ (bif decide (n28_2 < 8) then
 ∃ (a40_2 : Option Addr) (l40_2 c40_2 : Nat),Al (Instr.sliceAt 24 (.slice a0 l0 c0) (some (.int .i64 (IntKind.i64.wrap (16 + (IntKind.i64.wrap (n28_2 * 2)))))) (some (.int .i64 (IntKind.i64.wrap (16 + (IntKind.i64.wrap ((IntKind.i64.wrap (n28_2 + 1)) * 2)))))) none) (.slice a40_2 l40_2 c40_2) ∧ Cal Tryz.prog F_num_Get #[.slice a40_2 l40_2 c40_2] w24 fun r41_2 w25 => ∃ n41_2 : Int,r41_2 = .int .u64 n41_2 ∧ ∃ q43_2 : Addr,Al (Instr.indexAt 177 (.pointer (some q5_2)) (.int .i64 n28_2)) (.pointer (some q43_2)) ∧ ∃ w26 : World,RuU (Instr.storeAt 3 (.pointer (some q43_2)) (.int .i64 (IntKind.i64.wrap n41_2))) w25 w26 ∧ k_3 [.int .i64 (IntKind.i64.wrap (n28_2 + 1))] w26
 else
 ∃ (a46_2 : Option Addr) (l46_2 c46_2 : Nat),Al (Instr.sliceAt 53 (.pointer (some (Addr.add q4_2 4))) none none none) (.slice a46_2 l46_2 c46_2) ∧ ∃ (a47_2 : Option Addr) (l47_2 c47_2 : Nat),Al (Instr.sliceAt 177 (.pointer (some q5_2)) none none none) (.slice a47_2 l47_2 c47_2) ∧ ∃ n48_2 : Int,∃ w27 : World,Ru (Builtin.copy_ #[103,103] 3 #[.slice a46_2 l46_2 c46_2,.slice a47_2 l47_2 c47_2]) (drew w24) (.int .i64 n48_2) w27 ∧ ∃ q49_2 : Addr,Al (Instr.indexAt 177 (.pointer (some q5_2)) (.int .i64 6)) (.pointer (some q49_2)) ∧ ∃ n50_2 : Int,Ru (Instr.loadAt 3 (.pointer (some q49_2))) w27 (.int .i64 n50_2) w27 ∧ ∃ q51_2 : Addr,Al (Instr.indexAt 177 (.pointer (some q5_2)) (.int .i64 7)) (.pointer (some q51_2)) ∧ ∃ n52_2 : Int,Ru (Instr.loadAt 3 (.pointer (some q51_2))) w27 (.int .i64 n52_2) w27 ∧ ∃ w28 : World,RuU (Instr.storeAt 3 (.pointer (some (Addr.add q4_2 10))) (.int .i64 n50_2)) w27 w28 ∧ ∃ w29 : World,RuU (Instr.storeAt 3 (.pointer (some (Addr.add q4_2 11))) (.int .i64 n52_2)) w28 w29 ∧ Share (fun k_4 => ∃ q56_2 : Addr,Al (Instr.indexAt 24 (.slice a0 l0 c0) (.int .i64 1)) (.pointer (some q56_2)) ∧ ∃ n57_2 : Int,Ru (Instr.loadAt 5 (.pointer (some q56_2))) w29 (.int .u8 n57_2) w29 ∧ (bif n57_2 != 0 then k_4 [.bool true] w29 else ∃ (a61_2 : Option Addr) (l61_2 c61_2 : Nat),Al (Instr.sliceAt 24 (.slice a0 l0 c0) (some (.int .i64 32)) none none) (.slice a61_2 l61_2 c61_2) ∧ Cal Tryz.prog F_num_Zero #[.slice a61_2 l61_2 c61_2] w29 fun r62_2 w30 => ∃ b62_2 : Bool,r62_2 = .bool b62_2 ∧ (bif !b62_2 then k_4 [.bool true] w30 else ∃ g66_2 : Array Value,Ru (Instr.loadAt 55 (.pointer (some q4_2))) w30 (.agg g66_2) w30 ∧ Cal Tryz.prog F_inode_Right #[.agg g66_2] w30 fun r67_2 w31 => ∃ b67_2 : Bool,r67_2 = .bool b67_2 ∧ k_4 [.bool (!b67_2)] w31))) fun x_4 w32 =>
 ∃ b69_2 : Bool,nth x_4 0 = .bool b69_2 ∧ (bif b69_2 then
 ∃ g70_2 : Array Value,Al (Instr.build 55 #[]) (.agg g70_2) ∧ ∃ w33 : World,RuU (Instr.storeAt 55 (.pointer (some q2)) (.agg g70_2)) w32 w33 ∧ ∃ gR2_4 : Array Value,Ru (Instr.loadAt 55 (.pointer (some q2))) w33 (.agg gR2_4) w33 ∧ K (.tuple #[.agg gR2_4,.int .i64 8]) w33
 else
 ∃ g71_2 : Array Value,Ru (Instr.loadAt 55 (.pointer (some q4_2))) w32 (.agg g71_2) w32 ∧ ∃ w34 : World,RuU (Instr.storeAt 55 (.pointer (some q2)) (.agg g71_2)) w32 w34 ∧ ∃ gR2_5 : Array Value,Ru (Instr.loadAt 55 (.pointer (some q2))) w34 (.agg gR2_5) w34 ∧ K (.tuple #[.agg gR2_5,.int .i64 0]) w34))) [.int .i64 0] w23)) ∧ (∃ q4_3 : Addr,∃ w35 : World,Ru (Instr.alloc 55 true (.tuple #[])) w3 (.pointer (some q4_3)) w35 ∧ Ru (Instr.loadAt 5 (.pointer (some q12))) w35 (.int .u8 n13) w35 ∧ Cal Tryz.prog F_num_Get #[.slice a20 l20 c20] w35 fun r21_2 w36 => ∃ n21_2 : Int,r21_2 = .int .u64 n21_2 ∧ Ru (Instr.loadAt 5 (.pointer (some q12))) w36 (.int .u8 n13) w36 ∧ Cal Tryz.prog F_num_Get #[.slice a24 l24 c24] w36 fun r25_3 w37 => ∃ n25_3 : Int,r25_3 = .int .u64 n25_3 ∧ Ru (Instr.loadAt 5 (.pointer (some q12))) w37 (.int .u8 n13) w37 ∧ ∃ g27_3 : Array Value,Al (Instr.build 55 #[(0,.int .i64 (IntKind.i64.wrap n13)),(1,.int .i64 (IntKind.i64.wrap n17)),(2,.int .i64 (IntKind.i64.wrap n21_2)),(3,.int .i64 (IntKind.i64.wrap n25_3))]) (.agg g27_3) ∧ ∃ w38 : World,RuU (Instr.storeAt 55 (.pointer (some q4_3)) (.agg g27_3)) w37 w38 ∧ ∃ q5_3 : Addr,∃ w39 : World,Ru (Instr.alloc 177 true (.tuple #[])) w38 (.pointer (some q5_3)) w39 ∧ LoopC (fun k_5 x_5 w40 =>
 ∃ n28_3 : Int,nth x_5 0 = .int .i64 n28_3 ∧ (bif decide (n28_3 < 8) then
 ∃ (a40_3 : Option Addr) (l40_3 c40_3 : Nat),Al (Instr.sliceAt 24 (.slice a0 l0 c0) (some (.int .i64 (IntKind.i64.wrap (16 + (IntKind.i64.wrap (n28_3 * 2)))))) (some (.int .i64 (IntKind.i64.wrap (16 + (IntKind.i64.wrap ((IntKind.i64.wrap (n28_3 + 1)) * 2)))))) none) (.slice a40_3 l40_3 c40_3) ∧ Cal Tryz.prog F_num_Get #[.slice a40_3 l40_3 c40_3] w40 fun r41_3 w41 => ∃ n41_3 : Int,r41_3 = .int .u64 n41_3 ∧ ∃ q43_3 : Addr,Al (Instr.indexAt 177 (.pointer (some q5_3)) (.int .i64 n28_3)) (.pointer (some q43_3)) ∧ ∃ w42 : World,RuU (Instr.storeAt 3 (.pointer (some q43_3)) (.int .i64 (IntKind.i64.wrap n41_3))) w41 w42 ∧ k_5 [.int .i64 (IntKind.i64.wrap (n28_3 + 1))] w42
 else
 ∃ (a46_3 : Option Addr) (l46_3 c46_3 : Nat),Al (Instr.sliceAt 53 (.pointer (some (Addr.add q4_3 4))) none none none) (.slice a46_3 l46_3 c46_3) ∧ ∃ (a47_3 : Option Addr) (l47_3 c47_3 : Nat),Al (Instr.sliceAt 177 (.pointer (some q5_3)) none none none) (.slice a47_3 l47_3 c47_3) ∧ ∃ n48_3 : Int,∃ w43 : World,Ru (Builtin.copy_ #[103,103] 3 #[.slice a46_3 l46_3 c46_3,.slice a47_3 l47_3 c47_3]) (drew w40) (.int .i64 n48_3) w43 ∧ ∃ q49_3 : Addr,Al (Instr.indexAt 177 (.pointer (some q5_3)) (.int .i64 6)) (.pointer (some q49_3)) ∧ ∃ n50_3 : Int,Ru (Instr.loadAt 3 (.pointer (some q49_3))) w43 (.int .i64 n50_3) w43 ∧ ∃ q51_3 : Addr,Al (Instr.indexAt 177 (.pointer (some q5_3)) (.int .i64 7)) (.pointer (some q51_3)) ∧ ∃ n52_3 : Int,Ru (Instr.loadAt 3 (.pointer (some q51_3))) w43 (.int .i64 n52_3) w43 ∧ ∃ w44 : World,RuU (Instr.storeAt 3 (.pointer (some (Addr.add q4_3 10))) (.int .i64 n50_3)) w43 w44 ∧ ∃ w45 : World,RuU (Instr.storeAt 3 (.pointer (some (Addr.add q4_3 11))) (.int .i64 n52_3)) w44 w45 ∧ Share (fun k_6 => ∃ q56_3 : Addr,Al (Instr.indexAt 24 (.slice a0 l0 c0) (.int .i64 1)) (.pointer (some q56_3)) ∧ ∃ n57_3 : Int,Ru (Instr.loadAt 5 (.pointer (some q56_3))) w45 (.int .u8 n57_3) w45 ∧ (bif n57_3 != 0 then k_6 [.bool true] w45 else ∃ (a61_3 : Option Addr) (l61_3 c61_3 : Nat),Al (Instr.sliceAt 24 (.slice a0 l0 c0) (some (.int .i64 32)) none none) (.slice a61_3 l61_3 c61_3) ∧ Cal Tryz.prog F_num_Zero #[.slice a61_3 l61_3 c61_3] w45 fun r62_3 w46 => ∃ b62_3 : Bool,r62_3 = .bool b62_3 ∧ (bif !b62_3 then k_6 [.bool true] w46 else ∃ g66_3 : Array Value,Ru (Instr.loadAt 55 (.pointer (some q4_3))) w46 (.agg g66_3) w46 ∧ Cal Tryz.prog F_inode_Right #[.agg g66_3] w46 fun r67_3 w47 => ∃ b67_3 : Bool,r67_3 = .bool b67_3 ∧ k_6 [.bool (!b67_3)] w47))) fun x_6 w48 =>
 ∃ b69_3 : Bool,nth x_6 0 = .bool b69_3 ∧ (bif b69_3 then
 ∃ g70_3 : Array Value,Al (Instr.build 55 #[]) (.agg g70_3) ∧ ∃ w49 : World,RuU (Instr.storeAt 55 (.pointer (some q2)) (.agg g70_3)) w48 w49 ∧ ∃ gR2_6 : Array Value,Ru (Instr.loadAt 55 (.pointer (some q2))) w49 (.agg gR2_6) w49 ∧ K (.tuple #[.agg gR2_6,.int .i64 8]) w49
 else
 ∃ g71_3 : Array Value,Ru (Instr.loadAt 55 (.pointer (some q4_3))) w48 (.agg g71_3) w48 ∧ ∃ w50 : World,RuU (Instr.storeAt 55 (.pointer (some q2)) (.agg g71_3)) w48 w50 ∧ ∃ gR2_7 : Array Value,Ru (Instr.loadAt 55 (.pointer (some q2))) w50 (.agg gR2_7) w50 ∧ K (.tuple #[.agg gR2_7,.int .i64 0]) w50))) [.int .i64 0] w39)) ∧ (∃ q4_4 : Addr,∃ w51 : World,Ru (Instr.alloc 55 true (.tuple #[])) (drew w1) (.pointer (some q4_4)) w51 ∧ Ru (Instr.loadAt 5 (.pointer (some q12))) w51 (.int .u8 n13) w51 ∧ Cal Tryz.prog F_num_Get #[.slice a16 l16 c16] w51 fun r17_2 w52 => ∃ n17_2 : Int,r17_2 = .int .u64 n17_2 ∧ Ru (Instr.loadAt 5 (.pointer (some q12))) w52 (.int .u8 n13) w52 ∧ Cal Tryz.prog F_num_Get #[.slice a20 l20 c20] w52 fun r21_3 w53 => ∃ n21_3 : Int,r21_3 = .int .u64 n21_3 ∧ Ru (Instr.loadAt 5 (.pointer (some q12))) w53 (.int .u8 n13) w53 ∧ Cal Tryz.prog F_num_Get #[.slice a24 l24 c24] w53 fun r25_4 w54 => ∃ n25_4 : Int,r25_4 = .int .u64 n25_4 ∧ Ru (Instr.loadAt 5 (.pointer (some q12))) w54 (.int .u8 n13) w54 ∧ ∃ g27_4 : Array Value,Al (Instr.build 55 #[(0,.int .i64 (IntKind.i64.wrap n13)),(1,.int .i64 (IntKind.i64.wrap n17_2)),(2,.int .i64 (IntKind.i64.wrap n21_3)),(3,.int .i64 (IntKind.i64.wrap n25_4))]) (.agg g27_4) ∧ ∃ w55 : World,RuU (Instr.storeAt 55 (.pointer (some q4_4)) (.agg g27_4)) w54 w55 ∧ ∃ q5_4 : Addr,∃ w56 : World,Ru (Instr.alloc 177 true (.tuple #[])) w55 (.pointer (some q5_4)) w56 ∧ LoopC (fun k_7 x_7 w57 =>
 ∃ n28_4 : Int,nth x_7 0 = .int .i64 n28_4 ∧ (bif decide (n28_4 < 8) then
 ∃ (a40_4 : Option Addr) (l40_4 c40_4 : Nat),Al (Instr.sliceAt 24 (.slice a0 l0 c0) (some (.int .i64 (IntKind.i64.wrap (16 + (IntKind.i64.wrap (n28_4 * 2)))))) (some (.int .i64 (IntKind.i64.wrap (16 + (IntKind.i64.wrap ((IntKind.i64.wrap (n28_4 + 1)) * 2)))))) none) (.slice a40_4 l40_4 c40_4) ∧ Cal Tryz.prog F_num_Get #[.slice a40_4 l40_4 c40_4] w57 fun r41_4 w58 => ∃ n41_4 : Int,r41_4 = .int .u64 n41_4 ∧ ∃ q43_4 : Addr,Al (Instr.indexAt 177 (.pointer (some q5_4)) (.int .i64 n28_4)) (.pointer (some q43_4)) ∧ ∃ w59 : World,RuU (Instr.storeAt 3 (.pointer (some q43_4)) (.int .i64 (IntKind.i64.wrap n41_4))) w58 w59 ∧ k_7 [.int .i64 (IntKind.i64.wrap (n28_4 + 1))] w59
 else
 ∃ (a46_4 : Option Addr) (l46_4 c46_4 : Nat),Al (Instr.sliceAt 53 (.pointer (some (Addr.add q4_4 4))) none none none) (.slice a46_4 l46_4 c46_4) ∧ ∃ (a47_4 : Option Addr) (l47_4 c47_4 : Nat),Al (Instr.sliceAt 177 (.pointer (some q5_4)) none none none) (.slice a47_4 l47_4 c47_4) ∧ ∃ n48_4 : Int,∃ w60 : World,Ru (Builtin.copy_ #[103,103] 3 #[.slice a46_4 l46_4 c46_4,.slice a47_4 l47_4 c47_4]) (drew w57) (.int .i64 n48_4) w60 ∧ ∃ q49_4 : Addr,Al (Instr.indexAt 177 (.pointer (some q5_4)) (.int .i64 6)) (.pointer (some q49_4)) ∧ ∃ n50_4 : Int,Ru (Instr.loadAt 3 (.pointer (some q49_4))) w60 (.int .i64 n50_4) w60 ∧ ∃ q51_4 : Addr,Al (Instr.indexAt 177 (.pointer (some q5_4)) (.int .i64 7)) (.pointer (some q51_4)) ∧ ∃ n52_4 : Int,Ru (Instr.loadAt 3 (.pointer (some q51_4))) w60 (.int .i64 n52_4) w60 ∧ ∃ w61 : World,RuU (Instr.storeAt 3 (.pointer (some (Addr.add q4_4 10))) (.int .i64 n50_4)) w60 w61 ∧ ∃ w62 : World,RuU (Instr.storeAt 3 (.pointer (some (Addr.add q4_4 11))) (.int .i64 n52_4)) w61 w62 ∧ Share (fun k_8 => ∃ q56_4 : Addr,Al (Instr.indexAt 24 (.slice a0 l0 c0) (.int .i64 1)) (.pointer (some q56_4)) ∧ ∃ n57_4 : Int,Ru (Instr.loadAt 5 (.pointer (some q56_4))) w62 (.int .u8 n57_4) w62 ∧ (bif n57_4 != 0 then k_8 [.bool true] w62 else ∃ (a61_4 : Option Addr) (l61_4 c61_4 : Nat),Al (Instr.sliceAt 24 (.slice a0 l0 c0) (some (.int .i64 32)) none none) (.slice a61_4 l61_4 c61_4) ∧ Cal Tryz.prog F_num_Zero #[.slice a61_4 l61_4 c61_4] w62 fun r62_4 w63 => ∃ b62_4 : Bool,r62_4 = .bool b62_4 ∧ (bif !b62_4 then k_8 [.bool true] w63 else ∃ g66_4 : Array Value,Ru (Instr.loadAt 55 (.pointer (some q4_4))) w63 (.agg g66_4) w63 ∧ Cal Tryz.prog F_inode_Right #[.agg g66_4] w63 fun r67_4 w64 => ∃ b67_4 : Bool,r67_4 = .bool b67_4 ∧ k_8 [.bool (!b67_4)] w64))) fun x_8 w65 =>
 ∃ b69_4 : Bool,nth x_8 0 = .bool b69_4 ∧ (bif b69_4 then
 ∃ g70_4 : Array Value,Al (Instr.build 55 #[]) (.agg g70_4) ∧ ∃ w66 : World,RuU (Instr.storeAt 55 (.pointer (some q2)) (.agg g70_4)) w65 w66 ∧ ∃ gR2_8 : Array Value,Ru (Instr.loadAt 55 (.pointer (some q2))) w66 (.agg gR2_8) w66 ∧ K (.tuple #[.agg gR2_8,.int .i64 8]) w66
 else
 ∃ g71_4 : Array Value,Ru (Instr.loadAt 55 (.pointer (some q4_4))) w65 (.agg g71_4) w65 ∧ ∃ w67 : World,RuU (Instr.storeAt 55 (.pointer (some q2)) (.agg g71_4)) w65 w67 ∧ ∃ gR2_9 : Array Value,Ru (Instr.loadAt 55 (.pointer (some q2))) w67 (.agg gR2_9) w67 ∧ K (.tuple #[.agg gR2_9,.int .i64 0]) w67))) [.int .i64 0] w56))
end Go.Proofs.YtoajelhfiganaaaGreat
end
