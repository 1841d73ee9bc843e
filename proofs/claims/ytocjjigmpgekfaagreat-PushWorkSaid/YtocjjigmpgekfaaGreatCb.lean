/- Parts of the proof, in order: what the statement leans on. -/
import Derived.Test.YtocjjigmpgekfaaGreatCa
section
/- What functions of the translation come to, as printed by a program of this session. -/
open Go Go.Den Go.Proofs
namespace Go.Proofs.YtocjjigmpgekfaaGreat

/- levee.leveelaw11.PatchPlays: slots {10: 'i', 12: 'id', 13: 'b', 41: '', 51: '', 81: '', 115: '', 130: ''}; loop over [13]; loop over [10, 12, 51, 81, 115] -/
/- levee.leveelaw12.PushWork: slots {11: 'i', 14: 'is', 15: 'k', 35: '', 45: '', 54: '', 120: ''}; loop over [14, 15]; loop over [11, 14, 15, 45, 54, 120] -/
set_option maxRecDepth 100000 in
def D_leveelaw12_PushWork (a0 : Option Addr) (l0 c0 : Nat) (a1 : Option Addr) (l1 c1 : Nat) (w0 : World) (K : Value → World → Prop) : Prop :=
 Cal Tryz.prog F_leveelaw12_open #[] w0 fun r17 w1 => ∃ p17a : Option Addr, ∃ p17b : Option Addr, ∃ p17c : Option Addr, ∃ b17d : Bool, r17 = .tuple #[.pointer p17a, .pointer p17b, .pointer p17c, .bool b17d] ∧ Cal Tryz.prog F_push_New #[] w1 fun r22 w2 => ∃ p22 : Option Addr, r22 = .pointer p22 ∧ Share (fun k => (bif !b17d then k [.bool true] w2 else (bif Option.isNone p22 then k [.bool true] w2 else Cal Tryz.prog F_leveelaw12_lay #[.pointer p17a, .pointer p17c, .slice a0 l0 c0] w2 fun r33 w3 => ∃ b33 : Bool, r33 = .bool b33 ∧ k [.bool (!b33)] w3))) fun x w4 =>
 ∃ b35 : Bool, nth x 0 = .bool b35 ∧ (bif b35 then
 K (.bool false) w4
 else
 ∃ g36 : Array Value, Al (Instr.build 65 #[]) (.agg g36) ∧ ∃ q37 : Addr, ∃ w5 : World, Ru (Instr.box 65 (.agg g36)) w4 (.pointer (some q37)) w5 ∧ LoopC (fun k_2 x_2 w6 =>
 Share (fun k_3 => ∃ n11 : Int, nth x_2 0 = .int .i64 n11 ∧ (bif decide (n11 < (l1 : Int)) then k_3 [.bool (decide (n11 < 40))] w6 else k_3 [.bool false] w6)) fun x_3 w7 =>
 ∃ b45 : Bool, nth x_3 0 = .bool b45 ∧ (bif b45 then
 ∃ n11_2 : Int, nth x_2 0 = .int .i64 n11_2 ∧ ∃ q50 : Addr, Al (Instr.indexAt 56 (.slice a1 l1 c1) (.int .i64 n11_2)) (.pointer (some q50)) ∧ ∃ g51 : Array Value, Ru (Instr.loadAt 69 (.pointer (some q50))) w7 (.agg g51) w7 ∧ ∃ q12 : Addr, ∃ w8 : World, Ru (Instr.alloc 69 true (.tuple #[])) w7 (.pointer (some q12)) w8 ∧ ∃ w9 : World, RuU (Instr.storeAt 69 (.pointer (some q12)) (.agg g51)) w8 w9 ∧ ∃ n53 : Int, Ru (Instr.loadAt 3 (.pointer (some (Addr.add q12 0)))) w9 (.int .i64 n53) w9 ∧ Share (fun k_4 => (bif n53 == 0 then
 k_4 [.bool (n53 == 0)] w9
 else
 Share (fun k_5 => (bif n53 == 1 then
 k_5 [.bool (n53 == 1)] w9
 else
 Share (fun k_6 => (bif n53 == 2 then
 k_6 [.bool (n53 == 2)] w9
 else
 k_6 [.bool (n53 == 3)] w9)) fun x_6 w10 =>
 k_5 [nth x_6 0] w10)) fun x_5 w11 =>
 k_4 [nth x_5 0] w11)) fun x_4 w12 =>
 ∃ b54 : Bool, nth x_4 0 = .bool b54 ∧ Share (fun k_7 => (bif b54 then
 ∃ n61 : Int, Ru (Instr.loadAt 2 (.pointer (some (Addr.add q12 1)))) (drew w12) (.int .i64 n61) (drew w12) ∧ ∃ g63 : Array Value, Ru (Instr.loadAt 67 (.pointer (some (Addr.add q12 2)))) (drew w12) (.agg g63) (drew w12) ∧ ∃ n68 : Int, Ru (Instr.loadAt 2 (.pointer (some (Addr.add q12 1)))) (drew w12) (.int .i64 n68) (drew w12) ∧ ∃ g70 : Array Value, Ru (Instr.loadAt 67 (.pointer (some (Addr.add q12 2)))) (drew w12) (.agg g70) (drew w12) ∧ Cal Tryz.prog F_leveelaw12_given #[.agg g63] (drew w12) fun r64 w13 => ∃ g64 : Array Value, r64 = .agg g64 ∧ Ru (Instr.loadAt 2 (.pointer (some (Addr.add q12 1)))) w13 (.int .i64 n61) w13 ∧ Ru (Instr.loadAt 2 (.pointer (some (Addr.add q12 1)))) w13 (.int .i64 n68) w13 ∧ Ru (Instr.loadAt 67 (.pointer (some (Addr.add q12 2)))) w13 (.agg g70) w13 ∧ Cal Tryz.prog F_push_Work_Later #[.pointer p22, .int .i64 n61, .agg g64] w13 fun r65 w14 => ∃ n65 : Int, r65 = .int .i64 n65 ∧ Ru (Instr.loadAt 2 (.pointer (some (Addr.add q12 1)))) w14 (.int .i64 n68) w14 ∧ Ru (Instr.loadAt 67 (.pointer (some (Addr.add q12 2)))) w14 (.agg g70) w14 ∧ Cal Tryz.prog F_leveeref12_Work_Later #[.pointer (some q37), .int .i64 n68, .agg g70] w14 fun r71 w15 => ∃ n71 : Int, r71 = .int .i64 n71 ∧ (bif n65 != n71 then
 K (.bool false) w15
 else
 k_7 [] w15)
 else
 Share (fun k_8 => (bif n53 == 4 then
 Cal Tryz.prog F_push_Work_Ripe #[.pointer p22, .pointer p17a] w12 fun r77 w16 => ∃ (a77 : Option Addr) (l77 c77 : Nat), r77 = .slice a77 l77 c77 ∧ Cal Tryz.prog F_leveelaw12_taken #[.slice a77 l77 c77] w16 fun r78 w17 => ∃ (a78 : Option Addr) (l78 c78 : Nat), r78 = .slice a78 l78 c78 ∧ Cal Tryz.prog F_leveeref12_Work_Ripe #[.pointer (some q37), .pointer p17c] w17 fun r81 w18 => ∃ (a81 : Option Addr) (l81 c81 : Nat), r81 = .slice a81 l81 c81 ∧ Cal Tryz.prog F_leveeref12_Same #[.slice a78 l78 c78, .slice a81 l81 c81] w18 fun r82 w19 => ∃ b82 : Bool, r82 = .bool b82 ∧ (bif !b82 then
 K (.bool false) w19
 else
 k_8 [] w19)
 else
 Share (fun k_9 => (bif n53 == 5 then
 ∃ n88 : Int, Ru (Instr.loadAt 3 (.pointer (some (Addr.add q12 4)))) (drew w12) (.int .i64 n88) (drew w12) ∧ ∃ n92 : Int, Ru (Instr.loadAt 3 (.pointer (some (Addr.add q12 4)))) (drew w12) (.int .i64 n92) (drew w12) ∧ Cal Tryz.prog F_patch_Store_Write #[.pointer p17a, .int .i64 n88] (drew w12) fun r89 w20 => ∃ n89 : Int, r89 = .int .i64 n89 ∧ Ru (Instr.loadAt 3 (.pointer (some (Addr.add q12 4)))) w20 (.int .i64 n92) w20 ∧ Cal Tryz.prog F_leveeref11_Store_Write #[.pointer p17c, .int .i64 n92] w20 fun r93 w21 => ∃ n93 : Int, r93 = .int .i64 n93 ∧ (bif n89 != n93 then
 K (.bool false) w21
 else
 k_9 [] w21)
 else
 Share (fun k_10 => (bif n53 == 6 then
 Cal Tryz.prog F_patch_Store_Flush #[.pointer p17a] w12 fun r98 w22 => ∃ n98 : Int, r98 = .int .i64 n98 ∧ Cal Tryz.prog F_leveeref11_Store_Flush #[.pointer p17c] w22 fun r100 w23 => ∃ n100 : Int, r100 = .int .i64 n100 ∧ k_10 [] w23
 else
 k_10 [] w12)) fun x_10 w24 =>
 k_9 [] w24)) fun x_9 w25 =>
 k_8 [] w25)) fun x_8 w26 =>
 k_7 [] w26)) fun x_7 w27 =>
 Cal Tryz.prog F_push_Work_List #[.pointer p22] w27 fun r102 w28 => ∃ (a102 : Option Addr) (l102 c102 : Nat), r102 = .slice a102 l102 c102 ∧ Share (fun k_11 => ∃ q106 : Addr, (.pointer (some q37) : Value) = .pointer (some q106) ∧ ∃ (a108 : Option Addr) (l108 c108 : Nat), Ru (Instr.loadAt 63 (.pointer (some (Addr.add q106 0)))) (drew w28) (.slice a108 l108 c108) (drew w28) ∧ (bif (l102 : Int) != (l108 : Int) then k_11 [.bool true] (drew w28) else ∃ q115 : Addr, (.pointer (some q37) : Value) = .pointer (some q115) ∧ ∃ (a117 : Option Addr) (l117 c117 : Nat), Ru (Instr.loadAt 63 (.pointer (some (Addr.add q115 0)))) (drew w28) (.slice a117 l117 c117) (drew w28) ∧ Cal Tryz.prog F_push_Work_Len #[.pointer p22] (drew w28) fun r113 w29 => ∃ n113 : Int, r113 = .int .i64 n113 ∧ Ru (Instr.loadAt 63 (.pointer (some (Addr.add q115 0)))) w29 (.slice a117 l117 c117) w29 ∧ k_11 [.bool (n113 != (l117 : Int))] w29)) fun x_11 w30 =>
 ∃ b120 : Bool, nth x_11 0 = .bool b120 ∧ (bif b120 then
 K (.bool false) w30
 else
 LoopC (fun k_12 x_12 w31 =>
 ∃ n15 : Int, nth x_12 1 = .int .i64 n15 ∧ (bif decide (n15 < (l102 : Int)) then
 Share (fun k_13 => ∃ b14 : Bool, nth x_12 0 = .bool b14 ∧ (bif b14 then k_13 [.bool true] (drew w31) else ∃ q130 : Addr, (.pointer (some q37) : Value) = .pointer (some q130) ∧ ∃ (a132 : Option Addr) (l132 c132 : Nat), Ru (Instr.loadAt 63 (.pointer (some (Addr.add q130 0)))) (drew w31) (.slice a132 l132 c132) (drew w31) ∧ ∃ q134 : Addr, Al (Instr.indexAt 63 (.slice a132 l132 c132) (.int .i64 n15)) (.pointer (some q134)) ∧ ∃ g136 : Array Value, Ru (Instr.loadAt 67 (.pointer (some (Addr.add q134 1)))) (drew w31) (.agg g136) (drew w31) ∧ ∃ g138 : Array Value, Ru (Instr.loadAt 67 (.pointer (some (Addr.add q12 2)))) (drew w31) (.agg g138) (drew w31) ∧ ∃ b139 : Bool, Al (eqS .eql 67 (.tmp 136) (.tmp 138) (.agg g136) (.agg g138)) (.bool b139) ∧ k_13 [.bool b139] (drew w31))) fun x_13 w32 =>
 ∃ q143 : Addr, Al (Instr.indexAt 77 (.slice a102 l102 c102) (.int .i64 n15)) (.pointer (some q143)) ∧ ∃ g144 : Array Value, Ru (Instr.loadAt 71 (.pointer (some q143))) (drew w32) (.agg g144) (drew w32) ∧ ∃ q146 : Addr, (.pointer (some q37) : Value) = .pointer (some q146) ∧ ∃ (a148 : Option Addr) (l148 c148 : Nat), Ru (Instr.loadAt 63 (.pointer (some (Addr.add q146 0)))) (drew w32) (.slice a148 l148 c148) (drew w32) ∧ ∃ q150 : Addr, Al (Instr.indexAt 63 (.slice a148 l148 c148) (.int .i64 n15)) (.pointer (some q150)) ∧ ∃ g152 : Array Value, Ru (Instr.loadAt 67 (.pointer (some (Addr.add q150 1)))) (drew w32) (.agg g152) (drew w32) ∧ Cal Tryz.prog F_leveelaw12_given #[.agg g152] (drew w32) fun r153 w33 => ∃ g153 : Array Value, r153 = .agg g153 ∧ Ru (Instr.loadAt 71 (.pointer (some q143))) w33 (.agg g144) w33 ∧ ∃ b154 : Bool, Al (eqS .neq 71 (.tmp 144) (.tmp 153) (.agg g144) (.agg g153)) (.bool b154) ∧ (bif b154 then
 K (.bool false) w33
 else
 ∃ q157 : Addr, Al (Instr.indexAt 77 (.slice a102 l102 c102) (.int .i64 n15)) (.pointer (some q157)) ∧ ∃ w34 : World, RuU (Instr.storeAt 3 (.pointer (some (Addr.add q157 1))) (.int .i64 77)) w33 w34 ∧ k_12 [nth x_13 0, .int .i64 (IntKind.i64.wrap (n15 + 1))] w34)
 else
 ∃ g161 : Array Value, Ru (Instr.loadAt 67 (.pointer (some (Addr.add q12 2)))) w31 (.agg g161) w31 ∧ Cal Tryz.prog F_leveelaw12_given #[.agg g161] w31 fun r162 w35 => ∃ g162 : Array Value, r162 = .agg g162 ∧ Cal Tryz.prog F_push_Work_Waits #[.pointer p22, .agg g162] w35 fun r163 w36 => ∃ b163 : Bool, r163 = .bool b163 ∧ ∃ b14_2 : Bool, nth x_12 0 = .bool b14_2 ∧ (bif !(b163 == b14_2) then
 K (.bool false) w36
 else
 k_2 [.int .i64 (IntKind.i64.wrap (n11_2 + 1)), .bool b14_2, .int .i64 n15, .bool b45, .bool b54, .bool b120] w36))) [.bool false, .int .i64 0] w30)
 else
 Cal Tryz.prog F_leveelaw12_known #[] w7 fun r166 w37 => ∃ b166 : Bool, r166 = .bool b166 ∧ K (.bool b166) w37)) [.int .i64 0, undef, undef, undef, undef, undef] w5)
set_option maxRecDepth 100000 in
theorem C_leveelaw12_PushWork (a0 : Option Addr) (l0 c0 : Nat) (a1 : Option Addr) (l1 c1 : Nat) (w0 : World) (K : Value → World → Prop) (h : D_leveelaw12_PushWork a0 l0 c0 a1 l1 c1 w0 K) : Cal Tryz.prog F_leveelaw12_PushWork #[.slice a0 l0 c0, .slice a1 l1 c1] w0 K :=
 denF_sound (A := { S := [11, 14, 15, 35, 45, 54, 120], ty := [(11, 3), (14, 4), (15, 3), (35, 4), (45, 4), (54, 4), (120, 4)], raw := [] }) mixed Tryz.func4 (by kernel_rfl) (by kernel_rfl) ((show denF Tryz.prog _ Tryz.f4 _ w0 K = D_leveelaw12_PushWork a0 l0 c0 a1 l1 c1 w0 K by kernel_rfl).mpr h)

/- levee.leveelaw12.PushNil: slots {4: ''};  -/
/- levee.leveelaw12.PushSafe: slots {1: 'id', 4: '', 11: 'i', 16: 'i', 17: 'b', 18: 'b', 37: '', 74: '', 125: ''}; loop over [4, 18]; loop over [4, 17, 125]; loop over [4, 16]; loop over [11, 74] -/
/- levee.leveelaw12.PushOnes: slots {1: 'id', 35: '', 55: '', 89: '', 110: ''};  -/
/- levee.leveelaw13.VolFormats: slots {8: '', 23: '', 58: '', 92: ''};  -/
/- levee.leveelaw13.VolNil: slots {4: ''};  -/
/- levee.disk.New: slots {9: ''};  -/
set_option maxRecDepth 100000 in
def D_disk_New (n0 : Int) (w0 : World) (K : Value → World → Prop) : Prop :=
 Share (fun k => (bif decide (n0 < 1) then k [.bool true] w0 else k [.bool (decide (n0 > 4096))] w0)) fun x w1 =>
 ∃ b9 : Bool, nth x 0 = .bool b9 ∧ (bif b9 then
 K (.tuple #[.pointer none, .int .i64 1]) w1
 else
 ∃ (a11 : Option Addr) (l11 c11 : Nat), ∃ w2 : World, Ru (Instr.makeSlice 141 (.int .i64 n0) (.int .i64 n0)) w1 (.slice a11 l11 c11) w2 ∧ ∃ m12 : Option Nat, ∃ w3 : World, Ru (Instr.makeMap 142 none) w2 (.map m12) w3 ∧ ∃ g13 : Array Value, Al (Instr.build 144 #[(0, .slice a11 l11 c11), (1, .map m12), (2, .int .i64 ((-1)))]) (.agg g13) ∧ ∃ q14 : Addr, ∃ w4 : World, Ru (Instr.box 144 (.agg g13)) w3 (.pointer (some q14)) w4 ∧ K (.tuple #[.pointer (some q14), .int .i64 0]) w4)
set_option maxRecDepth 100000 in
theorem C_disk_New (n0 : Int) (w0 : World) (K : Value → World → Prop) (h : D_disk_New n0 w0 K) : Cal Tryz.prog F_disk_New #[.int .i64 n0] w0 K :=
 denF_sound (A := { S := [9], ty := [(9, 4)], raw := [] }) mixed Tryz.func10 (by kernel_rfl) (by kernel_rfl) ((show denF Tryz.prog _ Tryz.f10 _ w0 K = D_disk_New n0 w0 K by kernel_rfl).mpr h)

/- levee.leveeref02.New: slots {5: 'i', 11: ''}; loop over [5] -/
set_option maxRecDepth 100000 in
def D_leveeref02_New (n0 : Int) (w0 : World) (K : Value → World → Prop) : Prop :=
 Share (fun k => (bif decide (n0 < 1) then k [.bool true] w0 else k [.bool (decide (n0 > 4096))] w0)) fun x w1 =>
 ∃ b11 : Bool, nth x 0 = .bool b11 ∧ (bif b11 then
 K (.tuple #[.pointer none, .int .i64 1]) w1
 else
 ∃ g12 : Array Value, Al (Instr.build 147 #[]) (.agg g12) ∧ ∃ q13 : Addr, ∃ w2 : World, Ru (Instr.box 147 (.agg g12)) w1 (.pointer (some q13)) w2 ∧ LoopC (fun k_2 x_2 w3 =>
 ∃ n5 : Int, nth x_2 0 = .int .i64 n5 ∧ (bif decide (n5 < n0) then
 ∃ q21 : Addr, (.pointer (some q13) : Value) = .pointer (some q21) ∧ ∃ (a23 : Option Addr) (l23 c23 : Nat), Ru (Instr.loadAt 145 (.pointer (some (Addr.add q21 0)))) (drew w3) (.slice a23 l23 c23) (drew w3) ∧ Cal Tryz.prog F_leveeref02_none #[] (drew w3) fun r24 w4 => ∃ s24 : ByteArray, r24 = .string s24 ∧ Ru (Instr.loadAt 145 (.pointer (some (Addr.add q21 0)))) w4 (.slice a23 l23 c23) w4 ∧ ∃ (a25 : Option Addr) (l25 c25 : Nat), ∃ w5 : World, Ru (Instr.buildSlice 40 1 #[(0, .string s24)]) w4 (.slice a25 l25 c25) w5 ∧ Ru (Instr.loadAt 145 (.pointer (some (Addr.add q21 0)))) w5 (.slice a23 l23 c23) w5 ∧ ∃ g26 : Array Value, Al (Instr.build 150 #[(0, .slice a25 l25 c25)]) (.agg g26) ∧ ∃ (a27 : Option Addr) (l27 c27 : Nat), ∃ w6 : World, Ru (Instr.buildSlice 145 1 #[(0, .agg g26)]) w5 (.slice a27 l27 c27) w6 ∧ Ru (Instr.loadAt 145 (.pointer (some (Addr.add q21 0)))) w6 (.slice a23 l23 c23) w6 ∧ ∃ (a28 : Option Addr) (l28 c28 : Nat), ∃ w7 : World, Ru (Builtin.append_ #[145, 145] 145 #[.slice a23 l23 c23, .slice a27 l27 c27]) w6 (.slice a28 l28 c28) w7 ∧ ∃ q29 : Addr, (.pointer (some q13) : Value) = .pointer (some q29) ∧ ∃ w8 : World, RuU (Instr.storeAt 145 (.pointer (some (Addr.add q29 0))) (.slice a28 l28 c28)) w7 w8 ∧ k_2 [.int .i64 (IntKind.i64.wrap (n5 + 1))] w8
 else
 K (.tuple #[.pointer (some q13), .int .i64 0]) w3)) [.int .i64 0] w2)
set_option maxRecDepth 100000 in
theorem C_leveeref02_New (n0 : Int) (w0 : World) (K : Value → World → Prop) (h : D_leveeref02_New n0 w0 K) : Cal Tryz.prog F_leveeref02_New #[.int .i64 n0] w0 K :=
 denF_sound (A := { S := [5, 11], ty := [(5, 3), (11, 4)], raw := [] }) mixed Tryz.func11 (by kernel_rfl) (by kernel_rfl) ((show denF Tryz.prog _ Tryz.f11 _ w0 K = D_leveeref02_New n0 w0 K by kernel_rfl).mpr h)

/- levee.patch.Open: slots {};  -/
set_option maxRecDepth 100000 in
def D_patch_Open (p0 : Option Addr) (n1 : Int) (w0 : World) (K : Value → World → Prop) : Prop :=
 Cal Tryz.prog F_cache_New #[.pointer p0, .int .i64 n1] w0 fun r11 w1 => ∃ p11a : Option Addr, ∃ n11b : Int, r11 = .tuple #[.pointer p11a, .int .i64 n11b] ∧ (bif n11b != 0 then
 K (.tuple #[.pointer none, .int .i64 n11b]) w1
 else
 Cal Tryz.prog F_disk_Disk_Len #[.pointer p0] w1 fun r19 w2 => ∃ n19 : Int, r19 = .int .i64 n19 ∧ ∃ m20 : Option Nat, ∃ w3 : World, Ru (Instr.makeMap 154 none) w2 (.map m20) w3 ∧ ∃ m21 : Option Nat, ∃ w4 : World, Ru (Instr.makeMap 155 none) w3 (.map m21) w4 ∧ ∃ g22 : Array Value, Al (Instr.build 157 #[(0, .pointer p11a), (1, .int .i64 n19), (3, .map m20), (4, .map m21)]) (.agg g22) ∧ ∃ q23 : Addr, ∃ w5 : World, Ru (Instr.box 157 (.agg g22)) w4 (.pointer (some q23)) w5 ∧ K (.tuple #[.pointer (some q23), .int .i64 0]) w5)
set_option maxRecDepth 100000 in
theorem C_patch_Open (p0 : Option Addr) (n1 : Int) (w0 : World) (K : Value → World → Prop) (h : D_patch_Open p0 n1 w0 K) : Cal Tryz.prog F_patch_Open #[.pointer p0, .int .i64 n1] w0 K :=
 denF_sound (A := { S := [], ty := [], raw := [] }) mixed Tryz.func12 (by kernel_rfl) (by kernel_rfl) ((show denF Tryz.prog _ Tryz.f12 _ w0 K = D_patch_Open p0 n1 w0 K by kernel_rfl).mpr h)

/- (levee.patch.Store).Len: slots {};  -/
/- levee.leveeref11.Open: slots {4: 'i'}; loop over [4] -/
set_option maxRecDepth 100000 in
def D_leveeref11_Open (p0 : Option Addr) (w0 : World) (K : Value → World → Prop) : Prop :=
 ∃ g8 : Array Value, Al (Instr.build 43 #[(0, .pointer p0)]) (.agg g8) ∧ ∃ q9 : Addr, ∃ w1 : World, Ru (Instr.box 43 (.agg g8)) w0 (.pointer (some q9)) w1 ∧ LoopC (fun k x w2 =>
 ∃ n4 : Int, nth x 0 = .int .i64 n4 ∧ ∃ q12 : Addr, (.pointer p0 : Value) = .pointer (some q12) ∧ ∃ (a14 : Option Addr) (l14 c14 : Nat), Ru (Instr.loadAt 145 (.pointer (some (Addr.add q12 0)))) w2 (.slice a14 l14 c14) w2 ∧ (bif decide (n4 < (l14 : Int)) then
 Cal Tryz.prog F_leveeref02_Disk_Read #[.pointer p0, .int .i64 n4] w2 fun r22 w3 => ∃ (a22a : Option Addr) (l22a c22a : Nat), ∃ n22b : Int, r22 = .tuple #[.slice a22a l22a c22a, .int .i64 n22b] ∧ ∃ q27 : Addr, (.pointer (some q9) : Value) = .pointer (some q27) ∧ ∃ (a29 : Option Addr) (l29 c29 : Nat), Ru (Instr.loadAt 40 (.pointer (some (Addr.add q27 1)))) (drew w3) (.slice a29 l29 c29) (drew w3) ∧ ∃ s31 : ByteArray, Ru (convert 36 9 (.slice a22a l22a c22a)) (drew w3) (.string s31) (drew w3) ∧ ∃ (a32 : Option Addr) (l32 c32 : Nat), ∃ w4 : World, Ru (Instr.buildSlice 40 1 #[(0, .string s31)]) (drew w3) (.slice a32 l32 c32) w4 ∧ Ru (Instr.loadAt 40 (.pointer (some (Addr.add q27 1)))) w4 (.slice a29 l29 c29) w4 ∧ ∃ (a33 : Option Addr) (l33 c33 : Nat), ∃ w5 : World, Ru (Builtin.append_ #[40, 40] 40 #[.slice a29 l29 c29, .slice a32 l32 c32]) w4 (.slice a33 l33 c33) w5 ∧ ∃ q34 : Addr, (.pointer (some q9) : Value) = .pointer (some q34) ∧ ∃ w6 : World, RuU (Instr.storeAt 40 (.pointer (some (Addr.add q34 1))) (.slice a33 l33 c33)) w5 w6 ∧ k [.int .i64 (IntKind.i64.wrap (n4 + 1))] w6
 else
 K (.pointer (some q9)) w2)) [.int .i64 0] w1
set_option maxRecDepth 100000 in
theorem C_leveeref11_Open (p0 : Option Addr) (w0 : World) (K : Value → World → Prop) (h : D_leveeref11_Open p0 w0 K) : Cal Tryz.prog F_leveeref11_Open #[.pointer p0] w0 K :=
 denF_sound (A := { S := [4], ty := [(4, 3)], raw := [] }) mixed Tryz.func14 (by kernel_rfl) (by kernel_rfl) ((show denF Tryz.prog _ Tryz.f14 _ w0 K = D_leveeref11_Open p0 w0 K by kernel_rfl).mpr h)

/- levee.leveelaw11.after: slots {5: 'out', 6: 'i', 7: 'k', 13: '', 24: ''}; loop over [5, 6, 7, 24] -/
/- levee.leveelaw11.do: slots {6: '', 16: '', 71: ''};  -/
/- levee.leveelaw11.same: slots {8: '', 21: 'ok'};  -/
/- (levee.disk.Disk).Bytes: slots {3: 'out', 8: ''}; loop over [3, 8] -/
/- (levee.leveeref02.Disk).Bytes: slots {3: 'out', 4: 'i'}; loop over [3, 4] -/
/- levee.leveeref01.Ints: slots {5: 'i'}; loop over [5] -/
/- (levee.disk.Disk).Open: slots {3: 'l'}; loop over [3] -/
set_option maxRecDepth 100000 in
def D_disk_Disk_Open (p0 : Option Addr) (w0 : World) (K : Value → World → Prop) : Prop :=
 (bif Option.isNone p0 then
 K (.slice none 0 0) w0
 else
 ∃ q8 : Addr, (.pointer p0 : Value) = .pointer (some q8) ∧ ∃ m10 : Option Nat, Ru (Instr.loadAt 142 (.pointer (some (Addr.add q8 1)))) w0 (.map m10) w0 ∧ ∃ q11 : Addr, ∃ w1 : World, Ru (Instr.range 142 (.map m10)) w0 (.pointer (some q11)) w1 ∧ LoopC (fun k x w2 =>
 ∃ v12 : Value, ∃ w3 : World, Ru (Instr.next (.pointer (some q11)) false 0) w2 v12 w3 ∧ ∃ b13 : Bool, Al (Instr.extract v12 0) (.bool b13) ∧ (bif b13 then
 ∃ v14 : Value, Ru (Instr.entry (.pointer (some q11))) w3 v14 w3 ∧ ∃ n15 : Int, Al (Instr.extract v14 0) (.int .i64 n15) ∧ ∃ (a3 : Option Addr) (l3 c3 : Nat), nth x 0 = .slice a3 l3 c3 ∧ ∃ (a18 : Option Addr) (l18 c18 : Nat), ∃ w4 : World, Ru (Instr.buildSlice 49 1 #[(0, .int .i64 n15)]) w3 (.slice a18 l18 c18) w4 ∧ ∃ (a19 : Option Addr) (l19 c19 : Nat), ∃ w5 : World, Ru (Builtin.append_ #[49, 49] 49 #[.slice a3 l3 c3, .slice a18 l18 c18]) w4 (.slice a19 l19 c19) w5 ∧ k [.slice a19 l19 c19] w5
 else
 ∃ (a3_2 : Option Addr) (l3_2 c3_2 : Nat), nth x 0 = .slice a3_2 l3_2 c3_2 ∧ Cal Tryz.prog F_slices_Sort_int #[.slice a3_2 l3_2 c3_2] w3 fun r21 w6 => r21 = .tuple #[] ∧ K (.slice a3_2 l3_2 c3_2) w6)) [.slice none 0 0] w1)
set_option maxRecDepth 100000 in
theorem C_disk_Disk_Open (p0 : Option Addr) (w0 : World) (K : Value → World → Prop) (h : D_disk_Disk_Open p0 w0 K) : Cal Tryz.prog F_disk_Disk_Open #[.pointer p0] w0 K :=
 denF_sound (A := { S := [3], ty := [(3, 49)], raw := [12, 14] }) mixed Tryz.func21 (by kernel_rfl) (by kernel_rfl) ((show denF Tryz.prog _ Tryz.f21 _ w0 K = D_disk_Disk_Open p0 w0 K by kernel_rfl).mpr h)

/- (levee.leveeref02.Disk).Open: slots {3: 'out', 4: 'i'}; loop over [3, 4] -/
/- (levee.disk.Disk).Safe: slots {};  -/
/- (levee.leveeref02.Disk).Safe: slots {};  -/
/- levee.leveelaw11.known: slots {0: '', 18: 'one', 33: '', 86: ''};  -/
/- levee.leveelaw12.open: slots {0: '', 1: '', 2: '', 3: ''};  -/
set_option maxRecDepth 100000 in
def D_leveelaw12_open (w0 : World) (K : Value → World → Prop) : Prop :=
 Cal Tryz.prog F_disk_New #[.int .i64 5] w0 fun r11 w1 => ∃ p11a : Option Addr, ∃ n11b : Int, r11 = .tuple #[.pointer p11a, .int .i64 n11b] ∧ Cal Tryz.prog F_leveeref02_New #[.int .i64 5] w1 fun r15 w2 => ∃ p15a : Option Addr, ∃ n15b : Int, r15 = .tuple #[.pointer p15a, .int .i64 n15b] ∧ Cal Tryz.prog F_patch_Open #[.pointer p11a, .int .i64 5] w2 fun r20 w3 => ∃ p20a : Option Addr, ∃ n20b : Int, r20 = .tuple #[.pointer p20a, .int .i64 n20b] ∧ Share (fun k => Cal Tryz.prog F_leveeref11_Open #[.pointer p15a] w3 fun r26 w4 => ∃ p26 : Option Addr, r26 = .pointer p26 ∧ (bif n20b == 0 then k [.pointer p20a, .pointer p11a, .pointer p26, .bool (!(Option.isNone p20a))] w4 else k [.pointer p20a, .pointer p11a, .pointer p26, .bool false] w4)) fun x w5 =>
 ∃ p0 : Option Addr, nth x 0 = .pointer p0 ∧ ∃ p1 : Option Addr, nth x 1 = .pointer p1 ∧ ∃ p2 : Option Addr, nth x 2 = .pointer p2 ∧ ∃ b3 : Bool, nth x 3 = .bool b3 ∧ K (.tuple #[.pointer p0, .pointer p1, .pointer p2, .bool b3]) w5
set_option maxRecDepth 100000 in
theorem C_leveelaw12_open (w0 : World) (K : Value → World → Prop) (h : D_leveelaw12_open  w0 K) : Cal Tryz.prog F_leveelaw12_open #[] w0 K :=
 denF_sound (A := { S := [0, 1, 2, 3], ty := [(0, 30), (1, 23), (2, 34), (3, 4)], raw := [] }) mixed Tryz.func26 (by kernel_rfl) (by kernel_rfl) ((show denF Tryz.prog _ Tryz.f26 _ w0 K = D_leveelaw12_open  w0 K by kernel_rfl).mpr h)

/- levee.push.New: slots {};  -/
set_option maxRecDepth 100000 in
def D_push_New (w0 : World) (K : Value → World → Prop) : Prop :=
 ∃ g1 : Array Value, Al (Instr.build 170 #[]) (.agg g1) ∧ ∃ q2 : Addr, ∃ w1 : World, Ru (Instr.box 170 (.agg g1)) w0 (.pointer (some q2)) w1 ∧ K (.pointer (some q2)) w1
set_option maxRecDepth 100000 in
theorem C_push_New (w0 : World) (K : Value → World → Prop) (h : D_push_New  w0 K) : Cal Tryz.prog F_push_New #[] w0 K :=
 denF_sound (A := { S := [], ty := [], raw := [] }) mixed Tryz.func27 (by kernel_rfl) (by kernel_rfl) ((show denF Tryz.prog _ Tryz.f27 _ w0 K = D_push_New  w0 K by kernel_rfl).mpr h)

/- levee.leveelaw12.lay: slots {7: 'i', 9: 'ids', 10: 'k', 11: 'n', 23: '', 45: '', 113: ''}; loop over [9, 10, 11, 45]; loop over [7, 9, 10, 11, 23, 45, 113] -/
set_option maxRecDepth 100000 in
def D_leveelaw12_lay (p0 : Option Addr) (p1 : Option Addr) (a2 : Option Addr) (l2 c2 : Nat) (w0 : World) (K : Value → World → Prop) : Prop :=
 LoopC (fun k x w1 =>
 Share (fun k_2 => ∃ n7 : Int, nth x 0 = .int .i64 n7 ∧ (bif decide (n7 < (l2 : Int)) then k_2 [.bool (decide (n7 < 30))] w1 else k_2 [.bool false] w1)) fun x_2 w2 =>
 ∃ b23 : Bool, nth x_2 0 = .bool b23 ∧ (bif b23 then
 ∃ n7_2 : Int, nth x 0 = .int .i64 n7_2 ∧ ∃ q28 : Addr, Al (Instr.indexAt 55 (.slice a2 l2 c2) (.int .i64 n7_2)) (.pointer (some q28)) ∧ ∃ g29 : Array Value, Ru (Instr.loadAt 172 (.pointer (some q28))) w2 (.agg g29) w2 ∧ ∃ q8 : Addr, ∃ w3 : World, Ru (Instr.alloc 172 true (.tuple #[])) w2 (.pointer (some q8)) w3 ∧ ∃ w4 : World, RuU (Instr.storeAt 172 (.pointer (some q8)) (.agg g29)) w3 w4 ∧ LoopC (fun k_3 x_3 w5 =>
 Share (fun k_4 => ∃ n10 : Int, nth x_3 1 = .int .i64 n10 ∧ ∃ (a32 : Option Addr) (l32 c32 : Nat), Ru (Instr.loadAt 37 (.pointer (some (Addr.add q8 3)))) w5 (.slice a32 l32 c32) w5 ∧ (bif decide (n10 < (l32 : Int)) then (bif decide (n10 < 4) then ∃ q41 : Addr, (.pointer p1 : Value) = .pointer (some q41) ∧ ∃ n43 : Int, Ru (Instr.loadAt 2 (.pointer (some (Addr.add q41 3)))) w5 (.int .i64 n43) w5 ∧ k_4 [.bool (decide (n43 > 0))] w5 else k_4 [.bool false] w5) else k_4 [.bool false] w5)) fun x_4 w6 =>
 ∃ b45 : Bool, nth x_4 0 = .bool b45 ∧ (bif b45 then
 ∃ (a49 : Option Addr) (l49 c49 : Nat), Ru (Instr.loadAt 37 (.pointer (some (Addr.add q8 3)))) (drew w6) (.slice a49 l49 c49) (drew w6) ∧ ∃ n10_2 : Int, nth x_3 1 = .int .i64 n10_2 ∧ ∃ q51 : Addr, Al (Instr.indexAt 37 (.slice a49 l49 c49) (.int .i64 n10_2)) (.pointer (some q51)) ∧ ∃ n52 : Int, Ru (Instr.loadAt 2 (.pointer (some q51))) (drew w6) (.int .i64 n52) (drew w6) ∧ ∃ q54 : Addr, (.pointer p1 : Value) = .pointer (some q54) ∧ ∃ n56 : Int, Ru (Instr.loadAt 2 (.pointer (some (Addr.add q54 3)))) (drew w6) (.int .i64 n56) (drew w6) ∧ ∃ n57 : Int, Al (eqS .rem 2 (.tmp 52) (.tmp 56) (.int .i64 n52) (.int .i64 n56)) (.int .i64 n57) ∧ Share (fun k_5 => (bif decide (n57 < 0) then
 k_5 [.int .i64 (IntKind.i64.wrap (0 - n57))] (drew w6)
 else
 k_5 [.int .i64 n57] (drew w6))) fun x_5 w7 =>
 ∃ (a9 : Option Addr) (l9 c9 : Nat), nth x_3 0 = .slice a9 l9 c9 ∧ ∃ q64 : Addr, (.pointer p1 : Value) = .pointer (some q64) ∧ ∃ n66 : Int, Ru (Instr.loadAt 2 (.pointer (some (Addr.add q64 3)))) w7 (.int .i64 n66) w7 ∧ ∃ n11 : Int, nth x_5 0 = .int .i64 n11 ∧ ∃ (a69 : Option Addr) (l69 c69 : Nat), ∃ w8 : World, Ru (Instr.buildSlice 37 1 #[(0, .int .i64 (IntKind.i64.wrap (n66 - n11)))]) w7 (.slice a69 l69 c69) w8 ∧ ∃ (a70 : Option Addr) (l70 c70 : Nat), ∃ w9 : World, Ru (Builtin.append_ #[37, 37] 37 #[.slice a9 l9 c9, .slice a69 l69 c69]) w8 (.slice a70 l70 c70) w9 ∧ k_3 [.slice a70 l70 c70, .int .i64 (IntKind.i64.wrap (n10_2 + 1)), .int .i64 n11, .bool b45] w9
 else
 ∃ n74 : Int, Ru (Instr.loadAt 3 (.pointer (some (Addr.add q8 0)))) w6 (.int .i64 n74) w6 ∧ ∃ n76 : Int, Ru (Instr.loadAt 3 (.pointer (some (Addr.add q8 1)))) w6 (.int .i64 n76) w6 ∧ ∃ (a78 : Option Addr) (l78 c78 : Nat), Ru (Instr.loadAt 36 (.pointer (some (Addr.add q8 2)))) w6 (.slice a78 l78 c78) w6 ∧ ∃ (a9_2 : Option Addr) (l9_2 c9_2 : Nat), nth x_3 0 = .slice a9_2 l9_2 c9_2 ∧ Cal Tryz.prog F_patch_Store_Patch #[.pointer p0, .int .i64 n74, .int .i64 n76, .slice a78 l78 c78, .slice a9_2 l9_2 c9_2] w6 fun r80 w10 => ∃ n80a : Int, ∃ n80b : Int, r80 = .tuple #[.int .i64 n80a, .int .i64 n80b] ∧ ∃ n86 : Int, Ru (Instr.loadAt 3 (.pointer (some (Addr.add q8 0)))) w10 (.int .i64 n86) w10 ∧ ∃ n88 : Int, Ru (Instr.loadAt 3 (.pointer (some (Addr.add q8 1)))) w10 (.int .i64 n88) w10 ∧ ∃ (a90 : Option Addr) (l90 c90 : Nat), Ru (Instr.loadAt 36 (.pointer (some (Addr.add q8 2)))) w10 (.slice a90 l90 c90) w10 ∧ Cal Tryz.prog F_leveeref11_Store_Patch #[.pointer p1, .int .i64 n86, .int .i64 n88, .slice a90 l90 c90, .slice a9_2 l9_2 c9_2] w10 fun r92 w11 => ∃ n92a : Int, ∃ n92b : Int, r92 = .tuple #[.int .i64 n92a, .int .i64 n92b] ∧ Share (fun k_6 => (bif n80a != n92a then k_6 [.bool true] (drew w11) else (bif n80b != n92b then k_6 [.bool true] (drew w11) else ∃ n106 : Int, Ru (Instr.loadAt 3 (.pointer (some (Addr.add q8 4)))) (drew w11) (.int .i64 n106) (drew w11) ∧ ∃ n110 : Int, Ru (Instr.loadAt 3 (.pointer (some (Addr.add q8 4)))) (drew w11) (.int .i64 n110) (drew w11) ∧ Cal Tryz.prog F_patch_Store_Write #[.pointer p0, .int .i64 n106] (drew w11) fun r107 w12 => ∃ n107 : Int, r107 = .int .i64 n107 ∧ Ru (Instr.loadAt 3 (.pointer (some (Addr.add q8 4)))) w12 (.int .i64 n110) w12 ∧ Cal Tryz.prog F_leveeref11_Store_Write #[.pointer p1, .int .i64 n110] w12 fun r111 w13 => ∃ n111 : Int, r111 = .int .i64 n111 ∧ k_6 [.bool (n107 != n111)] w13))) fun x_6 w14 =>
 ∃ b113 : Bool, nth x_6 0 = .bool b113 ∧ (bif b113 then
 K (.bool false) w14
 else
 ∃ b115 : Bool, Ru (Instr.loadAt 4 (.pointer (some (Addr.add q8 5)))) w14 (.bool b115) w14 ∧ Share (fun k_7 => (bif b115 then
 Cal Tryz.prog F_patch_Store_Flush #[.pointer p0] w14 fun r117 w15 => ∃ n117 : Int, r117 = .int .i64 n117 ∧ Cal Tryz.prog F_leveeref11_Store_Flush #[.pointer p1] w15 fun r119 w16 => ∃ n119 : Int, r119 = .int .i64 n119 ∧ k_7 [] w16
 else
 k_7 [] w14)) fun x_7 w17 =>
 k [.int .i64 (IntKind.i64.wrap (n7_2 + 1)), .slice a9_2 l9_2 c9_2, nth x_3 1, nth x_3 2, .bool b23, .bool b45, .bool b113] w17))) [.slice none 0 0, .int .i64 0, nth x 3, nth x 5] w4
 else
 K (.bool true) w2)) [.int .i64 0, undef, undef, undef, undef, undef, undef] w0
set_option maxRecDepth 100000 in
theorem C_leveelaw12_lay (p0 : Option Addr) (p1 : Option Addr) (a2 : Option Addr) (l2 c2 : Nat) (w0 : World) (K : Value → World → Prop) (h : D_leveelaw12_lay p0 p1 a2 l2 c2 w0 K) : Cal Tryz.prog F_leveelaw12_lay #[.pointer p0, .pointer p1, .slice a2 l2 c2] w0 K :=
 denF_sound (A := { S := [7, 9, 10, 11, 23, 45, 113], ty := [(7, 3), (9, 37), (10, 3), (11, 2), (23, 4), (45, 4), (113, 4)], raw := [] }) mixed Tryz.func28 (by kernel_rfl) (by kernel_rfl) ((show denF Tryz.prog _ Tryz.f28 _ w0 K = D_leveelaw12_lay p0 p1 a2 l2 c2 w0 K by kernel_rfl).mpr h)

/- (levee.push.Work).Later: slots {10: ''};  -/
set_option maxRecDepth 100000 in
def D_push_Work_Later (p0 : Option Addr) (n1 : Int) (g2 : Array Value) (w0 : World) (K : Value → World → Prop) : Prop :=
 ∃ q5 : Addr, ∃ w1 : World, Ru (Instr.box 71 (.agg g2)) w0 (.pointer (some q5)) w1 ∧ (bif Option.isNone p0 then
 K (.int .i64 2) w1
 else
 Share (fun k => ∃ n12 : Int, Ru (Instr.loadAt 3 (.pointer (some (Addr.add q5 0)))) w1 (.int .i64 n12) w1 ∧ (bif decide (n12 < 1) then k [.bool true] w1 else ∃ n16 : Int, Ru (Instr.loadAt 3 (.pointer (some (Addr.add q5 0)))) w1 (.int .i64 n16) w1 ∧ k [.bool (decide (n16 > 3))] w1)) fun x w2 =>
 ∃ b10 : Bool, nth x 0 = .bool b10 ∧ (bif b10 then
 K (.int .i64 1) w2
 else
 ∃ q21 : Addr, (.pointer p0 : Value) = .pointer (some q21) ∧ ∃ (a23 : Option Addr) (l23 c23 : Nat), Ru (Instr.loadAt 168 (.pointer (some (Addr.add q21 0)))) w2 (.slice a23 l23 c23) w2 ∧ (bif decide ((l23 : Int) ≥ 4096) then
 K (.int .i64 5) w2
 else
 ∃ q28 : Addr, (.pointer p0 : Value) = .pointer (some q28) ∧ ∃ (a30 : Option Addr) (l30 c30 : Nat), Ru (Instr.loadAt 168 (.pointer (some (Addr.add q28 0)))) (drew w2) (.slice a30 l30 c30) (drew w2) ∧ ∃ q32 : Addr, (.pointer p0 : Value) = .pointer (some q32) ∧ ∃ (a34 : Option Addr) (l34 c34 : Nat), Ru (Instr.loadAt 168 (.pointer (some (Addr.add q32 0)))) (drew w2) (.slice a34 l34 c34) (drew w2) ∧ ∃ q37 : Addr, (.pointer p0 : Value) = .pointer (some q37) ∧ ∃ (a39 : Option Addr) (l39 c39 : Nat), Ru (Instr.loadAt 168 (.pointer (some (Addr.add q37 0)))) (drew w2) (.slice a39 l39 c39) (drew w2) ∧ ∃ (a41 : Option Addr) (l41 c41 : Nat), Al (Instr.sliceAt 168 (.slice a30 l30 c30) none (some (.int .i64 ((l34 : Int)))) (some (.int .i64 ((l39 : Int))))) (.slice a41 l41 c41) ∧ ∃ g43 : Array Value, Ru (Instr.loadAt 71 (.pointer (some q5))) (drew w2) (.agg g43) (drew w2) ∧ ∃ g44 : Array Value, Al (Instr.build 174 #[(0, .int .i64 n1), (1, .agg g43)]) (.agg g44) ∧ ∃ (a45 : Option Addr) (l45 c45 : Nat), ∃ w3 : World, Ru (Instr.buildSlice 168 1 #[(0, .agg g44)]) (drew w2) (.slice a45 l45 c45) w3 ∧ Ru (Instr.loadAt 168 (.pointer (some (Addr.add q28 0)))) w3 (.slice a30 l30 c30) w3 ∧ Ru (Instr.loadAt 168 (.pointer (some (Addr.add q32 0)))) w3 (.slice a34 l34 c34) w3 ∧ Ru (Instr.loadAt 168 (.pointer (some (Addr.add q37 0)))) w3 (.slice a39 l39 c39) w3 ∧ ∃ (a46 : Option Addr) (l46 c46 : Nat), ∃ w4 : World, Ru (Builtin.append_ #[168, 168] 168 #[.slice a41 l41 c41, .slice a45 l45 c45]) w3 (.slice a46 l46 c46) w4 ∧ ∃ q47 : Addr, (.pointer p0 : Value) = .pointer (some q47) ∧ ∃ w5 : World, RuU (Instr.storeAt 168 (.pointer (some (Addr.add q47 0))) (.slice a46 l46 c46)) w4 w5 ∧ K (.int .i64 0) w5)))
set_option maxRecDepth 100000 in
theorem C_push_Work_Later (p0 : Option Addr) (n1 : Int) (g2 : Array Value) (w0 : World) (K : Value → World → Prop) (h : D_push_Work_Later p0 n1 g2 w0 K) : Cal Tryz.prog F_push_Work_Later #[.pointer p0, .int .i64 n1, .agg g2] w0 K :=
 denF_sound (A := { S := [10], ty := [(10, 4)], raw := [] }) mixed Tryz.func29 (by kernel_rfl) (by kernel_rfl) ((show denF Tryz.prog _ Tryz.f29 _ w0 K = D_push_Work_Later p0 n1 g2 w0 K by kernel_rfl).mpr h)

/- levee.leveelaw12.given: slots {};  -/
set_option maxRecDepth 100000 in
def D_leveelaw12_given (g0 : Array Value) (w0 : World) (K : Value → World → Prop) : Prop :=
 ∃ q1 : Addr, ∃ w1 : World, Ru (Instr.box 67 (.agg g0)) w0 (.pointer (some q1)) w1 ∧ ∃ q2 : Addr, ∃ w2 : World, Ru (Instr.alloc 71 true (.tuple #[])) w1 (.pointer (some q2)) w2 ∧ ∃ n4 : Int, Ru (Instr.loadAt 3 (.pointer (some (Addr.add q1 0)))) w2 (.int .i64 n4) w2 ∧ ∃ n6 : Int, Ru (Instr.loadAt 3 (.pointer (some (Addr.add q1 1)))) w2 (.int .i64 n6) w2 ∧ ∃ g7 : Array Value, Al (Instr.build 71 #[(0, .int .i64 n4), (1, .int .i64 n6)]) (.agg g7) ∧ ∃ w3 : World, RuU (Instr.storeAt 71 (.pointer (some q2)) (.agg g7)) w2 w3 ∧ ∃ gR2 : Array Value, Ru (Instr.loadAt 71 (.pointer (some q2))) w3 (.agg gR2) w3 ∧ K (.agg gR2) w3
set_option maxRecDepth 100000 in
theorem C_leveelaw12_given (g0 : Array Value) (w0 : World) (K : Value → World → Prop) (h : D_leveelaw12_given g0 w0 K) : Cal Tryz.prog F_leveelaw12_given #[.agg g0] w0 K :=
 denF_sound (A := { S := [], ty := [], raw := [] }) mixed Tryz.func30 (by kernel_rfl) (by kernel_rfl) ((show denF Tryz.prog _ Tryz.f30 _ w0 K = D_leveelaw12_given g0 w0 K by kernel_rfl).mpr h)

/- (levee.leveeref12.Work).Later: slots {14: ''};  -/
set_option maxRecDepth 100000 in
def D_leveeref12_Work_Later (p0 : Option Addr) (n1 : Int) (g2 : Array Value) (w0 : World) (K : Value → World → Prop) : Prop :=
 ∃ q5 : Addr, ∃ w1 : World, Ru (Instr.box 67 (.agg g2)) w0 (.pointer (some q5)) w1 ∧ Share (fun k => ∃ n8 : Int, Ru (Instr.loadAt 3 (.pointer (some (Addr.add q5 0)))) w1 (.int .i64 n8) w1 ∧ (bif decide (n8 < 1) then k [.bool true] w1 else ∃ n12 : Int, Ru (Instr.loadAt 3 (.pointer (some (Addr.add q5 0)))) w1 (.int .i64 n12) w1 ∧ k [.bool (decide (n12 > 3))] w1)) fun x w2 =>
 ∃ b14 : Bool, nth x 0 = .bool b14 ∧ (bif b14 then
 K (.int .i64 1) w2
 else
 ∃ q16 : Addr, (.pointer p0 : Value) = .pointer (some q16) ∧ ∃ (a18 : Option Addr) (l18 c18 : Nat), Ru (Instr.loadAt 63 (.pointer (some (Addr.add q16 0)))) w2 (.slice a18 l18 c18) w2 ∧ (bif decide ((l18 : Int) ≥ 4096) then
 K (.int .i64 5) w2
 else
 ∃ q23 : Addr, (.pointer p0 : Value) = .pointer (some q23) ∧ ∃ (a25 : Option Addr) (l25 c25 : Nat), Ru (Instr.loadAt 63 (.pointer (some (Addr.add q23 0)))) (drew w2) (.slice a25 l25 c25) (drew w2) ∧ ∃ q27 : Addr, (.pointer p0 : Value) = .pointer (some q27) ∧ ∃ (a29 : Option Addr) (l29 c29 : Nat), Ru (Instr.loadAt 63 (.pointer (some (Addr.add q27 0)))) (drew w2) (.slice a29 l29 c29) (drew w2) ∧ ∃ q32 : Addr, (.pointer p0 : Value) = .pointer (some q32) ∧ ∃ (a34 : Option Addr) (l34 c34 : Nat), Ru (Instr.loadAt 63 (.pointer (some (Addr.add q32 0)))) (drew w2) (.slice a34 l34 c34) (drew w2) ∧ ∃ (a36 : Option Addr) (l36 c36 : Nat), Al (Instr.sliceAt 63 (.slice a25 l25 c25) none (some (.int .i64 ((l29 : Int)))) (some (.int .i64 ((l34 : Int))))) (.slice a36 l36 c36) ∧ ∃ g38 : Array Value, Ru (Instr.loadAt 67 (.pointer (some q5))) (drew w2) (.agg g38) (drew w2) ∧ ∃ g39 : Array Value, Al (Instr.build 84 #[(0, .int .i64 n1), (1, .agg g38)]) (.agg g39) ∧ ∃ (a40 : Option Addr) (l40 c40 : Nat), ∃ w3 : World, Ru (Instr.buildSlice 63 1 #[(0, .agg g39)]) (drew w2) (.slice a40 l40 c40) w3 ∧ Ru (Instr.loadAt 63 (.pointer (some (Addr.add q23 0)))) w3 (.slice a25 l25 c25) w3 ∧ Ru (Instr.loadAt 63 (.pointer (some (Addr.add q27 0)))) w3 (.slice a29 l29 c29) w3 ∧ Ru (Instr.loadAt 63 (.pointer (some (Addr.add q32 0)))) w3 (.slice a34 l34 c34) w3 ∧ ∃ (a41 : Option Addr) (l41 c41 : Nat), ∃ w4 : World, Ru (Builtin.append_ #[63, 63] 63 #[.slice a36 l36 c36, .slice a40 l40 c40]) w3 (.slice a41 l41 c41) w4 ∧ ∃ q42 : Addr, (.pointer p0 : Value) = .pointer (some q42) ∧ ∃ w5 : World, RuU (Instr.storeAt 63 (.pointer (some (Addr.add q42 0))) (.slice a41 l41 c41)) w4 w5 ∧ K (.int .i64 0) w5))
set_option maxRecDepth 100000 in
theorem C_leveeref12_Work_Later (p0 : Option Addr) (n1 : Int) (g2 : Array Value) (w0 : World) (K : Value → World → Prop) (h : D_leveeref12_Work_Later p0 n1 g2 w0 K) : Cal Tryz.prog F_leveeref12_Work_Later #[.pointer p0, .int .i64 n1, .agg g2] w0 K :=
 denF_sound (A := { S := [14], ty := [(14, 4)], raw := [] }) mixed Tryz.func31 (by kernel_rfl) (by kernel_rfl) ((show denF Tryz.prog _ Tryz.f31 _ w0 K = D_leveeref12_Work_Later p0 n1 g2 w0 K by kernel_rfl).mpr h)

/- levee.leveeref12.Same: slots {5: 'i'}; loop over [5] -/
set_option maxRecDepth 100000 in
def D_leveeref12_Same (a0 : Option Addr) (l0 c0 : Nat) (a1 : Option Addr) (l1 c1 : Nat) (w0 : World) (K : Value → World → Prop) : Prop :=
 (bif (l0 : Int) != (l1 : Int) then
 K (.bool false) w0
 else
 LoopC (fun k x w1 =>
 ∃ n5 : Int, nth x 0 = .int .i64 n5 ∧ (bif decide (n5 < (l0 : Int)) then
 ∃ q19 : Addr, Al (Instr.indexAt 75 (.slice a0 l0 c0) (.int .i64 n5)) (.pointer (some q19)) ∧ ∃ g20 : Array Value, Ru (Instr.loadAt 67 (.pointer (some q19))) (drew w1) (.agg g20) (drew w1) ∧ ∃ q23 : Addr, Al (Instr.indexAt 75 (.slice a1 l1 c1) (.int .i64 n5)) (.pointer (some q23)) ∧ ∃ g24 : Array Value, Ru (Instr.loadAt 67 (.pointer (some q23))) (drew w1) (.agg g24) (drew w1) ∧ ∃ b25 : Bool, Al (eqS .neq 67 (.tmp 20) (.tmp 24) (.agg g20) (.agg g24)) (.bool b25) ∧ (bif b25 then
 K (.bool false) (drew w1)
 else
 k [.int .i64 (IntKind.i64.wrap (n5 + 1))] (drew w1))
 else
 K (.bool true) w1)) [.int .i64 0] w0)
set_option maxRecDepth 100000 in
theorem C_leveeref12_Same (a0 : Option Addr) (l0 c0 : Nat) (a1 : Option Addr) (l1 c1 : Nat) (w0 : World) (K : Value → World → Prop) (h : D_leveeref12_Same a0 l0 c0 a1 l1 c1 w0 K) : Cal Tryz.prog F_leveeref12_Same #[.slice a0 l0 c0, .slice a1 l1 c1] w0 K :=
 denF_sound (A := { S := [5], ty := [(5, 3)], raw := [] }) mixed Tryz.func32 (by kernel_rfl) (by kernel_rfl) ((show denF Tryz.prog _ Tryz.f32 _ w0 K = D_leveeref12_Same a0 l0 c0 a1 l1 c1 w0 K by kernel_rfl).mpr h)

/- levee.leveelaw12.taken: slots {3: 'out', 4: 'i'}; loop over [3, 4] -/
set_option maxRecDepth 100000 in
def D_leveelaw12_taken (a0 : Option Addr) (l0 c0 : Nat) (w0 : World) (K : Value → World → Prop) : Prop :=
 LoopC (fun k x w1 =>
 ∃ n4 : Int, nth x 1 = .int .i64 n4 ∧ (bif decide (n4 < (l0 : Int)) then
 ∃ (a3 : Option Addr) (l3 c3 : Nat), nth x 0 = .slice a3 l3 c3 ∧ ∃ q14 : Addr, Al (Instr.indexAt 77 (.slice a0 l0 c0) (.int .i64 n4)) (.pointer (some q14)) ∧ ∃ n16 : Int, Ru (Instr.loadAt 3 (.pointer (some (Addr.add q14 0)))) (drew w1) (.int .i64 n16) (drew w1) ∧ ∃ q19 : Addr, Al (Instr.indexAt 77 (.slice a0 l0 c0) (.int .i64 n4)) (.pointer (some q19)) ∧ ∃ n21 : Int, Ru (Instr.loadAt 3 (.pointer (some (Addr.add q19 1)))) (drew w1) (.int .i64 n21) (drew w1) ∧ ∃ g22 : Array Value, Al (Instr.build 67 #[(0, .int .i64 n16), (1, .int .i64 n21)]) (.agg g22) ∧ ∃ (a23 : Option Addr) (l23 c23 : Nat), ∃ w2 : World, Ru (Instr.buildSlice 75 1 #[(0, .agg g22)]) (drew w1) (.slice a23 l23 c23) w2 ∧ ∃ (a24 : Option Addr) (l24 c24 : Nat), ∃ w3 : World, Ru (Builtin.append_ #[75, 75] 75 #[.slice a3 l3 c3, .slice a23 l23 c23]) w2 (.slice a24 l24 c24) w3 ∧ k [.slice a24 l24 c24, .int .i64 (IntKind.i64.wrap (n4 + 1))] w3
 else
 ∃ (a3_2 : Option Addr) (l3_2 c3_2 : Nat), nth x 0 = .slice a3_2 l3_2 c3_2 ∧ K (.slice a3_2 l3_2 c3_2) w1)) [.slice none 0 0, .int .i64 0] w0
set_option maxRecDepth 100000 in
theorem C_leveelaw12_taken (a0 : Option Addr) (l0 c0 : Nat) (w0 : World) (K : Value → World → Prop) (h : D_leveelaw12_taken a0 l0 c0 w0 K) : Cal Tryz.prog F_leveelaw12_taken #[.slice a0 l0 c0] w0 K :=
 denF_sound (A := { S := [3, 4], ty := [(3, 75), (4, 3)], raw := [] }) mixed Tryz.func33 (by kernel_rfl) (by kernel_rfl) ((show denF Tryz.prog _ Tryz.f33 _ w0 K = D_leveelaw12_taken a0 l0 c0 w0 K by kernel_rfl).mpr h)

/- (levee.push.Work).Ripe: slots {5: 'ripe', 6: 'rest', 16: '', 28: ''}; loop over [5, 6, 16, 28] -/
set_option maxRecDepth 100000 in
def D_push_Work_Ripe (p0 : Option Addr) (p1 : Option Addr) (w0 : World) (K : Value → World → Prop) : Prop :=
 (bif Option.isNone p0 then
 K (.slice none 0 0) w0
 else
 ∃ q12 : Addr, (.pointer p0 : Value) = .pointer (some q12) ∧ ∃ (a14 : Option Addr) (l14 c14 : Nat), Ru (Instr.loadAt 168 (.pointer (some (Addr.add q12 0)))) w0 (.slice a14 l14 c14) w0 ∧ LoopC (fun k x w1 =>
 ∃ n16 : Int, nth x 2 = .int .i64 n16 ∧ (bif decide (n16 < (l14 : Int)) then
 Share (fun k_2 => ∃ q18 : Addr, Al (Instr.indexAt 168 (.slice a14 l14 c14) (.int .i64 n16)) (.pointer (some q18)) ∧ ∃ g19 : Array Value, Ru (Instr.loadAt 174 (.pointer (some q18))) w1 (.agg g19) w1 ∧ ∃ q8 : Addr, ∃ w2 : World, Ru (Instr.alloc 174 true (.tuple #[])) w1 (.pointer (some q8)) w2 ∧ ∃ w3 : World, RuU (Instr.storeAt 174 (.pointer (some q8)) (.agg g19)) w2 w3 ∧ Share (fun k_3 => ∃ n21 : Int, Ru (Instr.loadAt 2 (.pointer (some (Addr.add q8 0)))) w3 (.int .i64 n21) w3 ∧ (bif decide (n21 < 1) then k_3 [.bool true] w3 else ∃ n26 : Int, Ru (Instr.loadAt 2 (.pointer (some (Addr.add q8 0)))) w3 (.int .i64 n26) w3 ∧ Cal Tryz.prog F_patch_Store_Safe #[.pointer p1, .int .i64 n26] w3 fun r27 w4 => ∃ b27 : Bool, r27 = .bool b27 ∧ k_3 [.bool b27] w4)) fun x_3 w5 =>
 ∃ b28 : Bool, nth x_3 0 = .bool b28 ∧ (bif b28 then
 ∃ (a5 : Option Addr) (l5 c5 : Nat), nth x 0 = .slice a5 l5 c5 ∧ ∃ g31 : Array Value, Ru (Instr.loadAt 71 (.pointer (some (Addr.add q8 1)))) w5 (.agg g31) w5 ∧ ∃ (a32 : Option Addr) (l32 c32 : Nat), ∃ w6 : World, Ru (Instr.buildSlice 77 1 #[(0, .agg g31)]) w5 (.slice a32 l32 c32) w6 ∧ ∃ (a33 : Option Addr) (l33 c33 : Nat), ∃ w7 : World, Ru (Builtin.append_ #[77, 77] 77 #[.slice a5 l5 c5, .slice a32 l32 c32]) w6 (.slice a33 l33 c33) w7 ∧ k_2 [.slice a33 l33 c33, nth x 1, .bool b28] w7
 else
 ∃ (a6 : Option Addr) (l6 c6 : Nat), nth x 1 = .slice a6 l6 c6 ∧ ∃ g35 : Array Value, Ru (Instr.loadAt 174 (.pointer (some q8))) w5 (.agg g35) w5 ∧ ∃ (a36 : Option Addr) (l36 c36 : Nat), ∃ w8 : World, Ru (Instr.buildSlice 168 1 #[(0, .agg g35)]) w5 (.slice a36 l36 c36) w8 ∧ ∃ (a37 : Option Addr) (l37 c37 : Nat), ∃ w9 : World, Ru (Builtin.append_ #[168, 168] 168 #[.slice a6 l6 c6, .slice a36 l36 c36]) w8 (.slice a37 l37 c37) w9 ∧ k_2 [nth x 0, .slice a37 l37 c37, .bool b28] w9)) fun x_2 w10 =>
 k [nth x_2 0, nth x_2 1, .int .i64 (IntKind.i64.wrap (n16 + 1)), nth x_2 2] w10
 else
 ∃ (a6_2 : Option Addr) (l6_2 c6_2 : Nat), nth x 1 = .slice a6_2 l6_2 c6_2 ∧ ∃ q41 : Addr, (.pointer p0 : Value) = .pointer (some q41) ∧ ∃ w11 : World, RuU (Instr.storeAt 168 (.pointer (some (Addr.add q41 0))) (.slice a6_2 l6_2 c6_2)) w1 w11 ∧ ∃ (a5_2 : Option Addr) (l5_2 c5_2 : Nat), nth x 0 = .slice a5_2 l5_2 c5_2 ∧ K (.slice a5_2 l5_2 c5_2) w11)) [.slice none 0 0, .slice none 0 0, .int .i64 0, undef] w0)
set_option maxRecDepth 100000 in
theorem C_push_Work_Ripe (p0 : Option Addr) (p1 : Option Addr) (w0 : World) (K : Value → World → Prop) (h : D_push_Work_Ripe p0 p1 w0 K) : Cal Tryz.prog F_push_Work_Ripe #[.pointer p0, .pointer p1] w0 K :=
 denF_sound (A := { S := [5, 6, 16, 28], ty := [(5, 77), (6, 168), (16, 3), (28, 4)], raw := [] }) mixed Tryz.func34 (by kernel_rfl) (by kernel_rfl) ((show denF Tryz.prog _ Tryz.f34 _ w0 K = D_push_Work_Ripe p0 p1 w0 K by kernel_rfl).mpr h)

/- (levee.leveeref12.Work).Ripe: slots {5: 'out', 6: 'rest', 7: 'i', 37: ''}; loop over [5, 6, 7, 37] -/
set_option maxRecDepth 100000 in
def D_leveeref12_Work_Ripe (p0 : Option Addr) (p1 : Option Addr) (w0 : World) (K : Value → World → Prop) : Prop :=
 LoopC (fun k x w1 =>
 ∃ n7 : Int, nth x 2 = .int .i64 n7 ∧ ∃ q10 : Addr, (.pointer p0 : Value) = .pointer (some q10) ∧ ∃ (a12 : Option Addr) (l12 c12 : Nat), Ru (Instr.loadAt 63 (.pointer (some (Addr.add q10 0)))) w1 (.slice a12 l12 c12) w1 ∧ (bif decide (n7 < (l12 : Int)) then
 Share (fun k_2 => ∃ q18 : Addr, (.pointer p0 : Value) = .pointer (some q18) ∧ ∃ (a20 : Option Addr) (l20 c20 : Nat), Ru (Instr.loadAt 63 (.pointer (some (Addr.add q18 0)))) w1 (.slice a20 l20 c20) w1 ∧ ∃ q22 : Addr, Al (Instr.indexAt 63 (.slice a20 l20 c20) (.int .i64 n7)) (.pointer (some q22)) ∧ ∃ n24 : Int, Ru (Instr.loadAt 2 (.pointer (some (Addr.add q22 0)))) w1 (.int .i64 n24) w1 ∧ (bif decide (n24 < 1) then k_2 [.bool true] w1 else ∃ q29 : Addr, (.pointer p0 : Value) = .pointer (some q29) ∧ ∃ (a31 : Option Addr) (l31 c31 : Nat), Ru (Instr.loadAt 63 (.pointer (some (Addr.add q29 0)))) w1 (.slice a31 l31 c31) w1 ∧ ∃ q33 : Addr, Al (Instr.indexAt 63 (.slice a31 l31 c31) (.int .i64 n7)) (.pointer (some q33)) ∧ ∃ n35 : Int, Ru (Instr.loadAt 2 (.pointer (some (Addr.add q33 0)))) w1 (.int .i64 n35) w1 ∧ Cal Tryz.prog F_leveeref11_Store_Safe #[.pointer p1, .int .i64 n35] w1 fun r36 w2 => ∃ b36 : Bool, r36 = .bool b36 ∧ k_2 [.bool b36] w2)) fun x_2 w3 =>
 ∃ b37 : Bool, nth x_2 0 = .bool b37 ∧ Share (fun k_3 => (bif b37 then
 ∃ (a5 : Option Addr) (l5 c5 : Nat), nth x 0 = .slice a5 l5 c5 ∧ ∃ q40 : Addr, (.pointer p0 : Value) = .pointer (some q40) ∧ ∃ (a42 : Option Addr) (l42 c42 : Nat), Ru (Instr.loadAt 63 (.pointer (some (Addr.add q40 0)))) w3 (.slice a42 l42 c42) w3 ∧ ∃ q44 : Addr, Al (Instr.indexAt 63 (.slice a42 l42 c42) (.int .i64 n7)) (.pointer (some q44)) ∧ ∃ g46 : Array Value, Ru (Instr.loadAt 67 (.pointer (some (Addr.add q44 1)))) w3 (.agg g46) w3 ∧ ∃ (a47 : Option Addr) (l47 c47 : Nat), ∃ w4 : World, Ru (Instr.buildSlice 75 1 #[(0, .agg g46)]) w3 (.slice a47 l47 c47) w4 ∧ ∃ (a48 : Option Addr) (l48 c48 : Nat), ∃ w5 : World, Ru (Builtin.append_ #[75, 75] 75 #[.slice a5 l5 c5, .slice a47 l47 c47]) w4 (.slice a48 l48 c48) w5 ∧ k_3 [.slice a48 l48 c48, nth x 1] w5
 else
 ∃ (a6 : Option Addr) (l6 c6 : Nat), nth x 1 = .slice a6 l6 c6 ∧ ∃ q51 : Addr, (.pointer p0 : Value) = .pointer (some q51) ∧ ∃ (a53 : Option Addr) (l53 c53 : Nat), Ru (Instr.loadAt 63 (.pointer (some (Addr.add q51 0)))) w3 (.slice a53 l53 c53) w3 ∧ ∃ q55 : Addr, Al (Instr.indexAt 63 (.slice a53 l53 c53) (.int .i64 n7)) (.pointer (some q55)) ∧ ∃ g56 : Array Value, Ru (Instr.loadAt 84 (.pointer (some q55))) w3 (.agg g56) w3 ∧ ∃ (a57 : Option Addr) (l57 c57 : Nat), ∃ w6 : World, Ru (Instr.buildSlice 63 1 #[(0, .agg g56)]) w3 (.slice a57 l57 c57) w6 ∧ ∃ (a58 : Option Addr) (l58 c58 : Nat), ∃ w7 : World, Ru (Builtin.append_ #[63, 63] 63 #[.slice a6 l6 c6, .slice a57 l57 c57]) w6 (.slice a58 l58 c58) w7 ∧ k_3 [nth x 0, .slice a58 l58 c58] w7)) fun x_3 w8 =>
 k [nth x_3 0, nth x_3 1, .int .i64 (IntKind.i64.wrap (n7 + 1)), .bool b37] w8
 else
 ∃ (a6_2 : Option Addr) (l6_2 c6_2 : Nat), nth x 1 = .slice a6_2 l6_2 c6_2 ∧ ∃ q61 : Addr, (.pointer p0 : Value) = .pointer (some q61) ∧ ∃ w9 : World, RuU (Instr.storeAt 63 (.pointer (some (Addr.add q61 0))) (.slice a6_2 l6_2 c6_2)) w1 w9 ∧ ∃ (a5_2 : Option Addr) (l5_2 c5_2 : Nat), nth x 0 = .slice a5_2 l5_2 c5_2 ∧ K (.slice a5_2 l5_2 c5_2) w9)) [.slice none 0 0, .slice none 0 0, .int .i64 0, undef] w0
set_option maxRecDepth 100000 in
theorem C_leveeref12_Work_Ripe (p0 : Option Addr) (p1 : Option Addr) (w0 : World) (K : Value → World → Prop) (h : D_leveeref12_Work_Ripe p0 p1 w0 K) : Cal Tryz.prog F_leveeref12_Work_Ripe #[.pointer p0, .pointer p1] w0 K :=
 denF_sound (A := { S := [5, 6, 7, 37], ty := [(5, 75), (6, 63), (7, 3), (37, 4)], raw := [] }) mixed Tryz.func35 (by kernel_rfl) (by kernel_rfl) ((show denF Tryz.prog _ Tryz.f35 _ w0 K = D_leveeref12_Work_Ripe p0 p1 w0 K by kernel_rfl).mpr h)

/- (levee.patch.Store).Write: slots {6: 'why', 13: '', 68: ''}; loop over [68] -/
set_option maxRecDepth 100000 in
def D_patch_Store_Write (p0 : Option Addr) (n1 : Int) (w0 : World) (K : Value → World → Prop) : Prop :=
 (bif Option.isNone p0 then
 K (.int .i64 2) w0
 else
 Share (fun k => (bif decide (n1 < 0) then k [.bool true] w0 else ∃ q19 : Addr, (.pointer p0 : Value) = .pointer (some q19) ∧ ∃ n21 : Int, Ru (Instr.loadAt 3 (.pointer (some (Addr.add q19 1)))) w0 (.int .i64 n21) w0 ∧ k [.bool (decide (n1 ≥ n21))] w0)) fun x w1 =>
 ∃ b13 : Bool, nth x 0 = .bool b13 ∧ (bif b13 then
 K (.int .i64 3) w1
 else
 ∃ q26 : Addr, (.pointer p0 : Value) = .pointer (some q26) ∧ ∃ m28 : Option Nat, Ru (Instr.loadAt 155 (.pointer (some (Addr.add q26 4)))) w1 (.map m28) w1 ∧ ∃ p30 : Option Addr, Ru (Instr.lookup 155 (.map m28) (.int .i64 n1) false) w1 (.pointer p30) w1 ∧ (bif Option.isNone p30 then
 K (.int .i64 20) w1
 else
 Cal Tryz.prog F_patch_Store_Image #[.pointer p0, .int .i64 n1] w1 fun r35 w2 => ∃ (a35a : Option Addr) (l35a c35a : Nat), ∃ n35b : Int, r35 = .tuple #[.slice a35a l35a c35a, .int .i64 n35b] ∧ Share (fun k_2 => (bif n35b == 0 then
 ∃ q41 : Addr, (.pointer p0 : Value) = .pointer (some q41) ∧ ∃ p43 : Option Addr, Ru (Instr.loadAt 151 (.pointer (some (Addr.add q41 0)))) w2 (.pointer p43) w2 ∧ Cal Tryz.prog F_cache_Cache_Write #[.pointer p43, .int .i64 n1, .slice a35a l35a c35a] w2 fun r46 w3 => ∃ n46 : Int, r46 = .int .i64 n46 ∧ k_2 [.int .i64 n46] w3
 else
 k_2 [.int .i64 n35b] w2)) fun x_2 w4 =>
 ∃ n6 : Int, nth x_2 0 = .int .i64 n6 ∧ (bif n6 != 0 then
 K (.int .i64 n6) w4
 else
 ∃ q52 : Addr, (.pointer p0 : Value) = .pointer (some q52) ∧ ∃ m54 : Option Nat, Ru (Instr.loadAt 155 (.pointer (some (Addr.add q52 4)))) w4 (.map m54) w4 ∧ ∃ p56 : Option Addr, Ru (Instr.lookup 155 (.map m54) (.int .i64 n1) false) w4 (.pointer p56) w4 ∧ Cal Tryz.prog F_patch_Store_may #[.pointer p0, .pointer p56] w4 fun r57 w5 => ∃ m57 : Option Nat, r57 = .map m57 ∧ ∃ q59 : Addr, (.pointer p0 : Value) = .pointer (some q59) ∧ ∃ m61 : Option Nat, Ru (Instr.loadAt 155 (.pointer (some (Addr.add q59 4)))) w5 (.map m61) w5 ∧ ∃ p63 : Option Addr, Ru (Instr.lookup 155 (.map m61) (.int .i64 n1) false) w5 (.pointer p63) w5 ∧ ∃ q64 : Addr, (.pointer p63 : Value) = .pointer (some q64) ∧ ∃ (a66 : Option Addr) (l66 c66 : Nat), Ru (Instr.loadAt 178 (.pointer (some (Addr.add q64 1)))) w5 (.slice a66 l66 c66) w5 ∧ LoopC (fun k_3 x_3 w6 =>
 ∃ n68 : Int, nth x_3 0 = .int .i64 n68 ∧ (bif decide (n68 < (l66 : Int)) then
 ∃ q70 : Addr, Al (Instr.indexAt 178 (.slice a66 l66 c66) (.int .i64 n68)) (.pointer (some q70)) ∧ ∃ p71 : Option Addr, Ru (Instr.loadAt 181 (.pointer (some q70))) w6 (.pointer p71) w6 ∧ Share (fun k_4 => ∃ q74 : Addr, (.pointer p71 : Value) = .pointer (some q74) ∧ ∃ b76 : Bool, Ru (Instr.loadAt 4 (.pointer (some (Addr.add q74 5)))) w6 (.bool b76) w6 ∧ (bif b76 then ∃ q85 : Addr, (.pointer p71 : Value) = .pointer (some q85) ∧ ∃ w7 : World, RuU (Instr.storeAt 4 (.pointer (some (Addr.add q85 5))) (.bool true)) w6 w7 ∧ k_4 [] w7 else ∃ q80 : Addr, (.pointer p71 : Value) = .pointer (some q80) ∧ ∃ n82 : Int, Ru (Instr.loadAt 2 (.pointer (some (Addr.add q80 0)))) w6 (.int .i64 n82) w6 ∧ ∃ b83 : Bool, Ru (Instr.lookup 176 (.map m57) (.int .i64 n82) false) w6 (.bool b83) w6 ∧ ∃ q85_2 : Addr, (.pointer p71 : Value) = .pointer (some q85_2) ∧ ∃ w8 : World, RuU (Instr.storeAt 4 (.pointer (some (Addr.add q85_2 5))) (.bool b83)) w6 w8 ∧ k_4 [] w8)) fun x_4 w9 =>
 k_3 [.int .i64 (IntKind.i64.wrap (n68 + 1))] w9
 else
 K (.int .i64 0) w6)) [.int .i64 0] w5))))
set_option maxRecDepth 100000 in
theorem C_patch_Store_Write (p0 : Option Addr) (n1 : Int) (w0 : World) (K : Value → World → Prop) (h : D_patch_Store_Write p0 n1 w0 K) : Cal Tryz.prog F_patch_Store_Write #[.pointer p0, .int .i64 n1] w0 K :=
 denF_sound (A := { S := [6, 13, 68], ty := [(6, 24), (13, 4), (68, 3)], raw := [] }) mixed Tryz.func36 (by kernel_rfl) (by kernel_rfl) ((show denF Tryz.prog _ Tryz.f36 _ w0 K = D_patch_Store_Write p0 n1 w0 K by kernel_rfl).mpr h)

/- (levee.leveeref11.Store).Write: slots {8: 'any', 9: 'l', 10: 'i'}; loop over [8, 9, 10] -/
set_option maxRecDepth 100000 in
def D_leveeref11_Store_Write (p0 : Option Addr) (n1 : Int) (w0 : World) (K : Value → World → Prop) : Prop :=
 Cal Tryz.prog F_leveeref11_Store_Image #[.pointer p0, .int .i64 n1] w0 fun r15 w1 => ∃ (a15a : Option Addr) (l15a c15a : Nat), ∃ n15b : Int, r15 = .tuple #[.slice a15a l15a c15a, .int .i64 n15b] ∧ (bif n15b != 0 then
 K (.int .i64 n15b) w1
 else
 Cal Tryz.prog F_leveeref11_Store_may #[.pointer p0, .int .i64 n1] w1 fun r23 w2 => ∃ (a23 : Option Addr) (l23 c23 : Nat), r23 = .slice a23 l23 c23 ∧ LoopC (fun k x w3 =>
 ∃ n10 : Int, nth x 2 = .int .i64 n10 ∧ ∃ q26 : Addr, (.pointer p0 : Value) = .pointer (some q26) ∧ ∃ (a28 : Option Addr) (l28 c28 : Nat), Ru (Instr.loadAt 41 (.pointer (some (Addr.add q26 2)))) w3 (.slice a28 l28 c28) w3 ∧ (bif decide (n10 < (l28 : Int)) then
 ∃ q34 : Addr, (.pointer p0 : Value) = .pointer (some q34) ∧ ∃ (a36 : Option Addr) (l36 c36 : Nat), Ru (Instr.loadAt 41 (.pointer (some (Addr.add q34 2)))) w3 (.slice a36 l36 c36) w3 ∧ ∃ q38 : Addr, Al (Instr.indexAt 41 (.slice a36 l36 c36) (.int .i64 n10)) (.pointer (some q38)) ∧ ∃ g39 : Array Value, Ru (Instr.loadAt 186 (.pointer (some q38))) w3 (.agg g39) w3 ∧ ∃ q11 : Addr, ∃ w4 : World, Ru (Instr.alloc 186 true (.tuple #[])) w3 (.pointer (some q11)) w4 ∧ ∃ w5 : World, RuU (Instr.storeAt 186 (.pointer (some q11)) (.agg g39)) w4 w5 ∧ Share (fun k_2 => ∃ b8 : Bool, nth x 0 = .bool b8 ∧ (bif b8 then k_2 [.bool true] w5 else ∃ n43 : Int, Ru (Instr.loadAt 3 (.pointer (some (Addr.add q11 1)))) w5 (.int .i64 n43) w5 ∧ k_2 [.bool (n43 == n1)] w5)) fun x_2 w6 =>
 Share (fun k_3 => ∃ b48 : Bool, Ru (Instr.loadAt 4 (.pointer (some (Addr.add q11 5)))) w6 (.bool b48) w6 ∧ (bif b48 then ∃ w7 : World, RuU (Instr.storeAt 4 (.pointer (some (Addr.add q11 5))) (.bool true)) w6 w7 ∧ k_3 [] w7 else ∃ q52 : Addr, Al (Instr.indexAt 93 (.slice a23 l23 c23) (.int .i64 n10)) (.pointer (some q52)) ∧ ∃ b53 : Bool, Ru (Instr.loadAt 4 (.pointer (some q52))) w6 (.bool b53) w6 ∧ ∃ w8 : World, RuU (Instr.storeAt 4 (.pointer (some (Addr.add q11 5))) (.bool b53)) w6 w8 ∧ k_3 [] w8)) fun x_3 w9 =>
 ∃ (a9 : Option Addr) (l9 c9 : Nat), nth x 1 = .slice a9 l9 c9 ∧ ∃ g57 : Array Value, Ru (Instr.loadAt 186 (.pointer (some q11))) w9 (.agg g57) w9 ∧ ∃ (a58 : Option Addr) (l58 c58 : Nat), ∃ w10 : World, Ru (Instr.buildSlice 41 1 #[(0, .agg g57)]) w9 (.slice a58 l58 c58) w10 ∧ ∃ (a59 : Option Addr) (l59 c59 : Nat), ∃ w11 : World, Ru (Builtin.append_ #[41, 41] 41 #[.slice a9 l9 c9, .slice a58 l58 c58]) w10 (.slice a59 l59 c59) w11 ∧ k [nth x_2 0, .slice a59 l59 c59, .int .i64 (IntKind.i64.wrap (n10 + 1))] w11
 else
 ∃ b8_2 : Bool, nth x 0 = .bool b8_2 ∧ (bif !b8_2 then
 K (.int .i64 20) w3
 else
 ∃ (a9_2 : Option Addr) (l9_2 c9_2 : Nat), nth x 1 = .slice a9_2 l9_2 c9_2 ∧ ∃ q64 : Addr, (.pointer p0 : Value) = .pointer (some q64) ∧ ∃ w12 : World, RuU (Instr.storeAt 41 (.pointer (some (Addr.add q64 2))) (.slice a9_2 l9_2 c9_2)) w3 w12 ∧ ∃ q67 : Addr, (.pointer p0 : Value) = .pointer (some q67) ∧ ∃ p69 : Option Addr, Ru (Instr.loadAt 27 (.pointer (some (Addr.add q67 0)))) w12 (.pointer p69) w12 ∧ Cal Tryz.prog F_leveeref02_Disk_Write #[.pointer p69, .int .i64 n1, .slice a15a l15a c15a] w12 fun r72 w13 => ∃ n72 : Int, r72 = .int .i64 n72 ∧ K (.int .i64 n72) w13))) [.bool false, .slice none 0 0, .int .i64 0] w2)
set_option maxRecDepth 100000 in
theorem C_leveeref11_Store_Write (p0 : Option Addr) (n1 : Int) (w0 : World) (K : Value → World → Prop) (h : D_leveeref11_Store_Write p0 n1 w0 K) : Cal Tryz.prog F_leveeref11_Store_Write #[.pointer p0, .int .i64 n1] w0 K :=
 denF_sound (A := { S := [8, 9, 10], ty := [(8, 4), (9, 41), (10, 3)], raw := [] }) mixed Tryz.func37 (by kernel_rfl) (by kernel_rfl) ((show denF Tryz.prog _ Tryz.f37 _ w0 K = D_leveeref11_Store_Write p0 n1 w0 K by kernel_rfl).mpr h)

/- (levee.patch.Store).Flush: slots {38: ''}; loop over [38]; loop over [38] -/
set_option maxRecDepth 100000 in
def D_patch_Store_Flush (p0 : Option Addr) (w0 : World) (K : Value → World → Prop) : Prop :=
 (bif Option.isNone p0 then
 K (.int .i64 2) w0
 else
 ∃ q11 : Addr, (.pointer p0 : Value) = .pointer (some q11) ∧ ∃ p13 : Option Addr, Ru (Instr.loadAt 151 (.pointer (some (Addr.add q11 0)))) w0 (.pointer p13) w0 ∧ Cal Tryz.prog F_cache_Cache_Flush #[.pointer p13] w0 fun r14 w1 => ∃ n14 : Int, r14 = .int .i64 n14 ∧ (bif n14 != 0 then
 K (.int .i64 n14) w1
 else
 ∃ q19 : Addr, (.pointer p0 : Value) = .pointer (some q19) ∧ ∃ m21 : Option Nat, Ru (Instr.loadAt 155 (.pointer (some (Addr.add q19 4)))) w1 (.map m21) w1 ∧ ∃ q22 : Addr, ∃ w2 : World, Ru (Instr.range 155 (.map m21)) w1 (.pointer (some q22)) w2 ∧ LoopC (fun k x w3 =>
 ∃ v23 : Value, ∃ w4 : World, Ru (Instr.next (.pointer (some q22)) false 0) w3 v23 w4 ∧ ∃ b24 : Bool, Al (Instr.extract v23 0) (.bool b24) ∧ (bif b24 then
 ∃ v25 : Value, Ru (Instr.entry (.pointer (some q22))) w4 v25 w4 ∧ ∃ n26 : Int, Al (Instr.extract v25 0) (.int .i64 n26) ∧ ∃ p27 : Option Addr, Al (Instr.extract v25 1) (.pointer p27) ∧ Cal Tryz.prog F_patch_on_with #[.pointer p27, .func (.func F_patch_Store_Flush_1) #[] #[]] w4 fun r30 w5 => ∃ (a30 : Option Addr) (l30 c30 : Nat), r30 = .slice a30 l30 c30 ∧ ∃ q31 : Addr, (.pointer p27 : Value) = .pointer (some q31) ∧ ∃ w6 : World, RuU (Instr.storeAt 36 (.pointer (some (Addr.add q31 0))) (.slice a30 l30 c30)) w5 w6 ∧ ∃ q34 : Addr, (.pointer p27 : Value) = .pointer (some q34) ∧ ∃ (a36 : Option Addr) (l36 c36 : Nat), Ru (Instr.loadAt 178 (.pointer (some (Addr.add q34 1)))) w6 (.slice a36 l36 c36) w6 ∧ LoopC (fun k_2 x_2 w7 =>
 ∃ n38 : Int, nth x_2 0 = .int .i64 n38 ∧ (bif decide (n38 < (l36 : Int)) then
 ∃ q40 : Addr, Al (Instr.indexAt 178 (.slice a36 l36 c36) (.int .i64 n38)) (.pointer (some q40)) ∧ ∃ p41 : Option Addr, Ru (Instr.loadAt 181 (.pointer (some q40))) w7 (.pointer p41) w7 ∧ ∃ q43 : Addr, (.pointer p41 : Value) = .pointer (some q43) ∧ ∃ b45 : Bool, Ru (Instr.loadAt 4 (.pointer (some (Addr.add q43 5)))) w7 (.bool b45) w7 ∧ Share (fun k_3 => (bif b45 then
 ∃ q47 : Addr, (.pointer p0 : Value) = .pointer (some q47) ∧ ∃ m49 : Option Nat, Ru (Instr.loadAt 154 (.pointer (some (Addr.add q47 3)))) (drew w7) (.map m49) (drew w7) ∧ ∃ q51 : Addr, (.pointer p41 : Value) = .pointer (some q51) ∧ ∃ n53 : Int, Ru (Instr.loadAt 2 (.pointer (some (Addr.add q51 0)))) (drew w7) (.int .i64 n53) (drew w7) ∧ ∃ w8 : World, Ru (Builtin.delete_ #[154, 2] 0 #[.map m49, .int .i64 n53]) (drew w7) (.tuple #[]) w8 ∧ k_3 [] w8
 else
 k_3 [] w7)) fun x_3 w9 =>
 k_2 [.int .i64 (IntKind.i64.wrap (n38 + 1))] w9
 else
 ∃ q57 : Addr, (.pointer p27 : Value) = .pointer (some q57) ∧ ∃ (a59 : Option Addr) (l59 c59 : Nat), Ru (Instr.loadAt 178 (.pointer (some (Addr.add q57 1)))) w7 (.slice a59 l59 c59) w7 ∧ Cal Tryz.prog F_slices_DeleteFunc_patch_change #[.slice a59 l59 c59, .func (.func F_patch_Store_Flush_2) #[] #[]] w7 fun r60 w10 => ∃ (a60 : Option Addr) (l60 c60 : Nat), r60 = .slice a60 l60 c60 ∧ ∃ q61 : Addr, (.pointer p27 : Value) = .pointer (some q61) ∧ ∃ w11 : World, RuU (Instr.storeAt 178 (.pointer (some (Addr.add q61 1))) (.slice a60 l60 c60)) w10 w11 ∧ ∃ q64 : Addr, (.pointer p27 : Value) = .pointer (some q64) ∧ ∃ (a66 : Option Addr) (l66 c66 : Nat), Ru (Instr.loadAt 178 (.pointer (some (Addr.add q64 1)))) w11 (.slice a66 l66 c66) w11 ∧ Share (fun k_4 => (bif (l66 : Int) == 0 then
 ∃ q70 : Addr, (.pointer p0 : Value) = .pointer (some q70) ∧ ∃ m72 : Option Nat, Ru (Instr.loadAt 155 (.pointer (some (Addr.add q70 4)))) w11 (.map m72) w11 ∧ ∃ w12 : World, Ru (Builtin.delete_ #[155, 3] 0 #[.map m72, .int .i64 n26]) w11 (.tuple #[]) w12 ∧ ∃ q75 : Addr, (.pointer p0 : Value) = .pointer (some q75) ∧ ∃ p77 : Option Addr, Ru (Instr.loadAt 151 (.pointer (some (Addr.add q75 0)))) w12 (.pointer p77) w12 ∧ Cal Tryz.prog F_cache_Cache_Unpin #[.pointer p77, .int .i64 n26] w12 fun r79 w13 => ∃ n79 : Int, r79 = .int .i64 n79 ∧ k_4 [] w13
 else
 k_4 [] w11)) fun x_4 w14 =>
 k [.int .i64 n38] w14)) [.int .i64 0] w6
 else
 K (.int .i64 0) w4)) [undef] w2))
set_option maxRecDepth 100000 in
theorem C_patch_Store_Flush (p0 : Option Addr) (w0 : World) (K : Value → World → Prop) (h : D_patch_Store_Flush p0 w0 K) : Cal Tryz.prog F_patch_Store_Flush #[.pointer p0] w0 K :=
 denF_sound (A := { S := [38], ty := [(38, 3)], raw := [23, 25] }) mixed Tryz.func38 (by kernel_rfl) (by kernel_rfl) ((show denF Tryz.prog _ Tryz.f38 _ w0 K = D_patch_Store_Flush p0 w0 K by kernel_rfl).mpr h)

/- (levee.leveeref11.Store).Flush: slots {3: 'l', 4: 'i'}; loop over [3, 4] -/
set_option maxRecDepth 100000 in
def D_leveeref11_Store_Flush (p0 : Option Addr) (w0 : World) (K : Value → World → Prop) : Prop :=
 ∃ q7 : Addr, (.pointer p0 : Value) = .pointer (some q7) ∧ ∃ p9 : Option Addr, Ru (Instr.loadAt 27 (.pointer (some (Addr.add q7 0)))) w0 (.pointer p9) w0 ∧ Cal Tryz.prog F_leveeref02_Disk_Flush #[.pointer p9] w0 fun r10 w1 => ∃ n10 : Int, r10 = .int .i64 n10 ∧ LoopC (fun k x w2 =>
 ∃ n4 : Int, nth x 1 = .int .i64 n4 ∧ ∃ q13 : Addr, (.pointer p0 : Value) = .pointer (some q13) ∧ ∃ (a15 : Option Addr) (l15 c15 : Nat), Ru (Instr.loadAt 41 (.pointer (some (Addr.add q13 2)))) w2 (.slice a15 l15 c15) w2 ∧ (bif decide (n4 < (l15 : Int)) then
 ∃ q21 : Addr, (.pointer p0 : Value) = .pointer (some q21) ∧ ∃ (a23 : Option Addr) (l23 c23 : Nat), Ru (Instr.loadAt 41 (.pointer (some (Addr.add q21 2)))) w2 (.slice a23 l23 c23) w2 ∧ ∃ q25 : Addr, Al (Instr.indexAt 41 (.slice a23 l23 c23) (.int .i64 n4)) (.pointer (some q25)) ∧ ∃ g26 : Array Value, Ru (Instr.loadAt 186 (.pointer (some q25))) w2 (.agg g26) w2 ∧ ∃ q5 : Addr, ∃ w3 : World, Ru (Instr.alloc 186 true (.tuple #[])) w2 (.pointer (some q5)) w3 ∧ ∃ w4 : World, RuU (Instr.storeAt 186 (.pointer (some q5)) (.agg g26)) w3 w4 ∧ ∃ b28 : Bool, Ru (Instr.loadAt 4 (.pointer (some (Addr.add q5 5)))) w4 (.bool b28) w4 ∧ Share (fun k_2 => (bif b28 then
 ∃ q30 : Addr, (.pointer p0 : Value) = .pointer (some q30) ∧ ∃ (a32 : Option Addr) (l32 c32 : Nat), Ru (Instr.loadAt 40 (.pointer (some (Addr.add q30 1)))) (drew w4) (.slice a32 l32 c32) (drew w4) ∧ ∃ n34 : Int, Ru (Instr.loadAt 3 (.pointer (some (Addr.add q5 1)))) (drew w4) (.int .i64 n34) (drew w4) ∧ ∃ q36 : Addr, (.pointer p0 : Value) = .pointer (some q36) ∧ ∃ (a38 : Option Addr) (l38 c38 : Nat), Ru (Instr.loadAt 40 (.pointer (some (Addr.add q36 1)))) (drew w4) (.slice a38 l38 c38) (drew w4) ∧ ∃ n40 : Int, Ru (Instr.loadAt 3 (.pointer (some (Addr.add q5 1)))) (drew w4) (.int .i64 n40) (drew w4) ∧ ∃ q41 : Addr, Al (Instr.indexAt 40 (.slice a38 l38 c38) (.int .i64 n40)) (.pointer (some q41)) ∧ ∃ s42 : ByteArray, Ru (Instr.loadAt 9 (.pointer (some q41))) (drew w4) (.string s42) (drew w4) ∧ ∃ g44 : Array Value, Ru (Instr.loadAt 186 (.pointer (some q5))) (drew w4) (.agg g44) (drew w4) ∧ ∃ (a43 : Option Addr) (l43 c43 : Nat), ∃ w5 : World, Ru (convert 9 36 (.string s42)) (drew w4) (.slice a43 l43 c43) w5 ∧ Ru (Instr.loadAt 40 (.pointer (some (Addr.add q30 1)))) w5 (.slice a32 l32 c32) w5 ∧ Ru (Instr.loadAt 3 (.pointer (some (Addr.add q5 1)))) w5 (.int .i64 n34) w5 ∧ Ru (Instr.loadAt 186 (.pointer (some q5))) w5 (.agg g44) w5 ∧ Cal Tryz.prog F_leveeref11_upon #[.slice a43 l43 c43, .agg g44] w5 fun r45 w6 => ∃ (a45 : Option Addr) (l45 c45 : Nat), r45 = .slice a45 l45 c45 ∧ Ru (Instr.loadAt 40 (.pointer (some (Addr.add q30 1)))) w6 (.slice a32 l32 c32) w6 ∧ Ru (Instr.loadAt 3 (.pointer (some (Addr.add q5 1)))) w6 (.int .i64 n34) w6 ∧ ∃ s46 : ByteArray, Ru (convert 36 9 (.slice a45 l45 c45)) w6 (.string s46) w6 ∧ ∃ q47 : Addr, Al (Instr.indexAt 40 (.slice a32 l32 c32) (.int .i64 n34)) (.pointer (some q47)) ∧ ∃ w7 : World, RuU (Instr.storeAt 9 (.pointer (some q47)) (.string s46)) w6 w7 ∧ k_2 [nth x 0] w7
 else
 ∃ (a3 : Option Addr) (l3 c3 : Nat), nth x 0 = .slice a3 l3 c3 ∧ ∃ g49 : Array Value, Ru (Instr.loadAt 186 (.pointer (some q5))) w4 (.agg g49) w4 ∧ ∃ (a50 : Option Addr) (l50 c50 : Nat), ∃ w8 : World, Ru (Instr.buildSlice 41 1 #[(0, .agg g49)]) w4 (.slice a50 l50 c50) w8 ∧ ∃ (a51 : Option Addr) (l51 c51 : Nat), ∃ w9 : World, Ru (Builtin.append_ #[41, 41] 41 #[.slice a3 l3 c3, .slice a50 l50 c50]) w8 (.slice a51 l51 c51) w9 ∧ k_2 [.slice a51 l51 c51] w9)) fun x_2 w10 =>
 k [nth x_2 0, .int .i64 (IntKind.i64.wrap (n4 + 1))] w10
 else
 ∃ (a3_2 : Option Addr) (l3_2 c3_2 : Nat), nth x 0 = .slice a3_2 l3_2 c3_2 ∧ ∃ q54 : Addr, (.pointer p0 : Value) = .pointer (some q54) ∧ ∃ w11 : World, RuU (Instr.storeAt 41 (.pointer (some (Addr.add q54 2))) (.slice a3_2 l3_2 c3_2)) w2 w11 ∧ K (.int .i64 0) w11)) [.slice none 0 0, .int .i64 0] w1
set_option maxRecDepth 100000 in
theorem C_leveeref11_Store_Flush (p0 : Option Addr) (w0 : World) (K : Value → World → Prop) (h : D_leveeref11_Store_Flush p0 w0 K) : Cal Tryz.prog F_leveeref11_Store_Flush #[.pointer p0] w0 K :=
 denF_sound (A := { S := [3, 4], ty := [(3, 41), (4, 3)], raw := [] }) mixed Tryz.func39 (by kernel_rfl) (by kernel_rfl) ((show denF Tryz.prog _ Tryz.f39 _ w0 K = D_leveeref11_Store_Flush p0 w0 K by kernel_rfl).mpr h)

/- (levee.push.Work).List: slots {3: 'l', 7: ''}; loop over [3, 7] -/
set_option maxRecDepth 100000 in
def D_push_Work_List (p0 : Option Addr) (w0 : World) (K : Value → World → Prop) : Prop :=
 Cal Tryz.prog F_push_Work_Len #[.pointer p0] w0 fun r6 w1 => ∃ n6 : Int, r6 = .int .i64 n6 ∧ LoopC (fun k x w2 =>
 ∃ n7 : Int, nth x 1 = .int .i64 n7 ∧ (bif decide (n7 < n6) then
 ∃ (a3 : Option Addr) (l3 c3 : Nat), nth x 0 = .slice a3 l3 c3 ∧ ∃ q12 : Addr, (.pointer p0 : Value) = .pointer (some q12) ∧ ∃ (a14 : Option Addr) (l14 c14 : Nat), Ru (Instr.loadAt 168 (.pointer (some (Addr.add q12 0)))) w2 (.slice a14 l14 c14) w2 ∧ ∃ q16 : Addr, Al (Instr.indexAt 168 (.slice a14 l14 c14) (.int .i64 n7)) (.pointer (some q16)) ∧ ∃ g18 : Array Value, Ru (Instr.loadAt 71 (.pointer (some (Addr.add q16 1)))) w2 (.agg g18) w2 ∧ ∃ (a19 : Option Addr) (l19 c19 : Nat), ∃ w3 : World, Ru (Instr.buildSlice 77 1 #[(0, .agg g18)]) w2 (.slice a19 l19 c19) w3 ∧ ∃ (a20 : Option Addr) (l20 c20 : Nat), ∃ w4 : World, Ru (Builtin.append_ #[77, 77] 77 #[.slice a3 l3 c3, .slice a19 l19 c19]) w3 (.slice a20 l20 c20) w4 ∧ k [.slice a20 l20 c20, .int .i64 (IntKind.i64.wrap (n7 + 1))] w4
 else
 ∃ (a3_2 : Option Addr) (l3_2 c3_2 : Nat), nth x 0 = .slice a3_2 l3_2 c3_2 ∧ K (.slice a3_2 l3_2 c3_2) w2)) [.slice none 0 0, .int .i64 0] w1
set_option maxRecDepth 100000 in
theorem C_push_Work_List (p0 : Option Addr) (w0 : World) (K : Value → World → Prop) (h : D_push_Work_List p0 w0 K) : Cal Tryz.prog F_push_Work_List #[.pointer p0] w0 K :=
 denF_sound (A := { S := [3, 7], ty := [(3, 77), (7, 3)], raw := [] }) mixed Tryz.func40 (by kernel_rfl) (by kernel_rfl) ((show denF Tryz.prog _ Tryz.f40 _ w0 K = D_push_Work_List p0 w0 K by kernel_rfl).mpr h)

/- (levee.push.Work).Len: slots {};  -/
set_option maxRecDepth 100000 in
def D_push_Work_Len (p0 : Option Addr) (w0 : World) (K : Value → World → Prop) : Prop :=
 (bif Option.isNone p0 then
 K (.int .i64 0) w0
 else
 ∃ q6 : Addr, (.pointer p0 : Value) = .pointer (some q6) ∧ ∃ (a8 : Option Addr) (l8 c8 : Nat), Ru (Instr.loadAt 168 (.pointer (some (Addr.add q6 0)))) w0 (.slice a8 l8 c8) w0 ∧ K (.int .i64 ((l8 : Int))) w0)
set_option maxRecDepth 100000 in
theorem C_push_Work_Len (p0 : Option Addr) (w0 : World) (K : Value → World → Prop) (h : D_push_Work_Len p0 w0 K) : Cal Tryz.prog F_push_Work_Len #[.pointer p0] w0 K :=
 denF_sound (A := { S := [], ty := [], raw := [] }) mixed Tryz.func41 (by kernel_rfl) (by kernel_rfl) ((show denF Tryz.prog _ Tryz.f41 _ w0 K = D_push_Work_Len p0 w0 K by kernel_rfl).mpr h)

/- (levee.push.Work).Waits: slots {};  -/
set_option maxRecDepth 100000 in
def D_push_Work_Waits (p0 : Option Addr) (g1 : Array Value) (w0 : World) (K : Value → World → Prop) : Prop :=
 ∃ q3 : Addr, ∃ w1 : World, Ru (Instr.box 71 (.agg g1)) w0 (.pointer (some q3)) w1 ∧ ∃ g7 : Array Value, Ru (Instr.loadAt 71 (.pointer (some q3))) (drew w1) (.agg g7) (drew w1) ∧ Cal Tryz.prog F_push_Work_List #[.pointer p0] (drew w1) fun r6 w2 => ∃ (a6 : Option Addr) (l6 c6 : Nat), r6 = .slice a6 l6 c6 ∧ Ru (Instr.loadAt 71 (.pointer (some q3))) w2 (.agg g7) w2 ∧ Cal Tryz.prog F_slices_Contains_push_Act #[.slice a6 l6 c6, .agg g7] w2 fun r8 w3 => ∃ b8 : Bool, r8 = .bool b8 ∧ K (.bool b8) w3
set_option maxRecDepth 100000 in
theorem C_push_Work_Waits (p0 : Option Addr) (g1 : Array Value) (w0 : World) (K : Value → World → Prop) (h : D_push_Work_Waits p0 g1 w0 K) : Cal Tryz.prog F_push_Work_Waits #[.pointer p0, .agg g1] w0 K :=
 denF_sound (A := { S := [], ty := [], raw := [] }) mixed Tryz.func42 (by kernel_rfl) (by kernel_rfl) ((show denF Tryz.prog _ Tryz.f42 _ w0 K = D_push_Work_Waits p0 g1 w0 K by kernel_rfl).mpr h)

/- levee.leveelaw12.known: slots {0: '', 29: ''};  -/
set_option maxRecDepth 100000 in
def D_leveelaw12_known (w0 : World) (K : Value → World → Prop) : Prop :=
 Cal Tryz.prog F_leveelaw12_open #[] w0 fun r18 w1 => ∃ p18a : Option Addr, ∃ p18b : Option Addr, ∃ p18c : Option Addr, ∃ b18d : Bool, r18 = .tuple #[.pointer p18a, .pointer p18b, .pointer p18c, .bool b18d] ∧ Cal Tryz.prog F_push_New #[] w1 fun r23 w2 => ∃ p23 : Option Addr, r23 = .pointer p23 ∧ Share (fun k => (bif !b18d then k [.bool true] w2 else k [.bool (Option.isNone p23)] w2)) fun x w3 =>
 ∃ b29 : Bool, nth x 0 = .bool b29 ∧ (bif b29 then
 K (.bool false) w3
 else
 ∃ (a32 : Option Addr) (l32 c32 : Nat), ∃ w4 : World, Ru (Instr.buildSlice 36 1 #[(0, .int .u8 97)]) w3 (.slice a32 l32 c32) w4 ∧ ∃ (a33 : Option Addr) (l33 c33 : Nat), ∃ w5 : World, Ru (convert 36 36 (.slice a32 l32 c32)) w4 (.slice a33 l33 c33) w5 ∧ Cal Tryz.prog F_patch_Store_Patch #[.pointer p18a, .int .i64 3, .int .i64 0, .slice a33 l33 c33, .slice none 0 0] w5 fun r34 w6 => ∃ n34a : Int, ∃ n34b : Int, r34 = .tuple #[.int .i64 n34a, .int .i64 n34b] ∧ ∃ (a39 : Option Addr) (l39 c39 : Nat), ∃ w7 : World, Ru (Instr.buildSlice 36 1 #[(0, .int .u8 98)]) w6 (.slice a39 l39 c39) w7 ∧ ∃ (a40 : Option Addr) (l40 c40 : Nat), ∃ w8 : World, Ru (convert 36 36 (.slice a39 l39 c39)) w7 (.slice a40 l40 c40) w8 ∧ ∃ (a42 : Option Addr) (l42 c42 : Nat), ∃ w9 : World, Ru (Instr.buildSlice 37 1 #[(0, .int .i64 n34a)]) w8 (.slice a42 l42 c42) w9 ∧ Cal Tryz.prog F_patch_Store_Patch #[.pointer p18a, .int .i64 4, .int .i64 0, .slice a40 l40 c40, .slice a42 l42 c42] w9 fun r43 w10 => ∃ n43a : Int, ∃ n43b : Int, r43 = .tuple #[.int .i64 n43a, .int .i64 n43b] ∧ ∃ (a48 : Option Addr) (l48 c48 : Nat), ∃ w11 : World, Ru (Instr.buildSlice 36 1 #[(0, .int .u8 99)]) w10 (.slice a48 l48 c48) w11 ∧ ∃ (a49 : Option Addr) (l49 c49 : Nat), ∃ w12 : World, Ru (convert 36 36 (.slice a48 l48 c48)) w11 (.slice a49 l49 c49) w12 ∧ ∃ (a51 : Option Addr) (l51 c51 : Nat), ∃ w13 : World, Ru (Instr.buildSlice 37 1 #[(0, .int .i64 n43a)]) w12 (.slice a51 l51 c51) w13 ∧ Cal Tryz.prog F_patch_Store_Patch #[.pointer p18a, .int .i64 3, .int .i64 1, .slice a49 l49 c49, .slice a51 l51 c51] w13 fun r52 w14 => ∃ n52a : Int, ∃ n52b : Int, r52 = .tuple #[.int .i64 n52a, .int .i64 n52b] ∧ ∃ g57 : Array Value, Al (Instr.build 71 #[(0, .int .i64 1), (1, .int .i64 7)]) (.agg g57) ∧ Cal Tryz.prog F_push_Work_Later #[.pointer p23, .int .i64 n52a, .agg g57] w14 fun r58 w15 => ∃ n58 : Int, r58 = .int .i64 n58 ∧ Cal Tryz.prog F_push_Work_Ripe #[.pointer p23, .pointer p18a] w15 fun r61 w16 => ∃ (a61 : Option Addr) (l61 c61 : Nat), r61 = .slice a61 l61 c61 ∧ Cal Tryz.prog F_push_One #[.pointer p18a, .int .i64 n52a] w16 fun r65 w17 => ∃ n65a : Int, ∃ n65b : Int, r65 = .tuple #[.int .i64 n65a, .int .i64 n65b] ∧ Cal Tryz.prog F_push_Work_Ripe #[.pointer p23, .pointer p18a] w17 fun r70 w18 => ∃ (a70 : Option Addr) (l70 c70 : Nat), r70 = .slice a70 l70 c70 ∧ Share (fun k_2 => (bif n58 == 0 then (bif (l61 : Int) == 0 then (bif n65a == 3 then (bif n65b == 0 then Cal Tryz.prog F_patch_Store_Safe #[.pointer p18a, .int .i64 n52a] w18 fun r89 w19 => ∃ b89 : Bool, r89 = .bool b89 ∧ (bif b89 then (bif (l70 : Int) == 1 then ∃ q98 : Addr, Al (Instr.indexAt 77 (.slice a70 l70 c70) (.int .i64 0)) (.pointer (some q98)) ∧ ∃ n100 : Int, Ru (Instr.loadAt 3 (.pointer (some (Addr.add q98 1)))) w19 (.int .i64 n100) w19 ∧ (bif n100 == 7 then Cal Tryz.prog F_push_Work_Len #[.pointer p23] w19 fun r105 w20 => ∃ n105 : Int, r105 = .int .i64 n105 ∧ k_2 [.bool (bif (bif (n105 == 0) then true else false) then true else false)] w20 else k_2 [.bool false] w19) else k_2 [.bool false] w19) else k_2 [.bool false] w19) else k_2 [.bool false] w18) else k_2 [.bool false] w18) else k_2 [.bool false] w18) else k_2 [.bool false] w18)) fun x_2 w21 =>
 ∃ b0 : Bool, nth x_2 0 = .bool b0 ∧ K (.bool b0) w21)
set_option maxRecDepth 100000 in
theorem C_leveelaw12_known (w0 : World) (K : Value → World → Prop) (h : D_leveelaw12_known  w0 K) : Cal Tryz.prog F_leveelaw12_known #[] w0 K :=
 denF_sound (A := { S := [0, 29], ty := [(0, 4), (29, 4)], raw := [] }) mixed Tryz.func43 (by kernel_rfl) (by kernel_rfl) ((show denF Tryz.prog _ Tryz.f43 _ w0 K = D_leveelaw12_known  w0 K by kernel_rfl).mpr h)

/- levee.push.One: slots {};  -/
set_option maxRecDepth 100000 in
def D_push_One (p0 : Option Addr) (n1 : Int) (w0 : World) (K : Value → World → Prop) : Prop :=
 ∃ q2 : Addr, ∃ w1 : World, Ru (Instr.box 30 (.pointer p0)) w0 (.pointer (some q2)) w1 ∧ ∃ q3 : Addr, ∃ w2 : World, Ru (Instr.box 2 (.int .i64 n1)) w1 (.pointer (some q3)) w2 ∧ ∃ p6 : Option Addr, Ru (Instr.loadAt 30 (.pointer (some q2))) w2 (.pointer p6) w2 ∧ Cal Tryz.prog F_push_rounds #[.pointer p6, .func (.func F_push_One_1) #[] #[.pointer (some q2), .pointer (some q3)]] w2 fun r8 w3 => ∃ n8a : Int, ∃ n8b : Int, r8 = .tuple #[.int .i64 n8a, .int .i64 n8b] ∧ K (.tuple #[.int .i64 n8a, .int .i64 n8b]) w3
set_option maxRecDepth 100000 in
theorem C_push_One (p0 : Option Addr) (n1 : Int) (w0 : World) (K : Value → World → Prop) (h : D_push_One p0 n1 w0 K) : Cal Tryz.prog F_push_One #[.pointer p0, .int .i64 n1] w0 K :=
 denF_sound (A := { S := [], ty := [], raw := [] }) mixed Tryz.func44 (by kernel_rfl) (by kernel_rfl) ((show denF Tryz.prog _ Tryz.f44 _ w0 K = D_push_One p0 n1 w0 K by kernel_rfl).mpr h)

/- levee.push.All: slots {};  -/
/- levee.push.Step: slots {};  -/
/- (levee.patch.Store).Waits: slots {7: 'l', 19: ''}; loop over [7] -/
set_option maxRecDepth 100000 in
def D_patch_Store_Waits (p0 : Option Addr) (n1 : Int) (w0 : World) (K : Value → World → Prop) : Prop :=
 ∃ q2 : Addr, ∃ w1 : World, Ru (Instr.box 30 (.pointer p0)) w0 (.pointer (some q2)) w1 ∧ Share (fun k => ∃ p9 : Option Addr, Ru (Instr.loadAt 30 (.pointer (some q2))) w1 (.pointer p9) w1 ∧ (bif Option.isNone p9 then k [.bool true] w1 else ∃ p12 : Option Addr, Ru (Instr.loadAt 30 (.pointer (some q2))) w1 (.pointer p12) w1 ∧ ∃ q13 : Addr, (.pointer p12 : Value) = .pointer (some q13) ∧ ∃ m15 : Option Nat, Ru (Instr.loadAt 154 (.pointer (some (Addr.add q13 3)))) w1 (.map m15) w1 ∧ ∃ p17 : Option Addr, Ru (Instr.lookup 154 (.map m15) (.int .i64 n1) false) w1 (.pointer p17) w1 ∧ k [.bool (Option.isNone p17)] w1)) fun x w2 =>
 ∃ b19 : Bool, nth x 0 = .bool b19 ∧ (bif b19 then
 K (.slice none 0 0) w2
 else
 ∃ m20 : Option Nat, ∃ w3 : World, Ru (Instr.makeMap 176 none) w2 (.map m20) w3 ∧ ∃ q5 : Addr, ∃ w4 : World, Ru (Instr.alloc 176 true (.tuple #[])) w3 (.pointer (some q5)) w4 ∧ ∃ w5 : World, RuU (Instr.storeAt 176 (.pointer (some q5)) (.map m20)) w4 w5 ∧ ∃ q6 : Addr, ∃ w6 : World, Ru (Instr.alloc 194 true (.tuple #[])) w5 (.pointer (some q6)) w6 ∧ ∃ w7 : World, RuU (Instr.storeAt 194 (.pointer (some q6)) (.func (.func F_patch_Store_Waits_1) #[] #[.pointer (some q5), .pointer (some q6), .pointer (some q2)])) w6 w7 ∧ ∃ v22 : Value, Ru (Instr.loadAt 194 (.pointer (some q6))) (drew w7) v22 (drew w7) ∧ ∃ p23 : Option Addr, Ru (Instr.loadAt 30 (.pointer (some q2))) (drew w7) (.pointer p23) (drew w7) ∧ ∃ q24 : Addr, (.pointer p23 : Value) = .pointer (some q24) ∧ ∃ m26 : Option Nat, Ru (Instr.loadAt 154 (.pointer (some (Addr.add q24 3)))) (drew w7) (.map m26) (drew w7) ∧ ∃ p28 : Option Addr, Ru (Instr.lookup 154 (.map m26) (.int .i64 n1) false) (drew w7) (.pointer p28) (drew w7) ∧ Dyn Tryz.prog v22 #[.pointer p28] (drew w7) fun r29 w8 => r29 = .tuple #[] ∧ ∃ m30 : Option Nat, Ru (Instr.loadAt 176 (.pointer (some q5))) w8 (.map m30) w8 ∧ ∃ q31 : Addr, ∃ w9 : World, Ru (Instr.range 176 (.map m30)) w8 (.pointer (some q31)) w9 ∧ LoopC (fun k_2 x_2 w10 =>
 ∃ v32 : Value, ∃ w11 : World, Ru (Instr.next (.pointer (some q31)) false 0) w10 v32 w11 ∧ ∃ b33 : Bool, Al (Instr.extract v32 0) (.bool b33) ∧ (bif b33 then
 ∃ v34 : Value, Ru (Instr.entry (.pointer (some q31))) w11 v34 w11 ∧ ∃ n35 : Int, Al (Instr.extract v34 0) (.int .i64 n35) ∧ ∃ (a7 : Option Addr) (l7 c7 : Nat), nth x_2 0 = .slice a7 l7 c7 ∧ ∃ (a38 : Option Addr) (l38 c38 : Nat), ∃ w12 : World, Ru (Instr.buildSlice 37 1 #[(0, .int .i64 n35)]) w11 (.slice a38 l38 c38) w12 ∧ ∃ (a39 : Option Addr) (l39 c39 : Nat), ∃ w13 : World, Ru (Builtin.append_ #[37, 37] 37 #[.slice a7 l7 c7, .slice a38 l38 c38]) w12 (.slice a39 l39 c39) w13 ∧ k_2 [.slice a39 l39 c39] w13
 else
 ∃ (a7_2 : Option Addr) (l7_2 c7_2 : Nat), nth x_2 0 = .slice a7_2 l7_2 c7_2 ∧ Cal Tryz.prog F_slices_Sort_int64 #[.slice a7_2 l7_2 c7_2] w11 fun r41 w14 => r41 = .tuple #[] ∧ K (.slice a7_2 l7_2 c7_2) w14)) [.slice none 0 0] w9)
set_option maxRecDepth 100000 in
theorem C_patch_Store_Waits (p0 : Option Addr) (n1 : Int) (w0 : World) (K : Value → World → Prop) (h : D_patch_Store_Waits p0 n1 w0 K) : Cal Tryz.prog F_patch_Store_Waits #[.pointer p0, .int .i64 n1] w0 K :=
 denF_sound (A := { S := [7, 19], ty := [(7, 37), (19, 4)], raw := [32, 34] }) mixed Tryz.func47 (by kernel_rfl) (by kernel_rfl) ((show denF Tryz.prog _ Tryz.f47 _ w0 K = D_patch_Store_Waits p0 n1 w0 K by kernel_rfl).mpr h)

/- (levee.patch.Store).Block: slots {};  -/
set_option maxRecDepth 100000 in
def D_patch_Store_Block (p0 : Option Addr) (n1 : Int) (w0 : World) (K : Value → World → Prop) : Prop :=
 (bif Option.isNone p0 then
 K (.tuple #[.int .i64 0, .int .i64 2]) w0
 else
 ∃ q10 : Addr, (.pointer p0 : Value) = .pointer (some q10) ∧ ∃ m12 : Option Nat, Ru (Instr.loadAt 154 (.pointer (some (Addr.add q10 3)))) w0 (.map m12) w0 ∧ ∃ p14 : Option Addr, Ru (Instr.lookup 154 (.map m12) (.int .i64 n1) false) w0 (.pointer p14) w0 ∧ (bif Option.isNone p14 then
 K (.tuple #[.int .i64 0, .int .i64 20]) w0
 else
 ∃ q18 : Addr, (.pointer p14 : Value) = .pointer (some q18) ∧ ∃ n20 : Int, Ru (Instr.loadAt 3 (.pointer (some (Addr.add q18 1)))) w0 (.int .i64 n20) w0 ∧ K (.tuple #[.int .i64 n20, .int .i64 0]) w0))
set_option maxRecDepth 100000 in
theorem C_patch_Store_Block (p0 : Option Addr) (n1 : Int) (w0 : World) (K : Value → World → Prop) (h : D_patch_Store_Block p0 n1 w0 K) : Cal Tryz.prog F_patch_Store_Block #[.pointer p0, .int .i64 n1] w0 K :=
 denF_sound (A := { S := [], ty := [], raw := [] }) mixed Tryz.func48 (by kernel_rfl) (by kernel_rfl) ((show denF Tryz.prog _ Tryz.f48 _ w0 K = D_patch_Store_Block p0 n1 w0 K by kernel_rfl).mpr h)

/- (levee.patch.Store).Safe: slots {4: ''};  -/
set_option maxRecDepth 100000 in
def D_patch_Store_Safe (p0 : Option Addr) (n1 : Int) (w0 : World) (K : Value → World → Prop) : Prop :=
 Share (fun k => (bif !(Option.isNone p0) then Cal Tryz.prog F_patch_Store_given #[.pointer p0, .int .i64 n1] w0 fun r10 w1 => ∃ b10 : Bool, r10 = .bool b10 ∧ (bif b10 then ∃ q14 : Addr, (.pointer p0 : Value) = .pointer (some q14) ∧ ∃ m16 : Option Nat, Ru (Instr.loadAt 154 (.pointer (some (Addr.add q14 3)))) w1 (.map m16) w1 ∧ ∃ p18 : Option Addr, Ru (Instr.lookup 154 (.map m16) (.int .i64 n1) false) w1 (.pointer p18) w1 ∧ k [.bool (Option.isNone p18)] w1 else k [.bool false] w1) else k [.bool false] w0)) fun x w2 =>
 ∃ b4 : Bool, nth x 0 = .bool b4 ∧ K (.bool b4) w2
set_option maxRecDepth 100000 in
theorem C_patch_Store_Safe (p0 : Option Addr) (n1 : Int) (w0 : World) (K : Value → World → Prop) (h : D_patch_Store_Safe p0 n1 w0 K) : Cal Tryz.prog F_patch_Store_Safe #[.pointer p0, .int .i64 n1] w0 K :=
 denF_sound (A := { S := [4], ty := [(4, 4)], raw := [] }) mixed Tryz.func49 (by kernel_rfl) (by kernel_rfl) ((show denF Tryz.prog _ Tryz.f49 _ w0 K = D_patch_Store_Safe p0 n1 w0 K by kernel_rfl).mpr h)

/- (levee.patch.Store).Read: slots {};  -/
set_option maxRecDepth 100000 in
def D_patch_Store_Read (p0 : Option Addr) (n1 : Int) (w0 : World) (K : Value → World → Prop) : Prop :=
 (bif Option.isNone p0 then
 K (.tuple #[.slice none 0 0, .int .i64 2]) w0
 else
 ∃ q9 : Addr, (.pointer p0 : Value) = .pointer (some q9) ∧ ∃ p11 : Option Addr, Ru (Instr.loadAt 151 (.pointer (some (Addr.add q9 0)))) w0 (.pointer p11) w0 ∧ Cal Tryz.prog F_cache_Cache_Read #[.pointer p11, .int .i64 n1] w0 fun r13 w1 => ∃ (a13a : Option Addr) (l13a c13a : Nat), ∃ n13b : Int, r13 = .tuple #[.slice a13a l13a c13a, .int .i64 n13b] ∧ K (.tuple #[.slice a13a l13a c13a, .int .i64 n13b]) w1)
set_option maxRecDepth 100000 in
theorem C_patch_Store_Read (p0 : Option Addr) (n1 : Int) (w0 : World) (K : Value → World → Prop) (h : D_patch_Store_Read p0 n1 w0 K) : Cal Tryz.prog F_patch_Store_Read #[.pointer p0, .int .i64 n1] w0 K :=
 denF_sound (A := { S := [], ty := [], raw := [] }) mixed Tryz.func50 (by kernel_rfl) (by kernel_rfl) ((show denF Tryz.prog _ Tryz.f50 _ w0 K = D_patch_Store_Read p0 n1 w0 K by kernel_rfl).mpr h)

/- (levee.patch.Store).Open: slots {};  -/
/- levee.leveeref12.Step: slots {7: 'k'};  -/
/- levee.leveeref12.One: slots {5: 'n', 7: 'l', 8: 'b', 9: 'is', 10: 'i'}; loop over [9, 10]; loop over [7, 8, 9, 10]; loop over [5, 7, 8, 9, 10] -/
/- levee.leveelaw12.same: slots {7: 'b', 50: ''}; loop over [7] -/
/- levee.leveeref12.All: slots {3: 'n'}; loop over [3] -/
/- levee.leveeref03.Size: slots {};  -/
/- levee.leveelaw13.known: slots {0: '', 31: ''};  -/
/- levee.vol.Format: slots {21: ''}; loop over [21] -/
/- levee.leveeref13.Format: slots {6: 'i'}; loop over [6] -/
/- levee.leveelaw13.same: slots {5: 'b', 24: ''}; loop over [5] -/
/- (levee.disk.Disk).Write: slots {};  -/
set_option maxRecDepth 100000 in
def D_disk_Disk_Write (p0 : Option Addr) (n1 : Int) (a2 : Option Addr) (l2 c2 : Nat) (w0 : World) (K : Value → World → Prop) : Prop :=
 Cal Tryz.prog F_disk_Disk_may #[.pointer p0, .int .i64 n1] w0 fun r11 w1 => ∃ n11 : Int, r11 = .int .i64 n11 ∧ (bif n11 != 0 then
 K (.int .i64 n11) w1
 else
 (bif (l2 : Int) != 256 then
 K (.int .i64 4) w1
 else
 ∃ q21 : Addr, (.pointer p0 : Value) = .pointer (some q21) ∧ ∃ m23 : Option Nat, Ru (Instr.loadAt 142 (.pointer (some (Addr.add q21 1)))) w1 (.map m23) w1 ∧ ∃ (a25 : Option Addr) (l25 c25 : Nat), Ru (Instr.lookup 142 (.map m23) (.int .i64 n1) false) w1 (.slice a25 l25 c25) w1 ∧ Cal Tryz.prog F_disk_Disk_goes #[.pointer p0] w1 fun r27 w2 => ∃ b27 : Bool, r27 = .bool b27 ∧ Share (fun k => (bif b27 then
 ∃ q29 : Addr, (.pointer p0 : Value) = .pointer (some q29) ∧ ∃ m31 : Option Nat, Ru (Instr.loadAt 142 (.pointer (some (Addr.add q29 1)))) (drew w2) (.map m31) (drew w2) ∧ ∃ (a38 : Option Addr) (l38 c38 : Nat), Al (Instr.sliceAt 141 (.slice a25 l25 c25) none (some (.int .i64 ((l25 : Int)))) (some (.int .i64 ((l25 : Int))))) (.slice a38 l38 c38) ∧ ∃ q40 : Addr, Al (Instr.arrayAt 164 (.slice a2 l2 c2)) (.pointer (some q40)) ∧ ∃ g41 : Array Value, Ru (Instr.loadAt 164 (.pointer (some q40))) (drew w2) (.agg g41) (drew w2) ∧ ∃ (a42 : Option Addr) (l42 c42 : Nat), ∃ w3 : World, Ru (Instr.buildSlice 141 1 #[(0, .agg g41)]) (drew w2) (.slice a42 l42 c42) w3 ∧ Ru (Instr.loadAt 142 (.pointer (some (Addr.add q29 1)))) w3 (.map m31) w3 ∧ ∃ (a43 : Option Addr) (l43 c43 : Nat), ∃ w4 : World, Ru (Builtin.append_ #[141, 141] 141 #[.slice a38 l38 c38, .slice a42 l42 c42]) w3 (.slice a43 l43 c43) w4 ∧ Ru (Instr.loadAt 142 (.pointer (some (Addr.add q29 1)))) w4 (.map m31) w4 ∧ ∃ w5 : World, RuU (Instr.mapUpdate 142 (.map m31) (.int .i64 n1) (.slice a43 l43 c43)) w4 w5 ∧ k [] w5
 else
 k [] w2)) fun x w6 =>
 K (.int .i64 0) w6))
set_option maxRecDepth 100000 in
theorem C_disk_Disk_Write (p0 : Option Addr) (n1 : Int) (a2 : Option Addr) (l2 c2 : Nat) (w0 : World) (K : Value → World → Prop) (h : D_disk_Disk_Write p0 n1 a2 l2 c2 w0 K) : Cal Tryz.prog F_disk_Disk_Write #[.pointer p0, .int .i64 n1, .slice a2 l2 c2] w0 K :=
 denF_sound (A := { S := [], ty := [], raw := [] }) mixed Tryz.func61 (by kernel_rfl) (by kernel_rfl) ((show denF Tryz.prog _ Tryz.f61 _ w0 K = D_disk_Disk_Write p0 n1 a2 l2 c2 w0 K by kernel_rfl).mpr h)

/- levee.leveeref01.Count: slots {0: 'k'};  -/
/- levee.leveeref01.Fill: slots {4: 'i', 12: ''}; loop over [4, 12] -/
/- (levee.leveeref02.Disk).Write: slots {};  -/
set_option maxRecDepth 100000 in
def D_leveeref02_Disk_Write (p0 : Option Addr) (n1 : Int) (a2 : Option Addr) (l2 c2 : Nat) (w0 : World) (K : Value → World → Prop) : Prop :=
 Cal Tryz.prog F_leveeref02_Disk_there #[.pointer p0, .int .i64 n1] w0 fun r10 w1 => ∃ b10 : Bool, r10 = .bool b10 ∧ (bif !b10 then
 K (.int .i64 3) w1
 else
 (bif (l2 : Int) != 256 then
 K (.int .i64 4) w1
 else
 Cal Tryz.prog F_leveeref02_Disk_goes #[.pointer p0] w1 fun r16 w2 => ∃ b16 : Bool, r16 = .bool b16 ∧ (bif !b16 then
 K (.int .i64 0) w2
 else
 ∃ q20 : Addr, (.pointer p0 : Value) = .pointer (some q20) ∧ ∃ (a22 : Option Addr) (l22 c22 : Nat), Ru (Instr.loadAt 145 (.pointer (some (Addr.add q20 0)))) w2 (.slice a22 l22 c22) w2 ∧ ∃ q24 : Addr, Al (Instr.indexAt 145 (.slice a22 l22 c22) (.int .i64 n1)) (.pointer (some q24)) ∧ ∃ (a26 : Option Addr) (l26 c26 : Nat), Ru (Instr.loadAt 40 (.pointer (some (Addr.add q24 0)))) w2 (.slice a26 l26 c26) w2 ∧ ∃ (a27 : Option Addr) (l27 c27 : Nat), ∃ w3 : World, Ru (Builtin.append_ #[40, 40] 40 #[.slice none 0 0, .slice a26 l26 c26]) w2 (.slice a27 l27 c27) w3 ∧ ∃ q29 : Addr, (.pointer p0 : Value) = .pointer (some q29) ∧ ∃ (a31 : Option Addr) (l31 c31 : Nat), Ru (Instr.loadAt 145 (.pointer (some (Addr.add q29 0)))) (drew w3) (.slice a31 l31 c31) (drew w3) ∧ ∃ s35 : ByteArray, Ru (convert 36 9 (.slice a2 l2 c2)) (drew w3) (.string s35) (drew w3) ∧ ∃ (a36 : Option Addr) (l36 c36 : Nat), ∃ w4 : World, Ru (Instr.buildSlice 40 1 #[(0, .string s35)]) (drew w3) (.slice a36 l36 c36) w4 ∧ Ru (Instr.loadAt 145 (.pointer (some (Addr.add q29 0)))) w4 (.slice a31 l31 c31) w4 ∧ ∃ (a37 : Option Addr) (l37 c37 : Nat), ∃ w5 : World, Ru (Builtin.append_ #[40, 40] 40 #[.slice a27 l27 c27, .slice a36 l36 c36]) w4 (.slice a37 l37 c37) w5 ∧ Ru (Instr.loadAt 145 (.pointer (some (Addr.add q29 0)))) w5 (.slice a31 l31 c31) w5 ∧ ∃ q38 : Addr, Al (Instr.indexAt 145 (.slice a31 l31 c31) (.int .i64 n1)) (.pointer (some q38)) ∧ ∃ w6 : World, RuU (Instr.storeAt 40 (.pointer (some (Addr.add q38 0))) (.slice a37 l37 c37)) w5 w6 ∧ K (.int .i64 0) w6)))
set_option maxRecDepth 100000 in
theorem C_leveeref02_Disk_Write (p0 : Option Addr) (n1 : Int) (a2 : Option Addr) (l2 c2 : Nat) (w0 : World) (K : Value → World → Prop) (h : D_leveeref02_Disk_Write p0 n1 a2 l2 c2 w0 K) : Cal Tryz.prog F_leveeref02_Disk_Write #[.pointer p0, .int .i64 n1, .slice a2 l2 c2] w0 K :=
 denF_sound (A := { S := [], ty := [], raw := [] }) mixed Tryz.func64 (by kernel_rfl) (by kernel_rfl) ((show denF Tryz.prog _ Tryz.f64 _ w0 K = D_leveeref02_Disk_Write p0 n1 a2 l2 c2 w0 K by kernel_rfl).mpr h)

/- levee.vol.Mount: slots {62: '', 78: '', 91: '', 95: ''}; loop over [95]; loop over [62, 78] -/
/- levee.leveeref13.Mount: slots {12: 'k', 15: 'slot', 75: '', 101: '', 117: ''}; loop over [15, 101, 117]; loop over [12, 75]; loop over [15, 101, 117]; loop over [12, 75] -/
/- (levee.vol.Vol).Gen: slots {};  -/
/- (levee.vol.Vol).Geo: slots {};  -/
/- (levee.vol.Vol).Inode: slots {};  -/
/- (levee.vol.Vol).SetInode: slots {};  -/
/- (levee.vol.Vol).Head: slots {};  -/
/- (levee.vol.Vol).SetHead: slots {39: ''};  -/
/- (levee.vol.Vol).Data: slots {};  -/
/- (levee.vol.Vol).SetData: slots {};  -/
/- (levee.vol.Vol).NewId: slots {};  -/
/- (levee.vol.Vol).Store: slots {};  -/
/- (levee.vol.Vol).Work: slots {};  -/
/- (levee.vol.Vol).Prepare: slots {6: 'why'};  -/
/- (levee.vol.Vol).Switch: slots {8: 'why'};  -/
/- levee.leveeref02.none: slots {};  -/
set_option maxRecDepth 100000 in
def D_leveeref02_none (w0 : World) (K : Value → World → Prop) : Prop :=
 ∃ (a1 : Option Addr) (l1 c1 : Nat), ∃ w1 : World, Ru (Instr.makeSlice 36 (.int .i64 256) (.int .i64 256)) w0 (.slice a1 l1 c1) w1 ∧ ∃ s2 : ByteArray, Ru (convert 36 9 (.slice a1 l1 c1)) w1 (.string s2) w1 ∧ K (.string s2) w1
set_option maxRecDepth 100000 in
theorem C_leveeref02_none (w0 : World) (K : Value → World → Prop) (h : D_leveeref02_none  w0 K) : Cal Tryz.prog F_leveeref02_none #[] w0 K :=
 denF_sound (A := { S := [], ty := [], raw := [] }) mixed Tryz.func80 (by kernel_rfl) (by kernel_rfl) ((show denF Tryz.prog _ Tryz.f80 _ w0 K = D_leveeref02_none  w0 K by kernel_rfl).mpr h)

/- levee.cache.New: slots {9: ''};  -/
set_option maxRecDepth 100000 in
def D_cache_New (p0 : Option Addr) (n1 : Int) (w0 : World) (K : Value → World → Prop) : Prop :=
 (bif Option.isNone p0 then
 K (.tuple #[.pointer none, .int .i64 2]) w0
 else
 Share (fun k => (bif decide (n1 < 1) then k [.bool true] w0 else k [.bool (decide (n1 > 4096))] w0)) fun x w1 =>
 ∃ b9 : Bool, nth x 0 = .bool b9 ∧ (bif b9 then
 K (.tuple #[.pointer none, .int .i64 1]) w1
 else
 ∃ m18 : Option Nat, ∃ w2 : World, Ru (Instr.makeMap 227 none) w1 (.map m18) w2 ∧ ∃ g19 : Array Value, Al (Instr.build 229 #[(0, .pointer p0), (1, .int .i64 n1), (2, .map m18)]) (.agg g19) ∧ ∃ q20 : Addr, ∃ w3 : World, Ru (Instr.box 229 (.agg g19)) w2 (.pointer (some q20)) w3 ∧ K (.tuple #[.pointer (some q20), .int .i64 0]) w3))
set_option maxRecDepth 100000 in
theorem C_cache_New (p0 : Option Addr) (n1 : Int) (w0 : World) (K : Value → World → Prop) (h : D_cache_New p0 n1 w0 K) : Cal Tryz.prog F_cache_New #[.pointer p0, .int .i64 n1] w0 K :=
 denF_sound (A := { S := [9], ty := [(9, 4)], raw := [] }) mixed Tryz.func81 (by kernel_rfl) (by kernel_rfl) ((show denF Tryz.prog _ Tryz.f81 _ w0 K = D_cache_New p0 n1 w0 K by kernel_rfl).mpr h)

/- (levee.disk.Disk).Len: slots {};  -/
set_option maxRecDepth 100000 in
def D_disk_Disk_Len (p0 : Option Addr) (w0 : World) (K : Value → World → Prop) : Prop :=
 (bif Option.isNone p0 then
 K (.int .i64 0) w0
 else
 ∃ q6 : Addr, (.pointer p0 : Value) = .pointer (some q6) ∧ ∃ (a8 : Option Addr) (l8 c8 : Nat), Ru (Instr.loadAt 141 (.pointer (some (Addr.add q6 0)))) w0 (.slice a8 l8 c8) w0 ∧ K (.int .i64 ((l8 : Int))) w0)
set_option maxRecDepth 100000 in
theorem C_disk_Disk_Len (p0 : Option Addr) (w0 : World) (K : Value → World → Prop) (h : D_disk_Disk_Len p0 w0 K) : Cal Tryz.prog F_disk_Disk_Len #[.pointer p0] w0 K :=
 denF_sound (A := { S := [], ty := [], raw := [] }) mixed Tryz.func82 (by kernel_rfl) (by kernel_rfl) ((show denF Tryz.prog _ Tryz.f82 _ w0 K = D_disk_Disk_Len p0 w0 K by kernel_rfl).mpr h)

/- (levee.leveeref02.Disk).Read: slots {};  -/
set_option maxRecDepth 100000 in
def D_leveeref02_Disk_Read (p0 : Option Addr) (n1 : Int) (w0 : World) (K : Value → World → Prop) : Prop :=
 Cal Tryz.prog F_leveeref02_Disk_there #[.pointer p0, .int .i64 n1] w0 fun r9 w1 => ∃ b9 : Bool, r9 = .bool b9 ∧ (bif !b9 then
 K (.tuple #[.slice none 0 0, .int .i64 3]) w1
 else
 ∃ q12 : Addr, (.pointer p0 : Value) = .pointer (some q12) ∧ ∃ (a14 : Option Addr) (l14 c14 : Nat), Ru (Instr.loadAt 145 (.pointer (some (Addr.add q12 0)))) w1 (.slice a14 l14 c14) w1 ∧ ∃ q16 : Addr, Al (Instr.indexAt 145 (.slice a14 l14 c14) (.int .i64 n1)) (.pointer (some q16)) ∧ ∃ (a18 : Option Addr) (l18 c18 : Nat), Ru (Instr.loadAt 40 (.pointer (some (Addr.add q16 0)))) w1 (.slice a18 l18 c18) w1 ∧ ∃ q23 : Addr, Al (Instr.indexAt 40 (.slice a18 l18 c18) (.int .i64 (IntKind.i64.wrap ((l18 : Int) - 1)))) (.pointer (some q23)) ∧ ∃ s24 : ByteArray, Ru (Instr.loadAt 9 (.pointer (some q23))) w1 (.string s24) w1 ∧ ∃ (a25 : Option Addr) (l25 c25 : Nat), ∃ w2 : World, Ru (convert 9 36 (.string s24)) w1 (.slice a25 l25 c25) w2 ∧ K (.tuple #[.slice a25 l25 c25, .int .i64 0]) w2)
set_option maxRecDepth 100000 in
theorem C_leveeref02_Disk_Read (p0 : Option Addr) (n1 : Int) (w0 : World) (K : Value → World → Prop) (h : D_leveeref02_Disk_Read p0 n1 w0 K) : Cal Tryz.prog F_leveeref02_Disk_Read #[.pointer p0, .int .i64 n1] w0 K :=
 denF_sound (A := { S := [], ty := [], raw := [] }) mixed Tryz.func83 (by kernel_rfl) (by kernel_rfl) ((show denF Tryz.prog _ Tryz.f83 _ w0 K = D_leveeref02_Disk_Read p0 n1 w0 K by kernel_rfl).mpr h)

/- levee.leveeref01.Lent: slots {};  -/
/- (levee.patch.Store).Patch: slots {14: 'o', 23: '', 34: '', 125: ''}; loop over [125] -/
set_option maxRecDepth 100000 in
def D_patch_Store_Patch (p0 : Option Addr) (n1 : Int) (n2 : Int) (a3 : Option Addr) (l3 c3 : Nat) (a4 : Option Addr) (l4 c4 : Nat) (w0 : World) (K : Value → World → Prop) : Prop :=
 ∃ q5 : Addr, ∃ w1 : World, Ru (Instr.box 30 (.pointer p0)) w0 (.pointer (some q5)) w1 ∧ ∃ p21 : Option Addr, Ru (Instr.loadAt 30 (.pointer (some q5))) w1 (.pointer p21) w1 ∧ (bif Option.isNone p21 then
 K (.tuple #[.int .i64 0, .int .i64 2]) w1
 else
 Share (fun k => (bif decide (n1 < 0) then k [.bool true] w1 else ∃ p28 : Option Addr, Ru (Instr.loadAt 30 (.pointer (some q5))) w1 (.pointer p28) w1 ∧ ∃ q29 : Addr, (.pointer p28 : Value) = .pointer (some q29) ∧ ∃ n31 : Int, Ru (Instr.loadAt 3 (.pointer (some (Addr.add q29 1)))) w1 (.int .i64 n31) w1 ∧ k [.bool (decide (n1 ≥ n31))] w1)) fun x w2 =>
 ∃ b23 : Bool, nth x 0 = .bool b23 ∧ (bif b23 then
 K (.tuple #[.int .i64 0, .int .i64 3]) w2
 else
 Share (fun k_2 => (bif (l3 : Int) == 0 then k_2 [.bool true] w2 else (bif decide (n2 < 0) then k_2 [.bool true] w2 else (bif decide (n2 > 256) then k_2 [.bool true] w2 else k_2 [.bool (decide ((l3 : Int) > (IntKind.i64.wrap (256 - n2))))] w2)))) fun x_2 w3 =>
 ∃ b34 : Bool, nth x_2 0 = .bool b34 ∧ (bif b34 then
 K (.tuple #[.int .i64 0, .int .i64 4]) w3
 else
 Cal Tryz.prog F_slices_ContainsFunc_int64 #[.slice a4 l4 c4, .func (.func F_patch_Store_Patch_1) #[] #[.pointer (some q5)]] w3 fun r56 w4 => ∃ b56 : Bool, r56 = .bool b56 ∧ (bif b56 then
 K (.tuple #[.int .i64 0, .int .i64 1]) w4
 else
 ∃ p58 : Option Addr, Ru (Instr.loadAt 30 (.pointer (some q5))) w4 (.pointer p58) w4 ∧ ∃ q59 : Addr, (.pointer p58 : Value) = .pointer (some q59) ∧ ∃ p61 : Option Addr, Ru (Instr.loadAt 151 (.pointer (some (Addr.add q59 0)))) w4 (.pointer p61) w4 ∧ Cal Tryz.prog F_cache_Cache_Read #[.pointer p61, .int .i64 n1] w4 fun r63 w5 => ∃ (a63a : Option Addr) (l63a c63a : Nat), ∃ n63b : Int, r63 = .tuple #[.slice a63a l63a c63a, .int .i64 n63b] ∧ (bif n63b != 0 then
 K (.tuple #[.int .i64 0, .int .i64 n63b]) w5
 else
 ∃ p69 : Option Addr, Ru (Instr.loadAt 30 (.pointer (some q5))) w5 (.pointer p69) w5 ∧ ∃ q70 : Addr, (.pointer p69 : Value) = .pointer (some q70) ∧ ∃ m72 : Option Nat, Ru (Instr.loadAt 155 (.pointer (some (Addr.add q70 4)))) w5 (.map m72) w5 ∧ ∃ p74 : Option Addr, Ru (Instr.lookup 155 (.map m72) (.int .i64 n1) false) w5 (.pointer p74) w5 ∧ Share (fun k_3 => (bif Option.isNone p74 then
 ∃ g78 : Array Value, Al (Instr.build 180 #[(0, .slice a63a l63a c63a)]) (.agg g78) ∧ ∃ q79 : Addr, ∃ w6 : World, Ru (Instr.box 180 (.agg g78)) w5 (.pointer (some q79)) w6 ∧ ∃ p80 : Option Addr, Ru (Instr.loadAt 30 (.pointer (some q5))) w6 (.pointer p80) w6 ∧ ∃ q81 : Addr, (.pointer p80 : Value) = .pointer (some q81) ∧ ∃ m83 : Option Nat, Ru (Instr.loadAt 155 (.pointer (some (Addr.add q81 4)))) w6 (.map m83) w6 ∧ ∃ w7 : World, RuU (Instr.mapUpdate 155 (.map m83) (.int .i64 n1) (.pointer (some q79))) w6 w7 ∧ ∃ p86 : Option Addr, Ru (Instr.loadAt 30 (.pointer (some q5))) w7 (.pointer p86) w7 ∧ ∃ q87 : Addr, (.pointer p86 : Value) = .pointer (some q87) ∧ ∃ p89 : Option Addr, Ru (Instr.loadAt 151 (.pointer (some (Addr.add q87 0)))) w7 (.pointer p89) w7 ∧ Cal Tryz.prog F_cache_Cache_Pin #[.pointer p89, .int .i64 n1] w7 fun r91 w8 => ∃ n91 : Int, r91 = .int .i64 n91 ∧ k_3 [.pointer (some q79)] w8
 else
 k_3 [.pointer p74] w5)) fun x_3 w9 =>
 Cal Tryz.prog F_num_Lay #[.slice a63a l63a c63a, .int .i64 n2, .slice a3 l3 c3] w9 fun r96 w10 => ∃ (a96a : Option Addr) (l96a c96a : Nat), ∃ n96b : Int, r96 = .tuple #[.slice a96a l96a c96a, .int .i64 n96b] ∧ ∃ p99 : Option Addr, Ru (Instr.loadAt 30 (.pointer (some q5))) w10 (.pointer p99) w10 ∧ ∃ q100 : Addr, (.pointer p99 : Value) = .pointer (some q100) ∧ ∃ p102 : Option Addr, Ru (Instr.loadAt 151 (.pointer (some (Addr.add q100 0)))) w10 (.pointer p102) w10 ∧ Cal Tryz.prog F_cache_Cache_Lay #[.pointer p102, .int .i64 n1, .slice a96a l96a c96a] w10 fun r105 w11 => ∃ n105 : Int, r105 = .int .i64 n105 ∧ ∃ p106 : Option Addr, Ru (Instr.loadAt 30 (.pointer (some q5))) w11 (.pointer p106) w11 ∧ ∃ q107 : Addr, (.pointer p106 : Value) = .pointer (some q107) ∧ ∃ n109 : Int, Ru (Instr.loadAt 2 (.pointer (some (Addr.add q107 2)))) w11 (.int .i64 n109) w11 ∧ ∃ q111 : Addr, (.pointer p106 : Value) = .pointer (some q111) ∧ ∃ w12 : World, RuU (Instr.storeAt 2 (.pointer (some (Addr.add q111 2))) (.int .i64 (IntKind.i64.wrap (n109 + 1)))) w11 w12 ∧ ∃ p113 : Option Addr, Ru (Instr.loadAt 30 (.pointer (some q5))) (drew w12) (.pointer p113) (drew w12) ∧ ∃ q114 : Addr, (.pointer p113 : Value) = .pointer (some q114) ∧ ∃ n116 : Int, Ru (Instr.loadAt 2 (.pointer (some (Addr.add q114 2)))) (drew w12) (.int .i64 n116) (drew w12) ∧ Cal Tryz.prog F_slices_Clone_byte #[.slice a3 l3 c3] (drew w12) fun r120 w13 => ∃ (a120 : Option Addr) (l120 c120 : Nat), r120 = .slice a120 l120 c120 ∧ Ru (Instr.loadAt 30 (.pointer (some q5))) w13 (.pointer p113) w13 ∧ Ru (Instr.loadAt 2 (.pointer (some (Addr.add q114 2)))) w13 (.int .i64 n116) w13 ∧ ∃ g121 : Array Value, Al (Instr.build 183 #[(0, .int .i64 n116), (1, .int .i64 n1), (2, .int .i64 n2), (3, .slice a120 l120 c120)]) (.agg g121) ∧ ∃ q122 : Addr, ∃ w14 : World, Ru (Instr.box 183 (.agg g121)) w13 (.pointer (some q122)) w14 ∧ LoopC (fun k_4 x_4 w15 =>
 ∃ n125 : Int, nth x_4 0 = .int .i64 n125 ∧ (bif decide (n125 < (l4 : Int)) then
 ∃ q127 : Addr, Al (Instr.indexAt 37 (.slice a4 l4 c4) (.int .i64 n125)) (.pointer (some q127)) ∧ ∃ n128 : Int, Ru (Instr.loadAt 2 (.pointer (some q127))) w15 (.int .i64 n128) w15 ∧ ∃ p129 : Option Addr, Ru (Instr.loadAt 30 (.pointer (some q5))) w15 (.pointer p129) w15 ∧ ∃ q130 : Addr, (.pointer p129 : Value) = .pointer (some q130) ∧ ∃ m132 : Option Nat, Ru (Instr.loadAt 154 (.pointer (some (Addr.add q130 3)))) w15 (.map m132) w15 ∧ ∃ p134 : Option Addr, Ru (Instr.lookup 154 (.map m132) (.int .i64 n128) false) w15 (.pointer p134) w15 ∧ Share (fun k_5 => (bif !(Option.isNone p134) then
 ∃ q138 : Addr, (.pointer (some q122) : Value) = .pointer (some q138) ∧ ∃ (a140 : Option Addr) (l140 c140 : Nat), Ru (Instr.loadAt 37 (.pointer (some (Addr.add q138 4)))) w15 (.slice a140 l140 c140) w15 ∧ ∃ (a142 : Option Addr) (l142 c142 : Nat), ∃ w16 : World, Ru (Instr.buildSlice 37 1 #[(0, .int .i64 n128)]) w15 (.slice a142 l142 c142) w16 ∧ ∃ (a143 : Option Addr) (l143 c143 : Nat), ∃ w17 : World, Ru (Builtin.append_ #[37, 37] 37 #[.slice a140 l140 c140, .slice a142 l142 c142]) w16 (.slice a143 l143 c143) w17 ∧ ∃ q144 : Addr, (.pointer (some q122) : Value) = .pointer (some q144) ∧ ∃ w18 : World, RuU (Instr.storeAt 37 (.pointer (some (Addr.add q144 4))) (.slice a143 l143 c143)) w17 w18 ∧ k_5 [] w18
 else
 k_5 [] w15)) fun x_5 w19 =>
 k_4 [.int .i64 (IntKind.i64.wrap (n125 + 1))] w19
 else
 ∃ p147 : Option Addr, Ru (Instr.loadAt 30 (.pointer (some q5))) (drew w15) (.pointer p147) (drew w15) ∧ ∃ q148 : Addr, (.pointer p147 : Value) = .pointer (some q148) ∧ ∃ m150 : Option Nat, Ru (Instr.loadAt 154 (.pointer (some (Addr.add q148 3)))) (drew w15) (.map m150) (drew w15) ∧ ∃ q152 : Addr, (.pointer (some q122) : Value) = .pointer (some q152) ∧ ∃ n154 : Int, Ru (Instr.loadAt 2 (.pointer (some (Addr.add q152 0)))) (drew w15) (.int .i64 n154) (drew w15) ∧ ∃ w20 : World, RuU (Instr.mapUpdate 154 (.map m150) (.int .i64 n154) (.pointer (some q122))) (drew w15) w20 ∧ ∃ p14 : Option Addr, nth x_3 0 = .pointer p14 ∧ ∃ q158 : Addr, (.pointer p14 : Value) = .pointer (some q158) ∧ ∃ (a160 : Option Addr) (l160 c160 : Nat), Ru (Instr.loadAt 178 (.pointer (some (Addr.add q158 1)))) w20 (.slice a160 l160 c160) w20 ∧ ∃ (a162 : Option Addr) (l162 c162 : Nat), ∃ w21 : World, Ru (Instr.buildSlice 178 1 #[(0, .pointer (some q122))]) w20 (.slice a162 l162 c162) w21 ∧ ∃ (a163 : Option Addr) (l163 c163 : Nat), ∃ w22 : World, Ru (Builtin.append_ #[178, 178] 178 #[.slice a160 l160 c160, .slice a162 l162 c162]) w21 (.slice a163 l163 c163) w22 ∧ ∃ q164 : Addr, (.pointer p14 : Value) = .pointer (some q164) ∧ ∃ w23 : World, RuU (Instr.storeAt 178 (.pointer (some (Addr.add q164 1))) (.slice a163 l163 c163)) w22 w23 ∧ ∃ q167 : Addr, (.pointer (some q122) : Value) = .pointer (some q167) ∧ ∃ n169 : Int, Ru (Instr.loadAt 2 (.pointer (some (Addr.add q167 0)))) w23 (.int .i64 n169) w23 ∧ K (.tuple #[.int .i64 n169, .int .i64 0]) w23)) [.int .i64 0] w14)))))
set_option maxRecDepth 100000 in
theorem C_patch_Store_Patch (p0 : Option Addr) (n1 : Int) (n2 : Int) (a3 : Option Addr) (l3 c3 : Nat) (a4 : Option Addr) (l4 c4 : Nat) (w0 : World) (K : Value → World → Prop) (h : D_patch_Store_Patch p0 n1 n2 a3 l3 c3 a4 l4 c4 w0 K) : Cal Tryz.prog F_patch_Store_Patch #[.pointer p0, .int .i64 n1, .int .i64 n2, .slice a3 l3 c3, .slice a4 l4 c4] w0 K :=
 denF_sound (A := { S := [14, 23, 34, 125], ty := [(14, 175), (23, 4), (34, 4), (125, 3)], raw := [] }) mixed Tryz.func85 (by kernel_rfl) (by kernel_rfl) ((show denF Tryz.prog _ Tryz.f85 _ w0 K = D_patch_Store_Patch p0 n1 n2 a3 l3 c3 a4 l4 c4 w0 K by kernel_rfl).mpr h)

/- (levee.leveeref11.Store).Patch: slots {12: 'i', 35: '', 57: ''}; loop over [12, 57] -/
set_option maxRecDepth 100000 in
def D_leveeref11_Store_Patch (p0 : Option Addr) (n1 : Int) (n2 : Int) (a3 : Option Addr) (l3 c3 : Nat) (a4 : Option Addr) (l4 c4 : Nat) (w0 : World) (K : Value → World → Prop) : Prop :=
 Cal Tryz.prog F_leveeref11_Store_there #[.pointer p0, .int .i64 n1] w0 fun r16 w1 => ∃ b16 : Bool, r16 = .bool b16 ∧ (bif !b16 then
 K (.tuple #[.int .i64 0, .int .i64 3]) w1
 else
 Share (fun k => (bif (l3 : Int) == 0 then k [.bool true] w1 else (bif decide (n2 < 0) then k [.bool true] w1 else (bif decide (n2 > 256) then k [.bool true] w1 else k [.bool (decide ((l3 : Int) > (IntKind.i64.wrap (256 - n2))))] w1)))) fun x w2 =>
 ∃ b35 : Bool, nth x 0 = .bool b35 ∧ (bif b35 then
 K (.tuple #[.int .i64 0, .int .i64 4]) w2
 else
 LoopC (fun k_2 x_2 w3 =>
 ∃ n12 : Int, nth x_2 0 = .int .i64 n12 ∧ (bif decide (n12 < (l4 : Int)) then
 Share (fun k_3 => ∃ q44 : Addr, Al (Instr.indexAt 37 (.slice a4 l4 c4) (.int .i64 n12)) (.pointer (some q44)) ∧ ∃ n45 : Int, Ru (Instr.loadAt 2 (.pointer (some q44))) (drew w3) (.int .i64 n45) (drew w3) ∧ (bif decide (n45 < 1) then k_3 [.bool true] (drew w3) else ∃ q50 : Addr, Al (Instr.indexAt 37 (.slice a4 l4 c4) (.int .i64 n12)) (.pointer (some q50)) ∧ ∃ n51 : Int, Ru (Instr.loadAt 2 (.pointer (some q50))) (drew w3) (.int .i64 n51) (drew w3) ∧ ∃ q53 : Addr, (.pointer p0 : Value) = .pointer (some q53) ∧ ∃ n55 : Int, Ru (Instr.loadAt 2 (.pointer (some (Addr.add q53 3)))) (drew w3) (.int .i64 n55) (drew w3) ∧ k_3 [.bool (decide (n51 > n55))] (drew w3))) fun x_3 w4 =>
 ∃ b57 : Bool, nth x_3 0 = .bool b57 ∧ (bif b57 then
 K (.tuple #[.int .i64 0, .int .i64 1]) w4
 else
 k_2 [.int .i64 (IntKind.i64.wrap (n12 + 1)), .bool b57] w4)
 else
 ∃ q59 : Addr, (.pointer p0 : Value) = .pointer (some q59) ∧ ∃ n61 : Int, Ru (Instr.loadAt 2 (.pointer (some (Addr.add q59 3)))) w3 (.int .i64 n61) w3 ∧ ∃ q63 : Addr, (.pointer p0 : Value) = .pointer (some q63) ∧ ∃ w5 : World, RuU (Instr.storeAt 2 (.pointer (some (Addr.add q63 3))) (.int .i64 (IntKind.i64.wrap (n61 + 1)))) w3 w5 ∧ ∃ (a67 : Option Addr) (l67 c67 : Nat), ∃ w6 : World, Ru (Builtin.append_ #[37, 37] 37 #[.slice none 0 0, .slice a4 l4 c4]) w5 (.slice a67 l67 c67) w6 ∧ ∃ q70 : Addr, (.pointer p0 : Value) = .pointer (some q70) ∧ ∃ (a72 : Option Addr) (l72 c72 : Nat), Ru (Instr.loadAt 41 (.pointer (some (Addr.add q70 2)))) (drew w6) (.slice a72 l72 c72) (drew w6) ∧ ∃ q74 : Addr, (.pointer p0 : Value) = .pointer (some q74) ∧ ∃ (a76 : Option Addr) (l76 c76 : Nat), Ru (Instr.loadAt 41 (.pointer (some (Addr.add q74 2)))) (drew w6) (.slice a76 l76 c76) (drew w6) ∧ ∃ q79 : Addr, (.pointer p0 : Value) = .pointer (some q79) ∧ ∃ (a81 : Option Addr) (l81 c81 : Nat), Ru (Instr.loadAt 41 (.pointer (some (Addr.add q79 2)))) (drew w6) (.slice a81 l81 c81) (drew w6) ∧ ∃ (a83 : Option Addr) (l83 c83 : Nat), Al (Instr.sliceAt 41 (.slice a72 l72 c72) none (some (.int .i64 ((l76 : Int)))) (some (.int .i64 ((l81 : Int))))) (.slice a83 l83 c83) ∧ ∃ q85 : Addr, (.pointer p0 : Value) = .pointer (some q85) ∧ ∃ n87 : Int, Ru (Instr.loadAt 2 (.pointer (some (Addr.add q85 3)))) (drew w6) (.int .i64 n87) (drew w6) ∧ ∃ s91 : ByteArray, Ru (convert 36 9 (.slice a3 l3 c3)) (drew w6) (.string s91) (drew w6) ∧ ∃ g93 : Array Value, Al (Instr.build 186 #[(0, .int .i64 n87), (1, .int .i64 n1), (2, .int .i64 n2), (3, .string s91), (4, .slice a67 l67 c67)]) (.agg g93) ∧ ∃ (a94 : Option Addr) (l94 c94 : Nat), ∃ w7 : World, Ru (Instr.buildSlice 41 1 #[(0, .agg g93)]) (drew w6) (.slice a94 l94 c94) w7 ∧ Ru (Instr.loadAt 41 (.pointer (some (Addr.add q70 2)))) w7 (.slice a72 l72 c72) w7 ∧ Ru (Instr.loadAt 41 (.pointer (some (Addr.add q74 2)))) w7 (.slice a76 l76 c76) w7 ∧ Ru (Instr.loadAt 41 (.pointer (some (Addr.add q79 2)))) w7 (.slice a81 l81 c81) w7 ∧ ∃ (a95 : Option Addr) (l95 c95 : Nat), ∃ w8 : World, Ru (Builtin.append_ #[41, 41] 41 #[.slice a83 l83 c83, .slice a94 l94 c94]) w7 (.slice a95 l95 c95) w8 ∧ ∃ q96 : Addr, (.pointer p0 : Value) = .pointer (some q96) ∧ ∃ w9 : World, RuU (Instr.storeAt 41 (.pointer (some (Addr.add q96 2))) (.slice a95 l95 c95)) w8 w9 ∧ ∃ q99 : Addr, (.pointer p0 : Value) = .pointer (some q99) ∧ ∃ n101 : Int, Ru (Instr.loadAt 2 (.pointer (some (Addr.add q99 3)))) w9 (.int .i64 n101) w9 ∧ K (.tuple #[.int .i64 n101, .int .i64 0]) w9)) [.int .i64 0, undef] w2))
set_option maxRecDepth 100000 in
theorem C_leveeref11_Store_Patch (p0 : Option Addr) (n1 : Int) (n2 : Int) (a3 : Option Addr) (l3 c3 : Nat) (a4 : Option Addr) (l4 c4 : Nat) (w0 : World) (K : Value → World → Prop) (h : D_leveeref11_Store_Patch p0 n1 n2 a3 l3 c3 a4 l4 c4 w0 K) : Cal Tryz.prog F_leveeref11_Store_Patch #[.pointer p0, .int .i64 n1, .int .i64 n2, .slice a3 l3 c3, .slice a4 l4 c4] w0 K :=
 denF_sound (A := { S := [12, 35, 57], ty := [(12, 3), (35, 4), (57, 4)], raw := [] }) mixed Tryz.func86 (by kernel_rfl) (by kernel_rfl) ((show denF Tryz.prog _ Tryz.f86 _ w0 K = D_leveeref11_Store_Patch p0 n1 n2 a3 l3 c3 a4 l4 c4 w0 K by kernel_rfl).mpr h)

/- levee.leveeref01.Kept: slots {17: ''};  -/
/- levee.leveeref01.Spoil: slots {2: 'i'}; loop over [2] -/
/- (levee.leveeref11.Store).Read: slots {6: 'x', 7: 'i'}; loop over [6, 7] -/
/- (levee.patch.Store).Image: slots {26: ''};  -/
set_option maxRecDepth 100000 in
def D_patch_Store_Image (p0 : Option Addr) (n1 : Int) (w0 : World) (K : Value → World → Prop) : Prop :=
 Cal Tryz.prog F_patch_Store_Read #[.pointer p0, .int .i64 n1] w0 fun r13 w1 => ∃ (a13a : Option Addr) (l13a c13a : Nat), ∃ n13b : Int, r13 = .tuple #[.slice a13a l13a c13a, .int .i64 n13b] ∧ Share (fun k => (bif n13b != 0 then k [.bool true] w1 else ∃ q20 : Addr, (.pointer p0 : Value) = .pointer (some q20) ∧ ∃ m22 : Option Nat, Ru (Instr.loadAt 155 (.pointer (some (Addr.add q20 4)))) w1 (.map m22) w1 ∧ ∃ p24 : Option Addr, Ru (Instr.lookup 155 (.map m22) (.int .i64 n1) false) w1 (.pointer p24) w1 ∧ k [.bool (Option.isNone p24)] w1)) fun x w2 =>
 ∃ b26 : Bool, nth x 0 = .bool b26 ∧ (bif b26 then
 K (.tuple #[.slice a13a l13a c13a, .int .i64 n13b]) w2
 else
 ∃ q30 : Addr, (.pointer p0 : Value) = .pointer (some q30) ∧ ∃ m32 : Option Nat, Ru (Instr.loadAt 155 (.pointer (some (Addr.add q30 4)))) w2 (.map m32) w2 ∧ ∃ p34 : Option Addr, Ru (Instr.lookup 155 (.map m32) (.int .i64 n1) false) w2 (.pointer p34) w2 ∧ Cal Tryz.prog F_patch_Store_may #[.pointer p0, .pointer p34] w2 fun r37 w3 => ∃ m37 : Option Nat, r37 = .map m37 ∧ ∃ q9 : Addr, ∃ w4 : World, Ru (Instr.alloc 176 true (.tuple #[])) w3 (.pointer (some q9)) w4 ∧ ∃ w5 : World, RuU (Instr.storeAt 176 (.pointer (some q9)) (.map m37)) w4 w5 ∧ Cal Tryz.prog F_patch_on_with #[.pointer p34, .func (.func F_patch_Store_Image_1) #[] #[.pointer (some q9)]] w5 fun r40 w6 => ∃ (a40 : Option Addr) (l40 c40 : Nat), r40 = .slice a40 l40 c40 ∧ K (.tuple #[.slice a40 l40 c40, .int .i64 0]) w6)
set_option maxRecDepth 100000 in
theorem C_patch_Store_Image (p0 : Option Addr) (n1 : Int) (w0 : World) (K : Value → World → Prop) (h : D_patch_Store_Image p0 n1 w0 K) : Cal Tryz.prog F_patch_Store_Image #[.pointer p0, .int .i64 n1] w0 K :=
 denF_sound (A := { S := [26], ty := [(26, 4)], raw := [] }) mixed Tryz.func90 (by kernel_rfl) (by kernel_rfl) ((show denF Tryz.prog _ Tryz.f90 _ w0 K = D_patch_Store_Image p0 n1 w0 K by kernel_rfl).mpr h)

/- (levee.leveeref11.Store).Image: slots {6: 'x', 8: 'i'}; loop over [6, 8] -/
set_option maxRecDepth 100000 in
def D_leveeref11_Store_Image (p0 : Option Addr) (n1 : Int) (w0 : World) (K : Value → World → Prop) : Prop :=
 Cal Tryz.prog F_leveeref11_Store_there #[.pointer p0, .int .i64 n1] w0 fun r11 w1 => ∃ b11 : Bool, r11 = .bool b11 ∧ (bif !b11 then
 K (.tuple #[.slice none 0 0, .int .i64 3]) w1
 else
 ∃ q14 : Addr, (.pointer p0 : Value) = .pointer (some q14) ∧ ∃ (a16 : Option Addr) (l16 c16 : Nat), Ru (Instr.loadAt 40 (.pointer (some (Addr.add q14 1)))) w1 (.slice a16 l16 c16) w1 ∧ ∃ q18 : Addr, Al (Instr.indexAt 40 (.slice a16 l16 c16) (.int .i64 n1)) (.pointer (some q18)) ∧ ∃ s19 : ByteArray, Ru (Instr.loadAt 9 (.pointer (some q18))) w1 (.string s19) w1 ∧ ∃ (a20 : Option Addr) (l20 c20 : Nat), ∃ w2 : World, Ru (convert 9 36 (.string s19)) w1 (.slice a20 l20 c20) w2 ∧ Cal Tryz.prog F_leveeref11_Store_may #[.pointer p0, .int .i64 n1] w2 fun r23 w3 => ∃ (a23 : Option Addr) (l23 c23 : Nat), r23 = .slice a23 l23 c23 ∧ LoopC (fun k x w4 =>
 ∃ n8 : Int, nth x 1 = .int .i64 n8 ∧ ∃ q26 : Addr, (.pointer p0 : Value) = .pointer (some q26) ∧ ∃ (a28 : Option Addr) (l28 c28 : Nat), Ru (Instr.loadAt 41 (.pointer (some (Addr.add q26 2)))) w4 (.slice a28 l28 c28) w4 ∧ (bif decide (n8 < (l28 : Int)) then
 ∃ q35 : Addr, Al (Instr.indexAt 93 (.slice a23 l23 c23) (.int .i64 n8)) (.pointer (some q35)) ∧ ∃ b36 : Bool, Ru (Instr.loadAt 4 (.pointer (some q35))) w4 (.bool b36) w4 ∧ Share (fun k_2 => (bif b36 then
 ∃ (a6 : Option Addr) (l6 c6 : Nat), nth x 0 = .slice a6 l6 c6 ∧ ∃ q39 : Addr, (.pointer p0 : Value) = .pointer (some q39) ∧ ∃ (a41 : Option Addr) (l41 c41 : Nat), Ru (Instr.loadAt 41 (.pointer (some (Addr.add q39 2)))) w4 (.slice a41 l41 c41) w4 ∧ ∃ q43 : Addr, Al (Instr.indexAt 41 (.slice a41 l41 c41) (.int .i64 n8)) (.pointer (some q43)) ∧ ∃ g44 : Array Value, Ru (Instr.loadAt 186 (.pointer (some q43))) w4 (.agg g44) w4 ∧ Cal Tryz.prog F_leveeref11_upon #[.slice a6 l6 c6, .agg g44] w4 fun r45 w5 => ∃ (a45 : Option Addr) (l45 c45 : Nat), r45 = .slice a45 l45 c45 ∧ k_2 [.slice a45 l45 c45] w5
 else
 k_2 [nth x 0] w4)) fun x_2 w6 =>
 k [nth x_2 0, .int .i64 (IntKind.i64.wrap (n8 + 1))] w6
 else
 ∃ (a6_2 : Option Addr) (l6_2 c6_2 : Nat), nth x 0 = .slice a6_2 l6_2 c6_2 ∧ K (.tuple #[.slice a6_2 l6_2 c6_2, .int .i64 0]) w4)) [.slice a20 l20 c20, .int .i64 0] w3)
set_option maxRecDepth 100000 in
theorem C_leveeref11_Store_Image (p0 : Option Addr) (n1 : Int) (w0 : World) (K : Value → World → Prop) (h : D_leveeref11_Store_Image p0 n1 w0 K) : Cal Tryz.prog F_leveeref11_Store_Image #[.pointer p0, .int .i64 n1] w0 K :=
 denF_sound (A := { S := [6, 8], ty := [(6, 36), (8, 3)], raw := [] }) mixed Tryz.func91 (by kernel_rfl) (by kernel_rfl) ((show denF Tryz.prog _ Tryz.f91 _ w0 K = D_leveeref11_Store_Image p0 n1 w0 K by kernel_rfl).mpr h)

/- (levee.leveeref11.Store).Block: slots {};  -/
/- (levee.patch.Store).Ready: slots {5: 'n', 19: '', 38: '', 54: ''}; loop over [5, 38, 54] -/
set_option maxRecDepth 100000 in
def D_patch_Store_Ready (p0 : Option Addr) (n1 : Int) (w0 : World) (K : Value → World → Prop) : Prop :=
 Share (fun k => (bif Option.isNone p0 then k [.bool true] w0 else ∃ q13 : Addr, (.pointer p0 : Value) = .pointer (some q13) ∧ ∃ m15 : Option Nat, Ru (Instr.loadAt 155 (.pointer (some (Addr.add q13 4)))) w0 (.map m15) w0 ∧ ∃ p17 : Option Addr, Ru (Instr.lookup 155 (.map m15) (.int .i64 n1) false) w0 (.pointer p17) w0 ∧ k [.bool (Option.isNone p17)] w0)) fun x w1 =>
 ∃ b19 : Bool, nth x 0 = .bool b19 ∧ (bif b19 then
 K (.int .i64 0) w1
 else
 ∃ q22 : Addr, (.pointer p0 : Value) = .pointer (some q22) ∧ ∃ m24 : Option Nat, Ru (Instr.loadAt 155 (.pointer (some (Addr.add q22 4)))) w1 (.map m24) w1 ∧ ∃ p26 : Option Addr, Ru (Instr.lookup 155 (.map m24) (.int .i64 n1) false) w1 (.pointer p26) w1 ∧ Cal Tryz.prog F_patch_Store_may #[.pointer p0, .pointer p26] w1 fun r27 w2 => ∃ m27 : Option Nat, r27 = .map m27 ∧ ∃ q29 : Addr, (.pointer p0 : Value) = .pointer (some q29) ∧ ∃ m31 : Option Nat, Ru (Instr.loadAt 155 (.pointer (some (Addr.add q29 4)))) w2 (.map m31) w2 ∧ ∃ p33 : Option Addr, Ru (Instr.lookup 155 (.map m31) (.int .i64 n1) false) w2 (.pointer p33) w2 ∧ ∃ q34 : Addr, (.pointer p33 : Value) = .pointer (some q34) ∧ ∃ (a36 : Option Addr) (l36 c36 : Nat), Ru (Instr.loadAt 178 (.pointer (some (Addr.add q34 1)))) w2 (.slice a36 l36 c36) w2 ∧ LoopC (fun k_2 x_2 w3 =>
 ∃ n38 : Int, nth x_2 1 = .int .i64 n38 ∧ (bif decide (n38 < (l36 : Int)) then
 ∃ q40 : Addr, Al (Instr.indexAt 178 (.slice a36 l36 c36) (.int .i64 n38)) (.pointer (some q40)) ∧ ∃ p41 : Option Addr, Ru (Instr.loadAt 181 (.pointer (some q40))) w3 (.pointer p41) w3 ∧ Share (fun k_3 => ∃ q44 : Addr, (.pointer p41 : Value) = .pointer (some q44) ∧ ∃ n46 : Int, Ru (Instr.loadAt 2 (.pointer (some (Addr.add q44 0)))) w3 (.int .i64 n46) w3 ∧ ∃ b47 : Bool, Ru (Instr.lookup 176 (.map m27) (.int .i64 n46) false) w3 (.bool b47) w3 ∧ (bif b47 then ∃ q50 : Addr, (.pointer p41 : Value) = .pointer (some q50) ∧ ∃ b52 : Bool, Ru (Instr.loadAt 4 (.pointer (some (Addr.add q50 5)))) w3 (.bool b52) w3 ∧ k_3 [.bool (!b52)] w3 else k_3 [.bool false] w3)) fun x_3 w4 =>
 ∃ b54 : Bool, nth x_3 0 = .bool b54 ∧ Share (fun k_4 => (bif b54 then
 ∃ n5 : Int, nth x_2 0 = .int .i64 n5 ∧ k_4 [.int .i64 (IntKind.i64.wrap (n5 + 1))] w4
 else
 k_4 [nth x_2 0] w4)) fun x_4 w5 =>
 k_2 [nth x_4 0, .int .i64 (IntKind.i64.wrap (n38 + 1)), .bool b54] w5
 else
 ∃ n5_2 : Int, nth x_2 0 = .int .i64 n5_2 ∧ K (.int .i64 n5_2) w3)) [.int .i64 0, .int .i64 0, undef] w2)
set_option maxRecDepth 100000 in
theorem C_patch_Store_Ready (p0 : Option Addr) (n1 : Int) (w0 : World) (K : Value → World → Prop) (h : D_patch_Store_Ready p0 n1 w0 K) : Cal Tryz.prog F_patch_Store_Ready #[.pointer p0, .int .i64 n1] w0 K :=
 denF_sound (A := { S := [5, 19, 38, 54], ty := [(5, 3), (19, 4), (38, 3), (54, 4)], raw := [] }) mixed Tryz.func93 (by kernel_rfl) (by kernel_rfl) ((show denF Tryz.prog _ Tryz.f93 _ w0 K = D_patch_Store_Ready p0 n1 w0 K by kernel_rfl).mpr h)

/- (levee.leveeref11.Store).Ready: slots {5: 'n', 7: 'i', 34: ''}; loop over [5, 7, 34] -/
/- (levee.leveeref11.Store).Safe: slots {4: ''};  -/
set_option maxRecDepth 100000 in
def D_leveeref11_Store_Safe (p0 : Option Addr) (n1 : Int) (w0 : World) (K : Value → World → Prop) : Prop :=
 Share (fun k => (bif decide (n1 ≥ 1) then ∃ q10 : Addr, (.pointer p0 : Value) = .pointer (some q10) ∧ ∃ n12 : Int, Ru (Instr.loadAt 2 (.pointer (some (Addr.add q10 3)))) w0 (.int .i64 n12) w0 ∧ (bif decide (n1 ≤ n12) then Cal Tryz.prog F_leveeref11_Store_find #[.pointer p0, .int .i64 n1] w0 fun r18 w1 => ∃ n18 : Int, r18 = .int .i64 n18 ∧ k [.bool (decide (n18 < 0))] w1 else k [.bool false] w0) else k [.bool false] w0)) fun x w2 =>
 ∃ b4 : Bool, nth x 0 = .bool b4 ∧ K (.bool b4) w2
set_option maxRecDepth 100000 in
theorem C_leveeref11_Store_Safe (p0 : Option Addr) (n1 : Int) (w0 : World) (K : Value → World → Prop) (h : D_leveeref11_Store_Safe p0 n1 w0 K) : Cal Tryz.prog F_leveeref11_Store_Safe #[.pointer p0, .int .i64 n1] w0 K :=
 denF_sound (A := { S := [4], ty := [(4, 4)], raw := [] }) mixed Tryz.func95 (by kernel_rfl) (by kernel_rfl) ((show denF Tryz.prog _ Tryz.f95 _ w0 K = D_leveeref11_Store_Safe p0 n1 w0 K by kernel_rfl).mpr h)

/- (levee.patch.Store).Dirty: slots {3: 'l'}; loop over [3] -/
/- (levee.leveeref11.Store).Dirty: slots {3: 'out', 4: 'b', 5: 'is', 6: 'i'}; loop over [5, 6]; loop over [3, 4, 5, 6] -/
/- levee.leveeref11.Same: slots {5: 'i'}; loop over [5] -/
/- (levee.leveeref11.Store).Waits: slots {7: 'i', 8: 'n', 10: 'n', 11: 'out', 12: 'i'}; loop over [10]; loop over [8]; loop over [11, 12]; loop over [7, 8, 10] -/
/- (levee.disk.Disk).last: slots {};  -/
set_option maxRecDepth 100000 in
def D_disk_Disk_last (p0 : Option Addr) (n1 : Int) (w0 : World) (K : Value → World → Prop) : Prop :=
 ∃ q4 : Addr, ∃ w1 : World, Ru (Instr.alloc 164 true (.tuple #[])) w0 (.pointer (some q4)) w1 ∧ ∃ q7 : Addr, (.pointer p0 : Value) = .pointer (some q7) ∧ ∃ m9 : Option Nat, Ru (Instr.loadAt 142 (.pointer (some (Addr.add q7 1)))) w1 (.map m9) w1 ∧ ∃ (a11 : Option Addr) (l11 c11 : Nat), Ru (Instr.lookup 142 (.map m9) (.int .i64 n1) false) w1 (.slice a11 l11 c11) w1 ∧ (bif decide ((l11 : Int) > 0) then
 ∃ q19 : Addr, Al (Instr.indexAt 141 (.slice a11 l11 c11) (.int .i64 (IntKind.i64.wrap ((l11 : Int) - 1)))) (.pointer (some q19)) ∧ ∃ g20 : Array Value, Ru (Instr.loadAt 164 (.pointer (some q19))) w1 (.agg g20) w1 ∧ ∃ w2 : World, RuU (Instr.storeAt 164 (.pointer (some q4)) (.agg g20)) w1 w2 ∧ ∃ gR4 : Array Value, Ru (Instr.loadAt 164 (.pointer (some q4))) w2 (.agg gR4) w2 ∧ K (.agg gR4) w2
 else
 ∃ q22 : Addr, (.pointer p0 : Value) = .pointer (some q22) ∧ ∃ (a24 : Option Addr) (l24 c24 : Nat), Ru (Instr.loadAt 141 (.pointer (some (Addr.add q22 0)))) w1 (.slice a24 l24 c24) w1 ∧ ∃ q26 : Addr, Al (Instr.indexAt 141 (.slice a24 l24 c24) (.int .i64 n1)) (.pointer (some q26)) ∧ ∃ g27 : Array Value, Ru (Instr.loadAt 164 (.pointer (some q26))) w1 (.agg g27) w1 ∧ ∃ w3 : World, RuU (Instr.storeAt 164 (.pointer (some q4)) (.agg g27)) w1 w3 ∧ ∃ gR4_2 : Array Value, Ru (Instr.loadAt 164 (.pointer (some q4))) w3 (.agg gR4_2) w3 ∧ K (.agg gR4_2) w3)
set_option maxRecDepth 100000 in
theorem C_disk_Disk_last (p0 : Option Addr) (n1 : Int) (w0 : World) (K : Value → World → Prop) (h : D_disk_Disk_last p0 n1 w0 K) : Cal Tryz.prog F_disk_Disk_last #[.pointer p0, .int .i64 n1] w0 K :=
 denF_sound (A := { S := [], ty := [], raw := [] }) mixed Tryz.func100 (by kernel_rfl) (by kernel_rfl) ((show denF Tryz.prog _ Tryz.f100 _ w0 K = D_disk_Disk_last p0 n1 w0 K by kernel_rfl).mpr h)

/- slices.Sort[[]int,int]: slots {};  -/
/- (levee.leveeref02.Disk).Writes: slots {};  -/
/- (levee.disk.Disk).may: slots {8: ''};  -/
set_option maxRecDepth 100000 in
def D_disk_Disk_may (p0 : Option Addr) (n1 : Int) (w0 : World) (K : Value → World → Prop) : Prop :=
 (bif Option.isNone p0 then
 K (.int .i64 2) w0
 else
 Share (fun k => (bif decide (n1 < 0) then k [.bool true] w0 else ∃ q14 : Addr, (.pointer p0 : Value) = .pointer (some q14) ∧ ∃ (a16 : Option Addr) (l16 c16 : Nat), Ru (Instr.loadAt 141 (.pointer (some (Addr.add q14 0)))) w0 (.slice a16 l16 c16) w0 ∧ k [.bool (decide (n1 ≥ (l16 : Int)))] w0)) fun x w1 =>
 ∃ b8 : Bool, nth x 0 = .bool b8 ∧ (bif b8 then
 K (.int .i64 3) w1
 else
 K (.int .i64 0) w1))
set_option maxRecDepth 100000 in
theorem C_disk_Disk_may (p0 : Option Addr) (n1 : Int) (w0 : World) (K : Value → World → Prop) (h : D_disk_Disk_may p0 n1 w0 K) : Cal Tryz.prog F_disk_Disk_may #[.pointer p0, .int .i64 n1] w0 K :=
 denF_sound (A := { S := [8], ty := [(8, 4)], raw := [] }) mixed Tryz.func103 (by kernel_rfl) (by kernel_rfl) ((show denF Tryz.prog _ Tryz.f103 _ w0 K = D_disk_Disk_may p0 n1 w0 K by kernel_rfl).mpr h)

/- (levee.leveeref02.Disk).there: slots {4: ''};  -/
set_option maxRecDepth 100000 in
def D_leveeref02_Disk_there (p0 : Option Addr) (n1 : Int) (w0 : World) (K : Value → World → Prop) : Prop :=
 Share (fun k => (bif decide (n1 ≥ 0) then ∃ q10 : Addr, (.pointer p0 : Value) = .pointer (some q10) ∧ ∃ (a12 : Option Addr) (l12 c12 : Nat), Ru (Instr.loadAt 145 (.pointer (some (Addr.add q10 0)))) w0 (.slice a12 l12 c12) w0 ∧ k [.bool (decide (n1 < (l12 : Int)))] w0 else k [.bool false] w0)) fun x w1 =>
 ∃ b4 : Bool, nth x 0 = .bool b4 ∧ K (.bool b4) w1
set_option maxRecDepth 100000 in
theorem C_leveeref02_Disk_there (p0 : Option Addr) (n1 : Int) (w0 : World) (K : Value → World → Prop) (h : D_leveeref02_Disk_there p0 n1 w0 K) : Cal Tryz.prog F_leveeref02_Disk_there #[.pointer p0, .int .i64 n1] w0 K :=
 denF_sound (A := { S := [4], ty := [(4, 4)], raw := [] }) mixed Tryz.func104 (by kernel_rfl) (by kernel_rfl) ((show denF Tryz.prog _ Tryz.f104 _ w0 K = D_leveeref02_Disk_there p0 n1 w0 K by kernel_rfl).mpr h)

/- (levee.cache.Cache).Write: slots {2: 'image'};  -/
set_option maxRecDepth 100000 in
def D_cache_Cache_Write (p0 : Option Addr) (n1 : Int) (a2 : Option Addr) (l2 c2 : Nat) (w0 : World) (K : Value → World → Prop) : Prop :=
 ∃ (a13 : Option Addr) (l13 c13 : Nat), ∃ w1 : World, Ru (Instr.buildSlice 49 2 #[(0, .int .i64 0), (1, .int .i64 256)]) w0 (.slice a13 l13 c13) w1 ∧ Cal Tryz.prog F_cache_Cache_may #[.pointer p0, .int .i64 n1, .slice a2 l2 c2, .slice a13 l13 c13] w1 fun r14 w2 => ∃ n14 : Int, r14 = .int .i64 n14 ∧ (bif n14 != 0 then
 K (.int .i64 n14) w2
 else
 Cal Tryz.prog F_cache_Cache_ask #[.pointer p0, .int .i64 n1] w2 fun r21 w3 => ∃ p21a : Option Addr, ∃ n21b : Int, r21 = .tuple #[.pointer p21a, .int .i64 n21b] ∧ (bif n21b != 0 then
 K (.int .i64 n21b) w3
 else
 Share (fun k => (bif (l2 : Int) == 0 then
 ∃ q31 : Addr, (.pointer p21a : Value) = .pointer (some q31) ∧ ∃ (a34 : Option Addr) (l34 c34 : Nat), Ru (Instr.loadAt 36 (.pointer (some (Addr.add (Addr.add q31 0) 0)))) w3 (.slice a34 l34 c34) w3 ∧ k [.slice a34 l34 c34] w3
 else
 k [.slice a2 l2 c2] w3)) fun x w4 =>
 ∃ q36 : Addr, (.pointer p0 : Value) = .pointer (some q36) ∧ ∃ p38 : Option Addr, Ru (Instr.loadAt 23 (.pointer (some (Addr.add q36 0)))) w4 (.pointer p38) w4 ∧ ∃ (a2_2 : Option Addr) (l2_2 c2_2 : Nat), nth x 0 = .slice a2_2 l2_2 c2_2 ∧ Cal Tryz.prog F_disk_Disk_Write #[.pointer p38, .int .i64 n1, .slice a2_2 l2_2 c2_2] w4 fun r41 w5 => ∃ n41 : Int, r41 = .int .i64 n41 ∧ K (.int .i64 n41) w5))
set_option maxRecDepth 100000 in
theorem C_cache_Cache_Write (p0 : Option Addr) (n1 : Int) (a2 : Option Addr) (l2 c2 : Nat) (w0 : World) (K : Value → World → Prop) (h : D_cache_Cache_Write p0 n1 a2 l2 c2 w0 K) : Cal Tryz.prog F_cache_Cache_Write #[.pointer p0, .int .i64 n1, .slice a2 l2 c2] w0 K :=
 denF_sound (A := { S := [2], ty := [(2, 36)], raw := [] }) mixed Tryz.func105 (by kernel_rfl) (by kernel_rfl) ((show denF Tryz.prog _ Tryz.f105 _ w0 K = D_cache_Cache_Write p0 n1 a2 l2 c2 w0 K by kernel_rfl).mpr h)

/- (levee.patch.Store).may: slots {8: 'bad', 15: ''}; loop over [8, 15] -/
set_option maxRecDepth 100000 in
def D_patch_Store_may (p0 : Option Addr) (p1 : Option Addr) (w0 : World) (K : Value → World → Prop) : Prop :=
 ∃ q2 : Addr, ∃ w1 : World, Ru (Instr.box 30 (.pointer p0)) w0 (.pointer (some q2)) w1 ∧ ∃ m9 : Option Nat, ∃ w2 : World, Ru (Instr.makeMap 176 none) w1 (.map m9) w2 ∧ ∃ q5 : Addr, ∃ w3 : World, Ru (Instr.alloc 176 true (.tuple #[])) w2 (.pointer (some q5)) w3 ∧ ∃ w4 : World, RuU (Instr.storeAt 176 (.pointer (some q5)) (.map m9)) w3 w4 ∧ ∃ q11 : Addr, (.pointer p1 : Value) = .pointer (some q11) ∧ ∃ (a13 : Option Addr) (l13 c13 : Nat), Ru (Instr.loadAt 178 (.pointer (some (Addr.add q11 1)))) w4 (.slice a13 l13 c13) w4 ∧ LoopC (fun k x w5 =>
 ∃ n15 : Int, nth x 1 = .int .i64 n15 ∧ (bif decide (n15 < (l13 : Int)) then
 ∃ q18 : Addr, Al (Instr.indexAt 178 (.slice a13 l13 c13) (.int .i64 n15)) (.pointer (some q18)) ∧ ∃ p19 : Option Addr, Ru (Instr.loadAt 181 (.pointer (some q18))) w5 (.pointer p19) w5 ∧ ∃ q7 : Addr, ∃ w6 : World, Ru (Instr.alloc 181 true (.tuple #[])) w5 (.pointer (some q7)) w6 ∧ ∃ w7 : World, RuU (Instr.storeAt 181 (.pointer (some q7)) (.pointer p19)) w6 w7 ∧ ∃ p20 : Option Addr, Ru (Instr.loadAt 181 (.pointer (some q7))) w7 (.pointer p20) w7 ∧ ∃ q21 : Addr, (.pointer p20 : Value) = .pointer (some q21) ∧ ∃ (a23 : Option Addr) (l23 c23 : Nat), Ru (Instr.loadAt 37 (.pointer (some (Addr.add q21 4)))) w7 (.slice a23 l23 c23) w7 ∧ Cal Tryz.prog F_slices_ContainsFunc_int64 #[.slice a23 l23 c23, .func (.func F_patch_Store_may_1) #[] #[.pointer (some q2), .pointer (some q5)]] w7 fun r25 w8 => ∃ b25 : Bool, r25 = .bool b25 ∧ Share (fun k_2 => (bif b25 then k_2 [.bool true] w8 else ∃ q29 : Addr, (.pointer p1 : Value) = .pointer (some q29) ∧ ∃ (a31 : Option Addr) (l31 c31 : Nat), Ru (Instr.loadAt 178 (.pointer (some (Addr.add q29 1)))) w8 (.slice a31 l31 c31) w8 ∧ ∃ (a33 : Option Addr) (l33 c33 : Nat), Al (Instr.sliceAt 178 (.slice a31 l31 c31) none (some (.int .i64 n15)) none) (.slice a33 l33 c33) ∧ Cal Tryz.prog F_slices_ContainsFunc_patch_change #[.slice a33 l33 c33, .func (.func F_patch_Store_may_2) #[] #[.pointer (some q7), .pointer (some q5)]] w8 fun r35 w9 => ∃ b35 : Bool, r35 = .bool b35 ∧ k_2 [.bool b35] w9)) fun x_2 w10 =>
 ∃ b8 : Bool, nth x_2 0 = .bool b8 ∧ Share (fun k_3 => (bif !b8 then
 ∃ m39 : Option Nat, Ru (Instr.loadAt 176 (.pointer (some q5))) (drew w10) (.map m39) (drew w10) ∧ ∃ p40 : Option Addr, Ru (Instr.loadAt 181 (.pointer (some q7))) (drew w10) (.pointer p40) (drew w10) ∧ ∃ q41 : Addr, (.pointer p40 : Value) = .pointer (some q41) ∧ ∃ n43 : Int, Ru (Instr.loadAt 2 (.pointer (some (Addr.add q41 0)))) (drew w10) (.int .i64 n43) (drew w10) ∧ ∃ w11 : World, RuU (Instr.mapUpdate 176 (.map m39) (.int .i64 n43) (.bool true)) (drew w10) w11 ∧ k_3 [] w11
 else
 k_3 [] w10)) fun x_3 w12 =>
 k [.bool b8, .int .i64 (IntKind.i64.wrap (n15 + 1))] w12
 else
 ∃ m45 : Option Nat, Ru (Instr.loadAt 176 (.pointer (some q5))) w5 (.map m45) w5 ∧ K (.map m45) w5)) [undef, .int .i64 0] w4
set_option maxRecDepth 100000 in
theorem C_patch_Store_may (p0 : Option Addr) (p1 : Option Addr) (w0 : World) (K : Value → World → Prop) (h : D_patch_Store_may p0 p1 w0 K) : Cal Tryz.prog F_patch_Store_may #[.pointer p0, .pointer p1] w0 K :=
 denF_sound (A := { S := [8, 15], ty := [(8, 4), (15, 3)], raw := [] }) mixed Tryz.func106 (by kernel_rfl) (by kernel_rfl) ((show denF Tryz.prog _ Tryz.f106 _ w0 K = D_patch_Store_may p0 p1 w0 K by kernel_rfl).mpr h)

/- (levee.leveeref11.Store).may: slots {6: 'i', 7: 'k', 9: 'n', 84: '', 114: ''}; loop over [9, 114]; loop over [7, 84]; loop over [6, 7, 9, 84, 114] -/
set_option maxRecDepth 100000 in
def D_leveeref11_Store_may (p0 : Option Addr) (n1 : Int) (w0 : World) (K : Value → World → Prop) : Prop :=
 ∃ q11 : Addr, (.pointer p0 : Value) = .pointer (some q11) ∧ ∃ (a13 : Option Addr) (l13 c13 : Nat), Ru (Instr.loadAt 41 (.pointer (some (Addr.add q11 2)))) w0 (.slice a13 l13 c13) w0 ∧ ∃ (a15 : Option Addr) (l15 c15 : Nat), ∃ w1 : World, Ru (Instr.makeSlice 93 (.int .i64 ((l13 : Int))) (.int .i64 ((l13 : Int)))) w0 (.slice a15 l15 c15) w1 ∧ LoopC (fun k x w2 =>
 ∃ n6 : Int, nth x 0 = .int .i64 n6 ∧ ∃ q18 : Addr, (.pointer p0 : Value) = .pointer (some q18) ∧ ∃ (a20 : Option Addr) (l20 c20 : Nat), Ru (Instr.loadAt 41 (.pointer (some (Addr.add q18 2)))) w2 (.slice a20 l20 c20) w2 ∧ (bif decide (n6 < (l20 : Int)) then
 Share (fun k_2 => ∃ q26 : Addr, (.pointer p0 : Value) = .pointer (some q26) ∧ ∃ (a28 : Option Addr) (l28 c28 : Nat), Ru (Instr.loadAt 41 (.pointer (some (Addr.add q26 2)))) w2 (.slice a28 l28 c28) w2 ∧ ∃ q30 : Addr, Al (Instr.indexAt 41 (.slice a28 l28 c28) (.int .i64 n6)) (.pointer (some q30)) ∧ ∃ n32 : Int, Ru (Instr.loadAt 3 (.pointer (some (Addr.add q30 1)))) w2 (.int .i64 n32) w2 ∧ (bif n32 != n1 then
 k_2 [nth x 1, nth x 2, nth x 3, nth x 4] w2
 else
 ∃ q37 : Addr, Al (Instr.indexAt 93 (.slice a15 l15 c15) (.int .i64 n6)) (.pointer (some q37)) ∧ ∃ w3 : World, RuU (Instr.storeAt 4 (.pointer (some q37)) (.bool true)) w2 w3 ∧ LoopC (fun k_3 x_3 w4 =>
 ∃ n7 : Int, nth x_3 0 = .int .i64 n7 ∧ ∃ q40 : Addr, (.pointer p0 : Value) = .pointer (some q40) ∧ ∃ (a42 : Option Addr) (l42 c42 : Nat), Ru (Instr.loadAt 41 (.pointer (some (Addr.add q40 2)))) w4 (.slice a42 l42 c42) w4 ∧ ∃ q44 : Addr, Al (Instr.indexAt 41 (.slice a42 l42 c42) (.int .i64 n6)) (.pointer (some q44)) ∧ ∃ (a46 : Option Addr) (l46 c46 : Nat), Ru (Instr.loadAt 37 (.pointer (some (Addr.add q44 4)))) w4 (.slice a46 l46 c46) w4 ∧ (bif decide (n7 < (l46 : Int)) then
 ∃ q53 : Addr, (.pointer p0 : Value) = .pointer (some q53) ∧ ∃ (a55 : Option Addr) (l55 c55 : Nat), Ru (Instr.loadAt 41 (.pointer (some (Addr.add q53 2)))) w4 (.slice a55 l55 c55) w4 ∧ ∃ q57 : Addr, Al (Instr.indexAt 41 (.slice a55 l55 c55) (.int .i64 n6)) (.pointer (some q57)) ∧ ∃ (a59 : Option Addr) (l59 c59 : Nat), Ru (Instr.loadAt 37 (.pointer (some (Addr.add q57 4)))) w4 (.slice a59 l59 c59) w4 ∧ ∃ q61 : Addr, Al (Instr.indexAt 37 (.slice a59 l59 c59) (.int .i64 n7)) (.pointer (some q61)) ∧ ∃ n62 : Int, Ru (Instr.loadAt 2 (.pointer (some q61))) w4 (.int .i64 n62) w4 ∧ Cal Tryz.prog F_leveeref11_Store_find #[.pointer p0, .int .i64 n62] w4 fun r63 w5 => ∃ n63 : Int, r63 = .int .i64 n63 ∧ Share (fun k_4 => (bif decide (n63 ≥ 0) then ∃ q68 : Addr, (.pointer p0 : Value) = .pointer (some q68) ∧ ∃ (a70 : Option Addr) (l70 c70 : Nat), Ru (Instr.loadAt 41 (.pointer (some (Addr.add q68 2)))) w5 (.slice a70 l70 c70) w5 ∧ ∃ q72 : Addr, Al (Instr.indexAt 41 (.slice a70 l70 c70) (.int .i64 n63)) (.pointer (some q72)) ∧ ∃ n74 : Int, Ru (Instr.loadAt 3 (.pointer (some (Addr.add q72 1)))) w5 (.int .i64 n74) w5 ∧ (bif n74 != n1 then k_4 [.bool true] w5 else ∃ q80 : Addr, Al (Instr.indexAt 93 (.slice a15 l15 c15) (.int .i64 n63)) (.pointer (some q80)) ∧ ∃ b81 : Bool, Ru (Instr.loadAt 4 (.pointer (some q80))) w5 (.bool b81) w5 ∧ k_4 [.bool (!b81)] w5) else k_4 [.bool false] w5)) fun x_4 w6 =>
 ∃ b84 : Bool, nth x_4 0 = .bool b84 ∧ Share (fun k_5 => (bif b84 then
 ∃ q87 : Addr, Al (Instr.indexAt 93 (.slice a15 l15 c15) (.int .i64 n6)) (.pointer (some q87)) ∧ ∃ w7 : World, RuU (Instr.storeAt 4 (.pointer (some q87)) (.bool false)) w6 w7 ∧ k_5 [] w7
 else
 k_5 [] w6)) fun x_5 w8 =>
 k_3 [.int .i64 (IntKind.i64.wrap (n7 + 1)), .bool b84] w8
 else
 LoopC (fun k_6 x_6 w9 =>
 ∃ n9 : Int, nth x_6 0 = .int .i64 n9 ∧ (bif decide (n9 < n6) then
 Share (fun k_7 => ∃ q94 : Addr, (.pointer p0 : Value) = .pointer (some q94) ∧ ∃ (a96 : Option Addr) (l96 c96 : Nat), Ru (Instr.loadAt 41 (.pointer (some (Addr.add q94 2)))) (drew w9) (.slice a96 l96 c96) (drew w9) ∧ ∃ q98 : Addr, Al (Instr.indexAt 41 (.slice a96 l96 c96) (.int .i64 n9)) (.pointer (some q98)) ∧ ∃ g99 : Array Value, Ru (Instr.loadAt 186 (.pointer (some q98))) (drew w9) (.agg g99) (drew w9) ∧ ∃ q101 : Addr, (.pointer p0 : Value) = .pointer (some q101) ∧ ∃ (a103 : Option Addr) (l103 c103 : Nat), Ru (Instr.loadAt 41 (.pointer (some (Addr.add q101 2)))) (drew w9) (.slice a103 l103 c103) (drew w9) ∧ ∃ q105 : Addr, Al (Instr.indexAt 41 (.slice a103 l103 c103) (.int .i64 n6)) (.pointer (some q105)) ∧ ∃ g106 : Array Value, Ru (Instr.loadAt 186 (.pointer (some q105))) (drew w9) (.agg g106) (drew w9) ∧ Cal Tryz.prog F_leveeref11_meet #[.agg g99, .agg g106] (drew w9) fun r107 w10 => ∃ b107 : Bool, r107 = .bool b107 ∧ (bif b107 then ∃ q111 : Addr, Al (Instr.indexAt 93 (.slice a15 l15 c15) (.int .i64 n9)) (.pointer (some q111)) ∧ ∃ b112 : Bool, Ru (Instr.loadAt 4 (.pointer (some q111))) w10 (.bool b112) w10 ∧ k_7 [.bool (!b112)] w10 else k_7 [.bool false] w10)) fun x_7 w11 =>
 ∃ b114 : Bool, nth x_7 0 = .bool b114 ∧ Share (fun k_8 => (bif b114 then
 ∃ q117 : Addr, Al (Instr.indexAt 93 (.slice a15 l15 c15) (.int .i64 n6)) (.pointer (some q117)) ∧ ∃ w12 : World, RuU (Instr.storeAt 4 (.pointer (some q117)) (.bool false)) w11 w12 ∧ k_8 [] w12
 else
 k_8 [] w11)) fun x_8 w13 =>
 k_6 [.int .i64 (IntKind.i64.wrap (n9 + 1)), .bool b114] w13
 else
 k_2 [.int .i64 n7, .int .i64 n9, nth x_3 1, nth x_6 1] w9)) [.int .i64 0, nth x 4] w4)) [.int .i64 0, nth x 3] w3)) fun x_2 w14 =>
 k [.int .i64 (IntKind.i64.wrap (n6 + 1)), nth x_2 0, nth x_2 1, nth x_2 2, nth x_2 3] w14
 else
 K (.slice a15 l15 c15) w2)) [.int .i64 0, undef, undef, undef, undef] w1
set_option maxRecDepth 100000 in
theorem C_leveeref11_Store_may (p0 : Option Addr) (n1 : Int) (w0 : World) (K : Value → World → Prop) (h : D_leveeref11_Store_may p0 n1 w0 K) : Cal Tryz.prog F_leveeref11_Store_may #[.pointer p0, .int .i64 n1] w0 K :=
 denF_sound (A := { S := [6, 7, 9, 84, 114], ty := [(6, 3), (7, 3), (9, 3), (84, 4), (114, 4)], raw := [] }) mixed Tryz.func107 (by kernel_rfl) (by kernel_rfl) ((show denF Tryz.prog _ Tryz.f107 _ w0 K = D_leveeref11_Store_may p0 n1 w0 K by kernel_rfl).mpr h)

/- (levee.cache.Cache).Flush: slots {};  -/
set_option maxRecDepth 100000 in
def D_cache_Cache_Flush (p0 : Option Addr) (w0 : World) (K : Value → World → Prop) : Prop :=
 (bif Option.isNone p0 then
 K (.int .i64 2) w0
 else
 ∃ q6 : Addr, (.pointer p0 : Value) = .pointer (some q6) ∧ ∃ p8 : Option Addr, Ru (Instr.loadAt 23 (.pointer (some (Addr.add q6 0)))) w0 (.pointer p8) w0 ∧ Cal Tryz.prog F_disk_Disk_Flush #[.pointer p8] w0 fun r9 w1 => ∃ n9 : Int, r9 = .int .i64 n9 ∧ K (.int .i64 n9) w1)
set_option maxRecDepth 100000 in
theorem C_cache_Cache_Flush (p0 : Option Addr) (w0 : World) (K : Value → World → Prop) (h : D_cache_Cache_Flush p0 w0 K) : Cal Tryz.prog F_cache_Cache_Flush #[.pointer p0] w0 K :=
 denF_sound (A := { S := [], ty := [], raw := [] }) mixed Tryz.func108 (by kernel_rfl) (by kernel_rfl) ((show denF Tryz.prog _ Tryz.f108 _ w0 K = D_cache_Cache_Flush p0 w0 K by kernel_rfl).mpr h)

/- (levee.patch.on).with: slots {18: ''}; loop over [18] -/
set_option maxRecDepth 100000 in
def D_patch_on_with (p0 : Option Addr) (v1 : Value) (w0 : World) (K : Value → World → Prop) : Prop :=
 ∃ q9 : Addr, (.pointer p0 : Value) = .pointer (some q9) ∧ ∃ (a11 : Option Addr) (l11 c11 : Nat), Ru (Instr.loadAt 36 (.pointer (some (Addr.add q9 0)))) w0 (.slice a11 l11 c11) w0 ∧ Cal Tryz.prog F_slices_Clone_byte #[.slice a11 l11 c11] w0 fun r12 w1 => ∃ (a12 : Option Addr) (l12 c12 : Nat), r12 = .slice a12 l12 c12 ∧ ∃ q14 : Addr, (.pointer p0 : Value) = .pointer (some q14) ∧ ∃ (a16 : Option Addr) (l16 c16 : Nat), Ru (Instr.loadAt 178 (.pointer (some (Addr.add q14 1)))) w1 (.slice a16 l16 c16) w1 ∧ LoopC (fun k x w2 =>
 ∃ n18 : Int, nth x 0 = .int .i64 n18 ∧ (bif decide (n18 < (l16 : Int)) then
 ∃ q20 : Addr, Al (Instr.indexAt 178 (.slice a16 l16 c16) (.int .i64 n18)) (.pointer (some q20)) ∧ ∃ p21 : Option Addr, Ru (Instr.loadAt 181 (.pointer (some q20))) w2 (.pointer p21) w2 ∧ Dyn Tryz.prog v1 #[.pointer p21] w2 fun r24 w3 => ∃ b24 : Bool, r24 = .bool b24 ∧ Share (fun k_2 => (bif b24 then
 ∃ q27 : Addr, (.pointer p21 : Value) = .pointer (some q27) ∧ ∃ n29 : Int, Ru (Instr.loadAt 3 (.pointer (some (Addr.add q27 2)))) (drew w3) (.int .i64 n29) (drew w3) ∧ ∃ (a30 : Option Addr) (l30 c30 : Nat), Al (Instr.sliceAt 36 (.slice a12 l12 c12) (some (.int .i64 n29)) none none) (.slice a30 l30 c30) ∧ ∃ q32 : Addr, (.pointer p21 : Value) = .pointer (some q32) ∧ ∃ (a34 : Option Addr) (l34 c34 : Nat), Ru (Instr.loadAt 36 (.pointer (some (Addr.add q32 3)))) (drew w3) (.slice a34 l34 c34) (drew w3) ∧ ∃ n35 : Int, ∃ w4 : World, Ru (Builtin.copy_ #[36, 36] 3 #[.slice a30 l30 c30, .slice a34 l34 c34]) (drew w3) (.int .i64 n35) w4 ∧ k_2 [] w4
 else
 k_2 [] w3)) fun x_2 w5 =>
 k [.int .i64 (IntKind.i64.wrap (n18 + 1))] w5
 else
 K (.slice a12 l12 c12) w2)) [.int .i64 0] w1
set_option maxRecDepth 100000 in
theorem C_patch_on_with (p0 : Option Addr) (v1 : Value) (w0 : World) (K : Value → World → Prop) (h : D_patch_on_with p0 v1 w0 K) : Cal Tryz.prog F_patch_on_with #[.pointer p0, v1] w0 K :=
 denF_sound (A := { S := [18], ty := [(18, 3)], raw := [] }) mixed Tryz.func109 (by kernel_rfl) (by kernel_rfl) ((show denF Tryz.prog _ Tryz.f109 _ w0 K = D_patch_on_with p0 v1 w0 K by kernel_rfl).mpr h)

/- (levee.patch.Store).Flush$1: slots {};  -/
set_option maxRecDepth 100000 in
def D_patch_Store_Flush_1 (p0 : Option Addr) (w0 : World) (K : Value → World → Prop) : Prop :=
 ∃ q4 : Addr, (.pointer p0 : Value) = .pointer (some q4) ∧ ∃ b6 : Bool, Ru (Instr.loadAt 4 (.pointer (some (Addr.add q4 5)))) w0 (.bool b6) w0 ∧ K (.bool b6) w0
set_option maxRecDepth 100000 in
theorem C_patch_Store_Flush_1 (p0 : Option Addr) (w0 : World) (K : Value → World → Prop) (h : D_patch_Store_Flush_1 p0 w0 K) : Cal Tryz.prog F_patch_Store_Flush_1 #[.pointer p0] w0 K :=
 denF_sound (A := { S := [], ty := [], raw := [] }) mixed Tryz.func110 (by kernel_rfl) (by kernel_rfl) ((show denF Tryz.prog _ Tryz.f110 _ w0 K = D_patch_Store_Flush_1 p0 w0 K by kernel_rfl).mpr h)

/- slices.DeleteFunc[[]levee.patch.change,levee.patch.change]: slots {5: 'i', 6: 'j'}; loop over [5, 6] -/
set_option maxRecDepth 100000 in
def D_slices_DeleteFunc_patch_change (a0 : Option Addr) (l0 c0 : Nat) (v1 : Value) (w0 : World) (K : Value → World → Prop) : Prop :=
 Cal Tryz.prog F_slices_IndexFunc_patch_change #[.slice a0 l0 c0, v1] w0 fun r10 w1 => ∃ n10 : Int, r10 = .int .i64 n10 ∧ (bif n10 == (-1) then
 K (.slice a0 l0 c0) w1
 else
 LoopC (fun k x w2 =>
 ∃ n6 : Int, nth x 1 = .int .i64 n6 ∧ (bif decide (n6 < (l0 : Int)) then
 ∃ q24 : Addr, Al (Instr.indexAt 178 (.slice a0 l0 c0) (.int .i64 n6)) (.pointer (some q24)) ∧ ∃ p25 : Option Addr, Ru (Instr.loadAt 181 (.pointer (some q24))) w2 (.pointer p25) w2 ∧ Dyn Tryz.prog v1 #[.pointer p25] w2 fun r28 w3 => ∃ b28 : Bool, r28 = .bool b28 ∧ Share (fun k_2 => (bif !b28 then
 ∃ n5 : Int, nth x 0 = .int .i64 n5 ∧ ∃ q33 : Addr, Al (Instr.indexAt 178 (.slice a0 l0 c0) (.int .i64 n5)) (.pointer (some q33)) ∧ ∃ w4 : World, RuU (Instr.storeAt 181 (.pointer (some q33)) (.pointer p25)) w3 w4 ∧ k_2 [.int .i64 (IntKind.i64.wrap (n5 + 1))] w4
 else
 k_2 [nth x 0] w3)) fun x_2 w5 =>
 k [nth x_2 0, .int .i64 (IntKind.i64.wrap (n6 + 1))] w5
 else
 ∃ n5_2 : Int, nth x 0 = .int .i64 n5_2 ∧ ∃ (a38 : Option Addr) (l38 c38 : Nat), Al (Instr.sliceAt 178 (.slice a0 l0 c0) (some (.int .i64 n5_2)) none none) (.slice a38 l38 c38) ∧ ∃ w6 : World, Ru (Builtin.clear_ #[178] 0 #[.slice a38 l38 c38]) w2 (.tuple #[]) w6 ∧ ∃ (a41 : Option Addr) (l41 c41 : Nat), Al (Instr.sliceAt 178 (.slice a0 l0 c0) none (some (.int .i64 n5_2)) none) (.slice a41 l41 c41) ∧ K (.slice a41 l41 c41) w6)) [.int .i64 n10, .int .i64 (IntKind.i64.wrap (n10 + 1))] w1)
set_option maxRecDepth 100000 in
theorem C_slices_DeleteFunc_patch_change (a0 : Option Addr) (l0 c0 : Nat) (v1 : Value) (w0 : World) (K : Value → World → Prop) (h : D_slices_DeleteFunc_patch_change a0 l0 c0 v1 w0 K) : Cal Tryz.prog F_slices_DeleteFunc_patch_change #[.slice a0 l0 c0, v1] w0 K :=
 denF_sound (A := { S := [5, 6], ty := [(5, 3), (6, 3)], raw := [] }) mixed Tryz.func111 (by kernel_rfl) (by kernel_rfl) ((show denF Tryz.prog _ Tryz.f111 _ w0 K = D_slices_DeleteFunc_patch_change a0 l0 c0 v1 w0 K by kernel_rfl).mpr h)

/- (levee.patch.Store).Flush$2: slots {};  -/
set_option maxRecDepth 100000 in
def D_patch_Store_Flush_2 (p0 : Option Addr) (w0 : World) (K : Value → World → Prop) : Prop :=
 ∃ q4 : Addr, (.pointer p0 : Value) = .pointer (some q4) ∧ ∃ b6 : Bool, Ru (Instr.loadAt 4 (.pointer (some (Addr.add q4 5)))) w0 (.bool b6) w0 ∧ K (.bool b6) w0
set_option maxRecDepth 100000 in
theorem C_patch_Store_Flush_2 (p0 : Option Addr) (w0 : World) (K : Value → World → Prop) (h : D_patch_Store_Flush_2 p0 w0 K) : Cal Tryz.prog F_patch_Store_Flush_2 #[.pointer p0] w0 K :=
 denF_sound (A := { S := [], ty := [], raw := [] }) mixed Tryz.func112 (by kernel_rfl) (by kernel_rfl) ((show denF Tryz.prog _ Tryz.f112 _ w0 K = D_patch_Store_Flush_2 p0 w0 K by kernel_rfl).mpr h)

/- (levee.cache.Cache).Unpin: slots {};  -/
set_option maxRecDepth 100000 in
def D_cache_Cache_Unpin (p0 : Option Addr) (n1 : Int) (w0 : World) (K : Value → World → Prop) : Prop :=
 Cal Tryz.prog F_cache_Cache_held #[.pointer p0, .int .i64 n1] w0 fun r10 w1 => ∃ p10a : Option Addr, ∃ n10b : Int, r10 = .tuple #[.pointer p10a, .int .i64 n10b] ∧ (bif n10b != 0 then
 K (.int .i64 n10b) w1
 else
 ∃ q19 : Addr, (.pointer p10a : Value) = .pointer (some q19) ∧ ∃ n21 : Int, Ru (Instr.loadAt 3 (.pointer (some (Addr.add q19 1)))) w1 (.int .i64 n21) w1 ∧ (bif n21 == 0 then
 K (.int .i64 6) w1
 else
 ∃ q24 : Addr, (.pointer p10a : Value) = .pointer (some q24) ∧ ∃ n26 : Int, Ru (Instr.loadAt 3 (.pointer (some (Addr.add q24 1)))) w1 (.int .i64 n26) w1 ∧ ∃ q28 : Addr, (.pointer p10a : Value) = .pointer (some q28) ∧ ∃ w2 : World, RuU (Instr.storeAt 3 (.pointer (some (Addr.add q28 1))) (.int .i64 (IntKind.i64.wrap (n26 - 1)))) w1 w2 ∧ K (.int .i64 0) w2))
set_option maxRecDepth 100000 in
theorem C_cache_Cache_Unpin (p0 : Option Addr) (n1 : Int) (w0 : World) (K : Value → World → Prop) (h : D_cache_Cache_Unpin p0 n1 w0 K) : Cal Tryz.prog F_cache_Cache_Unpin #[.pointer p0, .int .i64 n1] w0 K :=
 denF_sound (A := { S := [], ty := [], raw := [] }) mixed Tryz.func113 (by kernel_rfl) (by kernel_rfl) ((show denF Tryz.prog _ Tryz.f113 _ w0 K = D_cache_Cache_Unpin p0 n1 w0 K by kernel_rfl).mpr h)

/- (levee.leveeref02.Disk).Flush: slots {3: 'i'}; loop over [3] -/
set_option maxRecDepth 100000 in
def D_leveeref02_Disk_Flush (p0 : Option Addr) (w0 : World) (K : Value → World → Prop) : Prop :=
 Cal Tryz.prog F_leveeref02_Disk_goes #[.pointer p0] w0 fun r6 w1 => ∃ b6 : Bool, r6 = .bool b6 ∧ (bif !b6 then
 K (.int .i64 0) w1
 else
 LoopC (fun k x w2 =>
 ∃ n3 : Int, nth x 0 = .int .i64 n3 ∧ ∃ q10 : Addr, (.pointer p0 : Value) = .pointer (some q10) ∧ ∃ (a12 : Option Addr) (l12 c12 : Nat), Ru (Instr.loadAt 145 (.pointer (some (Addr.add q10 0)))) w2 (.slice a12 l12 c12) w2 ∧ (bif decide (n3 < (l12 : Int)) then
 ∃ q18 : Addr, (.pointer p0 : Value) = .pointer (some q18) ∧ ∃ (a20 : Option Addr) (l20 c20 : Nat), Ru (Instr.loadAt 145 (.pointer (some (Addr.add q18 0)))) w2 (.slice a20 l20 c20) w2 ∧ ∃ q22 : Addr, Al (Instr.indexAt 145 (.slice a20 l20 c20) (.int .i64 n3)) (.pointer (some q22)) ∧ ∃ (a24 : Option Addr) (l24 c24 : Nat), Ru (Instr.loadAt 40 (.pointer (some (Addr.add q22 0)))) w2 (.slice a24 l24 c24) w2 ∧ ∃ q26 : Addr, (.pointer p0 : Value) = .pointer (some q26) ∧ ∃ (a28 : Option Addr) (l28 c28 : Nat), Ru (Instr.loadAt 145 (.pointer (some (Addr.add q26 0)))) (drew w2) (.slice a28 l28 c28) (drew w2) ∧ ∃ q34 : Addr, Al (Instr.indexAt 40 (.slice a24 l24 c24) (.int .i64 (IntKind.i64.wrap ((l24 : Int) - 1)))) (.pointer (some q34)) ∧ ∃ s35 : ByteArray, Ru (Instr.loadAt 9 (.pointer (some q34))) (drew w2) (.string s35) (drew w2) ∧ ∃ (a36 : Option Addr) (l36 c36 : Nat), ∃ w3 : World, Ru (Instr.buildSlice 40 1 #[(0, .string s35)]) (drew w2) (.slice a36 l36 c36) w3 ∧ Ru (Instr.loadAt 145 (.pointer (some (Addr.add q26 0)))) w3 (.slice a28 l28 c28) w3 ∧ ∃ q37 : Addr, Al (Instr.indexAt 145 (.slice a28 l28 c28) (.int .i64 n3)) (.pointer (some q37)) ∧ ∃ w4 : World, RuU (Instr.storeAt 40 (.pointer (some (Addr.add q37 0))) (.slice a36 l36 c36)) w3 w4 ∧ k [.int .i64 (IntKind.i64.wrap (n3 + 1))] w4
 else
 K (.int .i64 0) w2)) [.int .i64 0] w1)
set_option maxRecDepth 100000 in
theorem C_leveeref02_Disk_Flush (p0 : Option Addr) (w0 : World) (K : Value → World → Prop) (h : D_leveeref02_Disk_Flush p0 w0 K) : Cal Tryz.prog F_leveeref02_Disk_Flush #[.pointer p0] w0 K :=
 denF_sound (A := { S := [3], ty := [(3, 3)], raw := [] }) mixed Tryz.func114 (by kernel_rfl) (by kernel_rfl) ((show denF Tryz.prog _ Tryz.f114 _ w0 K = D_leveeref02_Disk_Flush p0 w0 K by kernel_rfl).mpr h)

/- levee.leveeref11.upon: slots {};  -/
set_option maxRecDepth 100000 in
def D_leveeref11_upon (a0 : Option Addr) (l0 c0 : Nat) (g1 : Array Value) (w0 : World) (K : Value → World → Prop) : Prop :=
 ∃ q3 : Addr, ∃ w1 : World, Ru (Instr.box 186 (.agg g1)) w0 (.pointer (some q3)) w1 ∧ ∃ n10 : Int, Ru (Instr.loadAt 3 (.pointer (some (Addr.add q3 2)))) w1 (.int .i64 n10) w1 ∧ ∃ s12 : ByteArray, Ru (Instr.loadAt 9 (.pointer (some (Addr.add q3 3)))) w1 (.string s12) w1 ∧ ∃ (a13 : Option Addr) (l13 c13 : Nat), ∃ w2 : World, Ru (convert 9 36 (.string s12)) w1 (.slice a13 l13 c13) w2 ∧ Cal Tryz.prog F_leveeref01_Lay #[.slice a0 l0 c0, .int .i64 n10, .slice a13 l13 c13] w2 fun r14 w3 => ∃ (a14a : Option Addr) (l14a c14a : Nat), ∃ n14b : Int, r14 = .tuple #[.slice a14a l14a c14a, .int .i64 n14b] ∧ K (.slice a14a l14a c14a) w3
set_option maxRecDepth 100000 in
theorem C_leveeref11_upon (a0 : Option Addr) (l0 c0 : Nat) (g1 : Array Value) (w0 : World) (K : Value → World → Prop) (h : D_leveeref11_upon a0 l0 c0 g1 w0 K) : Cal Tryz.prog F_leveeref11_upon #[.slice a0 l0 c0, .agg g1] w0 K :=
 denF_sound (A := { S := [], ty := [], raw := [] }) mixed Tryz.func115 (by kernel_rfl) (by kernel_rfl) ((show denF Tryz.prog _ Tryz.f115 _ w0 K = D_leveeref11_upon a0 l0 c0 g1 w0 K by kernel_rfl).mpr h)

/- slices.Contains[[]levee.push.Act,levee.push.Act]: slots {};  -/
set_option maxRecDepth 100000 in
def D_slices_Contains_push_Act (a0 : Option Addr) (l0 c0 : Nat) (g1 : Array Value) (w0 : World) (K : Value → World → Prop) : Prop :=
 ∃ q3 : Addr, ∃ w1 : World, Ru (Instr.box 71 (.agg g1)) w0 (.pointer (some q3)) w1 ∧ ∃ g6 : Array Value, Ru (Instr.loadAt 71 (.pointer (some q3))) w1 (.agg g6) w1 ∧ Cal Tryz.prog F_slices_Index_push_Act #[.slice a0 l0 c0, .agg g6] w1 fun r7 w2 => ∃ n7 : Int, r7 = .int .i64 n7 ∧ K (.bool (decide (n7 ≥ 0))) w2
set_option maxRecDepth 100000 in
theorem C_slices_Contains_push_Act (a0 : Option Addr) (l0 c0 : Nat) (g1 : Array Value) (w0 : World) (K : Value → World → Prop) (h : D_slices_Contains_push_Act a0 l0 c0 g1 w0 K) : Cal Tryz.prog F_slices_Contains_push_Act #[.slice a0 l0 c0, .agg g1] w0 K :=
 denF_sound (A := { S := [], ty := [], raw := [] }) mixed Tryz.func116 (by kernel_rfl) (by kernel_rfl) ((show denF Tryz.prog _ Tryz.f116 _ w0 K = D_slices_Contains_push_Act a0 l0 c0 g1 w0 K by kernel_rfl).mpr h)

/- levee.push.rounds: slots {6: 'n', 21: ''}; loop over [6, 21]; loop over [6, 21] -/
set_option maxRecDepth 100000 in
def D_push_rounds (p0 : Option Addr) (v1 : Value) (w0 : World) (K : Value → World → Prop) : Prop :=
 (bif Option.isNone p0 then
 K (.tuple #[.int .i64 0, .int .i64 2]) w0
 else
 LoopC (fun k x w1 =>
 Dyn Tryz.prog v1 #[] w1 fun r15 w2 => ∃ (a15 : Option Addr) (l15 c15 : Nat), r15 = .slice a15 l15 c15 ∧ (bif (l15 : Int) == 0 then
 ∃ n6 : Int, nth x 0 = .int .i64 n6 ∧ K (.tuple #[.int .i64 n6, .int .i64 0]) w2
 else
 LoopC (fun k_2 x_2 w3 =>
 ∃ n21 : Int, nth x_2 1 = .int .i64 n21 ∧ (bif decide (n21 < (l15 : Int)) then
 Share (fun k_3 => ∃ q23 : Addr, Al (Instr.indexAt 49 (.slice a15 l15 c15) (.int .i64 n21)) (.pointer (some q23)) ∧ ∃ n24 : Int, Ru (Instr.loadAt 3 (.pointer (some q23))) w3 (.int .i64 n24) w3 ∧ Cal Tryz.prog F_patch_Store_Ready #[.pointer p0, .int .i64 n24] w3 fun r27 w4 => ∃ n27 : Int, r27 = .int .i64 n27 ∧ (bif n27 == 0 then
 k_3 [nth x_2 0] w4
 else
 Cal Tryz.prog F_patch_Store_Write #[.pointer p0, .int .i64 n24] w4 fun r31 w5 => ∃ n31 : Int, r31 = .int .i64 n31 ∧ (bif n31 != 0 then
 ∃ n6_2 : Int, nth x_2 0 = .int .i64 n6_2 ∧ K (.tuple #[.int .i64 n6_2, .int .i64 n31]) w5
 else
 ∃ n6_3 : Int, nth x_2 0 = .int .i64 n6_3 ∧ k_3 [.int .i64 (IntKind.i64.wrap (n6_3 + 1))] w5))) fun x_3 w6 =>
 k_2 [nth x_3 0, .int .i64 (IntKind.i64.wrap (n21 + 1))] w6
 else
 Cal Tryz.prog F_patch_Store_Flush #[.pointer p0] w3 fun r40 w7 => ∃ n40 : Int, r40 = .int .i64 n40 ∧ (bif n40 != 0 then
 ∃ n6_4 : Int, nth x_2 0 = .int .i64 n6_4 ∧ K (.tuple #[.int .i64 n6_4, .int .i64 n40]) w7
 else
 k [nth x_2 0, .int .i64 n21] w7))) [nth x 0, .int .i64 0] w2)) [.int .i64 0, undef] w0)
set_option maxRecDepth 100000 in
theorem C_push_rounds (p0 : Option Addr) (v1 : Value) (w0 : World) (K : Value → World → Prop) (h : D_push_rounds p0 v1 w0 K) : Cal Tryz.prog F_push_rounds #[.pointer p0, v1] w0 K :=
 denF_sound (A := { S := [6, 21], ty := [(6, 3), (21, 3)], raw := [] }) mixed Tryz.func117 (by kernel_rfl) (by kernel_rfl) ((show denF Tryz.prog _ Tryz.f117 _ w0 K = D_push_rounds p0 v1 w0 K by kernel_rfl).mpr h)

/- levee.push.One$1: slots {};  -/
set_option maxRecDepth 100000 in
def D_push_One_1 (v0 : Value) (v1 : Value) (w0 : World) (K : Value → World → Prop) : Prop :=
 ∃ p3 : Option Addr, Ru (Instr.loadAt 30 v0) (drew w0) (.pointer p3) (drew w0) ∧ ∃ p4 : Option Addr, Ru (Instr.loadAt 30 v0) (drew w0) (.pointer p4) (drew w0) ∧ ∃ n5 : Int, Ru (Instr.loadAt 2 v1) (drew w0) (.int .i64 n5) (drew w0) ∧ Cal Tryz.prog F_patch_Store_Waits #[.pointer p4, .int .i64 n5] (drew w0) fun r6 w1 => ∃ (a6 : Option Addr) (l6 c6 : Nat), r6 = .slice a6 l6 c6 ∧ Ru (Instr.loadAt 30 v0) w1 (.pointer p3) w1 ∧ Cal Tryz.prog F_push_blocks #[.pointer p3, .slice a6 l6 c6] w1 fun r7 w2 => ∃ (a7 : Option Addr) (l7 c7 : Nat), r7 = .slice a7 l7 c7 ∧ K (.slice a7 l7 c7) w2
set_option maxRecDepth 100000 in
theorem C_push_One_1 (v0 : Value) (v1 : Value) (w0 : World) (K : Value → World → Prop) (h : D_push_One_1 v0 v1 w0 K) : Cal Tryz.prog F_push_One_1 #[v0, v1] w0 K :=
 denF_sound (A := { S := [], ty := [], raw := [] }) mixed Tryz.func118 (by kernel_rfl) (by kernel_rfl) ((show denF Tryz.prog _ Tryz.f118 _ w0 K = D_push_One_1 v0 v1 w0 K by kernel_rfl).mpr h)

/- levee.push.blocks: slots {5: 'l', 12: ''}; loop over [5, 12] -/
set_option maxRecDepth 100000 in
def D_push_blocks (p0 : Option Addr) (a1 : Option Addr) (l1 c1 : Nat) (w0 : World) (K : Value → World → Prop) : Prop :=
 LoopC (fun k x w1 =>
 ∃ n12 : Int, nth x 1 = .int .i64 n12 ∧ (bif decide (n12 < (l1 : Int)) then
 ∃ q14 : Addr, Al (Instr.indexAt 37 (.slice a1 l1 c1) (.int .i64 n12)) (.pointer (some q14)) ∧ ∃ n15 : Int, Ru (Instr.loadAt 2 (.pointer (some q14))) w1 (.int .i64 n15) w1 ∧ Cal Tryz.prog F_patch_Store_Block #[.pointer p0, .int .i64 n15] w1 fun r19 w2 => ∃ n19a : Int, ∃ n19b : Int, r19 = .tuple #[.int .i64 n19a, .int .i64 n19b] ∧ Share (fun k_2 => (bif n19b == 0 then
 ∃ (a5 : Option Addr) (l5 c5 : Nat), nth x 0 = .slice a5 l5 c5 ∧ ∃ (a26 : Option Addr) (l26 c26 : Nat), ∃ w3 : World, Ru (Instr.buildSlice 49 1 #[(0, .int .i64 n19a)]) w2 (.slice a26 l26 c26) w3 ∧ ∃ (a27 : Option Addr) (l27 c27 : Nat), ∃ w4 : World, Ru (Builtin.append_ #[49, 49] 49 #[.slice a5 l5 c5, .slice a26 l26 c26]) w3 (.slice a27 l27 c27) w4 ∧ k_2 [.slice a27 l27 c27] w4
 else
 k_2 [nth x 0] w2)) fun x_2 w5 =>
 k [nth x_2 0, .int .i64 (IntKind.i64.wrap (n12 + 1))] w5
 else
 ∃ (a5_2 : Option Addr) (l5_2 c5_2 : Nat), nth x 0 = .slice a5_2 l5_2 c5_2 ∧ Cal Tryz.prog F_slices_Sort_int #[.slice a5_2 l5_2 c5_2] w1 fun r30 w6 => r30 = .tuple #[] ∧ Cal Tryz.prog F_slices_Compact_int #[.slice a5_2 l5_2 c5_2] w6 fun r32 w7 => ∃ (a32 : Option Addr) (l32 c32 : Nat), r32 = .slice a32 l32 c32 ∧ K (.slice a32 l32 c32) w7)) [.slice none 0 0, .int .i64 0] w0
set_option maxRecDepth 100000 in
theorem C_push_blocks (p0 : Option Addr) (a1 : Option Addr) (l1 c1 : Nat) (w0 : World) (K : Value → World → Prop) (h : D_push_blocks p0 a1 l1 c1 w0 K) : Cal Tryz.prog F_push_blocks #[.pointer p0, .slice a1 l1 c1] w0 K :=
 denF_sound (A := { S := [5, 12], ty := [(5, 49), (12, 3)], raw := [] }) mixed Tryz.func119 (by kernel_rfl) (by kernel_rfl) ((show denF Tryz.prog _ Tryz.f119 _ w0 K = D_push_blocks p0 a1 l1 c1 w0 K by kernel_rfl).mpr h)

/- (levee.patch.Store).Waits$1: slots {18: '', 29: '', 55: '', 72: ''}; loop over [55, 72]; loop over [29] -/
set_option maxRecDepth 100000 in
def D_patch_Store_Waits_1 (p0 : Option Addr) (v1 : Value) (v2 : Value) (v3 : Value) (w0 : World) (K : Value → World → Prop) : Prop :=
 Share (fun k => (bif Option.isNone p0 then k [.bool true] (drew w0) else ∃ m12 : Option Nat, Ru (Instr.loadAt 176 v1) (drew w0) (.map m12) (drew w0) ∧ ∃ q14 : Addr, (.pointer p0 : Value) = .pointer (some q14) ∧ ∃ n16 : Int, Ru (Instr.loadAt 2 (.pointer (some (Addr.add q14 0)))) (drew w0) (.int .i64 n16) (drew w0) ∧ ∃ b17 : Bool, Ru (Instr.lookup 176 (.map m12) (.int .i64 n16) false) (drew w0) (.bool b17) (drew w0) ∧ k [.bool b17] (drew w0))) fun x w1 =>
 ∃ b18 : Bool, nth x 0 = .bool b18 ∧ (bif b18 then
 K (.tuple #[]) w1
 else
 ∃ m19 : Option Nat, Ru (Instr.loadAt 176 v1) (drew w1) (.map m19) (drew w1) ∧ ∃ q21 : Addr, (.pointer p0 : Value) = .pointer (some q21) ∧ ∃ n23 : Int, Ru (Instr.loadAt 2 (.pointer (some (Addr.add q21 0)))) (drew w1) (.int .i64 n23) (drew w1) ∧ ∃ w2 : World, RuU (Instr.mapUpdate 176 (.map m19) (.int .i64 n23) (.bool true)) (drew w1) w2 ∧ ∃ q25 : Addr, (.pointer p0 : Value) = .pointer (some q25) ∧ ∃ (a27 : Option Addr) (l27 c27 : Nat), Ru (Instr.loadAt 37 (.pointer (some (Addr.add q25 4)))) w2 (.slice a27 l27 c27) w2 ∧ LoopC (fun k_2 x_2 w3 =>
 ∃ n29 : Int, nth x_2 0 = .int .i64 n29 ∧ (bif decide (n29 < (l27 : Int)) then
 ∃ q31 : Addr, Al (Instr.indexAt 37 (.slice a27 l27 c27) (.int .i64 n29)) (.pointer (some q31)) ∧ ∃ n32 : Int, Ru (Instr.loadAt 2 (.pointer (some q31))) w3 (.int .i64 n32) w3 ∧ ∃ v33 : Value, Ru (Instr.loadAt 194 v2) (drew w3) v33 (drew w3) ∧ ∃ p34 : Option Addr, Ru (Instr.loadAt 30 v3) (drew w3) (.pointer p34) (drew w3) ∧ ∃ q35 : Addr, (.pointer p34 : Value) = .pointer (some q35) ∧ ∃ m37 : Option Nat, Ru (Instr.loadAt 154 (.pointer (some (Addr.add q35 3)))) (drew w3) (.map m37) (drew w3) ∧ ∃ p39 : Option Addr, Ru (Instr.lookup 154 (.map m37) (.int .i64 n32) false) (drew w3) (.pointer p39) (drew w3) ∧ Dyn Tryz.prog v33 #[.pointer p39] (drew w3) fun r40 w4 => r40 = .tuple #[] ∧ k_2 [.int .i64 (IntKind.i64.wrap (n29 + 1))] w4
 else
 ∃ p42 : Option Addr, Ru (Instr.loadAt 30 v3) (drew w3) (.pointer p42) (drew w3) ∧ ∃ q43 : Addr, (.pointer p42 : Value) = .pointer (some q43) ∧ ∃ m45 : Option Nat, Ru (Instr.loadAt 155 (.pointer (some (Addr.add q43 4)))) (drew w3) (.map m45) (drew w3) ∧ ∃ q47 : Addr, (.pointer p0 : Value) = .pointer (some q47) ∧ ∃ n49 : Int, Ru (Instr.loadAt 3 (.pointer (some (Addr.add q47 1)))) (drew w3) (.int .i64 n49) (drew w3) ∧ ∃ p50 : Option Addr, Ru (Instr.lookup 155 (.map m45) (.int .i64 n49) false) (drew w3) (.pointer p50) (drew w3) ∧ ∃ q51 : Addr, (.pointer p50 : Value) = .pointer (some q51) ∧ ∃ (a53 : Option Addr) (l53 c53 : Nat), Ru (Instr.loadAt 178 (.pointer (some (Addr.add q51 1)))) (drew w3) (.slice a53 l53 c53) (drew w3) ∧ LoopC (fun k_3 x_3 w5 =>
 ∃ n55 : Int, nth x_3 0 = .int .i64 n55 ∧ (bif decide (n55 < (l53 : Int)) then
 ∃ q57 : Addr, Al (Instr.indexAt 178 (.slice a53 l53 c53) (.int .i64 n55)) (.pointer (some q57)) ∧ ∃ p58 : Option Addr, Ru (Instr.loadAt 181 (.pointer (some q57))) w5 (.pointer p58) w5 ∧ Share (fun k_4 => ∃ q60 : Addr, (.pointer p58 : Value) = .pointer (some q60) ∧ ∃ n62 : Int, Ru (Instr.loadAt 2 (.pointer (some (Addr.add q60 0)))) (drew w5) (.int .i64 n62) (drew w5) ∧ ∃ q64 : Addr, (.pointer p0 : Value) = .pointer (some q64) ∧ ∃ n66 : Int, Ru (Instr.loadAt 2 (.pointer (some (Addr.add q64 0)))) (drew w5) (.int .i64 n66) (drew w5) ∧ (bif decide (n62 < n66) then Cal Tryz.prog F_patch_change_meets #[.pointer p58, .pointer p0] (drew w5) fun r71 w6 => ∃ b71 : Bool, r71 = .bool b71 ∧ k_4 [.bool b71] w6 else k_4 [.bool false] (drew w5))) fun x_4 w7 =>
 ∃ b72 : Bool, nth x_4 0 = .bool b72 ∧ Share (fun k_5 => (bif b72 then
 ∃ v73 : Value, Ru (Instr.loadAt 194 v2) w7 v73 w7 ∧ Dyn Tryz.prog v73 #[.pointer p58] w7 fun r75 w8 => r75 = .tuple #[] ∧ k_5 [] w8
 else
 k_5 [] w7)) fun x_5 w9 =>
 k_3 [.int .i64 (IntKind.i64.wrap (n55 + 1)), .bool b72] w9
 else
 K (.tuple #[]) w5)) [.int .i64 0, undef] (drew w3))) [.int .i64 0] w2)
set_option maxRecDepth 100000 in
theorem C_patch_Store_Waits_1 (p0 : Option Addr) (v1 : Value) (v2 : Value) (v3 : Value) (w0 : World) (K : Value → World → Prop) (h : D_patch_Store_Waits_1 p0 v1 v2 v3 w0 K) : Cal Tryz.prog F_patch_Store_Waits_1 #[.pointer p0, v1, v2, v3] w0 K :=
 denF_sound (A := { S := [18, 29, 55, 72], ty := [(18, 4), (29, 3), (55, 3), (72, 4)], raw := [] }) mixed Tryz.func120 (by kernel_rfl) (by kernel_rfl) ((show denF Tryz.prog _ Tryz.f120 _ w0 K = D_patch_Store_Waits_1 p0 v1 v2 v3 w0 K by kernel_rfl).mpr h)

/- (levee.patch.change).meets: slots {4: ''};  -/
set_option maxRecDepth 100000 in
def D_patch_change_meets (p0 : Option Addr) (p1 : Option Addr) (w0 : World) (K : Value → World → Prop) : Prop :=
 Share (fun k => ∃ q6 : Addr, (.pointer p0 : Value) = .pointer (some q6) ∧ ∃ n8 : Int, Ru (Instr.loadAt 3 (.pointer (some (Addr.add q6 2)))) (drew w0) (.int .i64 n8) (drew w0) ∧ ∃ q10 : Addr, (.pointer p1 : Value) = .pointer (some q10) ∧ ∃ n12 : Int, Ru (Instr.loadAt 3 (.pointer (some (Addr.add q10 2)))) (drew w0) (.int .i64 n12) (drew w0) ∧ ∃ q14 : Addr, (.pointer p1 : Value) = .pointer (some q14) ∧ ∃ (a16 : Option Addr) (l16 c16 : Nat), Ru (Instr.loadAt 36 (.pointer (some (Addr.add q14 3)))) (drew w0) (.slice a16 l16 c16) (drew w0) ∧ (bif decide (n8 < (IntKind.i64.wrap (n12 + (l16 : Int)))) then ∃ q22 : Addr, (.pointer p1 : Value) = .pointer (some q22) ∧ ∃ n24 : Int, Ru (Instr.loadAt 3 (.pointer (some (Addr.add q22 2)))) (drew w0) (.int .i64 n24) (drew w0) ∧ ∃ q26 : Addr, (.pointer p0 : Value) = .pointer (some q26) ∧ ∃ n28 : Int, Ru (Instr.loadAt 3 (.pointer (some (Addr.add q26 2)))) (drew w0) (.int .i64 n28) (drew w0) ∧ ∃ q30 : Addr, (.pointer p0 : Value) = .pointer (some q30) ∧ ∃ (a32 : Option Addr) (l32 c32 : Nat), Ru (Instr.loadAt 36 (.pointer (some (Addr.add q30 3)))) (drew w0) (.slice a32 l32 c32) (drew w0) ∧ k [.bool (decide (n24 < (IntKind.i64.wrap (n28 + (l32 : Int)))))] (drew w0) else k [.bool false] (drew w0))) fun x w1 =>
 ∃ b4 : Bool, nth x 0 = .bool b4 ∧ K (.bool b4) w1
set_option maxRecDepth 100000 in
theorem C_patch_change_meets (p0 : Option Addr) (p1 : Option Addr) (w0 : World) (K : Value → World → Prop) (h : D_patch_change_meets p0 p1 w0 K) : Cal Tryz.prog F_patch_change_meets #[.pointer p0, .pointer p1] w0 K :=
 denF_sound (A := { S := [4], ty := [(4, 4)], raw := [] }) mixed Tryz.func121 (by kernel_rfl) (by kernel_rfl) ((show denF Tryz.prog _ Tryz.f121 _ w0 K = D_patch_change_meets p0 p1 w0 K by kernel_rfl).mpr h)

/- slices.Sort[[]int64,int64]: slots {};  -/
/- (levee.patch.Store).given: slots {4: ''};  -/
set_option maxRecDepth 100000 in
def D_patch_Store_given (p0 : Option Addr) (n1 : Int) (w0 : World) (K : Value → World → Prop) : Prop :=
 Share (fun k => (bif decide (n1 ≥ 1) then ∃ q10 : Addr, (.pointer p0 : Value) = .pointer (some q10) ∧ ∃ n12 : Int, Ru (Instr.loadAt 2 (.pointer (some (Addr.add q10 2)))) w0 (.int .i64 n12) w0 ∧ k [.bool (decide (n1 ≤ n12))] w0 else k [.bool false] w0)) fun x w1 =>
 ∃ b4 : Bool, nth x 0 = .bool b4 ∧ K (.bool b4) w1
set_option maxRecDepth 100000 in
theorem C_patch_Store_given (p0 : Option Addr) (n1 : Int) (w0 : World) (K : Value → World → Prop) (h : D_patch_Store_given p0 n1 w0 K) : Cal Tryz.prog F_patch_Store_given #[.pointer p0, .int .i64 n1] w0 K :=
 denF_sound (A := { S := [4], ty := [(4, 4)], raw := [] }) mixed Tryz.func123 (by kernel_rfl) (by kernel_rfl) ((show denF Tryz.prog _ Tryz.f123 _ w0 K = D_patch_Store_given p0 n1 w0 K by kernel_rfl).mpr h)

/- (levee.cache.Cache).Read: slots {};  -/
set_option maxRecDepth 100000 in
def D_cache_Cache_Read (p0 : Option Addr) (n1 : Int) (w0 : World) (K : Value → World → Prop) : Prop :=
 Cal Tryz.prog F_cache_Cache_may #[.pointer p0, .int .i64 n1, .slice none 0 0, .slice none 0 0] w0 fun r11 w1 => ∃ n11 : Int, r11 = .int .i64 n11 ∧ (bif n11 != 0 then
 K (.tuple #[.slice none 0 0, .int .i64 n11]) w1
 else
 Cal Tryz.prog F_cache_Cache_ask #[.pointer p0, .int .i64 n1] w1 fun r18 w2 => ∃ p18a : Option Addr, ∃ n18b : Int, r18 = .tuple #[.pointer p18a, .int .i64 n18b] ∧ (bif n18b != 0 then
 K (.tuple #[.slice none 0 0, .int .i64 n18b]) w2
 else
 ∃ q25 : Addr, (.pointer p18a : Value) = .pointer (some q25) ∧ ∃ (a28 : Option Addr) (l28 c28 : Nat), Ru (Instr.loadAt 36 (.pointer (some (Addr.add (Addr.add q25 0) 0)))) w2 (.slice a28 l28 c28) w2 ∧ Cal Tryz.prog F_slices_Clone_byte #[.slice a28 l28 c28] w2 fun r29 w3 => ∃ (a29 : Option Addr) (l29 c29 : Nat), r29 = .slice a29 l29 c29 ∧ K (.tuple #[.slice a29 l29 c29, .int .i64 0]) w3))
set_option maxRecDepth 100000 in
theorem C_cache_Cache_Read (p0 : Option Addr) (n1 : Int) (w0 : World) (K : Value → World → Prop) (h : D_cache_Cache_Read p0 n1 w0 K) : Cal Tryz.prog F_cache_Cache_Read #[.pointer p0, .int .i64 n1] w0 K :=
 denF_sound (A := { S := [], ty := [], raw := [] }) mixed Tryz.func124 (by kernel_rfl) (by kernel_rfl) ((show denF Tryz.prog _ Tryz.f124 _ w0 K = D_cache_Cache_Read p0 n1 w0 K by kernel_rfl).mpr h)

/- levee.leveeref12.round: slots {5: 'n', 6: 'i'}; loop over [5, 6] -/
/- levee.leveeref03.Right: slots {2: '', 36: ''};  -/
/- levee.geo.Right: slots {2: ''};  -/
/- levee.geo.Size: slots {};  -/
/- (levee.disk.Disk).Flush: slots {15: ''}; loop over [15] -/
set_option maxRecDepth 100000 in
def D_disk_Disk_Flush (p0 : Option Addr) (w0 : World) (K : Value → World → Prop) : Prop :=
 (bif Option.isNone p0 then
 K (.int .i64 2) w0
 else
 Cal Tryz.prog F_disk_Disk_goes #[.pointer p0] w0 fun r10 w1 => ∃ b10 : Bool, r10 = .bool b10 ∧ (bif !b10 then
 K (.int .i64 0) w1
 else
 Cal Tryz.prog F_disk_Disk_Open #[.pointer p0] w1 fun r13 w2 => ∃ (a13 : Option Addr) (l13 c13 : Nat), r13 = .slice a13 l13 c13 ∧ LoopC (fun k x w3 =>
 ∃ n15 : Int, nth x 0 = .int .i64 n15 ∧ (bif decide (n15 < (l13 : Int)) then
 ∃ q17 : Addr, Al (Instr.indexAt 49 (.slice a13 l13 c13) (.int .i64 n15)) (.pointer (some q17)) ∧ ∃ n18 : Int, Ru (Instr.loadAt 3 (.pointer (some q17))) w3 (.int .i64 n18) w3 ∧ ∃ q20 : Addr, (.pointer p0 : Value) = .pointer (some q20) ∧ ∃ (a22 : Option Addr) (l22 c22 : Nat), Ru (Instr.loadAt 141 (.pointer (some (Addr.add q20 0)))) (drew w3) (.slice a22 l22 c22) (drew w3) ∧ Cal Tryz.prog F_disk_Disk_last #[.pointer p0, .int .i64 n18] (drew w3) fun r26 w4 => ∃ g26 : Array Value, r26 = .agg g26 ∧ Ru (Instr.loadAt 141 (.pointer (some (Addr.add q20 0)))) w4 (.slice a22 l22 c22) w4 ∧ ∃ q27 : Addr, Al (Instr.indexAt 141 (.slice a22 l22 c22) (.int .i64 n18)) (.pointer (some q27)) ∧ ∃ w5 : World, RuU (Instr.storeAt 164 (.pointer (some q27)) (.agg g26)) w4 w5 ∧ k [.int .i64 (IntKind.i64.wrap (n15 + 1))] w5
 else
 ∃ q30 : Addr, (.pointer p0 : Value) = .pointer (some q30) ∧ ∃ m32 : Option Nat, Ru (Instr.loadAt 142 (.pointer (some (Addr.add q30 1)))) w3 (.map m32) w3 ∧ ∃ w6 : World, Ru (Builtin.clear_ #[142] 0 #[.map m32]) w3 (.tuple #[]) w6 ∧ K (.int .i64 0) w6)) [.int .i64 0] w2))
set_option maxRecDepth 100000 in
theorem C_disk_Disk_Flush (p0 : Option Addr) (w0 : World) (K : Value → World → Prop) (h : D_disk_Disk_Flush p0 w0 K) : Cal Tryz.prog F_disk_Disk_Flush #[.pointer p0] w0 K :=
 denF_sound (A := { S := [15], ty := [(15, 3)], raw := [] }) mixed Tryz.func129 (by kernel_rfl) (by kernel_rfl) ((show denF Tryz.prog _ Tryz.f129 _ w0 K = D_disk_Disk_Flush p0 w0 K by kernel_rfl).mpr h)

/- levee.vol.each: slots {7: 'k', 10: 'data', 44: '', 55: ''}; loop over [10, 44, 55]; loop over [7, 10, 44, 55] -/
/- levee.super.Put: slots {};  -/
/- levee.leveeref13.groups: slots {5: 'out', 6: 'k', 13: 'i', 14: 't', 58: ''}; loop over [5, 13, 14, 58]; loop over [5, 6, 13, 14, 58] -/
/- levee.leveeref04.Put: slots {4: 'b'}; loop over [4] -/
/- (levee.disk.Disk).goes: slots {};  -/
set_option maxRecDepth 100000 in
def D_disk_Disk_goes (p0 : Option Addr) (w0 : World) (K : Value → World → Prop) : Prop :=
 ∃ q4 : Addr, (.pointer p0 : Value) = .pointer (some q4) ∧ ∃ n6 : Int, Ru (Instr.loadAt 3 (.pointer (some (Addr.add q4 2)))) w0 (.int .i64 n6) w0 ∧ (bif n6 == 0 then
 K (.bool false) w0
 else
 ∃ q10 : Addr, (.pointer p0 : Value) = .pointer (some q10) ∧ ∃ n12 : Int, Ru (Instr.loadAt 3 (.pointer (some (Addr.add q10 2)))) w0 (.int .i64 n12) w0 ∧ ∃ q15 : Addr, (.pointer p0 : Value) = .pointer (some q15) ∧ ∃ w1 : World, RuU (Instr.storeAt 3 (.pointer (some (Addr.add q15 2))) (.int .i64 (if (-1) > (IntKind.i64.wrap (n12 - 1)) then (-1) else (IntKind.i64.wrap (n12 - 1))))) w0 w1 ∧ K (.bool true) w1)
set_option maxRecDepth 100000 in
theorem C_disk_Disk_goes (p0 : Option Addr) (w0 : World) (K : Value → World → Prop) (h : D_disk_Disk_goes p0 w0 K) : Cal Tryz.prog F_disk_Disk_goes #[.pointer p0] w0 K :=
 denF_sound (A := { S := [], ty := [], raw := [] }) mixed Tryz.func134 (by kernel_rfl) (by kernel_rfl) ((show denF Tryz.prog _ Tryz.f134 _ w0 K = D_disk_Disk_goes p0 w0 K by kernel_rfl).mpr h)

/- (levee.leveeref02.Disk).goes: slots {};  -/
set_option maxRecDepth 100000 in
def D_leveeref02_Disk_goes (p0 : Option Addr) (w0 : World) (K : Value → World → Prop) : Prop :=
 Cal Tryz.prog F_leveeref02_Disk_Stopped #[.pointer p0] w0 fun r4 w1 => ∃ b4 : Bool, r4 = .bool b4 ∧ (bif b4 then
 K (.bool false) w1
 else
 ∃ q6 : Addr, (.pointer p0 : Value) = .pointer (some q6) ∧ ∃ b8 : Bool, Ru (Instr.loadAt 4 (.pointer (some (Addr.add q6 1)))) w1 (.bool b8) w1 ∧ Share (fun k => (bif b8 then
 ∃ q10 : Addr, (.pointer p0 : Value) = .pointer (some q10) ∧ ∃ n12 : Int, Ru (Instr.loadAt 3 (.pointer (some (Addr.add q10 2)))) w1 (.int .i64 n12) w1 ∧ ∃ q14 : Addr, (.pointer p0 : Value) = .pointer (some q14) ∧ ∃ w2 : World, RuU (Instr.storeAt 3 (.pointer (some (Addr.add q14 2))) (.int .i64 (IntKind.i64.wrap (n12 - 1)))) w1 w2 ∧ k [] w2
 else
 k [] w1)) fun x w3 =>
 K (.bool true) w3)
set_option maxRecDepth 100000 in
theorem C_leveeref02_Disk_goes (p0 : Option Addr) (w0 : World) (K : Value → World → Prop) (h : D_leveeref02_Disk_goes p0 w0 K) : Cal Tryz.prog F_leveeref02_Disk_goes #[.pointer p0] w0 K :=
 denF_sound (A := { S := [], ty := [], raw := [] }) mixed Tryz.func135 (by kernel_rfl) (by kernel_rfl) ((show denF Tryz.prog _ Tryz.f135 _ w0 K = D_leveeref02_Disk_goes p0 w0 K by kernel_rfl).mpr h)

/- (levee.disk.Disk).Read: slots {};  -/
set_option maxRecDepth 100000 in
def D_disk_Disk_Read (p0 : Option Addr) (n1 : Int) (w0 : World) (K : Value → World → Prop) : Prop :=
 Cal Tryz.prog F_disk_Disk_may #[.pointer p0, .int .i64 n1] w0 fun r10 w1 => ∃ n10 : Int, r10 = .int .i64 n10 ∧ (bif n10 != 0 then
 K (.tuple #[.slice none 0 0, .int .i64 n10]) w1
 else
 Cal Tryz.prog F_disk_Disk_last #[.pointer p0, .int .i64 n1] w1 fun r16 w2 => ∃ g16 : Array Value, r16 = .agg g16 ∧ ∃ q7 : Addr, ∃ w3 : World, Ru (Instr.alloc 164 true (.tuple #[])) w2 (.pointer (some q7)) w3 ∧ ∃ w4 : World, RuU (Instr.storeAt 164 (.pointer (some q7)) (.agg g16)) w3 w4 ∧ ∃ (a17 : Option Addr) (l17 c17 : Nat), Al (Instr.sliceAt 164 (.pointer (some q7)) none none none) (.slice a17 l17 c17) ∧ K (.tuple #[.slice a17 l17 c17, .int .i64 0]) w4)
set_option maxRecDepth 100000 in
theorem C_disk_Disk_Read (p0 : Option Addr) (n1 : Int) (w0 : World) (K : Value → World → Prop) (h : D_disk_Disk_Read p0 n1 w0 K) : Cal Tryz.prog F_disk_Disk_Read #[.pointer p0, .int .i64 n1] w0 K :=
 denF_sound (A := { S := [], ty := [], raw := [] }) mixed Tryz.func136 (by kernel_rfl) (by kernel_rfl) ((show denF Tryz.prog _ Tryz.f136 _ w0 K = D_disk_Disk_Read p0 n1 w0 K by kernel_rfl).mpr h)

/- levee.super.Choose: slots {19: '', 49: ''}; loop over [19, 49] -/
/- levee.geo.Slots: slots {};  -/
/- levee.leveeref04.Choose: slots {11: 'place', 12: 'i', 52: ''}; loop over [11, 12, 52] -/
/- (levee.leveeref13.Vol).Head: slots {};  -/
/- levee.leveeref03.Slots: slots {};  -/
/- (levee.leveeref13.Vol).Inode: slots {};  -/
/- (levee.vol.Vol).place: slots {};  -/
/- levee.inode.Read: slots {};  -/
/- levee.inode.Put: slots {36: ''}; loop over [36] -/
/- (levee.vol.Vol).head: slots {};  -/
/- levee.group.Get: slots {53: ''};  -/
/- levee.group.Put: slots {29: ''}; loop over [29] -/
/- (levee.vol.Vol).data: slots {};  -/
/- (levee.vol.Vol).may: slots {15: ''};  -/
/- (levee.vol.Vol).Prepare$1: slots {};  -/
/- levee.super.Next: slots {20: ''};  -/
/- slices.ContainsFunc[[]int64,int64]: slots {};  -/
set_option maxRecDepth 100000 in
def D_slices_ContainsFunc_int64 (a0 : Option Addr) (l0 c0 : Nat) (v1 : Value) (w0 : World) (K : Value → World → Prop) : Prop :=
 Cal Tryz.prog F_slices_IndexFunc_int64 #[.slice a0 l0 c0, v1] w0 fun r7 w1 => ∃ n7 : Int, r7 = .int .i64 n7 ∧ K (.bool (decide (n7 ≥ 0))) w1
set_option maxRecDepth 100000 in
theorem C_slices_ContainsFunc_int64 (a0 : Option Addr) (l0 c0 : Nat) (v1 : Value) (w0 : World) (K : Value → World → Prop) (h : D_slices_ContainsFunc_int64 a0 l0 c0 v1 w0 K) : Cal Tryz.prog F_slices_ContainsFunc_int64 #[.slice a0 l0 c0, v1] w0 K :=
 denF_sound (A := { S := [], ty := [], raw := [] }) mixed Tryz.func153 (by kernel_rfl) (by kernel_rfl) ((show denF Tryz.prog _ Tryz.f153 _ w0 K = D_slices_ContainsFunc_int64 a0 l0 c0 v1 w0 K by kernel_rfl).mpr h)

/- (levee.patch.Store).Patch$1: slots {};  -/
set_option maxRecDepth 100000 in
def D_patch_Store_Patch_1 (n0 : Int) (v1 : Value) (w0 : World) (K : Value → World → Prop) : Prop :=
 ∃ p4 : Option Addr, Ru (Instr.loadAt 30 v1) w0 (.pointer p4) w0 ∧ Cal Tryz.prog F_patch_Store_given #[.pointer p4, .int .i64 n0] w0 fun r6 w1 => ∃ b6 : Bool, r6 = .bool b6 ∧ K (.bool (!b6)) w1
set_option maxRecDepth 100000 in
theorem C_patch_Store_Patch_1 (n0 : Int) (v1 : Value) (w0 : World) (K : Value → World → Prop) (h : D_patch_Store_Patch_1 n0 v1 w0 K) : Cal Tryz.prog F_patch_Store_Patch_1 #[.int .i64 n0, v1] w0 K :=
 denF_sound (A := { S := [], ty := [], raw := [] }) mixed Tryz.func154 (by kernel_rfl) (by kernel_rfl) ((show denF Tryz.prog _ Tryz.f154 _ w0 K = D_patch_Store_Patch_1 n0 v1 w0 K by kernel_rfl).mpr h)

/- (levee.cache.Cache).Pin: slots {};  -/
set_option maxRecDepth 100000 in
def D_cache_Cache_Pin (p0 : Option Addr) (n1 : Int) (w0 : World) (K : Value → World → Prop) : Prop :=
 Cal Tryz.prog F_cache_Cache_held #[.pointer p0, .int .i64 n1] w0 fun r10 w1 => ∃ p10a : Option Addr, ∃ n10b : Int, r10 = .tuple #[.pointer p10a, .int .i64 n10b] ∧ Share (fun k => (bif n10b == 0 then
 ∃ q16 : Addr, (.pointer p10a : Value) = .pointer (some q16) ∧ ∃ n18 : Int, Ru (Instr.loadAt 3 (.pointer (some (Addr.add q16 1)))) w1 (.int .i64 n18) w1 ∧ ∃ q20 : Addr, (.pointer p10a : Value) = .pointer (some q20) ∧ ∃ w2 : World, RuU (Instr.storeAt 3 (.pointer (some (Addr.add q20 1))) (.int .i64 (IntKind.i64.wrap (n18 + 1)))) w1 w2 ∧ k [] w2
 else
 k [] w1)) fun x w3 =>
 K (.int .i64 n10b) w3
set_option maxRecDepth 100000 in
theorem C_cache_Cache_Pin (p0 : Option Addr) (n1 : Int) (w0 : World) (K : Value → World → Prop) (h : D_cache_Cache_Pin p0 n1 w0 K) : Cal Tryz.prog F_cache_Cache_Pin #[.pointer p0, .int .i64 n1] w0 K :=
 denF_sound (A := { S := [], ty := [], raw := [] }) mixed Tryz.func155 (by kernel_rfl) (by kernel_rfl) ((show denF Tryz.prog _ Tryz.f155 _ w0 K = D_cache_Cache_Pin p0 n1 w0 K by kernel_rfl).mpr h)

/- levee.num.Lay: slots {};  -/
set_option maxRecDepth 100000 in
def D_num_Lay (a0 : Option Addr) (l0 c0 : Nat) (n1 : Int) (a2 : Option Addr) (l2 c2 : Nat) (w0 : World) (K : Value → World → Prop) : Prop :=
 Cal Tryz.prog F_num_within #[.slice a0 l0 c0, .int .i64 n1, .int .i64 ((l2 : Int))] w0 fun r13 w1 => ∃ b13 : Bool, r13 = .bool b13 ∧ (bif !b13 then
 K (.tuple #[.slice none 0 0, .int .i64 3]) w1
 else
 ∃ (a17 : Option Addr) (l17 c17 : Nat), ∃ w2 : World, Ru (Instr.makeSlice 36 (.int .i64 ((l0 : Int))) (.int .i64 ((l0 : Int)))) w1 (.slice a17 l17 c17) w2 ∧ ∃ n20 : Int, ∃ w3 : World, Ru (Builtin.copy_ #[36, 36] 3 #[.slice a17 l17 c17, .slice a0 l0 c0]) w2 (.int .i64 n20) w3 ∧ ∃ (a23 : Option Addr) (l23 c23 : Nat), Al (Instr.sliceAt 36 (.slice a17 l17 c17) (some (.int .i64 n1)) none none) (.slice a23 l23 c23) ∧ ∃ n25 : Int, ∃ w4 : World, Ru (Builtin.copy_ #[36, 36] 3 #[.slice a23 l23 c23, .slice a2 l2 c2]) w3 (.int .i64 n25) w4 ∧ K (.tuple #[.slice a17 l17 c17, .int .i64 0]) w4)
set_option maxRecDepth 100000 in
theorem C_num_Lay (a0 : Option Addr) (l0 c0 : Nat) (n1 : Int) (a2 : Option Addr) (l2 c2 : Nat) (w0 : World) (K : Value → World → Prop) (h : D_num_Lay a0 l0 c0 n1 a2 l2 c2 w0 K) : Cal Tryz.prog F_num_Lay #[.slice a0 l0 c0, .int .i64 n1, .slice a2 l2 c2] w0 K :=
 denF_sound (A := { S := [], ty := [], raw := [] }) mixed Tryz.func156 (by kernel_rfl) (by kernel_rfl) ((show denF Tryz.prog _ Tryz.f156 _ w0 K = D_num_Lay a0 l0 c0 n1 a2 l2 c2 w0 K by kernel_rfl).mpr h)

/- (levee.cache.Cache).Lay: slots {};  -/
set_option maxRecDepth 100000 in
def D_cache_Cache_Lay (p0 : Option Addr) (n1 : Int) (a2 : Option Addr) (l2 c2 : Nat) (w0 : World) (K : Value → World → Prop) : Prop :=
 ∃ (a13 : Option Addr) (l13 c13 : Nat), ∃ w1 : World, Ru (Instr.buildSlice 49 1 #[(0, .int .i64 256)]) w0 (.slice a13 l13 c13) w1 ∧ Cal Tryz.prog F_cache_Cache_may #[.pointer p0, .int .i64 n1, .slice a2 l2 c2, .slice a13 l13 c13] w1 fun r14 w2 => ∃ n14 : Int, r14 = .int .i64 n14 ∧ (bif n14 != 0 then
 K (.int .i64 n14) w2
 else
 Cal Tryz.prog F_cache_Cache_ask #[.pointer p0, .int .i64 n1] w2 fun r21 w3 => ∃ p21a : Option Addr, ∃ n21b : Int, r21 = .tuple #[.pointer p21a, .int .i64 n21b] ∧ Share (fun k => (bif n21b == 0 then
 Cal Tryz.prog F_slices_Clone_byte #[.slice a2 l2 c2] w3 fun r28 w4 => ∃ (a28 : Option Addr) (l28 c28 : Nat), r28 = .slice a28 l28 c28 ∧ ∃ q29 : Addr, (.pointer p21a : Value) = .pointer (some q29) ∧ ∃ w5 : World, RuU (Instr.storeAt 36 (.pointer (some (Addr.add (Addr.add q29 0) 0))) (.slice a28 l28 c28)) w4 w5 ∧ k [] w5
 else
 k [] w3)) fun x w6 =>
 K (.int .i64 n21b) w6)
set_option maxRecDepth 100000 in
theorem C_cache_Cache_Lay (p0 : Option Addr) (n1 : Int) (a2 : Option Addr) (l2 c2 : Nat) (w0 : World) (K : Value → World → Prop) (h : D_cache_Cache_Lay p0 n1 a2 l2 c2 w0 K) : Cal Tryz.prog F_cache_Cache_Lay #[.pointer p0, .int .i64 n1, .slice a2 l2 c2] w0 K :=
 denF_sound (A := { S := [], ty := [], raw := [] }) mixed Tryz.func157 (by kernel_rfl) (by kernel_rfl) ((show denF Tryz.prog _ Tryz.f157 _ w0 K = D_cache_Cache_Lay p0 n1 a2 l2 c2 w0 K by kernel_rfl).mpr h)

/- slices.Clone[[]byte,byte]: slots {};  -/
set_option maxRecDepth 100000 in
def D_slices_Clone_byte (a0 : Option Addr) (l0 c0 : Nat) (w0 : World) (K : Value → World → Prop) : Prop :=
 ∃ b4 : Bool, Al (eqS .eql 36 (.tmp 3) (.const (.slice none 0 0)) (.slice a0 l0 c0) (.slice none 0 0)) (.bool b4) ∧ (bif b4 then
 K (.slice none 0 0) w0
 else
 ∃ (a5 : Option Addr) (l5 c5 : Nat), ∃ w1 : World, Ru (Instr.buildSlice 36 0 #[]) w0 (.slice a5 l5 c5) w1 ∧ ∃ (a7 : Option Addr) (l7 c7 : Nat), ∃ w2 : World, Ru (Builtin.append_ #[36, 36] 36 #[.slice a5 l5 c5, .slice a0 l0 c0]) w1 (.slice a7 l7 c7) w2 ∧ K (.slice a7 l7 c7) w2)
set_option maxRecDepth 100000 in
theorem C_slices_Clone_byte (a0 : Option Addr) (l0 c0 : Nat) (w0 : World) (K : Value → World → Prop) (h : D_slices_Clone_byte a0 l0 c0 w0 K) : Cal Tryz.prog F_slices_Clone_byte #[.slice a0 l0 c0] w0 K :=
 denF_sound (A := { S := [], ty := [], raw := [] }) mixed Tryz.func158 (by kernel_rfl) (by kernel_rfl) ((show denF Tryz.prog _ Tryz.f158 _ w0 K = D_slices_Clone_byte a0 l0 c0 w0 K by kernel_rfl).mpr h)

/- (levee.leveeref11.Store).there: slots {4: ''};  -/
set_option maxRecDepth 100000 in
def D_leveeref11_Store_there (p0 : Option Addr) (n1 : Int) (w0 : World) (K : Value → World → Prop) : Prop :=
 Share (fun k => (bif decide (n1 ≥ 0) then ∃ q10 : Addr, (.pointer p0 : Value) = .pointer (some q10) ∧ ∃ (a12 : Option Addr) (l12 c12 : Nat), Ru (Instr.loadAt 40 (.pointer (some (Addr.add q10 1)))) w0 (.slice a12 l12 c12) w0 ∧ k [.bool (decide (n1 < (l12 : Int)))] w0 else k [.bool false] w0)) fun x w1 =>
 ∃ b4 : Bool, nth x 0 = .bool b4 ∧ K (.bool b4) w1
set_option maxRecDepth 100000 in
theorem C_leveeref11_Store_there (p0 : Option Addr) (n1 : Int) (w0 : World) (K : Value → World → Prop) (h : D_leveeref11_Store_there p0 n1 w0 K) : Cal Tryz.prog F_leveeref11_Store_there #[.pointer p0, .int .i64 n1] w0 K :=
 denF_sound (A := { S := [4], ty := [(4, 4)], raw := [] }) mixed Tryz.func159 (by kernel_rfl) (by kernel_rfl) ((show denF Tryz.prog _ Tryz.f159 _ w0 K = D_leveeref11_Store_there p0 n1 w0 K by kernel_rfl).mpr h)

/- (levee.patch.Store).Image$1: slots {};  -/
set_option maxRecDepth 100000 in
def D_patch_Store_Image_1 (p0 : Option Addr) (v1 : Value) (w0 : World) (K : Value → World → Prop) : Prop :=
 ∃ m4 : Option Nat, Ru (Instr.loadAt 176 v1) (drew w0) (.map m4) (drew w0) ∧ ∃ q6 : Addr, (.pointer p0 : Value) = .pointer (some q6) ∧ ∃ n8 : Int, Ru (Instr.loadAt 2 (.pointer (some (Addr.add q6 0)))) (drew w0) (.int .i64 n8) (drew w0) ∧ ∃ b9 : Bool, Ru (Instr.lookup 176 (.map m4) (.int .i64 n8) false) (drew w0) (.bool b9) (drew w0) ∧ K (.bool b9) (drew w0)
set_option maxRecDepth 100000 in
theorem C_patch_Store_Image_1 (p0 : Option Addr) (v1 : Value) (w0 : World) (K : Value → World → Prop) (h : D_patch_Store_Image_1 p0 v1 w0 K) : Cal Tryz.prog F_patch_Store_Image_1 #[.pointer p0, v1] w0 K :=
 denF_sound (A := { S := [], ty := [], raw := [] }) mixed Tryz.func160 (by kernel_rfl) (by kernel_rfl) ((show denF Tryz.prog _ Tryz.f160 _ w0 K = D_patch_Store_Image_1 p0 v1 w0 K by kernel_rfl).mpr h)

/- (levee.leveeref11.Store).find: slots {5: 'i'}; loop over [5] -/
set_option maxRecDepth 100000 in
def D_leveeref11_Store_find (p0 : Option Addr) (n1 : Int) (w0 : World) (K : Value → World → Prop) : Prop :=
 LoopC (fun k x w1 =>
 ∃ n5 : Int, nth x 0 = .int .i64 n5 ∧ ∃ q8 : Addr, (.pointer p0 : Value) = .pointer (some q8) ∧ ∃ (a10 : Option Addr) (l10 c10 : Nat), Ru (Instr.loadAt 41 (.pointer (some (Addr.add q8 2)))) w1 (.slice a10 l10 c10) w1 ∧ (bif decide (n5 < (l10 : Int)) then
 ∃ q16 : Addr, (.pointer p0 : Value) = .pointer (some q16) ∧ ∃ (a18 : Option Addr) (l18 c18 : Nat), Ru (Instr.loadAt 41 (.pointer (some (Addr.add q16 2)))) w1 (.slice a18 l18 c18) w1 ∧ ∃ q20 : Addr, Al (Instr.indexAt 41 (.slice a18 l18 c18) (.int .i64 n5)) (.pointer (some q20)) ∧ ∃ n22 : Int, Ru (Instr.loadAt 2 (.pointer (some (Addr.add q20 0)))) w1 (.int .i64 n22) w1 ∧ (bif n22 == n1 then
 K (.int .i64 n5) w1
 else
 k [.int .i64 (IntKind.i64.wrap (n5 + 1))] w1)
 else
 K (.int .i64 ((-1))) w1)) [.int .i64 0] w0
set_option maxRecDepth 100000 in
theorem C_leveeref11_Store_find (p0 : Option Addr) (n1 : Int) (w0 : World) (K : Value → World → Prop) (h : D_leveeref11_Store_find p0 n1 w0 K) : Cal Tryz.prog F_leveeref11_Store_find #[.pointer p0, .int .i64 n1] w0 K :=
 denF_sound (A := { S := [5], ty := [(5, 3)], raw := [] }) mixed Tryz.func161 (by kernel_rfl) (by kernel_rfl) ((show denF Tryz.prog _ Tryz.f161 _ w0 K = D_leveeref11_Store_find p0 n1 w0 K by kernel_rfl).mpr h)

/- levee.leveeref11.meet: slots {4: ''};  -/
set_option maxRecDepth 100000 in
def D_leveeref11_meet (g0 : Array Value) (g1 : Array Value) (w0 : World) (K : Value → World → Prop) : Prop :=
 ∃ q2 : Addr, ∃ w1 : World, Ru (Instr.box 186 (.agg g0)) w0 (.pointer (some q2)) w1 ∧ ∃ q3 : Addr, ∃ w2 : World, Ru (Instr.box 186 (.agg g1)) w1 (.pointer (some q3)) w2 ∧ Share (fun k => ∃ n6 : Int, Ru (Instr.loadAt 3 (.pointer (some (Addr.add q2 1)))) w2 (.int .i64 n6) w2 ∧ ∃ n8 : Int, Ru (Instr.loadAt 3 (.pointer (some (Addr.add q3 1)))) w2 (.int .i64 n8) w2 ∧ (bif n6 == n8 then ∃ n12 : Int, Ru (Instr.loadAt 3 (.pointer (some (Addr.add q2 2)))) w2 (.int .i64 n12) w2 ∧ ∃ n14 : Int, Ru (Instr.loadAt 3 (.pointer (some (Addr.add q3 2)))) w2 (.int .i64 n14) w2 ∧ ∃ s16 : ByteArray, Ru (Instr.loadAt 9 (.pointer (some (Addr.add q3 3)))) w2 (.string s16) w2 ∧ (bif decide (n12 < (IntKind.i64.wrap (n14 + (ByteArray.size s16 : Int)))) then ∃ n23 : Int, Ru (Instr.loadAt 3 (.pointer (some (Addr.add q3 2)))) w2 (.int .i64 n23) w2 ∧ ∃ n25 : Int, Ru (Instr.loadAt 3 (.pointer (some (Addr.add q2 2)))) w2 (.int .i64 n25) w2 ∧ ∃ s27 : ByteArray, Ru (Instr.loadAt 9 (.pointer (some (Addr.add q2 3)))) w2 (.string s27) w2 ∧ k [.bool (decide (n23 < (IntKind.i64.wrap (n25 + (ByteArray.size s27 : Int)))))] w2 else k [.bool false] w2) else k [.bool false] w2)) fun x w3 =>
 ∃ b4 : Bool, nth x 0 = .bool b4 ∧ K (.bool b4) w3
set_option maxRecDepth 100000 in
theorem C_leveeref11_meet (g0 : Array Value) (g1 : Array Value) (w0 : World) (K : Value → World → Prop) (h : D_leveeref11_meet g0 g1 w0 K) : Cal Tryz.prog F_leveeref11_meet #[.agg g0, .agg g1] w0 K :=
 denF_sound (A := { S := [4], ty := [(4, 4)], raw := [] }) mixed Tryz.func162 (by kernel_rfl) (by kernel_rfl) ((show denF Tryz.prog _ Tryz.f162 _ w0 K = D_leveeref11_meet g0 g1 w0 K by kernel_rfl).mpr h)

/- slices.pdqsortOrdered[int]: slots {1: 'a', 2: 'b', 3: 'limit', 8: 'wasBalanced', 9: 'wasPartitioned', 11: 'pivot', 12: 'hint', 68: '', 87: ''}; loop over [1, 2, 3, 8, 9, 11, 12, 68, 87] -/
/- math.bits.Len: slots {};  -/
/- (levee.cache.Cache).may: slots {12: '', 24: ''};  -/
set_option maxRecDepth 100000 in
def D_cache_Cache_may (p0 : Option Addr) (n1 : Int) (a2 : Option Addr) (l2 c2 : Nat) (a3 : Option Addr) (l3 c3 : Nat) (w0 : World) (K : Value → World → Prop) : Prop :=
 (bif Option.isNone p0 then
 K (.int .i64 2) w0
 else
 Share (fun k => (bif decide (n1 < 0) then k [.bool true] w0 else ∃ q18 : Addr, (.pointer p0 : Value) = .pointer (some q18) ∧ ∃ p20 : Option Addr, Ru (Instr.loadAt 23 (.pointer (some (Addr.add q18 0)))) w0 (.pointer p20) w0 ∧ Cal Tryz.prog F_disk_Disk_Len #[.pointer p20] w0 fun r21 w1 => ∃ n21 : Int, r21 = .int .i64 n21 ∧ k [.bool (decide (n1 ≥ n21))] w1)) fun x w2 =>
 ∃ b12 : Bool, nth x 0 = .bool b12 ∧ (bif b12 then
 K (.int .i64 3) w2
 else
 Share (fun k_2 => (bif decide ((l3 : Int) > 0) then Cal Tryz.prog F_slices_Contains_int #[.slice a3 l3 c3, .int .i64 ((l2 : Int))] w2 fun r32 w3 => ∃ b32 : Bool, r32 = .bool b32 ∧ k_2 [.bool (!b32)] w3 else k_2 [.bool false] w2)) fun x_2 w4 =>
 ∃ b24 : Bool, nth x_2 0 = .bool b24 ∧ (bif b24 then
 K (.int .i64 4) w4
 else
 K (.int .i64 0) w4)))
set_option maxRecDepth 100000 in
theorem C_cache_Cache_may (p0 : Option Addr) (n1 : Int) (a2 : Option Addr) (l2 c2 : Nat) (a3 : Option Addr) (l3 c3 : Nat) (w0 : World) (K : Value → World → Prop) (h : D_cache_Cache_may p0 n1 a2 l2 c2 a3 l3 c3 w0 K) : Cal Tryz.prog F_cache_Cache_may #[.pointer p0, .int .i64 n1, .slice a2 l2 c2, .slice a3 l3 c3] w0 K :=
 denF_sound (A := { S := [12, 24], ty := [(12, 4), (24, 4)], raw := [] }) mixed Tryz.func165 (by kernel_rfl) (by kernel_rfl) ((show denF Tryz.prog _ Tryz.f165 _ w0 K = D_cache_Cache_may p0 n1 a2 l2 c2 a3 l3 c3 w0 K by kernel_rfl).mpr h)

/- (levee.cache.Cache).ask: slots {};  -/
set_option maxRecDepth 100000 in
def D_cache_Cache_ask (p0 : Option Addr) (n1 : Int) (w0 : World) (K : Value → World → Prop) : Prop :=
 ∃ q3 : Addr, ∃ w1 : World, Ru (Instr.box 3 (.int .i64 n1)) w0 (.pointer (some q3)) w1 ∧ ∃ q14 : Addr, (.pointer p0 : Value) = .pointer (some q14) ∧ ∃ m16 : Option Nat, Ru (Instr.loadAt 227 (.pointer (some (Addr.add q14 2)))) (drew w1) (.map m16) (drew w1) ∧ ∃ n17 : Int, Ru (Instr.loadAt 3 (.pointer (some q3))) (drew w1) (.int .i64 n17) (drew w1) ∧ ∃ p18a : Option Addr, ∃ b18b : Bool, Ru (Instr.lookup 227 (.map m16) (.int .i64 n17) true) (drew w1) (.tuple #[.pointer p18a, .bool b18b]) (drew w1) ∧ (bif b18b then
 ∃ q24 : Addr, (.pointer p0 : Value) = .pointer (some q24) ∧ ∃ (a26 : Option Addr) (l26 c26 : Nat), Ru (Instr.loadAt 49 (.pointer (some (Addr.add q24 3)))) (drew (drew w1)) (.slice a26 l26 c26) (drew (drew w1)) ∧ ∃ n29 : Int, Ru (Instr.loadAt 3 (.pointer (some q3))) (drew (drew w1)) (.int .i64 n29) (drew (drew w1)) ∧ (Cal Tryz.prog F_slices_DeleteFunc_int #[.slice a26 l26 c26, .func (.func F_cache_Cache_ask_1) #[] #[.pointer (some q3)]] (drew (drew w1)) fun r28 w2 => ∃ (a28 : Option Addr) (l28 c28 : Nat), r28 = .slice a28 l28 c28 ∧ Ru (Instr.loadAt 3 (.pointer (some q3))) w2 (.int .i64 n29) w2 ∧ ∃ (a30 : Option Addr) (l30 c30 : Nat), ∃ w3 : World, Ru (Instr.buildSlice 49 1 #[(0, .int .i64 n29)]) w2 (.slice a30 l30 c30) w3 ∧ Ru (Instr.loadAt 49 (.pointer (some (Addr.add q24 3)))) w3 (.slice a26 l26 c26) w3 ∧ ∃ (a31 : Option Addr) (l31 c31 : Nat), ∃ w4 : World, Ru (Builtin.append_ #[49, 49] 49 #[.slice a28 l28 c28, .slice a30 l30 c30]) w3 (.slice a31 l31 c31) w4 ∧ ∃ q32 : Addr, (.pointer p0 : Value) = .pointer (some q32) ∧ ∃ w5 : World, RuU (Instr.storeAt 49 (.pointer (some (Addr.add q32 3))) (.slice a31 l31 c31)) w4 w5 ∧ K (.tuple #[.pointer p18a, .int .i64 0]) w5) ∧ (∃ (a30_2 : Option Addr) (l30_2 c30_2 : Nat), ∃ w6 : World, Ru (Instr.buildSlice 49 1 #[(0, .int .i64 n29)]) (drew (drew w1)) (.slice a30_2 l30_2 c30_2) w6 ∧ Ru (Instr.loadAt 49 (.pointer (some (Addr.add q24 3)))) w6 (.slice a26 l26 c26) w6 ∧ Cal Tryz.prog F_slices_DeleteFunc_int #[.slice a26 l26 c26, .func (.func F_cache_Cache_ask_1) #[] #[.pointer (some q3)]] w6 fun r28_2 w7 => ∃ (a28_2 : Option Addr) (l28_2 c28_2 : Nat), r28_2 = .slice a28_2 l28_2 c28_2 ∧ Ru (Instr.loadAt 3 (.pointer (some q3))) w7 (.int .i64 n29) w7 ∧ ∃ (a31_2 : Option Addr) (l31_2 c31_2 : Nat), ∃ w8 : World, Ru (Builtin.append_ #[49, 49] 49 #[.slice a28_2 l28_2 c28_2, .slice a30_2 l30_2 c30_2]) w7 (.slice a31_2 l31_2 c31_2) w8 ∧ ∃ q32_2 : Addr, (.pointer p0 : Value) = .pointer (some q32_2) ∧ ∃ w9 : World, RuU (Instr.storeAt 49 (.pointer (some (Addr.add q32_2 3))) (.slice a31_2 l31_2 c31_2)) w8 w9 ∧ K (.tuple #[.pointer p18a, .int .i64 0]) w9)
 else
 Cal Tryz.prog F_cache_Cache_room #[.pointer p0] (drew w1) fun r36 w10 => ∃ n36 : Int, r36 = .int .i64 n36 ∧ (bif n36 != 0 then
 K (.tuple #[.pointer none, .int .i64 n36]) w10
 else
 ∃ q42 : Addr, (.pointer p0 : Value) = .pointer (some q42) ∧ ∃ p44 : Option Addr, Ru (Instr.loadAt 23 (.pointer (some (Addr.add q42 0)))) (drew w10) (.pointer p44) (drew w10) ∧ ∃ n45 : Int, Ru (Instr.loadAt 3 (.pointer (some q3))) (drew w10) (.int .i64 n45) (drew w10) ∧ Cal Tryz.prog F_disk_Disk_Read #[.pointer p44, .int .i64 n45] (drew w10) fun r46 w11 => ∃ (a46a : Option Addr) (l46a c46a : Nat), ∃ n46b : Int, r46 = .tuple #[.slice a46a l46a c46a, .int .i64 n46b] ∧ (bif n46b != 0 then
 K (.tuple #[.pointer none, .int .i64 n46b]) w11
 else
 ∃ g53 : Array Value, Al (Instr.build 242 #[(0, .slice a46a l46a c46a)]) (.agg g53) ∧ ∃ g54 : Array Value, Al (Instr.build 244 #[(0, .agg g53)]) (.agg g54) ∧ ∃ q55 : Addr, ∃ w12 : World, Ru (Instr.box 244 (.agg g54)) w11 (.pointer (some q55)) w12 ∧ ∃ q57 : Addr, (.pointer p0 : Value) = .pointer (some q57) ∧ ∃ m59 : Option Nat, Ru (Instr.loadAt 227 (.pointer (some (Addr.add q57 2)))) (drew w12) (.map m59) (drew w12) ∧ ∃ n60 : Int, Ru (Instr.loadAt 3 (.pointer (some q3))) (drew w12) (.int .i64 n60) (drew w12) ∧ ∃ w13 : World, RuU (Instr.mapUpdate 227 (.map m59) (.int .i64 n60) (.pointer (some q55))) (drew w12) w13 ∧ ∃ q64 : Addr, (.pointer p0 : Value) = .pointer (some q64) ∧ ∃ (a66 : Option Addr) (l66 c66 : Nat), Ru (Instr.loadAt 49 (.pointer (some (Addr.add q64 3)))) (drew w13) (.slice a66 l66 c66) (drew w13) ∧ ∃ n67 : Int, Ru (Instr.loadAt 3 (.pointer (some q3))) (drew w13) (.int .i64 n67) (drew w13) ∧ ∃ (a68 : Option Addr) (l68 c68 : Nat), ∃ w14 : World, Ru (Instr.buildSlice 49 1 #[(0, .int .i64 n67)]) (drew w13) (.slice a68 l68 c68) w14 ∧ Ru (Instr.loadAt 49 (.pointer (some (Addr.add q64 3)))) w14 (.slice a66 l66 c66) w14 ∧ ∃ (a69 : Option Addr) (l69 c69 : Nat), ∃ w15 : World, Ru (Builtin.append_ #[49, 49] 49 #[.slice a66 l66 c66, .slice a68 l68 c68]) w14 (.slice a69 l69 c69) w15 ∧ ∃ q70 : Addr, (.pointer p0 : Value) = .pointer (some q70) ∧ ∃ w16 : World, RuU (Instr.storeAt 49 (.pointer (some (Addr.add q70 3))) (.slice a69 l69 c69)) w15 w16 ∧ K (.tuple #[.pointer (some q55), .int .i64 0]) w16)))
set_option maxRecDepth 100000 in
theorem C_cache_Cache_ask (p0 : Option Addr) (n1 : Int) (w0 : World) (K : Value → World → Prop) (h : D_cache_Cache_ask p0 n1 w0 K) : Cal Tryz.prog F_cache_Cache_ask #[.pointer p0, .int .i64 n1] w0 K :=
 denF_sound (A := { S := [], ty := [], raw := [] }) mixed Tryz.func166 (by kernel_rfl) (by kernel_rfl) ((show denF Tryz.prog _ Tryz.f166 _ w0 K = D_cache_Cache_ask p0 n1 w0 K by kernel_rfl).mpr h)

/- (levee.patch.Store).may$1: slots {4: ''};  -/
set_option maxRecDepth 100000 in
def D_patch_Store_may_1 (n0 : Int) (v1 : Value) (v2 : Value) (w0 : World) (K : Value → World → Prop) : Prop :=
 Share (fun k => ∃ p5 : Option Addr, Ru (Instr.loadAt 30 v1) w0 (.pointer p5) w0 ∧ ∃ q6 : Addr, (.pointer p5 : Value) = .pointer (some q6) ∧ ∃ m8 : Option Nat, Ru (Instr.loadAt 154 (.pointer (some (Addr.add q6 3)))) w0 (.map m8) w0 ∧ ∃ p10 : Option Addr, Ru (Instr.lookup 154 (.map m8) (.int .i64 n0) false) w0 (.pointer p10) w0 ∧ (bif !(Option.isNone p10) then ∃ m13 : Option Nat, Ru (Instr.loadAt 176 v2) w0 (.map m13) w0 ∧ ∃ b15 : Bool, Ru (Instr.lookup 176 (.map m13) (.int .i64 n0) false) w0 (.bool b15) w0 ∧ k [.bool (!b15)] w0 else k [.bool false] w0)) fun x w1 =>
 ∃ b4 : Bool, nth x 0 = .bool b4 ∧ K (.bool b4) w1
set_option maxRecDepth 100000 in
theorem C_patch_Store_may_1 (n0 : Int) (v1 : Value) (v2 : Value) (w0 : World) (K : Value → World → Prop) (h : D_patch_Store_may_1 n0 v1 v2 w0 K) : Cal Tryz.prog F_patch_Store_may_1 #[.int .i64 n0, v1, v2] w0 K :=
 denF_sound (A := { S := [4], ty := [(4, 4)], raw := [] }) mixed Tryz.func167 (by kernel_rfl) (by kernel_rfl) ((show denF Tryz.prog _ Tryz.f167 _ w0 K = D_patch_Store_may_1 n0 v1 v2 w0 K by kernel_rfl).mpr h)

/- slices.ContainsFunc[[]levee.patch.change,levee.patch.change]: slots {};  -/
set_option maxRecDepth 100000 in
def D_slices_ContainsFunc_patch_change (a0 : Option Addr) (l0 c0 : Nat) (v1 : Value) (w0 : World) (K : Value → World → Prop) : Prop :=
 Cal Tryz.prog F_slices_IndexFunc_patch_change #[.slice a0 l0 c0, v1] w0 fun r7 w1 => ∃ n7 : Int, r7 = .int .i64 n7 ∧ K (.bool (decide (n7 ≥ 0))) w1
set_option maxRecDepth 100000 in
theorem C_slices_ContainsFunc_patch_change (a0 : Option Addr) (l0 c0 : Nat) (v1 : Value) (w0 : World) (K : Value → World → Prop) (h : D_slices_ContainsFunc_patch_change a0 l0 c0 v1 w0 K) : Cal Tryz.prog F_slices_ContainsFunc_patch_change #[.slice a0 l0 c0, v1] w0 K :=
 denF_sound (A := { S := [], ty := [], raw := [] }) mixed Tryz.func168 (by kernel_rfl) (by kernel_rfl) ((show denF Tryz.prog _ Tryz.f168 _ w0 K = D_slices_ContainsFunc_patch_change a0 l0 c0 v1 w0 K by kernel_rfl).mpr h)

/- (levee.patch.Store).may$2: slots {4: ''};  -/
set_option maxRecDepth 100000 in
def D_patch_Store_may_2 (p0 : Option Addr) (v1 : Value) (v2 : Value) (w0 : World) (K : Value → World → Prop) : Prop :=
 Share (fun k => ∃ p6 : Option Addr, Ru (Instr.loadAt 181 v1) (drew w0) (.pointer p6) (drew w0) ∧ Cal Tryz.prog F_patch_change_meets #[.pointer p0, .pointer p6] (drew w0) fun r7 w1 => ∃ b7 : Bool, r7 = .bool b7 ∧ (bif b7 then ∃ m9 : Option Nat, Ru (Instr.loadAt 176 v2) w1 (.map m9) w1 ∧ ∃ q11 : Addr, (.pointer p0 : Value) = .pointer (some q11) ∧ ∃ n13 : Int, Ru (Instr.loadAt 2 (.pointer (some (Addr.add q11 0)))) w1 (.int .i64 n13) w1 ∧ ∃ b14 : Bool, Ru (Instr.lookup 176 (.map m9) (.int .i64 n13) false) w1 (.bool b14) w1 ∧ k [.bool (!b14)] w1 else k [.bool false] w1)) fun x w2 =>
 ∃ b4 : Bool, nth x 0 = .bool b4 ∧ K (.bool b4) w2
set_option maxRecDepth 100000 in
theorem C_patch_Store_may_2 (p0 : Option Addr) (v1 : Value) (v2 : Value) (w0 : World) (K : Value → World → Prop) (h : D_patch_Store_may_2 p0 v1 v2 w0 K) : Cal Tryz.prog F_patch_Store_may_2 #[.pointer p0, v1, v2] w0 K :=
 denF_sound (A := { S := [4], ty := [(4, 4)], raw := [] }) mixed Tryz.func169 (by kernel_rfl) (by kernel_rfl) ((show denF Tryz.prog _ Tryz.f169 _ w0 K = D_patch_Store_may_2 p0 v1 v2 w0 K by kernel_rfl).mpr h)

/- slices.IndexFunc[[]levee.patch.change,levee.patch.change]: slots {8: ''}; loop over [8] -/
set_option maxRecDepth 100000 in
def D_slices_IndexFunc_patch_change (a0 : Option Addr) (l0 c0 : Nat) (v1 : Value) (w0 : World) (K : Value → World → Prop) : Prop :=
 LoopC (fun k x w1 =>
 ∃ n8 : Int, nth x 0 = .int .i64 n8 ∧ (bif decide (n8 < (l0 : Int)) then
 ∃ q14 : Addr, Al (Instr.indexAt 178 (.slice a0 l0 c0) (.int .i64 n8)) (.pointer (some q14)) ∧ ∃ p15 : Option Addr, Ru (Instr.loadAt 181 (.pointer (some q14))) w1 (.pointer p15) w1 ∧ Dyn Tryz.prog v1 #[.pointer p15] w1 fun r16 w2 => ∃ b16 : Bool, r16 = .bool b16 ∧ (bif b16 then
 K (.int .i64 n8) w2
 else
 k [.int .i64 (IntKind.i64.wrap (n8 + 1))] w2)
 else
 K (.int .i64 ((-1))) w1)) [.int .i64 0] w0
set_option maxRecDepth 100000 in
theorem C_slices_IndexFunc_patch_change (a0 : Option Addr) (l0 c0 : Nat) (v1 : Value) (w0 : World) (K : Value → World → Prop) (h : D_slices_IndexFunc_patch_change a0 l0 c0 v1 w0 K) : Cal Tryz.prog F_slices_IndexFunc_patch_change #[.slice a0 l0 c0, v1] w0 K :=
 denF_sound (A := { S := [8], ty := [(8, 3)], raw := [] }) mixed Tryz.func170 (by kernel_rfl) (by kernel_rfl) ((show denF Tryz.prog _ Tryz.f170 _ w0 K = D_slices_IndexFunc_patch_change a0 l0 c0 v1 w0 K by kernel_rfl).mpr h)

/- (levee.cache.Cache).held: slots {};  -/
set_option maxRecDepth 100000 in
def D_cache_Cache_held (p0 : Option Addr) (n1 : Int) (w0 : World) (K : Value → World → Prop) : Prop :=
 (bif Option.isNone p0 then
 K (.tuple #[.pointer none, .int .i64 2]) w0
 else
 ∃ q12 : Addr, (.pointer p0 : Value) = .pointer (some q12) ∧ ∃ m14 : Option Nat, Ru (Instr.loadAt 227 (.pointer (some (Addr.add q12 2)))) w0 (.map m14) w0 ∧ ∃ p16a : Option Addr, ∃ b16b : Bool, Ru (Instr.lookup 227 (.map m14) (.int .i64 n1) true) w0 (.tuple #[.pointer p16a, .bool b16b]) w0 ∧ (bif !b16b then
 K (.tuple #[.pointer none, .int .i64 20]) w0
 else
 K (.tuple #[.pointer p16a, .int .i64 0]) w0))
set_option maxRecDepth 100000 in
theorem C_cache_Cache_held (p0 : Option Addr) (n1 : Int) (w0 : World) (K : Value → World → Prop) (h : D_cache_Cache_held p0 n1 w0 K) : Cal Tryz.prog F_cache_Cache_held #[.pointer p0, .int .i64 n1] w0 K :=
 denF_sound (A := { S := [], ty := [], raw := [] }) mixed Tryz.func171 (by kernel_rfl) (by kernel_rfl) ((show denF Tryz.prog _ Tryz.f171 _ w0 K = D_cache_Cache_held p0 n1 w0 K by kernel_rfl).mpr h)

/- levee.leveeref01.Lay: slots {25: ''};  -/
set_option maxRecDepth 100000 in
def D_leveeref01_Lay (a0 : Option Addr) (l0 c0 : Nat) (n1 : Int) (a2 : Option Addr) (l2 c2 : Nat) (w0 : World) (K : Value → World → Prop) : Prop :=
 Share (fun k => (bif decide (n1 < 0) then k [.bool true] w0 else (bif decide (n1 > (l0 : Int)) then k [.bool true] w0 else k [.bool (decide ((l2 : Int) > (IntKind.i64.wrap ((l0 : Int) - n1))))] w0))) fun x w1 =>
 ∃ b25 : Bool, nth x 0 = .bool b25 ∧ (bif b25 then
 K (.tuple #[.slice none 0 0, .int .i64 3]) w1
 else
 ∃ (a29 : Option Addr) (l29 c29 : Nat), Al (Instr.sliceAt 36 (.slice a0 l0 c0) none (some (.int .i64 n1)) none) (.slice a29 l29 c29) ∧ ∃ (a30 : Option Addr) (l30 c30 : Nat), ∃ w2 : World, Ru (Builtin.append_ #[36, 36] 36 #[.slice none 0 0, .slice a29 l29 c29]) w1 (.slice a30 l30 c30) w2 ∧ ∃ (a33 : Option Addr) (l33 c33 : Nat), ∃ w3 : World, Ru (Builtin.append_ #[36, 36] 36 #[.slice a30 l30 c30, .slice a2 l2 c2]) w2 (.slice a33 l33 c33) w3 ∧ ∃ (a40 : Option Addr) (l40 c40 : Nat), Al (Instr.sliceAt 36 (.slice a0 l0 c0) (some (.int .i64 (IntKind.i64.wrap (n1 + (l2 : Int))))) none none) (.slice a40 l40 c40) ∧ ∃ (a41 : Option Addr) (l41 c41 : Nat), ∃ w4 : World, Ru (Builtin.append_ #[36, 36] 36 #[.slice a33 l33 c33, .slice a40 l40 c40]) w3 (.slice a41 l41 c41) w4 ∧ K (.tuple #[.slice a41 l41 c41, .int .i64 0]) w4)
set_option maxRecDepth 100000 in
theorem C_leveeref01_Lay (a0 : Option Addr) (l0 c0 : Nat) (n1 : Int) (a2 : Option Addr) (l2 c2 : Nat) (w0 : World) (K : Value → World → Prop) (h : D_leveeref01_Lay a0 l0 c0 n1 a2 l2 c2 w0 K) : Cal Tryz.prog F_leveeref01_Lay #[.slice a0 l0 c0, .int .i64 n1, .slice a2 l2 c2] w0 K :=
 denF_sound (A := { S := [25], ty := [(25, 4)], raw := [] }) mixed Tryz.func172 (by kernel_rfl) (by kernel_rfl) ((show denF Tryz.prog _ Tryz.f172 _ w0 K = D_leveeref01_Lay a0 l0 c0 n1 a2 l2 c2 w0 K by kernel_rfl).mpr h)

/- slices.Index[[]levee.push.Act,levee.push.Act]: slots {8: ''}; loop over [8] -/
set_option maxRecDepth 100000 in
def D_slices_Index_push_Act (a0 : Option Addr) (l0 c0 : Nat) (g1 : Array Value) (w0 : World) (K : Value → World → Prop) : Prop :=
 ∃ q3 : Addr, ∃ w1 : World, Ru (Instr.box 71 (.agg g1)) w0 (.pointer (some q3)) w1 ∧ LoopC (fun k x w2 =>
 ∃ n8 : Int, nth x 0 = .int .i64 n8 ∧ (bif decide (n8 < (l0 : Int)) then
 ∃ g11 : Array Value, Ru (Instr.loadAt 71 (.pointer (some q3))) (drew w2) (.agg g11) (drew w2) ∧ ∃ q14 : Addr, Al (Instr.indexAt 77 (.slice a0 l0 c0) (.int .i64 n8)) (.pointer (some q14)) ∧ ∃ g15 : Array Value, Ru (Instr.loadAt 71 (.pointer (some q14))) (drew w2) (.agg g15) (drew w2) ∧ ∃ b16 : Bool, Al (eqS .eql 71 (.tmp 11) (.tmp 15) (.agg g11) (.agg g15)) (.bool b16) ∧ (bif b16 then
 K (.int .i64 n8) (drew w2)
 else
 k [.int .i64 (IntKind.i64.wrap (n8 + 1))] (drew w2))
 else
 K (.int .i64 ((-1))) w2)) [.int .i64 0] w1
set_option maxRecDepth 100000 in
theorem C_slices_Index_push_Act (a0 : Option Addr) (l0 c0 : Nat) (g1 : Array Value) (w0 : World) (K : Value → World → Prop) (h : D_slices_Index_push_Act a0 l0 c0 g1 w0 K) : Cal Tryz.prog F_slices_Index_push_Act #[.slice a0 l0 c0, .agg g1] w0 K :=
 denF_sound (A := { S := [8], ty := [(8, 3)], raw := [] }) mixed Tryz.func173 (by kernel_rfl) (by kernel_rfl) ((show denF Tryz.prog _ Tryz.f173 _ w0 K = D_slices_Index_push_Act a0 l0 c0 g1 w0 K by kernel_rfl).mpr h)

/- slices.Compact[[]int,int]: slots {3: 'k', 5: 'k2'}; loop over [3, 5]; loop over [3, 5] -/
/- slices.pdqsortOrdered[int64]: slots {1: 'a', 2: 'b', 3: 'limit', 8: 'wasBalanced', 9: 'wasPartitioned', 11: 'pivot', 12: 'hint', 68: '', 87: ''}; loop over [1, 2, 3, 8, 9, 11, 12, 68, 87] -/
/- levee.geo.whole: slots {3: '', 15: '', 27: ''};  -/
/- levee.group.Fresh: slots {};  -/
/- levee.geo.Head: slots {10: ''};  -/
/- levee.geo.Tables: slots {};  -/
/- levee.inode.Lay: slots {};  -/
/- (levee.super.Super).right: slots {2: ''};  -/
/- levee.num.Put: slots {1: 'n', 7: ''}; loop over [1, 7] -/
/- levee.num.Sum: slots {5: 's', 6: 's', 9: '', 14: '', 29: ''}; loop over [5, 14]; loop over [6, 29]; loop over [5, 9, 14] -/
/- levee.leveeref06.Fresh: slots {7: 'i', 8: 'i', 25: '', 48: ''}; loop over [8, 48]; loop over [7]; loop over [8, 48]; loop over [7]; loop over [8, 48]; loop over [7]; loop over [8, 48]; loop over [7]; loop over [8, 48]; loop over [7]; loop over [8, 48]; loop over [7] -/
/- levee.leveeref06.Put: slots {8: 'b'}; loop over [8]; loop over [8] -/
/- levee.leveeref03.Head: slots {16: ''};  -/
/- levee.leveeref03.Tables: slots {};  -/
/- levee.leveeref07.Lay: slots {18: ''};  -/
/- levee.leveeref04.Right: slots {2: ''};  -/
/- levee.leveeref01.Bytes: slots {5: 'out', 6: 'i'}; loop over [5, 6] -/
/- levee.leveeref01.Sum: slots {3: 's', 4: 'i', 5: 'k'}; loop over [3, 5]; loop over [3, 4, 5] -/
/- (levee.leveeref02.Disk).Stopped: slots {2: ''};  -/
set_option maxRecDepth 100000 in
def D_leveeref02_Disk_Stopped (p0 : Option Addr) (w0 : World) (K : Value → World → Prop) : Prop :=
 Share (fun k => ∃ q4 : Addr, (.pointer p0 : Value) = .pointer (some q4) ∧ ∃ b6 : Bool, Ru (Instr.loadAt 4 (.pointer (some (Addr.add q4 1)))) w0 (.bool b6) w0 ∧ (bif b6 then ∃ q9 : Addr, (.pointer p0 : Value) = .pointer (some q9) ∧ ∃ n11 : Int, Ru (Instr.loadAt 3 (.pointer (some (Addr.add q9 2)))) w0 (.int .i64 n11) w0 ∧ k [.bool (n11 == 0)] w0 else k [.bool false] w0)) fun x w1 =>
 ∃ b2 : Bool, nth x 0 = .bool b2 ∧ K (.bool b2) w1
set_option maxRecDepth 100000 in
theorem C_leveeref02_Disk_Stopped (p0 : Option Addr) (w0 : World) (K : Value → World → Prop) (h : D_leveeref02_Disk_Stopped p0 w0 K) : Cal Tryz.prog F_leveeref02_Disk_Stopped #[.pointer p0] w0 K :=
 denF_sound (A := { S := [2], ty := [(2, 4)], raw := [] }) mixed Tryz.func192 (by kernel_rfl) (by kernel_rfl) ((show denF Tryz.prog _ Tryz.f192 _ w0 K = D_leveeref02_Disk_Stopped p0 w0 K by kernel_rfl).mpr h)

/- levee.super.Get: slots {};  -/
/- (levee.super.Super).place: slots {};  -/
/- levee.leveeref04.Get: slots {};  -/
/- levee.leveeref06.Get: slots {42: ''};  -/
/- levee.leveeref03.Place: slots {19: ''};  -/
/- levee.leveeref07.Read: slots {15: ''};  -/
/- levee.geo.Place: slots {14: ''};  -/
/- levee.inode.may: slots {9: ''};  -/
/- levee.inode.Get: slots {28: '', 69: ''}; loop over [28]; loop over [28]; loop over [28]; loop over [28] -/
/- levee.inode.Right: slots {2: '', 8: '', 16: ''}; loop over [2, 8, 16] -/
/- levee.inode.all: slots {};  -/
/- levee.num.Get: slots {3: 'n', 8: ''}; loop over [3, 8] -/
/- levee.num.Diff: slots {6: 'first', 7: 'last', 14: '', 34: ''}; loop over [6, 7, 14, 34] -/
set_option maxRecDepth 100000 in
def D_num_Diff (a0 : Option Addr) (l0 c0 : Nat) (a1 : Option Addr) (l1 c1 : Nat) (w0 : World) (K : Value → World → Prop) : Prop :=
 LoopC (fun k x w1 =>
 ∃ n14 : Int, nth x 2 = .int .i64 n14 ∧ (bif decide (n14 < (if (l1 : Int) > (l0 : Int) then (l1 : Int) else (l0 : Int))) then
 Share (fun k_2 => Share (fun k_3 => (bif decide (n14 < (if (l1 : Int) < (l0 : Int) then (l1 : Int) else (l0 : Int))) then ∃ q27 : Addr, Al (Instr.indexAt 36 (.slice a0 l0 c0) (.int .i64 n14)) (.pointer (some q27)) ∧ ∃ n28 : Int, Ru (Instr.loadAt 5 (.pointer (some q27))) (drew w1) (.int .u8 n28) (drew w1) ∧ ∃ q31 : Addr, Al (Instr.indexAt 36 (.slice a1 l1 c1) (.int .i64 n14)) (.pointer (some q31)) ∧ ∃ n32 : Int, Ru (Instr.loadAt 5 (.pointer (some q31))) (drew w1) (.int .u8 n32) (drew w1) ∧ k_3 [.bool (n28 == n32)] (drew w1) else k_3 [.bool false] (drew w1))) fun x_3 w2 =>
 ∃ b34 : Bool, nth x_3 0 = .bool b34 ∧ (bif b34 then
 k_2 [nth x 0, nth x 1, .bool b34] w2
 else
 ∃ n6 : Int, nth x 0 = .int .i64 n6 ∧ Share (fun k_4 => (bif decide (n6 < 0) then
 k_4 [.int .i64 n14] w2
 else
 k_4 [.int .i64 n6] w2)) fun x_4 w3 =>
 k_2 [nth x_4 0, .int .i64 (IntKind.i64.wrap (n14 + 1)), .bool b34] w3)) fun x_2 w4 =>
 k [nth x_2 0, nth x_2 1, .int .i64 (IntKind.i64.wrap (n14 + 1)), nth x_2 2] w4
 else
 ∃ n6_2 : Int, nth x 0 = .int .i64 n6_2 ∧ ∃ n7 : Int, nth x 1 = .int .i64 n7 ∧ K (.tuple #[.int .i64 n6_2, .int .i64 n7]) w1)) [.int .i64 ((-1)), .int .i64 ((-1)), .int .i64 0, undef] w0
set_option maxRecDepth 100000 in
theorem C_num_Diff (a0 : Option Addr) (l0 c0 : Nat) (a1 : Option Addr) (l1 c1 : Nat) (w0 : World) (K : Value → World → Prop) (h : D_num_Diff a0 l0 c0 a1 l1 c1 w0 K) : Cal Tryz.prog F_num_Diff #[.slice a0 l0 c0, .slice a1 l1 c1] w0 K :=
 denF_sound (A := { S := [6, 7, 14, 34], ty := [(6, 3), (7, 3), (14, 3), (34, 4)], raw := [] }) mixed Tryz.func205 (by kernel_rfl) (by kernel_rfl) ((show denF Tryz.prog _ Tryz.f205 _ w0 K = D_num_Diff a0 l0 c0 a1 l1 c1 w0 K by kernel_rfl).mpr h)

/- levee.group.Right: slots {4: '', 12: 'ends', 27: '', 43: ''}; loop over [43]; loop over [27] -/
/- levee.group.Free: slots {};  -/
/- levee.geo.Kind: slots {8: ''};  -/
/- slices.IndexFunc[[]int64,int64]: slots {8: ''}; loop over [8] -/
set_option maxRecDepth 100000 in
def D_slices_IndexFunc_int64 (a0 : Option Addr) (l0 c0 : Nat) (v1 : Value) (w0 : World) (K : Value → World → Prop) : Prop :=
 LoopC (fun k x w1 =>
 ∃ n8 : Int, nth x 0 = .int .i64 n8 ∧ (bif decide (n8 < (l0 : Int)) then
 ∃ q14 : Addr, Al (Instr.indexAt 37 (.slice a0 l0 c0) (.int .i64 n8)) (.pointer (some q14)) ∧ ∃ n15 : Int, Ru (Instr.loadAt 2 (.pointer (some q14))) w1 (.int .i64 n15) w1 ∧ Dyn Tryz.prog v1 #[.int .i64 n15] w1 fun r16 w2 => ∃ b16 : Bool, r16 = .bool b16 ∧ (bif b16 then
 K (.int .i64 n8) w2
 else
 k [.int .i64 (IntKind.i64.wrap (n8 + 1))] w2)
 else
 K (.int .i64 ((-1))) w1)) [.int .i64 0] w0
set_option maxRecDepth 100000 in
theorem C_slices_IndexFunc_int64 (a0 : Option Addr) (l0 c0 : Nat) (v1 : Value) (w0 : World) (K : Value → World → Prop) (h : D_slices_IndexFunc_int64 a0 l0 c0 v1 w0 K) : Cal Tryz.prog F_slices_IndexFunc_int64 #[.slice a0 l0 c0, v1] w0 K :=
 denF_sound (A := { S := [8], ty := [(8, 3)], raw := [] }) mixed Tryz.func209 (by kernel_rfl) (by kernel_rfl) ((show denF Tryz.prog _ Tryz.f209 _ w0 K = D_slices_IndexFunc_int64 a0 l0 c0 v1 w0 K by kernel_rfl).mpr h)

/- levee.num.within: slots {6: ''};  -/
set_option maxRecDepth 100000 in
def D_num_within (a0 : Option Addr) (l0 c0 : Nat) (n1 : Int) (n2 : Int) (w0 : World) (K : Value → World → Prop) : Prop :=
 Share (fun k => (bif decide (n1 ≥ 0) then (bif decide (n2 ≥ 0) then (bif decide (n1 ≤ (l0 : Int)) then k [.bool (decide (n2 ≤ (IntKind.i64.wrap ((l0 : Int) - n1))))] w0 else k [.bool false] w0) else k [.bool false] w0) else k [.bool false] w0)) fun x w1 =>
 ∃ b6 : Bool, nth x 0 = .bool b6 ∧ K (.bool b6) w1
set_option maxRecDepth 100000 in
theorem C_num_within (a0 : Option Addr) (l0 c0 : Nat) (n1 : Int) (n2 : Int) (w0 : World) (K : Value → World → Prop) (h : D_num_within a0 l0 c0 n1 n2 w0 K) : Cal Tryz.prog F_num_within #[.slice a0 l0 c0, .int .i64 n1, .int .i64 n2] w0 K :=
 denF_sound (A := { S := [6], ty := [(6, 4)], raw := [] }) mixed Tryz.func210 (by kernel_rfl) (by kernel_rfl) ((show denF Tryz.prog _ Tryz.f210 _ w0 K = D_num_within a0 l0 c0 n1 n2 w0 K by kernel_rfl).mpr h)

/- slices.insertionSortOrdered[int]: slots {6: 'i', 7: 'j', 30: ''}; loop over [7, 30]; loop over [6, 7, 30] -/
/- slices.heapSortOrdered[int]: slots {9: 'i', 10: 'i'}; loop over [10]; loop over [9] -/
/- slices.breakPatternsOrdered[int]: slots {9: 'idx', 10: 'other'}; loop over [9, 10] -/
/- slices.choosePivotOrdered[int]: slots {10: 'i', 11: 'j', 12: 'k'};  -/
/- slices.reverseRangeOrdered[int]: slots {6: 'i', 7: 'j'}; loop over [6, 7] -/
/- slices.partialInsertionSortOrdered[int]: slots {7: 'i', 8: 'j', 9: 'j', 10: 'j', 32: ''}; loop over [9]; loop over [10]; loop over [7, 32]; loop over [7, 8, 9, 10, 32] -/
/- cmp.Less[int]: slots {4: ''};  -/
/- slices.partitionEqualOrdered[int]: slots {9: 'i', 10: 'j', 43: '', 59: ''}; loop over [10, 59]; loop over [9, 43]; loop over [9, 10, 43, 59] -/
/- slices.partitionOrdered[int]: slots {10: 'i', 11: 'j', 43: '', 60: '', 112: '', 129: ''}; loop over [11, 129]; loop over [10, 112]; loop over [10, 11, 112, 129]; loop over [11, 60]; loop over [10, 43] -/
/- math.bits.Len32: slots {0: 'x', 2: 'n'};  -/
/- math.bits.Len64: slots {0: 'x', 2: 'n'};  -/
/- slices.Contains[[]int,int]: slots {};  -/
set_option maxRecDepth 100000 in
def D_slices_Contains_int (a0 : Option Addr) (l0 c0 : Nat) (n1 : Int) (w0 : World) (K : Value → World → Prop) : Prop :=
 Cal Tryz.prog F_slices_Index_int #[.slice a0 l0 c0, .int .i64 n1] w0 fun r7 w1 => ∃ n7 : Int, r7 = .int .i64 n7 ∧ K (.bool (decide (n7 ≥ 0))) w1
set_option maxRecDepth 100000 in
theorem C_slices_Contains_int (a0 : Option Addr) (l0 c0 : Nat) (n1 : Int) (w0 : World) (K : Value → World → Prop) (h : D_slices_Contains_int a0 l0 c0 n1 w0 K) : Cal Tryz.prog F_slices_Contains_int #[.slice a0 l0 c0, .int .i64 n1] w0 K :=
 denF_sound (A := { S := [], ty := [], raw := [] }) mixed Tryz.func222 (by kernel_rfl) (by kernel_rfl) ((show denF Tryz.prog _ Tryz.f222 _ w0 K = D_slices_Contains_int a0 l0 c0 n1 w0 K by kernel_rfl).mpr h)

/- slices.DeleteFunc[[]int,int]: slots {5: 'i', 6: 'j'}; loop over [5, 6] -/
set_option maxRecDepth 100000 in
def D_slices_DeleteFunc_int (a0 : Option Addr) (l0 c0 : Nat) (v1 : Value) (w0 : World) (K : Value → World → Prop) : Prop :=
 Cal Tryz.prog F_slices_IndexFunc_int #[.slice a0 l0 c0, v1] w0 fun r10 w1 => ∃ n10 : Int, r10 = .int .i64 n10 ∧ (bif n10 == (-1) then
 K (.slice a0 l0 c0) w1
 else
 LoopC (fun k x w2 =>
 ∃ n6 : Int, nth x 1 = .int .i64 n6 ∧ (bif decide (n6 < (l0 : Int)) then
 ∃ q24 : Addr, Al (Instr.indexAt 49 (.slice a0 l0 c0) (.int .i64 n6)) (.pointer (some q24)) ∧ ∃ n25 : Int, Ru (Instr.loadAt 3 (.pointer (some q24))) w2 (.int .i64 n25) w2 ∧ Dyn Tryz.prog v1 #[.int .i64 n25] w2 fun r28 w3 => ∃ b28 : Bool, r28 = .bool b28 ∧ Share (fun k_2 => (bif !b28 then
 ∃ n5 : Int, nth x 0 = .int .i64 n5 ∧ ∃ q33 : Addr, Al (Instr.indexAt 49 (.slice a0 l0 c0) (.int .i64 n5)) (.pointer (some q33)) ∧ ∃ w4 : World, RuU (Instr.storeAt 3 (.pointer (some q33)) (.int .i64 n25)) w3 w4 ∧ k_2 [.int .i64 (IntKind.i64.wrap (n5 + 1))] w4
 else
 k_2 [nth x 0] w3)) fun x_2 w5 =>
 k [nth x_2 0, .int .i64 (IntKind.i64.wrap (n6 + 1))] w5
 else
 ∃ n5_2 : Int, nth x 0 = .int .i64 n5_2 ∧ ∃ (a38 : Option Addr) (l38 c38 : Nat), Al (Instr.sliceAt 49 (.slice a0 l0 c0) (some (.int .i64 n5_2)) none none) (.slice a38 l38 c38) ∧ ∃ w6 : World, Ru (Builtin.clear_ #[49] 0 #[.slice a38 l38 c38]) w2 (.tuple #[]) w6 ∧ ∃ (a41 : Option Addr) (l41 c41 : Nat), Al (Instr.sliceAt 49 (.slice a0 l0 c0) none (some (.int .i64 n5_2)) none) (.slice a41 l41 c41) ∧ K (.slice a41 l41 c41) w6)) [.int .i64 n10, .int .i64 (IntKind.i64.wrap (n10 + 1))] w1)
set_option maxRecDepth 100000 in
theorem C_slices_DeleteFunc_int (a0 : Option Addr) (l0 c0 : Nat) (v1 : Value) (w0 : World) (K : Value → World → Prop) (h : D_slices_DeleteFunc_int a0 l0 c0 v1 w0 K) : Cal Tryz.prog F_slices_DeleteFunc_int #[.slice a0 l0 c0, v1] w0 K :=
 denF_sound (A := { S := [5, 6], ty := [(5, 3), (6, 3)], raw := [] }) mixed Tryz.func223 (by kernel_rfl) (by kernel_rfl) ((show denF Tryz.prog _ Tryz.f223 _ w0 K = D_slices_DeleteFunc_int a0 l0 c0 v1 w0 K by kernel_rfl).mpr h)

/- (levee.cache.Cache).ask$1: slots {};  -/
set_option maxRecDepth 100000 in
def D_cache_Cache_ask_1 (n0 : Int) (v1 : Value) (w0 : World) (K : Value → World → Prop) : Prop :=
 ∃ n5 : Int, Ru (Instr.loadAt 3 v1) w0 (.int .i64 n5) w0 ∧ K (.bool (n0 == n5)) w0
set_option maxRecDepth 100000 in
theorem C_cache_Cache_ask_1 (n0 : Int) (v1 : Value) (w0 : World) (K : Value → World → Prop) (h : D_cache_Cache_ask_1 n0 v1 w0 K) : Cal Tryz.prog F_cache_Cache_ask_1 #[.int .i64 n0, v1] w0 K :=
 denF_sound (A := { S := [], ty := [], raw := [] }) mixed Tryz.func224 (by kernel_rfl) (by kernel_rfl) ((show denF Tryz.prog _ Tryz.f224 _ w0 K = D_cache_Cache_ask_1 n0 v1 w0 K by kernel_rfl).mpr h)

/- (levee.cache.Cache).room: slots {};  -/
set_option maxRecDepth 100000 in
def D_cache_Cache_room (p0 : Option Addr) (w0 : World) (K : Value → World → Prop) : Prop :=
 ∃ q1 : Addr, ∃ w1 : World, Ru (Instr.box 151 (.pointer p0)) w0 (.pointer (some q1)) w1 ∧ ∃ p4 : Option Addr, Ru (Instr.loadAt 151 (.pointer (some q1))) (drew w1) (.pointer p4) (drew w1) ∧ ∃ q5 : Addr, (.pointer p4 : Value) = .pointer (some q5) ∧ ∃ (a7 : Option Addr) (l7 c7 : Nat), Ru (Instr.loadAt 49 (.pointer (some (Addr.add q5 3)))) (drew w1) (.slice a7 l7 c7) (drew w1) ∧ ∃ p9 : Option Addr, Ru (Instr.loadAt 151 (.pointer (some q1))) (drew w1) (.pointer p9) (drew w1) ∧ ∃ q10 : Addr, (.pointer p9 : Value) = .pointer (some q10) ∧ ∃ n12 : Int, Ru (Instr.loadAt 3 (.pointer (some (Addr.add q10 1)))) (drew w1) (.int .i64 n12) (drew w1) ∧ (bif decide ((l7 : Int) < n12) then
 K (.int .i64 0) (drew w1)
 else
 ∃ p14 : Option Addr, Ru (Instr.loadAt 151 (.pointer (some q1))) (drew w1) (.pointer p14) (drew w1) ∧ ∃ q15 : Addr, (.pointer p14 : Value) = .pointer (some q15) ∧ ∃ (a17 : Option Addr) (l17 c17 : Nat), Ru (Instr.loadAt 49 (.pointer (some (Addr.add q15 3)))) (drew w1) (.slice a17 l17 c17) (drew w1) ∧ Cal Tryz.prog F_slices_IndexFunc_int #[.slice a17 l17 c17, .func (.func F_cache_Cache_room_1) #[] #[.pointer (some q1)]] (drew w1) fun r19 w2 => ∃ n19 : Int, r19 = .int .i64 n19 ∧ (bif decide (n19 < 0) then
 K (.int .i64 5) w2
 else
 ∃ p22 : Option Addr, Ru (Instr.loadAt 151 (.pointer (some q1))) (drew w2) (.pointer p22) (drew w2) ∧ ∃ p23 : Option Addr, Ru (Instr.loadAt 151 (.pointer (some q1))) (drew w2) (.pointer p23) (drew w2) ∧ ∃ q24 : Addr, (.pointer p23 : Value) = .pointer (some q24) ∧ ∃ (a26 : Option Addr) (l26 c26 : Nat), Ru (Instr.loadAt 49 (.pointer (some (Addr.add q24 3)))) (drew w2) (.slice a26 l26 c26) (drew w2) ∧ ∃ q28 : Addr, Al (Instr.indexAt 49 (.slice a26 l26 c26) (.int .i64 n19)) (.pointer (some q28)) ∧ ∃ n29 : Int, Ru (Instr.loadAt 3 (.pointer (some q28))) (drew w2) (.int .i64 n29) (drew w2) ∧ Cal Tryz.prog F_cache_Cache_out #[.pointer p22, .int .i64 n29] (drew w2) fun r30 w3 => r30 = .tuple #[] ∧ K (.int .i64 0) w3))
set_option maxRecDepth 100000 in
theorem C_cache_Cache_room (p0 : Option Addr) (w0 : World) (K : Value → World → Prop) (h : D_cache_Cache_room p0 w0 K) : Cal Tryz.prog F_cache_Cache_room #[.pointer p0] w0 K :=
 denF_sound (A := { S := [], ty := [], raw := [] }) mixed Tryz.func225 (by kernel_rfl) (by kernel_rfl) ((show denF Tryz.prog _ Tryz.f225 _ w0 K = D_cache_Cache_room p0 w0 K by kernel_rfl).mpr h)

/- slices.insertionSortOrdered[int64]: slots {6: 'i', 7: 'j', 30: ''}; loop over [7, 30]; loop over [6, 7, 30] -/
/- slices.heapSortOrdered[int64]: slots {9: 'i', 10: 'i'}; loop over [10]; loop over [9] -/
/- slices.breakPatternsOrdered[int64]: slots {9: 'idx', 10: 'other'}; loop over [9, 10] -/
/- slices.choosePivotOrdered[int64]: slots {10: 'i', 11: 'j', 12: 'k'};  -/
/- slices.reverseRangeOrdered[int64]: slots {6: 'i', 7: 'j'}; loop over [6, 7] -/
/- slices.partialInsertionSortOrdered[int64]: slots {7: 'i', 8: 'j', 9: 'j', 10: 'j', 32: ''}; loop over [9]; loop over [10]; loop over [7, 32]; loop over [7, 8, 9, 10, 32] -/
/- cmp.Less[int64]: slots {4: ''};  -/
/- slices.partitionEqualOrdered[int64]: slots {9: 'i', 10: 'j', 43: '', 59: ''}; loop over [10, 59]; loop over [9, 43]; loop over [9, 10, 43, 59] -/
/- slices.partitionOrdered[int64]: slots {10: 'i', 11: 'j', 43: '', 60: '', 112: '', 129: ''}; loop over [11, 129]; loop over [10, 112]; loop over [10, 11, 112, 129]; loop over [11, 60]; loop over [10, 43] -/
/- levee.geo.within: slots {6: ''};  -/
/- levee.group.base: slots {12: ''}; loop over [12] -/
/- levee.leveeref05.Set: slots {17: ''};  -/
/- levee.leveeref06.Right: slots {5: 'ok', 6: 'i', 7: 'i', 34: '', 63: '', 93: ''}; loop over [5, 7, 93]; loop over [5, 6, 63] -/
/- levee.leveeref06.Free: slots {};  -/
/- levee.leveeref07.Put: slots {4: 'b', 5: 'k'}; loop over [4]; loop over [4, 5] -/
/- levee.super.Get$1: slots {};  -/
/- levee.num.Zero: slots {3: 'all', 8: ''}; loop over [3, 8] -/
/- levee.leveeref01.Get: slots {3: 'n', 4: 'i', 12: ''}; loop over [3, 4, 12] -/
/- levee.leveeref07.Get: slots {5: 'k', 69: ''}; loop over [5]; loop over [5]; loop over [5]; loop over [5] -/
/- levee.inode.sized: slots {2: ''};  -/
/- levee.bits.Count: slots {5: 'k', 10: ''}; loop over [5, 10] -/
/- slices.siftDownOrdered[int]: slots {8: 'root', 9: 'child', 36: ''}; loop over [8, 9, 36] -/
/- slices.nextPowerOfTwo: slots {};  -/
/- (slices.xorshift).Next: slots {};  -/
/- slices.medianAdjacentOrdered[int]: slots {};  -/
/- slices.medianOrdered[int]: slots {};  -/
/- cmp.isNaN[int]: slots {};  -/
/- slices.Index[[]int,int]: slots {8: ''}; loop over [8] -/
set_option maxRecDepth 100000 in
def D_slices_Index_int (a0 : Option Addr) (l0 c0 : Nat) (n1 : Int) (w0 : World) (K : Value → World → Prop) : Prop :=
 LoopC (fun k x w1 =>
 ∃ n8 : Int, nth x 0 = .int .i64 n8 ∧ (bif decide (n8 < (l0 : Int)) then
 ∃ q14 : Addr, Al (Instr.indexAt 49 (.slice a0 l0 c0) (.int .i64 n8)) (.pointer (some q14)) ∧ ∃ n15 : Int, Ru (Instr.loadAt 3 (.pointer (some q14))) w1 (.int .i64 n15) w1 ∧ (bif n1 == n15 then
 K (.int .i64 n8) w1
 else
 k [.int .i64 (IntKind.i64.wrap (n8 + 1))] w1)
 else
 K (.int .i64 ((-1))) w1)) [.int .i64 0] w0
set_option maxRecDepth 100000 in
theorem C_slices_Index_int (a0 : Option Addr) (l0 c0 : Nat) (n1 : Int) (w0 : World) (K : Value → World → Prop) (h : D_slices_Index_int a0 l0 c0 n1 w0 K) : Cal Tryz.prog F_slices_Index_int #[.slice a0 l0 c0, .int .i64 n1] w0 K :=
 denF_sound (A := { S := [8], ty := [(8, 3)], raw := [] }) mixed Tryz.func253 (by kernel_rfl) (by kernel_rfl) ((show denF Tryz.prog _ Tryz.f253 _ w0 K = D_slices_Index_int a0 l0 c0 n1 w0 K by kernel_rfl).mpr h)

/- slices.IndexFunc[[]int,int]: slots {8: ''}; loop over [8] -/
set_option maxRecDepth 100000 in
def D_slices_IndexFunc_int (a0 : Option Addr) (l0 c0 : Nat) (v1 : Value) (w0 : World) (K : Value → World → Prop) : Prop :=
 LoopC (fun k x w1 =>
 ∃ n8 : Int, nth x 0 = .int .i64 n8 ∧ (bif decide (n8 < (l0 : Int)) then
 ∃ q14 : Addr, Al (Instr.indexAt 49 (.slice a0 l0 c0) (.int .i64 n8)) (.pointer (some q14)) ∧ ∃ n15 : Int, Ru (Instr.loadAt 3 (.pointer (some q14))) w1 (.int .i64 n15) w1 ∧ Dyn Tryz.prog v1 #[.int .i64 n15] w1 fun r16 w2 => ∃ b16 : Bool, r16 = .bool b16 ∧ (bif b16 then
 K (.int .i64 n8) w2
 else
 k [.int .i64 (IntKind.i64.wrap (n8 + 1))] w2)
 else
 K (.int .i64 ((-1))) w1)) [.int .i64 0] w0
set_option maxRecDepth 100000 in
theorem C_slices_IndexFunc_int (a0 : Option Addr) (l0 c0 : Nat) (v1 : Value) (w0 : World) (K : Value → World → Prop) (h : D_slices_IndexFunc_int a0 l0 c0 v1 w0 K) : Cal Tryz.prog F_slices_IndexFunc_int #[.slice a0 l0 c0, v1] w0 K :=
 denF_sound (A := { S := [8], ty := [(8, 3)], raw := [] }) mixed Tryz.func254 (by kernel_rfl) (by kernel_rfl) ((show denF Tryz.prog _ Tryz.f254 _ w0 K = D_slices_IndexFunc_int a0 l0 c0 v1 w0 K by kernel_rfl).mpr h)

/- (levee.cache.Cache).room$1: slots {3: ''};  -/
set_option maxRecDepth 100000 in
def D_cache_Cache_room_1 (n0 : Int) (v1 : Value) (w0 : World) (K : Value → World → Prop) : Prop :=
 Share (fun k => ∃ p4 : Option Addr, Ru (Instr.loadAt 151 v1) w0 (.pointer p4) w0 ∧ ∃ q5 : Addr, (.pointer p4 : Value) = .pointer (some q5) ∧ ∃ m7 : Option Nat, Ru (Instr.loadAt 227 (.pointer (some (Addr.add q5 2)))) w0 (.map m7) w0 ∧ ∃ p9 : Option Addr, Ru (Instr.lookup 227 (.map m7) (.int .i64 n0) false) w0 (.pointer p9) w0 ∧ ∃ q10 : Addr, (.pointer p9 : Value) = .pointer (some q10) ∧ ∃ n12 : Int, Ru (Instr.loadAt 3 (.pointer (some (Addr.add q10 1)))) w0 (.int .i64 n12) w0 ∧ (bif n12 == 0 then ∃ p15 : Option Addr, Ru (Instr.loadAt 151 v1) w0 (.pointer p15) w0 ∧ Cal Tryz.prog F_cache_Cache_dirty #[.pointer p15, .int .i64 n0] w0 fun r17 w1 => ∃ b17 : Bool, r17 = .bool b17 ∧ k [.bool (!b17)] w1 else k [.bool false] w0)) fun x w2 =>
 ∃ b3 : Bool, nth x 0 = .bool b3 ∧ K (.bool b3) w2
set_option maxRecDepth 100000 in
theorem C_cache_Cache_room_1 (n0 : Int) (v1 : Value) (w0 : World) (K : Value → World → Prop) (h : D_cache_Cache_room_1 n0 v1 w0 K) : Cal Tryz.prog F_cache_Cache_room_1 #[.int .i64 n0, v1] w0 K :=
 denF_sound (A := { S := [3], ty := [(3, 4)], raw := [] }) mixed Tryz.func255 (by kernel_rfl) (by kernel_rfl) ((show denF Tryz.prog _ Tryz.f255 _ w0 K = D_cache_Cache_room_1 n0 v1 w0 K by kernel_rfl).mpr h)

/- (levee.cache.Cache).dirty: slots {};  -/
set_option maxRecDepth 100000 in
def D_cache_Cache_dirty (p0 : Option Addr) (n1 : Int) (w0 : World) (K : Value → World → Prop) : Prop :=
 ∃ q11 : Addr, (.pointer p0 : Value) = .pointer (some q11) ∧ ∃ p13 : Option Addr, Ru (Instr.loadAt 23 (.pointer (some (Addr.add q11 0)))) w0 (.pointer p13) w0 ∧ Cal Tryz.prog F_disk_Disk_Read #[.pointer p13, .int .i64 n1] w0 fun r15 w1 => ∃ (a15a : Option Addr) (l15a c15a : Nat), ∃ n15b : Int, r15 = .tuple #[.slice a15a l15a c15a, .int .i64 n15b] ∧ ∃ q21 : Addr, (.pointer p0 : Value) = .pointer (some q21) ∧ ∃ m23 : Option Nat, Ru (Instr.loadAt 227 (.pointer (some (Addr.add q21 2)))) w1 (.map m23) w1 ∧ ∃ p25 : Option Addr, Ru (Instr.lookup 227 (.map m23) (.int .i64 n1) false) w1 (.pointer p25) w1 ∧ ∃ q26 : Addr, (.pointer p25 : Value) = .pointer (some q26) ∧ ∃ (a29 : Option Addr) (l29 c29 : Nat), Ru (Instr.loadAt 36 (.pointer (some (Addr.add (Addr.add q26 0) 0)))) w1 (.slice a29 l29 c29) w1 ∧ Cal Tryz.prog F_num_Diff #[.slice a15a l15a c15a, .slice a29 l29 c29] w1 fun r30 w2 => ∃ n30a : Int, ∃ n30b : Int, r30 = .tuple #[.int .i64 n30a, .int .i64 n30b] ∧ K (.bool (decide (n30a ≥ 0))) w2
set_option maxRecDepth 100000 in
theorem C_cache_Cache_dirty (p0 : Option Addr) (n1 : Int) (w0 : World) (K : Value → World → Prop) (h : D_cache_Cache_dirty p0 n1 w0 K) : Cal Tryz.prog F_cache_Cache_dirty #[.pointer p0, .int .i64 n1] w0 K :=
 denF_sound (A := { S := [], ty := [], raw := [] }) mixed Tryz.func256 (by kernel_rfl) (by kernel_rfl) ((show denF Tryz.prog _ Tryz.f256 _ w0 K = D_cache_Cache_dirty p0 n1 w0 K by kernel_rfl).mpr h)

/- (levee.cache.Cache).out: slots {};  -/
set_option maxRecDepth 100000 in
def D_cache_Cache_out (p0 : Option Addr) (n1 : Int) (w0 : World) (K : Value → World → Prop) : Prop :=
 ∃ q3 : Addr, ∃ w1 : World, Ru (Instr.box 3 (.int .i64 n1)) w0 (.pointer (some q3)) w1 ∧ ∃ q5 : Addr, (.pointer p0 : Value) = .pointer (some q5) ∧ ∃ m7 : Option Nat, Ru (Instr.loadAt 227 (.pointer (some (Addr.add q5 2)))) (drew w1) (.map m7) (drew w1) ∧ ∃ n8 : Int, Ru (Instr.loadAt 3 (.pointer (some q3))) (drew w1) (.int .i64 n8) (drew w1) ∧ ∃ w2 : World, Ru (Builtin.delete_ #[227, 297] 0 #[.map m7, .int .i64 n8]) (drew w1) (.tuple #[]) w2 ∧ ∃ q11 : Addr, (.pointer p0 : Value) = .pointer (some q11) ∧ ∃ (a13 : Option Addr) (l13 c13 : Nat), Ru (Instr.loadAt 49 (.pointer (some (Addr.add q11 3)))) w2 (.slice a13 l13 c13) w2 ∧ Cal Tryz.prog F_slices_DeleteFunc_int #[.slice a13 l13 c13, .func (.func F_cache_Cache_out_1) #[] #[.pointer (some q3)]] w2 fun r15 w3 => ∃ (a15 : Option Addr) (l15 c15 : Nat), r15 = .slice a15 l15 c15 ∧ ∃ q16 : Addr, (.pointer p0 : Value) = .pointer (some q16) ∧ ∃ w4 : World, RuU (Instr.storeAt 49 (.pointer (some (Addr.add q16 3))) (.slice a15 l15 c15)) w3 w4 ∧ K (.tuple #[]) w4
set_option maxRecDepth 100000 in
theorem C_cache_Cache_out (p0 : Option Addr) (n1 : Int) (w0 : World) (K : Value → World → Prop) (h : D_cache_Cache_out p0 n1 w0 K) : Cal Tryz.prog F_cache_Cache_out #[.pointer p0, .int .i64 n1] w0 K :=
 denF_sound (A := { S := [], ty := [], raw := [] }) mixed Tryz.func257 (by kernel_rfl) (by kernel_rfl) ((show denF Tryz.prog _ Tryz.f257 _ w0 K = D_cache_Cache_out p0 n1 w0 K by kernel_rfl).mpr h)

/- slices.siftDownOrdered[int64]: slots {8: 'root', 9: 'child', 36: ''}; loop over [8, 9, 36] -/
/- slices.medianAdjacentOrdered[int64]: slots {};  -/
/- slices.medianOrdered[int64]: slots {};  -/
/- cmp.isNaN[int64]: slots {};  -/
/- levee.leveeref05.Get: slots {4: ''};  -/
/- levee.leveeref05.Count: slots {5: 'k', 6: 'i'}; loop over [5, 6] -/
/- levee.leveeref07.Right: slots {2: '', 4: 'ok', 5: 'k'}; loop over [4, 5] -/
/- levee.bits.most: slots {};  -/
/- levee.bits.Get: slots {4: ''};  -/
/- slices.order2Ordered[int]: slots {};  -/
/- (levee.cache.Cache).out$1: slots {};  -/
set_option maxRecDepth 100000 in
def D_cache_Cache_out_1 (n0 : Int) (v1 : Value) (w0 : World) (K : Value → World → Prop) : Prop :=
 ∃ n5 : Int, Ru (Instr.loadAt 3 v1) w0 (.int .i64 n5) w0 ∧ K (.bool (n0 == n5)) w0
set_option maxRecDepth 100000 in
theorem C_cache_Cache_out_1 (n0 : Int) (v1 : Value) (w0 : World) (K : Value → World → Prop) (h : D_cache_Cache_out_1 n0 v1 w0 K) : Cal Tryz.prog F_cache_Cache_out_1 #[.int .i64 n0, v1] w0 K :=
 denF_sound (A := { S := [], ty := [], raw := [] }) mixed Tryz.func268 (by kernel_rfl) (by kernel_rfl) ((show denF Tryz.prog _ Tryz.f268 _ w0 K = D_cache_Cache_out_1 n0 v1 w0 K by kernel_rfl).mpr h)

/- slices.order2Ordered[int64]: slots {};  -/
/- levee.leveeref05.most: slots {};  -/
/- levee.bits.there: slots {4: ''};  -/
end Go.Proofs.YtocjjigmpgekfaaGreat
end
section
/- The ways of layer 9: contracts of the small functions. -/
open Go Go.Den Go.Proofs
namespace Go.Proofs.YtocjjigmpgekfaaGreat

/-- A way: its four numbers. -/
structure Wy where
  d : Int
  a : Int
  b : Int
  c : Int
  deriving DecidableEq
def Wy.l (x : Wy) : List Value := [.int .i64 x.d, .int .i64 x.a, .int .i64 x.b, .int .i64 x.c]
end Go.Proofs.YtocjjigmpgekfaaGreat
end
section
/- Rows of cells in memory, slices over them, bytes; what the operations do there. -/
open Go Go.Den
namespace Go.Den
section
variable {P : Program} {w : World}

/-- The cells cs stand in block b from o on. -/
def At (w : World) (b o : Nat) (cs : List Value) : Prop :=
  ∃ l t fz, w.heap[b]? = some (.cells ⟨l⟩ t fz) ∧ o + cs.length ≤ l.length ∧ (l.drop o).take cs.length = cs
/-- And none of them is frozen. -/
def AtU (w : World) (b o : Nat) (cs : List Value) : Prop :=
  ∃ l t fz, w.heap[b]? = some (.cells ⟨l⟩ t fz) ∧ o + cs.length ≤ l.length ∧ (l.drop o).take cs.length = cs ∧ ∀ j, o ≤ j → j < o + cs.length → ¬ (fz.1 ≤ j ∧ j < fz.2)

theorem AtU.at {b o : Nat} {cs : List Value} (h : AtU w b o cs) : At w b o cs := by obtain ⟨l, t, fz, h1, h2, h3, _⟩ := h; exact ⟨l, t, fz, h1, h2, h3⟩
theorem At.lt {b o : Nat} {cs : List Value} (h : At w b o cs) : b < w.heap.size := by obtain ⟨l, t, fz, h1, _⟩ := h; exact lt_of_heap h1
theorem AtU.lt {b o : Nat} {cs : List Value} (h : AtU w b o cs) : b < w.heap.size := h.at.lt
theorem At.of_eq {b o : Nat} {cs : List Value} {w' : World} (h : At w b o cs) (e : w'.heap[b]? = w.heap[b]?) : At w' b o cs := by
  obtain ⟨l, t, fz, h1, h2⟩ := h; exact ⟨l, t, fz, e.trans h1, h2⟩
theorem AtU.of_eq {b o : Nat} {cs : List Value} {w' : World} (h : AtU w b o cs) (e : w'.heap[b]? = w.heap[b]?) : AtU w' b o cs := by
  obtain ⟨l, t, fz, h1, h2⟩ := h; exact ⟨l, t, fz, e.trans h1, h2⟩
theorem At.keep {b o : Nat} {cs : List Value} {w' : World} {S : Nat → Prop} (h : At w b o cs) (m : Mod S w w') (hb : ¬ S b) : At w' b o cs := h.of_eq (m.block b h.lt hb)
theorem AtU.keep {b o : Nat} {cs : List Value} {w' : World} {S : Nat → Prop} (h : AtU w b o cs) (m : Mod S w w') (hb : ¬ S b) : AtU w' b o cs := h.of_eq (m.block b h.lt hb)
theorem At.drew {b o : Nat} {cs : List Value} (h : At w b o cs) : At (drew w) b o cs := h
theorem AtU.drew {b o : Nat} {cs : List Value} (h : AtU w b o cs) : AtU (drew w) b o cs := h

theorem take_drop_get {l cs : List Value} {o : Nat} (h3 : (l.drop o).take cs.length = cs) (i : Nat) (hi : i < cs.length) : l[o + i]? = some cs[i] := by
  have : cs[i]? = some cs[i] := by simp [hi]
  rw [← this]
  conv => rhs; rw [← h3]
  rw [List.getElem?_take, if_pos hi, List.getElem?_drop]

theorem sub_take {l cs : List Value} {o i m : Nat} (h3 : (l.drop o).take cs.length = cs) (him : i + m ≤ cs.length) : (l.drop (o + i)).take m = (cs.drop i).take m := by
  conv => rhs; rw [← h3]
  rw [← List.drop_drop, List.drop_take, List.take_take]
  congr 1; omega

theorem At.sub {b o : Nat} {cs : List Value} (h : At w b o cs) {i m : Nat} (him : i + m ≤ cs.length) : At w b (o + i) ((cs.drop i).take m) := by
  obtain ⟨l, t, fz, h1, h2, h3⟩ := h
  have hl : ((cs.drop i).take m).length = m := by simp; omega
  refine ⟨l, t, fz, h1, by omega, ?_⟩
  rw [hl]; exact sub_take h3 him
theorem AtU.sub {b o : Nat} {cs : List Value} (h : AtU w b o cs) {i m : Nat} (him : i + m ≤ cs.length) : AtU w b (o + i) ((cs.drop i).take m) := by
  obtain ⟨l, t, fz, h1, h2, h3, h4⟩ := h
  have hl : ((cs.drop i).take m).length = m := by simp; omega
  refine ⟨l, t, fz, h1, by omega, ?_, fun j hj1 hj2 => h4 j (by omega) (by omega)⟩
  rw [hl]; exact sub_take h3 him

theorem At.load {T : TypeId} {b o i : Nat} {cs : List Value} {v : Value} (hT : scal P T = true) (h : At w b o cs) (hv : cs[i]? = some v) : (Instr.loadAt T (.pointer (some ⟨b, o + i, none⟩))).run P w = .ok v w := by
  obtain ⟨l, t, fz, h1, h2, h3⟩ := h
  have hi : i < cs.length := (List.getElem?_eq_some_iff.1 hv).1
  refine load_cell hT h1 ?_
  rw [take_drop_get h3 i hi]
  rw [← hv]; simp [hi]
theorem At.loadAgg {T : TypeId} {b o i n : Nat} {cs : List Value} (hT : aggN P T = some n) (h : At w b o cs) (hi : i + n ≤ cs.length) : (Instr.loadAt T (.pointer (some ⟨b, o + i, none⟩))).run P w = .ok (.agg ⟨(cs.drop i).take n⟩) w := by
  obtain ⟨l, t, fz, h1, h2, h3⟩ := h
  rw [load_agg hT h1 (by omega), sub_take h3 hi]

theorem splice_at {l cs vs : List Value} {o i : Nat} (h2 : o + cs.length ≤ l.length) (h3 : (l.drop o).take cs.length = cs) (hi : i + vs.length ≤ cs.length) :
    ((splice l (o + i) vs).drop o).take (splice cs i vs).length = splice cs i vs := by
  rw [length_splice hi]
  have e : splice l (o + i) vs = l.take o ++ (splice cs i vs ++ l.drop (o + cs.length)) := by
    have hl : l = l.take o ++ (cs ++ l.drop (o + cs.length)) := by
      conv => lhs; rw [← List.take_append_drop o l, ← List.take_append_drop cs.length (l.drop o), h3, List.drop_drop]
    have hlen : (l.take o).length = o := by simp; omega
    unfold splice
    have e1 : l.take (o + i) = l.take o ++ cs.take i := by
      conv => lhs; rw [hl]
      rw [List.take_append, hlen, List.take_of_length_le (by omega), show o + i - o = i by omega, List.take_append, show i - cs.length = 0 by omega]; simp
    have e2 : l.drop (o + i + vs.length) = cs.drop (i + vs.length) ++ l.drop (o + cs.length) := by
      conv => lhs; rw [hl]
      rw [List.drop_append, hlen, List.drop_eq_nil_of_le (by omega), List.nil_append, show o + i + vs.length - o = i + vs.length by omega, List.drop_append, show i + vs.length - cs.length = 0 by omega]; simp
    rw [e1, e2]; simp
  have hlen : (l.take o).length = o := by simp; omega
  rw [e, List.drop_append, hlen, List.drop_eq_nil_of_le (by omega), List.nil_append, Nat.sub_self, List.drop_zero, List.take_append_of_le_length (by rw [length_splice hi]; omega), List.take_of_length_le (by rw [length_splice hi]; omega)]

theorem AtU.store {T : TypeId} {b o i : Nat} {cs : List Value} {v : Value} (hT : scal P T = true) (h : AtU w b o cs) (hi : i < cs.length) (hv : v.oneCell' = true) :
    ∃ w', (Instr.storeAt T (.pointer (some ⟨b, o + i, none⟩)) v).run P w = .ok () w' ∧ AtU w' b o (cs.set i v) ∧ Mod (fun x => x = b) w w' ∧ w'.heap.size = w.heap.size := by
  obtain ⟨l, t, fz, h1, h2, h3, h4⟩ := h
  refine ⟨_, store_cell hT h1 (by omega) (h4 _ (by omega) (by omega)) hv, ⟨l.set (o + i) v, t, fz, heap_put_same (lt_of_heap h1), by simp; omega, ?_, fun j a1 a2 => h4 j a1 (by simpa using a2)⟩, (Mod.refl (fun x => x = b) w).put (.inr rfl) _, by simp⟩
  have e1 : l.set (o + i) v = splice l (o + i) [v] := by
    unfold splice; rw [List.set_eq_take_append_cons_drop, if_pos (by omega)]; simp
  have e2 : cs.set i v = splice cs i [v] := by
    unfold splice; rw [List.set_eq_take_append_cons_drop, if_pos hi]; simp
  rw [e1, e2]; exact splice_at h2 h3 (by simp; omega)

theorem AtU.storeAgg {T : TypeId} {b o i n : Nat} {cs vs : List Value} (hT : aggN P T = some n) (h : AtU w b o cs) (hn : vs.length = n) (hi : i + n ≤ cs.length) (hv : ∀ v ∈ vs, v.oneCell' = true) :
    ∃ w', (Instr.storeAt T (.pointer (some ⟨b, o + i, none⟩)) (.agg ⟨vs⟩)).run P w = .ok () w' ∧ AtU w' b o (splice cs i vs) ∧ Mod (fun x => x = b) w w' ∧ w'.heap.size = w.heap.size := by
  obtain ⟨l, t, fz, h1, h2, h3, h4⟩ := h
  subst hn
  refine ⟨_, store_agg hT h1 rfl (by omega) (fun j a1 a2 => h4 j (by omega) (by omega)) hv, ⟨splice l (o + i) vs, t, fz, heap_put_same (lt_of_heap h1), ?_, splice_at h2 h3 hi, fun j a1 a2 => h4 j a1 (by rwa [length_splice hi] at a2)⟩, (Mod.refl (fun x => x = b) w).put (.inr rfl) _, by simp⟩
  rw [length_splice hi, length_splice (by omega)]; exact h2

theorem AtU.new {cs : List Value} {t : TypeId} : AtU (w.alloc (.cells ⟨cs⟩ t)) w.heap.size 0 cs :=
  ⟨cs, t, (0, 0), heap_new w _, by simp, by simp, fun j _ _ => by simp⟩

/-- What an element's type lays: its size, its cells, its bytes. -/
def elemC (P : Program) (T : TypeId) : Option (Nat × Array Value × Nat) :=
  match P.underlying T with
  | some (.slice e) => match P.info? e with
    | some i => match i.zero with
      | some z => some (i.size, z.cells, i.bytes)
      | none => none
    | none => none
  | _ => none
def elemZ (P : Program) (T : TypeId) (k : Nat) (z : Value) (bytes : Nat) : Prop := elemC P T = some (k, ⟨List.replicate k z⟩, bytes)
theorem elemZ.is {T : TypeId} {k bytes : Nat} {z : Value} (h : elemZ P T k z bytes) : ∃ e i zv, P.underlying T = some (.slice e) ∧ P.info? e = some i ∧ i.size = k ∧ i.zero = some zv ∧ zv.cells = ⟨List.replicate k z⟩ ∧ i.bytes = bytes := by
  unfold elemZ elemC at h
  split at h
  · rename_i e he
    split at h
    · rename_i i hi
      split at h
      · rename_i zv hz
        have h := Option.some.inj h
        simp only [Prod.mk.injEq] at h
        exact ⟨e, i, zv, he, hi, h.1, hz, h.2.1, h.2.2⟩
      · cases h
    · cases h
  · cases h
theorem splice_all {cs old : List Value} (h : cs.length = old.length) : splice old 0 cs = cs := by
  unfold splice; simp [h]
theorem makeSlice_run {T : TypeId} {k bytes : Nat} {z : Value} {n : Nat} (hT : elemZ P T k z bytes) (hk0 : 0 < k) (hb : bytes * n ≤ 281474976710656) (hn : n ≤ 9223372036854775807) :
    ∃ w', (Instr.makeSlice T (.int .i64 n) (.int .i64 n)).run P w = .ok (.slice (some ⟨w.heap.size, 0, none⟩) n n) w' ∧ AtU w' w.heap.size 0 (List.replicate (n * k) z) ∧ Mod No w w' ∧ w'.heap.size = w.heap.size + 1 := by
  obtain ⟨e, i, zv, he, hi, hk, hz, hzc, hby⟩ := hT.is
  have hcells : madeCells zv.cells (n * k) = ⟨List.replicate (n * k) z⟩ := by
    rw [hzc]
    unfold madeCells
    apply Array.ext
    · simp
    · intro j hj1 hj2
      simp at hj1
      have : j % k < k := Nat.mod_lt _ hk0
      simp [this]
  have h := run_make w T e i zv he hi hz .i64 .i64 (n : Int) (n : Int) (by omega) (by omega) (by rw [hby]; have := Int.ofNat_le.2 hb; rw [Int.natCast_mul] at this; exact this) (by omega)
  rw [hk, Int.toNat_natCast, hcells] at h
  exact ⟨_, h, AtU.new, (Mod.refl No w).alloc _, World.size_alloc _ _⟩
end
end Go.Den
namespace Go.Den
section
variable {P : Program} {w : World}
theorem At.cells {b o n : Nat} {cs : List Value} (h : At w b o cs) (hn : n ≤ cs.length) : (loadCells ⟨b, o, none⟩ n).run P w = .ok ⟨cs.take n⟩ w := by
  obtain ⟨l, t, fz, h1, h2, h3⟩ := h
  have hl : (cs.take n).length = n := by simp; omega
  have := run_loadCells_list (P := P) w ⟨b, o, none⟩ (cs.take n) (fun j v hj => by
    have hjn : j < n := by have := (List.getElem?_eq_some_iff.1 hj).1; omega
    rw [add_none, cell_of h1, take_drop_get h3 j (by omega)]
    rw [List.getElem?_take, if_pos hjn] at hj
    rw [← hj]; simp)
  rwa [hl] at this
theorem AtU.stores {b o i : Nat} {cs vs : List Value} (h : AtU w b o cs) (hi : i + vs.length ≤ cs.length) (hv : ∀ v ∈ vs, v.oneCell' = true) :
    ∃ w', (storeCells ⟨b, o + i, none⟩ vs).run P w = .ok () w' ∧ AtU w' b o (splice cs i vs) ∧ Mod (fun x => x = b) w w' ∧ w'.heap.size = w.heap.size := by
  obtain ⟨l, t, fz, h1, h2, h3, h4⟩ := h
  have := store_cells (P := P) vs (o := o + i) (i := 0) h1 (by omega) (fun j a1 a2 => h4 j (by omega) (by omega)) hv
  refine ⟨_, this, ⟨splice l (o + i) vs, t, fz, heap_put_same (lt_of_heap h1), ?_, splice_at h2 h3 hi, fun j a1 a2 => h4 j a1 (by rwa [length_splice hi] at a2)⟩, (Mod.refl (fun x => x = b) w).put (.inr rfl) _, by simp⟩
  rw [length_splice hi, length_splice (by omega)]; exact h2

/-- copy, from a row into a row. -/
theorem copy_run {T T2 ty : TypeId} {k b o n c n2 c2 : Nat} {a2 : Option Addr} {old src : List Value} (hT : elemN P T = some k) (hd : AtU w b o old) (hold : old.length = n * k)
    (hs : src = [] ∨ ∃ b2 o2, a2 = some ⟨b2, o2, none⟩ ∧ At w b2 o2 src) (hsrc : src.length = n2 * k) (hv : ∀ v ∈ src, v.oneCell' = true) :
    ∃ w', (Builtin.copy_ #[T, T2] ty #[.slice (some ⟨b, o, none⟩) n c, .slice a2 n2 c2]).run P w = .ok (.int .i64 (Nat.min n2 n : Nat)) w' ∧
      AtU w' b o (splice old 0 (src.take (Nat.min n2 n * k))) ∧ Mod (fun x => x = b) w w' ∧ w'.heap.size = w.heap.size := by
  obtain ⟨e, i, he, hi, hk⟩ := elem_is hT
  have hm1 : Nat.min n2 n * k ≤ src.length := by rw [hsrc]; exact Nat.mul_le_mul_right _ (Nat.min_le_left _ _)
  have hm2 : Nat.min n2 n * k ≤ old.length := by rw [hold]; exact Nat.mul_le_mul_right _ (Nat.min_le_right _ _)
  have hf : (Builtin.firstCells k (Nat.min n2 n) (.slice a2 n2 c2)).run P w = .ok ⟨src.take (Nat.min n2 n * k)⟩ w := by
    rcases hs with rfl | ⟨b2, o2, rfl, hat⟩
    · cases a2 with
      | none => simp [Builtin.firstCells]
      | some a =>
        have h0 : Nat.min n2 n * k = 0 := by simpa using hm1
        simp only [Builtin.firstCells, h0]
        rfl
    · simp only [Builtin.firstCells]; exact hat.cells hm1
  obtain ⟨w', h1, h2, h3, h4⟩ := hd.stores (P := P) (i := 0) (vs := src.take (Nat.min n2 n * k)) (by simp; omega) (fun v hv' => hv v (List.mem_of_mem_take hv'))
  refine ⟨w', ?_, h2, h3, h4⟩
  have h1 : (storeCells ⟨b, o, none⟩ (src.take (Nat.min n2 n * k))).run P w = .ok () w' := h1
  simp [Builtin.copy_, run_und he, Builtin.lenOf, sizeOf, typeInfo, hi, hk, hf, h1, goInt]
/-- copy, from a row into a part of a row. -/
theorem copy_in {T T2 ty : TypeId} {k b o i n c n2 c2 : Nat} {a2 : Option Addr} {cs src : List Value} (hT : elemN P T = some k) (hd : AtU w b o cs) (hin : i + n * k ≤ cs.length)
    (hs : src = [] ∨ ∃ b2 o2, a2 = some ⟨b2, o2, none⟩ ∧ At w b2 o2 src) (hsrc : src.length = n2 * k) (hv : ∀ v ∈ src, v.oneCell' = true) :
    ∃ w', (Builtin.copy_ #[T, T2] ty #[.slice (some ⟨b, o + i, none⟩) n c, .slice a2 n2 c2]).run P w = .ok (.int .i64 (Nat.min n2 n : Nat)) w' ∧
      AtU w' b o (splice cs i (src.take (Nat.min n2 n * k))) ∧ Mod (fun x => x = b) w w' ∧ w'.heap.size = w.heap.size := by
  obtain ⟨e, inf, he, hi, hk⟩ := elem_is hT
  have hm1 : Nat.min n2 n * k ≤ src.length := by rw [hsrc]; exact Nat.mul_le_mul_right _ (Nat.min_le_left _ _)
  have hm2 : Nat.min n2 n * k ≤ n * k := Nat.mul_le_mul_right _ (Nat.min_le_right _ _)
  have hf : (Builtin.firstCells k (Nat.min n2 n) (.slice a2 n2 c2)).run P w = .ok ⟨src.take (Nat.min n2 n * k)⟩ w := by
    rcases hs with rfl | ⟨b2, o2, rfl, hat⟩
    · cases a2 with
      | none => simp [Builtin.firstCells]
      | some a =>
        have h0 : Nat.min n2 n * k = 0 := by simpa using hm1
        simp only [Builtin.firstCells, h0]
        rfl
    · simp only [Builtin.firstCells]; exact hat.cells hm1
  obtain ⟨w', h1, h2, h3, h4⟩ := hd.stores (P := P) (i := i) (vs := src.take (Nat.min n2 n * k)) (by simp; omega) (fun v hv' => hv v (List.mem_of_mem_take hv'))
  refine ⟨w', ?_, h2, h3, h4⟩
  simp [Builtin.copy_, run_und he, Builtin.lenOf, sizeOf, typeInfo, hi, hk, hf, h1, goInt]
end
end Go.Den
end
section
/- Layer 1, numbers as bytes: num.Get, num.Put. -/
open Go Go.Den Go.Proofs
namespace Go.Den

def u8 (x : UInt8) : Value := .int .u8 (x.toNat : Int)
def u8L (xs : List UInt8) : List Value := xs.map u8
@[simp] theorem length_u8L (xs : List UInt8) : (u8L xs).length = xs.length := by simp [u8L]
theorem u8L_get {xs : List UInt8} {i : Nat} (hi : i < xs.length) : (u8L xs)[i]? = some (.int .u8 (xs[i].toNat : Int)) := by simp [u8L, hi, u8]
/-- A row of bytes that a slice shows. -/
def Row (w : World) (a : Option Addr) (cs : List Value) : Prop := cs = [] ∨ ∃ b o, a = some ⟨b, o, none⟩ ∧ At w b o cs
def RowU (w : World) (a : Option Addr) (cs : List Value) : Prop := cs = [] ∨ ∃ b o, a = some ⟨b, o, none⟩ ∧ AtU w b o cs
end Go.Den

namespace Go.Proofs.YtocjjigmpgekfaaGreat
/-- A number's lowest bytes. -/
def toLe : Nat → Nat → List UInt8
  | 0, _ => []
  | k + 1, n => UInt8.ofNat (n % 256) :: toLe k (n / 256)
@[simp] theorem length_toLe : ∀ k n, (toLe k n).length = k
  | 0, _ => rfl
  | k + 1, n => by simp [toLe, length_toLe k]
end Go.Proofs.YtocjjigmpgekfaaGreat
end
section
/- The ways of layer 9: blocks of names, spans, and back. -/
open Go Go.Den Go.Proofs
namespace Go.Den
def I (n : Int) : Value := .int .i64 n
def iL (ns : List Int) : List Value := ns.map I
@[simp] theorem length_iL (ns : List Int) : (iL ns).length = ns.length := by simp [iL]
theorem iL_get {ns : List Int} {i : Nat} (hi : i < ns.length) : (iL ns)[i]? = some (.int .i64 ns[i]) := by simp [iL, hi, I]
theorem one_u8L (xs : List UInt8) : ∀ v ∈ u8L xs, v.oneCell' = true := by
  intro v hv; simp [u8L] at hv; obtain ⟨x, _, rfl⟩ := hv; rfl
theorem one_iL (xs : List Int) : ∀ v ∈ iL xs, v.oneCell' = true := by
  intro v hv; simp [iL] at hv; obtain ⟨x, _, rfl⟩ := hv; rfl
theorem u8L_sub (xs : List UInt8) (i m : Nat) : ((u8L xs).drop i).take m = u8L ((xs.drop i).take m) := by simp [u8L, List.map_drop, List.map_take]
theorem Row.sub {w : World} {a : Option Addr} {c i m : Nat} {xs : List UInt8} (h : Row w a (u8L xs)) (him : i + m ≤ xs.length) (hc : xs.length ≤ c) (hm : 0 < m) : Row w (cutA a c i 1) (u8L ((xs.drop i).take m)) := by
  rcases h with h | ⟨b, o, rfl, hat⟩
  · have := congrArg List.length h; simp at this; rw [this] at him; simp at him; omega
  · refine .inr ⟨b, o + i, ?_, ?_⟩
    · unfold cutA; rw [if_neg (by omega)]; simp [add_none]
    · rw [← u8L_sub]; exact hat.sub (by simpa using him)
theorem splice_u8L (xs ys : List UInt8) (i : Nat) : splice (u8L xs) i (u8L ys) = u8L (xs.take i ++ ys ++ xs.drop (i + ys.length)) := by
  simp [splice, u8L, List.map_take, List.map_drop]
end Go.Den

namespace Go.Proofs.YtocjjigmpgekfaaGreat
theorem elemZ_ints : elemZ Tryz.prog 49 1 (.int .i64 0) 8 := by unfold elemZ; kernel_rfl
theorem elemZ_bytes : elemZ Tryz.prog 36 1 (.int .u8 0) 1 := by unfold elemZ; kernel_rfl

end Go.Proofs.YtocjjigmpgekfaaGreat
end
