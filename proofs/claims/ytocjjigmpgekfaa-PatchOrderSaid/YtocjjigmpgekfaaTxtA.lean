/- What functions of the translation come to, as printed by a program of this session. -/
import Derived.Test.YtocjjigmpgekfaaIds
open Go Go.Den Go.Proofs
namespace Go.Proofs.Ytocjjigmpgekfaa

/- levee.leveelaw11.PatchOrder: slots {9: 'l', 10: 'i', 13: 'ids', 14: 'ahead', 15: 'k', 20: 'i', 22: 'i', 25: 'k', 40: '', 48: '', 60: '', 70: '', 89: '', 128: '', 197: '', 225: ''}; loop over [13, 14, 15, 89]; loop over [25, 225]; loop over [22, 25, 197, 225]; loop over [20]; loop over [9, 10, 13, 14, 15, 48, 60, 70, 89, 128] -/
set_option maxRecDepth 100000 in
def D_leveelaw11_PatchOrder (a0 : Option Addr) (l0 c0 : Nat) (a1 : Option Addr) (l1 c1 : Nat) (w0 : World) (K : Value → World → Prop) : Prop :=
 Cal Try.prog F_disk_New #[.int .i64 5] w0 fun r27 w1 => ∃ p27a : Option Addr, ∃ n27b : Int, r27 = .tuple #[.pointer p27a, .int .i64 n27b] ∧ Cal Try.prog F_patch_Open #[.pointer p27a, .int .i64 5] w1 fun r32 w2 => ∃ p32a : Option Addr, ∃ n32b : Int, r32 = .tuple #[.pointer p32a, .int .i64 n32b] ∧ Share (fun k => (bif n32b != 0 then k [.bool true] w2 else k [.bool (Option.isNone p32a)] w2)) fun x w3 =>
 ∃ b40 : Bool, nth x 0 = .bool b40 ∧ (bif b40 then
 K (.bool false) w3
 else
 LoopC (fun k_2 x_2 w4 =>
 Share (fun k_3 => ∃ n10 : Int, nth x_2 1 = .int .i64 n10 ∧ (bif decide (n10 < (l0 : Int)) then k_3 [.bool (decide (n10 < 60))] w4 else k_3 [.bool false] w4)) fun x_3 w5 =>
 ∃ b48 : Bool, nth x_3 0 = .bool b48 ∧ (bif b48 then
 ∃ n10_2 : Int, nth x_2 1 = .int .i64 n10_2 ∧ ∃ q53 : Addr, Al (Instr.indexAt 22 (.slice a0 l0 c0) (.int .i64 n10_2)) (.pointer (some q53)) ∧ ∃ g54 : Array Value, Ru (Instr.loadAt 35 (.pointer (some q53))) w5 (.agg g54) w5 ∧ ∃ q11 : Addr, ∃ w6 : World, Ru (Instr.alloc 35 true (.tuple #[])) w5 (.pointer (some q11)) w6 ∧ ∃ w7 : World, RuU (Instr.storeAt 35 (.pointer (some q11)) (.agg g54)) w6 w7 ∧ ∃ n56 : Int, Ru (Instr.loadAt 3 (.pointer (some (Addr.add q11 1)))) w7 (.int .i64 n56) w7 ∧ Cal Try.prog F_leveeref01_Count #[.int .i64 n56, .int .i64 5] w7 fun r57 w8 => ∃ n57 : Int, r57 = .int .i64 n57 ∧ ∃ n59 : Int, Ru (Instr.loadAt 3 (.pointer (some (Addr.add q11 0)))) w8 (.int .i64 n59) w8 ∧ Share (fun k_4 => (bif n59 == 5 then
 k_4 [.bool (n59 == 5)] w8
 else
 k_4 [.bool (n59 == 6)] w8)) fun x_4 w9 =>
 ∃ b60 : Bool, nth x_4 0 = .bool b60 ∧ Share (fun k_5 => (bif b60 then
 Cal Try.prog F_patch_Store_Write #[.pointer p32a, .int .i64 n57] w9 fun r65 w10 => ∃ n65 : Int, r65 = .int .i64 n65 ∧ k_5 [nth x_2 0, nth x_2 2, nth x_2 3, nth x_2 4, nth x_2 7, nth x_2 8, nth x_2 9] w10
 else
 Share (fun k_6 => (bif n59 == 7 then
 Cal Try.prog F_patch_Store_Flush #[.pointer p32a] w9 fun r69 w11 => ∃ n69 : Int, r69 = .int .i64 n69 ∧ k_6 [nth x_2 0, nth x_2 2, nth x_2 3, nth x_2 4, nth x_2 7, nth x_2 8, nth x_2 9] w11
 else
 Share (fun k_7 => (bif n59 == 0 then
 k_7 [.bool (n59 == 0)] w9
 else
 Share (fun k_8 => (bif n59 == 1 then
 k_8 [.bool (n59 == 1)] w9
 else
 Share (fun k_9 => (bif n59 == 2 then
 k_9 [.bool (n59 == 2)] w9
 else
 Share (fun k_10 => (bif n59 == 3 then
 k_10 [.bool (n59 == 3)] w9
 else
 k_10 [.bool (n59 == 4)] w9)) fun x_10 w12 =>
 k_9 [nth x_10 0] w12)) fun x_9 w13 =>
 k_8 [nth x_9 0] w13)) fun x_8 w14 =>
 k_7 [nth x_8 0] w14)) fun x_7 w15 =>
 ∃ b70 : Bool, nth x_7 0 = .bool b70 ∧ Share (fun k_11 => (bif b70 then
 LoopC (fun k_12 x_12 w16 =>
 Share (fun k_13 => ∃ n15 : Int, nth x_12 2 = .int .i64 n15 ∧ ∃ (a78 : Option Addr) (l78 c78 : Nat), Ru (Instr.loadAt 33 (.pointer (some (Addr.add q11 4)))) w16 (.slice a78 l78 c78) w16 ∧ (bif decide (n15 < (l78 : Int)) then (bif decide (n15 < 4) then ∃ (a9 : Option Addr) (l9 c9 : Nat), nth x_2 0 = .slice a9 l9 c9 ∧ k_13 [.bool (decide ((l9 : Int) > 0))] w16 else k_13 [.bool false] w16) else k_13 [.bool false] w16)) fun x_13 w17 =>
 ∃ b89 : Bool, nth x_13 0 = .bool b89 ∧ (bif b89 then
 ∃ (a93 : Option Addr) (l93 c93 : Nat), Ru (Instr.loadAt 33 (.pointer (some (Addr.add q11 4)))) w17 (.slice a93 l93 c93) w17 ∧ ∃ n15_2 : Int, nth x_12 2 = .int .i64 n15_2 ∧ ∃ q95 : Addr, Al (Instr.indexAt 33 (.slice a93 l93 c93) (.int .i64 n15_2)) (.pointer (some q95)) ∧ ∃ n96 : Int, Ru (Instr.loadAt 2 (.pointer (some q95))) w17 (.int .i64 n96) w17 ∧ ∃ (a9_2 : Option Addr) (l9_2 c9_2 : Nat), nth x_2 0 = .slice a9_2 l9_2 c9_2 ∧ Cal Try.prog F_leveeref01_Count #[.int .i64 (Int.tmod n96 1000), .int .i64 ((l9_2 : Int))] w17 fun r100 w18 => ∃ n100 : Int, r100 = .int .i64 n100 ∧ ∃ (a13 : Option Addr) (l13 c13 : Nat), nth x_12 0 = .slice a13 l13 c13 ∧ ∃ (a104 : Option Addr) (l104 c104 : Nat), ∃ w19 : World, Ru (Instr.buildSlice 33 1 #[(0, .int .i64 (IntKind.i64.wrap (n100 + 1)))]) w18 (.slice a104 l104 c104) w19 ∧ ∃ (a105 : Option Addr) (l105 c105 : Nat), ∃ w20 : World, Ru (Builtin.append_ #[33, 33] 33 #[.slice a13 l13 c13, .slice a104 l104 c104]) w19 (.slice a105 l105 c105) w20 ∧ ∃ (a14 : Option Addr) (l14 c14 : Nat), nth x_12 1 = .slice a14 l14 c14 ∧ ∃ (a108 : Option Addr) (l108 c108 : Nat), ∃ w21 : World, Ru (Instr.buildSlice 23 1 #[(0, .int .i64 n100)]) w20 (.slice a108 l108 c108) w21 ∧ ∃ (a109 : Option Addr) (l109 c109 : Nat), ∃ w22 : World, Ru (Builtin.append_ #[23, 23] 23 #[.slice a14 l14 c14, .slice a108 l108 c108]) w21 (.slice a109 l109 c109) w22 ∧ k_12 [.slice a105 l105 c105, .slice a109 l109 c109, .int .i64 (IntKind.i64.wrap (n15_2 + 1)), .bool b89] w22
 else
 ∃ (a9_3 : Option Addr) (l9_3 c9_3 : Nat), nth x_2 0 = .slice a9_3 l9_3 c9_3 ∧ ∃ (a115 : Option Addr) (l115 c115 : Nat), ∃ w23 : World, Ru (Instr.buildSlice 32 1 #[(0, .int .u8 1)]) w17 (.slice a115 l115 c115) w23 ∧ ∃ (a13_2 : Option Addr) (l13_2 c13_2 : Nat), nth x_12 0 = .slice a13_2 l13_2 c13_2 ∧ Cal Try.prog F_patch_Store_Patch #[.pointer p32a, .int .i64 n57, .int .i64 ((l9_3 : Int)), .slice a115 l115 c115, .slice a13_2 l13_2 c13_2] w23 fun r117 w24 => ∃ n117a : Int, ∃ n117b : Int, r117 = .tuple #[.int .i64 n117a, .int .i64 n117b] ∧ Share (fun k_14 => (bif n117b != 0 then k_14 [.bool true] w24 else k_14 [.bool (n117a != (IntKind.i64.wrap ((l9_3 : Int) + 1)))] w24)) fun x_14 w25 =>
 ∃ b128 : Bool, nth x_14 0 = .bool b128 ∧ (bif b128 then
 K (.bool false) w25
 else
 ∃ (a14_2 : Option Addr) (l14_2 c14_2 : Nat), nth x_12 1 = .slice a14_2 l14_2 c14_2 ∧ ∃ g134 : Array Value, Al (Instr.build 42 #[(0, .int .i64 n57), (1, .int .i64 ((l9_3 : Int))), (2, .slice a14_2 l14_2 c14_2)]) (.agg g134) ∧ ∃ (a135 : Option Addr) (l135 c135 : Nat), ∃ w26 : World, Ru (Instr.buildSlice 31 1 #[(0, .agg g134)]) w25 (.slice a135 l135 c135) w26 ∧ ∃ (a136 : Option Addr) (l136 c136 : Nat), ∃ w27 : World, Ru (Builtin.append_ #[31, 31] 31 #[.slice a9_3 l9_3 c9_3, .slice a135 l135 c135]) w26 (.slice a136 l136 c136) w27 ∧ k_11 [.slice a136 l136 c136, .slice a13_2 l13_2 c13_2, .slice a14_2 l14_2 c14_2, nth x_12 2, .bool b89, .bool b128] w27))) [.slice none 0 0, .slice none 0 0, .int .i64 0, nth x_2 8] w15
 else
 k_11 [nth x_2 0, nth x_2 2, nth x_2 3, nth x_2 4, nth x_2 8, nth x_2 9] w15)) fun x_11 w28 =>
 k_6 [nth x_11 0, nth x_11 1, nth x_11 2, nth x_11 3, .bool b70, nth x_11 4, nth x_11 5] w28)) fun x_6 w29 =>
 k_5 [nth x_6 0, nth x_6 1, nth x_6 2, nth x_6 3, nth x_6 4, nth x_6 5, nth x_6 6] w29)) fun x_5 w30 =>
 k_2 [nth x_5 0, .int .i64 (IntKind.i64.wrap (n10_2 + 1)), nth x_5 1, nth x_5 2, nth x_5 3, .bool b48, .bool b60, nth x_5 4, nth x_5 5, nth x_5 6] w30
 else
 ∃ (a9_4 : Option Addr) (l9_4 c9_4 : Nat), nth x_2 0 = .slice a9_4 l9_4 c9_4 ∧ ∃ (a139 : Option Addr) (l139 c139 : Nat), ∃ w31 : World, Ru (Instr.makeSlice 43 (.int .i64 ((l9_4 : Int))) (.int .i64 ((l9_4 : Int)))) w5 (.slice a139 l139 c139) w31 ∧ LoopC (fun k_15 x_15 w32 =>
 ∃ n20 : Int, nth x_15 0 = .int .i64 n20 ∧ (bif decide (n20 < (l9_4 : Int)) then
 Cal Try.prog F_patch_Store_Safe #[.pointer p32a, .int .i64 (IntKind.i64.wrap (n20 + 1))] w32 fun r151 w33 => ∃ b151 : Bool, r151 = .bool b151 ∧ ∃ q152 : Addr, Al (Instr.indexAt 43 (.slice a139 l139 c139) (.int .i64 n20)) (.pointer (some q152)) ∧ ∃ w34 : World, RuU (Instr.storeAt 4 (.pointer (some q152)) (.bool b151)) w33 w34 ∧ k_15 [.int .i64 (IntKind.i64.wrap (n20 + 1))] w34
 else
 Cal Try.prog F_disk_Disk_Crash #[.pointer p27a, .slice a1 l1 c1] w32 fun r155 w35 => r155 = .tuple #[] ∧ ∃ (a158 : Option Addr) (l158 c158 : Nat), ∃ w36 : World, Ru (Instr.makeSlice 43 (.int .i64 ((l9_4 : Int))) (.int .i64 ((l9_4 : Int)))) w35 (.slice a158 l158 c158) w36 ∧ LoopC (fun k_16 x_16 w37 =>
 ∃ n22 : Int, nth x_16 0 = .int .i64 n22 ∧ (bif decide (n22 < (l9_4 : Int)) then
 ∃ q169 : Addr, Al (Instr.indexAt 31 (.slice a9_4 l9_4 c9_4) (.int .i64 n22)) (.pointer (some q169)) ∧ ∃ n171 : Int, Ru (Instr.loadAt 3 (.pointer (some (Addr.add q169 0)))) w37 (.int .i64 n171) w37 ∧ Cal Try.prog F_disk_Disk_Read #[.pointer p27a, .int .i64 n171] w37 fun r172 w38 => ∃ (a172a : Option Addr) (l172a c172a : Nat), ∃ n172b : Int, r172 = .tuple #[.slice a172a l172a c172a, .int .i64 n172b] ∧ ∃ q180 : Addr, Al (Instr.indexAt 31 (.slice a9_4 l9_4 c9_4) (.int .i64 n22)) (.pointer (some q180)) ∧ ∃ n182 : Int, Ru (Instr.loadAt 3 (.pointer (some (Addr.add q180 1)))) w38 (.int .i64 n182) w38 ∧ ∃ q183 : Addr, Al (Instr.indexAt 32 (.slice a172a l172a c172a) (.int .i64 n182)) (.pointer (some q183)) ∧ ∃ n184 : Int, Ru (Instr.loadAt 5 (.pointer (some q183))) w38 (.int .u8 n184) w38 ∧ ∃ q186 : Addr, Al (Instr.indexAt 43 (.slice a158 l158 c158) (.int .i64 n22)) (.pointer (some q186)) ∧ ∃ w39 : World, RuU (Instr.storeAt 4 (.pointer (some q186)) (.bool (n184 == 1))) w38 w39 ∧ Share (fun k_17 => ∃ q189 : Addr, Al (Instr.indexAt 43 (.slice a139 l139 c139) (.int .i64 n22)) (.pointer (some q189)) ∧ ∃ b190 : Bool, Ru (Instr.loadAt 4 (.pointer (some q189))) w39 (.bool b190) w39 ∧ (bif b190 then ∃ q194 : Addr, Al (Instr.indexAt 43 (.slice a158 l158 c158) (.int .i64 n22)) (.pointer (some q194)) ∧ ∃ b195 : Bool, Ru (Instr.loadAt 4 (.pointer (some q194))) w39 (.bool b195) w39 ∧ k_17 [.bool (!b195)] w39 else k_17 [.bool false] w39)) fun x_17 w40 =>
 ∃ b197 : Bool, nth x_17 0 = .bool b197 ∧ (bif b197 then
 K (.bool false) w40
 else
 LoopC (fun k_18 x_18 w41 =>
 ∃ n25 : Int, nth x_18 0 = .int .i64 n25 ∧ ∃ q201 : Addr, Al (Instr.indexAt 31 (.slice a9_4 l9_4 c9_4) (.int .i64 n22)) (.pointer (some q201)) ∧ ∃ (a203 : Option Addr) (l203 c203 : Nat), Ru (Instr.loadAt 23 (.pointer (some (Addr.add q201 2)))) w41 (.slice a203 l203 c203) w41 ∧ (bif decide (n25 < (l203 : Int)) then
 Share (fun k_19 => ∃ q210 : Addr, Al (Instr.indexAt 43 (.slice a158 l158 c158) (.int .i64 n22)) (.pointer (some q210)) ∧ ∃ b211 : Bool, Ru (Instr.loadAt 4 (.pointer (some q210))) w41 (.bool b211) w41 ∧ (bif b211 then ∃ q216 : Addr, Al (Instr.indexAt 31 (.slice a9_4 l9_4 c9_4) (.int .i64 n22)) (.pointer (some q216)) ∧ ∃ (a218 : Option Addr) (l218 c218 : Nat), Ru (Instr.loadAt 23 (.pointer (some (Addr.add q216 2)))) w41 (.slice a218 l218 c218) w41 ∧ ∃ q220 : Addr, Al (Instr.indexAt 23 (.slice a218 l218 c218) (.int .i64 n25)) (.pointer (some q220)) ∧ ∃ n221 : Int, Ru (Instr.loadAt 3 (.pointer (some q220))) w41 (.int .i64 n221) w41 ∧ ∃ q222 : Addr, Al (Instr.indexAt 43 (.slice a158 l158 c158) (.int .i64 n221)) (.pointer (some q222)) ∧ ∃ b223 : Bool, Ru (Instr.loadAt 4 (.pointer (some q222))) w41 (.bool b223) w41 ∧ k_19 [.bool (!b223)] w41 else k_19 [.bool false] w41)) fun x_19 w42 =>
 ∃ b225 : Bool, nth x_19 0 = .bool b225 ∧ (bif b225 then
 K (.bool false) w42
 else
 k_18 [.int .i64 (IntKind.i64.wrap (n25 + 1)), .bool b225] w42)
 else
 k_16 [.int .i64 (IntKind.i64.wrap (n22 + 1)), .int .i64 n25, .bool b197, nth x_18 1] w41)) [.int .i64 0, nth x_16 3] w40)
 else
 Cal Try.prog F_leveelaw11_known #[] w37 fun r226 w43 => ∃ b226 : Bool, r226 = .bool b226 ∧ K (.bool b226) w43)) [.int .i64 0, undef, undef, undef] w36)) [.int .i64 0] w31)) [.slice none 0 0, .int .i64 0, undef, undef, undef, undef, undef, undef, undef, undef] w3)
set_option maxRecDepth 100000 in
theorem C_leveelaw11_PatchOrder (a0 : Option Addr) (l0 c0 : Nat) (a1 : Option Addr) (l1 c1 : Nat) (w0 : World) (K : Value → World → Prop) (h : D_leveelaw11_PatchOrder a0 l0 c0 a1 l1 c1 w0 K) : Cal Try.prog F_leveelaw11_PatchOrder #[.slice a0 l0 c0, .slice a1 l1 c1] w0 K :=
 denF_sound (A := { S := [9, 10, 13, 14, 15, 20, 22, 25, 40, 48, 60, 70, 89, 128, 197, 225], ty := [(9, 31), (10, 3), (13, 33), (14, 23), (15, 3), (20, 3), (22, 3), (25, 3), (40, 4), (48, 4), (60, 4), (70, 4), (89, 4), (128, 4), (197, 4), (225, 4)], raw := [] }) mixed Try.func3 (by kernel_rfl) (by kernel_rfl) ((show denF Try.prog _ Try.f3 _ w0 K = D_leveelaw11_PatchOrder a0 l0 c0 a1 l1 c1 w0 K by kernel_rfl).mpr h)

/- levee.disk.New: slots {9: ''};  -/
set_option maxRecDepth 100000 in
def D_disk_New (n0 : Int) (w0 : World) (K : Value → World → Prop) : Prop :=
 Share (fun k => (bif decide (n0 < 1) then k [.bool true] w0 else k [.bool (decide (n0 > 4096))] w0)) fun x w1 =>
 ∃ b9 : Bool, nth x 0 = .bool b9 ∧ (bif b9 then
 K (.tuple #[.pointer none, .int .i64 1]) w1
 else
 ∃ (a11 : Option Addr) (l11 c11 : Nat), ∃ w2 : World, Ru (Instr.makeSlice 50 (.int .i64 n0) (.int .i64 n0)) w1 (.slice a11 l11 c11) w2 ∧ ∃ m12 : Option Nat, ∃ w3 : World, Ru (Instr.makeMap 51 none) w2 (.map m12) w3 ∧ ∃ g13 : Array Value, Al (Instr.build 53 #[(0, .slice a11 l11 c11), (1, .map m12), (2, .int .i64 ((-1)))]) (.agg g13) ∧ ∃ q14 : Addr, ∃ w4 : World, Ru (Instr.box 53 (.agg g13)) w3 (.pointer (some q14)) w4 ∧ K (.tuple #[.pointer (some q14), .int .i64 0]) w4)
set_option maxRecDepth 100000 in
theorem C_disk_New (n0 : Int) (w0 : World) (K : Value → World → Prop) (h : D_disk_New n0 w0 K) : Cal Try.prog F_disk_New #[.int .i64 n0] w0 K :=
 denF_sound (A := { S := [9], ty := [(9, 4)], raw := [] }) mixed Try.func4 (by kernel_rfl) (by kernel_rfl) ((show denF Try.prog _ Try.f4 _ w0 K = D_disk_New n0 w0 K by kernel_rfl).mpr h)

/- levee.patch.Open: slots {};  -/
set_option maxRecDepth 100000 in
def D_patch_Open (p0 : Option Addr) (n1 : Int) (w0 : World) (K : Value → World → Prop) : Prop :=
 Cal Try.prog F_cache_New #[.pointer p0, .int .i64 n1] w0 fun r11 w1 => ∃ p11a : Option Addr, ∃ n11b : Int, r11 = .tuple #[.pointer p11a, .int .i64 n11b] ∧ (bif n11b != 0 then
 K (.tuple #[.pointer none, .int .i64 n11b]) w1
 else
 Cal Try.prog F_disk_Disk_Len #[.pointer p0] w1 fun r19 w2 => ∃ n19 : Int, r19 = .int .i64 n19 ∧ ∃ m20 : Option Nat, ∃ w3 : World, Ru (Instr.makeMap 58 none) w2 (.map m20) w3 ∧ ∃ m21 : Option Nat, ∃ w4 : World, Ru (Instr.makeMap 59 none) w3 (.map m21) w4 ∧ ∃ g22 : Array Value, Al (Instr.build 61 #[(0, .pointer p11a), (1, .int .i64 n19), (3, .map m20), (4, .map m21)]) (.agg g22) ∧ ∃ q23 : Addr, ∃ w5 : World, Ru (Instr.box 61 (.agg g22)) w4 (.pointer (some q23)) w5 ∧ K (.tuple #[.pointer (some q23), .int .i64 0]) w5)
set_option maxRecDepth 100000 in
theorem C_patch_Open (p0 : Option Addr) (n1 : Int) (w0 : World) (K : Value → World → Prop) (h : D_patch_Open p0 n1 w0 K) : Cal Try.prog F_patch_Open #[.pointer p0, .int .i64 n1] w0 K :=
 denF_sound (A := { S := [], ty := [], raw := [] }) mixed Try.func5 (by kernel_rfl) (by kernel_rfl) ((show denF Try.prog _ Try.f5 _ w0 K = D_patch_Open p0 n1 w0 K by kernel_rfl).mpr h)

/- levee.leveeref01.Count: slots {0: 'k'};  -/
set_option maxRecDepth 100000 in
def D_leveeref01_Count (n0 : Int) (n1 : Int) (w0 : World) (K : Value → World → Prop) : Prop :=
 (bif decide (n1 < 1) then
 K (.int .i64 0) w0
 else
 ∃ n9 : Int, Al (eqS .rem 3 (.tmp 7) (.tmp 8) (.int .i64 n0) (.int .i64 n1)) (.int .i64 n9) ∧ Share (fun k => (bif decide (n9 < 0) then
 k [.int .i64 (IntKind.i64.wrap (n9 + n1))] w0
 else
 k [.int .i64 n9] w0)) fun x w1 =>
 ∃ n0_2 : Int, nth x 0 = .int .i64 n0_2 ∧ K (.int .i64 n0_2) w1)
set_option maxRecDepth 100000 in
theorem C_leveeref01_Count (n0 : Int) (n1 : Int) (w0 : World) (K : Value → World → Prop) (h : D_leveeref01_Count n0 n1 w0 K) : Cal Try.prog F_leveeref01_Count #[.int .i64 n0, .int .i64 n1] w0 K :=
 denF_sound (A := { S := [0], ty := [(0, 3)], raw := [] }) mixed Try.func6 (by kernel_rfl) (by kernel_rfl) ((show denF Try.prog _ Try.f6 _ w0 K = D_leveeref01_Count n0 n1 w0 K by kernel_rfl).mpr h)

/- (levee.patch.Store).Write: slots {6: 'why', 13: '', 68: ''}; loop over [68] -/
set_option maxRecDepth 100000 in
def D_patch_Store_Write (p0 : Option Addr) (n1 : Int) (w0 : World) (K : Value → World → Prop) : Prop :=
 (bif Option.isNone p0 then
 K (.int .i64 2) w0
 else
 Share (fun k => (bif decide (n1 < 0) then k [.bool true] w0 else ∃ q19 : Addr, (.pointer p0 : Value) = .pointer (some q19) ∧ ∃ n21 : Int, Ru (Instr.loadAt 3 (.pointer (some (Addr.add q19 1)))) w0 (.int .i64 n21) w0 ∧ k [.bool (decide (n1 ≥ n21))] w0)) fun x w1 =>
 ∃ b13 : Bool, nth x 0 = .bool b13 ∧ (bif b13 then
 K (.int .i64 3) w1
 else
 ∃ q26 : Addr, (.pointer p0 : Value) = .pointer (some q26) ∧ ∃ m28 : Option Nat, Ru (Instr.loadAt 59 (.pointer (some (Addr.add q26 4)))) w1 (.map m28) w1 ∧ ∃ p30 : Option Addr, Ru (Instr.lookup 59 (.map m28) (.int .i64 n1) false) w1 (.pointer p30) w1 ∧ (bif Option.isNone p30 then
 K (.int .i64 20) w1
 else
 Cal Try.prog F_patch_Store_Image #[.pointer p0, .int .i64 n1] w1 fun r35 w2 => ∃ (a35a : Option Addr) (l35a c35a : Nat), ∃ n35b : Int, r35 = .tuple #[.slice a35a l35a c35a, .int .i64 n35b] ∧ Share (fun k_2 => (bif n35b == 0 then
 ∃ q41 : Addr, (.pointer p0 : Value) = .pointer (some q41) ∧ ∃ p43 : Option Addr, Ru (Instr.loadAt 54 (.pointer (some (Addr.add q41 0)))) w2 (.pointer p43) w2 ∧ Cal Try.prog F_cache_Cache_Write #[.pointer p43, .int .i64 n1, .slice a35a l35a c35a] w2 fun r46 w3 => ∃ n46 : Int, r46 = .int .i64 n46 ∧ k_2 [.int .i64 n46] w3
 else
 k_2 [.int .i64 n35b] w2)) fun x_2 w4 =>
 ∃ n6 : Int, nth x_2 0 = .int .i64 n6 ∧ (bif n6 != 0 then
 K (.int .i64 n6) w4
 else
 ∃ q52 : Addr, (.pointer p0 : Value) = .pointer (some q52) ∧ ∃ m54 : Option Nat, Ru (Instr.loadAt 59 (.pointer (some (Addr.add q52 4)))) w4 (.map m54) w4 ∧ ∃ p56 : Option Addr, Ru (Instr.lookup 59 (.map m54) (.int .i64 n1) false) w4 (.pointer p56) w4 ∧ Cal Try.prog F_patch_Store_may #[.pointer p0, .pointer p56] w4 fun r57 w5 => ∃ m57 : Option Nat, r57 = .map m57 ∧ ∃ q59 : Addr, (.pointer p0 : Value) = .pointer (some q59) ∧ ∃ m61 : Option Nat, Ru (Instr.loadAt 59 (.pointer (some (Addr.add q59 4)))) w5 (.map m61) w5 ∧ ∃ p63 : Option Addr, Ru (Instr.lookup 59 (.map m61) (.int .i64 n1) false) w5 (.pointer p63) w5 ∧ ∃ q64 : Addr, (.pointer p63 : Value) = .pointer (some q64) ∧ ∃ (a66 : Option Addr) (l66 c66 : Nat), Ru (Instr.loadAt 66 (.pointer (some (Addr.add q64 1)))) w5 (.slice a66 l66 c66) w5 ∧ LoopC (fun k_3 x_3 w6 =>
 ∃ n68 : Int, nth x_3 0 = .int .i64 n68 ∧ (bif decide (n68 < (l66 : Int)) then
 ∃ q70 : Addr, Al (Instr.indexAt 66 (.slice a66 l66 c66) (.int .i64 n68)) (.pointer (some q70)) ∧ ∃ p71 : Option Addr, Ru (Instr.loadAt 69 (.pointer (some q70))) w6 (.pointer p71) w6 ∧ Share (fun k_4 => ∃ q74 : Addr, (.pointer p71 : Value) = .pointer (some q74) ∧ ∃ b76 : Bool, Ru (Instr.loadAt 4 (.pointer (some (Addr.add q74 5)))) w6 (.bool b76) w6 ∧ (bif b76 then ∃ q85 : Addr, (.pointer p71 : Value) = .pointer (some q85) ∧ ∃ w7 : World, RuU (Instr.storeAt 4 (.pointer (some (Addr.add q85 5))) (.bool true)) w6 w7 ∧ k_4 [] w7 else ∃ q80 : Addr, (.pointer p71 : Value) = .pointer (some q80) ∧ ∃ n82 : Int, Ru (Instr.loadAt 2 (.pointer (some (Addr.add q80 0)))) w6 (.int .i64 n82) w6 ∧ ∃ b83 : Bool, Ru (Instr.lookup 64 (.map m57) (.int .i64 n82) false) w6 (.bool b83) w6 ∧ ∃ q85_2 : Addr, (.pointer p71 : Value) = .pointer (some q85_2) ∧ ∃ w8 : World, RuU (Instr.storeAt 4 (.pointer (some (Addr.add q85_2 5))) (.bool b83)) w6 w8 ∧ k_4 [] w8)) fun x_4 w9 =>
 k_3 [.int .i64 (IntKind.i64.wrap (n68 + 1))] w9
 else
 K (.int .i64 0) w6)) [.int .i64 0] w5))))
set_option maxRecDepth 100000 in
theorem C_patch_Store_Write (p0 : Option Addr) (n1 : Int) (w0 : World) (K : Value → World → Prop) (h : D_patch_Store_Write p0 n1 w0 K) : Cal Try.prog F_patch_Store_Write #[.pointer p0, .int .i64 n1] w0 K :=
 denF_sound (A := { S := [6, 13, 68], ty := [(6, 25), (13, 4), (68, 3)], raw := [] }) mixed Try.func7 (by kernel_rfl) (by kernel_rfl) ((show denF Try.prog _ Try.f7 _ w0 K = D_patch_Store_Write p0 n1 w0 K by kernel_rfl).mpr h)

/- (levee.patch.Store).Flush: slots {38: ''}; loop over [38]; loop over [38] -/
set_option maxRecDepth 100000 in
def D_patch_Store_Flush (p0 : Option Addr) (w0 : World) (K : Value → World → Prop) : Prop :=
 (bif Option.isNone p0 then
 K (.int .i64 2) w0
 else
 ∃ q11 : Addr, (.pointer p0 : Value) = .pointer (some q11) ∧ ∃ p13 : Option Addr, Ru (Instr.loadAt 54 (.pointer (some (Addr.add q11 0)))) w0 (.pointer p13) w0 ∧ Cal Try.prog F_cache_Cache_Flush #[.pointer p13] w0 fun r14 w1 => ∃ n14 : Int, r14 = .int .i64 n14 ∧ (bif n14 != 0 then
 K (.int .i64 n14) w1
 else
 ∃ q19 : Addr, (.pointer p0 : Value) = .pointer (some q19) ∧ ∃ m21 : Option Nat, Ru (Instr.loadAt 59 (.pointer (some (Addr.add q19 4)))) w1 (.map m21) w1 ∧ ∃ q22 : Addr, ∃ w2 : World, Ru (Instr.range 59 (.map m21)) w1 (.pointer (some q22)) w2 ∧ LoopC (fun k x w3 =>
 ∃ v23 : Value, ∃ w4 : World, Ru (Instr.next (.pointer (some q22)) false 0) w3 v23 w4 ∧ ∃ b24 : Bool, Al (Instr.extract v23 0) (.bool b24) ∧ (bif b24 then
 ∃ v25 : Value, Ru (Instr.entry (.pointer (some q22))) w4 v25 w4 ∧ ∃ n26 : Int, Al (Instr.extract v25 0) (.int .i64 n26) ∧ ∃ p27 : Option Addr, Al (Instr.extract v25 1) (.pointer p27) ∧ Cal Try.prog F_patch_on_with #[.pointer p27, .func (.func F_patch_Store_Flush_1) #[] #[]] w4 fun r30 w5 => ∃ (a30 : Option Addr) (l30 c30 : Nat), r30 = .slice a30 l30 c30 ∧ ∃ q31 : Addr, (.pointer p27 : Value) = .pointer (some q31) ∧ ∃ w6 : World, RuU (Instr.storeAt 32 (.pointer (some (Addr.add q31 0))) (.slice a30 l30 c30)) w5 w6 ∧ ∃ q34 : Addr, (.pointer p27 : Value) = .pointer (some q34) ∧ ∃ (a36 : Option Addr) (l36 c36 : Nat), Ru (Instr.loadAt 66 (.pointer (some (Addr.add q34 1)))) w6 (.slice a36 l36 c36) w6 ∧ LoopC (fun k_2 x_2 w7 =>
 ∃ n38 : Int, nth x_2 0 = .int .i64 n38 ∧ (bif decide (n38 < (l36 : Int)) then
 ∃ q40 : Addr, Al (Instr.indexAt 66 (.slice a36 l36 c36) (.int .i64 n38)) (.pointer (some q40)) ∧ ∃ p41 : Option Addr, Ru (Instr.loadAt 69 (.pointer (some q40))) w7 (.pointer p41) w7 ∧ ∃ q43 : Addr, (.pointer p41 : Value) = .pointer (some q43) ∧ ∃ b45 : Bool, Ru (Instr.loadAt 4 (.pointer (some (Addr.add q43 5)))) w7 (.bool b45) w7 ∧ Share (fun k_3 => (bif b45 then
 ∃ q47 : Addr, (.pointer p0 : Value) = .pointer (some q47) ∧ ∃ m49 : Option Nat, Ru (Instr.loadAt 58 (.pointer (some (Addr.add q47 3)))) (drew w7) (.map m49) (drew w7) ∧ ∃ q51 : Addr, (.pointer p41 : Value) = .pointer (some q51) ∧ ∃ n53 : Int, Ru (Instr.loadAt 2 (.pointer (some (Addr.add q51 0)))) (drew w7) (.int .i64 n53) (drew w7) ∧ ∃ w8 : World, Ru (Builtin.delete_ #[58, 2] 0 #[.map m49, .int .i64 n53]) (drew w7) (.tuple #[]) w8 ∧ k_3 [] w8
 else
 k_3 [] w7)) fun x_3 w9 =>
 k_2 [.int .i64 (IntKind.i64.wrap (n38 + 1))] w9
 else
 ∃ q57 : Addr, (.pointer p27 : Value) = .pointer (some q57) ∧ ∃ (a59 : Option Addr) (l59 c59 : Nat), Ru (Instr.loadAt 66 (.pointer (some (Addr.add q57 1)))) w7 (.slice a59 l59 c59) w7 ∧ Cal Try.prog F_slices_DeleteFunc_patch_change #[.slice a59 l59 c59, .func (.func F_patch_Store_Flush_2) #[] #[]] w7 fun r60 w10 => ∃ (a60 : Option Addr) (l60 c60 : Nat), r60 = .slice a60 l60 c60 ∧ ∃ q61 : Addr, (.pointer p27 : Value) = .pointer (some q61) ∧ ∃ w11 : World, RuU (Instr.storeAt 66 (.pointer (some (Addr.add q61 1))) (.slice a60 l60 c60)) w10 w11 ∧ ∃ q64 : Addr, (.pointer p27 : Value) = .pointer (some q64) ∧ ∃ (a66 : Option Addr) (l66 c66 : Nat), Ru (Instr.loadAt 66 (.pointer (some (Addr.add q64 1)))) w11 (.slice a66 l66 c66) w11 ∧ Share (fun k_4 => (bif (l66 : Int) == 0 then
 ∃ q70 : Addr, (.pointer p0 : Value) = .pointer (some q70) ∧ ∃ m72 : Option Nat, Ru (Instr.loadAt 59 (.pointer (some (Addr.add q70 4)))) w11 (.map m72) w11 ∧ ∃ w12 : World, Ru (Builtin.delete_ #[59, 3] 0 #[.map m72, .int .i64 n26]) w11 (.tuple #[]) w12 ∧ ∃ q75 : Addr, (.pointer p0 : Value) = .pointer (some q75) ∧ ∃ p77 : Option Addr, Ru (Instr.loadAt 54 (.pointer (some (Addr.add q75 0)))) w12 (.pointer p77) w12 ∧ Cal Try.prog F_cache_Cache_Unpin #[.pointer p77, .int .i64 n26] w12 fun r79 w13 => ∃ n79 : Int, r79 = .int .i64 n79 ∧ k_4 [] w13
 else
 k_4 [] w11)) fun x_4 w14 =>
 k [.int .i64 n38] w14)) [.int .i64 0] w6
 else
 K (.int .i64 0) w4)) [undef] w2))
set_option maxRecDepth 100000 in
theorem C_patch_Store_Flush (p0 : Option Addr) (w0 : World) (K : Value → World → Prop) (h : D_patch_Store_Flush p0 w0 K) : Cal Try.prog F_patch_Store_Flush #[.pointer p0] w0 K :=
 denF_sound (A := { S := [38], ty := [(38, 3)], raw := [23, 25] }) mixed Try.func8 (by kernel_rfl) (by kernel_rfl) ((show denF Try.prog _ Try.f8 _ w0 K = D_patch_Store_Flush p0 w0 K by kernel_rfl).mpr h)

/- (levee.patch.Store).Patch: slots {14: 'o', 23: '', 34: '', 125: ''}; loop over [125] -/
set_option maxRecDepth 100000 in
def D_patch_Store_Patch (p0 : Option Addr) (n1 : Int) (n2 : Int) (a3 : Option Addr) (l3 c3 : Nat) (a4 : Option Addr) (l4 c4 : Nat) (w0 : World) (K : Value → World → Prop) : Prop :=
 ∃ q5 : Addr, ∃ w1 : World, Ru (Instr.box 28 (.pointer p0)) w0 (.pointer (some q5)) w1 ∧ ∃ p21 : Option Addr, Ru (Instr.loadAt 28 (.pointer (some q5))) w1 (.pointer p21) w1 ∧ (bif Option.isNone p21 then
 K (.tuple #[.int .i64 0, .int .i64 2]) w1
 else
 Share (fun k => (bif decide (n1 < 0) then k [.bool true] w1 else ∃ p28 : Option Addr, Ru (Instr.loadAt 28 (.pointer (some q5))) w1 (.pointer p28) w1 ∧ ∃ q29 : Addr, (.pointer p28 : Value) = .pointer (some q29) ∧ ∃ n31 : Int, Ru (Instr.loadAt 3 (.pointer (some (Addr.add q29 1)))) w1 (.int .i64 n31) w1 ∧ k [.bool (decide (n1 ≥ n31))] w1)) fun x w2 =>
 ∃ b23 : Bool, nth x 0 = .bool b23 ∧ (bif b23 then
 K (.tuple #[.int .i64 0, .int .i64 3]) w2
 else
 Share (fun k_2 => (bif (l3 : Int) == 0 then k_2 [.bool true] w2 else (bif decide (n2 < 0) then k_2 [.bool true] w2 else (bif decide (n2 > 256) then k_2 [.bool true] w2 else k_2 [.bool (decide ((l3 : Int) > (IntKind.i64.wrap (256 - n2))))] w2)))) fun x_2 w3 =>
 ∃ b34 : Bool, nth x_2 0 = .bool b34 ∧ (bif b34 then
 K (.tuple #[.int .i64 0, .int .i64 4]) w3
 else
 Cal Try.prog F_slices_ContainsFunc_int64 #[.slice a4 l4 c4, .func (.func F_patch_Store_Patch_1) #[] #[.pointer (some q5)]] w3 fun r56 w4 => ∃ b56 : Bool, r56 = .bool b56 ∧ (bif b56 then
 K (.tuple #[.int .i64 0, .int .i64 1]) w4
 else
 ∃ p58 : Option Addr, Ru (Instr.loadAt 28 (.pointer (some q5))) w4 (.pointer p58) w4 ∧ ∃ q59 : Addr, (.pointer p58 : Value) = .pointer (some q59) ∧ ∃ p61 : Option Addr, Ru (Instr.loadAt 54 (.pointer (some (Addr.add q59 0)))) w4 (.pointer p61) w4 ∧ Cal Try.prog F_cache_Cache_Read #[.pointer p61, .int .i64 n1] w4 fun r63 w5 => ∃ (a63a : Option Addr) (l63a c63a : Nat), ∃ n63b : Int, r63 = .tuple #[.slice a63a l63a c63a, .int .i64 n63b] ∧ (bif n63b != 0 then
 K (.tuple #[.int .i64 0, .int .i64 n63b]) w5
 else
 ∃ p69 : Option Addr, Ru (Instr.loadAt 28 (.pointer (some q5))) w5 (.pointer p69) w5 ∧ ∃ q70 : Addr, (.pointer p69 : Value) = .pointer (some q70) ∧ ∃ m72 : Option Nat, Ru (Instr.loadAt 59 (.pointer (some (Addr.add q70 4)))) w5 (.map m72) w5 ∧ ∃ p74 : Option Addr, Ru (Instr.lookup 59 (.map m72) (.int .i64 n1) false) w5 (.pointer p74) w5 ∧ Share (fun k_3 => (bif Option.isNone p74 then
 ∃ g78 : Array Value, Al (Instr.build 68 #[(0, .slice a63a l63a c63a)]) (.agg g78) ∧ ∃ q79 : Addr, ∃ w6 : World, Ru (Instr.box 68 (.agg g78)) w5 (.pointer (some q79)) w6 ∧ ∃ p80 : Option Addr, Ru (Instr.loadAt 28 (.pointer (some q5))) w6 (.pointer p80) w6 ∧ ∃ q81 : Addr, (.pointer p80 : Value) = .pointer (some q81) ∧ ∃ m83 : Option Nat, Ru (Instr.loadAt 59 (.pointer (some (Addr.add q81 4)))) w6 (.map m83) w6 ∧ ∃ w7 : World, RuU (Instr.mapUpdate 59 (.map m83) (.int .i64 n1) (.pointer (some q79))) w6 w7 ∧ ∃ p86 : Option Addr, Ru (Instr.loadAt 28 (.pointer (some q5))) w7 (.pointer p86) w7 ∧ ∃ q87 : Addr, (.pointer p86 : Value) = .pointer (some q87) ∧ ∃ p89 : Option Addr, Ru (Instr.loadAt 54 (.pointer (some (Addr.add q87 0)))) w7 (.pointer p89) w7 ∧ Cal Try.prog F_cache_Cache_Pin #[.pointer p89, .int .i64 n1] w7 fun r91 w8 => ∃ n91 : Int, r91 = .int .i64 n91 ∧ k_3 [.pointer (some q79)] w8
 else
 k_3 [.pointer p74] w5)) fun x_3 w9 =>
 Cal Try.prog F_num_Lay #[.slice a63a l63a c63a, .int .i64 n2, .slice a3 l3 c3] w9 fun r96 w10 => ∃ (a96a : Option Addr) (l96a c96a : Nat), ∃ n96b : Int, r96 = .tuple #[.slice a96a l96a c96a, .int .i64 n96b] ∧ ∃ p99 : Option Addr, Ru (Instr.loadAt 28 (.pointer (some q5))) w10 (.pointer p99) w10 ∧ ∃ q100 : Addr, (.pointer p99 : Value) = .pointer (some q100) ∧ ∃ p102 : Option Addr, Ru (Instr.loadAt 54 (.pointer (some (Addr.add q100 0)))) w10 (.pointer p102) w10 ∧ Cal Try.prog F_cache_Cache_Lay #[.pointer p102, .int .i64 n1, .slice a96a l96a c96a] w10 fun r105 w11 => ∃ n105 : Int, r105 = .int .i64 n105 ∧ ∃ p106 : Option Addr, Ru (Instr.loadAt 28 (.pointer (some q5))) w11 (.pointer p106) w11 ∧ ∃ q107 : Addr, (.pointer p106 : Value) = .pointer (some q107) ∧ ∃ n109 : Int, Ru (Instr.loadAt 2 (.pointer (some (Addr.add q107 2)))) w11 (.int .i64 n109) w11 ∧ ∃ q111 : Addr, (.pointer p106 : Value) = .pointer (some q111) ∧ ∃ w12 : World, RuU (Instr.storeAt 2 (.pointer (some (Addr.add q111 2))) (.int .i64 (IntKind.i64.wrap (n109 + 1)))) w11 w12 ∧ ∃ p113 : Option Addr, Ru (Instr.loadAt 28 (.pointer (some q5))) (drew w12) (.pointer p113) (drew w12) ∧ ∃ q114 : Addr, (.pointer p113 : Value) = .pointer (some q114) ∧ ∃ n116 : Int, Ru (Instr.loadAt 2 (.pointer (some (Addr.add q114 2)))) (drew w12) (.int .i64 n116) (drew w12) ∧ Cal Try.prog F_slices_Clone_byte #[.slice a3 l3 c3] (drew w12) fun r120 w13 => ∃ (a120 : Option Addr) (l120 c120 : Nat), r120 = .slice a120 l120 c120 ∧ Ru (Instr.loadAt 28 (.pointer (some q5))) w13 (.pointer p113) w13 ∧ Ru (Instr.loadAt 2 (.pointer (some (Addr.add q114 2)))) w13 (.int .i64 n116) w13 ∧ ∃ g121 : Array Value, Al (Instr.build 71 #[(0, .int .i64 n116), (1, .int .i64 n1), (2, .int .i64 n2), (3, .slice a120 l120 c120)]) (.agg g121) ∧ ∃ q122 : Addr, ∃ w14 : World, Ru (Instr.box 71 (.agg g121)) w13 (.pointer (some q122)) w14 ∧ LoopC (fun k_4 x_4 w15 =>
 ∃ n125 : Int, nth x_4 0 = .int .i64 n125 ∧ (bif decide (n125 < (l4 : Int)) then
 ∃ q127 : Addr, Al (Instr.indexAt 33 (.slice a4 l4 c4) (.int .i64 n125)) (.pointer (some q127)) ∧ ∃ n128 : Int, Ru (Instr.loadAt 2 (.pointer (some q127))) w15 (.int .i64 n128) w15 ∧ ∃ p129 : Option Addr, Ru (Instr.loadAt 28 (.pointer (some q5))) w15 (.pointer p129) w15 ∧ ∃ q130 : Addr, (.pointer p129 : Value) = .pointer (some q130) ∧ ∃ m132 : Option Nat, Ru (Instr.loadAt 58 (.pointer (some (Addr.add q130 3)))) w15 (.map m132) w15 ∧ ∃ p134 : Option Addr, Ru (Instr.lookup 58 (.map m132) (.int .i64 n128) false) w15 (.pointer p134) w15 ∧ Share (fun k_5 => (bif !(Option.isNone p134) then
 ∃ q138 : Addr, (.pointer (some q122) : Value) = .pointer (some q138) ∧ ∃ (a140 : Option Addr) (l140 c140 : Nat), Ru (Instr.loadAt 33 (.pointer (some (Addr.add q138 4)))) w15 (.slice a140 l140 c140) w15 ∧ ∃ (a142 : Option Addr) (l142 c142 : Nat), ∃ w16 : World, Ru (Instr.buildSlice 33 1 #[(0, .int .i64 n128)]) w15 (.slice a142 l142 c142) w16 ∧ ∃ (a143 : Option Addr) (l143 c143 : Nat), ∃ w17 : World, Ru (Builtin.append_ #[33, 33] 33 #[.slice a140 l140 c140, .slice a142 l142 c142]) w16 (.slice a143 l143 c143) w17 ∧ ∃ q144 : Addr, (.pointer (some q122) : Value) = .pointer (some q144) ∧ ∃ w18 : World, RuU (Instr.storeAt 33 (.pointer (some (Addr.add q144 4))) (.slice a143 l143 c143)) w17 w18 ∧ k_5 [] w18
 else
 k_5 [] w15)) fun x_5 w19 =>
 k_4 [.int .i64 (IntKind.i64.wrap (n125 + 1))] w19
 else
 ∃ p147 : Option Addr, Ru (Instr.loadAt 28 (.pointer (some q5))) (drew w15) (.pointer p147) (drew w15) ∧ ∃ q148 : Addr, (.pointer p147 : Value) = .pointer (some q148) ∧ ∃ m150 : Option Nat, Ru (Instr.loadAt 58 (.pointer (some (Addr.add q148 3)))) (drew w15) (.map m150) (drew w15) ∧ ∃ q152 : Addr, (.pointer (some q122) : Value) = .pointer (some q152) ∧ ∃ n154 : Int, Ru (Instr.loadAt 2 (.pointer (some (Addr.add q152 0)))) (drew w15) (.int .i64 n154) (drew w15) ∧ ∃ w20 : World, RuU (Instr.mapUpdate 58 (.map m150) (.int .i64 n154) (.pointer (some q122))) (drew w15) w20 ∧ ∃ p14 : Option Addr, nth x_3 0 = .pointer p14 ∧ ∃ q158 : Addr, (.pointer p14 : Value) = .pointer (some q158) ∧ ∃ (a160 : Option Addr) (l160 c160 : Nat), Ru (Instr.loadAt 66 (.pointer (some (Addr.add q158 1)))) w20 (.slice a160 l160 c160) w20 ∧ ∃ (a162 : Option Addr) (l162 c162 : Nat), ∃ w21 : World, Ru (Instr.buildSlice 66 1 #[(0, .pointer (some q122))]) w20 (.slice a162 l162 c162) w21 ∧ ∃ (a163 : Option Addr) (l163 c163 : Nat), ∃ w22 : World, Ru (Builtin.append_ #[66, 66] 66 #[.slice a160 l160 c160, .slice a162 l162 c162]) w21 (.slice a163 l163 c163) w22 ∧ ∃ q164 : Addr, (.pointer p14 : Value) = .pointer (some q164) ∧ ∃ w23 : World, RuU (Instr.storeAt 66 (.pointer (some (Addr.add q164 1))) (.slice a163 l163 c163)) w22 w23 ∧ ∃ q167 : Addr, (.pointer (some q122) : Value) = .pointer (some q167) ∧ ∃ n169 : Int, Ru (Instr.loadAt 2 (.pointer (some (Addr.add q167 0)))) w23 (.int .i64 n169) w23 ∧ K (.tuple #[.int .i64 n169, .int .i64 0]) w23)) [.int .i64 0] w14)))))
set_option maxRecDepth 100000 in
theorem C_patch_Store_Patch (p0 : Option Addr) (n1 : Int) (n2 : Int) (a3 : Option Addr) (l3 c3 : Nat) (a4 : Option Addr) (l4 c4 : Nat) (w0 : World) (K : Value → World → Prop) (h : D_patch_Store_Patch p0 n1 n2 a3 l3 c3 a4 l4 c4 w0 K) : Cal Try.prog F_patch_Store_Patch #[.pointer p0, .int .i64 n1, .int .i64 n2, .slice a3 l3 c3, .slice a4 l4 c4] w0 K :=
 denF_sound (A := { S := [14, 23, 34, 125], ty := [(14, 62), (23, 4), (34, 4), (125, 3)], raw := [] }) mixed Try.func9 (by kernel_rfl) (by kernel_rfl) ((show denF Try.prog _ Try.f9 _ w0 K = D_patch_Store_Patch p0 n1 n2 a3 l3 c3 a4 l4 c4 w0 K by kernel_rfl).mpr h)

/- (levee.patch.Store).Safe: slots {4: ''};  -/
set_option maxRecDepth 100000 in
def D_patch_Store_Safe (p0 : Option Addr) (n1 : Int) (w0 : World) (K : Value → World → Prop) : Prop :=
 Share (fun k => (bif !(Option.isNone p0) then Cal Try.prog F_patch_Store_given #[.pointer p0, .int .i64 n1] w0 fun r10 w1 => ∃ b10 : Bool, r10 = .bool b10 ∧ (bif b10 then ∃ q14 : Addr, (.pointer p0 : Value) = .pointer (some q14) ∧ ∃ m16 : Option Nat, Ru (Instr.loadAt 58 (.pointer (some (Addr.add q14 3)))) w1 (.map m16) w1 ∧ ∃ p18 : Option Addr, Ru (Instr.lookup 58 (.map m16) (.int .i64 n1) false) w1 (.pointer p18) w1 ∧ k [.bool (Option.isNone p18)] w1 else k [.bool false] w1) else k [.bool false] w0)) fun x w2 =>
 ∃ b4 : Bool, nth x 0 = .bool b4 ∧ K (.bool b4) w2
set_option maxRecDepth 100000 in
theorem C_patch_Store_Safe (p0 : Option Addr) (n1 : Int) (w0 : World) (K : Value → World → Prop) (h : D_patch_Store_Safe p0 n1 w0 K) : Cal Try.prog F_patch_Store_Safe #[.pointer p0, .int .i64 n1] w0 K :=
 denF_sound (A := { S := [4], ty := [(4, 4)], raw := [] }) mixed Try.func10 (by kernel_rfl) (by kernel_rfl) ((show denF Try.prog _ Try.f10 _ w0 K = D_patch_Store_Safe p0 n1 w0 K by kernel_rfl).mpr h)

/- (levee.disk.Disk).Crash: slots {6: 'k', 12: ''}; loop over [6, 12] -/
set_option maxRecDepth 100000 in
def D_disk_Disk_Crash (p0 : Option Addr) (a1 : Option Addr) (l1 c1 : Nat) (w0 : World) (K : Value → World → Prop) : Prop :=
 (bif Option.isNone p0 then
 K (.tuple #[]) w0
 else
 Cal Try.prog F_disk_Disk_Open #[.pointer p0] w0 fun r10 w1 => ∃ (a10 : Option Addr) (l10 c10 : Nat), r10 = .slice a10 l10 c10 ∧ LoopC (fun k x w2 =>
 ∃ n12 : Int, nth x 1 = .int .i64 n12 ∧ (bif decide (n12 < (l10 : Int)) then
 ∃ q15 : Addr, Al (Instr.indexAt 23 (.slice a10 l10 c10) (.int .i64 n12)) (.pointer (some q15)) ∧ ∃ n16 : Int, Ru (Instr.loadAt 3 (.pointer (some q15))) w2 (.int .i64 n16) w2 ∧ Share (fun k_2 => (bif decide (n12 < (l1 : Int)) then
 ∃ q23 : Addr, Al (Instr.indexAt 23 (.slice a1 l1 c1) (.int .i64 n12)) (.pointer (some q23)) ∧ ∃ n24 : Int, Ru (Instr.loadAt 3 (.pointer (some q23))) (drew w2) (.int .i64 n24) (drew w2) ∧ ∃ q27 : Addr, (.pointer p0 : Value) = .pointer (some q27) ∧ ∃ m29 : Option Nat, Ru (Instr.loadAt 51 (.pointer (some (Addr.add q27 1)))) (drew w2) (.map m29) (drew w2) ∧ ∃ (a31 : Option Addr) (l31 c31 : Nat), Ru (Instr.lookup 51 (.map m29) (.int .i64 n16) false) (drew w2) (.slice a31 l31 c31) (drew w2) ∧ k_2 [.int .i64 (if (l31 : Int) < (if 0 > n24 then 0 else n24) then (l31 : Int) else (if 0 > n24 then 0 else n24))] (drew w2)
 else
 k_2 [.int .i64 0] w2)) fun x_2 w3 =>
 ∃ n6 : Int, nth x_2 0 = .int .i64 n6 ∧ Share (fun k_3 => (bif decide (n6 > 0) then
 ∃ q37 : Addr, (.pointer p0 : Value) = .pointer (some q37) ∧ ∃ (a39 : Option Addr) (l39 c39 : Nat), Ru (Instr.loadAt 50 (.pointer (some (Addr.add q37 0)))) (drew w3) (.slice a39 l39 c39) (drew w3) ∧ ∃ q42 : Addr, (.pointer p0 : Value) = .pointer (some q42) ∧ ∃ m44 : Option Nat, Ru (Instr.loadAt 51 (.pointer (some (Addr.add q42 1)))) (drew w3) (.map m44) (drew w3) ∧ ∃ (a46 : Option Addr) (l46 c46 : Nat), Ru (Instr.lookup 51 (.map m44) (.int .i64 n16) false) (drew w3) (.slice a46 l46 c46) (drew w3) ∧ ∃ q49 : Addr, Al (Instr.indexAt 50 (.slice a46 l46 c46) (.int .i64 (IntKind.i64.wrap (n6 - 1)))) (.pointer (some q49)) ∧ ∃ g50 : Array Value, Ru (Instr.loadAt 80 (.pointer (some q49))) (drew w3) (.agg g50) (drew w3) ∧ ∃ q51 : Addr, Al (Instr.indexAt 50 (.slice a39 l39 c39) (.int .i64 n16)) (.pointer (some q51)) ∧ ∃ w4 : World, RuU (Instr.storeAt 80 (.pointer (some q51)) (.agg g50)) (drew w3) w4 ∧ k_3 [] w4
 else
 k_3 [] w3)) fun x_3 w5 =>
 k [.int .i64 n6, .int .i64 (IntKind.i64.wrap (n12 + 1))] w5
 else
 ∃ q54 : Addr, (.pointer p0 : Value) = .pointer (some q54) ∧ ∃ m56 : Option Nat, Ru (Instr.loadAt 51 (.pointer (some (Addr.add q54 1)))) w2 (.map m56) w2 ∧ ∃ w6 : World, Ru (Builtin.clear_ #[51] 0 #[.map m56]) w2 (.tuple #[]) w6 ∧ ∃ q58 : Addr, (.pointer p0 : Value) = .pointer (some q58) ∧ ∃ w7 : World, RuU (Instr.storeAt 3 (.pointer (some (Addr.add q58 2))) (.int .i64 ((-1)))) w6 w7 ∧ K (.tuple #[]) w7)) [undef, .int .i64 0] w1)
set_option maxRecDepth 100000 in
theorem C_disk_Disk_Crash (p0 : Option Addr) (a1 : Option Addr) (l1 c1 : Nat) (w0 : World) (K : Value → World → Prop) (h : D_disk_Disk_Crash p0 a1 l1 c1 w0 K) : Cal Try.prog F_disk_Disk_Crash #[.pointer p0, .slice a1 l1 c1] w0 K :=
 denF_sound (A := { S := [6, 12], ty := [(6, 3), (12, 3)], raw := [] }) mixed Try.func11 (by kernel_rfl) (by kernel_rfl) ((show denF Try.prog _ Try.f11 _ w0 K = D_disk_Disk_Crash p0 a1 l1 c1 w0 K by kernel_rfl).mpr h)

/- (levee.disk.Disk).Read: slots {};  -/
set_option maxRecDepth 100000 in
def D_disk_Disk_Read (p0 : Option Addr) (n1 : Int) (w0 : World) (K : Value → World → Prop) : Prop :=
 Cal Try.prog F_disk_Disk_may #[.pointer p0, .int .i64 n1] w0 fun r10 w1 => ∃ n10 : Int, r10 = .int .i64 n10 ∧ (bif n10 != 0 then
 K (.tuple #[.slice none 0 0, .int .i64 n10]) w1
 else
 Cal Try.prog F_disk_Disk_last #[.pointer p0, .int .i64 n1] w1 fun r16 w2 => ∃ g16 : Array Value, r16 = .agg g16 ∧ ∃ q7 : Addr, ∃ w3 : World, Ru (Instr.alloc 80 true (.tuple #[])) w2 (.pointer (some q7)) w3 ∧ ∃ w4 : World, RuU (Instr.storeAt 80 (.pointer (some q7)) (.agg g16)) w3 w4 ∧ ∃ (a17 : Option Addr) (l17 c17 : Nat), Al (Instr.sliceAt 80 (.pointer (some q7)) none none none) (.slice a17 l17 c17) ∧ K (.tuple #[.slice a17 l17 c17, .int .i64 0]) w4)
set_option maxRecDepth 100000 in
theorem C_disk_Disk_Read (p0 : Option Addr) (n1 : Int) (w0 : World) (K : Value → World → Prop) (h : D_disk_Disk_Read p0 n1 w0 K) : Cal Try.prog F_disk_Disk_Read #[.pointer p0, .int .i64 n1] w0 K :=
 denF_sound (A := { S := [], ty := [], raw := [] }) mixed Try.func12 (by kernel_rfl) (by kernel_rfl) ((show denF Try.prog _ Try.f12 _ w0 K = D_disk_Disk_Read p0 n1 w0 K by kernel_rfl).mpr h)

/- levee.leveelaw11.known: slots {0: '', 18: 'one', 33: '', 86: ''};  -/
set_option maxRecDepth 100000 in
def D_leveelaw11_known (w0 : World) (K : Value → World → Prop) : Prop :=
 Cal Try.prog F_disk_New #[.int .i64 8] w0 fun r20 w1 => ∃ p20a : Option Addr, ∃ n20b : Int, r20 = .tuple #[.pointer p20a, .int .i64 n20b] ∧ Cal Try.prog F_patch_Open #[.pointer p20a, .int .i64 8] w1 fun r25 w2 => ∃ p25a : Option Addr, ∃ n25b : Int, r25 = .tuple #[.pointer p25a, .int .i64 n25b] ∧ Share (fun k => (bif n25b != 0 then k [.bool true] w2 else k [.bool (Option.isNone p25a)] w2)) fun x w3 =>
 ∃ b33 : Bool, nth x 0 = .bool b33 ∧ (bif b33 then
 K (.bool false) w3
 else
 ∃ (a36 : Option Addr) (l36 c36 : Nat), ∃ w4 : World, Ru (Instr.buildSlice 32 1 #[(0, .int .u8 97)]) w3 (.slice a36 l36 c36) w4 ∧ ∃ (a37 : Option Addr) (l37 c37 : Nat), ∃ w5 : World, Ru (convert 32 32 (.slice a36 l36 c36)) w4 (.slice a37 l37 c37) w5 ∧ Cal Try.prog F_patch_Store_Patch #[.pointer p25a, .int .i64 5, .int .i64 0, .slice a37 l37 c37, .slice none 0 0] w5 fun r38 w6 => ∃ n38a : Int, ∃ n38b : Int, r38 = .tuple #[.int .i64 n38a, .int .i64 n38b] ∧ ∃ (a43 : Option Addr) (l43 c43 : Nat), ∃ w7 : World, Ru (Instr.buildSlice 32 1 #[(0, .int .u8 98)]) w6 (.slice a43 l43 c43) w7 ∧ ∃ (a44 : Option Addr) (l44 c44 : Nat), ∃ w8 : World, Ru (convert 32 32 (.slice a43 l43 c43)) w7 (.slice a44 l44 c44) w8 ∧ ∃ (a46 : Option Addr) (l46 c46 : Nat), ∃ w9 : World, Ru (Instr.buildSlice 33 1 #[(0, .int .i64 n38a)]) w8 (.slice a46 l46 c46) w9 ∧ Cal Try.prog F_patch_Store_Patch #[.pointer p25a, .int .i64 6, .int .i64 0, .slice a44 l44 c44, .slice a46 l46 c46] w9 fun r47 w10 => ∃ n47a : Int, ∃ n47b : Int, r47 = .tuple #[.int .i64 n47a, .int .i64 n47b] ∧ ∃ (a52 : Option Addr) (l52 c52 : Nat), ∃ w11 : World, Ru (Instr.buildSlice 32 1 #[(0, .int .u8 99)]) w10 (.slice a52 l52 c52) w11 ∧ ∃ (a53 : Option Addr) (l53 c53 : Nat), ∃ w12 : World, Ru (convert 32 32 (.slice a52 l52 c52)) w11 (.slice a53 l53 c53) w12 ∧ ∃ (a55 : Option Addr) (l55 c55 : Nat), ∃ w13 : World, Ru (Instr.buildSlice 33 1 #[(0, .int .i64 n47a)]) w12 (.slice a55 l55 c55) w13 ∧ Cal Try.prog F_patch_Store_Patch #[.pointer p25a, .int .i64 5, .int .i64 1, .slice a53 l53 c53, .slice a55 l55 c55] w13 fun r56 w14 => ∃ n56a : Int, ∃ n56b : Int, r56 = .tuple #[.int .i64 n56a, .int .i64 n56b] ∧ Cal Try.prog F_patch_Store_Image #[.pointer p25a, .int .i64 6] w14 fun r61 w15 => ∃ (a61a : Option Addr) (l61a c61a : Nat), ∃ n61b : Int, r61 = .tuple #[.slice a61a l61a c61a, .int .i64 n61b] ∧ Cal Try.prog F_patch_Store_Image #[.pointer p25a, .int .i64 5] w15 fun r66 w16 => ∃ (a66a : Option Addr) (l66a c66a : Nat), ∃ n66b : Int, r66 = .tuple #[.slice a66a l66a c66a, .int .i64 n66b] ∧ Cal Try.prog F_patch_Store_Read #[.pointer p25a, .int .i64 5] w16 fun r71 w17 => ∃ (a71a : Option Addr) (l71a c71a : Nat), ∃ n71b : Int, r71 = .tuple #[.slice a71a l71a c71a, .int .i64 n71b] ∧ Share (fun k_2 => (bif (l61a : Int) != 256 then k_2 [.bool true] w17 else (bif (l66a : Int) != 256 then k_2 [.bool true] w17 else k_2 [.bool ((l71a : Int) != 256)] w17))) fun x_2 w18 =>
 ∃ b86 : Bool, nth x_2 0 = .bool b86 ∧ (bif b86 then
 K (.bool false) w18
 else
 Cal Try.prog F_patch_Store_Write #[.pointer p25a, .int .i64 5] w18 fun r88 w19 => ∃ n88 : Int, r88 = .int .i64 n88 ∧ Cal Try.prog F_patch_Store_Flush #[.pointer p25a] w19 fun r90 w20 => ∃ n90 : Int, r90 = .int .i64 n90 ∧ Share (fun k_3 => Cal Try.prog F_patch_Store_Safe #[.pointer p25a, .int .i64 n38a] w20 fun r93 w21 => ∃ b93 : Bool, r93 = .bool b93 ∧ (bif b93 then Cal Try.prog F_patch_Store_Safe #[.pointer p25a, .int .i64 n47a] w21 fun r97 w22 => ∃ b97 : Bool, r97 = .bool b97 ∧ (bif !b97 then Cal Try.prog F_patch_Store_Safe #[.pointer p25a, .int .i64 n56a] w22 fun r103 w23 => ∃ b103 : Bool, r103 = .bool b103 ∧ k_3 [.bool (!b103)] w23 else k_3 [.bool false] w22) else k_3 [.bool false] w21)) fun x_3 w24 =>
 Cal Try.prog F_patch_Store_Write #[.pointer p25a, .int .i64 6] w24 fun r107 w25 => ∃ n107 : Int, r107 = .int .i64 n107 ∧ Cal Try.prog F_patch_Store_Flush #[.pointer p25a] w25 fun r109 w26 => ∃ n109 : Int, r109 = .int .i64 n109 ∧ Share (fun k_4 => (bif n38b == 0 then (bif n47b == 0 then (bif n56b == 0 then (bif n56a == 3 then ∃ q126 : Addr, Al (Instr.indexAt 32 (.slice a61a l61a c61a) (.int .i64 0)) (.pointer (some q126)) ∧ ∃ n127 : Int, Ru (Instr.loadAt 5 (.pointer (some q126))) w26 (.int .u8 n127) w26 ∧ (bif n127 == 0 then ∃ q132 : Addr, Al (Instr.indexAt 32 (.slice a66a l66a c66a) (.int .i64 0)) (.pointer (some q132)) ∧ ∃ n133 : Int, Ru (Instr.loadAt 5 (.pointer (some q132))) w26 (.int .u8 n133) w26 ∧ (bif n133 == 97 then ∃ q138 : Addr, Al (Instr.indexAt 32 (.slice a66a l66a c66a) (.int .i64 1)) (.pointer (some q138)) ∧ ∃ n139 : Int, Ru (Instr.loadAt 5 (.pointer (some q138))) w26 (.int .u8 n139) w26 ∧ (bif n139 == 0 then ∃ q144 : Addr, Al (Instr.indexAt 32 (.slice a71a l71a c71a) (.int .i64 1)) (.pointer (some q144)) ∧ ∃ n145 : Int, Ru (Instr.loadAt 5 (.pointer (some q144))) w26 (.int .u8 n145) w26 ∧ (bif n145 == 99 then (bif n88 == 0 then ∃ b18 : Bool, nth x_3 0 = .bool b18 ∧ (bif b18 then Cal Try.prog F_patch_Store_Safe #[.pointer p25a, .int .i64 n47a] w26 fun r158 w27 => ∃ b158 : Bool, r158 = .bool b158 ∧ (bif b158 then Cal Try.prog F_patch_Store_Ready #[.pointer p25a, .int .i64 5] w27 fun r162 w28 => ∃ n162 : Int, r162 = .int .i64 n162 ∧ (bif n162 == 1 then Cal Try.prog F_patch_Store_Open #[.pointer p25a] w28 fun r167 w29 => ∃ n167 : Int, r167 = .int .i64 n167 ∧ k_4 [.bool (n167 == 1)] w29 else k_4 [.bool false] w28) else k_4 [.bool false] w27) else k_4 [.bool false] w26) else k_4 [.bool false] w26) else k_4 [.bool false] w26) else k_4 [.bool false] w26) else k_4 [.bool false] w26) else k_4 [.bool false] w26) else k_4 [.bool false] w26) else k_4 [.bool false] w26) else k_4 [.bool false] w26) else k_4 [.bool false] w26)) fun x_4 w30 =>
 ∃ b0 : Bool, nth x_4 0 = .bool b0 ∧ K (.bool b0) w30))
set_option maxRecDepth 100000 in
theorem C_leveelaw11_known (w0 : World) (K : Value → World → Prop) (h : D_leveelaw11_known  w0 K) : Cal Try.prog F_leveelaw11_known #[] w0 K :=
 denF_sound (A := { S := [0, 18, 33, 86], ty := [(0, 4), (18, 4), (33, 4), (86, 4)], raw := [] }) mixed Try.func13 (by kernel_rfl) (by kernel_rfl) ((show denF Try.prog _ Try.f13 _ w0 K = D_leveelaw11_known  w0 K by kernel_rfl).mpr h)

/- levee.cache.New: slots {9: ''};  -/
set_option maxRecDepth 100000 in
def D_cache_New (p0 : Option Addr) (n1 : Int) (w0 : World) (K : Value → World → Prop) : Prop :=
 (bif Option.isNone p0 then
 K (.tuple #[.pointer none, .int .i64 2]) w0
 else
 Share (fun k => (bif decide (n1 < 1) then k [.bool true] w0 else k [.bool (decide (n1 > 4096))] w0)) fun x w1 =>
 ∃ b9 : Bool, nth x 0 = .bool b9 ∧ (bif b9 then
 K (.tuple #[.pointer none, .int .i64 1]) w1
 else
 ∃ m18 : Option Nat, ∃ w2 : World, Ru (Instr.makeMap 83 none) w1 (.map m18) w2 ∧ ∃ g19 : Array Value, Al (Instr.build 85 #[(0, .pointer p0), (1, .int .i64 n1), (2, .map m18)]) (.agg g19) ∧ ∃ q20 : Addr, ∃ w3 : World, Ru (Instr.box 85 (.agg g19)) w2 (.pointer (some q20)) w3 ∧ K (.tuple #[.pointer (some q20), .int .i64 0]) w3))
set_option maxRecDepth 100000 in
theorem C_cache_New (p0 : Option Addr) (n1 : Int) (w0 : World) (K : Value → World → Prop) (h : D_cache_New p0 n1 w0 K) : Cal Try.prog F_cache_New #[.pointer p0, .int .i64 n1] w0 K :=
 denF_sound (A := { S := [9], ty := [(9, 4)], raw := [] }) mixed Try.func14 (by kernel_rfl) (by kernel_rfl) ((show denF Try.prog _ Try.f14 _ w0 K = D_cache_New p0 n1 w0 K by kernel_rfl).mpr h)

/- (levee.disk.Disk).Len: slots {};  -/
set_option maxRecDepth 100000 in
def D_disk_Disk_Len (p0 : Option Addr) (w0 : World) (K : Value → World → Prop) : Prop :=
 (bif Option.isNone p0 then
 K (.int .i64 0) w0
 else
 ∃ q6 : Addr, (.pointer p0 : Value) = .pointer (some q6) ∧ ∃ (a8 : Option Addr) (l8 c8 : Nat), Ru (Instr.loadAt 50 (.pointer (some (Addr.add q6 0)))) w0 (.slice a8 l8 c8) w0 ∧ K (.int .i64 ((l8 : Int))) w0)
set_option maxRecDepth 100000 in
theorem C_disk_Disk_Len (p0 : Option Addr) (w0 : World) (K : Value → World → Prop) (h : D_disk_Disk_Len p0 w0 K) : Cal Try.prog F_disk_Disk_Len #[.pointer p0] w0 K :=
 denF_sound (A := { S := [], ty := [], raw := [] }) mixed Try.func15 (by kernel_rfl) (by kernel_rfl) ((show denF Try.prog _ Try.f15 _ w0 K = D_disk_Disk_Len p0 w0 K by kernel_rfl).mpr h)

/- (levee.patch.Store).Image: slots {26: ''};  -/
set_option maxRecDepth 100000 in
def D_patch_Store_Image (p0 : Option Addr) (n1 : Int) (w0 : World) (K : Value → World → Prop) : Prop :=
 Cal Try.prog F_patch_Store_Read #[.pointer p0, .int .i64 n1] w0 fun r13 w1 => ∃ (a13a : Option Addr) (l13a c13a : Nat), ∃ n13b : Int, r13 = .tuple #[.slice a13a l13a c13a, .int .i64 n13b] ∧ Share (fun k => (bif n13b != 0 then k [.bool true] w1 else ∃ q20 : Addr, (.pointer p0 : Value) = .pointer (some q20) ∧ ∃ m22 : Option Nat, Ru (Instr.loadAt 59 (.pointer (some (Addr.add q20 4)))) w1 (.map m22) w1 ∧ ∃ p24 : Option Addr, Ru (Instr.lookup 59 (.map m22) (.int .i64 n1) false) w1 (.pointer p24) w1 ∧ k [.bool (Option.isNone p24)] w1)) fun x w2 =>
 ∃ b26 : Bool, nth x 0 = .bool b26 ∧ (bif b26 then
 K (.tuple #[.slice a13a l13a c13a, .int .i64 n13b]) w2
 else
 ∃ q30 : Addr, (.pointer p0 : Value) = .pointer (some q30) ∧ ∃ m32 : Option Nat, Ru (Instr.loadAt 59 (.pointer (some (Addr.add q30 4)))) w2 (.map m32) w2 ∧ ∃ p34 : Option Addr, Ru (Instr.lookup 59 (.map m32) (.int .i64 n1) false) w2 (.pointer p34) w2 ∧ Cal Try.prog F_patch_Store_may #[.pointer p0, .pointer p34] w2 fun r37 w3 => ∃ m37 : Option Nat, r37 = .map m37 ∧ ∃ q9 : Addr, ∃ w4 : World, Ru (Instr.alloc 64 true (.tuple #[])) w3 (.pointer (some q9)) w4 ∧ ∃ w5 : World, RuU (Instr.storeAt 64 (.pointer (some q9)) (.map m37)) w4 w5 ∧ Cal Try.prog F_patch_on_with #[.pointer p34, .func (.func F_patch_Store_Image_1) #[] #[.pointer (some q9)]] w5 fun r40 w6 => ∃ (a40 : Option Addr) (l40 c40 : Nat), r40 = .slice a40 l40 c40 ∧ K (.tuple #[.slice a40 l40 c40, .int .i64 0]) w6)
set_option maxRecDepth 100000 in
theorem C_patch_Store_Image (p0 : Option Addr) (n1 : Int) (w0 : World) (K : Value → World → Prop) (h : D_patch_Store_Image p0 n1 w0 K) : Cal Try.prog F_patch_Store_Image #[.pointer p0, .int .i64 n1] w0 K :=
 denF_sound (A := { S := [26], ty := [(26, 4)], raw := [] }) mixed Try.func16 (by kernel_rfl) (by kernel_rfl) ((show denF Try.prog _ Try.f16 _ w0 K = D_patch_Store_Image p0 n1 w0 K by kernel_rfl).mpr h)

/- (levee.cache.Cache).Write: slots {2: 'image'};  -/
set_option maxRecDepth 100000 in
def D_cache_Cache_Write (p0 : Option Addr) (n1 : Int) (a2 : Option Addr) (l2 c2 : Nat) (w0 : World) (K : Value → World → Prop) : Prop :=
 ∃ (a13 : Option Addr) (l13 c13 : Nat), ∃ w1 : World, Ru (Instr.buildSlice 23 2 #[(0, .int .i64 0), (1, .int .i64 256)]) w0 (.slice a13 l13 c13) w1 ∧ Cal Try.prog F_cache_Cache_may #[.pointer p0, .int .i64 n1, .slice a2 l2 c2, .slice a13 l13 c13] w1 fun r14 w2 => ∃ n14 : Int, r14 = .int .i64 n14 ∧ (bif n14 != 0 then
 K (.int .i64 n14) w2
 else
 Cal Try.prog F_cache_Cache_ask #[.pointer p0, .int .i64 n1] w2 fun r21 w3 => ∃ p21a : Option Addr, ∃ n21b : Int, r21 = .tuple #[.pointer p21a, .int .i64 n21b] ∧ (bif n21b != 0 then
 K (.int .i64 n21b) w3
 else
 Share (fun k => (bif (l2 : Int) == 0 then
 ∃ q31 : Addr, (.pointer p21a : Value) = .pointer (some q31) ∧ ∃ (a34 : Option Addr) (l34 c34 : Nat), Ru (Instr.loadAt 32 (.pointer (some (Addr.add (Addr.add q31 0) 0)))) w3 (.slice a34 l34 c34) w3 ∧ k [.slice a34 l34 c34] w3
 else
 k [.slice a2 l2 c2] w3)) fun x w4 =>
 ∃ q36 : Addr, (.pointer p0 : Value) = .pointer (some q36) ∧ ∃ p38 : Option Addr, Ru (Instr.loadAt 24 (.pointer (some (Addr.add q36 0)))) w4 (.pointer p38) w4 ∧ ∃ (a2_2 : Option Addr) (l2_2 c2_2 : Nat), nth x 0 = .slice a2_2 l2_2 c2_2 ∧ Cal Try.prog F_disk_Disk_Write #[.pointer p38, .int .i64 n1, .slice a2_2 l2_2 c2_2] w4 fun r41 w5 => ∃ n41 : Int, r41 = .int .i64 n41 ∧ K (.int .i64 n41) w5))
set_option maxRecDepth 100000 in
theorem C_cache_Cache_Write (p0 : Option Addr) (n1 : Int) (a2 : Option Addr) (l2 c2 : Nat) (w0 : World) (K : Value → World → Prop) (h : D_cache_Cache_Write p0 n1 a2 l2 c2 w0 K) : Cal Try.prog F_cache_Cache_Write #[.pointer p0, .int .i64 n1, .slice a2 l2 c2] w0 K :=
 denF_sound (A := { S := [2], ty := [(2, 32)], raw := [] }) mixed Try.func17 (by kernel_rfl) (by kernel_rfl) ((show denF Try.prog _ Try.f17 _ w0 K = D_cache_Cache_Write p0 n1 a2 l2 c2 w0 K by kernel_rfl).mpr h)

/- (levee.patch.Store).may: slots {8: 'bad', 15: ''}; loop over [8, 15] -/
set_option maxRecDepth 100000 in
def D_patch_Store_may (p0 : Option Addr) (p1 : Option Addr) (w0 : World) (K : Value → World → Prop) : Prop :=
 ∃ q2 : Addr, ∃ w1 : World, Ru (Instr.box 28 (.pointer p0)) w0 (.pointer (some q2)) w1 ∧ ∃ m9 : Option Nat, ∃ w2 : World, Ru (Instr.makeMap 64 none) w1 (.map m9) w2 ∧ ∃ q5 : Addr, ∃ w3 : World, Ru (Instr.alloc 64 true (.tuple #[])) w2 (.pointer (some q5)) w3 ∧ ∃ w4 : World, RuU (Instr.storeAt 64 (.pointer (some q5)) (.map m9)) w3 w4 ∧ ∃ q11 : Addr, (.pointer p1 : Value) = .pointer (some q11) ∧ ∃ (a13 : Option Addr) (l13 c13 : Nat), Ru (Instr.loadAt 66 (.pointer (some (Addr.add q11 1)))) w4 (.slice a13 l13 c13) w4 ∧ LoopC (fun k x w5 =>
 ∃ n15 : Int, nth x 1 = .int .i64 n15 ∧ (bif decide (n15 < (l13 : Int)) then
 ∃ q18 : Addr, Al (Instr.indexAt 66 (.slice a13 l13 c13) (.int .i64 n15)) (.pointer (some q18)) ∧ ∃ p19 : Option Addr, Ru (Instr.loadAt 69 (.pointer (some q18))) w5 (.pointer p19) w5 ∧ ∃ q7 : Addr, ∃ w6 : World, Ru (Instr.alloc 69 true (.tuple #[])) w5 (.pointer (some q7)) w6 ∧ ∃ w7 : World, RuU (Instr.storeAt 69 (.pointer (some q7)) (.pointer p19)) w6 w7 ∧ ∃ p20 : Option Addr, Ru (Instr.loadAt 69 (.pointer (some q7))) w7 (.pointer p20) w7 ∧ ∃ q21 : Addr, (.pointer p20 : Value) = .pointer (some q21) ∧ ∃ (a23 : Option Addr) (l23 c23 : Nat), Ru (Instr.loadAt 33 (.pointer (some (Addr.add q21 4)))) w7 (.slice a23 l23 c23) w7 ∧ Cal Try.prog F_slices_ContainsFunc_int64 #[.slice a23 l23 c23, .func (.func F_patch_Store_may_1) #[] #[.pointer (some q2), .pointer (some q5)]] w7 fun r25 w8 => ∃ b25 : Bool, r25 = .bool b25 ∧ Share (fun k_2 => (bif b25 then k_2 [.bool true] w8 else ∃ q29 : Addr, (.pointer p1 : Value) = .pointer (some q29) ∧ ∃ (a31 : Option Addr) (l31 c31 : Nat), Ru (Instr.loadAt 66 (.pointer (some (Addr.add q29 1)))) w8 (.slice a31 l31 c31) w8 ∧ ∃ (a33 : Option Addr) (l33 c33 : Nat), Al (Instr.sliceAt 66 (.slice a31 l31 c31) none (some (.int .i64 n15)) none) (.slice a33 l33 c33) ∧ Cal Try.prog F_slices_ContainsFunc_patch_change #[.slice a33 l33 c33, .func (.func F_patch_Store_may_2) #[] #[.pointer (some q7), .pointer (some q5)]] w8 fun r35 w9 => ∃ b35 : Bool, r35 = .bool b35 ∧ k_2 [.bool b35] w9)) fun x_2 w10 =>
 ∃ b8 : Bool, nth x_2 0 = .bool b8 ∧ Share (fun k_3 => (bif !b8 then
 ∃ m39 : Option Nat, Ru (Instr.loadAt 64 (.pointer (some q5))) (drew w10) (.map m39) (drew w10) ∧ ∃ p40 : Option Addr, Ru (Instr.loadAt 69 (.pointer (some q7))) (drew w10) (.pointer p40) (drew w10) ∧ ∃ q41 : Addr, (.pointer p40 : Value) = .pointer (some q41) ∧ ∃ n43 : Int, Ru (Instr.loadAt 2 (.pointer (some (Addr.add q41 0)))) (drew w10) (.int .i64 n43) (drew w10) ∧ ∃ w11 : World, RuU (Instr.mapUpdate 64 (.map m39) (.int .i64 n43) (.bool true)) (drew w10) w11 ∧ k_3 [] w11
 else
 k_3 [] w10)) fun x_3 w12 =>
 k [.bool b8, .int .i64 (IntKind.i64.wrap (n15 + 1))] w12
 else
 ∃ m45 : Option Nat, Ru (Instr.loadAt 64 (.pointer (some q5))) w5 (.map m45) w5 ∧ K (.map m45) w5)) [undef, .int .i64 0] w4
set_option maxRecDepth 100000 in
theorem C_patch_Store_may (p0 : Option Addr) (p1 : Option Addr) (w0 : World) (K : Value → World → Prop) (h : D_patch_Store_may p0 p1 w0 K) : Cal Try.prog F_patch_Store_may #[.pointer p0, .pointer p1] w0 K :=
 denF_sound (A := { S := [8, 15], ty := [(8, 4), (15, 3)], raw := [] }) mixed Try.func18 (by kernel_rfl) (by kernel_rfl) ((show denF Try.prog _ Try.f18 _ w0 K = D_patch_Store_may p0 p1 w0 K by kernel_rfl).mpr h)

/- (levee.cache.Cache).Flush: slots {};  -/
set_option maxRecDepth 100000 in
def D_cache_Cache_Flush (p0 : Option Addr) (w0 : World) (K : Value → World → Prop) : Prop :=
 (bif Option.isNone p0 then
 K (.int .i64 2) w0
 else
 ∃ q6 : Addr, (.pointer p0 : Value) = .pointer (some q6) ∧ ∃ p8 : Option Addr, Ru (Instr.loadAt 24 (.pointer (some (Addr.add q6 0)))) w0 (.pointer p8) w0 ∧ Cal Try.prog F_disk_Disk_Flush #[.pointer p8] w0 fun r9 w1 => ∃ n9 : Int, r9 = .int .i64 n9 ∧ K (.int .i64 n9) w1)
set_option maxRecDepth 100000 in
theorem C_cache_Cache_Flush (p0 : Option Addr) (w0 : World) (K : Value → World → Prop) (h : D_cache_Cache_Flush p0 w0 K) : Cal Try.prog F_cache_Cache_Flush #[.pointer p0] w0 K :=
 denF_sound (A := { S := [], ty := [], raw := [] }) mixed Try.func19 (by kernel_rfl) (by kernel_rfl) ((show denF Try.prog _ Try.f19 _ w0 K = D_cache_Cache_Flush p0 w0 K by kernel_rfl).mpr h)

/- (levee.patch.on).with: slots {18: ''}; loop over [18] -/
set_option maxRecDepth 100000 in
def D_patch_on_with (p0 : Option Addr) (v1 : Value) (w0 : World) (K : Value → World → Prop) : Prop :=
 ∃ q9 : Addr, (.pointer p0 : Value) = .pointer (some q9) ∧ ∃ (a11 : Option Addr) (l11 c11 : Nat), Ru (Instr.loadAt 32 (.pointer (some (Addr.add q9 0)))) w0 (.slice a11 l11 c11) w0 ∧ Cal Try.prog F_slices_Clone_byte #[.slice a11 l11 c11] w0 fun r12 w1 => ∃ (a12 : Option Addr) (l12 c12 : Nat), r12 = .slice a12 l12 c12 ∧ ∃ q14 : Addr, (.pointer p0 : Value) = .pointer (some q14) ∧ ∃ (a16 : Option Addr) (l16 c16 : Nat), Ru (Instr.loadAt 66 (.pointer (some (Addr.add q14 1)))) w1 (.slice a16 l16 c16) w1 ∧ LoopC (fun k x w2 =>
 ∃ n18 : Int, nth x 0 = .int .i64 n18 ∧ (bif decide (n18 < (l16 : Int)) then
 ∃ q20 : Addr, Al (Instr.indexAt 66 (.slice a16 l16 c16) (.int .i64 n18)) (.pointer (some q20)) ∧ ∃ p21 : Option Addr, Ru (Instr.loadAt 69 (.pointer (some q20))) w2 (.pointer p21) w2 ∧ Dyn Try.prog v1 #[.pointer p21] w2 fun r24 w3 => ∃ b24 : Bool, r24 = .bool b24 ∧ Share (fun k_2 => (bif b24 then
 ∃ q27 : Addr, (.pointer p21 : Value) = .pointer (some q27) ∧ ∃ n29 : Int, Ru (Instr.loadAt 3 (.pointer (some (Addr.add q27 2)))) (drew w3) (.int .i64 n29) (drew w3) ∧ ∃ (a30 : Option Addr) (l30 c30 : Nat), Al (Instr.sliceAt 32 (.slice a12 l12 c12) (some (.int .i64 n29)) none none) (.slice a30 l30 c30) ∧ ∃ q32 : Addr, (.pointer p21 : Value) = .pointer (some q32) ∧ ∃ (a34 : Option Addr) (l34 c34 : Nat), Ru (Instr.loadAt 32 (.pointer (some (Addr.add q32 3)))) (drew w3) (.slice a34 l34 c34) (drew w3) ∧ ∃ n35 : Int, ∃ w4 : World, Ru (Builtin.copy_ #[32, 32] 3 #[.slice a30 l30 c30, .slice a34 l34 c34]) (drew w3) (.int .i64 n35) w4 ∧ k_2 [] w4
 else
 k_2 [] w3)) fun x_2 w5 =>
 k [.int .i64 (IntKind.i64.wrap (n18 + 1))] w5
 else
 K (.slice a12 l12 c12) w2)) [.int .i64 0] w1
set_option maxRecDepth 100000 in
theorem C_patch_on_with (p0 : Option Addr) (v1 : Value) (w0 : World) (K : Value → World → Prop) (h : D_patch_on_with p0 v1 w0 K) : Cal Try.prog F_patch_on_with #[.pointer p0, v1] w0 K :=
 denF_sound (A := { S := [18], ty := [(18, 3)], raw := [] }) mixed Try.func20 (by kernel_rfl) (by kernel_rfl) ((show denF Try.prog _ Try.f20 _ w0 K = D_patch_on_with p0 v1 w0 K by kernel_rfl).mpr h)

/- (levee.patch.Store).Flush$1: slots {};  -/
set_option maxRecDepth 100000 in
def D_patch_Store_Flush_1 (p0 : Option Addr) (w0 : World) (K : Value → World → Prop) : Prop :=
 ∃ q4 : Addr, (.pointer p0 : Value) = .pointer (some q4) ∧ ∃ b6 : Bool, Ru (Instr.loadAt 4 (.pointer (some (Addr.add q4 5)))) w0 (.bool b6) w0 ∧ K (.bool b6) w0
set_option maxRecDepth 100000 in
theorem C_patch_Store_Flush_1 (p0 : Option Addr) (w0 : World) (K : Value → World → Prop) (h : D_patch_Store_Flush_1 p0 w0 K) : Cal Try.prog F_patch_Store_Flush_1 #[.pointer p0] w0 K :=
 denF_sound (A := { S := [], ty := [], raw := [] }) mixed Try.func21 (by kernel_rfl) (by kernel_rfl) ((show denF Try.prog _ Try.f21 _ w0 K = D_patch_Store_Flush_1 p0 w0 K by kernel_rfl).mpr h)

/- slices.DeleteFunc[[]levee.patch.change,levee.patch.change]: slots {5: 'i', 6: 'j'}; loop over [5, 6] -/
set_option maxRecDepth 100000 in
def D_slices_DeleteFunc_patch_change (a0 : Option Addr) (l0 c0 : Nat) (v1 : Value) (w0 : World) (K : Value → World → Prop) : Prop :=
 Cal Try.prog F_slices_IndexFunc_patch_change #[.slice a0 l0 c0, v1] w0 fun r10 w1 => ∃ n10 : Int, r10 = .int .i64 n10 ∧ (bif n10 == (-1) then
 K (.slice a0 l0 c0) w1
 else
 LoopC (fun k x w2 =>
 ∃ n6 : Int, nth x 1 = .int .i64 n6 ∧ (bif decide (n6 < (l0 : Int)) then
 ∃ q24 : Addr, Al (Instr.indexAt 66 (.slice a0 l0 c0) (.int .i64 n6)) (.pointer (some q24)) ∧ ∃ p25 : Option Addr, Ru (Instr.loadAt 69 (.pointer (some q24))) w2 (.pointer p25) w2 ∧ Dyn Try.prog v1 #[.pointer p25] w2 fun r28 w3 => ∃ b28 : Bool, r28 = .bool b28 ∧ Share (fun k_2 => (bif !b28 then
 ∃ n5 : Int, nth x 0 = .int .i64 n5 ∧ ∃ q33 : Addr, Al (Instr.indexAt 66 (.slice a0 l0 c0) (.int .i64 n5)) (.pointer (some q33)) ∧ ∃ w4 : World, RuU (Instr.storeAt 69 (.pointer (some q33)) (.pointer p25)) w3 w4 ∧ k_2 [.int .i64 (IntKind.i64.wrap (n5 + 1))] w4
 else
 k_2 [nth x 0] w3)) fun x_2 w5 =>
 k [nth x_2 0, .int .i64 (IntKind.i64.wrap (n6 + 1))] w5
 else
 ∃ n5_2 : Int, nth x 0 = .int .i64 n5_2 ∧ ∃ (a38 : Option Addr) (l38 c38 : Nat), Al (Instr.sliceAt 66 (.slice a0 l0 c0) (some (.int .i64 n5_2)) none none) (.slice a38 l38 c38) ∧ ∃ w6 : World, Ru (Builtin.clear_ #[66] 0 #[.slice a38 l38 c38]) w2 (.tuple #[]) w6 ∧ ∃ (a41 : Option Addr) (l41 c41 : Nat), Al (Instr.sliceAt 66 (.slice a0 l0 c0) none (some (.int .i64 n5_2)) none) (.slice a41 l41 c41) ∧ K (.slice a41 l41 c41) w6)) [.int .i64 n10, .int .i64 (IntKind.i64.wrap (n10 + 1))] w1)
set_option maxRecDepth 100000 in
theorem C_slices_DeleteFunc_patch_change (a0 : Option Addr) (l0 c0 : Nat) (v1 : Value) (w0 : World) (K : Value → World → Prop) (h : D_slices_DeleteFunc_patch_change a0 l0 c0 v1 w0 K) : Cal Try.prog F_slices_DeleteFunc_patch_change #[.slice a0 l0 c0, v1] w0 K :=
 denF_sound (A := { S := [5, 6], ty := [(5, 3), (6, 3)], raw := [] }) mixed Try.func22 (by kernel_rfl) (by kernel_rfl) ((show denF Try.prog _ Try.f22 _ w0 K = D_slices_DeleteFunc_patch_change a0 l0 c0 v1 w0 K by kernel_rfl).mpr h)

/- (levee.patch.Store).Flush$2: slots {};  -/
set_option maxRecDepth 100000 in
def D_patch_Store_Flush_2 (p0 : Option Addr) (w0 : World) (K : Value → World → Prop) : Prop :=
 ∃ q4 : Addr, (.pointer p0 : Value) = .pointer (some q4) ∧ ∃ b6 : Bool, Ru (Instr.loadAt 4 (.pointer (some (Addr.add q4 5)))) w0 (.bool b6) w0 ∧ K (.bool b6) w0
set_option maxRecDepth 100000 in
theorem C_patch_Store_Flush_2 (p0 : Option Addr) (w0 : World) (K : Value → World → Prop) (h : D_patch_Store_Flush_2 p0 w0 K) : Cal Try.prog F_patch_Store_Flush_2 #[.pointer p0] w0 K :=
 denF_sound (A := { S := [], ty := [], raw := [] }) mixed Try.func23 (by kernel_rfl) (by kernel_rfl) ((show denF Try.prog _ Try.f23 _ w0 K = D_patch_Store_Flush_2 p0 w0 K by kernel_rfl).mpr h)

/- (levee.cache.Cache).Unpin: slots {};  -/
set_option maxRecDepth 100000 in
def D_cache_Cache_Unpin (p0 : Option Addr) (n1 : Int) (w0 : World) (K : Value → World → Prop) : Prop :=
 Cal Try.prog F_cache_Cache_held #[.pointer p0, .int .i64 n1] w0 fun r10 w1 => ∃ p10a : Option Addr, ∃ n10b : Int, r10 = .tuple #[.pointer p10a, .int .i64 n10b] ∧ (bif n10b != 0 then
 K (.int .i64 n10b) w1
 else
 ∃ q19 : Addr, (.pointer p10a : Value) = .pointer (some q19) ∧ ∃ n21 : Int, Ru (Instr.loadAt 3 (.pointer (some (Addr.add q19 1)))) w1 (.int .i64 n21) w1 ∧ (bif n21 == 0 then
 K (.int .i64 6) w1
 else
 ∃ q24 : Addr, (.pointer p10a : Value) = .pointer (some q24) ∧ ∃ n26 : Int, Ru (Instr.loadAt 3 (.pointer (some (Addr.add q24 1)))) w1 (.int .i64 n26) w1 ∧ ∃ q28 : Addr, (.pointer p10a : Value) = .pointer (some q28) ∧ ∃ w2 : World, RuU (Instr.storeAt 3 (.pointer (some (Addr.add q28 1))) (.int .i64 (IntKind.i64.wrap (n26 - 1)))) w1 w2 ∧ K (.int .i64 0) w2))
set_option maxRecDepth 100000 in
theorem C_cache_Cache_Unpin (p0 : Option Addr) (n1 : Int) (w0 : World) (K : Value → World → Prop) (h : D_cache_Cache_Unpin p0 n1 w0 K) : Cal Try.prog F_cache_Cache_Unpin #[.pointer p0, .int .i64 n1] w0 K :=
 denF_sound (A := { S := [], ty := [], raw := [] }) mixed Try.func24 (by kernel_rfl) (by kernel_rfl) ((show denF Try.prog _ Try.f24 _ w0 K = D_cache_Cache_Unpin p0 n1 w0 K by kernel_rfl).mpr h)

/- slices.ContainsFunc[[]int64,int64]: slots {};  -/
set_option maxRecDepth 100000 in
def D_slices_ContainsFunc_int64 (a0 : Option Addr) (l0 c0 : Nat) (v1 : Value) (w0 : World) (K : Value → World → Prop) : Prop :=
 Cal Try.prog F_slices_IndexFunc_int64 #[.slice a0 l0 c0, v1] w0 fun r7 w1 => ∃ n7 : Int, r7 = .int .i64 n7 ∧ K (.bool (decide (n7 ≥ 0))) w1
set_option maxRecDepth 100000 in
theorem C_slices_ContainsFunc_int64 (a0 : Option Addr) (l0 c0 : Nat) (v1 : Value) (w0 : World) (K : Value → World → Prop) (h : D_slices_ContainsFunc_int64 a0 l0 c0 v1 w0 K) : Cal Try.prog F_slices_ContainsFunc_int64 #[.slice a0 l0 c0, v1] w0 K :=
 denF_sound (A := { S := [], ty := [], raw := [] }) mixed Try.func25 (by kernel_rfl) (by kernel_rfl) ((show denF Try.prog _ Try.f25 _ w0 K = D_slices_ContainsFunc_int64 a0 l0 c0 v1 w0 K by kernel_rfl).mpr h)

/- (levee.patch.Store).Patch$1: slots {};  -/
set_option maxRecDepth 100000 in
def D_patch_Store_Patch_1 (n0 : Int) (v1 : Value) (w0 : World) (K : Value → World → Prop) : Prop :=
 ∃ p4 : Option Addr, Ru (Instr.loadAt 28 v1) w0 (.pointer p4) w0 ∧ Cal Try.prog F_patch_Store_given #[.pointer p4, .int .i64 n0] w0 fun r6 w1 => ∃ b6 : Bool, r6 = .bool b6 ∧ K (.bool (!b6)) w1
set_option maxRecDepth 100000 in
theorem C_patch_Store_Patch_1 (n0 : Int) (v1 : Value) (w0 : World) (K : Value → World → Prop) (h : D_patch_Store_Patch_1 n0 v1 w0 K) : Cal Try.prog F_patch_Store_Patch_1 #[.int .i64 n0, v1] w0 K :=
 denF_sound (A := { S := [], ty := [], raw := [] }) mixed Try.func26 (by kernel_rfl) (by kernel_rfl) ((show denF Try.prog _ Try.f26 _ w0 K = D_patch_Store_Patch_1 n0 v1 w0 K by kernel_rfl).mpr h)

/- (levee.patch.Store).given: slots {4: ''};  -/
set_option maxRecDepth 100000 in
def D_patch_Store_given (p0 : Option Addr) (n1 : Int) (w0 : World) (K : Value → World → Prop) : Prop :=
 Share (fun k => (bif decide (n1 ≥ 1) then ∃ q10 : Addr, (.pointer p0 : Value) = .pointer (some q10) ∧ ∃ n12 : Int, Ru (Instr.loadAt 2 (.pointer (some (Addr.add q10 2)))) w0 (.int .i64 n12) w0 ∧ k [.bool (decide (n1 ≤ n12))] w0 else k [.bool false] w0)) fun x w1 =>
 ∃ b4 : Bool, nth x 0 = .bool b4 ∧ K (.bool b4) w1
set_option maxRecDepth 100000 in
theorem C_patch_Store_given (p0 : Option Addr) (n1 : Int) (w0 : World) (K : Value → World → Prop) (h : D_patch_Store_given p0 n1 w0 K) : Cal Try.prog F_patch_Store_given #[.pointer p0, .int .i64 n1] w0 K :=
 denF_sound (A := { S := [4], ty := [(4, 4)], raw := [] }) mixed Try.func27 (by kernel_rfl) (by kernel_rfl) ((show denF Try.prog _ Try.f27 _ w0 K = D_patch_Store_given p0 n1 w0 K by kernel_rfl).mpr h)

/- (levee.cache.Cache).Read: slots {};  -/
set_option maxRecDepth 100000 in
def D_cache_Cache_Read (p0 : Option Addr) (n1 : Int) (w0 : World) (K : Value → World → Prop) : Prop :=
 Cal Try.prog F_cache_Cache_may #[.pointer p0, .int .i64 n1, .slice none 0 0, .slice none 0 0] w0 fun r11 w1 => ∃ n11 : Int, r11 = .int .i64 n11 ∧ (bif n11 != 0 then
 K (.tuple #[.slice none 0 0, .int .i64 n11]) w1
 else
 Cal Try.prog F_cache_Cache_ask #[.pointer p0, .int .i64 n1] w1 fun r18 w2 => ∃ p18a : Option Addr, ∃ n18b : Int, r18 = .tuple #[.pointer p18a, .int .i64 n18b] ∧ (bif n18b != 0 then
 K (.tuple #[.slice none 0 0, .int .i64 n18b]) w2
 else
 ∃ q25 : Addr, (.pointer p18a : Value) = .pointer (some q25) ∧ ∃ (a28 : Option Addr) (l28 c28 : Nat), Ru (Instr.loadAt 32 (.pointer (some (Addr.add (Addr.add q25 0) 0)))) w2 (.slice a28 l28 c28) w2 ∧ Cal Try.prog F_slices_Clone_byte #[.slice a28 l28 c28] w2 fun r29 w3 => ∃ (a29 : Option Addr) (l29 c29 : Nat), r29 = .slice a29 l29 c29 ∧ K (.tuple #[.slice a29 l29 c29, .int .i64 0]) w3))
set_option maxRecDepth 100000 in
theorem C_cache_Cache_Read (p0 : Option Addr) (n1 : Int) (w0 : World) (K : Value → World → Prop) (h : D_cache_Cache_Read p0 n1 w0 K) : Cal Try.prog F_cache_Cache_Read #[.pointer p0, .int .i64 n1] w0 K :=
 denF_sound (A := { S := [], ty := [], raw := [] }) mixed Try.func28 (by kernel_rfl) (by kernel_rfl) ((show denF Try.prog _ Try.f28 _ w0 K = D_cache_Cache_Read p0 n1 w0 K by kernel_rfl).mpr h)

/- (levee.cache.Cache).Pin: slots {};  -/
set_option maxRecDepth 100000 in
def D_cache_Cache_Pin (p0 : Option Addr) (n1 : Int) (w0 : World) (K : Value → World → Prop) : Prop :=
 Cal Try.prog F_cache_Cache_held #[.pointer p0, .int .i64 n1] w0 fun r10 w1 => ∃ p10a : Option Addr, ∃ n10b : Int, r10 = .tuple #[.pointer p10a, .int .i64 n10b] ∧ Share (fun k => (bif n10b == 0 then
 ∃ q16 : Addr, (.pointer p10a : Value) = .pointer (some q16) ∧ ∃ n18 : Int, Ru (Instr.loadAt 3 (.pointer (some (Addr.add q16 1)))) w1 (.int .i64 n18) w1 ∧ ∃ q20 : Addr, (.pointer p10a : Value) = .pointer (some q20) ∧ ∃ w2 : World, RuU (Instr.storeAt 3 (.pointer (some (Addr.add q20 1))) (.int .i64 (IntKind.i64.wrap (n18 + 1)))) w1 w2 ∧ k [] w2
 else
 k [] w1)) fun x w3 =>
 K (.int .i64 n10b) w3
set_option maxRecDepth 100000 in
theorem C_cache_Cache_Pin (p0 : Option Addr) (n1 : Int) (w0 : World) (K : Value → World → Prop) (h : D_cache_Cache_Pin p0 n1 w0 K) : Cal Try.prog F_cache_Cache_Pin #[.pointer p0, .int .i64 n1] w0 K :=
 denF_sound (A := { S := [], ty := [], raw := [] }) mixed Try.func29 (by kernel_rfl) (by kernel_rfl) ((show denF Try.prog _ Try.f29 _ w0 K = D_cache_Cache_Pin p0 n1 w0 K by kernel_rfl).mpr h)

/- levee.num.Lay: slots {};  -/
set_option maxRecDepth 100000 in
def D_num_Lay (a0 : Option Addr) (l0 c0 : Nat) (n1 : Int) (a2 : Option Addr) (l2 c2 : Nat) (w0 : World) (K : Value → World → Prop) : Prop :=
 Cal Try.prog F_num_within #[.slice a0 l0 c0, .int .i64 n1, .int .i64 ((l2 : Int))] w0 fun r13 w1 => ∃ b13 : Bool, r13 = .bool b13 ∧ (bif !b13 then
 K (.tuple #[.slice none 0 0, .int .i64 3]) w1
 else
 ∃ (a17 : Option Addr) (l17 c17 : Nat), ∃ w2 : World, Ru (Instr.makeSlice 32 (.int .i64 ((l0 : Int))) (.int .i64 ((l0 : Int)))) w1 (.slice a17 l17 c17) w2 ∧ ∃ n20 : Int, ∃ w3 : World, Ru (Builtin.copy_ #[32, 32] 3 #[.slice a17 l17 c17, .slice a0 l0 c0]) w2 (.int .i64 n20) w3 ∧ ∃ (a23 : Option Addr) (l23 c23 : Nat), Al (Instr.sliceAt 32 (.slice a17 l17 c17) (some (.int .i64 n1)) none none) (.slice a23 l23 c23) ∧ ∃ n25 : Int, ∃ w4 : World, Ru (Builtin.copy_ #[32, 32] 3 #[.slice a23 l23 c23, .slice a2 l2 c2]) w3 (.int .i64 n25) w4 ∧ K (.tuple #[.slice a17 l17 c17, .int .i64 0]) w4)
set_option maxRecDepth 100000 in
theorem C_num_Lay (a0 : Option Addr) (l0 c0 : Nat) (n1 : Int) (a2 : Option Addr) (l2 c2 : Nat) (w0 : World) (K : Value → World → Prop) (h : D_num_Lay a0 l0 c0 n1 a2 l2 c2 w0 K) : Cal Try.prog F_num_Lay #[.slice a0 l0 c0, .int .i64 n1, .slice a2 l2 c2] w0 K :=
 denF_sound (A := { S := [], ty := [], raw := [] }) mixed Try.func30 (by kernel_rfl) (by kernel_rfl) ((show denF Try.prog _ Try.f30 _ w0 K = D_num_Lay a0 l0 c0 n1 a2 l2 c2 w0 K by kernel_rfl).mpr h)

/- (levee.cache.Cache).Lay: slots {};  -/
set_option maxRecDepth 100000 in
def D_cache_Cache_Lay (p0 : Option Addr) (n1 : Int) (a2 : Option Addr) (l2 c2 : Nat) (w0 : World) (K : Value → World → Prop) : Prop :=
 ∃ (a13 : Option Addr) (l13 c13 : Nat), ∃ w1 : World, Ru (Instr.buildSlice 23 1 #[(0, .int .i64 256)]) w0 (.slice a13 l13 c13) w1 ∧ Cal Try.prog F_cache_Cache_may #[.pointer p0, .int .i64 n1, .slice a2 l2 c2, .slice a13 l13 c13] w1 fun r14 w2 => ∃ n14 : Int, r14 = .int .i64 n14 ∧ (bif n14 != 0 then
 K (.int .i64 n14) w2
 else
 Cal Try.prog F_cache_Cache_ask #[.pointer p0, .int .i64 n1] w2 fun r21 w3 => ∃ p21a : Option Addr, ∃ n21b : Int, r21 = .tuple #[.pointer p21a, .int .i64 n21b] ∧ Share (fun k => (bif n21b == 0 then
 Cal Try.prog F_slices_Clone_byte #[.slice a2 l2 c2] w3 fun r28 w4 => ∃ (a28 : Option Addr) (l28 c28 : Nat), r28 = .slice a28 l28 c28 ∧ ∃ q29 : Addr, (.pointer p21a : Value) = .pointer (some q29) ∧ ∃ w5 : World, RuU (Instr.storeAt 32 (.pointer (some (Addr.add (Addr.add q29 0) 0))) (.slice a28 l28 c28)) w4 w5 ∧ k [] w5
 else
 k [] w3)) fun x w6 =>
 K (.int .i64 n21b) w6)
set_option maxRecDepth 100000 in
theorem C_cache_Cache_Lay (p0 : Option Addr) (n1 : Int) (a2 : Option Addr) (l2 c2 : Nat) (w0 : World) (K : Value → World → Prop) (h : D_cache_Cache_Lay p0 n1 a2 l2 c2 w0 K) : Cal Try.prog F_cache_Cache_Lay #[.pointer p0, .int .i64 n1, .slice a2 l2 c2] w0 K :=
 denF_sound (A := { S := [], ty := [], raw := [] }) mixed Try.func31 (by kernel_rfl) (by kernel_rfl) ((show denF Try.prog _ Try.f31 _ w0 K = D_cache_Cache_Lay p0 n1 a2 l2 c2 w0 K by kernel_rfl).mpr h)

/- slices.Clone[[]byte,byte]: slots {};  -/
set_option maxRecDepth 100000 in
def D_slices_Clone_byte (a0 : Option Addr) (l0 c0 : Nat) (w0 : World) (K : Value → World → Prop) : Prop :=
 ∃ b4 : Bool, Al (eqS .eql 32 (.tmp 3) (.const (.slice none 0 0)) (.slice a0 l0 c0) (.slice none 0 0)) (.bool b4) ∧ (bif b4 then
 K (.slice none 0 0) w0
 else
 ∃ (a5 : Option Addr) (l5 c5 : Nat), ∃ w1 : World, Ru (Instr.buildSlice 32 0 #[]) w0 (.slice a5 l5 c5) w1 ∧ ∃ (a7 : Option Addr) (l7 c7 : Nat), ∃ w2 : World, Ru (Builtin.append_ #[32, 32] 32 #[.slice a5 l5 c5, .slice a0 l0 c0]) w1 (.slice a7 l7 c7) w2 ∧ K (.slice a7 l7 c7) w2)
set_option maxRecDepth 100000 in
theorem C_slices_Clone_byte (a0 : Option Addr) (l0 c0 : Nat) (w0 : World) (K : Value → World → Prop) (h : D_slices_Clone_byte a0 l0 c0 w0 K) : Cal Try.prog F_slices_Clone_byte #[.slice a0 l0 c0] w0 K :=
 denF_sound (A := { S := [], ty := [], raw := [] }) mixed Try.func32 (by kernel_rfl) (by kernel_rfl) ((show denF Try.prog _ Try.f32 _ w0 K = D_slices_Clone_byte a0 l0 c0 w0 K by kernel_rfl).mpr h)

/- (levee.disk.Disk).Open: slots {3: 'l'}; loop over [3] -/
set_option maxRecDepth 100000 in
def D_disk_Disk_Open (p0 : Option Addr) (w0 : World) (K : Value → World → Prop) : Prop :=
 (bif Option.isNone p0 then
 K (.slice none 0 0) w0
 else
 ∃ q8 : Addr, (.pointer p0 : Value) = .pointer (some q8) ∧ ∃ m10 : Option Nat, Ru (Instr.loadAt 51 (.pointer (some (Addr.add q8 1)))) w0 (.map m10) w0 ∧ ∃ q11 : Addr, ∃ w1 : World, Ru (Instr.range 51 (.map m10)) w0 (.pointer (some q11)) w1 ∧ LoopC (fun k x w2 =>
 ∃ v12 : Value, ∃ w3 : World, Ru (Instr.next (.pointer (some q11)) false 0) w2 v12 w3 ∧ ∃ b13 : Bool, Al (Instr.extract v12 0) (.bool b13) ∧ (bif b13 then
 ∃ v14 : Value, Ru (Instr.entry (.pointer (some q11))) w3 v14 w3 ∧ ∃ n15 : Int, Al (Instr.extract v14 0) (.int .i64 n15) ∧ ∃ (a3 : Option Addr) (l3 c3 : Nat), nth x 0 = .slice a3 l3 c3 ∧ ∃ (a18 : Option Addr) (l18 c18 : Nat), ∃ w4 : World, Ru (Instr.buildSlice 23 1 #[(0, .int .i64 n15)]) w3 (.slice a18 l18 c18) w4 ∧ ∃ (a19 : Option Addr) (l19 c19 : Nat), ∃ w5 : World, Ru (Builtin.append_ #[23, 23] 23 #[.slice a3 l3 c3, .slice a18 l18 c18]) w4 (.slice a19 l19 c19) w5 ∧ k [.slice a19 l19 c19] w5
 else
 ∃ (a3_2 : Option Addr) (l3_2 c3_2 : Nat), nth x 0 = .slice a3_2 l3_2 c3_2 ∧ Cal Try.prog F_slices_Sort_int #[.slice a3_2 l3_2 c3_2] w3 fun r21 w6 => r21 = .tuple #[] ∧ K (.slice a3_2 l3_2 c3_2) w6)) [.slice none 0 0] w1)
set_option maxRecDepth 100000 in
theorem C_disk_Disk_Open (p0 : Option Addr) (w0 : World) (K : Value → World → Prop) (h : D_disk_Disk_Open p0 w0 K) : Cal Try.prog F_disk_Disk_Open #[.pointer p0] w0 K :=
 denF_sound (A := { S := [3], ty := [(3, 23)], raw := [12, 14] }) mixed Try.func33 (by kernel_rfl) (by kernel_rfl) ((show denF Try.prog _ Try.f33 _ w0 K = D_disk_Disk_Open p0 w0 K by kernel_rfl).mpr h)

/- (levee.disk.Disk).may: slots {8: ''};  -/
set_option maxRecDepth 100000 in
def D_disk_Disk_may (p0 : Option Addr) (n1 : Int) (w0 : World) (K : Value → World → Prop) : Prop :=
 (bif Option.isNone p0 then
 K (.int .i64 2) w0
 else
 Share (fun k => (bif decide (n1 < 0) then k [.bool true] w0 else ∃ q14 : Addr, (.pointer p0 : Value) = .pointer (some q14) ∧ ∃ (a16 : Option Addr) (l16 c16 : Nat), Ru (Instr.loadAt 50 (.pointer (some (Addr.add q14 0)))) w0 (.slice a16 l16 c16) w0 ∧ k [.bool (decide (n1 ≥ (l16 : Int)))] w0)) fun x w1 =>
 ∃ b8 : Bool, nth x 0 = .bool b8 ∧ (bif b8 then
 K (.int .i64 3) w1
 else
 K (.int .i64 0) w1))
set_option maxRecDepth 100000 in
theorem C_disk_Disk_may (p0 : Option Addr) (n1 : Int) (w0 : World) (K : Value → World → Prop) (h : D_disk_Disk_may p0 n1 w0 K) : Cal Try.prog F_disk_Disk_may #[.pointer p0, .int .i64 n1] w0 K :=
 denF_sound (A := { S := [8], ty := [(8, 4)], raw := [] }) mixed Try.func34 (by kernel_rfl) (by kernel_rfl) ((show denF Try.prog _ Try.f34 _ w0 K = D_disk_Disk_may p0 n1 w0 K by kernel_rfl).mpr h)

/- (levee.disk.Disk).last: slots {};  -/
set_option maxRecDepth 100000 in
def D_disk_Disk_last (p0 : Option Addr) (n1 : Int) (w0 : World) (K : Value → World → Prop) : Prop :=
 ∃ q4 : Addr, ∃ w1 : World, Ru (Instr.alloc 80 true (.tuple #[])) w0 (.pointer (some q4)) w1 ∧ ∃ q7 : Addr, (.pointer p0 : Value) = .pointer (some q7) ∧ ∃ m9 : Option Nat, Ru (Instr.loadAt 51 (.pointer (some (Addr.add q7 1)))) w1 (.map m9) w1 ∧ ∃ (a11 : Option Addr) (l11 c11 : Nat), Ru (Instr.lookup 51 (.map m9) (.int .i64 n1) false) w1 (.slice a11 l11 c11) w1 ∧ (bif decide ((l11 : Int) > 0) then
 ∃ q19 : Addr, Al (Instr.indexAt 50 (.slice a11 l11 c11) (.int .i64 (IntKind.i64.wrap ((l11 : Int) - 1)))) (.pointer (some q19)) ∧ ∃ g20 : Array Value, Ru (Instr.loadAt 80 (.pointer (some q19))) w1 (.agg g20) w1 ∧ ∃ w2 : World, RuU (Instr.storeAt 80 (.pointer (some q4)) (.agg g20)) w1 w2 ∧ ∃ gR4 : Array Value, Ru (Instr.loadAt 80 (.pointer (some q4))) w2 (.agg gR4) w2 ∧ K (.agg gR4) w2
 else
 ∃ q22 : Addr, (.pointer p0 : Value) = .pointer (some q22) ∧ ∃ (a24 : Option Addr) (l24 c24 : Nat), Ru (Instr.loadAt 50 (.pointer (some (Addr.add q22 0)))) w1 (.slice a24 l24 c24) w1 ∧ ∃ q26 : Addr, Al (Instr.indexAt 50 (.slice a24 l24 c24) (.int .i64 n1)) (.pointer (some q26)) ∧ ∃ g27 : Array Value, Ru (Instr.loadAt 80 (.pointer (some q26))) w1 (.agg g27) w1 ∧ ∃ w3 : World, RuU (Instr.storeAt 80 (.pointer (some q4)) (.agg g27)) w1 w3 ∧ ∃ gR4_2 : Array Value, Ru (Instr.loadAt 80 (.pointer (some q4))) w3 (.agg gR4_2) w3 ∧ K (.agg gR4_2) w3)
set_option maxRecDepth 100000 in
theorem C_disk_Disk_last (p0 : Option Addr) (n1 : Int) (w0 : World) (K : Value → World → Prop) (h : D_disk_Disk_last p0 n1 w0 K) : Cal Try.prog F_disk_Disk_last #[.pointer p0, .int .i64 n1] w0 K :=
 denF_sound (A := { S := [], ty := [], raw := [] }) mixed Try.func35 (by kernel_rfl) (by kernel_rfl) ((show denF Try.prog _ Try.f35 _ w0 K = D_disk_Disk_last p0 n1 w0 K by kernel_rfl).mpr h)

/- (levee.patch.Store).Read: slots {};  -/
set_option maxRecDepth 100000 in
def D_patch_Store_Read (p0 : Option Addr) (n1 : Int) (w0 : World) (K : Value → World → Prop) : Prop :=
 (bif Option.isNone p0 then
 K (.tuple #[.slice none 0 0, .int .i64 2]) w0
 else
 ∃ q9 : Addr, (.pointer p0 : Value) = .pointer (some q9) ∧ ∃ p11 : Option Addr, Ru (Instr.loadAt 54 (.pointer (some (Addr.add q9 0)))) w0 (.pointer p11) w0 ∧ Cal Try.prog F_cache_Cache_Read #[.pointer p11, .int .i64 n1] w0 fun r13 w1 => ∃ (a13a : Option Addr) (l13a c13a : Nat), ∃ n13b : Int, r13 = .tuple #[.slice a13a l13a c13a, .int .i64 n13b] ∧ K (.tuple #[.slice a13a l13a c13a, .int .i64 n13b]) w1)
set_option maxRecDepth 100000 in
theorem C_patch_Store_Read (p0 : Option Addr) (n1 : Int) (w0 : World) (K : Value → World → Prop) (h : D_patch_Store_Read p0 n1 w0 K) : Cal Try.prog F_patch_Store_Read #[.pointer p0, .int .i64 n1] w0 K :=
 denF_sound (A := { S := [], ty := [], raw := [] }) mixed Try.func36 (by kernel_rfl) (by kernel_rfl) ((show denF Try.prog _ Try.f36 _ w0 K = D_patch_Store_Read p0 n1 w0 K by kernel_rfl).mpr h)

/- (levee.patch.Store).Ready: slots {5: 'n', 19: '', 38: '', 54: ''}; loop over [5, 38, 54] -/
set_option maxRecDepth 100000 in
def D_patch_Store_Ready (p0 : Option Addr) (n1 : Int) (w0 : World) (K : Value → World → Prop) : Prop :=
 Share (fun k => (bif Option.isNone p0 then k [.bool true] w0 else ∃ q13 : Addr, (.pointer p0 : Value) = .pointer (some q13) ∧ ∃ m15 : Option Nat, Ru (Instr.loadAt 59 (.pointer (some (Addr.add q13 4)))) w0 (.map m15) w0 ∧ ∃ p17 : Option Addr, Ru (Instr.lookup 59 (.map m15) (.int .i64 n1) false) w0 (.pointer p17) w0 ∧ k [.bool (Option.isNone p17)] w0)) fun x w1 =>
 ∃ b19 : Bool, nth x 0 = .bool b19 ∧ (bif b19 then
 K (.int .i64 0) w1
 else
 ∃ q22 : Addr, (.pointer p0 : Value) = .pointer (some q22) ∧ ∃ m24 : Option Nat, Ru (Instr.loadAt 59 (.pointer (some (Addr.add q22 4)))) w1 (.map m24) w1 ∧ ∃ p26 : Option Addr, Ru (Instr.lookup 59 (.map m24) (.int .i64 n1) false) w1 (.pointer p26) w1 ∧ Cal Try.prog F_patch_Store_may #[.pointer p0, .pointer p26] w1 fun r27 w2 => ∃ m27 : Option Nat, r27 = .map m27 ∧ ∃ q29 : Addr, (.pointer p0 : Value) = .pointer (some q29) ∧ ∃ m31 : Option Nat, Ru (Instr.loadAt 59 (.pointer (some (Addr.add q29 4)))) w2 (.map m31) w2 ∧ ∃ p33 : Option Addr, Ru (Instr.lookup 59 (.map m31) (.int .i64 n1) false) w2 (.pointer p33) w2 ∧ ∃ q34 : Addr, (.pointer p33 : Value) = .pointer (some q34) ∧ ∃ (a36 : Option Addr) (l36 c36 : Nat), Ru (Instr.loadAt 66 (.pointer (some (Addr.add q34 1)))) w2 (.slice a36 l36 c36) w2 ∧ LoopC (fun k_2 x_2 w3 =>
 ∃ n38 : Int, nth x_2 1 = .int .i64 n38 ∧ (bif decide (n38 < (l36 : Int)) then
 ∃ q40 : Addr, Al (Instr.indexAt 66 (.slice a36 l36 c36) (.int .i64 n38)) (.pointer (some q40)) ∧ ∃ p41 : Option Addr, Ru (Instr.loadAt 69 (.pointer (some q40))) w3 (.pointer p41) w3 ∧ Share (fun k_3 => ∃ q44 : Addr, (.pointer p41 : Value) = .pointer (some q44) ∧ ∃ n46 : Int, Ru (Instr.loadAt 2 (.pointer (some (Addr.add q44 0)))) w3 (.int .i64 n46) w3 ∧ ∃ b47 : Bool, Ru (Instr.lookup 64 (.map m27) (.int .i64 n46) false) w3 (.bool b47) w3 ∧ (bif b47 then ∃ q50 : Addr, (.pointer p41 : Value) = .pointer (some q50) ∧ ∃ b52 : Bool, Ru (Instr.loadAt 4 (.pointer (some (Addr.add q50 5)))) w3 (.bool b52) w3 ∧ k_3 [.bool (!b52)] w3 else k_3 [.bool false] w3)) fun x_3 w4 =>
 ∃ b54 : Bool, nth x_3 0 = .bool b54 ∧ Share (fun k_4 => (bif b54 then
 ∃ n5 : Int, nth x_2 0 = .int .i64 n5 ∧ k_4 [.int .i64 (IntKind.i64.wrap (n5 + 1))] w4
 else
 k_4 [nth x_2 0] w4)) fun x_4 w5 =>
 k_2 [nth x_4 0, .int .i64 (IntKind.i64.wrap (n38 + 1)), .bool b54] w5
 else
 ∃ n5_2 : Int, nth x_2 0 = .int .i64 n5_2 ∧ K (.int .i64 n5_2) w3)) [.int .i64 0, .int .i64 0, undef] w2)
set_option maxRecDepth 100000 in
theorem C_patch_Store_Ready (p0 : Option Addr) (n1 : Int) (w0 : World) (K : Value → World → Prop) (h : D_patch_Store_Ready p0 n1 w0 K) : Cal Try.prog F_patch_Store_Ready #[.pointer p0, .int .i64 n1] w0 K :=
 denF_sound (A := { S := [5, 19, 38, 54], ty := [(5, 3), (19, 4), (38, 3), (54, 4)], raw := [] }) mixed Try.func37 (by kernel_rfl) (by kernel_rfl) ((show denF Try.prog _ Try.f37 _ w0 K = D_patch_Store_Ready p0 n1 w0 K by kernel_rfl).mpr h)

/- (levee.patch.Store).Open: slots {};  -/
set_option maxRecDepth 100000 in
def D_patch_Store_Open (p0 : Option Addr) (w0 : World) (K : Value → World → Prop) : Prop :=
 (bif Option.isNone p0 then
 K (.int .i64 0) w0
 else
 ∃ q6 : Addr, (.pointer p0 : Value) = .pointer (some q6) ∧ ∃ m8 : Option Nat, Ru (Instr.loadAt 58 (.pointer (some (Addr.add q6 3)))) w0 (.map m8) w0 ∧ ∃ n9 : Int, Ru (Builtin.len_ #[58] 3 #[.map m8]) w0 (.int .i64 n9) w0 ∧ K (.int .i64 n9) w0)
set_option maxRecDepth 100000 in
theorem C_patch_Store_Open (p0 : Option Addr) (w0 : World) (K : Value → World → Prop) (h : D_patch_Store_Open p0 w0 K) : Cal Try.prog F_patch_Store_Open #[.pointer p0] w0 K :=
 denF_sound (A := { S := [], ty := [], raw := [] }) mixed Try.func38 (by kernel_rfl) (by kernel_rfl) ((show denF Try.prog _ Try.f38 _ w0 K = D_patch_Store_Open p0 w0 K by kernel_rfl).mpr h)

/- (levee.patch.Store).Image$1: slots {};  -/
set_option maxRecDepth 100000 in
def D_patch_Store_Image_1 (p0 : Option Addr) (v1 : Value) (w0 : World) (K : Value → World → Prop) : Prop :=
 ∃ m4 : Option Nat, Ru (Instr.loadAt 64 v1) (drew w0) (.map m4) (drew w0) ∧ ∃ q6 : Addr, (.pointer p0 : Value) = .pointer (some q6) ∧ ∃ n8 : Int, Ru (Instr.loadAt 2 (.pointer (some (Addr.add q6 0)))) (drew w0) (.int .i64 n8) (drew w0) ∧ ∃ b9 : Bool, Ru (Instr.lookup 64 (.map m4) (.int .i64 n8) false) (drew w0) (.bool b9) (drew w0) ∧ K (.bool b9) (drew w0)
set_option maxRecDepth 100000 in
theorem C_patch_Store_Image_1 (p0 : Option Addr) (v1 : Value) (w0 : World) (K : Value → World → Prop) (h : D_patch_Store_Image_1 p0 v1 w0 K) : Cal Try.prog F_patch_Store_Image_1 #[.pointer p0, v1] w0 K :=
 denF_sound (A := { S := [], ty := [], raw := [] }) mixed Try.func39 (by kernel_rfl) (by kernel_rfl) ((show denF Try.prog _ Try.f39 _ w0 K = D_patch_Store_Image_1 p0 v1 w0 K by kernel_rfl).mpr h)

/- (levee.cache.Cache).may: slots {12: '', 24: ''};  -/
set_option maxRecDepth 100000 in
def D_cache_Cache_may (p0 : Option Addr) (n1 : Int) (a2 : Option Addr) (l2 c2 : Nat) (a3 : Option Addr) (l3 c3 : Nat) (w0 : World) (K : Value → World → Prop) : Prop :=
 (bif Option.isNone p0 then
 K (.int .i64 2) w0
 else
 Share (fun k => (bif decide (n1 < 0) then k [.bool true] w0 else ∃ q18 : Addr, (.pointer p0 : Value) = .pointer (some q18) ∧ ∃ p20 : Option Addr, Ru (Instr.loadAt 24 (.pointer (some (Addr.add q18 0)))) w0 (.pointer p20) w0 ∧ Cal Try.prog F_disk_Disk_Len #[.pointer p20] w0 fun r21 w1 => ∃ n21 : Int, r21 = .int .i64 n21 ∧ k [.bool (decide (n1 ≥ n21))] w1)) fun x w2 =>
 ∃ b12 : Bool, nth x 0 = .bool b12 ∧ (bif b12 then
 K (.int .i64 3) w2
 else
 Share (fun k_2 => (bif decide ((l3 : Int) > 0) then Cal Try.prog F_slices_Contains_int #[.slice a3 l3 c3, .int .i64 ((l2 : Int))] w2 fun r32 w3 => ∃ b32 : Bool, r32 = .bool b32 ∧ k_2 [.bool (!b32)] w3 else k_2 [.bool false] w2)) fun x_2 w4 =>
 ∃ b24 : Bool, nth x_2 0 = .bool b24 ∧ (bif b24 then
 K (.int .i64 4) w4
 else
 K (.int .i64 0) w4)))
set_option maxRecDepth 100000 in
theorem C_cache_Cache_may (p0 : Option Addr) (n1 : Int) (a2 : Option Addr) (l2 c2 : Nat) (a3 : Option Addr) (l3 c3 : Nat) (w0 : World) (K : Value → World → Prop) (h : D_cache_Cache_may p0 n1 a2 l2 c2 a3 l3 c3 w0 K) : Cal Try.prog F_cache_Cache_may #[.pointer p0, .int .i64 n1, .slice a2 l2 c2, .slice a3 l3 c3] w0 K :=
 denF_sound (A := { S := [12, 24], ty := [(12, 4), (24, 4)], raw := [] }) mixed Try.func40 (by kernel_rfl) (by kernel_rfl) ((show denF Try.prog _ Try.f40 _ w0 K = D_cache_Cache_may p0 n1 a2 l2 c2 a3 l3 c3 w0 K by kernel_rfl).mpr h)

/- (levee.cache.Cache).ask: slots {};  -/
set_option maxRecDepth 100000 in
def D_cache_Cache_ask (p0 : Option Addr) (n1 : Int) (w0 : World) (K : Value → World → Prop) : Prop :=
 ∃ q3 : Addr, ∃ w1 : World, Ru (Instr.box 3 (.int .i64 n1)) w0 (.pointer (some q3)) w1 ∧ ∃ q14 : Addr, (.pointer p0 : Value) = .pointer (some q14) ∧ ∃ m16 : Option Nat, Ru (Instr.loadAt 83 (.pointer (some (Addr.add q14 2)))) (drew w1) (.map m16) (drew w1) ∧ ∃ n17 : Int, Ru (Instr.loadAt 3 (.pointer (some q3))) (drew w1) (.int .i64 n17) (drew w1) ∧ ∃ p18a : Option Addr, ∃ b18b : Bool, Ru (Instr.lookup 83 (.map m16) (.int .i64 n17) true) (drew w1) (.tuple #[.pointer p18a, .bool b18b]) (drew w1) ∧ (bif b18b then
 ∃ q24 : Addr, (.pointer p0 : Value) = .pointer (some q24) ∧ ∃ (a26 : Option Addr) (l26 c26 : Nat), Ru (Instr.loadAt 23 (.pointer (some (Addr.add q24 3)))) (drew (drew w1)) (.slice a26 l26 c26) (drew (drew w1)) ∧ ∃ n29 : Int, Ru (Instr.loadAt 3 (.pointer (some q3))) (drew (drew w1)) (.int .i64 n29) (drew (drew w1)) ∧ (Cal Try.prog F_slices_DeleteFunc_int #[.slice a26 l26 c26, .func (.func F_cache_Cache_ask_1) #[] #[.pointer (some q3)]] (drew (drew w1)) fun r28 w2 => ∃ (a28 : Option Addr) (l28 c28 : Nat), r28 = .slice a28 l28 c28 ∧ Ru (Instr.loadAt 3 (.pointer (some q3))) w2 (.int .i64 n29) w2 ∧ ∃ (a30 : Option Addr) (l30 c30 : Nat), ∃ w3 : World, Ru (Instr.buildSlice 23 1 #[(0, .int .i64 n29)]) w2 (.slice a30 l30 c30) w3 ∧ Ru (Instr.loadAt 23 (.pointer (some (Addr.add q24 3)))) w3 (.slice a26 l26 c26) w3 ∧ ∃ (a31 : Option Addr) (l31 c31 : Nat), ∃ w4 : World, Ru (Builtin.append_ #[23, 23] 23 #[.slice a28 l28 c28, .slice a30 l30 c30]) w3 (.slice a31 l31 c31) w4 ∧ ∃ q32 : Addr, (.pointer p0 : Value) = .pointer (some q32) ∧ ∃ w5 : World, RuU (Instr.storeAt 23 (.pointer (some (Addr.add q32 3))) (.slice a31 l31 c31)) w4 w5 ∧ K (.tuple #[.pointer p18a, .int .i64 0]) w5) ∧ (∃ (a30_2 : Option Addr) (l30_2 c30_2 : Nat), ∃ w6 : World, Ru (Instr.buildSlice 23 1 #[(0, .int .i64 n29)]) (drew (drew w1)) (.slice a30_2 l30_2 c30_2) w6 ∧ Ru (Instr.loadAt 23 (.pointer (some (Addr.add q24 3)))) w6 (.slice a26 l26 c26) w6 ∧ Cal Try.prog F_slices_DeleteFunc_int #[.slice a26 l26 c26, .func (.func F_cache_Cache_ask_1) #[] #[.pointer (some q3)]] w6 fun r28_2 w7 => ∃ (a28_2 : Option Addr) (l28_2 c28_2 : Nat), r28_2 = .slice a28_2 l28_2 c28_2 ∧ Ru (Instr.loadAt 3 (.pointer (some q3))) w7 (.int .i64 n29) w7 ∧ ∃ (a31_2 : Option Addr) (l31_2 c31_2 : Nat), ∃ w8 : World, Ru (Builtin.append_ #[23, 23] 23 #[.slice a28_2 l28_2 c28_2, .slice a30_2 l30_2 c30_2]) w7 (.slice a31_2 l31_2 c31_2) w8 ∧ ∃ q32_2 : Addr, (.pointer p0 : Value) = .pointer (some q32_2) ∧ ∃ w9 : World, RuU (Instr.storeAt 23 (.pointer (some (Addr.add q32_2 3))) (.slice a31_2 l31_2 c31_2)) w8 w9 ∧ K (.tuple #[.pointer p18a, .int .i64 0]) w9)
 else
 Cal Try.prog F_cache_Cache_room #[.pointer p0] (drew w1) fun r36 w10 => ∃ n36 : Int, r36 = .int .i64 n36 ∧ (bif n36 != 0 then
 K (.tuple #[.pointer none, .int .i64 n36]) w10
 else
 ∃ q42 : Addr, (.pointer p0 : Value) = .pointer (some q42) ∧ ∃ p44 : Option Addr, Ru (Instr.loadAt 24 (.pointer (some (Addr.add q42 0)))) (drew w10) (.pointer p44) (drew w10) ∧ ∃ n45 : Int, Ru (Instr.loadAt 3 (.pointer (some q3))) (drew w10) (.int .i64 n45) (drew w10) ∧ Cal Try.prog F_disk_Disk_Read #[.pointer p44, .int .i64 n45] (drew w10) fun r46 w11 => ∃ (a46a : Option Addr) (l46a c46a : Nat), ∃ n46b : Int, r46 = .tuple #[.slice a46a l46a c46a, .int .i64 n46b] ∧ (bif n46b != 0 then
 K (.tuple #[.pointer none, .int .i64 n46b]) w11
 else
 ∃ g53 : Array Value, Al (Instr.build 91 #[(0, .slice a46a l46a c46a)]) (.agg g53) ∧ ∃ g54 : Array Value, Al (Instr.build 93 #[(0, .agg g53)]) (.agg g54) ∧ ∃ q55 : Addr, ∃ w12 : World, Ru (Instr.box 93 (.agg g54)) w11 (.pointer (some q55)) w12 ∧ ∃ q57 : Addr, (.pointer p0 : Value) = .pointer (some q57) ∧ ∃ m59 : Option Nat, Ru (Instr.loadAt 83 (.pointer (some (Addr.add q57 2)))) (drew w12) (.map m59) (drew w12) ∧ ∃ n60 : Int, Ru (Instr.loadAt 3 (.pointer (some q3))) (drew w12) (.int .i64 n60) (drew w12) ∧ ∃ w13 : World, RuU (Instr.mapUpdate 83 (.map m59) (.int .i64 n60) (.pointer (some q55))) (drew w12) w13 ∧ ∃ q64 : Addr, (.pointer p0 : Value) = .pointer (some q64) ∧ ∃ (a66 : Option Addr) (l66 c66 : Nat), Ru (Instr.loadAt 23 (.pointer (some (Addr.add q64 3)))) (drew w13) (.slice a66 l66 c66) (drew w13) ∧ ∃ n67 : Int, Ru (Instr.loadAt 3 (.pointer (some q3))) (drew w13) (.int .i64 n67) (drew w13) ∧ ∃ (a68 : Option Addr) (l68 c68 : Nat), ∃ w14 : World, Ru (Instr.buildSlice 23 1 #[(0, .int .i64 n67)]) (drew w13) (.slice a68 l68 c68) w14 ∧ Ru (Instr.loadAt 23 (.pointer (some (Addr.add q64 3)))) w14 (.slice a66 l66 c66) w14 ∧ ∃ (a69 : Option Addr) (l69 c69 : Nat), ∃ w15 : World, Ru (Builtin.append_ #[23, 23] 23 #[.slice a66 l66 c66, .slice a68 l68 c68]) w14 (.slice a69 l69 c69) w15 ∧ ∃ q70 : Addr, (.pointer p0 : Value) = .pointer (some q70) ∧ ∃ w16 : World, RuU (Instr.storeAt 23 (.pointer (some (Addr.add q70 3))) (.slice a69 l69 c69)) w15 w16 ∧ K (.tuple #[.pointer (some q55), .int .i64 0]) w16)))
set_option maxRecDepth 100000 in
theorem C_cache_Cache_ask (p0 : Option Addr) (n1 : Int) (w0 : World) (K : Value → World → Prop) (h : D_cache_Cache_ask p0 n1 w0 K) : Cal Try.prog F_cache_Cache_ask #[.pointer p0, .int .i64 n1] w0 K :=
 denF_sound (A := { S := [], ty := [], raw := [] }) mixed Try.func41 (by kernel_rfl) (by kernel_rfl) ((show denF Try.prog _ Try.f41 _ w0 K = D_cache_Cache_ask p0 n1 w0 K by kernel_rfl).mpr h)

/- (levee.disk.Disk).Write: slots {};  -/
set_option maxRecDepth 100000 in
def D_disk_Disk_Write (p0 : Option Addr) (n1 : Int) (a2 : Option Addr) (l2 c2 : Nat) (w0 : World) (K : Value → World → Prop) : Prop :=
 Cal Try.prog F_disk_Disk_may #[.pointer p0, .int .i64 n1] w0 fun r11 w1 => ∃ n11 : Int, r11 = .int .i64 n11 ∧ (bif n11 != 0 then
 K (.int .i64 n11) w1
 else
 (bif (l2 : Int) != 256 then
 K (.int .i64 4) w1
 else
 ∃ q21 : Addr, (.pointer p0 : Value) = .pointer (some q21) ∧ ∃ m23 : Option Nat, Ru (Instr.loadAt 51 (.pointer (some (Addr.add q21 1)))) w1 (.map m23) w1 ∧ ∃ (a25 : Option Addr) (l25 c25 : Nat), Ru (Instr.lookup 51 (.map m23) (.int .i64 n1) false) w1 (.slice a25 l25 c25) w1 ∧ Cal Try.prog F_disk_Disk_goes #[.pointer p0] w1 fun r27 w2 => ∃ b27 : Bool, r27 = .bool b27 ∧ Share (fun k => (bif b27 then
 ∃ q29 : Addr, (.pointer p0 : Value) = .pointer (some q29) ∧ ∃ m31 : Option Nat, Ru (Instr.loadAt 51 (.pointer (some (Addr.add q29 1)))) (drew w2) (.map m31) (drew w2) ∧ ∃ (a38 : Option Addr) (l38 c38 : Nat), Al (Instr.sliceAt 50 (.slice a25 l25 c25) none (some (.int .i64 ((l25 : Int)))) (some (.int .i64 ((l25 : Int))))) (.slice a38 l38 c38) ∧ ∃ q40 : Addr, Al (Instr.arrayAt 80 (.slice a2 l2 c2)) (.pointer (some q40)) ∧ ∃ g41 : Array Value, Ru (Instr.loadAt 80 (.pointer (some q40))) (drew w2) (.agg g41) (drew w2) ∧ ∃ (a42 : Option Addr) (l42 c42 : Nat), ∃ w3 : World, Ru (Instr.buildSlice 50 1 #[(0, .agg g41)]) (drew w2) (.slice a42 l42 c42) w3 ∧ Ru (Instr.loadAt 51 (.pointer (some (Addr.add q29 1)))) w3 (.map m31) w3 ∧ ∃ (a43 : Option Addr) (l43 c43 : Nat), ∃ w4 : World, Ru (Builtin.append_ #[50, 50] 50 #[.slice a38 l38 c38, .slice a42 l42 c42]) w3 (.slice a43 l43 c43) w4 ∧ Ru (Instr.loadAt 51 (.pointer (some (Addr.add q29 1)))) w4 (.map m31) w4 ∧ ∃ w5 : World, RuU (Instr.mapUpdate 51 (.map m31) (.int .i64 n1) (.slice a43 l43 c43)) w4 w5 ∧ k [] w5
 else
 k [] w2)) fun x w6 =>
 K (.int .i64 0) w6))
set_option maxRecDepth 100000 in
theorem C_disk_Disk_Write (p0 : Option Addr) (n1 : Int) (a2 : Option Addr) (l2 c2 : Nat) (w0 : World) (K : Value → World → Prop) (h : D_disk_Disk_Write p0 n1 a2 l2 c2 w0 K) : Cal Try.prog F_disk_Disk_Write #[.pointer p0, .int .i64 n1, .slice a2 l2 c2] w0 K :=
 denF_sound (A := { S := [], ty := [], raw := [] }) mixed Try.func42 (by kernel_rfl) (by kernel_rfl) ((show denF Try.prog _ Try.f42 _ w0 K = D_disk_Disk_Write p0 n1 a2 l2 c2 w0 K by kernel_rfl).mpr h)

/- (levee.patch.Store).may$1: slots {4: ''};  -/
set_option maxRecDepth 100000 in
def D_patch_Store_may_1 (n0 : Int) (v1 : Value) (v2 : Value) (w0 : World) (K : Value → World → Prop) : Prop :=
 Share (fun k => ∃ p5 : Option Addr, Ru (Instr.loadAt 28 v1) w0 (.pointer p5) w0 ∧ ∃ q6 : Addr, (.pointer p5 : Value) = .pointer (some q6) ∧ ∃ m8 : Option Nat, Ru (Instr.loadAt 58 (.pointer (some (Addr.add q6 3)))) w0 (.map m8) w0 ∧ ∃ p10 : Option Addr, Ru (Instr.lookup 58 (.map m8) (.int .i64 n0) false) w0 (.pointer p10) w0 ∧ (bif !(Option.isNone p10) then ∃ m13 : Option Nat, Ru (Instr.loadAt 64 v2) w0 (.map m13) w0 ∧ ∃ b15 : Bool, Ru (Instr.lookup 64 (.map m13) (.int .i64 n0) false) w0 (.bool b15) w0 ∧ k [.bool (!b15)] w0 else k [.bool false] w0)) fun x w1 =>
 ∃ b4 : Bool, nth x 0 = .bool b4 ∧ K (.bool b4) w1
set_option maxRecDepth 100000 in
theorem C_patch_Store_may_1 (n0 : Int) (v1 : Value) (v2 : Value) (w0 : World) (K : Value → World → Prop) (h : D_patch_Store_may_1 n0 v1 v2 w0 K) : Cal Try.prog F_patch_Store_may_1 #[.int .i64 n0, v1, v2] w0 K :=
 denF_sound (A := { S := [4], ty := [(4, 4)], raw := [] }) mixed Try.func43 (by kernel_rfl) (by kernel_rfl) ((show denF Try.prog _ Try.f43 _ w0 K = D_patch_Store_may_1 n0 v1 v2 w0 K by kernel_rfl).mpr h)

/- slices.ContainsFunc[[]levee.patch.change,levee.patch.change]: slots {};  -/
set_option maxRecDepth 100000 in
def D_slices_ContainsFunc_patch_change (a0 : Option Addr) (l0 c0 : Nat) (v1 : Value) (w0 : World) (K : Value → World → Prop) : Prop :=
 Cal Try.prog F_slices_IndexFunc_patch_change #[.slice a0 l0 c0, v1] w0 fun r7 w1 => ∃ n7 : Int, r7 = .int .i64 n7 ∧ K (.bool (decide (n7 ≥ 0))) w1
set_option maxRecDepth 100000 in
theorem C_slices_ContainsFunc_patch_change (a0 : Option Addr) (l0 c0 : Nat) (v1 : Value) (w0 : World) (K : Value → World → Prop) (h : D_slices_ContainsFunc_patch_change a0 l0 c0 v1 w0 K) : Cal Try.prog F_slices_ContainsFunc_patch_change #[.slice a0 l0 c0, v1] w0 K :=
 denF_sound (A := { S := [], ty := [], raw := [] }) mixed Try.func44 (by kernel_rfl) (by kernel_rfl) ((show denF Try.prog _ Try.f44 _ w0 K = D_slices_ContainsFunc_patch_change a0 l0 c0 v1 w0 K by kernel_rfl).mpr h)

/- (levee.patch.Store).may$2: slots {4: ''};  -/
set_option maxRecDepth 100000 in
def D_patch_Store_may_2 (p0 : Option Addr) (v1 : Value) (v2 : Value) (w0 : World) (K : Value → World → Prop) : Prop :=
 Share (fun k => ∃ p6 : Option Addr, Ru (Instr.loadAt 69 v1) (drew w0) (.pointer p6) (drew w0) ∧ Cal Try.prog F_patch_change_meets #[.pointer p0, .pointer p6] (drew w0) fun r7 w1 => ∃ b7 : Bool, r7 = .bool b7 ∧ (bif b7 then ∃ m9 : Option Nat, Ru (Instr.loadAt 64 v2) w1 (.map m9) w1 ∧ ∃ q11 : Addr, (.pointer p0 : Value) = .pointer (some q11) ∧ ∃ n13 : Int, Ru (Instr.loadAt 2 (.pointer (some (Addr.add q11 0)))) w1 (.int .i64 n13) w1 ∧ ∃ b14 : Bool, Ru (Instr.lookup 64 (.map m9) (.int .i64 n13) false) w1 (.bool b14) w1 ∧ k [.bool (!b14)] w1 else k [.bool false] w1)) fun x w2 =>
 ∃ b4 : Bool, nth x 0 = .bool b4 ∧ K (.bool b4) w2
set_option maxRecDepth 100000 in
theorem C_patch_Store_may_2 (p0 : Option Addr) (v1 : Value) (v2 : Value) (w0 : World) (K : Value → World → Prop) (h : D_patch_Store_may_2 p0 v1 v2 w0 K) : Cal Try.prog F_patch_Store_may_2 #[.pointer p0, v1, v2] w0 K :=
 denF_sound (A := { S := [4], ty := [(4, 4)], raw := [] }) mixed Try.func45 (by kernel_rfl) (by kernel_rfl) ((show denF Try.prog _ Try.f45 _ w0 K = D_patch_Store_may_2 p0 v1 v2 w0 K by kernel_rfl).mpr h)

/- (levee.patch.change).meets: slots {4: ''};  -/
set_option maxRecDepth 100000 in
def D_patch_change_meets (p0 : Option Addr) (p1 : Option Addr) (w0 : World) (K : Value → World → Prop) : Prop :=
 Share (fun k => ∃ q6 : Addr, (.pointer p0 : Value) = .pointer (some q6) ∧ ∃ n8 : Int, Ru (Instr.loadAt 3 (.pointer (some (Addr.add q6 2)))) (drew w0) (.int .i64 n8) (drew w0) ∧ ∃ q10 : Addr, (.pointer p1 : Value) = .pointer (some q10) ∧ ∃ n12 : Int, Ru (Instr.loadAt 3 (.pointer (some (Addr.add q10 2)))) (drew w0) (.int .i64 n12) (drew w0) ∧ ∃ q14 : Addr, (.pointer p1 : Value) = .pointer (some q14) ∧ ∃ (a16 : Option Addr) (l16 c16 : Nat), Ru (Instr.loadAt 32 (.pointer (some (Addr.add q14 3)))) (drew w0) (.slice a16 l16 c16) (drew w0) ∧ (bif decide (n8 < (IntKind.i64.wrap (n12 + (l16 : Int)))) then ∃ q22 : Addr, (.pointer p1 : Value) = .pointer (some q22) ∧ ∃ n24 : Int, Ru (Instr.loadAt 3 (.pointer (some (Addr.add q22 2)))) (drew w0) (.int .i64 n24) (drew w0) ∧ ∃ q26 : Addr, (.pointer p0 : Value) = .pointer (some q26) ∧ ∃ n28 : Int, Ru (Instr.loadAt 3 (.pointer (some (Addr.add q26 2)))) (drew w0) (.int .i64 n28) (drew w0) ∧ ∃ q30 : Addr, (.pointer p0 : Value) = .pointer (some q30) ∧ ∃ (a32 : Option Addr) (l32 c32 : Nat), Ru (Instr.loadAt 32 (.pointer (some (Addr.add q30 3)))) (drew w0) (.slice a32 l32 c32) (drew w0) ∧ k [.bool (decide (n24 < (IntKind.i64.wrap (n28 + (l32 : Int)))))] (drew w0) else k [.bool false] (drew w0))) fun x w1 =>
 ∃ b4 : Bool, nth x 0 = .bool b4 ∧ K (.bool b4) w1
set_option maxRecDepth 100000 in
theorem C_patch_change_meets (p0 : Option Addr) (p1 : Option Addr) (w0 : World) (K : Value → World → Prop) (h : D_patch_change_meets p0 p1 w0 K) : Cal Try.prog F_patch_change_meets #[.pointer p0, .pointer p1] w0 K :=
 denF_sound (A := { S := [4], ty := [(4, 4)], raw := [] }) mixed Try.func46 (by kernel_rfl) (by kernel_rfl) ((show denF Try.prog _ Try.f46 _ w0 K = D_patch_change_meets p0 p1 w0 K by kernel_rfl).mpr h)

/- (levee.disk.Disk).Flush: slots {15: ''}; loop over [15] -/
set_option maxRecDepth 100000 in
def D_disk_Disk_Flush (p0 : Option Addr) (w0 : World) (K : Value → World → Prop) : Prop :=
 (bif Option.isNone p0 then
 K (.int .i64 2) w0
 else
 Cal Try.prog F_disk_Disk_goes #[.pointer p0] w0 fun r10 w1 => ∃ b10 : Bool, r10 = .bool b10 ∧ (bif !b10 then
 K (.int .i64 0) w1
 else
 Cal Try.prog F_disk_Disk_Open #[.pointer p0] w1 fun r13 w2 => ∃ (a13 : Option Addr) (l13 c13 : Nat), r13 = .slice a13 l13 c13 ∧ LoopC (fun k x w3 =>
 ∃ n15 : Int, nth x 0 = .int .i64 n15 ∧ (bif decide (n15 < (l13 : Int)) then
 ∃ q17 : Addr, Al (Instr.indexAt 23 (.slice a13 l13 c13) (.int .i64 n15)) (.pointer (some q17)) ∧ ∃ n18 : Int, Ru (Instr.loadAt 3 (.pointer (some q17))) w3 (.int .i64 n18) w3 ∧ ∃ q20 : Addr, (.pointer p0 : Value) = .pointer (some q20) ∧ ∃ (a22 : Option Addr) (l22 c22 : Nat), Ru (Instr.loadAt 50 (.pointer (some (Addr.add q20 0)))) (drew w3) (.slice a22 l22 c22) (drew w3) ∧ Cal Try.prog F_disk_Disk_last #[.pointer p0, .int .i64 n18] (drew w3) fun r26 w4 => ∃ g26 : Array Value, r26 = .agg g26 ∧ Ru (Instr.loadAt 50 (.pointer (some (Addr.add q20 0)))) w4 (.slice a22 l22 c22) w4 ∧ ∃ q27 : Addr, Al (Instr.indexAt 50 (.slice a22 l22 c22) (.int .i64 n18)) (.pointer (some q27)) ∧ ∃ w5 : World, RuU (Instr.storeAt 80 (.pointer (some q27)) (.agg g26)) w4 w5 ∧ k [.int .i64 (IntKind.i64.wrap (n15 + 1))] w5
 else
 ∃ q30 : Addr, (.pointer p0 : Value) = .pointer (some q30) ∧ ∃ m32 : Option Nat, Ru (Instr.loadAt 51 (.pointer (some (Addr.add q30 1)))) w3 (.map m32) w3 ∧ ∃ w6 : World, Ru (Builtin.clear_ #[51] 0 #[.map m32]) w3 (.tuple #[]) w6 ∧ K (.int .i64 0) w6)) [.int .i64 0] w2))
set_option maxRecDepth 100000 in
theorem C_disk_Disk_Flush (p0 : Option Addr) (w0 : World) (K : Value → World → Prop) (h : D_disk_Disk_Flush p0 w0 K) : Cal Try.prog F_disk_Disk_Flush #[.pointer p0] w0 K :=
 denF_sound (A := { S := [15], ty := [(15, 3)], raw := [] }) mixed Try.func47 (by kernel_rfl) (by kernel_rfl) ((show denF Try.prog _ Try.f47 _ w0 K = D_disk_Disk_Flush p0 w0 K by kernel_rfl).mpr h)

/- slices.IndexFunc[[]levee.patch.change,levee.patch.change]: slots {8: ''}; loop over [8] -/
set_option maxRecDepth 100000 in
def D_slices_IndexFunc_patch_change (a0 : Option Addr) (l0 c0 : Nat) (v1 : Value) (w0 : World) (K : Value → World → Prop) : Prop :=
 LoopC (fun k x w1 =>
 ∃ n8 : Int, nth x 0 = .int .i64 n8 ∧ (bif decide (n8 < (l0 : Int)) then
 ∃ q14 : Addr, Al (Instr.indexAt 66 (.slice a0 l0 c0) (.int .i64 n8)) (.pointer (some q14)) ∧ ∃ p15 : Option Addr, Ru (Instr.loadAt 69 (.pointer (some q14))) w1 (.pointer p15) w1 ∧ Dyn Try.prog v1 #[.pointer p15] w1 fun r16 w2 => ∃ b16 : Bool, r16 = .bool b16 ∧ (bif b16 then
 K (.int .i64 n8) w2
 else
 k [.int .i64 (IntKind.i64.wrap (n8 + 1))] w2)
 else
 K (.int .i64 ((-1))) w1)) [.int .i64 0] w0
set_option maxRecDepth 100000 in
theorem C_slices_IndexFunc_patch_change (a0 : Option Addr) (l0 c0 : Nat) (v1 : Value) (w0 : World) (K : Value → World → Prop) (h : D_slices_IndexFunc_patch_change a0 l0 c0 v1 w0 K) : Cal Try.prog F_slices_IndexFunc_patch_change #[.slice a0 l0 c0, v1] w0 K :=
 denF_sound (A := { S := [8], ty := [(8, 3)], raw := [] }) mixed Try.func48 (by kernel_rfl) (by kernel_rfl) ((show denF Try.prog _ Try.f48 _ w0 K = D_slices_IndexFunc_patch_change a0 l0 c0 v1 w0 K by kernel_rfl).mpr h)

/- (levee.cache.Cache).held: slots {};  -/
set_option maxRecDepth 100000 in
def D_cache_Cache_held (p0 : Option Addr) (n1 : Int) (w0 : World) (K : Value → World → Prop) : Prop :=
 (bif Option.isNone p0 then
 K (.tuple #[.pointer none, .int .i64 2]) w0
 else
 ∃ q12 : Addr, (.pointer p0 : Value) = .pointer (some q12) ∧ ∃ m14 : Option Nat, Ru (Instr.loadAt 83 (.pointer (some (Addr.add q12 2)))) w0 (.map m14) w0 ∧ ∃ p16a : Option Addr, ∃ b16b : Bool, Ru (Instr.lookup 83 (.map m14) (.int .i64 n1) true) w0 (.tuple #[.pointer p16a, .bool b16b]) w0 ∧ (bif !b16b then
 K (.tuple #[.pointer none, .int .i64 20]) w0
 else
 K (.tuple #[.pointer p16a, .int .i64 0]) w0))
set_option maxRecDepth 100000 in
theorem C_cache_Cache_held (p0 : Option Addr) (n1 : Int) (w0 : World) (K : Value → World → Prop) (h : D_cache_Cache_held p0 n1 w0 K) : Cal Try.prog F_cache_Cache_held #[.pointer p0, .int .i64 n1] w0 K :=
 denF_sound (A := { S := [], ty := [], raw := [] }) mixed Try.func49 (by kernel_rfl) (by kernel_rfl) ((show denF Try.prog _ Try.f49 _ w0 K = D_cache_Cache_held p0 n1 w0 K by kernel_rfl).mpr h)

/- slices.IndexFunc[[]int64,int64]: slots {8: ''}; loop over [8] -/
set_option maxRecDepth 100000 in
def D_slices_IndexFunc_int64 (a0 : Option Addr) (l0 c0 : Nat) (v1 : Value) (w0 : World) (K : Value → World → Prop) : Prop :=
 LoopC (fun k x w1 =>
 ∃ n8 : Int, nth x 0 = .int .i64 n8 ∧ (bif decide (n8 < (l0 : Int)) then
 ∃ q14 : Addr, Al (Instr.indexAt 33 (.slice a0 l0 c0) (.int .i64 n8)) (.pointer (some q14)) ∧ ∃ n15 : Int, Ru (Instr.loadAt 2 (.pointer (some q14))) w1 (.int .i64 n15) w1 ∧ Dyn Try.prog v1 #[.int .i64 n15] w1 fun r16 w2 => ∃ b16 : Bool, r16 = .bool b16 ∧ (bif b16 then
 K (.int .i64 n8) w2
 else
 k [.int .i64 (IntKind.i64.wrap (n8 + 1))] w2)
 else
 K (.int .i64 ((-1))) w1)) [.int .i64 0] w0
set_option maxRecDepth 100000 in
theorem C_slices_IndexFunc_int64 (a0 : Option Addr) (l0 c0 : Nat) (v1 : Value) (w0 : World) (K : Value → World → Prop) (h : D_slices_IndexFunc_int64 a0 l0 c0 v1 w0 K) : Cal Try.prog F_slices_IndexFunc_int64 #[.slice a0 l0 c0, v1] w0 K :=
 denF_sound (A := { S := [8], ty := [(8, 3)], raw := [] }) mixed Try.func50 (by kernel_rfl) (by kernel_rfl) ((show denF Try.prog _ Try.f50 _ w0 K = D_slices_IndexFunc_int64 a0 l0 c0 v1 w0 K by kernel_rfl).mpr h)

/- levee.num.within: slots {6: ''};  -/
set_option maxRecDepth 100000 in
def D_num_within (a0 : Option Addr) (l0 c0 : Nat) (n1 : Int) (n2 : Int) (w0 : World) (K : Value → World → Prop) : Prop :=
 Share (fun k => (bif decide (n1 ≥ 0) then (bif decide (n2 ≥ 0) then (bif decide (n1 ≤ (l0 : Int)) then k [.bool (decide (n2 ≤ (IntKind.i64.wrap ((l0 : Int) - n1))))] w0 else k [.bool false] w0) else k [.bool false] w0) else k [.bool false] w0)) fun x w1 =>
 ∃ b6 : Bool, nth x 0 = .bool b6 ∧ K (.bool b6) w1
set_option maxRecDepth 100000 in
theorem C_num_within (a0 : Option Addr) (l0 c0 : Nat) (n1 : Int) (n2 : Int) (w0 : World) (K : Value → World → Prop) (h : D_num_within a0 l0 c0 n1 n2 w0 K) : Cal Try.prog F_num_within #[.slice a0 l0 c0, .int .i64 n1, .int .i64 n2] w0 K :=
 denF_sound (A := { S := [6], ty := [(6, 4)], raw := [] }) mixed Try.func51 (by kernel_rfl) (by kernel_rfl) ((show denF Try.prog _ Try.f51 _ w0 K = D_num_within a0 l0 c0 n1 n2 w0 K by kernel_rfl).mpr h)

/- slices.Sort[[]int,int]: slots {};  -/
set_option maxRecDepth 100000 in
def D_slices_Sort_int (a0 : Option Addr) (l0 c0 : Nat) (w0 : World) (K : Value → World → Prop) : Prop :=
 Cal Try.prog F_bits_Len #[.int .u64 (IntKind.u64.wrap (l0 : Int))] w0 fun r9 w1 => ∃ n9 : Int, r9 = .int .i64 n9 ∧ Cal Try.prog F_slices_pdqsortOrdered_int #[.slice a0 l0 c0, .int .i64 0, .int .i64 ((l0 : Int)), .int .i64 n9] w1 fun r10 w2 => r10 = .tuple #[] ∧ K (.tuple #[]) w2
set_option maxRecDepth 100000 in
theorem C_slices_Sort_int (a0 : Option Addr) (l0 c0 : Nat) (w0 : World) (K : Value → World → Prop) (h : D_slices_Sort_int a0 l0 c0 w0 K) : Cal Try.prog F_slices_Sort_int #[.slice a0 l0 c0] w0 K :=
 denF_sound (A := { S := [], ty := [], raw := [] }) mixed Try.func52 (by kernel_rfl) (by kernel_rfl) ((show denF Try.prog _ Try.f52 _ w0 K = D_slices_Sort_int a0 l0 c0 w0 K by kernel_rfl).mpr h)

/- slices.Contains[[]int,int]: slots {};  -/
set_option maxRecDepth 100000 in
def D_slices_Contains_int (a0 : Option Addr) (l0 c0 : Nat) (n1 : Int) (w0 : World) (K : Value → World → Prop) : Prop :=
 Cal Try.prog F_slices_Index_int #[.slice a0 l0 c0, .int .i64 n1] w0 fun r7 w1 => ∃ n7 : Int, r7 = .int .i64 n7 ∧ K (.bool (decide (n7 ≥ 0))) w1
set_option maxRecDepth 100000 in
theorem C_slices_Contains_int (a0 : Option Addr) (l0 c0 : Nat) (n1 : Int) (w0 : World) (K : Value → World → Prop) (h : D_slices_Contains_int a0 l0 c0 n1 w0 K) : Cal Try.prog F_slices_Contains_int #[.slice a0 l0 c0, .int .i64 n1] w0 K :=
 denF_sound (A := { S := [], ty := [], raw := [] }) mixed Try.func53 (by kernel_rfl) (by kernel_rfl) ((show denF Try.prog _ Try.f53 _ w0 K = D_slices_Contains_int a0 l0 c0 n1 w0 K by kernel_rfl).mpr h)

/- slices.DeleteFunc[[]int,int]: slots {5: 'i', 6: 'j'}; loop over [5, 6] -/
set_option maxRecDepth 100000 in
def D_slices_DeleteFunc_int (a0 : Option Addr) (l0 c0 : Nat) (v1 : Value) (w0 : World) (K : Value → World → Prop) : Prop :=
 Cal Try.prog F_slices_IndexFunc_int #[.slice a0 l0 c0, v1] w0 fun r10 w1 => ∃ n10 : Int, r10 = .int .i64 n10 ∧ (bif n10 == (-1) then
 K (.slice a0 l0 c0) w1
 else
 LoopC (fun k x w2 =>
 ∃ n6 : Int, nth x 1 = .int .i64 n6 ∧ (bif decide (n6 < (l0 : Int)) then
 ∃ q24 : Addr, Al (Instr.indexAt 23 (.slice a0 l0 c0) (.int .i64 n6)) (.pointer (some q24)) ∧ ∃ n25 : Int, Ru (Instr.loadAt 3 (.pointer (some q24))) w2 (.int .i64 n25) w2 ∧ Dyn Try.prog v1 #[.int .i64 n25] w2 fun r28 w3 => ∃ b28 : Bool, r28 = .bool b28 ∧ Share (fun k_2 => (bif !b28 then
 ∃ n5 : Int, nth x 0 = .int .i64 n5 ∧ ∃ q33 : Addr, Al (Instr.indexAt 23 (.slice a0 l0 c0) (.int .i64 n5)) (.pointer (some q33)) ∧ ∃ w4 : World, RuU (Instr.storeAt 3 (.pointer (some q33)) (.int .i64 n25)) w3 w4 ∧ k_2 [.int .i64 (IntKind.i64.wrap (n5 + 1))] w4
 else
 k_2 [nth x 0] w3)) fun x_2 w5 =>
 k [nth x_2 0, .int .i64 (IntKind.i64.wrap (n6 + 1))] w5
 else
 ∃ n5_2 : Int, nth x 0 = .int .i64 n5_2 ∧ ∃ (a38 : Option Addr) (l38 c38 : Nat), Al (Instr.sliceAt 23 (.slice a0 l0 c0) (some (.int .i64 n5_2)) none none) (.slice a38 l38 c38) ∧ ∃ w6 : World, Ru (Builtin.clear_ #[23] 0 #[.slice a38 l38 c38]) w2 (.tuple #[]) w6 ∧ ∃ (a41 : Option Addr) (l41 c41 : Nat), Al (Instr.sliceAt 23 (.slice a0 l0 c0) none (some (.int .i64 n5_2)) none) (.slice a41 l41 c41) ∧ K (.slice a41 l41 c41) w6)) [.int .i64 n10, .int .i64 (IntKind.i64.wrap (n10 + 1))] w1)
set_option maxRecDepth 100000 in
theorem C_slices_DeleteFunc_int (a0 : Option Addr) (l0 c0 : Nat) (v1 : Value) (w0 : World) (K : Value → World → Prop) (h : D_slices_DeleteFunc_int a0 l0 c0 v1 w0 K) : Cal Try.prog F_slices_DeleteFunc_int #[.slice a0 l0 c0, v1] w0 K :=
 denF_sound (A := { S := [5, 6], ty := [(5, 3), (6, 3)], raw := [] }) mixed Try.func54 (by kernel_rfl) (by kernel_rfl) ((show denF Try.prog _ Try.f54 _ w0 K = D_slices_DeleteFunc_int a0 l0 c0 v1 w0 K by kernel_rfl).mpr h)

/- (levee.cache.Cache).ask$1: slots {};  -/
set_option maxRecDepth 100000 in
def D_cache_Cache_ask_1 (n0 : Int) (v1 : Value) (w0 : World) (K : Value → World → Prop) : Prop :=
 ∃ n5 : Int, Ru (Instr.loadAt 3 v1) w0 (.int .i64 n5) w0 ∧ K (.bool (n0 == n5)) w0
set_option maxRecDepth 100000 in
theorem C_cache_Cache_ask_1 (n0 : Int) (v1 : Value) (w0 : World) (K : Value → World → Prop) (h : D_cache_Cache_ask_1 n0 v1 w0 K) : Cal Try.prog F_cache_Cache_ask_1 #[.int .i64 n0, v1] w0 K :=
 denF_sound (A := { S := [], ty := [], raw := [] }) mixed Try.func55 (by kernel_rfl) (by kernel_rfl) ((show denF Try.prog _ Try.f55 _ w0 K = D_cache_Cache_ask_1 n0 v1 w0 K by kernel_rfl).mpr h)

/- (levee.cache.Cache).room: slots {};  -/
set_option maxRecDepth 100000 in
def D_cache_Cache_room (p0 : Option Addr) (w0 : World) (K : Value → World → Prop) : Prop :=
 ∃ q1 : Addr, ∃ w1 : World, Ru (Instr.box 54 (.pointer p0)) w0 (.pointer (some q1)) w1 ∧ ∃ p4 : Option Addr, Ru (Instr.loadAt 54 (.pointer (some q1))) (drew w1) (.pointer p4) (drew w1) ∧ ∃ q5 : Addr, (.pointer p4 : Value) = .pointer (some q5) ∧ ∃ (a7 : Option Addr) (l7 c7 : Nat), Ru (Instr.loadAt 23 (.pointer (some (Addr.add q5 3)))) (drew w1) (.slice a7 l7 c7) (drew w1) ∧ ∃ p9 : Option Addr, Ru (Instr.loadAt 54 (.pointer (some q1))) (drew w1) (.pointer p9) (drew w1) ∧ ∃ q10 : Addr, (.pointer p9 : Value) = .pointer (some q10) ∧ ∃ n12 : Int, Ru (Instr.loadAt 3 (.pointer (some (Addr.add q10 1)))) (drew w1) (.int .i64 n12) (drew w1) ∧ (bif decide ((l7 : Int) < n12) then
 K (.int .i64 0) (drew w1)
 else
 ∃ p14 : Option Addr, Ru (Instr.loadAt 54 (.pointer (some q1))) (drew w1) (.pointer p14) (drew w1) ∧ ∃ q15 : Addr, (.pointer p14 : Value) = .pointer (some q15) ∧ ∃ (a17 : Option Addr) (l17 c17 : Nat), Ru (Instr.loadAt 23 (.pointer (some (Addr.add q15 3)))) (drew w1) (.slice a17 l17 c17) (drew w1) ∧ Cal Try.prog F_slices_IndexFunc_int #[.slice a17 l17 c17, .func (.func F_cache_Cache_room_1) #[] #[.pointer (some q1)]] (drew w1) fun r19 w2 => ∃ n19 : Int, r19 = .int .i64 n19 ∧ (bif decide (n19 < 0) then
 K (.int .i64 5) w2
 else
 ∃ p22 : Option Addr, Ru (Instr.loadAt 54 (.pointer (some q1))) (drew w2) (.pointer p22) (drew w2) ∧ ∃ p23 : Option Addr, Ru (Instr.loadAt 54 (.pointer (some q1))) (drew w2) (.pointer p23) (drew w2) ∧ ∃ q24 : Addr, (.pointer p23 : Value) = .pointer (some q24) ∧ ∃ (a26 : Option Addr) (l26 c26 : Nat), Ru (Instr.loadAt 23 (.pointer (some (Addr.add q24 3)))) (drew w2) (.slice a26 l26 c26) (drew w2) ∧ ∃ q28 : Addr, Al (Instr.indexAt 23 (.slice a26 l26 c26) (.int .i64 n19)) (.pointer (some q28)) ∧ ∃ n29 : Int, Ru (Instr.loadAt 3 (.pointer (some q28))) (drew w2) (.int .i64 n29) (drew w2) ∧ Cal Try.prog F_cache_Cache_out #[.pointer p22, .int .i64 n29] (drew w2) fun r30 w3 => r30 = .tuple #[] ∧ K (.int .i64 0) w3))
set_option maxRecDepth 100000 in
theorem C_cache_Cache_room (p0 : Option Addr) (w0 : World) (K : Value → World → Prop) (h : D_cache_Cache_room p0 w0 K) : Cal Try.prog F_cache_Cache_room #[.pointer p0] w0 K :=
 denF_sound (A := { S := [], ty := [], raw := [] }) mixed Try.func56 (by kernel_rfl) (by kernel_rfl) ((show denF Try.prog _ Try.f56 _ w0 K = D_cache_Cache_room p0 w0 K by kernel_rfl).mpr h)

/- (levee.disk.Disk).goes: slots {};  -/
set_option maxRecDepth 100000 in
def D_disk_Disk_goes (p0 : Option Addr) (w0 : World) (K : Value → World → Prop) : Prop :=
 ∃ q4 : Addr, (.pointer p0 : Value) = .pointer (some q4) ∧ ∃ n6 : Int, Ru (Instr.loadAt 3 (.pointer (some (Addr.add q4 2)))) w0 (.int .i64 n6) w0 ∧ (bif n6 == 0 then
 K (.bool false) w0
 else
 ∃ q10 : Addr, (.pointer p0 : Value) = .pointer (some q10) ∧ ∃ n12 : Int, Ru (Instr.loadAt 3 (.pointer (some (Addr.add q10 2)))) w0 (.int .i64 n12) w0 ∧ ∃ q15 : Addr, (.pointer p0 : Value) = .pointer (some q15) ∧ ∃ w1 : World, RuU (Instr.storeAt 3 (.pointer (some (Addr.add q15 2))) (.int .i64 (if (-1) > (IntKind.i64.wrap (n12 - 1)) then (-1) else (IntKind.i64.wrap (n12 - 1))))) w0 w1 ∧ K (.bool true) w1)
set_option maxRecDepth 100000 in
theorem C_disk_Disk_goes (p0 : Option Addr) (w0 : World) (K : Value → World → Prop) (h : D_disk_Disk_goes p0 w0 K) : Cal Try.prog F_disk_Disk_goes #[.pointer p0] w0 K :=
 denF_sound (A := { S := [], ty := [], raw := [] }) mixed Try.func57 (by kernel_rfl) (by kernel_rfl) ((show denF Try.prog _ Try.f57 _ w0 K = D_disk_Disk_goes p0 w0 K by kernel_rfl).mpr h)

/- slices.pdqsortOrdered[int]: slots {1: 'a', 2: 'b', 3: 'limit', 8: 'wasBalanced', 9: 'wasPartitioned', 11: 'pivot', 12: 'hint', 68: '', 87: ''}; loop over [1, 2, 3, 8, 9, 11, 12, 68, 87] -/
set_option maxRecDepth 100000 in
def D_slices_pdqsortOrdered_int (a0 : Option Addr) (l0 c0 : Nat) (n1 : Int) (n2 : Int) (n3 : Int) (w0 : World) (K : Value → World → Prop) : Prop :=
 LoopC (fun k x w1 =>
 Share (fun k_2 => ∃ n2_2 : Int, nth x 1 = .int .i64 n2_2 ∧ ∃ n1_2 : Int, nth x 0 = .int .i64 n1_2 ∧ (bif decide ((IntKind.i64.wrap (n2_2 - n1_2)) ≤ 12) then
 Cal Try.prog F_slices_insertionSortOrdered_int #[.slice a0 l0 c0, .int .i64 n1_2, .int .i64 n2_2] w1 fun r27 w2 => r27 = .tuple #[] ∧ K (.tuple #[]) w2
 else
 ∃ n3_2 : Int, nth x 2 = .int .i64 n3_2 ∧ (bif n3_2 == 0 then
 Cal Try.prog F_slices_heapSortOrdered_int #[.slice a0 l0 c0, .int .i64 n1_2, .int .i64 n2_2] w1 fun r33 w3 => r33 = .tuple #[] ∧ K (.tuple #[]) w3
 else
 ∃ b8 : Bool, nth x 3 = .bool b8 ∧ Share (fun k_3 => (bif !b8 then
 Cal Try.prog F_slices_breakPatternsOrdered_int #[.slice a0 l0 c0, .int .i64 n1_2, .int .i64 n2_2] w1 fun r39 w4 => r39 = .tuple #[] ∧ k_3 [.int .i64 (IntKind.i64.wrap (n3_2 - 1))] w4
 else
 k_3 [.int .i64 n3_2] w1)) fun x_3 w5 =>
 Cal Try.prog F_slices_choosePivotOrdered_int #[.slice a0 l0 c0, .int .i64 n1_2, .int .i64 n2_2] w5 fun r46 w6 => ∃ n46a : Int, ∃ n46b : Int, r46 = .tuple #[.int .i64 n46a, .int .i64 n46b] ∧ Share (fun k_4 => (bif n46b == 2 then
 Cal Try.prog F_slices_reverseRangeOrdered_int #[.slice a0 l0 c0, .int .i64 n1_2, .int .i64 n2_2] w6 fun r54 w7 => r54 = .tuple #[] ∧ k_4 [.int .i64 (IntKind.i64.wrap ((IntKind.i64.wrap (n2_2 - 1)) - (IntKind.i64.wrap (n46a - n1_2)))), .int .i64 1] w7
 else
 k_4 [.int .i64 n46a, .int .i64 n46b] w6)) fun x_4 w8 =>
 Share (fun k_5 => (bif b8 then ∃ b9 : Bool, nth x 4 = .bool b9 ∧ (bif b9 then ∃ n12 : Int, nth x_4 1 = .int .i64 n12 ∧ k_5 [.bool (n12 == 1)] w8 else k_5 [.bool false] w8) else k_5 [.bool false] w8)) fun x_5 w9 =>
 ∃ b68 : Bool, nth x_5 0 = .bool b68 ∧ Share (fun k_6 => (bif b68 then
 Cal Try.prog F_slices_partialInsertionSortOrdered_int #[.slice a0 l0 c0, .int .i64 n1_2, .int .i64 n2_2] w9 fun r72 w10 => ∃ b72 : Bool, r72 = .bool b72 ∧ (bif b72 then
 K (.tuple #[]) w10
 else
 k_6 [] w10)
 else
 k_6 [] w9)) fun x_6 w11 =>
 Share (fun k_7 => (bif decide (n1_2 > 0) then ∃ q79 : Addr, Al (Instr.indexAt 23 (.slice a0 l0 c0) (.int .i64 (IntKind.i64.wrap (n1_2 - 1)))) (.pointer (some q79)) ∧ ∃ n80 : Int, Ru (Instr.loadAt 3 (.pointer (some q79))) (drew w11) (.int .i64 n80) (drew w11) ∧ ∃ n11 : Int, nth x_4 0 = .int .i64 n11 ∧ ∃ q83 : Addr, Al (Instr.indexAt 23 (.slice a0 l0 c0) (.int .i64 n11)) (.pointer (some q83)) ∧ ∃ n84 : Int, Ru (Instr.loadAt 3 (.pointer (some q83))) (drew w11) (.int .i64 n84) (drew w11) ∧ Cal Try.prog F_cmp_Less_int #[.int .i64 n80, .int .i64 n84] (drew w11) fun r85 w12 => ∃ b85 : Bool, r85 = .bool b85 ∧ k_7 [.bool (!b85)] w12 else k_7 [.bool false] (drew w11))) fun x_7 w13 =>
 ∃ b87 : Bool, nth x_7 0 = .bool b87 ∧ (bif b87 then
 ∃ n11_2 : Int, nth x_4 0 = .int .i64 n11_2 ∧ Cal Try.prog F_slices_partitionEqualOrdered_int #[.slice a0 l0 c0, .int .i64 n1_2, .int .i64 n2_2, .int .i64 n11_2] w13 fun r92 w14 => ∃ n92 : Int, r92 = .int .i64 n92 ∧ k_2 [.int .i64 n92, .int .i64 n2_2, nth x_3 0, .bool b8, nth x 4, .int .i64 n11_2, nth x_4 1, .bool b68, .bool b87] w14
 else
 ∃ n11_3 : Int, nth x_4 0 = .int .i64 n11_3 ∧ Cal Try.prog F_slices_partitionOrdered_int #[.slice a0 l0 c0, .int .i64 n1_2, .int .i64 n2_2, .int .i64 n11_3] w13 fun r99 w15 => ∃ n99a : Int, ∃ b99b : Bool, r99 = .tuple #[.int .i64 n99a, .bool b99b] ∧ Share (fun k_8 => (bif decide ((IntKind.i64.wrap (n99a - n1_2)) < (IntKind.i64.wrap (n2_2 - n99a))) then
 ∃ n3_3 : Int, nth x_3 0 = .int .i64 n3_3 ∧ Cal Try.prog F_slices_pdqsortOrdered_int #[.slice a0 l0 c0, .int .i64 n1_2, .int .i64 n99a, .int .i64 n3_3] w15 fun r121 w16 => r121 = .tuple #[] ∧ k_8 [.int .i64 (IntKind.i64.wrap (n99a + 1)), .int .i64 n2_2, .bool (decide ((IntKind.i64.wrap (n99a - n1_2)) ≥ (IntKind.i64.wrap (Int.tdiv (IntKind.i64.wrap (n2_2 - n1_2)) 8))))] w16
 else
 ∃ n3_4 : Int, nth x_3 0 = .int .i64 n3_4 ∧ Cal Try.prog F_slices_pdqsortOrdered_int #[.slice a0 l0 c0, .int .i64 (IntKind.i64.wrap (n99a + 1)), .int .i64 n2_2, .int .i64 n3_4] w15 fun r132 w17 => r132 = .tuple #[] ∧ k_8 [.int .i64 n1_2, .int .i64 n99a, .bool (decide ((IntKind.i64.wrap (n2_2 - n99a)) ≥ (IntKind.i64.wrap (Int.tdiv (IntKind.i64.wrap (n2_2 - n1_2)) 8))))] w17)) fun x_8 w18 =>
 k_2 [nth x_8 0, nth x_8 1, nth x_3 0, nth x_8 2, .bool b99b, .int .i64 n11_3, nth x_4 1, .bool b68, .bool b87] w18)))) fun x_2 w19 =>
 k [nth x_2 0, nth x_2 1, nth x_2 2, nth x_2 3, nth x_2 4, nth x_2 5, nth x_2 6, nth x_2 7, nth x_2 8] w19) [.int .i64 n1, .int .i64 n2, .int .i64 n3, .bool true, .bool true, undef, undef, undef, undef] w0
set_option maxRecDepth 100000 in
theorem C_slices_pdqsortOrdered_int (a0 : Option Addr) (l0 c0 : Nat) (n1 : Int) (n2 : Int) (n3 : Int) (w0 : World) (K : Value → World → Prop) (h : D_slices_pdqsortOrdered_int a0 l0 c0 n1 n2 n3 w0 K) : Cal Try.prog F_slices_pdqsortOrdered_int #[.slice a0 l0 c0, .int .i64 n1, .int .i64 n2, .int .i64 n3] w0 K :=
 denF_sound (A := { S := [1, 2, 3, 8, 9, 11, 12, 68, 87], ty := [(1, 3), (2, 3), (3, 3), (8, 4), (9, 4), (11, 3), (12, 110), (68, 4), (87, 4)], raw := [] }) mixed Try.func58 (by kernel_rfl) (by kernel_rfl) ((show denF Try.prog _ Try.f58 _ w0 K = D_slices_pdqsortOrdered_int a0 l0 c0 n1 n2 n3 w0 K by kernel_rfl).mpr h)

/- math.bits.Len: slots {};  -/
set_option maxRecDepth 100000 in
def D_bits_Len (n0 : Int) (w0 : World) (K : Value → World → Prop) : Prop :=
 Cal Try.prog F_bits_Len64 #[.int .u64 n0] w0 fun r7 w1 => ∃ n7 : Int, r7 = .int .i64 n7 ∧ K (.int .i64 n7) w1
set_option maxRecDepth 100000 in
theorem C_bits_Len (n0 : Int) (w0 : World) (K : Value → World → Prop) (h : D_bits_Len n0 w0 K) : Cal Try.prog F_bits_Len #[.int .u64 n0] w0 K :=
 denF_sound (A := { S := [], ty := [], raw := [] }) mixed Try.func59 (by kernel_rfl) (by kernel_rfl) ((show denF Try.prog _ Try.f59 _ w0 K = D_bits_Len n0 w0 K by kernel_rfl).mpr h)

/- slices.Index[[]int,int]: slots {8: ''}; loop over [8] -/
set_option maxRecDepth 100000 in
def D_slices_Index_int (a0 : Option Addr) (l0 c0 : Nat) (n1 : Int) (w0 : World) (K : Value → World → Prop) : Prop :=
 LoopC (fun k x w1 =>
 ∃ n8 : Int, nth x 0 = .int .i64 n8 ∧ (bif decide (n8 < (l0 : Int)) then
 ∃ q14 : Addr, Al (Instr.indexAt 23 (.slice a0 l0 c0) (.int .i64 n8)) (.pointer (some q14)) ∧ ∃ n15 : Int, Ru (Instr.loadAt 3 (.pointer (some q14))) w1 (.int .i64 n15) w1 ∧ (bif n1 == n15 then
 K (.int .i64 n8) w1
 else
 k [.int .i64 (IntKind.i64.wrap (n8 + 1))] w1)
 else
 K (.int .i64 ((-1))) w1)) [.int .i64 0] w0
set_option maxRecDepth 100000 in
theorem C_slices_Index_int (a0 : Option Addr) (l0 c0 : Nat) (n1 : Int) (w0 : World) (K : Value → World → Prop) (h : D_slices_Index_int a0 l0 c0 n1 w0 K) : Cal Try.prog F_slices_Index_int #[.slice a0 l0 c0, .int .i64 n1] w0 K :=
 denF_sound (A := { S := [8], ty := [(8, 3)], raw := [] }) mixed Try.func60 (by kernel_rfl) (by kernel_rfl) ((show denF Try.prog _ Try.f60 _ w0 K = D_slices_Index_int a0 l0 c0 n1 w0 K by kernel_rfl).mpr h)

/- slices.IndexFunc[[]int,int]: slots {8: ''}; loop over [8] -/
set_option maxRecDepth 100000 in
def D_slices_IndexFunc_int (a0 : Option Addr) (l0 c0 : Nat) (v1 : Value) (w0 : World) (K : Value → World → Prop) : Prop :=
 LoopC (fun k x w1 =>
 ∃ n8 : Int, nth x 0 = .int .i64 n8 ∧ (bif decide (n8 < (l0 : Int)) then
 ∃ q14 : Addr, Al (Instr.indexAt 23 (.slice a0 l0 c0) (.int .i64 n8)) (.pointer (some q14)) ∧ ∃ n15 : Int, Ru (Instr.loadAt 3 (.pointer (some q14))) w1 (.int .i64 n15) w1 ∧ Dyn Try.prog v1 #[.int .i64 n15] w1 fun r16 w2 => ∃ b16 : Bool, r16 = .bool b16 ∧ (bif b16 then
 K (.int .i64 n8) w2
 else
 k [.int .i64 (IntKind.i64.wrap (n8 + 1))] w2)
 else
 K (.int .i64 ((-1))) w1)) [.int .i64 0] w0
set_option maxRecDepth 100000 in
theorem C_slices_IndexFunc_int (a0 : Option Addr) (l0 c0 : Nat) (v1 : Value) (w0 : World) (K : Value → World → Prop) (h : D_slices_IndexFunc_int a0 l0 c0 v1 w0 K) : Cal Try.prog F_slices_IndexFunc_int #[.slice a0 l0 c0, v1] w0 K :=
 denF_sound (A := { S := [8], ty := [(8, 3)], raw := [] }) mixed Try.func61 (by kernel_rfl) (by kernel_rfl) ((show denF Try.prog _ Try.f61 _ w0 K = D_slices_IndexFunc_int a0 l0 c0 v1 w0 K by kernel_rfl).mpr h)

/- (levee.cache.Cache).room$1: slots {3: ''};  -/
set_option maxRecDepth 100000 in
def D_cache_Cache_room_1 (n0 : Int) (v1 : Value) (w0 : World) (K : Value → World → Prop) : Prop :=
 Share (fun k => ∃ p4 : Option Addr, Ru (Instr.loadAt 54 v1) w0 (.pointer p4) w0 ∧ ∃ q5 : Addr, (.pointer p4 : Value) = .pointer (some q5) ∧ ∃ m7 : Option Nat, Ru (Instr.loadAt 83 (.pointer (some (Addr.add q5 2)))) w0 (.map m7) w0 ∧ ∃ p9 : Option Addr, Ru (Instr.lookup 83 (.map m7) (.int .i64 n0) false) w0 (.pointer p9) w0 ∧ ∃ q10 : Addr, (.pointer p9 : Value) = .pointer (some q10) ∧ ∃ n12 : Int, Ru (Instr.loadAt 3 (.pointer (some (Addr.add q10 1)))) w0 (.int .i64 n12) w0 ∧ (bif n12 == 0 then ∃ p15 : Option Addr, Ru (Instr.loadAt 54 v1) w0 (.pointer p15) w0 ∧ Cal Try.prog F_cache_Cache_dirty #[.pointer p15, .int .i64 n0] w0 fun r17 w1 => ∃ b17 : Bool, r17 = .bool b17 ∧ k [.bool (!b17)] w1 else k [.bool false] w0)) fun x w2 =>
 ∃ b3 : Bool, nth x 0 = .bool b3 ∧ K (.bool b3) w2
set_option maxRecDepth 100000 in
theorem C_cache_Cache_room_1 (n0 : Int) (v1 : Value) (w0 : World) (K : Value → World → Prop) (h : D_cache_Cache_room_1 n0 v1 w0 K) : Cal Try.prog F_cache_Cache_room_1 #[.int .i64 n0, v1] w0 K :=
 denF_sound (A := { S := [3], ty := [(3, 4)], raw := [] }) mixed Try.func62 (by kernel_rfl) (by kernel_rfl) ((show denF Try.prog _ Try.f62 _ w0 K = D_cache_Cache_room_1 n0 v1 w0 K by kernel_rfl).mpr h)

/- (levee.cache.Cache).dirty: slots {};  -/
set_option maxRecDepth 100000 in
def D_cache_Cache_dirty (p0 : Option Addr) (n1 : Int) (w0 : World) (K : Value → World → Prop) : Prop :=
 ∃ q11 : Addr, (.pointer p0 : Value) = .pointer (some q11) ∧ ∃ p13 : Option Addr, Ru (Instr.loadAt 24 (.pointer (some (Addr.add q11 0)))) w0 (.pointer p13) w0 ∧ Cal Try.prog F_disk_Disk_Read #[.pointer p13, .int .i64 n1] w0 fun r15 w1 => ∃ (a15a : Option Addr) (l15a c15a : Nat), ∃ n15b : Int, r15 = .tuple #[.slice a15a l15a c15a, .int .i64 n15b] ∧ ∃ q21 : Addr, (.pointer p0 : Value) = .pointer (some q21) ∧ ∃ m23 : Option Nat, Ru (Instr.loadAt 83 (.pointer (some (Addr.add q21 2)))) w1 (.map m23) w1 ∧ ∃ p25 : Option Addr, Ru (Instr.lookup 83 (.map m23) (.int .i64 n1) false) w1 (.pointer p25) w1 ∧ ∃ q26 : Addr, (.pointer p25 : Value) = .pointer (some q26) ∧ ∃ (a29 : Option Addr) (l29 c29 : Nat), Ru (Instr.loadAt 32 (.pointer (some (Addr.add (Addr.add q26 0) 0)))) w1 (.slice a29 l29 c29) w1 ∧ Cal Try.prog F_num_Diff #[.slice a15a l15a c15a, .slice a29 l29 c29] w1 fun r30 w2 => ∃ n30a : Int, ∃ n30b : Int, r30 = .tuple #[.int .i64 n30a, .int .i64 n30b] ∧ K (.bool (decide (n30a ≥ 0))) w2
set_option maxRecDepth 100000 in
theorem C_cache_Cache_dirty (p0 : Option Addr) (n1 : Int) (w0 : World) (K : Value → World → Prop) (h : D_cache_Cache_dirty p0 n1 w0 K) : Cal Try.prog F_cache_Cache_dirty #[.pointer p0, .int .i64 n1] w0 K :=
 denF_sound (A := { S := [], ty := [], raw := [] }) mixed Try.func63 (by kernel_rfl) (by kernel_rfl) ((show denF Try.prog _ Try.f63 _ w0 K = D_cache_Cache_dirty p0 n1 w0 K by kernel_rfl).mpr h)

/- (levee.cache.Cache).out: slots {};  -/
set_option maxRecDepth 100000 in
def D_cache_Cache_out (p0 : Option Addr) (n1 : Int) (w0 : World) (K : Value → World → Prop) : Prop :=
 ∃ q3 : Addr, ∃ w1 : World, Ru (Instr.box 3 (.int .i64 n1)) w0 (.pointer (some q3)) w1 ∧ ∃ q5 : Addr, (.pointer p0 : Value) = .pointer (some q5) ∧ ∃ m7 : Option Nat, Ru (Instr.loadAt 83 (.pointer (some (Addr.add q5 2)))) (drew w1) (.map m7) (drew w1) ∧ ∃ n8 : Int, Ru (Instr.loadAt 3 (.pointer (some q3))) (drew w1) (.int .i64 n8) (drew w1) ∧ ∃ w2 : World, Ru (Builtin.delete_ #[83, 100] 0 #[.map m7, .int .i64 n8]) (drew w1) (.tuple #[]) w2 ∧ ∃ q11 : Addr, (.pointer p0 : Value) = .pointer (some q11) ∧ ∃ (a13 : Option Addr) (l13 c13 : Nat), Ru (Instr.loadAt 23 (.pointer (some (Addr.add q11 3)))) w2 (.slice a13 l13 c13) w2 ∧ Cal Try.prog F_slices_DeleteFunc_int #[.slice a13 l13 c13, .func (.func F_cache_Cache_out_1) #[] #[.pointer (some q3)]] w2 fun r15 w3 => ∃ (a15 : Option Addr) (l15 c15 : Nat), r15 = .slice a15 l15 c15 ∧ ∃ q16 : Addr, (.pointer p0 : Value) = .pointer (some q16) ∧ ∃ w4 : World, RuU (Instr.storeAt 23 (.pointer (some (Addr.add q16 3))) (.slice a15 l15 c15)) w3 w4 ∧ K (.tuple #[]) w4
set_option maxRecDepth 100000 in
theorem C_cache_Cache_out (p0 : Option Addr) (n1 : Int) (w0 : World) (K : Value → World → Prop) (h : D_cache_Cache_out p0 n1 w0 K) : Cal Try.prog F_cache_Cache_out #[.pointer p0, .int .i64 n1] w0 K :=
 denF_sound (A := { S := [], ty := [], raw := [] }) mixed Try.func64 (by kernel_rfl) (by kernel_rfl) ((show denF Try.prog _ Try.f64 _ w0 K = D_cache_Cache_out p0 n1 w0 K by kernel_rfl).mpr h)

/- slices.insertionSortOrdered[int]: slots {6: 'i', 7: 'j', 30: ''}; loop over [7, 30]; loop over [6, 7, 30] -/
set_option maxRecDepth 100000 in
def D_slices_insertionSortOrdered_int (a0 : Option Addr) (l0 c0 : Nat) (n1 : Int) (n2 : Int) (w0 : World) (K : Value → World → Prop) : Prop :=
 LoopC (fun k x w1 =>
 ∃ n6 : Int, nth x 0 = .int .i64 n6 ∧ (bif decide (n6 < n2) then
 LoopC (fun k_2 x_2 w2 =>
 Share (fun k_3 => ∃ n7 : Int, nth x_2 0 = .int .i64 n7 ∧ (bif decide (n7 > n1) then ∃ q22 : Addr, Al (Instr.indexAt 23 (.slice a0 l0 c0) (.int .i64 n7)) (.pointer (some q22)) ∧ ∃ n23 : Int, Ru (Instr.loadAt 3 (.pointer (some q22))) (drew w2) (.int .i64 n23) (drew w2) ∧ ∃ q27 : Addr, Al (Instr.indexAt 23 (.slice a0 l0 c0) (.int .i64 (IntKind.i64.wrap (n7 - 1)))) (.pointer (some q27)) ∧ ∃ n28 : Int, Ru (Instr.loadAt 3 (.pointer (some q27))) (drew w2) (.int .i64 n28) (drew w2) ∧ Cal Try.prog F_cmp_Less_int #[.int .i64 n23, .int .i64 n28] (drew w2) fun r29 w3 => ∃ b29 : Bool, r29 = .bool b29 ∧ k_3 [.bool b29] w3 else k_3 [.bool false] (drew w2))) fun x_3 w4 =>
 ∃ b30 : Bool, nth x_3 0 = .bool b30 ∧ (bif b30 then
 ∃ n7_2 : Int, nth x_2 0 = .int .i64 n7_2 ∧ ∃ q41 : Addr, Al (Instr.indexAt 23 (.slice a0 l0 c0) (.int .i64 (IntKind.i64.wrap (n7_2 - 1)))) (.pointer (some q41)) ∧ ∃ n42 : Int, Ru (Instr.loadAt 3 (.pointer (some q41))) (drew w4) (.int .i64 n42) (drew w4) ∧ ∃ q45 : Addr, Al (Instr.indexAt 23 (.slice a0 l0 c0) (.int .i64 n7_2)) (.pointer (some q45)) ∧ ∃ n46 : Int, Ru (Instr.loadAt 3 (.pointer (some q45))) (drew w4) (.int .i64 n46) (drew w4) ∧ ∃ q47 : Addr, Al (Instr.indexAt 23 (.slice a0 l0 c0) (.int .i64 n7_2)) (.pointer (some q47)) ∧ ∃ w5 : World, RuU (Instr.storeAt 3 (.pointer (some q47)) (.int .i64 n42)) (drew w4) w5 ∧ ∃ q48 : Addr, Al (Instr.indexAt 23 (.slice a0 l0 c0) (.int .i64 (IntKind.i64.wrap (n7_2 - 1)))) (.pointer (some q48)) ∧ ∃ w6 : World, RuU (Instr.storeAt 3 (.pointer (some q48)) (.int .i64 n46)) w5 w6 ∧ k_2 [.int .i64 (IntKind.i64.wrap (n7_2 - 1)), .bool b30] w6
 else
 k [.int .i64 (IntKind.i64.wrap (n6 + 1)), nth x_2 0, .bool b30] w4)) [.int .i64 n6, nth x 2] w1
 else
 K (.tuple #[]) w1)) [.int .i64 (IntKind.i64.wrap (n1 + 1)), undef, undef] w0
set_option maxRecDepth 100000 in
theorem C_slices_insertionSortOrdered_int (a0 : Option Addr) (l0 c0 : Nat) (n1 : Int) (n2 : Int) (w0 : World) (K : Value → World → Prop) (h : D_slices_insertionSortOrdered_int a0 l0 c0 n1 n2 w0 K) : Cal Try.prog F_slices_insertionSortOrdered_int #[.slice a0 l0 c0, .int .i64 n1, .int .i64 n2] w0 K :=
 denF_sound (A := { S := [6, 7, 30], ty := [(6, 3), (7, 3), (30, 4)], raw := [] }) mixed Try.func65 (by kernel_rfl) (by kernel_rfl) ((show denF Try.prog _ Try.f65 _ w0 K = D_slices_insertionSortOrdered_int a0 l0 c0 n1 n2 w0 K by kernel_rfl).mpr h)

/- slices.heapSortOrdered[int]: slots {9: 'i', 10: 'i'}; loop over [10]; loop over [9] -/
set_option maxRecDepth 100000 in
def D_slices_heapSortOrdered_int (a0 : Option Addr) (l0 c0 : Nat) (n1 : Int) (n2 : Int) (w0 : World) (K : Value → World → Prop) : Prop :=
 LoopC (fun k x w1 =>
 ∃ n9 : Int, nth x 0 = .int .i64 n9 ∧ (bif decide (n9 ≥ 0) then
 Cal Try.prog F_slices_siftDownOrdered_int #[.slice a0 l0 c0, .int .i64 n9, .int .i64 (IntKind.i64.wrap (n2 - n1)), .int .i64 n1] w1 fun r26 w2 => r26 = .tuple #[] ∧ k [.int .i64 (IntKind.i64.wrap (n9 - 1))] w2
 else
 LoopC (fun k_2 x_2 w3 =>
 ∃ n10 : Int, nth x_2 0 = .int .i64 n10 ∧ (bif decide (n10 ≥ 0) then
 ∃ q43 : Addr, Al (Instr.indexAt 23 (.slice a0 l0 c0) (.int .i64 (IntKind.i64.wrap (n1 + n10)))) (.pointer (some q43)) ∧ ∃ n44 : Int, Ru (Instr.loadAt 3 (.pointer (some q43))) (drew w3) (.int .i64 n44) (drew w3) ∧ ∃ q47 : Addr, Al (Instr.indexAt 23 (.slice a0 l0 c0) (.int .i64 n1)) (.pointer (some q47)) ∧ ∃ n48 : Int, Ru (Instr.loadAt 3 (.pointer (some q47))) (drew w3) (.int .i64 n48) (drew w3) ∧ ∃ q49 : Addr, Al (Instr.indexAt 23 (.slice a0 l0 c0) (.int .i64 n1)) (.pointer (some q49)) ∧ ∃ w4 : World, RuU (Instr.storeAt 3 (.pointer (some q49)) (.int .i64 n44)) (drew w3) w4 ∧ ∃ q50 : Addr, Al (Instr.indexAt 23 (.slice a0 l0 c0) (.int .i64 (IntKind.i64.wrap (n1 + n10)))) (.pointer (some q50)) ∧ ∃ w5 : World, RuU (Instr.storeAt 3 (.pointer (some q50)) (.int .i64 n48)) w4 w5 ∧ Cal Try.prog F_slices_siftDownOrdered_int #[.slice a0 l0 c0, .int .i64 0, .int .i64 n10, .int .i64 n1] w5 fun r55 w6 => r55 = .tuple #[] ∧ k_2 [.int .i64 (IntKind.i64.wrap (n10 - 1))] w6
 else
 K (.tuple #[]) w3)) [.int .i64 (IntKind.i64.wrap ((IntKind.i64.wrap (n2 - n1)) - 1))] w1)) [.int .i64 (IntKind.i64.wrap (Int.tdiv (IntKind.i64.wrap ((IntKind.i64.wrap (n2 - n1)) - 1)) 2))] w0
set_option maxRecDepth 100000 in
theorem C_slices_heapSortOrdered_int (a0 : Option Addr) (l0 c0 : Nat) (n1 : Int) (n2 : Int) (w0 : World) (K : Value → World → Prop) (h : D_slices_heapSortOrdered_int a0 l0 c0 n1 n2 w0 K) : Cal Try.prog F_slices_heapSortOrdered_int #[.slice a0 l0 c0, .int .i64 n1, .int .i64 n2] w0 K :=
 denF_sound (A := { S := [9, 10], ty := [(9, 3), (10, 3)], raw := [] }) mixed Try.func66 (by kernel_rfl) (by kernel_rfl) ((show denF Try.prog _ Try.f66 _ w0 K = D_slices_heapSortOrdered_int a0 l0 c0 n1 n2 w0 K by kernel_rfl).mpr h)

/- slices.breakPatternsOrdered[int]: slots {9: 'idx', 10: 'other'}; loop over [9, 10] -/
set_option maxRecDepth 100000 in
def D_slices_breakPatternsOrdered_int (a0 : Option Addr) (l0 c0 : Nat) (n1 : Int) (n2 : Int) (w0 : World) (K : Value → World → Prop) : Prop :=
 Share (fun k => (bif decide ((IntKind.i64.wrap (n2 - n1)) ≥ 8) then
 ∃ q7 : Addr, ∃ w1 : World, Ru (Instr.alloc 124 true (.tuple #[])) w0 (.pointer (some q7)) w1 ∧ ∃ w2 : World, RuU (Instr.storeAt 124 (.pointer (some q7)) (.int .u64 (IntKind.u64.wrap (IntKind.i64.wrap (n2 - n1))))) w1 w2 ∧ Cal Try.prog F_slices_nextPowerOfTwo #[.int .i64 (IntKind.i64.wrap (n2 - n1))] w2 fun r19 w3 => ∃ n19 : Int, r19 = .int .u64 n19 ∧ LoopC (fun k_2 x_2 w4 =>
 ∃ n9 : Int, nth x_2 0 = .int .i64 n9 ∧ (bif decide (n9 ≤ (IntKind.i64.wrap ((IntKind.i64.wrap (n1 + (IntKind.i64.wrap ((IntKind.i64.wrap (Int.tdiv (IntKind.i64.wrap (n2 - n1)) 4)) * 2)))) + 1))) then
 Cal Try.prog F_slices_xorshift_Next #[.pointer (some q7)] w4 fun r36 w5 => ∃ n36 : Int, r36 = .int .u64 n36 ∧ Share (fun k_3 => (bif decide ((IntKind.i64.wrap (IntKind.u64.wrap (bvAnd 64 n36 (IntKind.u64.wrap (n19 - 1))))) ≥ (IntKind.i64.wrap (n2 - n1))) then
 k_3 [.int .i64 (IntKind.i64.wrap ((IntKind.i64.wrap (IntKind.u64.wrap (bvAnd 64 n36 (IntKind.u64.wrap (n19 - 1))))) - (IntKind.i64.wrap (n2 - n1))))] w5
 else
 k_3 [.int .i64 (IntKind.i64.wrap (IntKind.u64.wrap (bvAnd 64 n36 (IntKind.u64.wrap (n19 - 1)))))] w5)) fun x_3 w6 =>
 ∃ n10 : Int, nth x_3 0 = .int .i64 n10 ∧ ∃ q57 : Addr, Al (Instr.indexAt 23 (.slice a0 l0 c0) (.int .i64 (IntKind.i64.wrap (n1 + n10)))) (.pointer (some q57)) ∧ ∃ n58 : Int, Ru (Instr.loadAt 3 (.pointer (some q57))) (drew w6) (.int .i64 n58) (drew w6) ∧ ∃ q61 : Addr, Al (Instr.indexAt 23 (.slice a0 l0 c0) (.int .i64 n9)) (.pointer (some q61)) ∧ ∃ n62 : Int, Ru (Instr.loadAt 3 (.pointer (some q61))) (drew w6) (.int .i64 n62) (drew w6) ∧ ∃ q63 : Addr, Al (Instr.indexAt 23 (.slice a0 l0 c0) (.int .i64 n9)) (.pointer (some q63)) ∧ ∃ w7 : World, RuU (Instr.storeAt 3 (.pointer (some q63)) (.int .i64 n58)) (drew w6) w7 ∧ ∃ q64 : Addr, Al (Instr.indexAt 23 (.slice a0 l0 c0) (.int .i64 (IntKind.i64.wrap (n1 + n10)))) (.pointer (some q64)) ∧ ∃ w8 : World, RuU (Instr.storeAt 3 (.pointer (some q64)) (.int .i64 n62)) w7 w8 ∧ k_2 [.int .i64 (IntKind.i64.wrap (n9 + 1)), .int .i64 n10] w8
 else
 k [.int .i64 n9, nth x_2 1] w4)) [.int .i64 (IntKind.i64.wrap ((IntKind.i64.wrap (n1 + (IntKind.i64.wrap ((IntKind.i64.wrap (Int.tdiv (IntKind.i64.wrap (n2 - n1)) 4)) * 2)))) - 1)), undef] w3
 else
 k [undef, undef] w0)) fun x w9 =>
 K (.tuple #[]) w9
set_option maxRecDepth 100000 in
theorem C_slices_breakPatternsOrdered_int (a0 : Option Addr) (l0 c0 : Nat) (n1 : Int) (n2 : Int) (w0 : World) (K : Value → World → Prop) (h : D_slices_breakPatternsOrdered_int a0 l0 c0 n1 n2 w0 K) : Cal Try.prog F_slices_breakPatternsOrdered_int #[.slice a0 l0 c0, .int .i64 n1, .int .i64 n2] w0 K :=
 denF_sound (A := { S := [9, 10], ty := [(9, 3), (10, 3)], raw := [] }) mixed Try.func67 (by kernel_rfl) (by kernel_rfl) ((show denF Try.prog _ Try.f67 _ w0 K = D_slices_breakPatternsOrdered_int a0 l0 c0 n1 n2 w0 K by kernel_rfl).mpr h)

/- slices.choosePivotOrdered[int]: slots {10: 'i', 11: 'j', 12: 'k'};  -/
set_option maxRecDepth 100000 in
def D_slices_choosePivotOrdered_int (a0 : Option Addr) (l0 c0 : Nat) (n1 : Int) (n2 : Int) (w0 : World) (K : Value → World → Prop) : Prop :=
 ∃ q9 : Addr, ∃ w1 : World, Ru (Instr.alloc 3 true (.tuple #[])) w0 (.pointer (some q9)) w1 ∧ Share (fun k => (bif decide ((IntKind.i64.wrap (n2 - n1)) ≥ 8) then
 Share (fun k_2 => (bif decide ((IntKind.i64.wrap (n2 - n1)) ≥ 50) then
 Cal Try.prog F_slices_medianAdjacentOrdered_int #[.slice a0 l0 c0, .int .i64 (IntKind.i64.wrap (n1 + (IntKind.i64.wrap ((IntKind.i64.wrap (Int.tdiv (IntKind.i64.wrap (n2 - n1)) 4)) * 1)))), .pointer (some q9)] w1 fun r37 w2 => ∃ n37 : Int, r37 = .int .i64 n37 ∧ Cal Try.prog F_slices_medianAdjacentOrdered_int #[.slice a0 l0 c0, .int .i64 (IntKind.i64.wrap (n1 + (IntKind.i64.wrap ((IntKind.i64.wrap (Int.tdiv (IntKind.i64.wrap (n2 - n1)) 4)) * 2)))), .pointer (some q9)] w2 fun r40 w3 => ∃ n40 : Int, r40 = .int .i64 n40 ∧ Cal Try.prog F_slices_medianAdjacentOrdered_int #[.slice a0 l0 c0, .int .i64 (IntKind.i64.wrap (n1 + (IntKind.i64.wrap ((IntKind.i64.wrap (Int.tdiv (IntKind.i64.wrap (n2 - n1)) 4)) * 3)))), .pointer (some q9)] w3 fun r43 w4 => ∃ n43 : Int, r43 = .int .i64 n43 ∧ k_2 [.int .i64 n37, .int .i64 n40, .int .i64 n43] w4
 else
 k_2 [.int .i64 (IntKind.i64.wrap (n1 + (IntKind.i64.wrap ((IntKind.i64.wrap (Int.tdiv (IntKind.i64.wrap (n2 - n1)) 4)) * 1)))), .int .i64 (IntKind.i64.wrap (n1 + (IntKind.i64.wrap ((IntKind.i64.wrap (Int.tdiv (IntKind.i64.wrap (n2 - n1)) 4)) * 2)))), .int .i64 (IntKind.i64.wrap (n1 + (IntKind.i64.wrap ((IntKind.i64.wrap (Int.tdiv (IntKind.i64.wrap (n2 - n1)) 4)) * 3))))] w1)) fun x_2 w5 =>
 ∃ n10 : Int, nth x_2 0 = .int .i64 n10 ∧ ∃ n11 : Int, nth x_2 1 = .int .i64 n11 ∧ ∃ n12 : Int, nth x_2 2 = .int .i64 n12 ∧ Cal Try.prog F_slices_medianOrdered_int #[.slice a0 l0 c0, .int .i64 n10, .int .i64 n11, .int .i64 n12, .pointer (some q9)] w5 fun r48 w6 => ∃ n48 : Int, r48 = .int .i64 n48 ∧ k [.int .i64 n10, .int .i64 n48, .int .i64 n12] w6
 else
 k [.int .i64 (IntKind.i64.wrap (n1 + (IntKind.i64.wrap ((IntKind.i64.wrap (Int.tdiv (IntKind.i64.wrap (n2 - n1)) 4)) * 1)))), .int .i64 (IntKind.i64.wrap (n1 + (IntKind.i64.wrap ((IntKind.i64.wrap (Int.tdiv (IntKind.i64.wrap (n2 - n1)) 4)) * 2)))), .int .i64 (IntKind.i64.wrap (n1 + (IntKind.i64.wrap ((IntKind.i64.wrap (Int.tdiv (IntKind.i64.wrap (n2 - n1)) 4)) * 3))))] w1)) fun x w7 =>
 ∃ n49 : Int, Ru (Instr.loadAt 3 (.pointer (some q9))) w7 (.int .i64 n49) w7 ∧ (bif n49 == 0 then
 ∃ n11_2 : Int, nth x 1 = .int .i64 n11_2 ∧ K (.tuple #[.int .i64 n11_2, .int .i64 1]) w7
 else
 (bif n49 == 12 then
 ∃ n11_3 : Int, nth x 1 = .int .i64 n11_3 ∧ K (.tuple #[.int .i64 n11_3, .int .i64 2]) w7
 else
 ∃ n11_4 : Int, nth x 1 = .int .i64 n11_4 ∧ K (.tuple #[.int .i64 n11_4, .int .i64 0]) w7))
set_option maxRecDepth 100000 in
theorem C_slices_choosePivotOrdered_int (a0 : Option Addr) (l0 c0 : Nat) (n1 : Int) (n2 : Int) (w0 : World) (K : Value → World → Prop) (h : D_slices_choosePivotOrdered_int a0 l0 c0 n1 n2 w0 K) : Cal Try.prog F_slices_choosePivotOrdered_int #[.slice a0 l0 c0, .int .i64 n1, .int .i64 n2] w0 K :=
 denF_sound (A := { S := [10, 11, 12], ty := [(10, 3), (11, 3), (12, 3)], raw := [] }) mixed Try.func68 (by kernel_rfl) (by kernel_rfl) ((show denF Try.prog _ Try.f68 _ w0 K = D_slices_choosePivotOrdered_int a0 l0 c0 n1 n2 w0 K by kernel_rfl).mpr h)

/- slices.reverseRangeOrdered[int]: slots {6: 'i', 7: 'j'}; loop over [6, 7] -/
set_option maxRecDepth 100000 in
def D_slices_reverseRangeOrdered_int (a0 : Option Addr) (l0 c0 : Nat) (n1 : Int) (n2 : Int) (w0 : World) (K : Value → World → Prop) : Prop :=
 LoopC (fun k x w1 =>
 ∃ n6 : Int, nth x 0 = .int .i64 n6 ∧ ∃ n7 : Int, nth x 1 = .int .i64 n7 ∧ (bif decide (n6 < n7) then
 ∃ q20 : Addr, Al (Instr.indexAt 23 (.slice a0 l0 c0) (.int .i64 n7)) (.pointer (some q20)) ∧ ∃ n21 : Int, Ru (Instr.loadAt 3 (.pointer (some q20))) (drew w1) (.int .i64 n21) (drew w1) ∧ ∃ q24 : Addr, Al (Instr.indexAt 23 (.slice a0 l0 c0) (.int .i64 n6)) (.pointer (some q24)) ∧ ∃ n25 : Int, Ru (Instr.loadAt 3 (.pointer (some q24))) (drew w1) (.int .i64 n25) (drew w1) ∧ ∃ q26 : Addr, Al (Instr.indexAt 23 (.slice a0 l0 c0) (.int .i64 n6)) (.pointer (some q26)) ∧ ∃ w2 : World, RuU (Instr.storeAt 3 (.pointer (some q26)) (.int .i64 n21)) (drew w1) w2 ∧ ∃ q27 : Addr, Al (Instr.indexAt 23 (.slice a0 l0 c0) (.int .i64 n7)) (.pointer (some q27)) ∧ ∃ w3 : World, RuU (Instr.storeAt 3 (.pointer (some q27)) (.int .i64 n25)) w2 w3 ∧ k [.int .i64 (IntKind.i64.wrap (n6 + 1)), .int .i64 (IntKind.i64.wrap (n7 - 1))] w3
 else
 K (.tuple #[]) w1)) [.int .i64 n1, .int .i64 (IntKind.i64.wrap (n2 - 1))] w0
set_option maxRecDepth 100000 in
theorem C_slices_reverseRangeOrdered_int (a0 : Option Addr) (l0 c0 : Nat) (n1 : Int) (n2 : Int) (w0 : World) (K : Value → World → Prop) (h : D_slices_reverseRangeOrdered_int a0 l0 c0 n1 n2 w0 K) : Cal Try.prog F_slices_reverseRangeOrdered_int #[.slice a0 l0 c0, .int .i64 n1, .int .i64 n2] w0 K :=
 denF_sound (A := { S := [6, 7], ty := [(6, 3), (7, 3)], raw := [] }) mixed Try.func69 (by kernel_rfl) (by kernel_rfl) ((show denF Try.prog _ Try.f69 _ w0 K = D_slices_reverseRangeOrdered_int a0 l0 c0 n1 n2 w0 K by kernel_rfl).mpr h)

/- slices.partialInsertionSortOrdered[int]: slots {7: 'i', 8: 'j', 9: 'j', 10: 'j', 32: ''}; loop over [9]; loop over [10]; loop over [7, 32]; loop over [7, 8, 9, 10, 32] -/
set_option maxRecDepth 100000 in
def D_slices_partialInsertionSortOrdered_int (a0 : Option Addr) (l0 c0 : Nat) (n1 : Int) (n2 : Int) (w0 : World) (K : Value → World → Prop) : Prop :=
 LoopC (fun k x w1 =>
 ∃ n8 : Int, nth x 1 = .int .i64 n8 ∧ (bif decide (n8 < 5) then
 LoopC (fun k_2 x_2 w2 =>
 Share (fun k_3 => ∃ n7 : Int, nth x_2 0 = .int .i64 n7 ∧ (bif decide (n7 < n2) then ∃ q23 : Addr, Al (Instr.indexAt 23 (.slice a0 l0 c0) (.int .i64 n7)) (.pointer (some q23)) ∧ ∃ n24 : Int, Ru (Instr.loadAt 3 (.pointer (some q23))) (drew w2) (.int .i64 n24) (drew w2) ∧ ∃ q28 : Addr, Al (Instr.indexAt 23 (.slice a0 l0 c0) (.int .i64 (IntKind.i64.wrap (n7 - 1)))) (.pointer (some q28)) ∧ ∃ n29 : Int, Ru (Instr.loadAt 3 (.pointer (some q28))) (drew w2) (.int .i64 n29) (drew w2) ∧ Cal Try.prog F_cmp_Less_int #[.int .i64 n24, .int .i64 n29] (drew w2) fun r30 w3 => ∃ b30 : Bool, r30 = .bool b30 ∧ k_3 [.bool (!b30)] w3 else k_3 [.bool false] (drew w2))) fun x_3 w4 =>
 ∃ b32 : Bool, nth x_3 0 = .bool b32 ∧ (bif b32 then
 ∃ n7_2 : Int, nth x_2 0 = .int .i64 n7_2 ∧ k_2 [.int .i64 (IntKind.i64.wrap (n7_2 + 1)), .bool b32] w4
 else
 ∃ n7_3 : Int, nth x_2 0 = .int .i64 n7_3 ∧ (bif n7_3 == n2 then
 K (.bool true) w4
 else
 (bif decide ((IntKind.i64.wrap (n2 - n1)) < 50) then
 K (.bool false) w4
 else
 ∃ q50 : Addr, Al (Instr.indexAt 23 (.slice a0 l0 c0) (.int .i64 (IntKind.i64.wrap (n7_3 - 1)))) (.pointer (some q50)) ∧ ∃ n51 : Int, Ru (Instr.loadAt 3 (.pointer (some q50))) (drew w4) (.int .i64 n51) (drew w4) ∧ ∃ q54 : Addr, Al (Instr.indexAt 23 (.slice a0 l0 c0) (.int .i64 n7_3)) (.pointer (some q54)) ∧ ∃ n55 : Int, Ru (Instr.loadAt 3 (.pointer (some q54))) (drew w4) (.int .i64 n55) (drew w4) ∧ ∃ q56 : Addr, Al (Instr.indexAt 23 (.slice a0 l0 c0) (.int .i64 n7_3)) (.pointer (some q56)) ∧ ∃ w5 : World, RuU (Instr.storeAt 3 (.pointer (some q56)) (.int .i64 n51)) (drew w4) w5 ∧ ∃ q57 : Addr, Al (Instr.indexAt 23 (.slice a0 l0 c0) (.int .i64 (IntKind.i64.wrap (n7_3 - 1)))) (.pointer (some q57)) ∧ ∃ w6 : World, RuU (Instr.storeAt 3 (.pointer (some q57)) (.int .i64 n55)) w5 w6 ∧ Share (fun k_4 => (bif decide ((IntKind.i64.wrap (n7_3 - n1)) ≥ 2) then
 Share (fun k_5 => LoopC (fun k_6 x_6 w7 =>
 ∃ n9 : Int, nth x_6 0 = .int .i64 n9 ∧ (bif decide (n9 ≥ 1) then
 ∃ q70 : Addr, Al (Instr.indexAt 23 (.slice a0 l0 c0) (.int .i64 n9)) (.pointer (some q70)) ∧ ∃ n71 : Int, Ru (Instr.loadAt 3 (.pointer (some q70))) (drew w7) (.int .i64 n71) (drew w7) ∧ ∃ q75 : Addr, Al (Instr.indexAt 23 (.slice a0 l0 c0) (.int .i64 (IntKind.i64.wrap (n9 - 1)))) (.pointer (some q75)) ∧ ∃ n76 : Int, Ru (Instr.loadAt 3 (.pointer (some q75))) (drew w7) (.int .i64 n76) (drew w7) ∧ Cal Try.prog F_cmp_Less_int #[.int .i64 n71, .int .i64 n76] (drew w7) fun r77 w8 => ∃ b77 : Bool, r77 = .bool b77 ∧ (bif !b77 then
 k_5 [.int .i64 n9] w8
 else
 ∃ q87 : Addr, Al (Instr.indexAt 23 (.slice a0 l0 c0) (.int .i64 (IntKind.i64.wrap (n9 - 1)))) (.pointer (some q87)) ∧ ∃ n88 : Int, Ru (Instr.loadAt 3 (.pointer (some q87))) (drew w8) (.int .i64 n88) (drew w8) ∧ ∃ q91 : Addr, Al (Instr.indexAt 23 (.slice a0 l0 c0) (.int .i64 n9)) (.pointer (some q91)) ∧ ∃ n92 : Int, Ru (Instr.loadAt 3 (.pointer (some q91))) (drew w8) (.int .i64 n92) (drew w8) ∧ ∃ q93 : Addr, Al (Instr.indexAt 23 (.slice a0 l0 c0) (.int .i64 n9)) (.pointer (some q93)) ∧ ∃ w9 : World, RuU (Instr.storeAt 3 (.pointer (some q93)) (.int .i64 n88)) (drew w8) w9 ∧ ∃ q94 : Addr, Al (Instr.indexAt 23 (.slice a0 l0 c0) (.int .i64 (IntKind.i64.wrap (n9 - 1)))) (.pointer (some q94)) ∧ ∃ w10 : World, RuU (Instr.storeAt 3 (.pointer (some q94)) (.int .i64 n92)) w9 w10 ∧ k_6 [.int .i64 (IntKind.i64.wrap (n9 - 1))] w10)
 else
 k_5 [.int .i64 n9] w7)) [.int .i64 (IntKind.i64.wrap (n7_3 - 1))] w6) fun x_5 w11 =>
 k_4 [nth x_5 0] w11
 else
 k_4 [nth x 2] w6)) fun x_4 w12 =>
 Share (fun k_7 => (bif decide ((IntKind.i64.wrap (n2 - n7_3)) ≥ 2) then
 Share (fun k_8 => LoopC (fun k_9 x_9 w13 =>
 ∃ n10 : Int, nth x_9 0 = .int .i64 n10 ∧ (bif decide (n10 < n2) then
 ∃ q108 : Addr, Al (Instr.indexAt 23 (.slice a0 l0 c0) (.int .i64 n10)) (.pointer (some q108)) ∧ ∃ n109 : Int, Ru (Instr.loadAt 3 (.pointer (some q108))) (drew w13) (.int .i64 n109) (drew w13) ∧ ∃ q113 : Addr, Al (Instr.indexAt 23 (.slice a0 l0 c0) (.int .i64 (IntKind.i64.wrap (n10 - 1)))) (.pointer (some q113)) ∧ ∃ n114 : Int, Ru (Instr.loadAt 3 (.pointer (some q113))) (drew w13) (.int .i64 n114) (drew w13) ∧ Cal Try.prog F_cmp_Less_int #[.int .i64 n109, .int .i64 n114] (drew w13) fun r115 w14 => ∃ b115 : Bool, r115 = .bool b115 ∧ (bif !b115 then
 k_8 [.int .i64 n10] w14
 else
 ∃ q125 : Addr, Al (Instr.indexAt 23 (.slice a0 l0 c0) (.int .i64 (IntKind.i64.wrap (n10 - 1)))) (.pointer (some q125)) ∧ ∃ n126 : Int, Ru (Instr.loadAt 3 (.pointer (some q125))) (drew w14) (.int .i64 n126) (drew w14) ∧ ∃ q129 : Addr, Al (Instr.indexAt 23 (.slice a0 l0 c0) (.int .i64 n10)) (.pointer (some q129)) ∧ ∃ n130 : Int, Ru (Instr.loadAt 3 (.pointer (some q129))) (drew w14) (.int .i64 n130) (drew w14) ∧ ∃ q131 : Addr, Al (Instr.indexAt 23 (.slice a0 l0 c0) (.int .i64 n10)) (.pointer (some q131)) ∧ ∃ w15 : World, RuU (Instr.storeAt 3 (.pointer (some q131)) (.int .i64 n126)) (drew w14) w15 ∧ ∃ q132 : Addr, Al (Instr.indexAt 23 (.slice a0 l0 c0) (.int .i64 (IntKind.i64.wrap (n10 - 1)))) (.pointer (some q132)) ∧ ∃ w16 : World, RuU (Instr.storeAt 3 (.pointer (some q132)) (.int .i64 n130)) w15 w16 ∧ k_9 [.int .i64 (IntKind.i64.wrap (n10 + 1))] w16)
 else
 k_8 [.int .i64 n10] w13)) [.int .i64 (IntKind.i64.wrap (n7_3 + 1))] w12) fun x_8 w17 =>
 k_7 [nth x_8 0] w17
 else
 k_7 [nth x 3] w12)) fun x_7 w18 =>
 k [.int .i64 n7_3, .int .i64 (IntKind.i64.wrap (n8 + 1)), nth x_4 0, nth x_7 0, .bool b32] w18)))) [nth x 0, nth x 4] w1
 else
 K (.bool false) w1)) [.int .i64 (IntKind.i64.wrap (n1 + 1)), .int .i64 0, undef, undef, undef] w0
set_option maxRecDepth 100000 in
theorem C_slices_partialInsertionSortOrdered_int (a0 : Option Addr) (l0 c0 : Nat) (n1 : Int) (n2 : Int) (w0 : World) (K : Value → World → Prop) (h : D_slices_partialInsertionSortOrdered_int a0 l0 c0 n1 n2 w0 K) : Cal Try.prog F_slices_partialInsertionSortOrdered_int #[.slice a0 l0 c0, .int .i64 n1, .int .i64 n2] w0 K :=
 denF_sound (A := { S := [7, 8, 9, 10, 32], ty := [(7, 3), (8, 3), (9, 3), (10, 3), (32, 4)], raw := [] }) mixed Try.func70 (by kernel_rfl) (by kernel_rfl) ((show denF Try.prog _ Try.f70 _ w0 K = D_slices_partialInsertionSortOrdered_int a0 l0 c0 n1 n2 w0 K by kernel_rfl).mpr h)

/- cmp.Less[int]: slots {4: ''};  -/
set_option maxRecDepth 100000 in
def D_cmp_Less_int (n0 : Int) (n1 : Int) (w0 : World) (K : Value → World → Prop) : Prop :=
 Share (fun k => Cal Try.prog F_cmp_isNaN_int #[.int .i64 n0] w0 fun r6 w1 => ∃ b6 : Bool, r6 = .bool b6 ∧ (bif b6 then Cal Try.prog F_cmp_isNaN_int #[.int .i64 n1] w1 fun r9 w2 => ∃ b9 : Bool, r9 = .bool b9 ∧ (bif !b9 then k [.bool true] w2 else k [.bool (decide (n0 < n1))] w2) else k [.bool (decide (n0 < n1))] w1)) fun x w3 =>
 ∃ b4 : Bool, nth x 0 = .bool b4 ∧ K (.bool b4) w3
set_option maxRecDepth 100000 in
theorem C_cmp_Less_int (n0 : Int) (n1 : Int) (w0 : World) (K : Value → World → Prop) (h : D_cmp_Less_int n0 n1 w0 K) : Cal Try.prog F_cmp_Less_int #[.int .i64 n0, .int .i64 n1] w0 K :=
 denF_sound (A := { S := [4], ty := [(4, 4)], raw := [] }) mixed Try.func71 (by kernel_rfl) (by kernel_rfl) ((show denF Try.prog _ Try.f71 _ w0 K = D_cmp_Less_int n0 n1 w0 K by kernel_rfl).mpr h)

/- slices.partitionEqualOrdered[int]: slots {9: 'i', 10: 'j', 43: '', 59: ''}; loop over [10, 59]; loop over [9, 43]; loop over [9, 10, 43, 59] -/
set_option maxRecDepth 100000 in
def D_slices_partitionEqualOrdered_int (a0 : Option Addr) (l0 c0 : Nat) (n1 : Int) (n2 : Int) (n3 : Int) (w0 : World) (K : Value → World → Prop) : Prop :=
 ∃ q17 : Addr, Al (Instr.indexAt 23 (.slice a0 l0 c0) (.int .i64 n3)) (.pointer (some q17)) ∧ ∃ n18 : Int, Ru (Instr.loadAt 3 (.pointer (some q17))) (drew w0) (.int .i64 n18) (drew w0) ∧ ∃ q21 : Addr, Al (Instr.indexAt 23 (.slice a0 l0 c0) (.int .i64 n1)) (.pointer (some q21)) ∧ ∃ n22 : Int, Ru (Instr.loadAt 3 (.pointer (some q21))) (drew w0) (.int .i64 n22) (drew w0) ∧ ∃ q23 : Addr, Al (Instr.indexAt 23 (.slice a0 l0 c0) (.int .i64 n1)) (.pointer (some q23)) ∧ ∃ w1 : World, RuU (Instr.storeAt 3 (.pointer (some q23)) (.int .i64 n18)) (drew w0) w1 ∧ ∃ q24 : Addr, Al (Instr.indexAt 23 (.slice a0 l0 c0) (.int .i64 n3)) (.pointer (some q24)) ∧ ∃ w2 : World, RuU (Instr.storeAt 3 (.pointer (some q24)) (.int .i64 n22)) w1 w2 ∧ LoopC (fun k x w3 =>
 LoopC (fun k_2 x_2 w4 =>
 Share (fun k_3 => ∃ n9 : Int, nth x_2 0 = .int .i64 n9 ∧ ∃ n10 : Int, nth x 1 = .int .i64 n10 ∧ (bif decide (n9 ≤ n10) then ∃ q35 : Addr, Al (Instr.indexAt 23 (.slice a0 l0 c0) (.int .i64 n1)) (.pointer (some q35)) ∧ ∃ n36 : Int, Ru (Instr.loadAt 3 (.pointer (some q35))) (drew w4) (.int .i64 n36) (drew w4) ∧ ∃ q39 : Addr, Al (Instr.indexAt 23 (.slice a0 l0 c0) (.int .i64 n9)) (.pointer (some q39)) ∧ ∃ n40 : Int, Ru (Instr.loadAt 3 (.pointer (some q39))) (drew w4) (.int .i64 n40) (drew w4) ∧ Cal Try.prog F_cmp_Less_int #[.int .i64 n36, .int .i64 n40] (drew w4) fun r41 w5 => ∃ b41 : Bool, r41 = .bool b41 ∧ k_3 [.bool (!b41)] w5 else k_3 [.bool false] (drew w4))) fun x_3 w6 =>
 ∃ b43 : Bool, nth x_3 0 = .bool b43 ∧ (bif b43 then
 ∃ n9_2 : Int, nth x_2 0 = .int .i64 n9_2 ∧ k_2 [.int .i64 (IntKind.i64.wrap (n9_2 + 1)), .bool b43] w6
 else
 LoopC (fun k_4 x_4 w7 =>
 Share (fun k_5 => ∃ n9_3 : Int, nth x_2 0 = .int .i64 n9_3 ∧ ∃ n10_2 : Int, nth x_4 0 = .int .i64 n10_2 ∧ (bif decide (n9_3 ≤ n10_2) then ∃ q52 : Addr, Al (Instr.indexAt 23 (.slice a0 l0 c0) (.int .i64 n1)) (.pointer (some q52)) ∧ ∃ n53 : Int, Ru (Instr.loadAt 3 (.pointer (some q52))) (drew w7) (.int .i64 n53) (drew w7) ∧ ∃ q56 : Addr, Al (Instr.indexAt 23 (.slice a0 l0 c0) (.int .i64 n10_2)) (.pointer (some q56)) ∧ ∃ n57 : Int, Ru (Instr.loadAt 3 (.pointer (some q56))) (drew w7) (.int .i64 n57) (drew w7) ∧ Cal Try.prog F_cmp_Less_int #[.int .i64 n53, .int .i64 n57] (drew w7) fun r58 w8 => ∃ b58 : Bool, r58 = .bool b58 ∧ k_5 [.bool b58] w8 else k_5 [.bool false] (drew w7))) fun x_5 w9 =>
 ∃ b59 : Bool, nth x_5 0 = .bool b59 ∧ (bif b59 then
 ∃ n10_3 : Int, nth x_4 0 = .int .i64 n10_3 ∧ k_4 [.int .i64 (IntKind.i64.wrap (n10_3 - 1)), .bool b59] w9
 else
 ∃ n9_4 : Int, nth x_2 0 = .int .i64 n9_4 ∧ ∃ n10_4 : Int, nth x_4 0 = .int .i64 n10_4 ∧ (bif decide (n9_4 > n10_4) then
 K (.int .i64 n9_4) w9
 else
 ∃ q71 : Addr, Al (Instr.indexAt 23 (.slice a0 l0 c0) (.int .i64 n10_4)) (.pointer (some q71)) ∧ ∃ n72 : Int, Ru (Instr.loadAt 3 (.pointer (some q71))) (drew w9) (.int .i64 n72) (drew w9) ∧ ∃ q75 : Addr, Al (Instr.indexAt 23 (.slice a0 l0 c0) (.int .i64 n9_4)) (.pointer (some q75)) ∧ ∃ n76 : Int, Ru (Instr.loadAt 3 (.pointer (some q75))) (drew w9) (.int .i64 n76) (drew w9) ∧ ∃ q77 : Addr, Al (Instr.indexAt 23 (.slice a0 l0 c0) (.int .i64 n9_4)) (.pointer (some q77)) ∧ ∃ w10 : World, RuU (Instr.storeAt 3 (.pointer (some q77)) (.int .i64 n72)) (drew w9) w10 ∧ ∃ q78 : Addr, Al (Instr.indexAt 23 (.slice a0 l0 c0) (.int .i64 n10_4)) (.pointer (some q78)) ∧ ∃ w11 : World, RuU (Instr.storeAt 3 (.pointer (some q78)) (.int .i64 n76)) w10 w11 ∧ k [.int .i64 (IntKind.i64.wrap (n9_4 + 1)), .int .i64 (IntKind.i64.wrap (n10_4 - 1)), .bool b43, .bool b59] w11))) [nth x 1, nth x 3] w6)) [nth x 0, nth x 2] w3) [.int .i64 (IntKind.i64.wrap (n1 + 1)), .int .i64 (IntKind.i64.wrap (n2 - 1)), undef, undef] w2
set_option maxRecDepth 100000 in
theorem C_slices_partitionEqualOrdered_int (a0 : Option Addr) (l0 c0 : Nat) (n1 : Int) (n2 : Int) (n3 : Int) (w0 : World) (K : Value → World → Prop) (h : D_slices_partitionEqualOrdered_int a0 l0 c0 n1 n2 n3 w0 K) : Cal Try.prog F_slices_partitionEqualOrdered_int #[.slice a0 l0 c0, .int .i64 n1, .int .i64 n2, .int .i64 n3] w0 K :=
 denF_sound (A := { S := [9, 10, 43, 59], ty := [(9, 3), (10, 3), (43, 4), (59, 4)], raw := [] }) mixed Try.func72 (by kernel_rfl) (by kernel_rfl) ((show denF Try.prog _ Try.f72 _ w0 K = D_slices_partitionEqualOrdered_int a0 l0 c0 n1 n2 n3 w0 K by kernel_rfl).mpr h)

/- slices.partitionOrdered[int]: slots {10: 'i', 11: 'j', 43: '', 60: '', 112: '', 129: ''}; loop over [11, 129]; loop over [10, 112]; loop over [10, 11, 112, 129]; loop over [11, 60]; loop over [10, 43] -/
set_option maxRecDepth 100000 in
def D_slices_partitionOrdered_int (a0 : Option Addr) (l0 c0 : Nat) (n1 : Int) (n2 : Int) (n3 : Int) (w0 : World) (K : Value → World → Prop) : Prop :=
 ∃ q18 : Addr, Al (Instr.indexAt 23 (.slice a0 l0 c0) (.int .i64 n3)) (.pointer (some q18)) ∧ ∃ n19 : Int, Ru (Instr.loadAt 3 (.pointer (some q18))) (drew w0) (.int .i64 n19) (drew w0) ∧ ∃ q22 : Addr, Al (Instr.indexAt 23 (.slice a0 l0 c0) (.int .i64 n1)) (.pointer (some q22)) ∧ ∃ n23 : Int, Ru (Instr.loadAt 3 (.pointer (some q22))) (drew w0) (.int .i64 n23) (drew w0) ∧ ∃ q24 : Addr, Al (Instr.indexAt 23 (.slice a0 l0 c0) (.int .i64 n1)) (.pointer (some q24)) ∧ ∃ w1 : World, RuU (Instr.storeAt 3 (.pointer (some q24)) (.int .i64 n19)) (drew w0) w1 ∧ ∃ q25 : Addr, Al (Instr.indexAt 23 (.slice a0 l0 c0) (.int .i64 n3)) (.pointer (some q25)) ∧ ∃ w2 : World, RuU (Instr.storeAt 3 (.pointer (some q25)) (.int .i64 n23)) w1 w2 ∧ LoopC (fun k x w3 =>
 Share (fun k_2 => ∃ n10 : Int, nth x 0 = .int .i64 n10 ∧ (bif decide (n10 ≤ (IntKind.i64.wrap (n2 - 1))) then ∃ q36 : Addr, Al (Instr.indexAt 23 (.slice a0 l0 c0) (.int .i64 n10)) (.pointer (some q36)) ∧ ∃ n37 : Int, Ru (Instr.loadAt 3 (.pointer (some q36))) (drew w3) (.int .i64 n37) (drew w3) ∧ ∃ q40 : Addr, Al (Instr.indexAt 23 (.slice a0 l0 c0) (.int .i64 n1)) (.pointer (some q40)) ∧ ∃ n41 : Int, Ru (Instr.loadAt 3 (.pointer (some q40))) (drew w3) (.int .i64 n41) (drew w3) ∧ Cal Try.prog F_cmp_Less_int #[.int .i64 n37, .int .i64 n41] (drew w3) fun r42 w4 => ∃ b42 : Bool, r42 = .bool b42 ∧ k_2 [.bool b42] w4 else k_2 [.bool false] (drew w3))) fun x_2 w5 =>
 ∃ b43 : Bool, nth x_2 0 = .bool b43 ∧ (bif b43 then
 ∃ n10_2 : Int, nth x 0 = .int .i64 n10_2 ∧ k [.int .i64 (IntKind.i64.wrap (n10_2 + 1)), .bool b43] w5
 else
 LoopC (fun k_3 x_3 w6 =>
 Share (fun k_4 => ∃ n10_3 : Int, nth x 0 = .int .i64 n10_3 ∧ ∃ n11 : Int, nth x_3 0 = .int .i64 n11 ∧ (bif decide (n10_3 ≤ n11) then ∃ q52 : Addr, Al (Instr.indexAt 23 (.slice a0 l0 c0) (.int .i64 n11)) (.pointer (some q52)) ∧ ∃ n53 : Int, Ru (Instr.loadAt 3 (.pointer (some q52))) (drew w6) (.int .i64 n53) (drew w6) ∧ ∃ q56 : Addr, Al (Instr.indexAt 23 (.slice a0 l0 c0) (.int .i64 n1)) (.pointer (some q56)) ∧ ∃ n57 : Int, Ru (Instr.loadAt 3 (.pointer (some q56))) (drew w6) (.int .i64 n57) (drew w6) ∧ Cal Try.prog F_cmp_Less_int #[.int .i64 n53, .int .i64 n57] (drew w6) fun r58 w7 => ∃ b58 : Bool, r58 = .bool b58 ∧ k_4 [.bool (!b58)] w7 else k_4 [.bool false] (drew w6))) fun x_4 w8 =>
 ∃ b60 : Bool, nth x_4 0 = .bool b60 ∧ (bif b60 then
 ∃ n11_2 : Int, nth x_3 0 = .int .i64 n11_2 ∧ k_3 [.int .i64 (IntKind.i64.wrap (n11_2 - 1)), .bool b60] w8
 else
 ∃ n10_4 : Int, nth x 0 = .int .i64 n10_4 ∧ ∃ n11_3 : Int, nth x_3 0 = .int .i64 n11_3 ∧ (bif decide (n10_4 > n11_3) then
 ∃ q72 : Addr, Al (Instr.indexAt 23 (.slice a0 l0 c0) (.int .i64 n1)) (.pointer (some q72)) ∧ ∃ n73 : Int, Ru (Instr.loadAt 3 (.pointer (some q72))) (drew w8) (.int .i64 n73) (drew w8) ∧ ∃ q76 : Addr, Al (Instr.indexAt 23 (.slice a0 l0 c0) (.int .i64 n11_3)) (.pointer (some q76)) ∧ ∃ n77 : Int, Ru (Instr.loadAt 3 (.pointer (some q76))) (drew w8) (.int .i64 n77) (drew w8) ∧ ∃ q78 : Addr, Al (Instr.indexAt 23 (.slice a0 l0 c0) (.int .i64 n11_3)) (.pointer (some q78)) ∧ ∃ w9 : World, RuU (Instr.storeAt 3 (.pointer (some q78)) (.int .i64 n73)) (drew w8) w9 ∧ ∃ q79 : Addr, Al (Instr.indexAt 23 (.slice a0 l0 c0) (.int .i64 n1)) (.pointer (some q79)) ∧ ∃ w10 : World, RuU (Instr.storeAt 3 (.pointer (some q79)) (.int .i64 n77)) w9 w10 ∧ K (.tuple #[.int .i64 n11_3, .bool true]) w10
 else
 ∃ q87 : Addr, Al (Instr.indexAt 23 (.slice a0 l0 c0) (.int .i64 n11_3)) (.pointer (some q87)) ∧ ∃ n88 : Int, Ru (Instr.loadAt 3 (.pointer (some q87))) (drew w8) (.int .i64 n88) (drew w8) ∧ ∃ q91 : Addr, Al (Instr.indexAt 23 (.slice a0 l0 c0) (.int .i64 n10_4)) (.pointer (some q91)) ∧ ∃ n92 : Int, Ru (Instr.loadAt 3 (.pointer (some q91))) (drew w8) (.int .i64 n92) (drew w8) ∧ ∃ q93 : Addr, Al (Instr.indexAt 23 (.slice a0 l0 c0) (.int .i64 n10_4)) (.pointer (some q93)) ∧ ∃ w11 : World, RuU (Instr.storeAt 3 (.pointer (some q93)) (.int .i64 n88)) (drew w8) w11 ∧ ∃ q94 : Addr, Al (Instr.indexAt 23 (.slice a0 l0 c0) (.int .i64 n11_3)) (.pointer (some q94)) ∧ ∃ w12 : World, RuU (Instr.storeAt 3 (.pointer (some q94)) (.int .i64 n92)) w11 w12 ∧ LoopC (fun k_5 x_5 w13 =>
 LoopC (fun k_6 x_6 w14 =>
 Share (fun k_7 => ∃ n10_5 : Int, nth x_6 0 = .int .i64 n10_5 ∧ ∃ n11_4 : Int, nth x_5 1 = .int .i64 n11_4 ∧ (bif decide (n10_5 ≤ n11_4) then ∃ q105 : Addr, Al (Instr.indexAt 23 (.slice a0 l0 c0) (.int .i64 n10_5)) (.pointer (some q105)) ∧ ∃ n106 : Int, Ru (Instr.loadAt 3 (.pointer (some q105))) (drew w14) (.int .i64 n106) (drew w14) ∧ ∃ q109 : Addr, Al (Instr.indexAt 23 (.slice a0 l0 c0) (.int .i64 n1)) (.pointer (some q109)) ∧ ∃ n110 : Int, Ru (Instr.loadAt 3 (.pointer (some q109))) (drew w14) (.int .i64 n110) (drew w14) ∧ Cal Try.prog F_cmp_Less_int #[.int .i64 n106, .int .i64 n110] (drew w14) fun r111 w15 => ∃ b111 : Bool, r111 = .bool b111 ∧ k_7 [.bool b111] w15 else k_7 [.bool false] (drew w14))) fun x_7 w16 =>
 ∃ b112 : Bool, nth x_7 0 = .bool b112 ∧ (bif b112 then
 ∃ n10_6 : Int, nth x_6 0 = .int .i64 n10_6 ∧ k_6 [.int .i64 (IntKind.i64.wrap (n10_6 + 1)), .bool b112] w16
 else
 LoopC (fun k_8 x_8 w17 =>
 Share (fun k_9 => ∃ n10_7 : Int, nth x_6 0 = .int .i64 n10_7 ∧ ∃ n11_5 : Int, nth x_8 0 = .int .i64 n11_5 ∧ (bif decide (n10_7 ≤ n11_5) then ∃ q121 : Addr, Al (Instr.indexAt 23 (.slice a0 l0 c0) (.int .i64 n11_5)) (.pointer (some q121)) ∧ ∃ n122 : Int, Ru (Instr.loadAt 3 (.pointer (some q121))) (drew w17) (.int .i64 n122) (drew w17) ∧ ∃ q125 : Addr, Al (Instr.indexAt 23 (.slice a0 l0 c0) (.int .i64 n1)) (.pointer (some q125)) ∧ ∃ n126 : Int, Ru (Instr.loadAt 3 (.pointer (some q125))) (drew w17) (.int .i64 n126) (drew w17) ∧ Cal Try.prog F_cmp_Less_int #[.int .i64 n122, .int .i64 n126] (drew w17) fun r127 w18 => ∃ b127 : Bool, r127 = .bool b127 ∧ k_9 [.bool (!b127)] w18 else k_9 [.bool false] (drew w17))) fun x_9 w19 =>
 ∃ b129 : Bool, nth x_9 0 = .bool b129 ∧ (bif b129 then
 ∃ n11_6 : Int, nth x_8 0 = .int .i64 n11_6 ∧ k_8 [.int .i64 (IntKind.i64.wrap (n11_6 - 1)), .bool b129] w19
 else
 ∃ n10_8 : Int, nth x_6 0 = .int .i64 n10_8 ∧ ∃ n11_7 : Int, nth x_8 0 = .int .i64 n11_7 ∧ (bif decide (n10_8 > n11_7) then
 ∃ q159 : Addr, Al (Instr.indexAt 23 (.slice a0 l0 c0) (.int .i64 n1)) (.pointer (some q159)) ∧ ∃ n160 : Int, Ru (Instr.loadAt 3 (.pointer (some q159))) (drew w19) (.int .i64 n160) (drew w19) ∧ ∃ q163 : Addr, Al (Instr.indexAt 23 (.slice a0 l0 c0) (.int .i64 n11_7)) (.pointer (some q163)) ∧ ∃ n164 : Int, Ru (Instr.loadAt 3 (.pointer (some q163))) (drew w19) (.int .i64 n164) (drew w19) ∧ ∃ q165 : Addr, Al (Instr.indexAt 23 (.slice a0 l0 c0) (.int .i64 n11_7)) (.pointer (some q165)) ∧ ∃ w20 : World, RuU (Instr.storeAt 3 (.pointer (some q165)) (.int .i64 n160)) (drew w19) w20 ∧ ∃ q166 : Addr, Al (Instr.indexAt 23 (.slice a0 l0 c0) (.int .i64 n1)) (.pointer (some q166)) ∧ ∃ w21 : World, RuU (Instr.storeAt 3 (.pointer (some q166)) (.int .i64 n164)) w20 w21 ∧ K (.tuple #[.int .i64 n11_7, .bool false]) w21
 else
 ∃ q141 : Addr, Al (Instr.indexAt 23 (.slice a0 l0 c0) (.int .i64 n11_7)) (.pointer (some q141)) ∧ ∃ n142 : Int, Ru (Instr.loadAt 3 (.pointer (some q141))) (drew w19) (.int .i64 n142) (drew w19) ∧ ∃ q145 : Addr, Al (Instr.indexAt 23 (.slice a0 l0 c0) (.int .i64 n10_8)) (.pointer (some q145)) ∧ ∃ n146 : Int, Ru (Instr.loadAt 3 (.pointer (some q145))) (drew w19) (.int .i64 n146) (drew w19) ∧ ∃ q147 : Addr, Al (Instr.indexAt 23 (.slice a0 l0 c0) (.int .i64 n10_8)) (.pointer (some q147)) ∧ ∃ w22 : World, RuU (Instr.storeAt 3 (.pointer (some q147)) (.int .i64 n142)) (drew w19) w22 ∧ ∃ q148 : Addr, Al (Instr.indexAt 23 (.slice a0 l0 c0) (.int .i64 n11_7)) (.pointer (some q148)) ∧ ∃ w23 : World, RuU (Instr.storeAt 3 (.pointer (some q148)) (.int .i64 n146)) w22 w23 ∧ k_5 [.int .i64 (IntKind.i64.wrap (n10_8 + 1)), .int .i64 (IntKind.i64.wrap (n11_7 - 1)), .bool b112, .bool b129] w23))) [nth x_5 1, nth x_5 3] w16)) [nth x_5 0, nth x_5 2] w13) [.int .i64 (IntKind.i64.wrap (n10_4 + 1)), .int .i64 (IntKind.i64.wrap (n11_3 - 1)), undef, undef] w12))) [.int .i64 (IntKind.i64.wrap (n2 - 1)), undef] w5)) [.int .i64 (IntKind.i64.wrap (n1 + 1)), undef] w2
set_option maxRecDepth 100000 in
theorem C_slices_partitionOrdered_int (a0 : Option Addr) (l0 c0 : Nat) (n1 : Int) (n2 : Int) (n3 : Int) (w0 : World) (K : Value → World → Prop) (h : D_slices_partitionOrdered_int a0 l0 c0 n1 n2 n3 w0 K) : Cal Try.prog F_slices_partitionOrdered_int #[.slice a0 l0 c0, .int .i64 n1, .int .i64 n2, .int .i64 n3] w0 K :=
 denF_sound (A := { S := [10, 11, 43, 60, 112, 129], ty := [(10, 3), (11, 3), (43, 4), (60, 4), (112, 4), (129, 4)], raw := [] }) mixed Try.func73 (by kernel_rfl) (by kernel_rfl) ((show denF Try.prog _ Try.f73 _ w0 K = D_slices_partitionOrdered_int a0 l0 c0 n1 n2 n3 w0 K by kernel_rfl).mpr h)

/- math.bits.Len32: slots {0: 'x', 2: 'n'};  -/
set_option maxRecDepth 100000 in
def D_bits_Len32 (n0 : Int) (w0 : World) (K : Value → World → Prop) : Prop :=
 Share (fun k => (bif decide (n0 ≥ 65536) then
 k [.int .u32 (Int.fdiv n0 65536), .int .i64 16] w0
 else
 k [.int .u32 n0, .int .i64 0] w0)) fun x w1 =>
 ∃ n0_2 : Int, nth x 0 = .int .u32 n0_2 ∧ Share (fun k_2 => (bif decide (n0_2 ≥ 256) then
 ∃ n2 : Int, nth x 1 = .int .i64 n2 ∧ k_2 [.int .u32 (Int.fdiv n0_2 256), .int .i64 (IntKind.i64.wrap (n2 + 8))] w1
 else
 k_2 [.int .u32 n0_2, nth x 1] w1)) fun x_2 w2 =>
 ∃ n2_2 : Int, nth x_2 1 = .int .i64 n2_2 ∧ ∃ n0_3 : Int, nth x_2 0 = .int .u32 n0_3 ∧ ∃ n16 : Int, Al (Instr.index 9 (.string (⟨#[0, 1, 2, 2, 3, 3, 3, 3, 4, 4, 4, 4, 4, 4, 4, 4, 5, 5, 5, 5, 5, 5, 5, 5, 5, 5, 5, 5, 5, 5, 5, 5, 6, 6, 6, 6, 6, 6, 6, 6, 6, 6, 6, 6, 6, 6, 6, 6, 6, 6, 6, 6, 6, 6, 6, 6, 6, 6, 6, 6, 6, 6, 6, 6, 7, 7, 7, 7, 7, 7, 7, 7, 7, 7, 7, 7, 7, 7, 7, 7, 7, 7, 7, 7, 7, 7, 7, 7, 7, 7, 7, 7, 7, 7, 7, 7, 7, 7, 7, 7, 7, 7, 7, 7, 7, 7, 7, 7, 7, 7, 7, 7, 7, 7, 7, 7, 7, 7, 7, 7, 7, 7, 7, 7, 7, 7, 7, 7, 8, 8, 8, 8, 8, 8, 8, 8, 8, 8, 8, 8, 8, 8, 8, 8, 8, 8, 8, 8, 8, 8, 8, 8, 8, 8, 8, 8, 8, 8, 8, 8, 8, 8, 8, 8, 8, 8, 8, 8, 8, 8, 8, 8, 8, 8, 8, 8, 8, 8, 8, 8, 8, 8, 8, 8, 8, 8, 8, 8, 8, 8, 8, 8, 8, 8, 8, 8, 8, 8, 8, 8, 8, 8, 8, 8, 8, 8, 8, 8, 8, 8, 8, 8, 8, 8, 8, 8, 8, 8, 8, 8, 8, 8, 8, 8, 8, 8, 8, 8, 8, 8, 8, 8, 8, 8, 8, 8, 8, 8, 8, 8, 8, 8, 8, 8, 8, 8, 8, 8, 8, 8, 8, 8, 8, 8, 8, 8]⟩)) (.int .u8 (IntKind.u8.wrap n0_3))) (.int .u8 n16) ∧ K (.int .i64 (IntKind.i64.wrap (n2_2 + (IntKind.i64.wrap n16)))) w2
set_option maxRecDepth 100000 in
theorem C_bits_Len32 (n0 : Int) (w0 : World) (K : Value → World → Prop) (h : D_bits_Len32 n0 w0 K) : Cal Try.prog F_bits_Len32 #[.int .u32 n0] w0 K :=
 denF_sound (A := { S := [0, 2], ty := [(0, 119), (2, 3)], raw := [] }) mixed Try.func74 (by kernel_rfl) (by kernel_rfl) ((show denF Try.prog _ Try.f74 _ w0 K = D_bits_Len32 n0 w0 K by kernel_rfl).mpr h)

/- math.bits.Len64: slots {0: 'x', 2: 'n'};  -/
set_option maxRecDepth 100000 in
def D_bits_Len64 (n0 : Int) (w0 : World) (K : Value → World → Prop) : Prop :=
 Share (fun k => (bif decide (n0 ≥ 4294967296) then
 k [.int .u64 (Int.fdiv n0 4294967296), .int .i64 32] w0
 else
 k [.int .u64 n0, .int .i64 0] w0)) fun x w1 =>
 ∃ n0_2 : Int, nth x 0 = .int .u64 n0_2 ∧ Share (fun k_2 => (bif decide (n0_2 ≥ 65536) then
 ∃ n2 : Int, nth x 1 = .int .i64 n2 ∧ k_2 [.int .u64 (Int.fdiv n0_2 65536), .int .i64 (IntKind.i64.wrap (n2 + 16))] w1
 else
 k_2 [.int .u64 n0_2, nth x 1] w1)) fun x_2 w2 =>
 ∃ n0_3 : Int, nth x_2 0 = .int .u64 n0_3 ∧ Share (fun k_3 => (bif decide (n0_3 ≥ 256) then
 ∃ n2_2 : Int, nth x_2 1 = .int .i64 n2_2 ∧ k_3 [.int .u64 (Int.fdiv n0_3 256), .int .i64 (IntKind.i64.wrap (n2_2 + 8))] w2
 else
 k_3 [.int .u64 n0_3, nth x_2 1] w2)) fun x_3 w3 =>
 ∃ n2_3 : Int, nth x_3 1 = .int .i64 n2_3 ∧ ∃ n0_4 : Int, nth x_3 0 = .int .u64 n0_4 ∧ ∃ n22 : Int, Al (Instr.index 9 (.string (⟨#[0, 1, 2, 2, 3, 3, 3, 3, 4, 4, 4, 4, 4, 4, 4, 4, 5, 5, 5, 5, 5, 5, 5, 5, 5, 5, 5, 5, 5, 5, 5, 5, 6, 6, 6, 6, 6, 6, 6, 6, 6, 6, 6, 6, 6, 6, 6, 6, 6, 6, 6, 6, 6, 6, 6, 6, 6, 6, 6, 6, 6, 6, 6, 6, 7, 7, 7, 7, 7, 7, 7, 7, 7, 7, 7, 7, 7, 7, 7, 7, 7, 7, 7, 7, 7, 7, 7, 7, 7, 7, 7, 7, 7, 7, 7, 7, 7, 7, 7, 7, 7, 7, 7, 7, 7, 7, 7, 7, 7, 7, 7, 7, 7, 7, 7, 7, 7, 7, 7, 7, 7, 7, 7, 7, 7, 7, 7, 7, 8, 8, 8, 8, 8, 8, 8, 8, 8, 8, 8, 8, 8, 8, 8, 8, 8, 8, 8, 8, 8, 8, 8, 8, 8, 8, 8, 8, 8, 8, 8, 8, 8, 8, 8, 8, 8, 8, 8, 8, 8, 8, 8, 8, 8, 8, 8, 8, 8, 8, 8, 8, 8, 8, 8, 8, 8, 8, 8, 8, 8, 8, 8, 8, 8, 8, 8, 8, 8, 8, 8, 8, 8, 8, 8, 8, 8, 8, 8, 8, 8, 8, 8, 8, 8, 8, 8, 8, 8, 8, 8, 8, 8, 8, 8, 8, 8, 8, 8, 8, 8, 8, 8, 8, 8, 8, 8, 8, 8, 8, 8, 8, 8, 8, 8, 8, 8, 8, 8, 8, 8, 8, 8, 8, 8, 8, 8, 8]⟩)) (.int .u8 (IntKind.u8.wrap n0_4))) (.int .u8 n22) ∧ K (.int .i64 (IntKind.i64.wrap (n2_3 + (IntKind.i64.wrap n22)))) w3
set_option maxRecDepth 100000 in
theorem C_bits_Len64 (n0 : Int) (w0 : World) (K : Value → World → Prop) (h : D_bits_Len64 n0 w0 K) : Cal Try.prog F_bits_Len64 #[.int .u64 n0] w0 K :=
 denF_sound (A := { S := [0, 2], ty := [(0, 121), (2, 3)], raw := [] }) mixed Try.func75 (by kernel_rfl) (by kernel_rfl) ((show denF Try.prog _ Try.f75 _ w0 K = D_bits_Len64 n0 w0 K by kernel_rfl).mpr h)

/- levee.num.Diff: slots {6: 'first', 7: 'last', 14: '', 34: ''}; loop over [6, 7, 14, 34] -/
set_option maxRecDepth 100000 in
def D_num_Diff (a0 : Option Addr) (l0 c0 : Nat) (a1 : Option Addr) (l1 c1 : Nat) (w0 : World) (K : Value → World → Prop) : Prop :=
 LoopC (fun k x w1 =>
 ∃ n14 : Int, nth x 2 = .int .i64 n14 ∧ (bif decide (n14 < (if (l1 : Int) > (l0 : Int) then (l1 : Int) else (l0 : Int))) then
 Share (fun k_2 => Share (fun k_3 => (bif decide (n14 < (if (l1 : Int) < (l0 : Int) then (l1 : Int) else (l0 : Int))) then ∃ q27 : Addr, Al (Instr.indexAt 32 (.slice a0 l0 c0) (.int .i64 n14)) (.pointer (some q27)) ∧ ∃ n28 : Int, Ru (Instr.loadAt 5 (.pointer (some q27))) (drew w1) (.int .u8 n28) (drew w1) ∧ ∃ q31 : Addr, Al (Instr.indexAt 32 (.slice a1 l1 c1) (.int .i64 n14)) (.pointer (some q31)) ∧ ∃ n32 : Int, Ru (Instr.loadAt 5 (.pointer (some q31))) (drew w1) (.int .u8 n32) (drew w1) ∧ k_3 [.bool (n28 == n32)] (drew w1) else k_3 [.bool false] (drew w1))) fun x_3 w2 =>
 ∃ b34 : Bool, nth x_3 0 = .bool b34 ∧ (bif b34 then
 k_2 [nth x 0, nth x 1, .bool b34] w2
 else
 ∃ n6 : Int, nth x 0 = .int .i64 n6 ∧ Share (fun k_4 => (bif decide (n6 < 0) then
 k_4 [.int .i64 n14] w2
 else
 k_4 [.int .i64 n6] w2)) fun x_4 w3 =>
 k_2 [nth x_4 0, .int .i64 (IntKind.i64.wrap (n14 + 1)), .bool b34] w3)) fun x_2 w4 =>
 k [nth x_2 0, nth x_2 1, .int .i64 (IntKind.i64.wrap (n14 + 1)), nth x_2 2] w4
 else
 ∃ n6_2 : Int, nth x 0 = .int .i64 n6_2 ∧ ∃ n7 : Int, nth x 1 = .int .i64 n7 ∧ K (.tuple #[.int .i64 n6_2, .int .i64 n7]) w1)) [.int .i64 ((-1)), .int .i64 ((-1)), .int .i64 0, undef] w0
set_option maxRecDepth 100000 in
theorem C_num_Diff (a0 : Option Addr) (l0 c0 : Nat) (a1 : Option Addr) (l1 c1 : Nat) (w0 : World) (K : Value → World → Prop) (h : D_num_Diff a0 l0 c0 a1 l1 c1 w0 K) : Cal Try.prog F_num_Diff #[.slice a0 l0 c0, .slice a1 l1 c1] w0 K :=
 denF_sound (A := { S := [6, 7, 14, 34], ty := [(6, 3), (7, 3), (14, 3), (34, 4)], raw := [] }) mixed Try.func76 (by kernel_rfl) (by kernel_rfl) ((show denF Try.prog _ Try.f76 _ w0 K = D_num_Diff a0 l0 c0 a1 l1 c1 w0 K by kernel_rfl).mpr h)

/- (levee.cache.Cache).out$1: slots {};  -/
set_option maxRecDepth 100000 in
def D_cache_Cache_out_1 (n0 : Int) (v1 : Value) (w0 : World) (K : Value → World → Prop) : Prop :=
 ∃ n5 : Int, Ru (Instr.loadAt 3 v1) w0 (.int .i64 n5) w0 ∧ K (.bool (n0 == n5)) w0
set_option maxRecDepth 100000 in
theorem C_cache_Cache_out_1 (n0 : Int) (v1 : Value) (w0 : World) (K : Value → World → Prop) (h : D_cache_Cache_out_1 n0 v1 w0 K) : Cal Try.prog F_cache_Cache_out_1 #[.int .i64 n0, v1] w0 K :=
 denF_sound (A := { S := [], ty := [], raw := [] }) mixed Try.func77 (by kernel_rfl) (by kernel_rfl) ((show denF Try.prog _ Try.f77 _ w0 K = D_cache_Cache_out_1 n0 v1 w0 K by kernel_rfl).mpr h)

/- slices.siftDownOrdered[int]: slots {8: 'root', 9: 'child', 36: ''}; loop over [8, 9, 36] -/
set_option maxRecDepth 100000 in
def D_slices_siftDownOrdered_int (a0 : Option Addr) (l0 c0 : Nat) (n1 : Int) (n2 : Int) (n3 : Int) (w0 : World) (K : Value → World → Prop) : Prop :=
 LoopC (fun k x w1 =>
 ∃ n8 : Int, nth x 0 = .int .i64 n8 ∧ (bif decide ((IntKind.i64.wrap ((IntKind.i64.wrap (2 * n8)) + 1)) ≥ n2) then
 K (.tuple #[]) w1
 else
 Share (fun k_2 => (bif decide ((IntKind.i64.wrap ((IntKind.i64.wrap ((IntKind.i64.wrap (2 * n8)) + 1)) + 1)) < n2) then ∃ q26 : Addr, Al (Instr.indexAt 23 (.slice a0 l0 c0) (.int .i64 (IntKind.i64.wrap (n3 + (IntKind.i64.wrap ((IntKind.i64.wrap (2 * n8)) + 1)))))) (.pointer (some q26)) ∧ ∃ n27 : Int, Ru (Instr.loadAt 3 (.pointer (some q26))) (drew w1) (.int .i64 n27) (drew w1) ∧ ∃ q33 : Addr, Al (Instr.indexAt 23 (.slice a0 l0 c0) (.int .i64 (IntKind.i64.wrap ((IntKind.i64.wrap (n3 + (IntKind.i64.wrap ((IntKind.i64.wrap (2 * n8)) + 1)))) + 1)))) (.pointer (some q33)) ∧ ∃ n34 : Int, Ru (Instr.loadAt 3 (.pointer (some q33))) (drew w1) (.int .i64 n34) (drew w1) ∧ Cal Try.prog F_cmp_Less_int #[.int .i64 n27, .int .i64 n34] (drew w1) fun r35 w2 => ∃ b35 : Bool, r35 = .bool b35 ∧ k_2 [.bool b35] w2 else k_2 [.bool false] (drew w1))) fun x_2 w3 =>
 ∃ b36 : Bool, nth x_2 0 = .bool b36 ∧ Share (fun k_3 => (bif b36 then
 k_3 [.int .i64 (IntKind.i64.wrap ((IntKind.i64.wrap ((IntKind.i64.wrap (2 * n8)) + 1)) + 1))] w3
 else
 k_3 [.int .i64 (IntKind.i64.wrap ((IntKind.i64.wrap (2 * n8)) + 1))] w3)) fun x_3 w4 =>
 ∃ q43 : Addr, Al (Instr.indexAt 23 (.slice a0 l0 c0) (.int .i64 (IntKind.i64.wrap (n3 + n8)))) (.pointer (some q43)) ∧ ∃ n44 : Int, Ru (Instr.loadAt 3 (.pointer (some q43))) (drew w4) (.int .i64 n44) (drew w4) ∧ ∃ n9 : Int, nth x_3 0 = .int .i64 n9 ∧ ∃ q49 : Addr, Al (Instr.indexAt 23 (.slice a0 l0 c0) (.int .i64 (IntKind.i64.wrap (n3 + n9)))) (.pointer (some q49)) ∧ ∃ n50 : Int, Ru (Instr.loadAt 3 (.pointer (some q49))) (drew w4) (.int .i64 n50) (drew w4) ∧ Cal Try.prog F_cmp_Less_int #[.int .i64 n44, .int .i64 n50] (drew w4) fun r51 w5 => ∃ b51 : Bool, r51 = .bool b51 ∧ (bif !b51 then
 K (.tuple #[]) w5
 else
 ∃ q65 : Addr, Al (Instr.indexAt 23 (.slice a0 l0 c0) (.int .i64 (IntKind.i64.wrap (n3 + n9)))) (.pointer (some q65)) ∧ ∃ n66 : Int, Ru (Instr.loadAt 3 (.pointer (some q65))) (drew w5) (.int .i64 n66) (drew w5) ∧ ∃ q71 : Addr, Al (Instr.indexAt 23 (.slice a0 l0 c0) (.int .i64 (IntKind.i64.wrap (n3 + n8)))) (.pointer (some q71)) ∧ ∃ n72 : Int, Ru (Instr.loadAt 3 (.pointer (some q71))) (drew w5) (.int .i64 n72) (drew w5) ∧ ∃ q73 : Addr, Al (Instr.indexAt 23 (.slice a0 l0 c0) (.int .i64 (IntKind.i64.wrap (n3 + n8)))) (.pointer (some q73)) ∧ ∃ w6 : World, RuU (Instr.storeAt 3 (.pointer (some q73)) (.int .i64 n66)) (drew w5) w6 ∧ ∃ q74 : Addr, Al (Instr.indexAt 23 (.slice a0 l0 c0) (.int .i64 (IntKind.i64.wrap (n3 + n9)))) (.pointer (some q74)) ∧ ∃ w7 : World, RuU (Instr.storeAt 3 (.pointer (some q74)) (.int .i64 n72)) w6 w7 ∧ k [.int .i64 n9, .int .i64 n9, .bool b36] w7))) [.int .i64 n1, undef, undef] w0
set_option maxRecDepth 100000 in
theorem C_slices_siftDownOrdered_int (a0 : Option Addr) (l0 c0 : Nat) (n1 : Int) (n2 : Int) (n3 : Int) (w0 : World) (K : Value → World → Prop) (h : D_slices_siftDownOrdered_int a0 l0 c0 n1 n2 n3 w0 K) : Cal Try.prog F_slices_siftDownOrdered_int #[.slice a0 l0 c0, .int .i64 n1, .int .i64 n2, .int .i64 n3] w0 K :=
 denF_sound (A := { S := [8, 9, 36], ty := [(8, 3), (9, 3), (36, 4)], raw := [] }) mixed Try.func78 (by kernel_rfl) (by kernel_rfl) ((show denF Try.prog _ Try.f78 _ w0 K = D_slices_siftDownOrdered_int a0 l0 c0 n1 n2 n3 w0 K by kernel_rfl).mpr h)

/- slices.nextPowerOfTwo: slots {};  -/
set_option maxRecDepth 100000 in
def D_slices_nextPowerOfTwo (n0 : Int) (w0 : World) (K : Value → World → Prop) : Prop :=
 Cal Try.prog F_bits_Len #[.int .u64 (IntKind.u64.wrap n0)] w0 fun r5 w1 => ∃ n5 : Int, r5 = .int .i64 n5 ∧ ∃ n6 : Int, Al (eqS .shl 105 (.const (.int .u64 1)) (.tmp 5) (.int .u64 1) (.int .i64 n5)) (.int .u64 n6) ∧ K (.int .u64 n6) w1
set_option maxRecDepth 100000 in
theorem C_slices_nextPowerOfTwo (n0 : Int) (w0 : World) (K : Value → World → Prop) (h : D_slices_nextPowerOfTwo n0 w0 K) : Cal Try.prog F_slices_nextPowerOfTwo #[.int .i64 n0] w0 K :=
 denF_sound (A := { S := [], ty := [], raw := [] }) mixed Try.func79 (by kernel_rfl) (by kernel_rfl) ((show denF Try.prog _ Try.f79 _ w0 K = D_slices_nextPowerOfTwo n0 w0 K by kernel_rfl).mpr h)

/- (slices.xorshift).Next: slots {};  -/
set_option maxRecDepth 100000 in
def D_slices_xorshift_Next (p0 : Option Addr) (w0 : World) (K : Value → World → Prop) : Prop :=
 ∃ q4 : Addr, (.pointer p0 : Value) = .pointer (some q4) ∧ ∃ n5 : Int, Ru (Instr.loadAt 124 (.pointer (some q4))) (drew w0) (.int .u64 n5) (drew w0) ∧ ∃ q7 : Addr, (.pointer p0 : Value) = .pointer (some q7) ∧ ∃ n8 : Int, Ru (Instr.loadAt 124 (.pointer (some q7))) (drew w0) (.int .u64 n8) (drew w0) ∧ ∃ q11 : Addr, (.pointer p0 : Value) = .pointer (some q11) ∧ ∃ w1 : World, RuU (Instr.storeAt 124 (.pointer (some q11)) (.int .u64 (IntKind.u64.wrap (bvXor 64 n5 (IntKind.u64.wrap (n8 * 8192)))))) (drew w0) w1 ∧ ∃ q13 : Addr, (.pointer p0 : Value) = .pointer (some q13) ∧ ∃ n14 : Int, Ru (Instr.loadAt 124 (.pointer (some q13))) (drew w1) (.int .u64 n14) (drew w1) ∧ ∃ q16 : Addr, (.pointer p0 : Value) = .pointer (some q16) ∧ ∃ n17 : Int, Ru (Instr.loadAt 124 (.pointer (some q16))) (drew w1) (.int .u64 n17) (drew w1) ∧ ∃ q20 : Addr, (.pointer p0 : Value) = .pointer (some q20) ∧ ∃ w2 : World, RuU (Instr.storeAt 124 (.pointer (some q20)) (.int .u64 (IntKind.u64.wrap (bvXor 64 n14 (Int.fdiv n17 128))))) (drew w1) w2 ∧ ∃ q22 : Addr, (.pointer p0 : Value) = .pointer (some q22) ∧ ∃ n23 : Int, Ru (Instr.loadAt 124 (.pointer (some q22))) (drew w2) (.int .u64 n23) (drew w2) ∧ ∃ q25 : Addr, (.pointer p0 : Value) = .pointer (some q25) ∧ ∃ n26 : Int, Ru (Instr.loadAt 124 (.pointer (some q25))) (drew w2) (.int .u64 n26) (drew w2) ∧ ∃ q29 : Addr, (.pointer p0 : Value) = .pointer (some q29) ∧ ∃ w3 : World, RuU (Instr.storeAt 124 (.pointer (some q29)) (.int .u64 (IntKind.u64.wrap (bvXor 64 n23 (IntKind.u64.wrap (n26 * 131072)))))) (drew w2) w3 ∧ ∃ q31 : Addr, (.pointer p0 : Value) = .pointer (some q31) ∧ ∃ n32 : Int, Ru (Instr.loadAt 124 (.pointer (some q31))) w3 (.int .u64 n32) w3 ∧ K (.int .u64 n32) w3
set_option maxRecDepth 100000 in
theorem C_slices_xorshift_Next (p0 : Option Addr) (w0 : World) (K : Value → World → Prop) (h : D_slices_xorshift_Next p0 w0 K) : Cal Try.prog F_slices_xorshift_Next #[.pointer p0] w0 K :=
 denF_sound (A := { S := [], ty := [], raw := [] }) mixed Try.func80 (by kernel_rfl) (by kernel_rfl) ((show denF Try.prog _ Try.f80 _ w0 K = D_slices_xorshift_Next p0 w0 K by kernel_rfl).mpr h)

/- slices.medianAdjacentOrdered[int]: slots {};  -/
set_option maxRecDepth 100000 in
def D_slices_medianAdjacentOrdered_int (a0 : Option Addr) (l0 c0 : Nat) (n1 : Int) (p2 : Option Addr) (w0 : World) (K : Value → World → Prop) : Prop :=
 Cal Try.prog F_slices_medianOrdered_int #[.slice a0 l0 c0, .int .i64 (IntKind.i64.wrap (n1 - 1)), .int .i64 n1, .int .i64 (IntKind.i64.wrap (n1 + 1)), .pointer p2] w0 fun r14 w1 => ∃ n14 : Int, r14 = .int .i64 n14 ∧ K (.int .i64 n14) w1
set_option maxRecDepth 100000 in
theorem C_slices_medianAdjacentOrdered_int (a0 : Option Addr) (l0 c0 : Nat) (n1 : Int) (p2 : Option Addr) (w0 : World) (K : Value → World → Prop) (h : D_slices_medianAdjacentOrdered_int a0 l0 c0 n1 p2 w0 K) : Cal Try.prog F_slices_medianAdjacentOrdered_int #[.slice a0 l0 c0, .int .i64 n1, .pointer p2] w0 K :=
 denF_sound (A := { S := [], ty := [], raw := [] }) mixed Try.func81 (by kernel_rfl) (by kernel_rfl) ((show denF Try.prog _ Try.f81 _ w0 K = D_slices_medianAdjacentOrdered_int a0 l0 c0 n1 p2 w0 K by kernel_rfl).mpr h)

/- slices.medianOrdered[int]: slots {};  -/
set_option maxRecDepth 100000 in
def D_slices_medianOrdered_int (a0 : Option Addr) (l0 c0 : Nat) (n1 : Int) (n2 : Int) (n3 : Int) (p4 : Option Addr) (w0 : World) (K : Value → World → Prop) : Prop :=
 Cal Try.prog F_slices_order2Ordered_int #[.slice a0 l0 c0, .int .i64 n1, .int .i64 n2, .pointer p4] w0 fun r16 w1 => ∃ n16a : Int, ∃ n16b : Int, r16 = .tuple #[.int .i64 n16a, .int .i64 n16b] ∧ Cal Try.prog F_slices_order2Ordered_int #[.slice a0 l0 c0, .int .i64 n16b, .int .i64 n3, .pointer p4] w1 fun r24 w2 => ∃ n24a : Int, ∃ n24b : Int, r24 = .tuple #[.int .i64 n24a, .int .i64 n24b] ∧ Cal Try.prog F_slices_order2Ordered_int #[.slice a0 l0 c0, .int .i64 n16a, .int .i64 n24a, .pointer p4] w2 fun r32 w3 => ∃ n32a : Int, ∃ n32b : Int, r32 = .tuple #[.int .i64 n32a, .int .i64 n32b] ∧ K (.int .i64 n32b) w3
set_option maxRecDepth 100000 in
theorem C_slices_medianOrdered_int (a0 : Option Addr) (l0 c0 : Nat) (n1 : Int) (n2 : Int) (n3 : Int) (p4 : Option Addr) (w0 : World) (K : Value → World → Prop) (h : D_slices_medianOrdered_int a0 l0 c0 n1 n2 n3 p4 w0 K) : Cal Try.prog F_slices_medianOrdered_int #[.slice a0 l0 c0, .int .i64 n1, .int .i64 n2, .int .i64 n3, .pointer p4] w0 K :=
 denF_sound (A := { S := [], ty := [], raw := [] }) mixed Try.func82 (by kernel_rfl) (by kernel_rfl) ((show denF Try.prog _ Try.f82 _ w0 K = D_slices_medianOrdered_int a0 l0 c0 n1 n2 n3 p4 w0 K by kernel_rfl).mpr h)

/- cmp.isNaN[int]: slots {};  -/
set_option maxRecDepth 100000 in
def D_cmp_isNaN_int (n0 : Int) (w0 : World) (K : Value → World → Prop) : Prop :=
 K (.bool (n0 != n0)) w0
set_option maxRecDepth 100000 in
theorem C_cmp_isNaN_int (n0 : Int) (w0 : World) (K : Value → World → Prop) (h : D_cmp_isNaN_int n0 w0 K) : Cal Try.prog F_cmp_isNaN_int #[.int .i64 n0] w0 K :=
 denF_sound (A := { S := [], ty := [], raw := [] }) mixed Try.func83 (by kernel_rfl) (by kernel_rfl) ((show denF Try.prog _ Try.f83 _ w0 K = D_cmp_isNaN_int n0 w0 K by kernel_rfl).mpr h)

/- slices.order2Ordered[int]: slots {};  -/
set_option maxRecDepth 100000 in
def D_slices_order2Ordered_int (a0 : Option Addr) (l0 c0 : Nat) (n1 : Int) (n2 : Int) (p3 : Option Addr) (w0 : World) (K : Value → World → Prop) : Prop :=
 ∃ q12 : Addr, Al (Instr.indexAt 23 (.slice a0 l0 c0) (.int .i64 n2)) (.pointer (some q12)) ∧ ∃ n13 : Int, Ru (Instr.loadAt 3 (.pointer (some q12))) (drew w0) (.int .i64 n13) (drew w0) ∧ ∃ q16 : Addr, Al (Instr.indexAt 23 (.slice a0 l0 c0) (.int .i64 n1)) (.pointer (some q16)) ∧ ∃ n17 : Int, Ru (Instr.loadAt 3 (.pointer (some q16))) (drew w0) (.int .i64 n17) (drew w0) ∧ Cal Try.prog F_cmp_Less_int #[.int .i64 n13, .int .i64 n17] (drew w0) fun r18 w1 => ∃ b18 : Bool, r18 = .bool b18 ∧ (bif b18 then
 ∃ q20 : Addr, (.pointer p3 : Value) = .pointer (some q20) ∧ ∃ n21 : Int, Ru (Instr.loadAt 3 (.pointer (some q20))) w1 (.int .i64 n21) w1 ∧ ∃ q23 : Addr, (.pointer p3 : Value) = .pointer (some q23) ∧ ∃ w2 : World, RuU (Instr.storeAt 3 (.pointer (some q23)) (.int .i64 (IntKind.i64.wrap (n21 + 1)))) w1 w2 ∧ K (.tuple #[.int .i64 n2, .int .i64 n1]) w2
 else
 K (.tuple #[.int .i64 n1, .int .i64 n2]) w1)
set_option maxRecDepth 100000 in
theorem C_slices_order2Ordered_int (a0 : Option Addr) (l0 c0 : Nat) (n1 : Int) (n2 : Int) (p3 : Option Addr) (w0 : World) (K : Value → World → Prop) (h : D_slices_order2Ordered_int a0 l0 c0 n1 n2 p3 w0 K) : Cal Try.prog F_slices_order2Ordered_int #[.slice a0 l0 c0, .int .i64 n1, .int .i64 n2, .pointer p3] w0 K :=
 denF_sound (A := { S := [], ty := [], raw := [] }) mixed Try.func84 (by kernel_rfl) (by kernel_rfl) ((show denF Try.prog _ Try.f84 _ w0 K = D_slices_order2Ordered_int a0 l0 c0 n1 n2 p3 w0 K by kernel_rfl).mpr h)

end Go.Proofs.Ytocjjigmpgekfaa
