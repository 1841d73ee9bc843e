/- What functions of the translation come to, as printed by a program of this session. -/
import Derived.Test.YtgcecmfjpljpcaaIds
open Go Go.Den Go.Proofs
namespace Go.Proofs.Ytgcecmfjpljpcaa

/- levee.leveelaw11.PatchOrder: slots {9: 'l', 10: 'i', 13: 'ids', 14: 'ahead', 15: 'k', 20: 'i', 22: 'i', 25: 'k', 40: '', 48: '', 60: '', 70: '', 89: '', 128: '', 197: '', 225: ''}; loop over [13, 14, 15, 89]; loop over [25, 225]; loop over [22, 25, 197, 225]; loop over [20]; loop over [9, 10, 13, 14, 15, 48, 60, 70, 89, 128] -/
set_option maxRecDepth 100000 in
def D_leveelaw11_PatchOrder (a0 : Option Addr) (l0 c0 : Nat) (a1 : Option Addr) (l1 c1 : Nat) (w0 : World) (K : Value → World → Prop) : Prop :=
 Cal Try.prog F_disk_New #[.int .i64 5] w0 fun r27 w1 => ∃ p27a : Option Addr, ∃ n27b : Int, r27 = .tuple #[.pointer p27a, .int .i64 n27b] ∧ Cal Try.prog F_patch_Open #[.pointer p27a, .int .i64 5] w1 fun r32 w2 => ∃ p32a : Option Addr, ∃ n32b : Int, r32 = .tuple #[.pointer p32a, .int .i64 n32b] ∧ Share (fun k => (bif n32b != 0 then k [.bool true] w2 else k [.bool (Option.isNone p32a)] w2)) fun x w3 =>
 ∃ b40 : Bool, nth x 0 = .bool b40 ∧ (bif b40 then
 K (.bool false) w3
 else
 LoopC (fun k_2 x_2 w4 =>
 Share (fun k_3 => ∃ n10 : Int, nth x_2 1 = .int .i64 n10 ∧ (bif decide (n10 < (l0 : Int)) then k_3 [.bool (decide (n10 < 60))] w4 else k_3 [.bool false] w4)) fun x_3 w5 =>
 ∃ b48 : Bool, nth x_3 0 = .bool b48 ∧ (bif b48 then
 ∃ n10_2 : Int, nth x_2 1 = .int .i64 n10_2 ∧ ∃ q53 : Addr, Al (Instr.indexAt 59 (.slice a0 l0 c0) (.int .i64 n10_2)) (.pointer (some q53)) ∧ ∃ g54 : Array Value, Ru (Instr.loadAt 66 (.pointer (some q53))) w5 (.agg g54) w5 ∧ ∃ q11 : Addr, ∃ w6 : World, Ru (Instr.alloc 66 true (.tuple #[])) w5 (.pointer (some q11)) w6 ∧ ∃ w7 : World, RuU (Instr.storeAt 66 (.pointer (some q11)) (.agg g54)) w6 w7 ∧ ∃ n56 : Int, Ru (Instr.loadAt 3 (.pointer (some (Addr.add q11 1)))) w7 (.int .i64 n56) w7 ∧ Cal Try.prog F_leveeref01_Count #[.int .i64 n56, .int .i64 5] w7 fun r57 w8 => ∃ n57 : Int, r57 = .int .i64 n57 ∧ ∃ n59 : Int, Ru (Instr.loadAt 3 (.pointer (some (Addr.add q11 0)))) w8 (.int .i64 n59) w8 ∧ Share (fun k_4 => (bif n59 == 5 then
 k_4 [.bool (n59 == 5)] w8
 else
 k_4 [.bool (n59 == 6)] w8)) fun x_4 w9 =>
 ∃ b60 : Bool, nth x_4 0 = .bool b60 ∧ Share (fun k_5 => (bif b60 then
 Cal Try.prog F_patch_Store_Write #[.pointer p32a, .int .i64 n57] w9 fun r65 w10 => ∃ n65 : Int, r65 = .int .i64 n65 ∧ k_5 [nth x_2 0, nth x_2 2, nth x_2 3, nth x_2 4, nth x_2 7, nth x_2 8, nth x_2 9] w10
 else
 Share (fun k_6 => (bif n59 == 7 then
 Cal Try.prog F_patch_Store_Flush #[.pointer p32a] w9 fun r69 w11 => ∃ n69 : Int, r69 = .int .i64 n69 ∧ k_6 [nth x_2 0, nth x_2 2, nth x_2 3, nth x_2 4, nth x_2 7, nth x_2 8, nth x_2 9] w11
 else
 Share (fun k_7 => (bif n59 == 0 then
 k_7 [.bool (n59 == 0)] w9
 else
 Share (fun k_8 => (bif n59 == 1 then
 k_8 [.bool (n59 == 1)] w9
 else
 Share (fun k_9 => (bif n59 == 2 then
 k_9 [.bool (n59 == 2)] w9
 else
 Share (fun k_10 => (bif n59 == 3 then
 k_10 [.bool (n59 == 3)] w9
 else
 k_10 [.bool (n59 == 4)] w9)) fun x_10 w12 =>
 k_9 [nth x_10 0] w12)) fun x_9 w13 =>
 k_8 [nth x_9 0] w13)) fun x_8 w14 =>
 k_7 [nth x_8 0] w14)) fun x_7 w15 =>
 ∃ b70 : Bool, nth x_7 0 = .bool b70 ∧ Share (fun k_11 => (bif b70 then
 LoopC (fun k_12 x_12 w16 =>
 Share (fun k_13 => ∃ n15 : Int, nth x_12 2 = .int .i64 n15 ∧ ∃ (a78 : Option Addr) (l78 c78 : Nat), Ru (Instr.loadAt 64 (.pointer (some (Addr.add q11 4)))) w16 (.slice a78 l78 c78) w16 ∧ (bif decide (n15 < (l78 : Int)) then (bif decide (n15 < 4) then ∃ (a9 : Option Addr) (l9 c9 : Nat), nth x_2 0 = .slice a9 l9 c9 ∧ k_13 [.bool (decide ((l9 : Int) > 0))] w16 else k_13 [.bool false] w16) else k_13 [.bool false] w16)) fun x_13 w17 =>
 ∃ b89 : Bool, nth x_13 0 = .bool b89 ∧ (bif b89 then
 ∃ (a93 : Option Addr) (l93 c93 : Nat), Ru (Instr.loadAt 64 (.pointer (some (Addr.add q11 4)))) w17 (.slice a93 l93 c93) w17 ∧ ∃ n15_2 : Int, nth x_12 2 = .int .i64 n15_2 ∧ ∃ q95 : Addr, Al (Instr.indexAt 64 (.slice a93 l93 c93) (.int .i64 n15_2)) (.pointer (some q95)) ∧ ∃ n96 : Int, Ru (Instr.loadAt 2 (.pointer (some q95))) w17 (.int .i64 n96) w17 ∧ ∃ (a9_2 : Option Addr) (l9_2 c9_2 : Nat), nth x_2 0 = .slice a9_2 l9_2 c9_2 ∧ Cal Try.prog F_leveeref01_Count #[.int .i64 (Int.tmod n96 1000), .int .i64 ((l9_2 : Int))] w17 fun r100 w18 => ∃ n100 : Int, r100 = .int .i64 n100 ∧ ∃ (a13 : Option Addr) (l13 c13 : Nat), nth x_12 0 = .slice a13 l13 c13 ∧ ∃ (a104 : Option Addr) (l104 c104 : Nat), ∃ w19 : World, Ru (Instr.buildSlice 64 1 #[(0, .int .i64 (IntKind.i64.wrap (n100 + 1)))]) w18 (.slice a104 l104 c104) w19 ∧ ∃ (a105 : Option Addr) (l105 c105 : Nat), ∃ w20 : World, Ru (Builtin.append_ #[64, 64] 64 #[.slice a13 l13 c13, .slice a104 l104 c104]) w19 (.slice a105 l105 c105) w20 ∧ ∃ (a14 : Option Addr) (l14 c14 : Nat), nth x_12 1 = .slice a14 l14 c14 ∧ ∃ (a108 : Option Addr) (l108 c108 : Nat), ∃ w21 : World, Ru (Instr.buildSlice 31 1 #[(0, .int .i64 n100)]) w20 (.slice a108 l108 c108) w21 ∧ ∃ (a109 : Option Addr) (l109 c109 : Nat), ∃ w22 : World, Ru (Builtin.append_ #[31, 31] 31 #[.slice a14 l14 c14, .slice a108 l108 c108]) w21 (.slice a109 l109 c109) w22 ∧ k_12 [.slice a105 l105 c105, .slice a109 l109 c109, .int .i64 (IntKind.i64.wrap (n15_2 + 1)), .bool b89] w22
 else
 ∃ (a9_3 : Option Addr) (l9_3 c9_3 : Nat), nth x_2 0 = .slice a9_3 l9_3 c9_3 ∧ ∃ (a115 : Option Addr) (l115 c115 : Nat), ∃ w23 : World, Ru (Instr.buildSlice 32 1 #[(0, .int .u8 1)]) w17 (.slice a115 l115 c115) w23 ∧ ∃ (a13_2 : Option Addr) (l13_2 c13_2 : Nat), nth x_12 0 = .slice a13_2 l13_2 c13_2 ∧ Cal Try.prog F_patch_Store_Patch #[.pointer p32a, .int .i64 n57, .int .i64 ((l9_3 : Int)), .slice a115 l115 c115, .slice a13_2 l13_2 c13_2] w23 fun r117 w24 => ∃ n117a : Int, ∃ n117b : Int, r117 = .tuple #[.int .i64 n117a, .int .i64 n117b] ∧ Share (fun k_14 => (bif n117b != 0 then k_14 [.bool true] w24 else k_14 [.bool (n117a != (IntKind.i64.wrap ((l9_3 : Int) + 1)))] w24)) fun x_14 w25 =>
 ∃ b128 : Bool, nth x_14 0 = .bool b128 ∧ (bif b128 then
 K (.bool false) w25
 else
 ∃ (a14_2 : Option Addr) (l14_2 c14_2 : Nat), nth x_12 1 = .slice a14_2 l14_2 c14_2 ∧ ∃ g134 : Array Value, Al (Instr.build 70 #[(0, .int .i64 n57), (1, .int .i64 ((l9_3 : Int))), (2, .slice a14_2 l14_2 c14_2)]) (.agg g134) ∧ ∃ (a135 : Option Addr) (l135 c135 : Nat), ∃ w26 : World, Ru (Instr.buildSlice 63 1 #[(0, .agg g134)]) w25 (.slice a135 l135 c135) w26 ∧ ∃ (a136 : Option Addr) (l136 c136 : Nat), ∃ w27 : World, Ru (Builtin.append_ #[63, 63] 63 #[.slice a9_3 l9_3 c9_3, .slice a135 l135 c135]) w26 (.slice a136 l136 c136) w27 ∧ k_11 [.slice a136 l136 c136, .slice a13_2 l13_2 c13_2, .slice a14_2 l14_2 c14_2, nth x_12 2, .bool b89, .bool b128] w27))) [.slice none 0 0, .slice none 0 0, .int .i64 0, nth x_2 8] w15
 else
 k_11 [nth x_2 0, nth x_2 2, nth x_2 3, nth x_2 4, nth x_2 8, nth x_2 9] w15)) fun x_11 w28 =>
 k_6 [nth x_11 0, nth x_11 1, nth x_11 2, nth x_11 3, .bool b70, nth x_11 4, nth x_11 5] w28)) fun x_6 w29 =>
 k_5 [nth x_6 0, nth x_6 1, nth x_6 2, nth x_6 3, nth x_6 4, nth x_6 5, nth x_6 6] w29)) fun x_5 w30 =>
 k_2 [nth x_5 0, .int .i64 (IntKind.i64.wrap (n10_2 + 1)), nth x_5 1, nth x_5 2, nth x_5 3, .bool b48, .bool b60, nth x_5 4, nth x_5 5, nth x_5 6] w30
 else
 ∃ (a9_4 : Option Addr) (l9_4 c9_4 : Nat), nth x_2 0 = .slice a9_4 l9_4 c9_4 ∧ ∃ (a139 : Option Addr) (l139 c139 : Nat), ∃ w31 : World, Ru (Instr.makeSlice 71 (.int .i64 ((l9_4 : Int))) (.int .i64 ((l9_4 : Int)))) w5 (.slice a139 l139 c139) w31 ∧ LoopC (fun k_15 x_15 w32 =>
 ∃ n20 : Int, nth x_15 0 = .int .i64 n20 ∧ (bif decide (n20 < (l9_4 : Int)) then
 Cal Try.prog F_patch_Store_Safe #[.pointer p32a, .int .i64 (IntKind.i64.wrap (n20 + 1))] w32 fun r151 w33 => ∃ b151 : Bool, r151 = .bool b151 ∧ ∃ q152 : Addr, Al (Instr.indexAt 71 (.slice a139 l139 c139) (.int .i64 n20)) (.pointer (some q152)) ∧ ∃ w34 : World, RuU (Instr.storeAt 4 (.pointer (some q152)) (.bool b151)) w33 w34 ∧ k_15 [.int .i64 (IntKind.i64.wrap (n20 + 1))] w34
 else
 Cal Try.prog F_disk_Disk_Crash #[.pointer p27a, .slice a1 l1 c1] w32 fun r155 w35 => r155 = .tuple #[] ∧ ∃ (a158 : Option Addr) (l158 c158 : Nat), ∃ w36 : World, Ru (Instr.makeSlice 71 (.int .i64 ((l9_4 : Int))) (.int .i64 ((l9_4 : Int)))) w35 (.slice a158 l158 c158) w36 ∧ LoopC (fun k_16 x_16 w37 =>
 ∃ n22 : Int, nth x_16 0 = .int .i64 n22 ∧ (bif decide (n22 < (l9_4 : Int)) then
 ∃ q169 : Addr, Al (Instr.indexAt 63 (.slice a9_4 l9_4 c9_4) (.int .i64 n22)) (.pointer (some q169)) ∧ ∃ n171 : Int, Ru (Instr.loadAt 3 (.pointer (some (Addr.add q169 0)))) w37 (.int .i64 n171) w37 ∧ Cal Try.prog F_disk_Disk_Read #[.pointer p27a, .int .i64 n171] w37 fun r172 w38 => ∃ (a172a : Option Addr) (l172a c172a : Nat), ∃ n172b : Int, r172 = .tuple #[.slice a172a l172a c172a, .int .i64 n172b] ∧ ∃ q180 : Addr, Al (Instr.indexAt 63 (.slice a9_4 l9_4 c9_4) (.int .i64 n22)) (.pointer (some q180)) ∧ ∃ n182 : Int, Ru (Instr.loadAt 3 (.pointer (some (Addr.add q180 1)))) w38 (.int .i64 n182) w38 ∧ ∃ q183 : Addr, Al (Instr.indexAt 32 (.slice a172a l172a c172a) (.int .i64 n182)) (.pointer (some q183)) ∧ ∃ n184 : Int, Ru (Instr.loadAt 5 (.pointer (some q183))) w38 (.int .u8 n184) w38 ∧ ∃ q186 : Addr, Al (Instr.indexAt 71 (.slice a158 l158 c158) (.int .i64 n22)) (.pointer (some q186)) ∧ ∃ w39 : World, RuU (Instr.storeAt 4 (.pointer (some q186)) (.bool (n184 == 1))) w38 w39 ∧ Share (fun k_17 => ∃ q189 : Addr, Al (Instr.indexAt 71 (.slice a139 l139 c139) (.int .i64 n22)) (.pointer (some q189)) ∧ ∃ b190 : Bool, Ru (Instr.loadAt 4 (.pointer (some q189))) w39 (.bool b190) w39 ∧ (bif b190 then ∃ q194 : Addr, Al (Instr.indexAt 71 (.slice a158 l158 c158) (.int .i64 n22)) (.pointer (some q194)) ∧ ∃ b195 : Bool, Ru (Instr.loadAt 4 (.pointer (some q194))) w39 (.bool b195) w39 ∧ k_17 [.bool (!b195)] w39 else k_17 [.bool false] w39)) fun x_17 w40 =>
 ∃ b197 : Bool, nth x_17 0 = .bool b197 ∧ (bif b197 then
 K (.bool false) w40
 else
 LoopC (fun k_18 x_18 w41 =>
 ∃ n25 : Int, nth x_18 0 = .int .i64 n25 ∧ ∃ q201 : Addr, Al (Instr.indexAt 63 (.slice a9_4 l9_4 c9_4) (.int .i64 n22)) (.pointer (some q201)) ∧ ∃ (a203 : Option Addr) (l203 c203 : Nat), Ru (Instr.loadAt 31 (.pointer (some (Addr.add q201 2)))) w41 (.slice a203 l203 c203) w41 ∧ (bif decide (n25 < (l203 : Int)) then
 Share (fun k_19 => ∃ q210 : Addr, Al (Instr.indexAt 71 (.slice a158 l158 c158) (.int .i64 n22)) (.pointer (some q210)) ∧ ∃ b211 : Bool, Ru (Instr.loadAt 4 (.pointer (some q210))) w41 (.bool b211) w41 ∧ (bif b211 then ∃ q216 : Addr, Al (Instr.indexAt 63 (.slice a9_4 l9_4 c9_4) (.int .i64 n22)) (.pointer (some q216)) ∧ ∃ (a218 : Option Addr) (l218 c218 : Nat), Ru (Instr.loadAt 31 (.pointer (some (Addr.add q216 2)))) w41 (.slice a218 l218 c218) w41 ∧ ∃ q220 : Addr, Al (Instr.indexAt 31 (.slice a218 l218 c218) (.int .i64 n25)) (.pointer (some q220)) ∧ ∃ n221 : Int, Ru (Instr.loadAt 3 (.pointer (some q220))) w41 (.int .i64 n221) w41 ∧ ∃ q222 : Addr, Al (Instr.indexAt 71 (.slice a158 l158 c158) (.int .i64 n221)) (.pointer (some q222)) ∧ ∃ b223 : Bool, Ru (Instr.loadAt 4 (.pointer (some q222))) w41 (.bool b223) w41 ∧ k_19 [.bool (!b223)] w41 else k_19 [.bool false] w41)) fun x_19 w42 =>
 ∃ b225 : Bool, nth x_19 0 = .bool b225 ∧ (bif b225 then
 K (.bool false) w42
 else
 k_18 [.int .i64 (IntKind.i64.wrap (n25 + 1)), .bool b225] w42)
 else
 k_16 [.int .i64 (IntKind.i64.wrap (n22 + 1)), .int .i64 n25, .bool b197, nth x_18 1] w41)) [.int .i64 0, nth x_16 3] w40)
 else
 Cal Try.prog F_leveelaw11_known #[] w37 fun r226 w43 => ∃ b226 : Bool, r226 = .bool b226 ∧ K (.bool b226) w43)) [.int .i64 0, undef, undef, undef] w36)) [.int .i64 0] w31)) [.slice none 0 0, .int .i64 0, undef, undef, undef, undef, undef, undef, undef, undef] w3)
set_option maxRecDepth 100000 in
theorem C_leveelaw11_PatchOrder (a0 : Option Addr) (l0 c0 : Nat) (a1 : Option Addr) (l1 c1 : Nat) (w0 : World) (K : Value → World → Prop) (h : D_leveelaw11_PatchOrder a0 l0 c0 a1 l1 c1 w0 K) : Cal Try.prog F_leveelaw11_PatchOrder #[.slice a0 l0 c0, .slice a1 l1 c1] w0 K :=
 denF_sound (A := { S := [9, 10, 13, 14, 15, 20, 22, 25, 40, 48, 60, 70, 89, 128, 197, 225], ty := [(9, 63), (10, 3), (13, 64), (14, 31), (15, 3), (20, 3), (22, 3), (25, 3), (40, 4), (48, 4), (60, 4), (70, 4), (89, 4), (128, 4), (197, 4), (225, 4)], raw := [] }) mixed Try.func7 (by kernel_rfl) (by kernel_rfl) ((show denF Try.prog _ Try.f7 _ w0 K = D_leveelaw11_PatchOrder a0 l0 c0 a1 l1 c1 w0 K by kernel_rfl).mpr h)

/- levee.leveelaw11.PatchGoes: slots {2: '', 7: 'last', 8: 'i', 10: 'l', 14: 'i', 17: 'k', 18: 'b', 37: '', 45: '', 66: '', 89: '', 127: ''}; loop over [2, 17]; loop over [2, 18]; loop over [2, 14, 17, 127]; loop over [7, 8, 10, 45, 66, 89] -/
set_option maxRecDepth 100000 in
def D_leveelaw11_PatchGoes (a0 : Option Addr) (l0 c0 : Nat) (w0 : World) (K : Value → World → Prop) : Prop :=
 Cal Try.prog F_disk_New #[.int .i64 5] w0 fun r24 w1 => ∃ p24a : Option Addr, ∃ n24b : Int, r24 = .tuple #[.pointer p24a, .int .i64 n24b] ∧ Cal Try.prog F_patch_Open #[.pointer p24a, .int .i64 5] w1 fun r29 w2 => ∃ p29a : Option Addr, ∃ n29b : Int, r29 = .tuple #[.pointer p29a, .int .i64 n29b] ∧ Share (fun k => (bif n29b != 0 then k [.bool true] w2 else k [.bool (Option.isNone p29a)] w2)) fun x w3 =>
 ∃ b37 : Bool, nth x 0 = .bool b37 ∧ (bif b37 then
 K (.bool false) w3
 else
 LoopC (fun k_2 x_2 w4 =>
 Share (fun k_3 => ∃ n8 : Int, nth x_2 1 = .int .i64 n8 ∧ (bif decide (n8 < (l0 : Int)) then k_3 [.bool (decide (n8 < 40))] w4 else k_3 [.bool false] w4)) fun x_3 w5 =>
 ∃ b45 : Bool, nth x_3 0 = .bool b45 ∧ (bif b45 then
 ∃ n8_2 : Int, nth x_2 1 = .int .i64 n8_2 ∧ ∃ q50 : Addr, Al (Instr.indexAt 59 (.slice a0 l0 c0) (.int .i64 n8_2)) (.pointer (some q50)) ∧ ∃ g51 : Array Value, Ru (Instr.loadAt 66 (.pointer (some q50))) w5 (.agg g51) w5 ∧ ∃ q9 : Addr, ∃ w6 : World, Ru (Instr.alloc 66 true (.tuple #[])) w5 (.pointer (some q9)) w6 ∧ ∃ w7 : World, RuU (Instr.storeAt 66 (.pointer (some q9)) (.agg g51)) w6 w7 ∧ ∃ w8 : World, RuU (Instr.storeAt 4 (.pointer (some (Addr.add q9 5))) (.bool false)) w7 w8 ∧ ∃ g53 : Array Value, Ru (Instr.loadAt 66 (.pointer (some q9))) w8 (.agg g53) w8 ∧ ∃ n7 : Int, nth x_2 0 = .int .i64 n7 ∧ Cal Try.prog F_leveelaw11_after #[.agg g53, .int .i64 n7] w8 fun r55 w9 => ∃ (a55 : Option Addr) (l55 c55 : Nat), r55 = .slice a55 l55 c55 ∧ Share (fun k_4 => (bif n7 == 0 then
 k_4 [.slice none 0 0] w9
 else
 k_4 [.slice a55 l55 c55] w9)) fun x_4 w10 =>
 Share (fun k_5 => ∃ n59 : Int, Ru (Instr.loadAt 3 (.pointer (some (Addr.add q9 0)))) w10 (.int .i64 n59) w10 ∧ (bif decide (n59 < 5) then ∃ (a63 : Option Addr) (l63 c63 : Nat), Ru (Instr.loadAt 32 (.pointer (some (Addr.add q9 3)))) w10 (.slice a63 l63 c63) w10 ∧ k_5 [.bool (decide ((l63 : Int) < 300))] w10 else k_5 [.bool false] w10)) fun x_5 w11 =>
 ∃ b66 : Bool, nth x_5 0 = .bool b66 ∧ Share (fun k_6 => (bif b66 then
 ∃ n70 : Int, Ru (Instr.loadAt 3 (.pointer (some (Addr.add q9 1)))) w11 (.int .i64 n70) w11 ∧ ∃ n72 : Int, Ru (Instr.loadAt 3 (.pointer (some (Addr.add q9 2)))) w11 (.int .i64 n72) w11 ∧ ∃ (a74 : Option Addr) (l74 c74 : Nat), Ru (Instr.loadAt 32 (.pointer (some (Addr.add q9 3)))) w11 (.slice a74 l74 c74) w11 ∧ ∃ (a10 : Option Addr) (l10 c10 : Nat), nth x_4 0 = .slice a10 l10 c10 ∧ Cal Try.prog F_patch_Store_Patch #[.pointer p29a, .int .i64 n70, .int .i64 n72, .slice a74 l74 c74, .slice a10 l10 c10] w11 fun r76 w12 => ∃ n76a : Int, ∃ n76b : Int, r76 = .tuple #[.int .i64 n76a, .int .i64 n76b] ∧ Share (fun k_7 => (bif n76b == 0 then
 k_7 [.int .i64 n76a] w12
 else
 k_7 [.int .i64 n7] w12)) fun x_7 w13 =>
 k_6 [nth x_7 0] w13
 else
 k_6 [.int .i64 n7] w11)) fun x_6 w14 =>
 Share (fun k_8 => ∃ n83 : Int, Ru (Instr.loadAt 3 (.pointer (some (Addr.add q9 0)))) w14 (.int .i64 n83) w14 ∧ (bif n83 == 5 then k_8 [.bool true] w14 else ∃ n87 : Int, Ru (Instr.loadAt 3 (.pointer (some (Addr.add q9 0)))) w14 (.int .i64 n87) w14 ∧ k_8 [.bool (n87 == 6)] w14)) fun x_8 w15 =>
 ∃ b89 : Bool, nth x_8 0 = .bool b89 ∧ Share (fun k_9 => (bif b89 then
 ∃ n92 : Int, Ru (Instr.loadAt 3 (.pointer (some (Addr.add q9 1)))) w15 (.int .i64 n92) w15 ∧ Cal Try.prog F_patch_Store_Write #[.pointer p29a, .int .i64 n92] w15 fun r93 w16 => ∃ n93 : Int, r93 = .int .i64 n93 ∧ k_9 [] w16
 else
 k_9 [] w15)) fun x_9 w17 =>
 k_2 [nth x_6 0, .int .i64 (IntKind.i64.wrap (n8_2 + 1)), nth x_4 0, .bool b45, .bool b66, .bool b89] w17
 else
 Cal Try.prog F_patch_Store_Open #[.pointer p29a] w5 fun r95 w18 => ∃ n95 : Int, r95 = .int .i64 n95 ∧ LoopC (fun k_10 x_10 w19 =>
 ∃ n14 : Int, nth x_10 1 = .int .i64 n14 ∧ (bif decide (n14 < n95) then
 Cal Try.prog F_patch_Store_Dirty #[.pointer p29a] w19 fun r102 w20 => ∃ (a102 : Option Addr) (l102 c102 : Nat), r102 = .slice a102 l102 c102 ∧ Cal Try.prog F_patch_Store_Open #[.pointer p29a] w20 fun r104 w21 => ∃ n104 : Int, r104 = .int .i64 n104 ∧ LoopC (fun k_11 x_11 w22 =>
 ∃ n17 : Int, nth x_11 1 = .int .i64 n17 ∧ (bif decide (n17 < (l102 : Int)) then
 ∃ q114 : Addr, Al (Instr.indexAt 31 (.slice a102 l102 c102) (.int .i64 n17)) (.pointer (some q114)) ∧ ∃ n115 : Int, Ru (Instr.loadAt 3 (.pointer (some q114))) w22 (.int .i64 n115) w22 ∧ Cal Try.prog F_patch_Store_Write #[.pointer p29a, .int .i64 n115] w22 fun r116 w23 => ∃ n116 : Int, r116 = .int .i64 n116 ∧ (bif n116 != 0 then
 K (.bool false) w23
 else
 k_11 [nth x_11 0, .int .i64 (IntKind.i64.wrap (n17 + 1))] w23)
 else
 Cal Try.prog F_patch_Store_Flush #[.pointer p29a] w22 fun r119 w24 => ∃ n119 : Int, r119 = .int .i64 n119 ∧ Share (fun k_12 => (bif decide (n104 > 0) then Cal Try.prog F_patch_Store_Open #[.pointer p29a] w24 fun r124 w25 => ∃ n124 : Int, r124 = .int .i64 n124 ∧ k_12 [.bool (decide (n124 ≥ n104))] w25 else k_12 [.bool false] w24)) fun x_12 w26 =>
 ∃ b127 : Bool, nth x_12 0 = .bool b127 ∧ (bif b127 then
 K (.bool false) w26
 else
 k_10 [nth x_11 0, .int .i64 (IntKind.i64.wrap (n14 + 1)), .int .i64 n17, .bool b127] w26))) [nth x_10 0, .int .i64 0] w21
 else
 LoopC (fun k_13 x_13 w27 =>
 ∃ n18 : Int, nth x_13 1 = .int .i64 n18 ∧ (bif decide (n18 < 5) then
 Cal Try.prog F_patch_Store_Read #[.pointer p29a, .int .i64 n18] w27 fun r135 w28 => ∃ (a135a : Option Addr) (l135a c135a : Nat), ∃ n135b : Int, r135 = .tuple #[.slice a135a l135a c135a, .int .i64 n135b] ∧ Cal Try.prog F_disk_Disk_Safe #[.pointer p24a, .int .i64 n18] w28 fun r141 w29 => ∃ (a141a : Option Addr) (l141a c141a : Nat), ∃ n141b : Int, r141 = .tuple #[.slice a141a l141a c141a, .int .i64 n141b] ∧ ∃ s145 : ByteArray, Ru (convert 32 9 (.slice a135a l135a c135a)) w29 (.string s145) w29 ∧ ∃ s147 : ByteArray, Ru (convert 32 9 (.slice a141a l141a c141a)) w29 (.string s147) w29 ∧ (bif !((ByteArray.toList s145) == (ByteArray.toList s147)) then
 K (.bool false) w29
 else
 k_13 [nth x_13 0, .int .i64 (IntKind.i64.wrap (n18 + 1))] w29)
 else
 Share (fun k_14 => Cal Try.prog F_patch_Store_Open #[.pointer p29a] w27 fun r150 w30 => ∃ n150 : Int, r150 = .int .i64 n150 ∧ (bif n150 == 0 then Cal Try.prog F_patch_Store_Dirty #[.pointer p29a] w30 fun r154 w31 => ∃ (a154 : Option Addr) (l154 c154 : Nat), r154 = .slice a154 l154 c154 ∧ (bif (l154 : Int) == 0 then Cal Try.prog F_leveelaw11_known #[] w31 fun r159 w32 => ∃ b159 : Bool, r159 = .bool b159 ∧ k_14 [.bool b159] w32 else k_14 [.bool false] w31) else k_14 [.bool false] w30)) fun x_14 w33 =>
 ∃ b2 : Bool, nth x_14 0 = .bool b2 ∧ K (.bool b2) w33)) [nth x_10 0, .int .i64 0] w19)) [.bool false, .int .i64 0, undef, undef] w18)) [.int .i64 0, .int .i64 0, undef, undef, undef, undef] w3)
set_option maxRecDepth 100000 in
theorem C_leveelaw11_PatchGoes (a0 : Option Addr) (l0 c0 : Nat) (w0 : World) (K : Value → World → Prop) (h : D_leveelaw11_PatchGoes a0 l0 c0 w0 K) : Cal Try.prog F_leveelaw11_PatchGoes #[.slice a0 l0 c0] w0 K :=
 denF_sound (A := { S := [2, 7, 8, 10, 14, 17, 18, 37, 45, 66, 89, 127], ty := [(2, 4), (7, 2), (8, 3), (10, 64), (14, 3), (17, 3), (18, 3), (37, 4), (45, 4), (66, 4), (89, 4), (127, 4)], raw := [] }) mixed Try.func8 (by kernel_rfl) (by kernel_rfl) ((show denF Try.prog _ Try.f8 _ w0 K = D_leveelaw11_PatchGoes a0 l0 c0 w0 K by kernel_rfl).mpr h)

/- levee.leveelaw11.after: slots {5: 'out', 6: 'i', 7: 'k', 13: '', 24: ''}; loop over [5, 6, 7, 24] -/
set_option maxRecDepth 100000 in
def D_leveelaw11_after (g0 : Array Value) (n1 : Int) (w0 : World) (K : Value → World → Prop) : Prop :=
 ∃ q2 : Addr, ∃ w1 : World, Ru (Instr.box 66 (.agg g0)) w0 (.pointer (some q2)) w1 ∧ Share (fun k => ∃ b9 : Bool, Ru (Instr.loadAt 4 (.pointer (some (Addr.add q2 5)))) w1 (.bool b9) w1 ∧ (bif b9 then k [.bool true] w1 else k [.bool (decide (n1 < 1))] w1)) fun x w2 =>
 ∃ b13 : Bool, nth x 0 = .bool b13 ∧ (bif b13 then
 ∃ (a15 : Option Addr) (l15 c15 : Nat), Ru (Instr.loadAt 64 (.pointer (some (Addr.add q2 4)))) w2 (.slice a15 l15 c15) w2 ∧ K (.slice a15 l15 c15) w2
 else
 LoopC (fun k_2 x_2 w3 =>
 Share (fun k_3 => ∃ n6 : Int, nth x_2 1 = .int .i64 n6 ∧ ∃ (a18 : Option Addr) (l18 c18 : Nat), Ru (Instr.loadAt 64 (.pointer (some (Addr.add q2 4)))) w3 (.slice a18 l18 c18) w3 ∧ (bif decide (n6 < (l18 : Int)) then k_3 [.bool (decide (n6 < 4))] w3 else k_3 [.bool false] w3)) fun x_3 w4 =>
 ∃ b24 : Bool, nth x_3 0 = .bool b24 ∧ (bif b24 then
 ∃ (a28 : Option Addr) (l28 c28 : Nat), Ru (Instr.loadAt 64 (.pointer (some (Addr.add q2 4)))) w4 (.slice a28 l28 c28) w4 ∧ ∃ n6_2 : Int, nth x_2 1 = .int .i64 n6_2 ∧ ∃ q30 : Addr, Al (Instr.indexAt 64 (.slice a28 l28 c28) (.int .i64 n6_2)) (.pointer (some q30)) ∧ ∃ n31 : Int, Ru (Instr.loadAt 2 (.pointer (some q30))) w4 (.int .i64 n31) w4 ∧ ∃ n33 : Int, Al (eqS .rem 2 (.tmp 31) (.tmp 32) (.int .i64 n31) (.int .i64 n1)) (.int .i64 n33) ∧ Share (fun k_4 => (bif decide (n33 < 0) then
 k_4 [.int .i64 (IntKind.i64.wrap (0 - n33))] w4
 else
 k_4 [.int .i64 n33] w4)) fun x_4 w5 =>
 ∃ (a5 : Option Addr) (l5 c5 : Nat), nth x_2 0 = .slice a5 l5 c5 ∧ ∃ n7 : Int, nth x_4 0 = .int .i64 n7 ∧ ∃ (a42 : Option Addr) (l42 c42 : Nat), ∃ w6 : World, Ru (Instr.buildSlice 64 1 #[(0, .int .i64 (IntKind.i64.wrap (n1 - n7)))]) w5 (.slice a42 l42 c42) w6 ∧ ∃ (a43 : Option Addr) (l43 c43 : Nat), ∃ w7 : World, Ru (Builtin.append_ #[64, 64] 64 #[.slice a5 l5 c5, .slice a42 l42 c42]) w6 (.slice a43 l43 c43) w7 ∧ k_2 [.slice a43 l43 c43, .int .i64 (IntKind.i64.wrap (n6_2 + 1)), .int .i64 n7, .bool b24] w7
 else
 ∃ (a5_2 : Option Addr) (l5_2 c5_2 : Nat), nth x_2 0 = .slice a5_2 l5_2 c5_2 ∧ K (.slice a5_2 l5_2 c5_2) w4)) [.slice none 0 0, .int .i64 0, undef, undef] w2)
set_option maxRecDepth 100000 in
theorem C_leveelaw11_after (g0 : Array Value) (n1 : Int) (w0 : World) (K : Value → World → Prop) (h : D_leveelaw11_after g0 n1 w0 K) : Cal Try.prog F_leveelaw11_after #[.agg g0, .int .i64 n1] w0 K :=
 denF_sound (A := { S := [5, 6, 7, 13, 24], ty := [(5, 64), (6, 3), (7, 2), (13, 4), (24, 4)], raw := [] }) mixed Try.func42 (by kernel_rfl) (by kernel_rfl) ((show denF Try.prog _ Try.f42 _ w0 K = D_leveelaw11_after g0 n1 w0 K by kernel_rfl).mpr h)

end Go.Proofs.Ytgcecmfjpljpcaa
