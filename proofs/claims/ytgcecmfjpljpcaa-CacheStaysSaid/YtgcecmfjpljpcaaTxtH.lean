/- What functions of the translation come to, as printed by a program of this session. -/
import Derived.Test.YtgcecmfjpljpcaaIds
open Go Go.Den Go.Proofs
namespace Go.Proofs.Ytgcecmfjpljpcaa

/- levee.leveelaw10.CacheStays: slots {11: 'i', 16: 'n', 17: 'n', 41: '', 55: '', 61: '', 134: ''}; loop over [17, 134]; loop over [16]; loop over [11, 16, 17, 41, 55, 61, 134] -/
set_option maxRecDepth 100000 in
def D_leveelaw10_CacheStays (n0 : Int) (a1 : Option Addr) (l1 c1 : Nat) (w0 : World) (K : Value → World → Prop) : Prop :=
 Cal Try.prog F_disk_New #[.int .i64 6] w0 fun r19 w1 => ∃ p19a : Option Addr, ∃ n19b : Int, r19 = .tuple #[.pointer p19a, .int .i64 n19b] ∧ Cal Try.prog F_leveeref01_Count #[.int .i64 n0, .int .i64 4] w1 fun r23 w2 => ∃ n23 : Int, r23 = .int .i64 n23 ∧ Cal Try.prog F_cache_New #[.pointer p19a, .int .i64 (IntKind.i64.wrap (1 + n23))] w2 fun r28 w3 => ∃ p28a : Option Addr, ∃ n28b : Int, r28 = .tuple #[.pointer p28a, .int .i64 n28b] ∧ (bif n28b != 0 then
 K (.bool false) w3
 else
 ∃ (a33 : Option Addr) (l33 c33 : Nat), ∃ w4 : World, Ru (Instr.makeSlice 31 (.int .i64 6) (.int .i64 6)) w3 (.slice a33 l33 c33) w4 ∧ LoopC (fun k x w5 =>
 Share (fun k_2 => ∃ n11 : Int, nth x 0 = .int .i64 n11 ∧ (bif decide (n11 < (l1 : Int)) then k_2 [.bool (decide (n11 < 60))] w5 else k_2 [.bool false] w5)) fun x_2 w6 =>
 ∃ b41 : Bool, nth x_2 0 = .bool b41 ∧ (bif b41 then
 Share (fun k_3 => ∃ n11_2 : Int, nth x 0 = .int .i64 n11_2 ∧ ∃ q46 : Addr, Al (Instr.indexAt 22 (.slice a1 l1 c1) (.int .i64 n11_2)) (.pointer (some q46)) ∧ ∃ g47 : Array Value, Ru (Instr.loadAt 34 (.pointer (some q46))) w6 (.agg g47) w6 ∧ ∃ q12 : Addr, ∃ w7 : World, Ru (Instr.alloc 34 true (.tuple #[])) w6 (.pointer (some q12)) w7 ∧ ∃ w8 : World, RuU (Instr.storeAt 34 (.pointer (some q12)) (.agg g47)) w7 w8 ∧ ∃ n49 : Int, Ru (Instr.loadAt 3 (.pointer (some (Addr.add q12 1)))) w8 (.int .i64 n49) w8 ∧ Cal Try.prog F_leveeref01_Count #[.int .i64 n49, .int .i64 6] w8 fun r50 w9 => ∃ n50 : Int, r50 = .int .i64 n50 ∧ Cal Try.prog F_cache_Cache_Dirty #[.pointer p28a] w9 fun r52 w10 => ∃ (a52 : Option Addr) (l52 c52 : Nat), r52 = .slice a52 l52 c52 ∧ ∃ n54 : Int, Ru (Instr.loadAt 3 (.pointer (some (Addr.add q12 0)))) w10 (.int .i64 n54) w10 ∧ Share (fun k_4 => (bif n54 == 0 then
 k_4 [.bool (n54 == 0)] w10
 else
 k_4 [.bool (n54 == 1)] w10)) fun x_4 w11 =>
 ∃ b55 : Bool, nth x_4 0 = .bool b55 ∧ Share (fun k_5 => (bif b55 then
 Cal Try.prog F_cache_Cache_Read #[.pointer p28a, .int .i64 n50] w11 fun r60 w12 => ∃ (a60a : Option Addr) (l60a c60a : Nat), ∃ n60b : Int, r60 = .tuple #[.slice a60a l60a c60a, .int .i64 n60b] ∧ k_5 [nth x 5] w12
 else
 Share (fun k_6 => (bif n54 == 2 then
 k_6 [.bool (n54 == 2)] w11
 else
 k_6 [.bool (n54 == 3)] w11)) fun x_6 w13 =>
 ∃ b61 : Bool, nth x_6 0 = .bool b61 ∧ Share (fun k_7 => (bif b61 then
 ∃ (a67 : Option Addr) (l67 c67 : Nat), Ru (Instr.loadAt 32 (.pointer (some (Addr.add q12 2)))) w13 (.slice a67 l67 c67) w13 ∧ Cal Try.prog F_leveeref01_Fill #[.slice a67 l67 c67] w13 fun r68 w14 => ∃ (a68 : Option Addr) (l68 c68 : Nat), r68 = .slice a68 l68 c68 ∧ Cal Try.prog F_cache_Cache_Lay #[.pointer p28a, .int .i64 n50, .slice a68 l68 c68] w14 fun r69 w15 => ∃ n69 : Int, r69 = .int .i64 n69 ∧ k_7 [] w15
 else
 Share (fun k_8 => (bif n54 == 6 then
 Cal Try.prog F_cache_Cache_Pin #[.pointer p28a, .int .i64 n50] w13 fun r74 w16 => ∃ n74 : Int, r74 = .int .i64 n74 ∧ Share (fun k_9 => (bif n74 == 0 then
 ∃ q78 : Addr, Al (Instr.indexAt 31 (.slice a33 l33 c33) (.int .i64 n50)) (.pointer (some q78)) ∧ ∃ n79 : Int, Ru (Instr.loadAt 3 (.pointer (some q78))) w16 (.int .i64 n79) w16 ∧ ∃ q81 : Addr, Al (Instr.indexAt 31 (.slice a33 l33 c33) (.int .i64 n50)) (.pointer (some q81)) ∧ ∃ w17 : World, RuU (Instr.storeAt 3 (.pointer (some q81)) (.int .i64 (IntKind.i64.wrap (n79 + 1)))) w16 w17 ∧ k_9 [] w17
 else
 k_9 [] w16)) fun x_9 w18 =>
 k_8 [] w18
 else
 (bif n54 == 7 then
 Cal Try.prog F_cache_Cache_Unpin #[.pointer p28a, .int .i64 n50] w13 fun r86 w19 => ∃ n86 : Int, r86 = .int .i64 n86 ∧ Share (fun k_10 => (bif n86 == 0 then
 ∃ q90 : Addr, Al (Instr.indexAt 31 (.slice a33 l33 c33) (.int .i64 n50)) (.pointer (some q90)) ∧ ∃ n91 : Int, Ru (Instr.loadAt 3 (.pointer (some q90))) w19 (.int .i64 n91) w19 ∧ ∃ q93 : Addr, Al (Instr.indexAt 31 (.slice a33 l33 c33) (.int .i64 n50)) (.pointer (some q93)) ∧ ∃ w20 : World, RuU (Instr.storeAt 3 (.pointer (some q93)) (.int .i64 (IntKind.i64.wrap (n91 - 1)))) w19 w20 ∧ k_10 [] w20
 else
 k_10 [] w19)) fun x_10 w21 =>
 k_8 [] w21
 else
 k_3 [nth x 1, nth x 2, .bool b55, .bool b61, nth x 6] w13))) fun x_8 w22 =>
 k_7 [] w22)) fun x_7 w23 =>
 k_5 [.bool b61] w23)) fun x_5 w24 =>
 Cal Try.prog F_cache_Cache_Held #[.pointer p28a] w24 fun r95 w25 => ∃ (a95 : Option Addr) (l95 c95 : Nat), r95 = .slice a95 l95 c95 ∧ (bif decide ((l95 : Int) > (IntKind.i64.wrap (1 + n23))) then
 K (.bool false) w25
 else
 LoopC (fun k_11 x_11 w26 =>
 ∃ n16 : Int, nth x_11 0 = .int .i64 n16 ∧ (bif decide (n16 < (l52 : Int)) then
 ∃ q109 : Addr, Al (Instr.indexAt 31 (.slice a52 l52 c52) (.int .i64 n16)) (.pointer (some q109)) ∧ ∃ n110 : Int, Ru (Instr.loadAt 3 (.pointer (some q109))) w26 (.int .i64 n110) w26 ∧ Cal Try.prog F_leveelaw10_among #[.slice a95 l95 c95, .int .i64 n110] w26 fun r111 w27 => ∃ b111 : Bool, r111 = .bool b111 ∧ (bif !b111 then
 K (.bool false) w27
 else
 k_11 [.int .i64 (IntKind.i64.wrap (n16 + 1))] w27)
 else
 LoopC (fun k_12 x_12 w28 =>
 ∃ n17 : Int, nth x_12 0 = .int .i64 n17 ∧ (bif decide (n17 < 6) then
 Share (fun k_13 => ∃ q119 : Addr, Al (Instr.indexAt 31 (.slice a33 l33 c33) (.int .i64 n17)) (.pointer (some q119)) ∧ ∃ n120 : Int, Ru (Instr.loadAt 3 (.pointer (some q119))) w28 (.int .i64 n120) w28 ∧ (bif decide (n120 < 0) then k_13 [.bool true] w28 else ∃ q125 : Addr, Al (Instr.indexAt 31 (.slice a33 l33 c33) (.int .i64 n17)) (.pointer (some q125)) ∧ ∃ n126 : Int, Ru (Instr.loadAt 3 (.pointer (some q125))) w28 (.int .i64 n126) w28 ∧ (bif decide (n126 > 0) then Cal Try.prog F_leveelaw10_among #[.slice a95 l95 c95, .int .i64 n17] w28 fun r131 w29 => ∃ b131 : Bool, r131 = .bool b131 ∧ k_13 [.bool (!b131)] w29 else k_13 [.bool false] w28))) fun x_13 w30 =>
 ∃ b134 : Bool, nth x_13 0 = .bool b134 ∧ (bif b134 then
 K (.bool false) w30
 else
 k_12 [.int .i64 (IntKind.i64.wrap (n17 + 1)), .bool b134] w30)
 else
 k_3 [.int .i64 n16, .int .i64 n17, .bool b55, nth x_5 0, nth x_12 1] w28)) [.int .i64 0, nth x 6] w26)) [.int .i64 0] w25)) fun x_3 w31 =>
 ∃ n11_3 : Int, nth x 0 = .int .i64 n11_3 ∧ k [.int .i64 (IntKind.i64.wrap (n11_3 + 1)), nth x_3 0, nth x_3 1, .bool b41, nth x_3 2, nth x_3 3, nth x_3 4] w31
 else
 Cal Try.prog F_leveelaw10_known #[] w6 fun r135 w32 => ∃ b135 : Bool, r135 = .bool b135 ∧ K (.bool b135) w32)) [.int .i64 0, undef, undef, undef, undef, undef, undef] w4)
set_option maxRecDepth 100000 in
theorem C_leveelaw10_CacheStays (n0 : Int) (a1 : Option Addr) (l1 c1 : Nat) (w0 : World) (K : Value → World → Prop) (h : D_leveelaw10_CacheStays n0 a1 l1 c1 w0 K) : Cal Try.prog F_leveelaw10_CacheStays #[.int .i64 n0, .slice a1 l1 c1] w0 K :=
 denF_sound (A := { S := [11, 16, 17, 41, 55, 61, 134], ty := [(11, 3), (16, 3), (17, 3), (41, 4), (55, 4), (61, 4), (134, 4)], raw := [] }) mixed Try.func3 (by kernel_rfl) (by kernel_rfl) ((show denF Try.prog _ Try.f3 _ w0 K = D_leveelaw10_CacheStays n0 a1 l1 c1 w0 K by kernel_rfl).mpr h)

/- levee.leveelaw10.CacheReads: slots {10: 'i', 40: '', 112: '', 113: '', 166: ''}; loop over [10, 40, 112, 113, 166] -/
set_option maxRecDepth 100000 in
def D_leveelaw10_CacheReads (n0 : Int) (a1 : Option Addr) (l1 c1 : Nat) (w0 : World) (K : Value → World → Prop) : Prop :=
 Cal Try.prog F_disk_New #[.int .i64 4] w0 fun r19 w1 => ∃ p19a : Option Addr, ∃ n19b : Int, r19 = .tuple #[.pointer p19a, .int .i64 n19b] ∧ Cal Try.prog F_leveeref01_Count #[.int .i64 n0, .int .i64 4] w1 fun r25 w2 => ∃ n25 : Int, r25 = .int .i64 n25 ∧ Cal Try.prog F_cache_New #[.pointer p19a, .int .i64 (IntKind.i64.wrap (1 + n25))] w2 fun r27 w3 => ∃ p27a : Option Addr, ∃ n27b : Int, r27 = .tuple #[.pointer p27a, .int .i64 n27b] ∧ (bif n27b != 0 then
 K (.bool false) w3
 else
 ∃ (a32 : Option Addr) (l32 c32 : Nat), ∃ w4 : World, Ru (Instr.makeSlice 44 (.int .i64 4) (.int .i64 4)) w3 (.slice a32 l32 c32) w4 ∧ LoopC (fun k x w5 =>
 Share (fun k_2 => ∃ n10 : Int, nth x 0 = .int .i64 n10 ∧ (bif decide (n10 < (l1 : Int)) then k_2 [.bool (decide (n10 < 50))] w5 else k_2 [.bool false] w5)) fun x_2 w6 =>
 ∃ b40 : Bool, nth x_2 0 = .bool b40 ∧ (bif b40 then
 ∃ n10_2 : Int, nth x 0 = .int .i64 n10_2 ∧ ∃ q45 : Addr, Al (Instr.indexAt 22 (.slice a1 l1 c1) (.int .i64 n10_2)) (.pointer (some q45)) ∧ ∃ g46 : Array Value, Ru (Instr.loadAt 34 (.pointer (some q45))) w6 (.agg g46) w6 ∧ ∃ q11 : Addr, ∃ w7 : World, Ru (Instr.alloc 34 true (.tuple #[])) w6 (.pointer (some q11)) w7 ∧ ∃ w8 : World, RuU (Instr.storeAt 34 (.pointer (some q11)) (.agg g46)) w7 w8 ∧ Cal Try.prog F_disk_Disk_Bytes #[.pointer p19a] w8 fun r48 w9 => ∃ (a48 : Option Addr) (l48 c48 : Nat), r48 = .slice a48 l48 c48 ∧ ∃ s49 : ByteArray, Ru (convert 32 9 (.slice a48 l48 c48)) w9 (.string s49) w9 ∧ ∃ n51 : Int, Ru (Instr.loadAt 3 (.pointer (some (Addr.add q11 1)))) w9 (.int .i64 n51) w9 ∧ Cal Try.prog F_leveeref01_Count #[.int .i64 n51, .int .i64 4] w9 fun r52 w10 => ∃ n52 : Int, r52 = .int .i64 n52 ∧ ∃ n54 : Int, Ru (Instr.loadAt 3 (.pointer (some (Addr.add q11 0)))) w10 (.int .i64 n54) w10 ∧ Share (fun k_3 => (bif n54 == 2 then
 k_3 [.bool (n54 == 2)] w10
 else
 k_3 [.bool (n54 == 3)] w10)) fun x_3 w11 =>
 ∃ b113 : Bool, nth x_3 0 = .bool b113 ∧ Share (fun k_4 => (bif b113 then
 ∃ (a119 : Option Addr) (l119 c119 : Nat), Ru (Instr.loadAt 32 (.pointer (some (Addr.add q11 2)))) w11 (.slice a119 l119 c119) w11 ∧ Cal Try.prog F_leveeref01_Fill #[.slice a119 l119 c119] w11 fun r120 w12 => ∃ (a120 : Option Addr) (l120 c120 : Nat), r120 = .slice a120 l120 c120 ∧ Cal Try.prog F_cache_Cache_Lay #[.pointer p27a, .int .i64 n52, .slice a120 l120 c120] w12 fun r121 w13 => ∃ n121 : Int, r121 = .int .i64 n121 ∧ Share (fun k_5 => (bif n121 == 0 then
 ∃ (a126 : Option Addr) (l126 c126 : Nat), Ru (Instr.loadAt 32 (.pointer (some (Addr.add q11 2)))) w13 (.slice a126 l126 c126) w13 ∧ Cal Try.prog F_leveeref01_Fill #[.slice a126 l126 c126] w13 fun r127 w14 => ∃ (a127 : Option Addr) (l127 c127 : Nat), r127 = .slice a127 l127 c127 ∧ ∃ s128 : ByteArray, Ru (convert 32 9 (.slice a127 l127 c127)) w14 (.string s128) w14 ∧ ∃ q129 : Addr, Al (Instr.indexAt 44 (.slice a32 l32 c32) (.int .i64 n52)) (.pointer (some q129)) ∧ ∃ w15 : World, RuU (Instr.storeAt 9 (.pointer (some q129)) (.string s128)) w14 w15 ∧ k_5 [] w15
 else
 k_5 [] w13)) fun x_5 w16 =>
 k_4 [nth x 2] w16
 else
 Share (fun k_6 => (bif n54 == 4 then
 Cal Try.prog F_cache_Cache_Write #[.pointer p27a, .int .i64 n52, .slice none 0 0] w11 fun r134 w17 => ∃ n134 : Int, r134 = .int .i64 n134 ∧ k_6 [nth x 2] w17
 else
 Share (fun k_7 => (bif n54 == 5 then
 ∃ (a140 : Option Addr) (l140 c140 : Nat), Ru (Instr.loadAt 32 (.pointer (some (Addr.add q11 2)))) w11 (.slice a140 l140 c140) w11 ∧ Cal Try.prog F_leveeref01_Fill #[.slice a140 l140 c140] w11 fun r141 w18 => ∃ (a141 : Option Addr) (l141 c141 : Nat), r141 = .slice a141 l141 c141 ∧ Cal Try.prog F_cache_Cache_Write #[.pointer p27a, .int .i64 n52, .slice a141 l141 c141] w18 fun r142 w19 => ∃ n142 : Int, r142 = .int .i64 n142 ∧ k_7 [nth x 2] w19
 else
 Share (fun k_8 => (bif n54 == 8 then
 Cal Try.prog F_cache_Cache_Drop #[.pointer p27a, .int .i64 n52] w11 fun r147 w20 => ∃ n147 : Int, r147 = .int .i64 n147 ∧ Share (fun k_9 => (bif n147 == 0 then
 ∃ q151 : Addr, Al (Instr.indexAt 44 (.slice a32 l32 c32) (.int .i64 n52)) (.pointer (some q151)) ∧ ∃ w21 : World, RuU (Instr.storeAt 9 (.pointer (some q151)) (.string ByteArray.empty)) w20 w21 ∧ k_9 [] w21
 else
 k_9 [] w20)) fun x_9 w22 =>
 k_8 [nth x 2] w22
 else
 Cal Try.prog F_cache_Cache_Read #[.pointer p27a, .int .i64 n52] w11 fun r58 w23 => ∃ (a58a : Option Addr) (l58a c58a : Nat), ∃ n58b : Int, r58 = .tuple #[.slice a58a l58a c58a, .int .i64 n58b] ∧ Cal Try.prog F_disk_Disk_Read #[.pointer p19a, .int .i64 n52] w23 fun r64 w24 => ∃ (a64a : Option Addr) (l64a c64a : Nat), ∃ n64b : Int, r64 = .tuple #[.slice a64a l64a c64a, .int .i64 n64b] ∧ Share (fun k_10 => (bif n58b == 0 then ∃ s71 : ByteArray, Ru (convert 32 9 (.slice a58a l58a c58a)) (drew w24) (.string s71) (drew w24) ∧ ∃ q74 : Addr, Al (Instr.indexAt 44 (.slice a32 l32 c32) (.int .i64 n52)) (.pointer (some q74)) ∧ ∃ s75 : ByteArray, Ru (Instr.loadAt 9 (.pointer (some q74))) (drew w24) (.string s75) (drew w24) ∧ (bif !((ByteArray.toList s71) == (ByteArray.toList s75)) then ∃ q81 : Addr, Al (Instr.indexAt 44 (.slice a32 l32 c32) (.int .i64 n52)) (.pointer (some q81)) ∧ ∃ s82 : ByteArray, Ru (Instr.loadAt 9 (.pointer (some q81))) (drew w24) (.string s82) (drew w24) ∧ (bif !((ByteArray.toList s82) == (ByteArray.toList ByteArray.empty)) then ∃ s86 : ByteArray, Ru (convert 32 9 (.slice a64a l64a c64a)) (drew w24) (.string s86) (drew w24) ∧ ∃ s88 : ByteArray, Ru (convert 32 9 (.slice a58a l58a c58a)) (drew w24) (.string s88) (drew w24) ∧ (bif !((ByteArray.toList s86) == (ByteArray.toList s88)) then k_10 [.bool true] (drew w24) else ∃ q94 : Addr, Al (Instr.indexAt 44 (.slice a32 l32 c32) (.int .i64 n52)) (.pointer (some q94)) ∧ ∃ s95 : ByteArray, Ru (Instr.loadAt 9 (.pointer (some q94))) (drew w24) (.string s95) (drew w24) ∧ (bif (ByteArray.toList s95) == (ByteArray.toList ByteArray.empty) then ∃ s99 : ByteArray, Ru (convert 32 9 (.slice a58a l58a c58a)) (drew w24) (.string s99) (drew w24) ∧ ∃ s101 : ByteArray, Ru (convert 32 9 (.slice a64a l64a c64a)) (drew w24) (.string s101) (drew w24) ∧ (bif !((ByteArray.toList s99) == (ByteArray.toList s101)) then Cal Try.prog F_leveelaw10_wrote #[.slice a1 l1 c1, .int .i64 n10_2, .int .i64 n52] (drew w24) fun r108 w25 => ∃ b108 : Bool, r108 = .bool b108 ∧ k_10 [.bool (!b108)] w25 else k_10 [.bool false] (drew w24)) else k_10 [.bool false] (drew w24))) else ∃ q94_2 : Addr, Al (Instr.indexAt 44 (.slice a32 l32 c32) (.int .i64 n52)) (.pointer (some q94_2)) ∧ ∃ s95_2 : ByteArray, Ru (Instr.loadAt 9 (.pointer (some q94_2))) (drew w24) (.string s95_2) (drew w24) ∧ (bif (ByteArray.toList s95_2) == (ByteArray.toList ByteArray.empty) then ∃ s99_2 : ByteArray, Ru (convert 32 9 (.slice a58a l58a c58a)) (drew w24) (.string s99_2) (drew w24) ∧ ∃ s101_2 : ByteArray, Ru (convert 32 9 (.slice a64a l64a c64a)) (drew w24) (.string s101_2) (drew w24) ∧ (bif !((ByteArray.toList s99_2) == (ByteArray.toList s101_2)) then Cal Try.prog F_leveelaw10_wrote #[.slice a1 l1 c1, .int .i64 n10_2, .int .i64 n52] (drew w24) fun r108_2 w26 => ∃ b108_2 : Bool, r108_2 = .bool b108_2 ∧ k_10 [.bool (!b108_2)] w26 else k_10 [.bool false] (drew w24)) else k_10 [.bool false] (drew w24))) else k_10 [.bool false] (drew w24)) else k_10 [.bool false] (drew w24))) fun x_10 w27 =>
 ∃ b112 : Bool, nth x_10 0 = .bool b112 ∧ (bif b112 then
 K (.bool false) w27
 else
 k_8 [.bool b112] w27))) fun x_8 w28 =>
 k_7 [nth x_8 0] w28)) fun x_7 w29 =>
 k_6 [nth x_7 0] w29)) fun x_6 w30 =>
 k_4 [nth x_6 0] w30)) fun x_4 w31 =>
 Share (fun k_11 => ∃ n153 : Int, Ru (Instr.loadAt 3 (.pointer (some (Addr.add q11 0)))) w31 (.int .i64 n153) w31 ∧ (bif n153 != 4 then ∃ n157 : Int, Ru (Instr.loadAt 3 (.pointer (some (Addr.add q11 0)))) w31 (.int .i64 n157) w31 ∧ (bif n157 != 5 then Cal Try.prog F_disk_Disk_Bytes #[.pointer p19a] w31 fun r162 w32 => ∃ (a162 : Option Addr) (l162 c162 : Nat), r162 = .slice a162 l162 c162 ∧ ∃ s163 : ByteArray, Ru (convert 32 9 (.slice a162 l162 c162)) w32 (.string s163) w32 ∧ k_11 [.bool (!((ByteArray.toList s163) == (ByteArray.toList s49)))] w32 else k_11 [.bool false] w31) else k_11 [.bool false] w31)) fun x_11 w33 =>
 ∃ b166 : Bool, nth x_11 0 = .bool b166 ∧ (bif b166 then
 K (.bool false) w33
 else
 k [.int .i64 (IntKind.i64.wrap (n10_2 + 1)), .bool b40, nth x_4 0, .bool b113, .bool b166] w33)
 else
 Cal Try.prog F_leveelaw10_known #[] w6 fun r167 w34 => ∃ b167 : Bool, r167 = .bool b167 ∧ K (.bool b167) w34)) [.int .i64 0, undef, undef, undef, undef] w4)
set_option maxRecDepth 100000 in
theorem C_leveelaw10_CacheReads (n0 : Int) (a1 : Option Addr) (l1 c1 : Nat) (w0 : World) (K : Value → World → Prop) (h : D_leveelaw10_CacheReads n0 a1 l1 c1 w0 K) : Cal Try.prog F_leveelaw10_CacheReads #[.int .i64 n0, .slice a1 l1 c1] w0 K :=
 denF_sound (A := { S := [10, 40, 112, 113, 166], ty := [(10, 3), (40, 4), (112, 4), (113, 4), (166, 4)], raw := [] }) mixed Try.func4 (by kernel_rfl) (by kernel_rfl) ((show denF Try.prog _ Try.f4 _ w0 K = D_leveelaw10_CacheReads n0 a1 l1 c1 w0 K by kernel_rfl).mpr h)

/- levee.leveelaw10.CacheNil: slots {4: ''};  -/
set_option maxRecDepth 100000 in
def D_leveelaw10_CacheNil (n0 : Int) (a1 : Option Addr) (l1 c1 : Nat) (w0 : World) (K : Value → World → Prop) : Prop :=
 Cal Try.prog F_cache_New #[.pointer none, .int .i64 2] w0 fun r11 w1 => ∃ p11a : Option Addr, ∃ n11b : Int, r11 = .tuple #[.pointer p11a, .int .i64 n11b] ∧ Cal Try.prog F_cache_Cache_Read #[.pointer none, .int .i64 n0] w1 fun r17 w2 => ∃ (a17a : Option Addr) (l17a c17a : Nat), ∃ n17b : Int, r17 = .tuple #[.slice a17a l17a c17a, .int .i64 n17b] ∧ Share (fun k => (bif Option.isNone p11a then (bif n11b == 2 then (bif n17b == 2 then Cal Try.prog F_cache_Cache_Lay #[.pointer none, .int .i64 n0, .slice a1 l1 c1] w2 fun r34 w3 => ∃ n34 : Int, r34 = .int .i64 n34 ∧ (bif n34 == 2 then Cal Try.prog F_cache_Cache_Write #[.pointer none, .int .i64 n0, .slice a1 l1 c1] w3 fun r41 w4 => ∃ n41 : Int, r41 = .int .i64 n41 ∧ (bif n41 == 2 then Cal Try.prog F_cache_Cache_Pin #[.pointer none, .int .i64 n0] w4 fun r47 w5 => ∃ n47 : Int, r47 = .int .i64 n47 ∧ (bif n47 == 2 then Cal Try.prog F_cache_Cache_Unpin #[.pointer none, .int .i64 n0] w5 fun r53 w6 => ∃ n53 : Int, r53 = .int .i64 n53 ∧ (bif n53 == 2 then Cal Try.prog F_cache_Cache_Drop #[.pointer none, .int .i64 n0] w6 fun r59 w7 => ∃ n59 : Int, r59 = .int .i64 n59 ∧ (bif n59 == 2 then Cal Try.prog F_cache_Cache_Flush #[.pointer none] w7 fun r64 w8 => ∃ n64 : Int, r64 = .int .i64 n64 ∧ (bif n64 == 2 then Cal Try.prog F_cache_Cache_Dirty #[.pointer none] w8 fun r69 w9 => ∃ (a69 : Option Addr) (l69 c69 : Nat), r69 = .slice a69 l69 c69 ∧ (bif (l69 : Int) == 0 then Cal Try.prog F_cache_Cache_Held #[.pointer none] w9 fun r75 w10 => ∃ (a75 : Option Addr) (l75 c75 : Nat), r75 = .slice a75 l75 c75 ∧ (bif (l75 : Int) == 0 then Cal Try.prog F_leveelaw10_known #[] w10 fun r80 w11 => ∃ b80 : Bool, r80 = .bool b80 ∧ k [.bool b80] w11 else k [.bool false] w10) else k [.bool false] w9) else k [.bool false] w8) else k [.bool false] w7) else k [.bool false] w6) else k [.bool false] w5) else k [.bool false] w4) else k [.bool false] w3) else k [.bool false] w2) else k [.bool false] w2) else k [.bool false] w2)) fun x w12 =>
 ∃ b4 : Bool, nth x 0 = .bool b4 ∧ K (.bool b4) w12
set_option maxRecDepth 100000 in
theorem C_leveelaw10_CacheNil (n0 : Int) (a1 : Option Addr) (l1 c1 : Nat) (w0 : World) (K : Value → World → Prop) (h : D_leveelaw10_CacheNil n0 a1 l1 c1 w0 K) : Cal Try.prog F_leveelaw10_CacheNil #[.int .i64 n0, .slice a1 l1 c1] w0 K :=
 denF_sound (A := { S := [4], ty := [(4, 4)], raw := [] }) mixed Try.func5 (by kernel_rfl) (by kernel_rfl) ((show denF Try.prog _ Try.f5 _ w0 K = D_leveelaw10_CacheNil n0 a1 l1 c1 w0 K by kernel_rfl).mpr h)

/- levee.leveelaw10.among: slots {5: 'i'}; loop over [5] -/
set_option maxRecDepth 100000 in
def D_leveelaw10_among (a0 : Option Addr) (l0 c0 : Nat) (n1 : Int) (w0 : World) (K : Value → World → Prop) : Prop :=
 LoopC (fun k x w1 =>
 ∃ n5 : Int, nth x 0 = .int .i64 n5 ∧ (bif decide (n5 < (l0 : Int)) then
 ∃ q14 : Addr, Al (Instr.indexAt 31 (.slice a0 l0 c0) (.int .i64 n5)) (.pointer (some q14)) ∧ ∃ n15 : Int, Ru (Instr.loadAt 3 (.pointer (some q14))) w1 (.int .i64 n15) w1 ∧ (bif n15 == n1 then
 K (.bool true) w1
 else
 k [.int .i64 (IntKind.i64.wrap (n5 + 1))] w1)
 else
 K (.bool false) w1)) [.int .i64 0] w0
set_option maxRecDepth 100000 in
theorem C_leveelaw10_among (a0 : Option Addr) (l0 c0 : Nat) (n1 : Int) (w0 : World) (K : Value → World → Prop) (h : D_leveelaw10_among a0 l0 c0 n1 w0 K) : Cal Try.prog F_leveelaw10_among #[.slice a0 l0 c0, .int .i64 n1] w0 K :=
 denF_sound (A := { S := [5], ty := [(5, 3)], raw := [] }) mixed Try.func20 (by kernel_rfl) (by kernel_rfl) ((show denF Try.prog _ Try.f20 _ w0 K = D_leveelaw10_among a0 l0 c0 n1 w0 K by kernel_rfl).mpr h)

/- levee.leveelaw10.known: slots {0: '', 24: ''};  -/
set_option maxRecDepth 100000 in
def D_leveelaw10_known (w0 : World) (K : Value → World → Prop) : Prop :=
 Cal Try.prog F_disk_New #[.int .i64 4] w0 fun r11 w1 => ∃ p11a : Option Addr, ∃ n11b : Int, r11 = .tuple #[.pointer p11a, .int .i64 n11b] ∧ Cal Try.prog F_cache_New #[.pointer p11a, .int .i64 2] w1 fun r16 w2 => ∃ p16a : Option Addr, ∃ n16b : Int, r16 = .tuple #[.pointer p16a, .int .i64 n16b] ∧ Share (fun k => (bif n16b != 0 then k [.bool true] w2 else k [.bool (Option.isNone p16a)] w2)) fun x w3 =>
 ∃ b24 : Bool, nth x 0 = .bool b24 ∧ (bif b24 then
 K (.bool false) w3
 else
 Cal Try.prog F_cache_Cache_Read #[.pointer p16a, .int .i64 1] w3 fun r26 w4 => ∃ (a26a : Option Addr) (l26a c26a : Nat), ∃ n26b : Int, r26 = .tuple #[.slice a26a l26a c26a, .int .i64 n26b] ∧ Cal Try.prog F_cache_Cache_Read #[.pointer p16a, .int .i64 2] w4 fun r28 w5 => ∃ (a28a : Option Addr) (l28a c28a : Nat), ∃ n28b : Int, r28 = .tuple #[.slice a28a l28a c28a, .int .i64 n28b] ∧ Cal Try.prog F_cache_Cache_Read #[.pointer p16a, .int .i64 1] w5 fun r30 w6 => ∃ (a30a : Option Addr) (l30a c30a : Nat), ∃ n30b : Int, r30 = .tuple #[.slice a30a l30a c30a, .int .i64 n30b] ∧ Cal Try.prog F_cache_Cache_Read #[.pointer p16a, .int .i64 3] w6 fun r32 w7 => ∃ (a32a : Option Addr) (l32a c32a : Nat), ∃ n32b : Int, r32 = .tuple #[.slice a32a l32a c32a, .int .i64 n32b] ∧ ∃ (a34 : Option Addr) (l34 c34 : Nat), ∃ w8 : World, Ru (Instr.buildSlice 32 1 #[(0, .int .u8 120)]) w7 (.slice a34 l34 c34) w8 ∧ ∃ (a35 : Option Addr) (l35 c35 : Nat), ∃ w9 : World, Ru (convert 32 32 (.slice a34 l34 c34)) w8 (.slice a35 l35 c35) w9 ∧ Cal Try.prog F_leveeref01_Fill #[.slice a35 l35 c35] w9 fun r36 w10 => ∃ (a36 : Option Addr) (l36 c36 : Nat), r36 = .slice a36 l36 c36 ∧ Cal Try.prog F_cache_Cache_Lay #[.pointer p16a, .int .i64 1, .slice a36 l36 c36] w10 fun r37 w11 => ∃ n37 : Int, r37 = .int .i64 n37 ∧ Cal Try.prog F_cache_Cache_Dirty #[.pointer p16a] w11 fun r39 w12 => ∃ (a39 : Option Addr) (l39 c39 : Nat), r39 = .slice a39 l39 c39 ∧ Cal Try.prog F_cache_Cache_Write #[.pointer p16a, .int .i64 1, .slice none 0 0] w12 fun r41 w13 => ∃ n41 : Int, r41 = .int .i64 n41 ∧ Cal Try.prog F_disk_Disk_Read #[.pointer p11a, .int .i64 1] w13 fun r44 w14 => ∃ (a44a : Option Addr) (l44a c44a : Nat), ∃ n44b : Int, r44 = .tuple #[.slice a44a l44a c44a, .int .i64 n44b] ∧ Share (fun k_2 => Cal Try.prog F_cache_Cache_Held #[.pointer p16a] w14 fun r48 w15 => ∃ (a48 : Option Addr) (l48 c48 : Nat), r48 = .slice a48 l48 c48 ∧ ∃ (a49 : Option Addr) (l49 c49 : Nat), ∃ w16 : World, Ru (Instr.buildSlice 31 2 #[(0, .int .i64 3), (1, .int .i64 1)]) w15 (.slice a49 l49 c49) w16 ∧ Cal Try.prog F_leveeref01_Ints #[.slice a48 l48 c48, .slice a49 l49 c49] w16 fun r50 w17 => ∃ b50 : Bool, r50 = .bool b50 ∧ (bif b50 then (bif n37 == 0 then ∃ (a57 : Option Addr) (l57 c57 : Nat), ∃ w18 : World, Ru (Instr.buildSlice 31 1 #[(0, .int .i64 1)]) w17 (.slice a57 l57 c57) w18 ∧ Cal Try.prog F_leveeref01_Ints #[.slice a39 l39 c39, .slice a57 l57 c57] w18 fun r58 w19 => ∃ b58 : Bool, r58 = .bool b58 ∧ (bif b58 then (bif n41 == 0 then Cal Try.prog F_cache_Cache_Dirty #[.pointer p16a] w19 fun r66 w20 => ∃ (a66 : Option Addr) (l66 c66 : Nat), r66 = .slice a66 l66 c66 ∧ (bif (l66 : Int) == 0 then ∃ q72 : Addr, Al (Instr.indexAt 32 (.slice a44a l44a c44a) (.int .i64 0)) (.pointer (some q72)) ∧ ∃ n73 : Int, Ru (Instr.loadAt 5 (.pointer (some q72))) w20 (.int .u8 n73) w20 ∧ (bif n73 == 120 then k_2 [.bool (n44b == 0)] w20 else k_2 [.bool false] w20) else k_2 [.bool false] w20) else k_2 [.bool false] w19) else k_2 [.bool false] w19) else k_2 [.bool false] w17) else k_2 [.bool false] w17)) fun x_2 w21 =>
 ∃ b0 : Bool, nth x_2 0 = .bool b0 ∧ K (.bool b0) w21)
set_option maxRecDepth 100000 in
theorem C_leveelaw10_known (w0 : World) (K : Value → World → Prop) (h : D_leveelaw10_known  w0 K) : Cal Try.prog F_leveelaw10_known #[] w0 K :=
 denF_sound (A := { S := [0, 24], ty := [(0, 4), (24, 4)], raw := [] }) mixed Try.func21 (by kernel_rfl) (by kernel_rfl) ((show denF Try.prog _ Try.f21 _ w0 K = D_leveelaw10_known  w0 K by kernel_rfl).mpr h)

/- levee.leveelaw10.wrote: slots {7: 'i', 28: ''}; loop over [7, 28] -/
set_option maxRecDepth 100000 in
def D_leveelaw10_wrote (a0 : Option Addr) (l0 c0 : Nat) (n1 : Int) (n2 : Int) (w0 : World) (K : Value → World → Prop) : Prop :=
 LoopC (fun k x w1 =>
 ∃ n7 : Int, nth x 0 = .int .i64 n7 ∧ (bif decide (n7 < n1) then
 Share (fun k_2 => ∃ q15 : Addr, Al (Instr.indexAt 22 (.slice a0 l0 c0) (.int .i64 n7)) (.pointer (some q15)) ∧ ∃ n17 : Int, Ru (Instr.loadAt 3 (.pointer (some (Addr.add q15 0)))) w1 (.int .i64 n17) w1 ∧ (bif n17 == 5 then ∃ q22 : Addr, Al (Instr.indexAt 22 (.slice a0 l0 c0) (.int .i64 n7)) (.pointer (some q22)) ∧ ∃ n24 : Int, Ru (Instr.loadAt 3 (.pointer (some (Addr.add q22 1)))) w1 (.int .i64 n24) w1 ∧ Cal Try.prog F_leveeref01_Count #[.int .i64 n24, .int .i64 4] w1 fun r25 w2 => ∃ n25 : Int, r25 = .int .i64 n25 ∧ k_2 [.bool (n25 == n2)] w2 else k_2 [.bool false] w1)) fun x_2 w3 =>
 ∃ b28 : Bool, nth x_2 0 = .bool b28 ∧ (bif b28 then
 K (.bool true) w3
 else
 k [.int .i64 (IntKind.i64.wrap (n7 + 1)), .bool b28] w3)
 else
 K (.bool false) w1)) [.int .i64 0, undef] w0
set_option maxRecDepth 100000 in
theorem C_leveelaw10_wrote (a0 : Option Addr) (l0 c0 : Nat) (n1 : Int) (n2 : Int) (w0 : World) (K : Value → World → Prop) (h : D_leveelaw10_wrote a0 l0 c0 n1 n2 w0 K) : Cal Try.prog F_leveelaw10_wrote #[.slice a0 l0 c0, .int .i64 n1, .int .i64 n2] w0 K :=
 denF_sound (A := { S := [7, 28], ty := [(7, 3), (28, 4)], raw := [] }) mixed Try.func26 (by kernel_rfl) (by kernel_rfl) ((show denF Try.prog _ Try.f26 _ w0 K = D_leveelaw10_wrote a0 l0 c0 n1 n2 w0 K by kernel_rfl).mpr h)

end Go.Proofs.Ytgcecmfjpljpcaa
