/- What functions of the translation come to, as printed by a program of this session. -/
import Derived.Test.YtkmkfdljnlbikaaIds
open Go Go.Den Go.Proofs
namespace Go.Proofs.Ytkmkfdljnlbikaa

/- levee.leveelaw02.DiskSafe: slots {6: '', 9: 'i', 14: 'ok', 15: 'i'}; loop over [14, 15]; loop over [9] -/
set_option maxRecDepth 100000 in
def D_leveelaw02_DiskSafe (a0 : Option Addr) (l0 c0 : Nat) (a1 : Option Addr) (l1 c1 : Nat) (a2 : Option Addr) (l2 c2 : Nat) (w0 : World) (K : Value → World → Prop) : Prop :=
 (bif decide ((l1 : Int) > 20) then
 Cal Try.prog F_leveelaw02_known #[] w0 fun r19 w1 => ∃ b19 : Bool, r19 = .bool b19 ∧ K (.bool b19) w1
 else
 Cal Try.prog F_disk_New #[.int .i64 2] w0 fun r21 w2 => ∃ p21a : Option Addr, ∃ n21b : Int, r21 = .tuple #[.pointer p21a, .int .i64 n21b] ∧ (bif n21b != 0 then
 K (.bool false) w2
 else
 Cal Try.prog F_leveeref01_Fill #[.slice a0 l0 c0] w2 fun r28 w3 => ∃ (a28 : Option Addr) (l28 c28 : Nat), r28 = .slice a28 l28 c28 ∧ Cal Try.prog F_disk_Disk_Write #[.pointer p21a, .int .i64 0, .slice a28 l28 c28] w3 fun r29 w4 => ∃ n29 : Int, r29 = .int .i64 n29 ∧ Cal Try.prog F_leveeref01_Fill #[.slice a0 l0 c0] w4 fun r32 w5 => ∃ (a32 : Option Addr) (l32 c32 : Nat), r32 = .slice a32 l32 c32 ∧ Cal Try.prog F_disk_Disk_Write #[.pointer p21a, .int .i64 1, .slice a32 l32 c32] w5 fun r33 w6 => ∃ n33 : Int, r33 = .int .i64 n33 ∧ Cal Try.prog F_disk_Disk_Flush #[.pointer p21a] w6 fun r35 w7 => ∃ n35 : Int, r35 = .int .i64 n35 ∧ LoopC (fun k x w8 =>
 ∃ n9 : Int, nth x 0 = .int .i64 n9 ∧ (bif decide (n9 < (l1 : Int)) then
 ∃ q45 : Addr, Al (Instr.indexAt 52 (.slice a1 l1 c1) (.int .i64 n9)) (.pointer (some q45)) ∧ ∃ (a46 : Option Addr) (l46 c46 : Nat), Ru (Instr.loadAt 40 (.pointer (some q45))) w8 (.slice a46 l46 c46) w8 ∧ Cal Try.prog F_leveeref01_Fill #[.slice a46 l46 c46] w8 fun r47 w9 => ∃ (a47 : Option Addr) (l47 c47 : Nat), r47 = .slice a47 l47 c47 ∧ Cal Try.prog F_disk_Disk_Write #[.pointer p21a, .int .i64 1, .slice a47 l47 c47] w9 fun r48 w10 => ∃ n48 : Int, r48 = .int .i64 n48 ∧ k [.int .i64 (IntKind.i64.wrap (n9 + 1))] w10
 else
 Cal Try.prog F_disk_Disk_Crash #[.pointer p21a, .slice a2 l2 c2] w8 fun r51 w11 => r51 = .tuple #[] ∧ Cal Try.prog F_disk_Disk_Read #[.pointer p21a, .int .i64 0] w11 fun r54 w12 => ∃ (a54a : Option Addr) (l54a c54a : Nat), ∃ n54b : Int, r54 = .tuple #[.slice a54a l54a c54a, .int .i64 n54b] ∧ Cal Try.prog F_disk_Disk_Read #[.pointer p21a, .int .i64 1] w12 fun r59 w13 => ∃ (a59a : Option Addr) (l59a c59a : Nat), ∃ n59b : Int, r59 = .tuple #[.slice a59a l59a c59a, .int .i64 n59b] ∧ ∃ s63 : ByteArray, Ru (convert 40 9 (.slice a59a l59a c59a)) (drew w13) (.string s63) (drew w13) ∧ Cal Try.prog F_leveeref01_Fill #[.slice a0 l0 c0] (drew w13) fun r65 w14 => ∃ (a65 : Option Addr) (l65 c65 : Nat), r65 = .slice a65 l65 c65 ∧ Ru (convert 40 9 (.slice a59a l59a c59a)) w14 (.string s63) w14 ∧ ∃ s66 : ByteArray, Ru (convert 40 9 (.slice a65 l65 c65)) w14 (.string s66) w14 ∧ LoopC (fun k_2 x_2 w15 =>
 ∃ n15 : Int, nth x_2 1 = .int .i64 n15 ∧ (bif decide (n15 < (l1 : Int)) then
 Share (fun k_3 => ∃ b14 : Bool, nth x_2 0 = .bool b14 ∧ (bif b14 then k_3 [.bool true] (drew w15) else ∃ s77 : ByteArray, Ru (convert 40 9 (.slice a59a l59a c59a)) (drew w15) (.string s77) (drew w15) ∧ ∃ q80 : Addr, Al (Instr.indexAt 52 (.slice a1 l1 c1) (.int .i64 n15)) (.pointer (some q80)) ∧ ∃ (a81 : Option Addr) (l81 c81 : Nat), Ru (Instr.loadAt 40 (.pointer (some q80))) (drew w15) (.slice a81 l81 c81) (drew w15) ∧ Cal Try.prog F_leveeref01_Fill #[.slice a81 l81 c81] (drew w15) fun r82 w16 => ∃ (a82 : Option Addr) (l82 c82 : Nat), r82 = .slice a82 l82 c82 ∧ Ru (convert 40 9 (.slice a59a l59a c59a)) w16 (.string s77) w16 ∧ ∃ s83 : ByteArray, Ru (convert 40 9 (.slice a82 l82 c82)) w16 (.string s83) w16 ∧ k_3 [.bool ((ByteArray.toList s77) == (ByteArray.toList s83))] w16)) fun x_3 w17 =>
 k_2 [nth x_3 0, .int .i64 (IntKind.i64.wrap (n15 + 1))] w17
 else
 Share (fun k_4 => ∃ s87 : ByteArray, Ru (convert 40 9 (.slice a54a l54a c54a)) (drew w15) (.string s87) (drew w15) ∧ Cal Try.prog F_leveeref01_Fill #[.slice a0 l0 c0] (drew w15) fun r89 w18 => ∃ (a89 : Option Addr) (l89 c89 : Nat), r89 = .slice a89 l89 c89 ∧ Ru (convert 40 9 (.slice a54a l54a c54a)) w18 (.string s87) w18 ∧ ∃ s90 : ByteArray, Ru (convert 40 9 (.slice a89 l89 c89)) w18 (.string s90) w18 ∧ (bif (ByteArray.toList s87) == (ByteArray.toList s90) then ∃ b14_2 : Bool, nth x_2 0 = .bool b14_2 ∧ (bif b14_2 then Cal Try.prog F_leveelaw02_known #[] w18 fun r96 w19 => ∃ b96 : Bool, r96 = .bool b96 ∧ k_4 [.bool b96] w19 else k_4 [.bool false] w18) else k_4 [.bool false] w18)) fun x_4 w20 =>
 ∃ b6 : Bool, nth x_4 0 = .bool b6 ∧ K (.bool b6) w20)) [.bool ((ByteArray.toList s63) == (ByteArray.toList s66)), .int .i64 0] w14)) [.int .i64 0] w7))
set_option maxRecDepth 100000 in
theorem C_leveelaw02_DiskSafe (a0 : Option Addr) (l0 c0 : Nat) (a1 : Option Addr) (l1 c1 : Nat) (a2 : Option Addr) (l2 c2 : Nat) (w0 : World) (K : Value → World → Prop) (h : D_leveelaw02_DiskSafe a0 l0 c0 a1 l1 c1 a2 l2 c2 w0 K) : Cal Try.prog F_leveelaw02_DiskSafe #[.slice a0 l0 c0, .slice a1 l1 c1, .slice a2 l2 c2] w0 K :=
 denF_sound (A := { S := [6, 9, 14, 15], ty := [(6, 4), (9, 3), (14, 4), (15, 3)], raw := [] }) mixed Try.func6 (by kernel_rfl) (by kernel_rfl) ((show denF Try.prog _ Try.f6 _ w0 K = D_leveelaw02_DiskSafe a0 l0 c0 a1 l1 c1 a2 l2 c2 w0 K by kernel_rfl).mpr h)

end Go.Proofs.Ytkmkfdljnlbikaa
