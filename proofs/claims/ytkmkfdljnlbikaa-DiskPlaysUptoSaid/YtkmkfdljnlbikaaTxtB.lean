/- What functions of the translation come to, as printed by a program of this session. -/
import Derived.Test.YtkmkfdljnlbikaaIds
open Go Go.Den Go.Proofs
namespace Go.Proofs.Ytkmkfdljnlbikaa

/- levee.leveelaw09.PtrNames: slots {6: '', 18: 'n', 71: '', 86: '', 117: ''}; loop over [6, 18, 117] -/
set_option maxRecDepth 100000 in
def D_leveelaw09_PtrNames (a0 : Option Addr) (l0 c0 : Nat) (n1 : Int) (n2 : Int) (w0 : World) (K : Value → World → Prop) : Prop :=
 Cal Try.prog F_leveeref01_Lent #[.slice a0 l0 c0] w0 fun r20 w1 => ∃ (a20 : Option Addr) (l20 c20 : Nat), r20 = .slice a20 l20 c20 ∧ Cal Try.prog F_ptr_Names #[.slice a20 l20 c20] w1 fun r23 w2 => ∃ (a23a : Option Addr) (l23a c23a : Nat), ∃ n23b : Int, r23 = .tuple #[.slice a23a l23a c23a, .int .i64 n23b] ∧ Cal Try.prog F_leveeref09_Names #[.slice a0 l0 c0] w2 fun r28 w3 => ∃ (a28a : Option Addr) (l28a c28a : Nat), ∃ n28b : Int, r28 = .tuple #[.slice a28a l28a c28a, .int .i64 n28b] ∧ Cal Try.prog F_ptr_Lay #[.slice a20 l20 c20, .int .i64 n1, .int .i64 n2] w3 fun r35 w4 => ∃ (a35a : Option Addr) (l35a c35a : Nat), ∃ n35b : Int, r35 = .tuple #[.slice a35a l35a c35a, .int .i64 n35b] ∧ Cal Try.prog F_leveeref09_Lay #[.slice a0 l0 c0, .int .i64 n1, .int .i64 n2] w4 fun r42 w5 => ∃ (a42a : Option Addr) (l42a c42a : Nat), ∃ n42b : Int, r42 = .tuple #[.slice a42a l42a c42a, .int .i64 n42b] ∧ Share (fun k => Cal Try.prog F_leveeref01_Ints #[.slice a23a l23a c23a, .slice a28a l28a c28a] w5 fun r47 w6 => ∃ b47 : Bool, r47 = .bool b47 ∧ (bif !b47 then k [.bool true] w6 else (bif n23b != n28b then k [.bool true] w6 else ∃ s56 : ByteArray, Ru (convert 40 9 (.slice a35a l35a c35a)) w6 (.string s56) w6 ∧ ∃ s58 : ByteArray, Ru (convert 40 9 (.slice a42a l42a c42a)) w6 (.string s58) w6 ∧ (bif !((ByteArray.toList s56) == (ByteArray.toList s58)) then k [.bool true] w6 else (bif n35b != n42b then k [.bool true] w6 else Cal Try.prog F_leveeref01_Kept #[.slice a20 l20 c20, .slice a0 l0 c0] w6 fun r69 w7 => ∃ b69 : Bool, r69 = .bool b69 ∧ k [.bool (!b69)] w7))))) fun x w8 =>
 ∃ b71 : Bool, nth x 0 = .bool b71 ∧ (bif b71 then
 K (.bool false) w8
 else
 (bif n42b != 0 then
 Cal Try.prog F_leveelaw09_known #[] w8 fun r74 w9 => ∃ b74 : Bool, r74 = .bool b74 ∧ K (.bool b74) w9
 else
 Cal Try.prog F_ptr_Names #[.slice a35a l35a c35a] w8 fun r77 w10 => ∃ (a77a : Option Addr) (l77a c77a : Nat), ∃ n77b : Int, r77 = .tuple #[.slice a77a l77a c77a, .int .i64 n77b] ∧ Share (fun k_2 => (bif n77b != 0 then k_2 [.bool true] w10 else k_2 [.bool ((l77a : Int) != 64)] w10)) fun x_2 w11 =>
 ∃ b86 : Bool, nth x_2 0 = .bool b86 ∧ (bif b86 then
 K (.bool false) w11
 else
 LoopC (fun k_3 x_3 w12 =>
 ∃ n18 : Int, nth x_3 1 = .int .i64 n18 ∧ (bif decide (n18 < 64) then
 Share (fun k_4 => (bif n18 == n1 then ∃ q97 : Addr, Al (Instr.indexAt 42 (.slice a77a l77a c77a) (.int .i64 n18)) (.pointer (some q97)) ∧ ∃ n98 : Int, Ru (Instr.loadAt 3 (.pointer (some q97))) (drew w12) (.int .i64 n98) (drew w12) ∧ (bif n98 != n2 then k_4 [.bool true] (drew w12) else (bif n18 != n1 then ∃ q109 : Addr, Al (Instr.indexAt 42 (.slice a77a l77a c77a) (.int .i64 n18)) (.pointer (some q109)) ∧ ∃ n110 : Int, Ru (Instr.loadAt 3 (.pointer (some q109))) (drew w12) (.int .i64 n110) (drew w12) ∧ ∃ q113 : Addr, Al (Instr.indexAt 42 (.slice a28a l28a c28a) (.int .i64 n18)) (.pointer (some q113)) ∧ ∃ n114 : Int, Ru (Instr.loadAt 3 (.pointer (some q113))) (drew w12) (.int .i64 n114) (drew w12) ∧ k_4 [.bool (n110 != n114)] (drew w12) else k_4 [.bool false] (drew w12))) else (bif n18 != n1 then ∃ q109_2 : Addr, Al (Instr.indexAt 42 (.slice a77a l77a c77a) (.int .i64 n18)) (.pointer (some q109_2)) ∧ ∃ n110_2 : Int, Ru (Instr.loadAt 3 (.pointer (some q109_2))) (drew w12) (.int .i64 n110_2) (drew w12) ∧ ∃ q113_2 : Addr, Al (Instr.indexAt 42 (.slice a28a l28a c28a) (.int .i64 n18)) (.pointer (some q113_2)) ∧ ∃ n114_2 : Int, Ru (Instr.loadAt 3 (.pointer (some q113_2))) (drew w12) (.int .i64 n114_2) (drew w12) ∧ k_4 [.bool (n110_2 != n114_2)] (drew w12) else k_4 [.bool false] (drew w12)))) fun x_4 w13 =>
 ∃ b117 : Bool, nth x_4 0 = .bool b117 ∧ (bif b117 then
 K (.bool false) w13
 else
 k_3 [nth x_3 0, .int .i64 (IntKind.i64.wrap (n18 + 1)), .bool b117] w13)
 else
 Cal Try.prog F_leveeref01_Spoil #[.slice a35a l35a c35a] w12 fun r119 w14 => r119 = .tuple #[] ∧ Share (fun k_5 => Cal Try.prog F_leveeref01_Kept #[.slice a20 l20 c20, .slice a0 l0 c0] w14 fun r122 w15 => ∃ b122 : Bool, r122 = .bool b122 ∧ (bif b122 then Cal Try.prog F_leveelaw09_known #[] w15 fun r124 w16 => ∃ b124 : Bool, r124 = .bool b124 ∧ k_5 [.bool b124] w16 else k_5 [.bool false] w15)) fun x_5 w17 =>
 ∃ b6 : Bool, nth x_5 0 = .bool b6 ∧ K (.bool b6) w17)) [.bool false, .int .i64 0, undef] w11)))
set_option maxRecDepth 100000 in
theorem C_leveelaw09_PtrNames (a0 : Option Addr) (l0 c0 : Nat) (n1 : Int) (n2 : Int) (w0 : World) (K : Value → World → Prop) (h : D_leveelaw09_PtrNames a0 l0 c0 n1 n2 w0 K) : Cal Try.prog F_leveelaw09_PtrNames #[.slice a0 l0 c0, .int .i64 n1, .int .i64 n2] w0 K :=
 denF_sound (A := { S := [6, 18, 71, 86, 117], ty := [(6, 4), (18, 3), (71, 4), (86, 4), (117, 4)], raw := [] }) mixed Try.func4 (by kernel_rfl) (by kernel_rfl) ((show denF Try.prog _ Try.f4 _ w0 K = D_leveelaw09_PtrNames a0 l0 c0 n1 n2 w0 K by kernel_rfl).mpr h)

/- levee.leveeref01.Lent: slots {};  -/
set_option maxRecDepth 100000 in
def D_leveeref01_Lent (a0 : Option Addr) (l0 c0 : Nat) (w0 : World) (K : Value → World → Prop) : Prop :=
 ∃ (a7 : Option Addr) (l7 c7 : Nat), ∃ w1 : World, Ru (Instr.makeSlice 40 (.int .i64 0) (.int .i64 (IntKind.i64.wrap ((l0 : Int) + 8)))) w0 (.slice a7 l7 c7) w1 ∧ ∃ (a10 : Option Addr) (l10 c10 : Nat), ∃ w2 : World, Ru (Builtin.append_ #[40, 40] 40 #[.slice a7 l7 c7, .slice a0 l0 c0]) w1 (.slice a10 l10 c10) w2 ∧ ∃ (a12 : Option Addr) (l12 c12 : Nat), ∃ w3 : World, Ru (Instr.buildSlice 40 8 #[(0, .int .u8 165), (1, .int .u8 165), (2, .int .u8 165), (3, .int .u8 165), (4, .int .u8 165), (5, .int .u8 165), (6, .int .u8 165), (7, .int .u8 165)]) w2 (.slice a12 l12 c12) w3 ∧ ∃ (a13 : Option Addr) (l13 c13 : Nat), ∃ w4 : World, Ru (Builtin.append_ #[40, 40] 40 #[.slice a10 l10 c10, .slice a12 l12 c12]) w3 (.slice a13 l13 c13) w4 ∧ ∃ (a17 : Option Addr) (l17 c17 : Nat), Al (Instr.sliceAt 40 (.slice a13 l13 c13) none (some (.int .i64 ((l0 : Int)))) none) (.slice a17 l17 c17) ∧ K (.slice a17 l17 c17) w4
set_option maxRecDepth 100000 in
theorem C_leveeref01_Lent (a0 : Option Addr) (l0 c0 : Nat) (w0 : World) (K : Value → World → Prop) (h : D_leveeref01_Lent a0 l0 c0 w0 K) : Cal Try.prog F_leveeref01_Lent #[.slice a0 l0 c0] w0 K :=
 denF_sound (A := { S := [], ty := [], raw := [] }) mixed Try.func20 (by kernel_rfl) (by kernel_rfl) ((show denF Try.prog _ Try.f20 _ w0 K = D_leveeref01_Lent a0 l0 c0 w0 K by kernel_rfl).mpr h)

/- levee.leveeref01.Kept: slots {17: ''};  -/
set_option maxRecDepth 100000 in
def D_leveeref01_Kept (a0 : Option Addr) (l0 c0 : Nat) (a1 : Option Addr) (l1 c1 : Nat) (w0 : World) (K : Value → World → Prop) : Prop :=
 Share (fun k => ∃ s6 : ByteArray, Ru (convert 40 9 (.slice a0 l0 c0)) w0 (.string s6) w0 ∧ ∃ s8 : ByteArray, Ru (convert 40 9 (.slice a1 l1 c1)) w0 (.string s8) w0 ∧ (bif !((ByteArray.toList s6) == (ByteArray.toList s8)) then k [.bool true] w0 else k [.bool (decide ((c0 : Int) < (IntKind.i64.wrap ((l1 : Int) + 8))))] w0)) fun x w1 =>
 ∃ b17 : Bool, nth x 0 = .bool b17 ∧ (bif b17 then
 K (.bool false) w1
 else
 ∃ (a22 : Option Addr) (l22 c22 : Nat), Al (Instr.sliceAt 40 (.slice a0 l0 c0) none (some (.int .i64 (IntKind.i64.wrap ((l1 : Int) + 8)))) none) (.slice a22 l22 c22) ∧ ∃ s23 : ByteArray, Ru (convert 40 9 (.slice a22 l22 c22)) (drew w1) (.string s23) (drew w1) ∧ ∃ s25 : ByteArray, Ru (convert 40 9 (.slice a1 l1 c1)) (drew w1) (.string s25) (drew w1) ∧ ∃ s26 : ByteArray, Al (eqS .add 9 (.tmp 25) (.const (.string (⟨#[165, 165, 165, 165, 165, 165, 165, 165]⟩))) (.string s25) (.string (⟨#[165, 165, 165, 165, 165, 165, 165, 165]⟩))) (.string s26) ∧ K (.bool ((ByteArray.toList s23) == (ByteArray.toList s26))) (drew w1))
set_option maxRecDepth 100000 in
theorem C_leveeref01_Kept (a0 : Option Addr) (l0 c0 : Nat) (a1 : Option Addr) (l1 c1 : Nat) (w0 : World) (K : Value → World → Prop) (h : D_leveeref01_Kept a0 l0 c0 a1 l1 c1 w0 K) : Cal Try.prog F_leveeref01_Kept #[.slice a0 l0 c0, .slice a1 l1 c1] w0 K :=
 denF_sound (A := { S := [17], ty := [(17, 4)], raw := [] }) mixed Try.func26 (by kernel_rfl) (by kernel_rfl) ((show denF Try.prog _ Try.f26 _ w0 K = D_leveeref01_Kept a0 l0 c0 a1 l1 c1 w0 K by kernel_rfl).mpr h)

/- levee.leveeref01.Spoil: slots {2: 'i'}; loop over [2] -/
set_option maxRecDepth 100000 in
def D_leveeref01_Spoil (a0 : Option Addr) (l0 c0 : Nat) (w0 : World) (K : Value → World → Prop) : Prop :=
 LoopC (fun k x w1 =>
 ∃ n2 : Int, nth x 0 = .int .i64 n2 ∧ (bif decide (n2 < (l0 : Int)) then
 ∃ q11 : Addr, Al (Instr.indexAt 40 (.slice a0 l0 c0) (.int .i64 n2)) (.pointer (some q11)) ∧ ∃ w2 : World, RuU (Instr.storeAt 5 (.pointer (some q11)) (.int .u8 90)) w1 w2 ∧ k [.int .i64 (IntKind.i64.wrap (n2 + 1))] w2
 else
 K (.tuple #[]) w1)) [.int .i64 0] w0
set_option maxRecDepth 100000 in
theorem C_leveeref01_Spoil (a0 : Option Addr) (l0 c0 : Nat) (w0 : World) (K : Value → World → Prop) (h : D_leveeref01_Spoil a0 l0 c0 w0 K) : Cal Try.prog F_leveeref01_Spoil #[.slice a0 l0 c0] w0 K :=
 denF_sound (A := { S := [2], ty := [(2, 3)], raw := [] }) mixed Try.func27 (by kernel_rfl) (by kernel_rfl) ((show denF Try.prog _ Try.f27 _ w0 K = D_leveeref01_Spoil a0 l0 c0 w0 K by kernel_rfl).mpr h)

/- levee.leveeref01.Ints: slots {5: 'i'}; loop over [5] -/
set_option maxRecDepth 100000 in
def D_leveeref01_Ints (a0 : Option Addr) (l0 c0 : Nat) (a1 : Option Addr) (l1 c1 : Nat) (w0 : World) (K : Value → World → Prop) : Prop :=
 (bif (l0 : Int) != (l1 : Int) then
 K (.bool false) w0
 else
 LoopC (fun k x w1 =>
 ∃ n5 : Int, nth x 0 = .int .i64 n5 ∧ (bif decide (n5 < (l0 : Int)) then
 ∃ q19 : Addr, Al (Instr.indexAt 42 (.slice a0 l0 c0) (.int .i64 n5)) (.pointer (some q19)) ∧ ∃ n20 : Int, Ru (Instr.loadAt 3 (.pointer (some q19))) (drew w1) (.int .i64 n20) (drew w1) ∧ ∃ q23 : Addr, Al (Instr.indexAt 42 (.slice a1 l1 c1) (.int .i64 n5)) (.pointer (some q23)) ∧ ∃ n24 : Int, Ru (Instr.loadAt 3 (.pointer (some q23))) (drew w1) (.int .i64 n24) (drew w1) ∧ (bif n20 != n24 then
 K (.bool false) (drew w1)
 else
 k [.int .i64 (IntKind.i64.wrap (n5 + 1))] (drew w1))
 else
 K (.bool true) w1)) [.int .i64 0] w0)
set_option maxRecDepth 100000 in
theorem C_leveeref01_Ints (a0 : Option Addr) (l0 c0 : Nat) (a1 : Option Addr) (l1 c1 : Nat) (w0 : World) (K : Value → World → Prop) (h : D_leveeref01_Ints a0 l0 c0 a1 l1 c1 w0 K) : Cal Try.prog F_leveeref01_Ints #[.slice a0 l0 c0, .slice a1 l1 c1] w0 K :=
 denF_sound (A := { S := [5], ty := [(5, 3)], raw := [] }) mixed Try.func25 (by kernel_rfl) (by kernel_rfl) ((show denF Try.prog _ Try.f25 _ w0 K = D_leveeref01_Ints a0 l0 c0 a1 l1 c1 w0 K by kernel_rfl).mpr h)

/- levee.leveeref01.Bytes: slots {5: 'out', 6: 'i'}; loop over [5, 6] -/
set_option maxRecDepth 100000 in
def D_leveeref01_Bytes (n0 : Int) (n1 : Int) (w0 : World) (K : Value → World → Prop) : Prop :=
 LoopC (fun k x w1 =>
 ∃ n6 : Int, nth x 1 = .int .i64 n6 ∧ (bif decide (n6 < n1) then
 Share (fun k_2 => (bif decide (n6 < 8) then
 ∃ (a5 : Option Addr) (l5 c5 : Nat), nth x 0 = .slice a5 l5 c5 ∧ ∃ n19 : Int, Al (eqS .shr 78 (.tmp 15) (.tmp 18) (.int .u64 n0) (.int .u64 (IntKind.u64.wrap (IntKind.i64.wrap (8 * n6))))) (.int .u64 n19) ∧ ∃ (a21 : Option Addr) (l21 c21 : Nat), ∃ w2 : World, Ru (Instr.buildSlice 40 1 #[(0, .int .u8 (IntKind.u8.wrap n19))]) w1 (.slice a21 l21 c21) w2 ∧ ∃ (a22 : Option Addr) (l22 c22 : Nat), ∃ w3 : World, Ru (Builtin.append_ #[40, 40] 40 #[.slice a5 l5 c5, .slice a21 l21 c21]) w2 (.slice a22 l22 c22) w3 ∧ k_2 [.slice a22 l22 c22] w3
 else
 ∃ (a5_2 : Option Addr) (l5_2 c5_2 : Nat), nth x 0 = .slice a5_2 l5_2 c5_2 ∧ ∃ (a24 : Option Addr) (l24 c24 : Nat), ∃ w4 : World, Ru (Instr.buildSlice 40 1 #[(0, .int .u8 0)]) w1 (.slice a24 l24 c24) w4 ∧ ∃ (a25 : Option Addr) (l25 c25 : Nat), ∃ w5 : World, Ru (Builtin.append_ #[40, 40] 40 #[.slice a5_2 l5_2 c5_2, .slice a24 l24 c24]) w4 (.slice a25 l25 c25) w5 ∧ k_2 [.slice a25 l25 c25] w5)) fun x_2 w6 =>
 k [nth x_2 0, .int .i64 (IntKind.i64.wrap (n6 + 1))] w6
 else
 ∃ (a5_3 : Option Addr) (l5_3 c5_3 : Nat), nth x 0 = .slice a5_3 l5_3 c5_3 ∧ K (.slice a5_3 l5_3 c5_3) w1)) [.slice none 0 0, .int .i64 0] w0
set_option maxRecDepth 100000 in
theorem C_leveeref01_Bytes (n0 : Int) (n1 : Int) (w0 : World) (K : Value → World → Prop) (h : D_leveeref01_Bytes n0 n1 w0 K) : Cal Try.prog F_leveeref01_Bytes #[.int .u64 n0, .int .i64 n1] w0 K :=
 denF_sound (A := { S := [5, 6], ty := [(5, 40), (6, 3)], raw := [] }) mixed Try.func50 (by kernel_rfl) (by kernel_rfl) ((show denF Try.prog _ Try.f50 _ w0 K = D_leveeref01_Bytes n0 n1 w0 K by kernel_rfl).mpr h)

/- levee.leveeref01.Lay: slots {25: ''};  -/
set_option maxRecDepth 100000 in
def D_leveeref01_Lay (a0 : Option Addr) (l0 c0 : Nat) (n1 : Int) (a2 : Option Addr) (l2 c2 : Nat) (w0 : World) (K : Value → World → Prop) : Prop :=
 Share (fun k => (bif decide (n1 < 0) then k [.bool true] w0 else (bif decide (n1 > (l0 : Int)) then k [.bool true] w0 else k [.bool (decide ((l2 : Int) > (IntKind.i64.wrap ((l0 : Int) - n1))))] w0))) fun x w1 =>
 ∃ b25 : Bool, nth x 0 = .bool b25 ∧ (bif b25 then
 K (.tuple #[.slice none 0 0, .int .i64 3]) w1
 else
 ∃ (a29 : Option Addr) (l29 c29 : Nat), Al (Instr.sliceAt 40 (.slice a0 l0 c0) none (some (.int .i64 n1)) none) (.slice a29 l29 c29) ∧ ∃ (a30 : Option Addr) (l30 c30 : Nat), ∃ w2 : World, Ru (Builtin.append_ #[40, 40] 40 #[.slice none 0 0, .slice a29 l29 c29]) w1 (.slice a30 l30 c30) w2 ∧ ∃ (a33 : Option Addr) (l33 c33 : Nat), ∃ w3 : World, Ru (Builtin.append_ #[40, 40] 40 #[.slice a30 l30 c30, .slice a2 l2 c2]) w2 (.slice a33 l33 c33) w3 ∧ ∃ (a40 : Option Addr) (l40 c40 : Nat), Al (Instr.sliceAt 40 (.slice a0 l0 c0) (some (.int .i64 (IntKind.i64.wrap (n1 + (l2 : Int))))) none none) (.slice a40 l40 c40) ∧ ∃ (a41 : Option Addr) (l41 c41 : Nat), ∃ w4 : World, Ru (Builtin.append_ #[40, 40] 40 #[.slice a33 l33 c33, .slice a40 l40 c40]) w3 (.slice a41 l41 c41) w4 ∧ K (.tuple #[.slice a41 l41 c41, .int .i64 0]) w4)
set_option maxRecDepth 100000 in
theorem C_leveeref01_Lay (a0 : Option Addr) (l0 c0 : Nat) (n1 : Int) (a2 : Option Addr) (l2 c2 : Nat) (w0 : World) (K : Value → World → Prop) (h : D_leveeref01_Lay a0 l0 c0 n1 a2 l2 c2 w0 K) : Cal Try.prog F_leveeref01_Lay #[.slice a0 l0 c0, .int .i64 n1, .slice a2 l2 c2] w0 K :=
 denF_sound (A := { S := [25], ty := [(25, 4)], raw := [] }) mixed Try.func49 (by kernel_rfl) (by kernel_rfl) ((show denF Try.prog _ Try.f49 _ w0 K = D_leveeref01_Lay a0 l0 c0 n1 a2 l2 c2 w0 K by kernel_rfl).mpr h)

/- levee.leveeref01.Get: slots {3: 'n', 4: 'i', 12: ''}; loop over [3, 4, 12] -/
set_option maxRecDepth 100000 in
def D_leveeref01_Get (a0 : Option Addr) (l0 c0 : Nat) (w0 : World) (K : Value → World → Prop) : Prop :=
 LoopC (fun k x w1 =>
 Share (fun k_2 => ∃ n4 : Int, nth x 1 = .int .i64 n4 ∧ (bif decide (n4 < (l0 : Int)) then k_2 [.bool (decide (n4 < 8))] w1 else k_2 [.bool false] w1)) fun x_2 w2 =>
 ∃ b12 : Bool, nth x_2 0 = .bool b12 ∧ (bif b12 then
 ∃ n3 : Int, nth x 0 = .int .u64 n3 ∧ ∃ n4_2 : Int, nth x 1 = .int .i64 n4_2 ∧ ∃ q18 : Addr, Al (Instr.indexAt 40 (.slice a0 l0 c0) (.int .i64 n4_2)) (.pointer (some q18)) ∧ ∃ n19 : Int, Ru (Instr.loadAt 5 (.pointer (some q18))) w2 (.int .u8 n19) w2 ∧ ∃ n24 : Int, Al (eqS .shl 78 (.tmp 20) (.tmp 23) (.int .u64 (IntKind.u64.wrap n19)) (.int .u64 (IntKind.u64.wrap (IntKind.i64.wrap (8 * n4_2))))) (.int .u64 n24) ∧ k [.int .u64 (IntKind.u64.wrap (bvOr 64 n3 n24)), .int .i64 (IntKind.i64.wrap (n4_2 + 1)), .bool b12] w2
 else
 ∃ n3_2 : Int, nth x 0 = .int .u64 n3_2 ∧ K (.int .u64 n3_2) w2)) [.int .u64 0, .int .i64 0, undef] w0
set_option maxRecDepth 100000 in
theorem C_leveeref01_Get (a0 : Option Addr) (l0 c0 : Nat) (w0 : World) (K : Value → World → Prop) (h : D_leveeref01_Get a0 l0 c0 w0 K) : Cal Try.prog F_leveeref01_Get #[.slice a0 l0 c0] w0 K :=
 denF_sound (A := { S := [3, 4, 12], ty := [(3, 78), (4, 3), (12, 4)], raw := [] }) mixed Try.func47 (by kernel_rfl) (by kernel_rfl) ((show denF Try.prog _ Try.f47 _ w0 K = D_leveeref01_Get a0 l0 c0 w0 K by kernel_rfl).mpr h)

/- levee.leveeref09.Names: slots {4: 'out', 5: 'i'}; loop over [4, 5] -/
set_option maxRecDepth 100000 in
def D_leveeref09_Names (a0 : Option Addr) (l0 c0 : Nat) (w0 : World) (K : Value → World → Prop) : Prop :=
 (bif (l0 : Int) != 256 then
 K (.tuple #[.slice none 0 0, .int .i64 4]) w0
 else
 LoopC (fun k x w1 =>
 ∃ n5 : Int, nth x 1 = .int .i64 n5 ∧ (bif decide (n5 < 64) then
 ∃ (a4 : Option Addr) (l4 c4 : Nat), nth x 0 = .slice a4 l4 c4 ∧ ∃ (a20 : Option Addr) (l20 c20 : Nat), Al (Instr.sliceAt 40 (.slice a0 l0 c0) (some (.int .i64 (IntKind.i64.wrap (4 * n5)))) (some (.int .i64 (IntKind.i64.wrap ((IntKind.i64.wrap (4 * n5)) + 4)))) none) (.slice a20 l20 c20) ∧ Cal Try.prog F_leveeref01_Get #[.slice a20 l20 c20] w1 fun r21 w2 => ∃ n21 : Int, r21 = .int .u64 n21 ∧ ∃ (a24 : Option Addr) (l24 c24 : Nat), ∃ w3 : World, Ru (Instr.buildSlice 42 1 #[(0, .int .i64 (IntKind.i64.wrap (IntKind.u64.wrap (bvAnd 64 n21 2147483647))))]) w2 (.slice a24 l24 c24) w3 ∧ ∃ (a25 : Option Addr) (l25 c25 : Nat), ∃ w4 : World, Ru (Builtin.append_ #[42, 42] 42 #[.slice a4 l4 c4, .slice a24 l24 c24]) w3 (.slice a25 l25 c25) w4 ∧ k [.slice a25 l25 c25, .int .i64 (IntKind.i64.wrap (n5 + 1))] w4
 else
 ∃ (a4_2 : Option Addr) (l4_2 c4_2 : Nat), nth x 0 = .slice a4_2 l4_2 c4_2 ∧ K (.tuple #[.slice a4_2 l4_2 c4_2, .int .i64 0]) w1)) [.slice none 0 0, .int .i64 0] w0)
set_option maxRecDepth 100000 in
theorem C_leveeref09_Names (a0 : Option Addr) (l0 c0 : Nat) (w0 : World) (K : Value → World → Prop) (h : D_leveeref09_Names a0 l0 c0 w0 K) : Cal Try.prog F_leveeref09_Names #[.slice a0 l0 c0] w0 K :=
 denF_sound (A := { S := [4, 5], ty := [(4, 42), (5, 3)], raw := [] }) mixed Try.func22 (by kernel_rfl) (by kernel_rfl) ((show denF Try.prog _ Try.f22 _ w0 K = D_leveeref09_Names a0 l0 c0 w0 K by kernel_rfl).mpr h)

/- levee.leveeref09.Lay: slots {16: '', 22: ''};  -/
set_option maxRecDepth 100000 in
def D_leveeref09_Lay (a0 : Option Addr) (l0 c0 : Nat) (n1 : Int) (n2 : Int) (w0 : World) (K : Value → World → Prop) : Prop :=
 (bif (l0 : Int) != 256 then
 K (.tuple #[.slice none 0 0, .int .i64 4]) w0
 else
 Share (fun k => (bif decide (n1 < 0) then k [.bool true] w0 else k [.bool (decide (n1 ≥ 64))] w0)) fun x w1 =>
 ∃ b16 : Bool, nth x 0 = .bool b16 ∧ (bif b16 then
 K (.tuple #[.slice none 0 0, .int .i64 3]) w1
 else
 Share (fun k_2 => (bif decide (n2 < 0) then k_2 [.bool true] w1 else k_2 [.bool (decide (n2 ≥ 4096))] w1)) fun x_2 w2 =>
 ∃ b22 : Bool, nth x_2 0 = .bool b22 ∧ (bif b22 then
 K (.tuple #[.slice none 0 0, .int .i64 1]) w2
 else
 Cal Try.prog F_leveeref01_Bytes #[.int .u64 (IntKind.u64.wrap n2), .int .i64 4] w2 fun r28 w3 => ∃ (a28 : Option Addr) (l28 c28 : Nat), r28 = .slice a28 l28 c28 ∧ Cal Try.prog F_leveeref01_Lay #[.slice a0 l0 c0, .int .i64 (IntKind.i64.wrap (4 * n1)), .slice a28 l28 c28] w3 fun r29 w4 => ∃ (a29a : Option Addr) (l29a c29a : Nat), ∃ n29b : Int, r29 = .tuple #[.slice a29a l29a c29a, .int .i64 n29b] ∧ K (.tuple #[.slice a29a l29a c29a, .int .i64 n29b]) w4)))
set_option maxRecDepth 100000 in
theorem C_leveeref09_Lay (a0 : Option Addr) (l0 c0 : Nat) (n1 : Int) (n2 : Int) (w0 : World) (K : Value → World → Prop) (h : D_leveeref09_Lay a0 l0 c0 n1 n2 w0 K) : Cal Try.prog F_leveeref09_Lay #[.slice a0 l0 c0, .int .i64 n1, .int .i64 n2] w0 K :=
 denF_sound (A := { S := [16, 22], ty := [(16, 4), (22, 4)], raw := [] }) mixed Try.func24 (by kernel_rfl) (by kernel_rfl) ((show denF Try.prog _ Try.f24 _ w0 K = D_leveeref09_Lay a0 l0 c0 n1 n2 w0 K by kernel_rfl).mpr h)

end Go.Proofs.Ytkmkfdljnlbikaa
