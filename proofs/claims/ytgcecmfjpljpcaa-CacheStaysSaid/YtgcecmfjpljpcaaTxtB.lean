/- What functions of the translation come to, as printed by a program of this session. -/
import Derived.Test.YtgcecmfjpljpcaaIds
open Go Go.Den Go.Proofs
namespace Go.Proofs.Ytgcecmfjpljpcaa

/- levee.leveeref01.Lent: slots {};  -/
set_option maxRecDepth 100000 in
def D_leveeref01_Lent (a0 : Option Addr) (l0 c0 : Nat) (w0 : World) (K : Value → World → Prop) : Prop :=
 ∃ (a7 : Option Addr) (l7 c7 : Nat), ∃ w1 : World, Ru (Instr.makeSlice 32 (.int .i64 0) (.int .i64 (IntKind.i64.wrap ((l0 : Int) + 8)))) w0 (.slice a7 l7 c7) w1 ∧ ∃ (a10 : Option Addr) (l10 c10 : Nat), ∃ w2 : World, Ru (Builtin.append_ #[32, 32] 32 #[.slice a7 l7 c7, .slice a0 l0 c0]) w1 (.slice a10 l10 c10) w2 ∧ ∃ (a12 : Option Addr) (l12 c12 : Nat), ∃ w3 : World, Ru (Instr.buildSlice 32 8 #[(0, .int .u8 165), (1, .int .u8 165), (2, .int .u8 165), (3, .int .u8 165), (4, .int .u8 165), (5, .int .u8 165), (6, .int .u8 165), (7, .int .u8 165)]) w2 (.slice a12 l12 c12) w3 ∧ ∃ (a13 : Option Addr) (l13 c13 : Nat), ∃ w4 : World, Ru (Builtin.append_ #[32, 32] 32 #[.slice a10 l10 c10, .slice a12 l12 c12]) w3 (.slice a13 l13 c13) w4 ∧ ∃ (a17 : Option Addr) (l17 c17 : Nat), Al (Instr.sliceAt 32 (.slice a13 l13 c13) none (some (.int .i64 ((l0 : Int)))) none) (.slice a17 l17 c17) ∧ K (.slice a17 l17 c17) w4
set_option maxRecDepth 100000 in
theorem C_leveeref01_Lent (a0 : Option Addr) (l0 c0 : Nat) (w0 : World) (K : Value → World → Prop) (h : D_leveeref01_Lent a0 l0 c0 w0 K) : Cal Try.prog F_leveeref01_Lent #[.slice a0 l0 c0] w0 K :=
 denF_sound (A := { S := [], ty := [], raw := [] }) mixed Try.func68 (by kernel_rfl) (by kernel_rfl) ((show denF Try.prog _ Try.f68 _ w0 K = D_leveeref01_Lent a0 l0 c0 w0 K by kernel_rfl).mpr h)

/- levee.leveeref01.Kept: slots {17: ''};  -/
set_option maxRecDepth 100000 in
def D_leveeref01_Kept (a0 : Option Addr) (l0 c0 : Nat) (a1 : Option Addr) (l1 c1 : Nat) (w0 : World) (K : Value → World → Prop) : Prop :=
 Share (fun k => ∃ s6 : ByteArray, Ru (convert 32 9 (.slice a0 l0 c0)) w0 (.string s6) w0 ∧ ∃ s8 : ByteArray, Ru (convert 32 9 (.slice a1 l1 c1)) w0 (.string s8) w0 ∧ (bif !((ByteArray.toList s6) == (ByteArray.toList s8)) then k [.bool true] w0 else k [.bool (decide ((c0 : Int) < (IntKind.i64.wrap ((l1 : Int) + 8))))] w0)) fun x w1 =>
 ∃ b17 : Bool, nth x 0 = .bool b17 ∧ (bif b17 then
 K (.bool false) w1
 else
 ∃ (a22 : Option Addr) (l22 c22 : Nat), Al (Instr.sliceAt 32 (.slice a0 l0 c0) none (some (.int .i64 (IntKind.i64.wrap ((l1 : Int) + 8)))) none) (.slice a22 l22 c22) ∧ ∃ s23 : ByteArray, Ru (convert 32 9 (.slice a22 l22 c22)) (drew w1) (.string s23) (drew w1) ∧ ∃ s25 : ByteArray, Ru (convert 32 9 (.slice a1 l1 c1)) (drew w1) (.string s25) (drew w1) ∧ ∃ s26 : ByteArray, Al (eqS .add 9 (.tmp 25) (.const (.string (⟨#[165, 165, 165, 165, 165, 165, 165, 165]⟩))) (.string s25) (.string (⟨#[165, 165, 165, 165, 165, 165, 165, 165]⟩))) (.string s26) ∧ K (.bool ((ByteArray.toList s23) == (ByteArray.toList s26))) (drew w1))
set_option maxRecDepth 100000 in
theorem C_leveeref01_Kept (a0 : Option Addr) (l0 c0 : Nat) (a1 : Option Addr) (l1 c1 : Nat) (w0 : World) (K : Value → World → Prop) (h : D_leveeref01_Kept a0 l0 c0 a1 l1 c1 w0 K) : Cal Try.prog F_leveeref01_Kept #[.slice a0 l0 c0, .slice a1 l1 c1] w0 K :=
 denF_sound (A := { S := [17], ty := [(17, 4)], raw := [] }) mixed Try.func77 (by kernel_rfl) (by kernel_rfl) ((show denF Try.prog _ Try.f77 _ w0 K = D_leveeref01_Kept a0 l0 c0 a1 l1 c1 w0 K by kernel_rfl).mpr h)

/- levee.leveeref01.Spoil: slots {2: 'i'}; loop over [2] -/
set_option maxRecDepth 100000 in
def D_leveeref01_Spoil (a0 : Option Addr) (l0 c0 : Nat) (w0 : World) (K : Value → World → Prop) : Prop :=
 LoopC (fun k x w1 =>
 ∃ n2 : Int, nth x 0 = .int .i64 n2 ∧ (bif decide (n2 < (l0 : Int)) then
 ∃ q11 : Addr, Al (Instr.indexAt 32 (.slice a0 l0 c0) (.int .i64 n2)) (.pointer (some q11)) ∧ ∃ w2 : World, RuU (Instr.storeAt 5 (.pointer (some q11)) (.int .u8 90)) w1 w2 ∧ k [.int .i64 (IntKind.i64.wrap (n2 + 1))] w2
 else
 K (.tuple #[]) w1)) [.int .i64 0] w0
set_option maxRecDepth 100000 in
theorem C_leveeref01_Spoil (a0 : Option Addr) (l0 c0 : Nat) (w0 : World) (K : Value → World → Prop) (h : D_leveeref01_Spoil a0 l0 c0 w0 K) : Cal Try.prog F_leveeref01_Spoil #[.slice a0 l0 c0] w0 K :=
 denF_sound (A := { S := [2], ty := [(2, 3)], raw := [] }) mixed Try.func70 (by kernel_rfl) (by kernel_rfl) ((show denF Try.prog _ Try.f70 _ w0 K = D_leveeref01_Spoil a0 l0 c0 w0 K by kernel_rfl).mpr h)

/- levee.leveeref01.Ints: slots {5: 'i'}; loop over [5] -/
set_option maxRecDepth 100000 in
def D_leveeref01_Ints (a0 : Option Addr) (l0 c0 : Nat) (a1 : Option Addr) (l1 c1 : Nat) (w0 : World) (K : Value → World → Prop) : Prop :=
 (bif (l0 : Int) != (l1 : Int) then
 K (.bool false) w0
 else
 LoopC (fun k x w1 =>
 ∃ n5 : Int, nth x 0 = .int .i64 n5 ∧ (bif decide (n5 < (l0 : Int)) then
 ∃ q19 : Addr, Al (Instr.indexAt 31 (.slice a0 l0 c0) (.int .i64 n5)) (.pointer (some q19)) ∧ ∃ n20 : Int, Ru (Instr.loadAt 3 (.pointer (some q19))) (drew w1) (.int .i64 n20) (drew w1) ∧ ∃ q23 : Addr, Al (Instr.indexAt 31 (.slice a1 l1 c1) (.int .i64 n5)) (.pointer (some q23)) ∧ ∃ n24 : Int, Ru (Instr.loadAt 3 (.pointer (some q23))) (drew w1) (.int .i64 n24) (drew w1) ∧ (bif n20 != n24 then
 K (.bool false) (drew w1)
 else
 k [.int .i64 (IntKind.i64.wrap (n5 + 1))] (drew w1))
 else
 K (.bool true) w1)) [.int .i64 0] w0)
set_option maxRecDepth 100000 in
theorem C_leveeref01_Ints (a0 : Option Addr) (l0 c0 : Nat) (a1 : Option Addr) (l1 c1 : Nat) (w0 : World) (K : Value → World → Prop) (h : D_leveeref01_Ints a0 l0 c0 a1 l1 c1 w0 K) : Cal Try.prog F_leveeref01_Ints #[.slice a0 l0 c0, .slice a1 l1 c1] w0 K :=
 denF_sound (A := { S := [5], ty := [(5, 3)], raw := [] }) mixed Try.func31 (by kernel_rfl) (by kernel_rfl) ((show denF Try.prog _ Try.f31 _ w0 K = D_leveeref01_Ints a0 l0 c0 a1 l1 c1 w0 K by kernel_rfl).mpr h)

end Go.Proofs.Ytgcecmfjpljpcaa
