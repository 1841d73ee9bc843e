/- What functions of the translation come to, as printed by a program of this session. -/
import Derived.Test.YtgcecmfjpljpcaaIds
open Go Go.Den Go.Proofs
namespace Go.Proofs.Ytgcecmfjpljpcaa

/- levee.leveeref01.Lent: slots {};  -/
set_option maxRecDepth 100000 in
def D_leveeref01_Lent (a0 : Option Addr) (l0 c0 : Nat) (w0 : World) (K : Value → World → Prop) : Prop :=
 ∃ (a7 : Option Addr) (l7 c7 : Nat), ∃ w1 : World, Ru (Instr.makeSlice 32 (.int .i64 0) (.int .i64 (IntKind.i64.wrap ((l0 : Int) + 8)))) w0 (.slice a7 l7 c7) w1 ∧ ∃ (a10 : Option Addr) (l10 c10 : Nat), ∃ w2 : World, Ru (Builtin.append_ #[32, 32] 32 #[.slice a7 l7 c7, .slice a0 l0 c0]) w1 (.slice a10 l10 c10) w2 ∧ ∃ (a12 : Option Addr) (l12 c12 : Nat), ∃ w3 : World, Ru (Instr.buildSlice 32 8 #[(0, .int .u8 165), (1, .int .u8 165), (2, .int .u8 165), (3, .int .u8 165), (4, .int .u8 165), (5, .int .u8 165), (6, .int .u8 165), (7, .int .u8 165)]) w2 (.slice a12 l12 c12) w3 ∧ ∃ (a13 : Option Addr) (l13 c13 : Nat), ∃ w4 : World, Ru (Builtin.append_ #[32, 32] 32 #[.slice a10 l10 c10, .slice a12 l12 c12]) w3 (.slice a13 l13 c13) w4 ∧ ∃ (a17 : Option Addr) (l17 c17 : Nat), Al (Instr.sliceAt 32 (.slice a13 l13 c13) none (some (.int .i64 ((l0 : Int)))) none) (.slice a17 l17 c17) ∧ K (.slice a17 l17 c17) w4
set_option maxRecDepth 100000 in
theorem C_leveeref01_Lent (a0 : Option Addr) (l0 c0 : Nat) (w0 : World) (K : Value → World → Prop) (h : D_leveeref01_Lent a0 l0 c0 w0 K) : Cal Try.prog F_leveeref01_Lent #[.slice a0 l0 c0] w0 K :=
 denF_sound (A := { S := [], ty := [], raw := [] }) mixed Try.func68 (by kernel_rfl) (by kernel_rfl) ((show denF Try.prog _ Try.f68 _ w0 K = D_leveeref01_Lent a0 l0 c0 w0 K by kernel_rfl).mpr h)

/- levee.leveeref01.Kept: slots {17: ''};  -/
set_option maxRecDepth 100000 in
def D_leveeref01_Kept (a0 : Option Addr) (l0 c0 : Nat) (a1 : Option Addr) (l1 c1 : Nat) (w0 : World) (K : Value → World → Prop) : Prop :=
 Share (fun k => ∃ s6 : ByteArray, Ru (convert 32 9 (.slice a0 l0 c0)) w0 (.string s6) w0 ∧ ∃ s8 : ByteArray, Ru (convert 32 9 (.slice a1 l1 c1)) w0 (.string s8) w0 ∧ (bif !((ByteArray.toList s6) == (ByteArray.toList s8)) then k [.bool true] w0 else k [.bool (decide ((c0 : Int) < (IntKind.i64.wrap ((l1 : Int) + 8))))] w0)) fun x w1 =>
 ∃ b17 : Bool, nth x 0 = .bool b17 ∧ (bif b17 then
 K (.bool false) w1
 else
 ∃ (a22 : Option Addr) (l22 c22 : Nat), Al (Instr.sliceAt 32 (.slice a0 l0 c0) none (some (.int .i64 (IntKind.i64.wrap ((l1 : Int) + 8)))) none) (.slice a22 l22 c22) ∧ ∃ s23 : ByteArray, Ru (convert 32 9 (.slice a22 l22 c22)) (drew w1) (.string s23) (drew w1) ∧ ∃ s25 : ByteArray, Ru (convert 32 9 (.slice a1 l1 c1)) (drew w1) (.string s25) (drew w1) ∧ ∃ s26 : ByteArray, Al (eqS .add 9 (.tmp 25) (.const (.string (⟨#[165, 165, 165, 165, 165, 165, 165, 165]⟩))) (.string s25) (.string (⟨#[165, 165, 165, 165, 165, 165, 165, 165]⟩))) (.string s26) ∧ K (.bool ((ByteArray.toList s23) == (ByteArray.toList s26))) (drew w1))
set_option maxRecDepth 100000 in
theorem C_leveeref01_Kept (a0 : Option Addr) (l0 c0 : Nat) (a1 : Option Addr) (l1 c1 : Nat) (w0 : World) (K : Value → World → Prop) (h : D_leveeref01_Kept a0 l0 c0 a1 l1 c1 w0 K) : Cal Try.prog F_leveeref01_Kept #[.slice a0 l0 c0, .slice a1 l1 c1] w0 K :=
 denF_sound (A := { S := [17], ty := [(17, 4)], raw := [] }) mixed Try.func77 (by kernel_rfl) (by kernel_rfl) ((show denF Try.prog _ Try.f77 _ w0 K = D_leveeref01_Kept a0 l0 c0 a1 l1 c1 w0 K by kernel_rfl).mpr h)

/- levee.leveeref01.Spoil: slots {2: 'i'}; loop over [2] -/
set_option maxRecDepth 100000 in
def D_leveeref01_Spoil (a0 : Option Addr) (l0 c0 : Nat) (w0 : World) (K : Value → World → Prop) : Prop :=
 LoopC (fun k x w1 =>
 ∃ n2 : Int, nth x 0 = .int .i64 n2 ∧ (bif decide (n2 < (l0 : Int)) then
 ∃ q11 : Addr, Al (Instr.indexAt 32 (.slice a0 l0 c0) (.int .i64 n2)) (.pointer (some q11)) ∧ ∃ w2 : World, RuU (Instr.storeAt 5 (.pointer (some q11)) (.int .u8 90)) w1 w2 ∧ k [.int .i64 (IntKind.i64.wrap (n2 + 1))] w2
 else
 K (.tuple #[]) w1)) [.int .i64 0] w0
set_option maxRecDepth 100000 in
theorem C_leveeref01_Spoil (a0 : Option Addr) (l0 c0 : Nat) (w0 : World) (K : Value → World → Prop) (h : D_leveeref01_Spoil a0 l0 c0 w0 K) : Cal Try.prog F_leveeref01_Spoil #[.slice a0 l0 c0] w0 K :=
 denF_sound (A := { S := [2], ty := [(2, 3)], raw := [] }) mixed Try.func70 (by kernel_rfl) (by kernel_rfl) ((show denF Try.prog _ Try.f70 _ w0 K = D_leveeref01_Spoil a0 l0 c0 w0 K by kernel_rfl).mpr h)

/- levee.leveeref01.Ints: slots {5: 'i'}; loop over [5] -/
set_option maxRecDepth 100000 in
def D_leveeref01_Ints (a0 : Option Addr) (l0 c0 : Nat) (a1 : Option Addr) (l1 c1 : Nat) (w0 : World) (K : Value → World → Prop) : Prop :=
 (bif (l0 : Int) != (l1 : Int) then
 K (.bool false) w0
 else
 LoopC (fun k x w1 =>
 ∃ n5 : Int, nth x 0 = .int .i64 n5 ∧ (bif decide (n5 < (l0 : Int)) then
 ∃ q19 : Addr, Al (Instr.indexAt 31 (.slice a0 l0 c0) (.int .i64 n5)) (.pointer (some q19)) ∧ ∃ n20 : Int, Ru (Instr.loadAt 3 (.pointer (some q19))) (drew w1) (.int .i64 n20) (drew w1) ∧ ∃ q23 : Addr, Al (Instr.indexAt 31 (.slice a1 l1 c1) (.int .i64 n5)) (.pointer (some q23)) ∧ ∃ n24 : Int, Ru (Instr.loadAt 3 (.pointer (some q23))) (drew w1) (.int .i64 n24) (drew w1) ∧ (bif n20 != n24 then
 K (.bool false) (drew w1)
 else
 k [.int .i64 (IntKind.i64.wrap (n5 + 1))] (drew w1))
 else
 K (.bool true) w1)) [.int .i64 0] w0)
set_option maxRecDepth 100000 in
theorem C_leveeref01_Ints (a0 : Option Addr) (l0 c0 : Nat) (a1 : Option Addr) (l1 c1 : Nat) (w0 : World) (K : Value → World → Prop) (h : D_leveeref01_Ints a0 l0 c0 a1 l1 c1 w0 K) : Cal Try.prog F_leveeref01_Ints #[.slice a0 l0 c0, .slice a1 l1 c1] w0 K :=
 denF_sound (A := { S := [5], ty := [(5, 3)], raw := [] }) mixed Try.func31 (by kernel_rfl) (by kernel_rfl) ((show denF Try.prog _ Try.f31 _ w0 K = D_leveeref01_Ints a0 l0 c0 a1 l1 c1 w0 K by kernel_rfl).mpr h)

/- (levee.disk.Disk).may: slots {8: ''};  -/
set_option maxRecDepth 100000 in
def D_disk_Disk_may (p0 : Option Addr) (n1 : Int) (w0 : World) (K : Value → World → Prop) : Prop :=
 (bif Option.isNone p0 then
 K (.int .i64 2) w0
 else
 Share (fun k => (bif decide (n1 < 0) then k [.bool true] w0 else ∃ q14 : Addr, (.pointer p0 : Value) = .pointer (some q14) ∧ ∃ (a16 : Option Addr) (l16 c16 : Nat), Ru (Instr.loadAt 82 (.pointer (some (Addr.add q14 0)))) w0 (.slice a16 l16 c16) w0 ∧ k [.bool (decide (n1 ≥ (l16 : Int)))] w0)) fun x w1 =>
 ∃ b8 : Bool, nth x 0 = .bool b8 ∧ (bif b8 then
 K (.int .i64 3) w1
 else
 K (.int .i64 0) w1))
set_option maxRecDepth 100000 in
theorem C_disk_Disk_may (p0 : Option Addr) (n1 : Int) (w0 : World) (K : Value → World → Prop) (h : D_disk_Disk_may p0 n1 w0 K) : Cal Try.prog F_disk_Disk_may #[.pointer p0, .int .i64 n1] w0 K :=
 denF_sound (A := { S := [8], ty := [(8, 4)], raw := [] }) mixed Try.func65 (by kernel_rfl) (by kernel_rfl) ((show denF Try.prog _ Try.f65 _ w0 K = D_disk_Disk_may p0 n1 w0 K by kernel_rfl).mpr h)

/- (levee.disk.Disk).goes: slots {};  -/
set_option maxRecDepth 100000 in
def D_disk_Disk_goes (p0 : Option Addr) (w0 : World) (K : Value → World → Prop) : Prop :=
 ∃ q4 : Addr, (.pointer p0 : Value) = .pointer (some q4) ∧ ∃ n6 : Int, Ru (Instr.loadAt 3 (.pointer (some (Addr.add q4 2)))) w0 (.int .i64 n6) w0 ∧ (bif n6 == 0 then
 K (.bool false) w0
 else
 ∃ q10 : Addr, (.pointer p0 : Value) = .pointer (some q10) ∧ ∃ n12 : Int, Ru (Instr.loadAt 3 (.pointer (some (Addr.add q10 2)))) w0 (.int .i64 n12) w0 ∧ ∃ q15 : Addr, (.pointer p0 : Value) = .pointer (some q15) ∧ ∃ w1 : World, RuU (Instr.storeAt 3 (.pointer (some (Addr.add q15 2))) (.int .i64 (if (-1) > (IntKind.i64.wrap (n12 - 1)) then (-1) else (IntKind.i64.wrap (n12 - 1))))) w0 w1 ∧ K (.bool true) w1)
set_option maxRecDepth 100000 in
theorem C_disk_Disk_goes (p0 : Option Addr) (w0 : World) (K : Value → World → Prop) (h : D_disk_Disk_goes p0 w0 K) : Cal Try.prog F_disk_Disk_goes #[.pointer p0] w0 K :=
 denF_sound (A := { S := [], ty := [], raw := [] }) mixed Try.func106 (by kernel_rfl) (by kernel_rfl) ((show denF Try.prog _ Try.f106 _ w0 K = D_disk_Disk_goes p0 w0 K by kernel_rfl).mpr h)

/- (levee.disk.Disk).last: slots {};  -/
set_option maxRecDepth 100000 in
def D_disk_Disk_last (p0 : Option Addr) (n1 : Int) (w0 : World) (K : Value → World → Prop) : Prop :=
 ∃ q4 : Addr, ∃ w1 : World, Ru (Instr.alloc 101 true (.tuple #[])) w0 (.pointer (some q4)) w1 ∧ ∃ q7 : Addr, (.pointer p0 : Value) = .pointer (some q7) ∧ ∃ m9 : Option Nat, Ru (Instr.loadAt 83 (.pointer (some (Addr.add q7 1)))) w1 (.map m9) w1 ∧ ∃ (a11 : Option Addr) (l11 c11 : Nat), Ru (Instr.lookup 83 (.map m9) (.int .i64 n1) false) w1 (.slice a11 l11 c11) w1 ∧ (bif decide ((l11 : Int) > 0) then
 ∃ q19 : Addr, Al (Instr.indexAt 82 (.slice a11 l11 c11) (.int .i64 (IntKind.i64.wrap ((l11 : Int) - 1)))) (.pointer (some q19)) ∧ ∃ g20 : Array Value, Ru (Instr.loadAt 101 (.pointer (some q19))) w1 (.agg g20) w1 ∧ ∃ w2 : World, RuU (Instr.storeAt 101 (.pointer (some q4)) (.agg g20)) w1 w2 ∧ ∃ gR4 : Array Value, Ru (Instr.loadAt 101 (.pointer (some q4))) w2 (.agg gR4) w2 ∧ K (.agg gR4) w2
 else
 ∃ q22 : Addr, (.pointer p0 : Value) = .pointer (some q22) ∧ ∃ (a24 : Option Addr) (l24 c24 : Nat), Ru (Instr.loadAt 82 (.pointer (some (Addr.add q22 0)))) w1 (.slice a24 l24 c24) w1 ∧ ∃ q26 : Addr, Al (Instr.indexAt 82 (.slice a24 l24 c24) (.int .i64 n1)) (.pointer (some q26)) ∧ ∃ g27 : Array Value, Ru (Instr.loadAt 101 (.pointer (some q26))) w1 (.agg g27) w1 ∧ ∃ w3 : World, RuU (Instr.storeAt 101 (.pointer (some q4)) (.agg g27)) w1 w3 ∧ ∃ gR4_2 : Array Value, Ru (Instr.loadAt 101 (.pointer (some q4))) w3 (.agg gR4_2) w3 ∧ K (.agg gR4_2) w3)
set_option maxRecDepth 100000 in
theorem C_disk_Disk_last (p0 : Option Addr) (n1 : Int) (w0 : World) (K : Value → World → Prop) (h : D_disk_Disk_last p0 n1 w0 K) : Cal Try.prog F_disk_Disk_last #[.pointer p0, .int .i64 n1] w0 K :=
 denF_sound (A := { S := [], ty := [], raw := [] }) mixed Try.func62 (by kernel_rfl) (by kernel_rfl) ((show denF Try.prog _ Try.f62 _ w0 K = D_disk_Disk_last p0 n1 w0 K by kernel_rfl).mpr h)

/- (levee.disk.Disk).Read: slots {};  -/
set_option maxRecDepth 100000 in
def D_disk_Disk_Read (p0 : Option Addr) (n1 : Int) (w0 : World) (K : Value → World → Prop) : Prop :=
 Cal Try.prog F_disk_Disk_may #[.pointer p0, .int .i64 n1] w0 fun r10 w1 => ∃ n10 : Int, r10 = .int .i64 n10 ∧ (bif n10 != 0 then
 K (.tuple #[.slice none 0 0, .int .i64 n10]) w1
 else
 Cal Try.prog F_disk_Disk_last #[.pointer p0, .int .i64 n1] w1 fun r16 w2 => ∃ g16 : Array Value, r16 = .agg g16 ∧ ∃ q7 : Addr, ∃ w3 : World, Ru (Instr.alloc 101 true (.tuple #[])) w2 (.pointer (some q7)) w3 ∧ ∃ w4 : World, RuU (Instr.storeAt 101 (.pointer (some q7)) (.agg g16)) w3 w4 ∧ ∃ (a17 : Option Addr) (l17 c17 : Nat), Al (Instr.sliceAt 101 (.pointer (some q7)) none none none) (.slice a17 l17 c17) ∧ K (.tuple #[.slice a17 l17 c17, .int .i64 0]) w4)
set_option maxRecDepth 100000 in
theorem C_disk_Disk_Read (p0 : Option Addr) (n1 : Int) (w0 : World) (K : Value → World → Prop) (h : D_disk_Disk_Read p0 n1 w0 K) : Cal Try.prog F_disk_Disk_Read #[.pointer p0, .int .i64 n1] w0 K :=
 denF_sound (A := { S := [], ty := [], raw := [] }) mixed Try.func25 (by kernel_rfl) (by kernel_rfl) ((show denF Try.prog _ Try.f25 _ w0 K = D_disk_Disk_Read p0 n1 w0 K by kernel_rfl).mpr h)

/- (levee.disk.Disk).Safe: slots {};  -/
set_option maxRecDepth 100000 in
def D_disk_Disk_Safe (p0 : Option Addr) (n1 : Int) (w0 : World) (K : Value → World → Prop) : Prop :=
 Cal Try.prog F_disk_Disk_may #[.pointer p0, .int .i64 n1] w0 fun r10 w1 => ∃ n10 : Int, r10 = .int .i64 n10 ∧ (bif n10 != 0 then
 K (.tuple #[.slice none 0 0, .int .i64 n10]) w1
 else
 ∃ q15 : Addr, (.pointer p0 : Value) = .pointer (some q15) ∧ ∃ (a17 : Option Addr) (l17 c17 : Nat), Ru (Instr.loadAt 82 (.pointer (some (Addr.add q15 0)))) w1 (.slice a17 l17 c17) w1 ∧ ∃ q19 : Addr, Al (Instr.indexAt 82 (.slice a17 l17 c17) (.int .i64 n1)) (.pointer (some q19)) ∧ ∃ g20 : Array Value, Ru (Instr.loadAt 101 (.pointer (some q19))) w1 (.agg g20) w1 ∧ ∃ q7 : Addr, ∃ w2 : World, Ru (Instr.alloc 101 true (.tuple #[])) w1 (.pointer (some q7)) w2 ∧ ∃ w3 : World, RuU (Instr.storeAt 101 (.pointer (some q7)) (.agg g20)) w2 w3 ∧ ∃ (a21 : Option Addr) (l21 c21 : Nat), Al (Instr.sliceAt 101 (.pointer (some q7)) none none none) (.slice a21 l21 c21) ∧ K (.tuple #[.slice a21 l21 c21, .int .i64 0]) w3)
set_option maxRecDepth 100000 in
theorem C_disk_Disk_Safe (p0 : Option Addr) (n1 : Int) (w0 : World) (K : Value → World → Prop) (h : D_disk_Disk_Safe p0 n1 w0 K) : Cal Try.prog F_disk_Disk_Safe #[.pointer p0, .int .i64 n1] w0 K :=
 denF_sound (A := { S := [], ty := [], raw := [] }) mixed Try.func46 (by kernel_rfl) (by kernel_rfl) ((show denF Try.prog _ Try.f46 _ w0 K = D_disk_Disk_Safe p0 n1 w0 K by kernel_rfl).mpr h)

/- (levee.disk.Disk).Write: slots {};  -/
set_option maxRecDepth 100000 in
def D_disk_Disk_Write (p0 : Option Addr) (n1 : Int) (a2 : Option Addr) (l2 c2 : Nat) (w0 : World) (K : Value → World → Prop) : Prop :=
 Cal Try.prog F_disk_Disk_may #[.pointer p0, .int .i64 n1] w0 fun r11 w1 => ∃ n11 : Int, r11 = .int .i64 n11 ∧ (bif n11 != 0 then
 K (.int .i64 n11) w1
 else
 (bif (l2 : Int) != 256 then
 K (.int .i64 4) w1
 else
 ∃ q21 : Addr, (.pointer p0 : Value) = .pointer (some q21) ∧ ∃ m23 : Option Nat, Ru (Instr.loadAt 83 (.pointer (some (Addr.add q21 1)))) w1 (.map m23) w1 ∧ ∃ (a25 : Option Addr) (l25 c25 : Nat), Ru (Instr.lookup 83 (.map m23) (.int .i64 n1) false) w1 (.slice a25 l25 c25) w1 ∧ Cal Try.prog F_disk_Disk_goes #[.pointer p0] w1 fun r27 w2 => ∃ b27 : Bool, r27 = .bool b27 ∧ Share (fun k => (bif b27 then
 ∃ q29 : Addr, (.pointer p0 : Value) = .pointer (some q29) ∧ ∃ m31 : Option Nat, Ru (Instr.loadAt 83 (.pointer (some (Addr.add q29 1)))) (drew w2) (.map m31) (drew w2) ∧ ∃ (a38 : Option Addr) (l38 c38 : Nat), Al (Instr.sliceAt 82 (.slice a25 l25 c25) none (some (.int .i64 ((l25 : Int)))) (some (.int .i64 ((l25 : Int))))) (.slice a38 l38 c38) ∧ ∃ q40 : Addr, Al (Instr.arrayAt 101 (.slice a2 l2 c2)) (.pointer (some q40)) ∧ ∃ g41 : Array Value, Ru (Instr.loadAt 101 (.pointer (some q40))) (drew w2) (.agg g41) (drew w2) ∧ ∃ (a42 : Option Addr) (l42 c42 : Nat), ∃ w3 : World, Ru (Instr.buildSlice 82 1 #[(0, .agg g41)]) (drew w2) (.slice a42 l42 c42) w3 ∧ Ru (Instr.loadAt 83 (.pointer (some (Addr.add q29 1)))) w3 (.map m31) w3 ∧ ∃ (a43 : Option Addr) (l43 c43 : Nat), ∃ w4 : World, Ru (Builtin.append_ #[82, 82] 82 #[.slice a38 l38 c38, .slice a42 l42 c42]) w3 (.slice a43 l43 c43) w4 ∧ Ru (Instr.loadAt 83 (.pointer (some (Addr.add q29 1)))) w4 (.map m31) w4 ∧ ∃ w5 : World, RuU (Instr.mapUpdate 83 (.map m31) (.int .i64 n1) (.slice a43 l43 c43)) w4 w5 ∧ k [] w5
 else
 k [] w2)) fun x w6 =>
 K (.int .i64 0) w6))
set_option maxRecDepth 100000 in
theorem C_disk_Disk_Write (p0 : Option Addr) (n1 : Int) (a2 : Option Addr) (l2 c2 : Nat) (w0 : World) (K : Value → World → Prop) (h : D_disk_Disk_Write p0 n1 a2 l2 c2 w0 K) : Cal Try.prog F_disk_Disk_Write #[.pointer p0, .int .i64 n1, .slice a2 l2 c2] w0 K :=
 denF_sound (A := { S := [], ty := [], raw := [] }) mixed Try.func63 (by kernel_rfl) (by kernel_rfl) ((show denF Try.prog _ Try.f63 _ w0 K = D_disk_Disk_Write p0 n1 a2 l2 c2 w0 K by kernel_rfl).mpr h)

/- (levee.disk.Disk).Open: slots {3: 'l'}; loop over [3] -/
set_option maxRecDepth 100000 in
def D_disk_Disk_Open (p0 : Option Addr) (w0 : World) (K : Value → World → Prop) : Prop :=
 (bif Option.isNone p0 then
 K (.slice none 0 0) w0
 else
 ∃ q8 : Addr, (.pointer p0 : Value) = .pointer (some q8) ∧ ∃ m10 : Option Nat, Ru (Instr.loadAt 83 (.pointer (some (Addr.add q8 1)))) w0 (.map m10) w0 ∧ ∃ q11 : Addr, ∃ w1 : World, Ru (Instr.range 83 (.map m10)) w0 (.pointer (some q11)) w1 ∧ LoopC (fun k x w2 =>
 ∃ v12 : Value, ∃ w3 : World, Ru (Instr.next (.pointer (some q11)) false 0) w2 v12 w3 ∧ ∃ b13 : Bool, Al (Instr.extract v12 0) (.bool b13) ∧ (bif b13 then
 ∃ v14 : Value, Ru (Instr.entry (.pointer (some q11))) w3 v14 w3 ∧ ∃ n15 : Int, Al (Instr.extract v14 0) (.int .i64 n15) ∧ ∃ (a3 : Option Addr) (l3 c3 : Nat), nth x 0 = .slice a3 l3 c3 ∧ ∃ (a18 : Option Addr) (l18 c18 : Nat), ∃ w4 : World, Ru (Instr.buildSlice 31 1 #[(0, .int .i64 n15)]) w3 (.slice a18 l18 c18) w4 ∧ ∃ (a19 : Option Addr) (l19 c19 : Nat), ∃ w5 : World, Ru (Builtin.append_ #[31, 31] 31 #[.slice a3 l3 c3, .slice a18 l18 c18]) w4 (.slice a19 l19 c19) w5 ∧ k [.slice a19 l19 c19] w5
 else
 ∃ (a3_2 : Option Addr) (l3_2 c3_2 : Nat), nth x 0 = .slice a3_2 l3_2 c3_2 ∧ Cal Try.prog F_slices_Sort_int #[.slice a3_2 l3_2 c3_2] w3 fun r21 w6 => r21 = .tuple #[] ∧ K (.slice a3_2 l3_2 c3_2) w6)) [.slice none 0 0] w1)
set_option maxRecDepth 100000 in
theorem C_disk_Disk_Open (p0 : Option Addr) (w0 : World) (K : Value → World → Prop) (h : D_disk_Disk_Open p0 w0 K) : Cal Try.prog F_disk_Disk_Open #[.pointer p0] w0 K :=
 denF_sound (A := { S := [3], ty := [(3, 31)], raw := [12, 14] }) mixed Try.func81 (by kernel_rfl) (by kernel_rfl) ((show denF Try.prog _ Try.f81 _ w0 K = D_disk_Disk_Open p0 w0 K by kernel_rfl).mpr h)

/- (levee.disk.Disk).Flush: slots {15: ''}; loop over [15] -/
set_option maxRecDepth 100000 in
def D_disk_Disk_Flush (p0 : Option Addr) (w0 : World) (K : Value → World → Prop) : Prop :=
 (bif Option.isNone p0 then
 K (.int .i64 2) w0
 else
 Cal Try.prog F_disk_Disk_goes #[.pointer p0] w0 fun r10 w1 => ∃ b10 : Bool, r10 = .bool b10 ∧ (bif !b10 then
 K (.int .i64 0) w1
 else
 Cal Try.prog F_disk_Disk_Open #[.pointer p0] w1 fun r13 w2 => ∃ (a13 : Option Addr) (l13 c13 : Nat), r13 = .slice a13 l13 c13 ∧ LoopC (fun k x w3 =>
 ∃ n15 : Int, nth x 0 = .int .i64 n15 ∧ (bif decide (n15 < (l13 : Int)) then
 ∃ q17 : Addr, Al (Instr.indexAt 31 (.slice a13 l13 c13) (.int .i64 n15)) (.pointer (some q17)) ∧ ∃ n18 : Int, Ru (Instr.loadAt 3 (.pointer (some q17))) w3 (.int .i64 n18) w3 ∧ ∃ q20 : Addr, (.pointer p0 : Value) = .pointer (some q20) ∧ ∃ (a22 : Option Addr) (l22 c22 : Nat), Ru (Instr.loadAt 82 (.pointer (some (Addr.add q20 0)))) (drew w3) (.slice a22 l22 c22) (drew w3) ∧ Cal Try.prog F_disk_Disk_last #[.pointer p0, .int .i64 n18] (drew w3) fun r26 w4 => ∃ g26 : Array Value, r26 = .agg g26 ∧ Ru (Instr.loadAt 82 (.pointer (some (Addr.add q20 0)))) w4 (.slice a22 l22 c22) w4 ∧ ∃ q27 : Addr, Al (Instr.indexAt 82 (.slice a22 l22 c22) (.int .i64 n18)) (.pointer (some q27)) ∧ ∃ w5 : World, RuU (Instr.storeAt 101 (.pointer (some q27)) (.agg g26)) w4 w5 ∧ k [.int .i64 (IntKind.i64.wrap (n15 + 1))] w5
 else
 ∃ q30 : Addr, (.pointer p0 : Value) = .pointer (some q30) ∧ ∃ m32 : Option Nat, Ru (Instr.loadAt 83 (.pointer (some (Addr.add q30 1)))) w3 (.map m32) w3 ∧ ∃ w6 : World, Ru (Builtin.clear_ #[83] 0 #[.map m32]) w3 (.tuple #[]) w6 ∧ K (.int .i64 0) w6)) [.int .i64 0] w2))
set_option maxRecDepth 100000 in
theorem C_disk_Disk_Flush (p0 : Option Addr) (w0 : World) (K : Value → World → Prop) (h : D_disk_Disk_Flush p0 w0 K) : Cal Try.prog F_disk_Disk_Flush #[.pointer p0] w0 K :=
 denF_sound (A := { S := [15], ty := [(15, 3)], raw := [] }) mixed Try.func66 (by kernel_rfl) (by kernel_rfl) ((show denF Try.prog _ Try.f66 _ w0 K = D_disk_Disk_Flush p0 w0 K by kernel_rfl).mpr h)

/- (levee.disk.Disk).Crash: slots {6: 'k', 12: ''}; loop over [6, 12] -/
set_option maxRecDepth 100000 in
def D_disk_Disk_Crash (p0 : Option Addr) (a1 : Option Addr) (l1 c1 : Nat) (w0 : World) (K : Value → World → Prop) : Prop :=
 (bif Option.isNone p0 then
 K (.tuple #[]) w0
 else
 Cal Try.prog F_disk_Disk_Open #[.pointer p0] w0 fun r10 w1 => ∃ (a10 : Option Addr) (l10 c10 : Nat), r10 = .slice a10 l10 c10 ∧ LoopC (fun k x w2 =>
 ∃ n12 : Int, nth x 1 = .int .i64 n12 ∧ (bif decide (n12 < (l10 : Int)) then
 ∃ q15 : Addr, Al (Instr.indexAt 31 (.slice a10 l10 c10) (.int .i64 n12)) (.pointer (some q15)) ∧ ∃ n16 : Int, Ru (Instr.loadAt 3 (.pointer (some q15))) w2 (.int .i64 n16) w2 ∧ Share (fun k_2 => (bif decide (n12 < (l1 : Int)) then
 ∃ q23 : Addr, Al (Instr.indexAt 31 (.slice a1 l1 c1) (.int .i64 n12)) (.pointer (some q23)) ∧ ∃ n24 : Int, Ru (Instr.loadAt 3 (.pointer (some q23))) (drew w2) (.int .i64 n24) (drew w2) ∧ ∃ q27 : Addr, (.pointer p0 : Value) = .pointer (some q27) ∧ ∃ m29 : Option Nat, Ru (Instr.loadAt 83 (.pointer (some (Addr.add q27 1)))) (drew w2) (.map m29) (drew w2) ∧ ∃ (a31 : Option Addr) (l31 c31 : Nat), Ru (Instr.lookup 83 (.map m29) (.int .i64 n16) false) (drew w2) (.slice a31 l31 c31) (drew w2) ∧ k_2 [.int .i64 (if (l31 : Int) < (if 0 > n24 then 0 else n24) then (l31 : Int) else (if 0 > n24 then 0 else n24))] (drew w2)
 else
 k_2 [.int .i64 0] w2)) fun x_2 w3 =>
 ∃ n6 : Int, nth x_2 0 = .int .i64 n6 ∧ Share (fun k_3 => (bif decide (n6 > 0) then
 ∃ q37 : Addr, (.pointer p0 : Value) = .pointer (some q37) ∧ ∃ (a39 : Option Addr) (l39 c39 : Nat), Ru (Instr.loadAt 82 (.pointer (some (Addr.add q37 0)))) (drew w3) (.slice a39 l39 c39) (drew w3) ∧ ∃ q42 : Addr, (.pointer p0 : Value) = .pointer (some q42) ∧ ∃ m44 : Option Nat, Ru (Instr.loadAt 83 (.pointer (some (Addr.add q42 1)))) (drew w3) (.map m44) (drew w3) ∧ ∃ (a46 : Option Addr) (l46 c46 : Nat), Ru (Instr.lookup 83 (.map m44) (.int .i64 n16) false) (drew w3) (.slice a46 l46 c46) (drew w3) ∧ ∃ q49 : Addr, Al (Instr.indexAt 82 (.slice a46 l46 c46) (.int .i64 (IntKind.i64.wrap (n6 - 1)))) (.pointer (some q49)) ∧ ∃ g50 : Array Value, Ru (Instr.loadAt 101 (.pointer (some q49))) (drew w3) (.agg g50) (drew w3) ∧ ∃ q51 : Addr, Al (Instr.indexAt 82 (.slice a39 l39 c39) (.int .i64 n16)) (.pointer (some q51)) ∧ ∃ w4 : World, RuU (Instr.storeAt 101 (.pointer (some q51)) (.agg g50)) (drew w3) w4 ∧ k_3 [] w4
 else
 k_3 [] w3)) fun x_3 w5 =>
 k [.int .i64 n6, .int .i64 (IntKind.i64.wrap (n12 + 1))] w5
 else
 ∃ q54 : Addr, (.pointer p0 : Value) = .pointer (some q54) ∧ ∃ m56 : Option Nat, Ru (Instr.loadAt 83 (.pointer (some (Addr.add q54 1)))) w2 (.map m56) w2 ∧ ∃ w6 : World, Ru (Builtin.clear_ #[83] 0 #[.map m56]) w2 (.tuple #[]) w6 ∧ ∃ q58 : Addr, (.pointer p0 : Value) = .pointer (some q58) ∧ ∃ w7 : World, RuU (Instr.storeAt 3 (.pointer (some (Addr.add q58 2))) (.int .i64 ((-1)))) w6 w7 ∧ K (.tuple #[]) w7)) [undef, .int .i64 0] w1)
set_option maxRecDepth 100000 in
theorem C_disk_Disk_Crash (p0 : Option Addr) (a1 : Option Addr) (l1 c1 : Nat) (w0 : World) (K : Value → World → Prop) (h : D_disk_Disk_Crash p0 a1 l1 c1 w0 K) : Cal Try.prog F_disk_Disk_Crash #[.pointer p0, .slice a1 l1 c1] w0 K :=
 denF_sound (A := { S := [6, 12], ty := [(6, 3), (12, 3)], raw := [] }) mixed Try.func40 (by kernel_rfl) (by kernel_rfl) ((show denF Try.prog _ Try.f40 _ w0 K = D_disk_Disk_Crash p0 a1 l1 c1 w0 K by kernel_rfl).mpr h)

/- (levee.disk.Disk).Writes: slots {};  -/
set_option maxRecDepth 100000 in
def D_disk_Disk_Writes (p0 : Option Addr) (n1 : Int) (w0 : World) (K : Value → World → Prop) : Prop :=
 (bif Option.isNone p0 then
 K (.int .i64 0) w0
 else
 ∃ q8 : Addr, (.pointer p0 : Value) = .pointer (some q8) ∧ ∃ m10 : Option Nat, Ru (Instr.loadAt 83 (.pointer (some (Addr.add q8 1)))) w0 (.map m10) w0 ∧ ∃ (a12 : Option Addr) (l12 c12 : Nat), Ru (Instr.lookup 83 (.map m10) (.int .i64 n1) false) w0 (.slice a12 l12 c12) w0 ∧ K (.int .i64 ((l12 : Int))) w0)
set_option maxRecDepth 100000 in
theorem C_disk_Disk_Writes (p0 : Option Addr) (n1 : Int) (w0 : World) (K : Value → World → Prop) (h : D_disk_Disk_Writes p0 n1 w0 K) : Cal Try.prog F_disk_Disk_Writes #[.pointer p0, .int .i64 n1] w0 K :=
 denF_sound (A := { S := [], ty := [], raw := [] }) mixed Try.func84 (by kernel_rfl) (by kernel_rfl) ((show denF Try.prog _ Try.f84 _ w0 K = D_disk_Disk_Writes p0 n1 w0 K by kernel_rfl).mpr h)

/- (levee.disk.Disk).Len: slots {};  -/
set_option maxRecDepth 100000 in
def D_disk_Disk_Len (p0 : Option Addr) (w0 : World) (K : Value → World → Prop) : Prop :=
 (bif Option.isNone p0 then
 K (.int .i64 0) w0
 else
 ∃ q6 : Addr, (.pointer p0 : Value) = .pointer (some q6) ∧ ∃ (a8 : Option Addr) (l8 c8 : Nat), Ru (Instr.loadAt 82 (.pointer (some (Addr.add q6 0)))) w0 (.slice a8 l8 c8) w0 ∧ K (.int .i64 ((l8 : Int))) w0)
set_option maxRecDepth 100000 in
theorem C_disk_Disk_Len (p0 : Option Addr) (w0 : World) (K : Value → World → Prop) (h : D_disk_Disk_Len p0 w0 K) : Cal Try.prog F_disk_Disk_Len #[.pointer p0] w0 K :=
 denF_sound (A := { S := [], ty := [], raw := [] }) mixed Try.func61 (by kernel_rfl) (by kernel_rfl) ((show denF Try.prog _ Try.f61 _ w0 K = D_disk_Disk_Len p0 w0 K by kernel_rfl).mpr h)

/- levee.disk.New: slots {9: ''};  -/
set_option maxRecDepth 100000 in
def D_disk_New (n0 : Int) (w0 : World) (K : Value → World → Prop) : Prop :=
 Share (fun k => (bif decide (n0 < 1) then k [.bool true] w0 else k [.bool (decide (n0 > 4096))] w0)) fun x w1 =>
 ∃ b9 : Bool, nth x 0 = .bool b9 ∧ (bif b9 then
 K (.tuple #[.pointer none, .int .i64 1]) w1
 else
 ∃ (a11 : Option Addr) (l11 c11 : Nat), ∃ w2 : World, Ru (Instr.makeSlice 82 (.int .i64 n0) (.int .i64 n0)) w1 (.slice a11 l11 c11) w2 ∧ ∃ m12 : Option Nat, ∃ w3 : World, Ru (Instr.makeMap 83 none) w2 (.map m12) w3 ∧ ∃ g13 : Array Value, Al (Instr.build 85 #[(0, .slice a11 l11 c11), (1, .map m12), (2, .int .i64 ((-1)))]) (.agg g13) ∧ ∃ q14 : Addr, ∃ w4 : World, Ru (Instr.box 85 (.agg g13)) w3 (.pointer (some q14)) w4 ∧ K (.tuple #[.pointer (some q14), .int .i64 0]) w4)
set_option maxRecDepth 100000 in
theorem C_disk_New (n0 : Int) (w0 : World) (K : Value → World → Prop) (h : D_disk_New n0 w0 K) : Cal Try.prog F_disk_New #[.int .i64 n0] w0 K :=
 denF_sound (A := { S := [9], ty := [(9, 4)], raw := [] }) mixed Try.func10 (by kernel_rfl) (by kernel_rfl) ((show denF Try.prog _ Try.f10 _ w0 K = D_disk_New n0 w0 K by kernel_rfl).mpr h)

/- levee.leveeref01.Fill: slots {4: 'i', 12: ''}; loop over [4, 12] -/
set_option maxRecDepth 100000 in
def D_leveeref01_Fill (a0 : Option Addr) (l0 c0 : Nat) (w0 : World) (K : Value → World → Prop) : Prop :=
 ∃ (a5 : Option Addr) (l5 c5 : Nat), ∃ w1 : World, Ru (Instr.makeSlice 32 (.int .i64 256) (.int .i64 256)) w0 (.slice a5 l5 c5) w1 ∧ LoopC (fun k x w2 =>
 Share (fun k_2 => ∃ n4 : Int, nth x 0 = .int .i64 n4 ∧ (bif decide (n4 < 256) then k_2 [.bool (decide ((l0 : Int) > 0))] w2 else k_2 [.bool false] w2)) fun x_2 w3 =>
 ∃ b12 : Bool, nth x_2 0 = .bool b12 ∧ (bif b12 then
 ∃ n4_2 : Int, nth x 0 = .int .i64 n4_2 ∧ ∃ n21 : Int, Al (eqS .rem 3 (.tmp 18) (.tmp 20) (.int .i64 n4_2) (.int .i64 ((l0 : Int)))) (.int .i64 n21) ∧ ∃ q22 : Addr, Al (Instr.indexAt 32 (.slice a0 l0 c0) (.int .i64 n21)) (.pointer (some q22)) ∧ ∃ n23 : Int, Ru (Instr.loadAt 5 (.pointer (some q22))) w3 (.int .u8 n23) w3 ∧ ∃ q24 : Addr, Al (Instr.indexAt 32 (.slice a5 l5 c5) (.int .i64 n4_2)) (.pointer (some q24)) ∧ ∃ w4 : World, RuU (Instr.storeAt 5 (.pointer (some q24)) (.int .u8 n23)) w3 w4 ∧ k [.int .i64 (IntKind.i64.wrap (n4_2 + 1)), .bool b12] w4
 else
 K (.slice a5 l5 c5) w3)) [.int .i64 0, undef] w1
set_option maxRecDepth 100000 in
theorem C_leveeref01_Fill (a0 : Option Addr) (l0 c0 : Nat) (w0 : World) (K : Value → World → Prop) (h : D_leveeref01_Fill a0 l0 c0 w0 K) : Cal Try.prog F_leveeref01_Fill #[.slice a0 l0 c0] w0 K :=
 denF_sound (A := { S := [4, 12], ty := [(4, 3), (12, 4)], raw := [] }) mixed Try.func16 (by kernel_rfl) (by kernel_rfl) ((show denF Try.prog _ Try.f16 _ w0 K = D_leveeref01_Fill a0 l0 c0 w0 K by kernel_rfl).mpr h)

/- (levee.disk.Disk).Bytes: slots {3: 'out', 8: ''}; loop over [3, 8] -/
set_option maxRecDepth 100000 in
def D_disk_Disk_Bytes (p0 : Option Addr) (w0 : World) (K : Value → World → Prop) : Prop :=
 Cal Try.prog F_disk_Disk_Len #[.pointer p0] w0 fun r7 w1 => ∃ n7 : Int, r7 = .int .i64 n7 ∧ LoopC (fun k x w2 =>
 ∃ n8 : Int, nth x 1 = .int .i64 n8 ∧ (bif decide (n8 < n7) then
 Cal Try.prog F_disk_Disk_last #[.pointer p0, .int .i64 n8] w2 fun r13 w3 => ∃ g13 : Array Value, r13 = .agg g13 ∧ ∃ q5 : Addr, ∃ w4 : World, Ru (Instr.alloc 101 true (.tuple #[])) w3 (.pointer (some q5)) w4 ∧ ∃ w5 : World, RuU (Instr.storeAt 101 (.pointer (some q5)) (.agg g13)) w4 w5 ∧ ∃ (a3 : Option Addr) (l3 c3 : Nat), nth x 0 = .slice a3 l3 c3 ∧ ∃ (a15 : Option Addr) (l15 c15 : Nat), Al (Instr.sliceAt 101 (.pointer (some q5)) none none none) (.slice a15 l15 c15) ∧ ∃ (a16 : Option Addr) (l16 c16 : Nat), ∃ w6 : World, Ru (Builtin.append_ #[32, 32] 32 #[.slice a3 l3 c3, .slice a15 l15 c15]) w5 (.slice a16 l16 c16) w6 ∧ k [.slice a16 l16 c16, .int .i64 (IntKind.i64.wrap (n8 + 1))] w6
 else
 ∃ (a3_2 : Option Addr) (l3_2 c3_2 : Nat), nth x 0 = .slice a3_2 l3_2 c3_2 ∧ K (.slice a3_2 l3_2 c3_2) w2)) [.slice none 0 0, .int .i64 0] w1
set_option maxRecDepth 100000 in
theorem C_disk_Disk_Bytes (p0 : Option Addr) (w0 : World) (K : Value → World → Prop) (h : D_disk_Disk_Bytes p0 w0 K) : Cal Try.prog F_disk_Disk_Bytes #[.pointer p0] w0 K :=
 denF_sound (A := { S := [3, 8], ty := [(3, 32), (8, 3)], raw := [] }) mixed Try.func22 (by kernel_rfl) (by kernel_rfl) ((show denF Try.prog _ Try.f22 _ w0 K = D_disk_Disk_Bytes p0 w0 K by kernel_rfl).mpr h)

/- levee.leveeref02.New: slots {5: 'i', 11: ''}; loop over [5] -/
set_option maxRecDepth 100000 in
def D_leveeref02_New (n0 : Int) (w0 : World) (K : Value → World → Prop) : Prop :=
 Share (fun k => (bif decide (n0 < 1) then k [.bool true] w0 else k [.bool (decide (n0 > 4096))] w0)) fun x w1 =>
 ∃ b11 : Bool, nth x 0 = .bool b11 ∧ (bif b11 then
 K (.tuple #[.pointer none, .int .i64 1]) w1
 else
 ∃ g12 : Array Value, Al (Instr.build 106 #[]) (.agg g12) ∧ ∃ q13 : Addr, ∃ w2 : World, Ru (Instr.box 106 (.agg g12)) w1 (.pointer (some q13)) w2 ∧ LoopC (fun k_2 x_2 w3 =>
 ∃ n5 : Int, nth x_2 0 = .int .i64 n5 ∧ (bif decide (n5 < n0) then
 ∃ q21 : Addr, (.pointer (some q13) : Value) = .pointer (some q21) ∧ ∃ (a23 : Option Addr) (l23 c23 : Nat), Ru (Instr.loadAt 104 (.pointer (some (Addr.add q21 0)))) (drew w3) (.slice a23 l23 c23) (drew w3) ∧ Cal Try.prog F_leveeref02_none #[] (drew w3) fun r24 w4 => ∃ s24 : ByteArray, r24 = .string s24 ∧ Ru (Instr.loadAt 104 (.pointer (some (Addr.add q21 0)))) w4 (.slice a23 l23 c23) w4 ∧ ∃ (a25 : Option Addr) (l25 c25 : Nat), ∃ w5 : World, Ru (Instr.buildSlice 44 1 #[(0, .string s24)]) w4 (.slice a25 l25 c25) w5 ∧ Ru (Instr.loadAt 104 (.pointer (some (Addr.add q21 0)))) w5 (.slice a23 l23 c23) w5 ∧ ∃ g26 : Array Value, Al (Instr.build 109 #[(0, .slice a25 l25 c25)]) (.agg g26) ∧ ∃ (a27 : Option Addr) (l27 c27 : Nat), ∃ w6 : World, Ru (Instr.buildSlice 104 1 #[(0, .agg g26)]) w5 (.slice a27 l27 c27) w6 ∧ Ru (Instr.loadAt 104 (.pointer (some (Addr.add q21 0)))) w6 (.slice a23 l23 c23) w6 ∧ ∃ (a28 : Option Addr) (l28 c28 : Nat), ∃ w7 : World, Ru (Builtin.append_ #[104, 104] 104 #[.slice a23 l23 c23, .slice a27 l27 c27]) w6 (.slice a28 l28 c28) w7 ∧ ∃ q29 : Addr, (.pointer (some q13) : Value) = .pointer (some q29) ∧ ∃ w8 : World, RuU (Instr.storeAt 104 (.pointer (some (Addr.add q29 0))) (.slice a28 l28 c28)) w7 w8 ∧ k_2 [.int .i64 (IntKind.i64.wrap (n5 + 1))] w8
 else
 K (.tuple #[.pointer (some q13), .int .i64 0]) w3)) [.int .i64 0] w2)
set_option maxRecDepth 100000 in
theorem C_leveeref02_New (n0 : Int) (w0 : World) (K : Value → World → Prop) (h : D_leveeref02_New n0 w0 K) : Cal Try.prog F_leveeref02_New #[.int .i64 n0] w0 K :=
 denF_sound (A := { S := [5, 11], ty := [(5, 3), (11, 4)], raw := [] }) mixed Try.func28 (by kernel_rfl) (by kernel_rfl) ((show denF Try.prog _ Try.f28 _ w0 K = D_leveeref02_New n0 w0 K by kernel_rfl).mpr h)

/- levee.leveeref02.none: slots {};  -/
set_option maxRecDepth 100000 in
def D_leveeref02_none (w0 : World) (K : Value → World → Prop) : Prop :=
 ∃ (a1 : Option Addr) (l1 c1 : Nat), ∃ w1 : World, Ru (Instr.makeSlice 32 (.int .i64 256) (.int .i64 256)) w0 (.slice a1 l1 c1) w1 ∧ ∃ s2 : ByteArray, Ru (convert 32 9 (.slice a1 l1 c1)) w1 (.string s2) w1 ∧ K (.string s2) w1
set_option maxRecDepth 100000 in
theorem C_leveeref02_none (w0 : World) (K : Value → World → Prop) (h : D_leveeref02_none  w0 K) : Cal Try.prog F_leveeref02_none #[] w0 K :=
 denF_sound (A := { S := [], ty := [], raw := [] }) mixed Try.func67 (by kernel_rfl) (by kernel_rfl) ((show denF Try.prog _ Try.f67 _ w0 K = D_leveeref02_none  w0 K by kernel_rfl).mpr h)

/- (levee.leveeref02.Disk).Read: slots {};  -/
set_option maxRecDepth 100000 in
def D_leveeref02_Disk_Read (p0 : Option Addr) (n1 : Int) (w0 : World) (K : Value → World → Prop) : Prop :=
 Cal Try.prog F_leveeref02_Disk_there #[.pointer p0, .int .i64 n1] w0 fun r9 w1 => ∃ b9 : Bool, r9 = .bool b9 ∧ (bif !b9 then
 K (.tuple #[.slice none 0 0, .int .i64 3]) w1
 else
 ∃ q12 : Addr, (.pointer p0 : Value) = .pointer (some q12) ∧ ∃ (a14 : Option Addr) (l14 c14 : Nat), Ru (Instr.loadAt 104 (.pointer (some (Addr.add q12 0)))) w1 (.slice a14 l14 c14) w1 ∧ ∃ q16 : Addr, Al (Instr.indexAt 104 (.slice a14 l14 c14) (.int .i64 n1)) (.pointer (some q16)) ∧ ∃ (a18 : Option Addr) (l18 c18 : Nat), Ru (Instr.loadAt 44 (.pointer (some (Addr.add q16 0)))) w1 (.slice a18 l18 c18) w1 ∧ ∃ q23 : Addr, Al (Instr.indexAt 44 (.slice a18 l18 c18) (.int .i64 (IntKind.i64.wrap ((l18 : Int) - 1)))) (.pointer (some q23)) ∧ ∃ s24 : ByteArray, Ru (Instr.loadAt 9 (.pointer (some q23))) w1 (.string s24) w1 ∧ ∃ (a25 : Option Addr) (l25 c25 : Nat), ∃ w2 : World, Ru (convert 9 32 (.string s24)) w1 (.slice a25 l25 c25) w2 ∧ K (.tuple #[.slice a25 l25 c25, .int .i64 0]) w2)
set_option maxRecDepth 100000 in
theorem C_leveeref02_Disk_Read (p0 : Option Addr) (n1 : Int) (w0 : World) (K : Value → World → Prop) (h : D_leveeref02_Disk_Read p0 n1 w0 K) : Cal Try.prog F_leveeref02_Disk_Read #[.pointer p0, .int .i64 n1] w0 K :=
 denF_sound (A := { S := [], ty := [], raw := [] }) mixed Try.func109 (by kernel_rfl) (by kernel_rfl) ((show denF Try.prog _ Try.f109 _ w0 K = D_leveeref02_Disk_Read p0 n1 w0 K by kernel_rfl).mpr h)

/- (levee.leveeref02.Disk).Safe: slots {};  -/
set_option maxRecDepth 100000 in
def D_leveeref02_Disk_Safe (p0 : Option Addr) (n1 : Int) (w0 : World) (K : Value → World → Prop) : Prop :=
 Cal Try.prog F_leveeref02_Disk_there #[.pointer p0, .int .i64 n1] w0 fun r8 w1 => ∃ b8 : Bool, r8 = .bool b8 ∧ (bif !b8 then
 K (.tuple #[.slice none 0 0, .int .i64 3]) w1
 else
 ∃ q11 : Addr, (.pointer p0 : Value) = .pointer (some q11) ∧ ∃ (a13 : Option Addr) (l13 c13 : Nat), Ru (Instr.loadAt 104 (.pointer (some (Addr.add q11 0)))) w1 (.slice a13 l13 c13) w1 ∧ ∃ q15 : Addr, Al (Instr.indexAt 104 (.slice a13 l13 c13) (.int .i64 n1)) (.pointer (some q15)) ∧ ∃ (a17 : Option Addr) (l17 c17 : Nat), Ru (Instr.loadAt 44 (.pointer (some (Addr.add q15 0)))) w1 (.slice a17 l17 c17) w1 ∧ ∃ q18 : Addr, Al (Instr.indexAt 44 (.slice a17 l17 c17) (.int .i64 0)) (.pointer (some q18)) ∧ ∃ s19 : ByteArray, Ru (Instr.loadAt 9 (.pointer (some q18))) w1 (.string s19) w1 ∧ ∃ (a20 : Option Addr) (l20 c20 : Nat), ∃ w2 : World, Ru (convert 9 32 (.string s19)) w1 (.slice a20 l20 c20) w2 ∧ K (.tuple #[.slice a20 l20 c20, .int .i64 0]) w2)
set_option maxRecDepth 100000 in
theorem C_leveeref02_Disk_Safe (p0 : Option Addr) (n1 : Int) (w0 : World) (K : Value → World → Prop) (h : D_leveeref02_Disk_Safe p0 n1 w0 K) : Cal Try.prog F_leveeref02_Disk_Safe #[.pointer p0, .int .i64 n1] w0 K :=
 denF_sound (A := { S := [], ty := [], raw := [] }) mixed Try.func83 (by kernel_rfl) (by kernel_rfl) ((show denF Try.prog _ Try.f83 _ w0 K = D_leveeref02_Disk_Safe p0 n1 w0 K by kernel_rfl).mpr h)

/- (levee.leveeref02.Disk).there: slots {4: ''};  -/
set_option maxRecDepth 100000 in
def D_leveeref02_Disk_there (p0 : Option Addr) (n1 : Int) (w0 : World) (K : Value → World → Prop) : Prop :=
 Share (fun k => (bif decide (n1 ≥ 0) then ∃ q10 : Addr, (.pointer p0 : Value) = .pointer (some q10) ∧ ∃ (a12 : Option Addr) (l12 c12 : Nat), Ru (Instr.loadAt 104 (.pointer (some (Addr.add q10 0)))) w0 (.slice a12 l12 c12) w0 ∧ k [.bool (decide (n1 < (l12 : Int)))] w0 else k [.bool false] w0)) fun x w1 =>
 ∃ b4 : Bool, nth x 0 = .bool b4 ∧ K (.bool b4) w1
set_option maxRecDepth 100000 in
theorem C_leveeref02_Disk_there (p0 : Option Addr) (n1 : Int) (w0 : World) (K : Value → World → Prop) (h : D_leveeref02_Disk_there p0 n1 w0 K) : Cal Try.prog F_leveeref02_Disk_there #[.pointer p0, .int .i64 n1] w0 K :=
 denF_sound (A := { S := [4], ty := [(4, 4)], raw := [] }) mixed Try.func113 (by kernel_rfl) (by kernel_rfl) ((show denF Try.prog _ Try.f113 _ w0 K = D_leveeref02_Disk_there p0 n1 w0 K by kernel_rfl).mpr h)

/- (levee.leveeref02.Disk).Open: slots {3: 'out', 4: 'i'}; loop over [3, 4] -/
set_option maxRecDepth 100000 in
def D_leveeref02_Disk_Open (p0 : Option Addr) (w0 : World) (K : Value → World → Prop) : Prop :=
 LoopC (fun k x w1 =>
 ∃ n4 : Int, nth x 1 = .int .i64 n4 ∧ ∃ q7 : Addr, (.pointer p0 : Value) = .pointer (some q7) ∧ ∃ (a9 : Option Addr) (l9 c9 : Nat), Ru (Instr.loadAt 104 (.pointer (some (Addr.add q7 0)))) w1 (.slice a9 l9 c9) w1 ∧ (bif decide (n4 < (l9 : Int)) then
 Cal Try.prog F_leveeref02_Disk_Writes #[.pointer p0, .int .i64 n4] w1 fun r16 w2 => ∃ n16 : Int, r16 = .int .i64 n16 ∧ Share (fun k_2 => (bif decide (n16 > 0) then
 ∃ (a3 : Option Addr) (l3 c3 : Nat), nth x 0 = .slice a3 l3 c3 ∧ ∃ (a20 : Option Addr) (l20 c20 : Nat), ∃ w3 : World, Ru (Instr.buildSlice 31 1 #[(0, .int .i64 n4)]) w2 (.slice a20 l20 c20) w3 ∧ ∃ (a21 : Option Addr) (l21 c21 : Nat), ∃ w4 : World, Ru (Builtin.append_ #[31, 31] 31 #[.slice a3 l3 c3, .slice a20 l20 c20]) w3 (.slice a21 l21 c21) w4 ∧ k_2 [.slice a21 l21 c21] w4
 else
 k_2 [nth x 0] w2)) fun x_2 w5 =>
 k [nth x_2 0, .int .i64 (IntKind.i64.wrap (n4 + 1))] w5
 else
 ∃ (a3_2 : Option Addr) (l3_2 c3_2 : Nat), nth x 0 = .slice a3_2 l3_2 c3_2 ∧ K (.slice a3_2 l3_2 c3_2) w1)) [.slice none 0 0, .int .i64 0] w0
set_option maxRecDepth 100000 in
theorem C_leveeref02_Disk_Open (p0 : Option Addr) (w0 : World) (K : Value → World → Prop) (h : D_leveeref02_Disk_Open p0 w0 K) : Cal Try.prog F_leveeref02_Disk_Open #[.pointer p0] w0 K :=
 denF_sound (A := { S := [3, 4], ty := [(3, 31), (4, 3)], raw := [] }) mixed Try.func82 (by kernel_rfl) (by kernel_rfl) ((show denF Try.prog _ Try.f82 _ w0 K = D_leveeref02_Disk_Open p0 w0 K by kernel_rfl).mpr h)

/- (levee.leveeref02.Disk).Writes: slots {};  -/
set_option maxRecDepth 100000 in
def D_leveeref02_Disk_Writes (p0 : Option Addr) (n1 : Int) (w0 : World) (K : Value → World → Prop) : Prop :=
 Cal Try.prog F_leveeref02_Disk_there #[.pointer p0, .int .i64 n1] w0 fun r7 w1 => ∃ b7 : Bool, r7 = .bool b7 ∧ (bif !b7 then
 K (.int .i64 0) w1
 else
 ∃ q10 : Addr, (.pointer p0 : Value) = .pointer (some q10) ∧ ∃ (a12 : Option Addr) (l12 c12 : Nat), Ru (Instr.loadAt 104 (.pointer (some (Addr.add q10 0)))) w1 (.slice a12 l12 c12) w1 ∧ ∃ q14 : Addr, Al (Instr.indexAt 104 (.slice a12 l12 c12) (.int .i64 n1)) (.pointer (some q14)) ∧ ∃ (a16 : Option Addr) (l16 c16 : Nat), Ru (Instr.loadAt 44 (.pointer (some (Addr.add q14 0)))) w1 (.slice a16 l16 c16) w1 ∧ K (.int .i64 (IntKind.i64.wrap ((l16 : Int) - 1))) w1)
set_option maxRecDepth 100000 in
theorem C_leveeref02_Disk_Writes (p0 : Option Addr) (n1 : Int) (w0 : World) (K : Value → World → Prop) (h : D_leveeref02_Disk_Writes p0 n1 w0 K) : Cal Try.prog F_leveeref02_Disk_Writes #[.pointer p0, .int .i64 n1] w0 K :=
 denF_sound (A := { S := [], ty := [], raw := [] }) mixed Try.func85 (by kernel_rfl) (by kernel_rfl) ((show denF Try.prog _ Try.f85 _ w0 K = D_leveeref02_Disk_Writes p0 n1 w0 K by kernel_rfl).mpr h)

/- (levee.leveeref02.Disk).Stopped: slots {2: ''};  -/
set_option maxRecDepth 100000 in
def D_leveeref02_Disk_Stopped (p0 : Option Addr) (w0 : World) (K : Value → World → Prop) : Prop :=
 Share (fun k => ∃ q4 : Addr, (.pointer p0 : Value) = .pointer (some q4) ∧ ∃ b6 : Bool, Ru (Instr.loadAt 4 (.pointer (some (Addr.add q4 1)))) w0 (.bool b6) w0 ∧ (bif b6 then ∃ q9 : Addr, (.pointer p0 : Value) = .pointer (some q9) ∧ ∃ n11 : Int, Ru (Instr.loadAt 3 (.pointer (some (Addr.add q9 2)))) w0 (.int .i64 n11) w0 ∧ k [.bool (n11 == 0)] w0 else k [.bool false] w0)) fun x w1 =>
 ∃ b2 : Bool, nth x 0 = .bool b2 ∧ K (.bool b2) w1
set_option maxRecDepth 100000 in
theorem C_leveeref02_Disk_Stopped (p0 : Option Addr) (w0 : World) (K : Value → World → Prop) (h : D_leveeref02_Disk_Stopped p0 w0 K) : Cal Try.prog F_leveeref02_Disk_Stopped #[.pointer p0] w0 K :=
 denF_sound (A := { S := [2], ty := [(2, 4)], raw := [] }) mixed Try.func134 (by kernel_rfl) (by kernel_rfl) ((show denF Try.prog _ Try.f134 _ w0 K = D_leveeref02_Disk_Stopped p0 w0 K by kernel_rfl).mpr h)

/- (levee.leveeref02.Disk).goes: slots {};  -/
set_option maxRecDepth 100000 in
def D_leveeref02_Disk_goes (p0 : Option Addr) (w0 : World) (K : Value → World → Prop) : Prop :=
 Cal Try.prog F_leveeref02_Disk_Stopped #[.pointer p0] w0 fun r4 w1 => ∃ b4 : Bool, r4 = .bool b4 ∧ (bif b4 then
 K (.bool false) w1
 else
 ∃ q6 : Addr, (.pointer p0 : Value) = .pointer (some q6) ∧ ∃ b8 : Bool, Ru (Instr.loadAt 4 (.pointer (some (Addr.add q6 1)))) w1 (.bool b8) w1 ∧ Share (fun k => (bif b8 then
 ∃ q10 : Addr, (.pointer p0 : Value) = .pointer (some q10) ∧ ∃ n12 : Int, Ru (Instr.loadAt 3 (.pointer (some (Addr.add q10 2)))) w1 (.int .i64 n12) w1 ∧ ∃ q14 : Addr, (.pointer p0 : Value) = .pointer (some q14) ∧ ∃ w2 : World, RuU (Instr.storeAt 3 (.pointer (some (Addr.add q14 2))) (.int .i64 (IntKind.i64.wrap (n12 - 1)))) w1 w2 ∧ k [] w2
 else
 k [] w1)) fun x w3 =>
 K (.bool true) w3)
set_option maxRecDepth 100000 in
theorem C_leveeref02_Disk_goes (p0 : Option Addr) (w0 : World) (K : Value → World → Prop) (h : D_leveeref02_Disk_goes p0 w0 K) : Cal Try.prog F_leveeref02_Disk_goes #[.pointer p0] w0 K :=
 denF_sound (A := { S := [], ty := [], raw := [] }) mixed Try.func112 (by kernel_rfl) (by kernel_rfl) ((show denF Try.prog _ Try.f112 _ w0 K = D_leveeref02_Disk_goes p0 w0 K by kernel_rfl).mpr h)

/- (levee.leveeref02.Disk).Write: slots {};  -/
set_option maxRecDepth 100000 in
def D_leveeref02_Disk_Write (p0 : Option Addr) (n1 : Int) (a2 : Option Addr) (l2 c2 : Nat) (w0 : World) (K : Value → World → Prop) : Prop :=
 Cal Try.prog F_leveeref02_Disk_there #[.pointer p0, .int .i64 n1] w0 fun r10 w1 => ∃ b10 : Bool, r10 = .bool b10 ∧ (bif !b10 then
 K (.int .i64 3) w1
 else
 (bif (l2 : Int) != 256 then
 K (.int .i64 4) w1
 else
 Cal Try.prog F_leveeref02_Disk_goes #[.pointer p0] w1 fun r16 w2 => ∃ b16 : Bool, r16 = .bool b16 ∧ (bif !b16 then
 K (.int .i64 0) w2
 else
 ∃ q20 : Addr, (.pointer p0 : Value) = .pointer (some q20) ∧ ∃ (a22 : Option Addr) (l22 c22 : Nat), Ru (Instr.loadAt 104 (.pointer (some (Addr.add q20 0)))) w2 (.slice a22 l22 c22) w2 ∧ ∃ q24 : Addr, Al (Instr.indexAt 104 (.slice a22 l22 c22) (.int .i64 n1)) (.pointer (some q24)) ∧ ∃ (a26 : Option Addr) (l26 c26 : Nat), Ru (Instr.loadAt 44 (.pointer (some (Addr.add q24 0)))) w2 (.slice a26 l26 c26) w2 ∧ ∃ (a27 : Option Addr) (l27 c27 : Nat), ∃ w3 : World, Ru (Builtin.append_ #[44, 44] 44 #[.slice none 0 0, .slice a26 l26 c26]) w2 (.slice a27 l27 c27) w3 ∧ ∃ q29 : Addr, (.pointer p0 : Value) = .pointer (some q29) ∧ ∃ (a31 : Option Addr) (l31 c31 : Nat), Ru (Instr.loadAt 104 (.pointer (some (Addr.add q29 0)))) (drew w3) (.slice a31 l31 c31) (drew w3) ∧ ∃ s35 : ByteArray, Ru (convert 32 9 (.slice a2 l2 c2)) (drew w3) (.string s35) (drew w3) ∧ ∃ (a36 : Option Addr) (l36 c36 : Nat), ∃ w4 : World, Ru (Instr.buildSlice 44 1 #[(0, .string s35)]) (drew w3) (.slice a36 l36 c36) w4 ∧ Ru (Instr.loadAt 104 (.pointer (some (Addr.add q29 0)))) w4 (.slice a31 l31 c31) w4 ∧ ∃ (a37 : Option Addr) (l37 c37 : Nat), ∃ w5 : World, Ru (Builtin.append_ #[44, 44] 44 #[.slice a27 l27 c27, .slice a36 l36 c36]) w4 (.slice a37 l37 c37) w5 ∧ Ru (Instr.loadAt 104 (.pointer (some (Addr.add q29 0)))) w5 (.slice a31 l31 c31) w5 ∧ ∃ q38 : Addr, Al (Instr.indexAt 104 (.slice a31 l31 c31) (.int .i64 n1)) (.pointer (some q38)) ∧ ∃ w6 : World, RuU (Instr.storeAt 44 (.pointer (some (Addr.add q38 0))) (.slice a37 l37 c37)) w5 w6 ∧ K (.int .i64 0) w6)))
set_option maxRecDepth 100000 in
theorem C_leveeref02_Disk_Write (p0 : Option Addr) (n1 : Int) (a2 : Option Addr) (l2 c2 : Nat) (w0 : World) (K : Value → World → Prop) (h : D_leveeref02_Disk_Write p0 n1 a2 l2 c2 w0 K) : Cal Try.prog F_leveeref02_Disk_Write #[.pointer p0, .int .i64 n1, .slice a2 l2 c2] w0 K :=
 denF_sound (A := { S := [], ty := [], raw := [] }) mixed Try.func110 (by kernel_rfl) (by kernel_rfl) ((show denF Try.prog _ Try.f110 _ w0 K = D_leveeref02_Disk_Write p0 n1 a2 l2 c2 w0 K by kernel_rfl).mpr h)

/- (levee.leveeref02.Disk).Flush: slots {3: 'i'}; loop over [3] -/
set_option maxRecDepth 100000 in
def D_leveeref02_Disk_Flush (p0 : Option Addr) (w0 : World) (K : Value → World → Prop) : Prop :=
 Cal Try.prog F_leveeref02_Disk_goes #[.pointer p0] w0 fun r6 w1 => ∃ b6 : Bool, r6 = .bool b6 ∧ (bif !b6 then
 K (.int .i64 0) w1
 else
 LoopC (fun k x w2 =>
 ∃ n3 : Int, nth x 0 = .int .i64 n3 ∧ ∃ q10 : Addr, (.pointer p0 : Value) = .pointer (some q10) ∧ ∃ (a12 : Option Addr) (l12 c12 : Nat), Ru (Instr.loadAt 104 (.pointer (some (Addr.add q10 0)))) w2 (.slice a12 l12 c12) w2 ∧ (bif decide (n3 < (l12 : Int)) then
 ∃ q18 : Addr, (.pointer p0 : Value) = .pointer (some q18) ∧ ∃ (a20 : Option Addr) (l20 c20 : Nat), Ru (Instr.loadAt 104 (.pointer (some (Addr.add q18 0)))) w2 (.slice a20 l20 c20) w2 ∧ ∃ q22 : Addr, Al (Instr.indexAt 104 (.slice a20 l20 c20) (.int .i64 n3)) (.pointer (some q22)) ∧ ∃ (a24 : Option Addr) (l24 c24 : Nat), Ru (Instr.loadAt 44 (.pointer (some (Addr.add q22 0)))) w2 (.slice a24 l24 c24) w2 ∧ ∃ q26 : Addr, (.pointer p0 : Value) = .pointer (some q26) ∧ ∃ (a28 : Option Addr) (l28 c28 : Nat), Ru (Instr.loadAt 104 (.pointer (some (Addr.add q26 0)))) (drew w2) (.slice a28 l28 c28) (drew w2) ∧ ∃ q34 : Addr, Al (Instr.indexAt 44 (.slice a24 l24 c24) (.int .i64 (IntKind.i64.wrap ((l24 : Int) - 1)))) (.pointer (some q34)) ∧ ∃ s35 : ByteArray, Ru (Instr.loadAt 9 (.pointer (some q34))) (drew w2) (.string s35) (drew w2) ∧ ∃ (a36 : Option Addr) (l36 c36 : Nat), ∃ w3 : World, Ru (Instr.buildSlice 44 1 #[(0, .string s35)]) (drew w2) (.slice a36 l36 c36) w3 ∧ Ru (Instr.loadAt 104 (.pointer (some (Addr.add q26 0)))) w3 (.slice a28 l28 c28) w3 ∧ ∃ q37 : Addr, Al (Instr.indexAt 104 (.slice a28 l28 c28) (.int .i64 n3)) (.pointer (some q37)) ∧ ∃ w4 : World, RuU (Instr.storeAt 44 (.pointer (some (Addr.add q37 0))) (.slice a36 l36 c36)) w3 w4 ∧ k [.int .i64 (IntKind.i64.wrap (n3 + 1))] w4
 else
 K (.int .i64 0) w2)) [.int .i64 0] w1)
set_option maxRecDepth 100000 in
theorem C_leveeref02_Disk_Flush (p0 : Option Addr) (w0 : World) (K : Value → World → Prop) (h : D_leveeref02_Disk_Flush p0 w0 K) : Cal Try.prog F_leveeref02_Disk_Flush #[.pointer p0] w0 K :=
 denF_sound (A := { S := [3], ty := [(3, 3)], raw := [] }) mixed Try.func76 (by kernel_rfl) (by kernel_rfl) ((show denF Try.prog _ Try.f76 _ w0 K = D_leveeref02_Disk_Flush p0 w0 K by kernel_rfl).mpr h)

/- (levee.leveeref02.Disk).Bytes: slots {3: 'out', 4: 'i'}; loop over [3, 4] -/
set_option maxRecDepth 100000 in
def D_leveeref02_Disk_Bytes (p0 : Option Addr) (w0 : World) (K : Value → World → Prop) : Prop :=
 LoopC (fun k x w1 =>
 ∃ n4 : Int, nth x 1 = .int .i64 n4 ∧ ∃ q9 : Addr, (.pointer p0 : Value) = .pointer (some q9) ∧ ∃ (a11 : Option Addr) (l11 c11 : Nat), Ru (Instr.loadAt 104 (.pointer (some (Addr.add q9 0)))) w1 (.slice a11 l11 c11) w1 ∧ (bif decide (n4 < (l11 : Int)) then
 Cal Try.prog F_leveeref02_Disk_Read #[.pointer p0, .int .i64 n4] w1 fun r19 w2 => ∃ (a19a : Option Addr) (l19a c19a : Nat), ∃ n19b : Int, r19 = .tuple #[.slice a19a l19a c19a, .int .i64 n19b] ∧ ∃ (a3 : Option Addr) (l3 c3 : Nat), nth x 0 = .slice a3 l3 c3 ∧ ∃ (a24 : Option Addr) (l24 c24 : Nat), ∃ w3 : World, Ru (Builtin.append_ #[32, 32] 32 #[.slice a3 l3 c3, .slice a19a l19a c19a]) w2 (.slice a24 l24 c24) w3 ∧ k [.slice a24 l24 c24, .int .i64 (IntKind.i64.wrap (n4 + 1))] w3
 else
 ∃ (a3_2 : Option Addr) (l3_2 c3_2 : Nat), nth x 0 = .slice a3_2 l3_2 c3_2 ∧ K (.slice a3_2 l3_2 c3_2) w1)) [.slice none 0 0, .int .i64 0] w0
set_option maxRecDepth 100000 in
theorem C_leveeref02_Disk_Bytes (p0 : Option Addr) (w0 : World) (K : Value → World → Prop) (h : D_leveeref02_Disk_Bytes p0 w0 K) : Cal Try.prog F_leveeref02_Disk_Bytes #[.pointer p0] w0 K :=
 denF_sound (A := { S := [3, 4], ty := [(3, 32), (4, 3)], raw := [] }) mixed Try.func80 (by kernel_rfl) (by kernel_rfl) ((show denF Try.prog _ Try.f80 _ w0 K = D_leveeref02_Disk_Bytes p0 w0 K by kernel_rfl).mpr h)

/- slices.IndexFunc[[]int,int]: slots {8: ''}; loop over [8] -/
set_option maxRecDepth 100000 in
def D_slices_IndexFunc_int (a0 : Option Addr) (l0 c0 : Nat) (v1 : Value) (w0 : World) (K : Value → World → Prop) : Prop :=
 LoopC (fun k x w1 =>
 ∃ n8 : Int, nth x 0 = .int .i64 n8 ∧ (bif decide (n8 < (l0 : Int)) then
 ∃ q14 : Addr, Al (Instr.indexAt 31 (.slice a0 l0 c0) (.int .i64 n8)) (.pointer (some q14)) ∧ ∃ n15 : Int, Ru (Instr.loadAt 3 (.pointer (some q14))) w1 (.int .i64 n15) w1 ∧ Dyn Try.prog v1 #[.int .i64 n15] w1 fun r16 w2 => ∃ b16 : Bool, r16 = .bool b16 ∧ (bif b16 then
 K (.int .i64 n8) w2
 else
 k [.int .i64 (IntKind.i64.wrap (n8 + 1))] w2)
 else
 K (.int .i64 ((-1))) w1)) [.int .i64 0] w0
set_option maxRecDepth 100000 in
theorem C_slices_IndexFunc_int (a0 : Option Addr) (l0 c0 : Nat) (v1 : Value) (w0 : World) (K : Value → World → Prop) (h : D_slices_IndexFunc_int a0 l0 c0 v1 w0 K) : Cal Try.prog F_slices_IndexFunc_int #[.slice a0 l0 c0, v1] w0 K :=
 denF_sound (A := { S := [8], ty := [(8, 3)], raw := [] }) mixed Try.func99 (by kernel_rfl) (by kernel_rfl) ((show denF Try.prog _ Try.f99 _ w0 K = D_slices_IndexFunc_int a0 l0 c0 v1 w0 K by kernel_rfl).mpr h)

/- slices.DeleteFunc[[]int,int]: slots {5: 'i', 6: 'j'}; loop over [5, 6] -/
set_option maxRecDepth 100000 in
def D_slices_DeleteFunc_int (a0 : Option Addr) (l0 c0 : Nat) (v1 : Value) (w0 : World) (K : Value → World → Prop) : Prop :=
 Cal Try.prog F_slices_IndexFunc_int #[.slice a0 l0 c0, v1] w0 fun r10 w1 => ∃ n10 : Int, r10 = .int .i64 n10 ∧ (bif n10 == (-1) then
 K (.slice a0 l0 c0) w1
 else
 LoopC (fun k x w2 =>
 ∃ n6 : Int, nth x 1 = .int .i64 n6 ∧ (bif decide (n6 < (l0 : Int)) then
 ∃ q24 : Addr, Al (Instr.indexAt 31 (.slice a0 l0 c0) (.int .i64 n6)) (.pointer (some q24)) ∧ ∃ n25 : Int, Ru (Instr.loadAt 3 (.pointer (some q24))) w2 (.int .i64 n25) w2 ∧ Dyn Try.prog v1 #[.int .i64 n25] w2 fun r28 w3 => ∃ b28 : Bool, r28 = .bool b28 ∧ Share (fun k_2 => (bif !b28 then
 ∃ n5 : Int, nth x 0 = .int .i64 n5 ∧ ∃ q33 : Addr, Al (Instr.indexAt 31 (.slice a0 l0 c0) (.int .i64 n5)) (.pointer (some q33)) ∧ ∃ w4 : World, RuU (Instr.storeAt 3 (.pointer (some q33)) (.int .i64 n25)) w3 w4 ∧ k_2 [.int .i64 (IntKind.i64.wrap (n5 + 1))] w4
 else
 k_2 [nth x 0] w3)) fun x_2 w5 =>
 k [nth x_2 0, .int .i64 (IntKind.i64.wrap (n6 + 1))] w5
 else
 ∃ n5_2 : Int, nth x 0 = .int .i64 n5_2 ∧ ∃ (a38 : Option Addr) (l38 c38 : Nat), Al (Instr.sliceAt 31 (.slice a0 l0 c0) (some (.int .i64 n5_2)) none none) (.slice a38 l38 c38) ∧ ∃ w6 : World, Ru (Builtin.clear_ #[31] 0 #[.slice a38 l38 c38]) w2 (.tuple #[]) w6 ∧ ∃ (a41 : Option Addr) (l41 c41 : Nat), Al (Instr.sliceAt 31 (.slice a0 l0 c0) none (some (.int .i64 n5_2)) none) (.slice a41 l41 c41) ∧ K (.slice a41 l41 c41) w6)) [.int .i64 n10, .int .i64 (IntKind.i64.wrap (n10 + 1))] w1)
set_option maxRecDepth 100000 in
theorem C_slices_DeleteFunc_int (a0 : Option Addr) (l0 c0 : Nat) (v1 : Value) (w0 : World) (K : Value → World → Prop) (h : D_slices_DeleteFunc_int a0 l0 c0 v1 w0 K) : Cal Try.prog F_slices_DeleteFunc_int #[.slice a0 l0 c0, v1] w0 K :=
 denF_sound (A := { S := [5, 6], ty := [(5, 3), (6, 3)], raw := [] }) mixed Try.func52 (by kernel_rfl) (by kernel_rfl) ((show denF Try.prog _ Try.f52 _ w0 K = D_slices_DeleteFunc_int a0 l0 c0 v1 w0 K by kernel_rfl).mpr h)

/- slices.Contains[[]int,int]: slots {};  -/
set_option maxRecDepth 100000 in
def D_slices_Contains_int (a0 : Option Addr) (l0 c0 : Nat) (n1 : Int) (w0 : World) (K : Value → World → Prop) : Prop :=
 Cal Try.prog F_slices_Index_int #[.slice a0 l0 c0, .int .i64 n1] w0 fun r7 w1 => ∃ n7 : Int, r7 = .int .i64 n7 ∧ K (.bool (decide (n7 ≥ 0))) w1
set_option maxRecDepth 100000 in
theorem C_slices_Contains_int (a0 : Option Addr) (l0 c0 : Nat) (n1 : Int) (w0 : World) (K : Value → World → Prop) (h : D_slices_Contains_int a0 l0 c0 n1 w0 K) : Cal Try.prog F_slices_Contains_int #[.slice a0 l0 c0, .int .i64 n1] w0 K :=
 denF_sound (A := { S := [], ty := [], raw := [] }) mixed Try.func103 (by kernel_rfl) (by kernel_rfl) ((show denF Try.prog _ Try.f103 _ w0 K = D_slices_Contains_int a0 l0 c0 n1 w0 K by kernel_rfl).mpr h)

/- slices.Index[[]int,int]: slots {8: ''}; loop over [8] -/
set_option maxRecDepth 100000 in
def D_slices_Index_int (a0 : Option Addr) (l0 c0 : Nat) (n1 : Int) (w0 : World) (K : Value → World → Prop) : Prop :=
 LoopC (fun k x w1 =>
 ∃ n8 : Int, nth x 0 = .int .i64 n8 ∧ (bif decide (n8 < (l0 : Int)) then
 ∃ q14 : Addr, Al (Instr.indexAt 31 (.slice a0 l0 c0) (.int .i64 n8)) (.pointer (some q14)) ∧ ∃ n15 : Int, Ru (Instr.loadAt 3 (.pointer (some q14))) w1 (.int .i64 n15) w1 ∧ (bif n1 == n15 then
 K (.int .i64 n8) w1
 else
 k [.int .i64 (IntKind.i64.wrap (n8 + 1))] w1)
 else
 K (.int .i64 ((-1))) w1)) [.int .i64 0] w0
set_option maxRecDepth 100000 in
theorem C_slices_Index_int (a0 : Option Addr) (l0 c0 : Nat) (n1 : Int) (w0 : World) (K : Value → World → Prop) (h : D_slices_Index_int a0 l0 c0 n1 w0 K) : Cal Try.prog F_slices_Index_int #[.slice a0 l0 c0, .int .i64 n1] w0 K :=
 denF_sound (A := { S := [8], ty := [(8, 3)], raw := [] }) mixed Try.func132 (by kernel_rfl) (by kernel_rfl) ((show denF Try.prog _ Try.f132 _ w0 K = D_slices_Index_int a0 l0 c0 n1 w0 K by kernel_rfl).mpr h)

/- slices.Clone[[]byte,byte]: slots {};  -/
set_option maxRecDepth 100000 in
def D_slices_Clone_byte (a0 : Option Addr) (l0 c0 : Nat) (w0 : World) (K : Value → World → Prop) : Prop :=
 ∃ b4 : Bool, Al (eqS .eql 32 (.tmp 3) (.const (.slice none 0 0)) (.slice a0 l0 c0) (.slice none 0 0)) (.bool b4) ∧ (bif b4 then
 K (.slice none 0 0) w0
 else
 ∃ (a5 : Option Addr) (l5 c5 : Nat), ∃ w1 : World, Ru (Instr.buildSlice 32 0 #[]) w0 (.slice a5 l5 c5) w1 ∧ ∃ (a7 : Option Addr) (l7 c7 : Nat), ∃ w2 : World, Ru (Builtin.append_ #[32, 32] 32 #[.slice a5 l5 c5, .slice a0 l0 c0]) w1 (.slice a7 l7 c7) w2 ∧ K (.slice a7 l7 c7) w2)
set_option maxRecDepth 100000 in
theorem C_slices_Clone_byte (a0 : Option Addr) (l0 c0 : Nat) (w0 : World) (K : Value → World → Prop) (h : D_slices_Clone_byte a0 l0 c0 w0 K) : Cal Try.prog F_slices_Clone_byte #[.slice a0 l0 c0] w0 K :=
 denF_sound (A := { S := [], ty := [], raw := [] }) mixed Try.func58 (by kernel_rfl) (by kernel_rfl) ((show denF Try.prog _ Try.f58 _ w0 K = D_slices_Clone_byte a0 l0 c0 w0 K by kernel_rfl).mpr h)

/- slices.Clone[[]int,int]: slots {};  -/
set_option maxRecDepth 100000 in
def D_slices_Clone_int (a0 : Option Addr) (l0 c0 : Nat) (w0 : World) (K : Value → World → Prop) : Prop :=
 ∃ b4 : Bool, Al (eqS .eql 31 (.tmp 3) (.const (.slice none 0 0)) (.slice a0 l0 c0) (.slice none 0 0)) (.bool b4) ∧ (bif b4 then
 K (.slice none 0 0) w0
 else
 ∃ (a5 : Option Addr) (l5 c5 : Nat), ∃ w1 : World, Ru (Instr.buildSlice 31 0 #[]) w0 (.slice a5 l5 c5) w1 ∧ ∃ (a7 : Option Addr) (l7 c7 : Nat), ∃ w2 : World, Ru (Builtin.append_ #[31, 31] 31 #[.slice a5 l5 c5, .slice a0 l0 c0]) w1 (.slice a7 l7 c7) w2 ∧ K (.slice a7 l7 c7) w2)
set_option maxRecDepth 100000 in
theorem C_slices_Clone_int (a0 : Option Addr) (l0 c0 : Nat) (w0 : World) (K : Value → World → Prop) (h : D_slices_Clone_int a0 l0 c0 w0 K) : Cal Try.prog F_slices_Clone_int #[.slice a0 l0 c0] w0 K :=
 denF_sound (A := { S := [], ty := [], raw := [] }) mixed Try.func60 (by kernel_rfl) (by kernel_rfl) ((show denF Try.prog _ Try.f60 _ w0 K = D_slices_Clone_int a0 l0 c0 w0 K by kernel_rfl).mpr h)

/- levee.num.Diff: slots {6: 'first', 7: 'last', 14: '', 34: ''}; loop over [6, 7, 14, 34] -/
set_option maxRecDepth 100000 in
def D_num_Diff (a0 : Option Addr) (l0 c0 : Nat) (a1 : Option Addr) (l1 c1 : Nat) (w0 : World) (K : Value → World → Prop) : Prop :=
 LoopC (fun k x w1 =>
 ∃ n14 : Int, nth x 2 = .int .i64 n14 ∧ (bif decide (n14 < (if (l1 : Int) > (l0 : Int) then (l1 : Int) else (l0 : Int))) then
 Share (fun k_2 => Share (fun k_3 => (bif decide (n14 < (if (l1 : Int) < (l0 : Int) then (l1 : Int) else (l0 : Int))) then ∃ q27 : Addr, Al (Instr.indexAt 32 (.slice a0 l0 c0) (.int .i64 n14)) (.pointer (some q27)) ∧ ∃ n28 : Int, Ru (Instr.loadAt 5 (.pointer (some q27))) (drew w1) (.int .u8 n28) (drew w1) ∧ ∃ q31 : Addr, Al (Instr.indexAt 32 (.slice a1 l1 c1) (.int .i64 n14)) (.pointer (some q31)) ∧ ∃ n32 : Int, Ru (Instr.loadAt 5 (.pointer (some q31))) (drew w1) (.int .u8 n32) (drew w1) ∧ k_3 [.bool (n28 == n32)] (drew w1) else k_3 [.bool false] (drew w1))) fun x_3 w2 =>
 ∃ b34 : Bool, nth x_3 0 = .bool b34 ∧ (bif b34 then
 k_2 [nth x 0, nth x 1, .bool b34] w2
 else
 ∃ n6 : Int, nth x 0 = .int .i64 n6 ∧ Share (fun k_4 => (bif decide (n6 < 0) then
 k_4 [.int .i64 n14] w2
 else
 k_4 [.int .i64 n6] w2)) fun x_4 w3 =>
 k_2 [nth x_4 0, .int .i64 (IntKind.i64.wrap (n14 + 1)), .bool b34] w3)) fun x_2 w4 =>
 k [nth x_2 0, nth x_2 1, .int .i64 (IntKind.i64.wrap (n14 + 1)), nth x_2 2] w4
 else
 ∃ n6_2 : Int, nth x 0 = .int .i64 n6_2 ∧ ∃ n7 : Int, nth x 1 = .int .i64 n7 ∧ K (.tuple #[.int .i64 n6_2, .int .i64 n7]) w1)) [.int .i64 ((-1)), .int .i64 ((-1)), .int .i64 0, undef] w0
set_option maxRecDepth 100000 in
theorem C_num_Diff (a0 : Option Addr) (l0 c0 : Nat) (a1 : Option Addr) (l1 c1 : Nat) (w0 : World) (K : Value → World → Prop) (h : D_num_Diff a0 l0 c0 a1 l1 c1 w0 K) : Cal Try.prog F_num_Diff #[.slice a0 l0 c0, .slice a1 l1 c1] w0 K :=
 denF_sound (A := { S := [6, 7, 14, 34], ty := [(6, 3), (7, 3), (14, 3), (34, 4)], raw := [] }) mixed Try.func100 (by kernel_rfl) (by kernel_rfl) ((show denF Try.prog _ Try.f100 _ w0 K = D_num_Diff a0 l0 c0 a1 l1 c1 w0 K by kernel_rfl).mpr h)

/- (levee.cache.Cache).ask$1: slots {};  -/
set_option maxRecDepth 100000 in
def D_cache_Cache_ask_1 (n0 : Int) (v1 : Value) (w0 : World) (K : Value → World → Prop) : Prop :=
 ∃ n5 : Int, Ru (Instr.loadAt 3 v1) w0 (.int .i64 n5) w0 ∧ K (.bool (n0 == n5)) w0
set_option maxRecDepth 100000 in
theorem C_cache_Cache_ask_1 (n0 : Int) (v1 : Value) (w0 : World) (K : Value → World → Prop) (h : D_cache_Cache_ask_1 n0 v1 w0 K) : Cal Try.prog F_cache_Cache_ask_1 #[.int .i64 n0, v1] w0 K :=
 denF_sound (A := { S := [], ty := [], raw := [] }) mixed Try.func104 (by kernel_rfl) (by kernel_rfl) ((show denF Try.prog _ Try.f104 _ w0 K = D_cache_Cache_ask_1 n0 v1 w0 K by kernel_rfl).mpr h)

/- (levee.cache.Cache).out$1: slots {};  -/
set_option maxRecDepth 100000 in
def D_cache_Cache_out_1 (n0 : Int) (v1 : Value) (w0 : World) (K : Value → World → Prop) : Prop :=
 ∃ n5 : Int, Ru (Instr.loadAt 3 v1) w0 (.int .i64 n5) w0 ∧ K (.bool (n0 == n5)) w0
set_option maxRecDepth 100000 in
theorem C_cache_Cache_out_1 (n0 : Int) (v1 : Value) (w0 : World) (K : Value → World → Prop) (h : D_cache_Cache_out_1 n0 v1 w0 K) : Cal Try.prog F_cache_Cache_out_1 #[.int .i64 n0, v1] w0 K :=
 denF_sound (A := { S := [], ty := [], raw := [] }) mixed Try.func107 (by kernel_rfl) (by kernel_rfl) ((show denF Try.prog _ Try.f107 _ w0 K = D_cache_Cache_out_1 n0 v1 w0 K by kernel_rfl).mpr h)

/- levee.cache.New: slots {9: ''};  -/
set_option maxRecDepth 100000 in
def D_cache_New (p0 : Option Addr) (n1 : Int) (w0 : World) (K : Value → World → Prop) : Prop :=
 (bif Option.isNone p0 then
 K (.tuple #[.pointer none, .int .i64 2]) w0
 else
 Share (fun k => (bif decide (n1 < 1) then k [.bool true] w0 else k [.bool (decide (n1 > 4096))] w0)) fun x w1 =>
 ∃ b9 : Bool, nth x 0 = .bool b9 ∧ (bif b9 then
 K (.tuple #[.pointer none, .int .i64 1]) w1
 else
 ∃ m18 : Option Nat, ∃ w2 : World, Ru (Instr.makeMap 86 none) w1 (.map m18) w2 ∧ ∃ g19 : Array Value, Al (Instr.build 88 #[(0, .pointer p0), (1, .int .i64 n1), (2, .map m18)]) (.agg g19) ∧ ∃ q20 : Addr, ∃ w3 : World, Ru (Instr.box 88 (.agg g19)) w2 (.pointer (some q20)) w3 ∧ K (.tuple #[.pointer (some q20), .int .i64 0]) w3))
set_option maxRecDepth 100000 in
theorem C_cache_New (p0 : Option Addr) (n1 : Int) (w0 : World) (K : Value → World → Prop) (h : D_cache_New p0 n1 w0 K) : Cal Try.prog F_cache_New #[.pointer p0, .int .i64 n1] w0 K :=
 denF_sound (A := { S := [9], ty := [(9, 4)], raw := [] }) mixed Try.func12 (by kernel_rfl) (by kernel_rfl) ((show denF Try.prog _ Try.f12 _ w0 K = D_cache_New p0 n1 w0 K by kernel_rfl).mpr h)

/- (levee.cache.Cache).dirty: slots {};  -/
set_option maxRecDepth 100000 in
def D_cache_Cache_dirty (p0 : Option Addr) (n1 : Int) (w0 : World) (K : Value → World → Prop) : Prop :=
 ∃ q11 : Addr, (.pointer p0 : Value) = .pointer (some q11) ∧ ∃ p13 : Option Addr, Ru (Instr.loadAt 23 (.pointer (some (Addr.add q11 0)))) w0 (.pointer p13) w0 ∧ Cal Try.prog F_disk_Disk_Read #[.pointer p13, .int .i64 n1] w0 fun r15 w1 => ∃ (a15a : Option Addr) (l15a c15a : Nat), ∃ n15b : Int, r15 = .tuple #[.slice a15a l15a c15a, .int .i64 n15b] ∧ ∃ q21 : Addr, (.pointer p0 : Value) = .pointer (some q21) ∧ ∃ m23 : Option Nat, Ru (Instr.loadAt 86 (.pointer (some (Addr.add q21 2)))) w1 (.map m23) w1 ∧ ∃ p25 : Option Addr, Ru (Instr.lookup 86 (.map m23) (.int .i64 n1) false) w1 (.pointer p25) w1 ∧ ∃ q26 : Addr, (.pointer p25 : Value) = .pointer (some q26) ∧ ∃ (a29 : Option Addr) (l29 c29 : Nat), Ru (Instr.loadAt 32 (.pointer (some (Addr.add (Addr.add q26 0) 0)))) w1 (.slice a29 l29 c29) w1 ∧ Cal Try.prog F_num_Diff #[.slice a15a l15a c15a, .slice a29 l29 c29] w1 fun r30 w2 => ∃ n30a : Int, ∃ n30b : Int, r30 = .tuple #[.int .i64 n30a, .int .i64 n30b] ∧ K (.bool (decide (n30a ≥ 0))) w2
set_option maxRecDepth 100000 in
theorem C_cache_Cache_dirty (p0 : Option Addr) (n1 : Int) (w0 : World) (K : Value → World → Prop) (h : D_cache_Cache_dirty p0 n1 w0 K) : Cal Try.prog F_cache_Cache_dirty #[.pointer p0, .int .i64 n1] w0 K :=
 denF_sound (A := { S := [], ty := [], raw := [] }) mixed Try.func54 (by kernel_rfl) (by kernel_rfl) ((show denF Try.prog _ Try.f54 _ w0 K = D_cache_Cache_dirty p0 n1 w0 K by kernel_rfl).mpr h)

/- (levee.cache.Cache).out: slots {};  -/
set_option maxRecDepth 100000 in
def D_cache_Cache_out (p0 : Option Addr) (n1 : Int) (w0 : World) (K : Value → World → Prop) : Prop :=
 ∃ q3 : Addr, ∃ w1 : World, Ru (Instr.box 3 (.int .i64 n1)) w0 (.pointer (some q3)) w1 ∧ ∃ q5 : Addr, (.pointer p0 : Value) = .pointer (some q5) ∧ ∃ m7 : Option Nat, Ru (Instr.loadAt 86 (.pointer (some (Addr.add q5 2)))) (drew w1) (.map m7) (drew w1) ∧ ∃ n8 : Int, Ru (Instr.loadAt 3 (.pointer (some q3))) (drew w1) (.int .i64 n8) (drew w1) ∧ ∃ w2 : World, Ru (Builtin.delete_ #[86, 141] 0 #[.map m7, .int .i64 n8]) (drew w1) (.tuple #[]) w2 ∧ ∃ q11 : Addr, (.pointer p0 : Value) = .pointer (some q11) ∧ ∃ (a13 : Option Addr) (l13 c13 : Nat), Ru (Instr.loadAt 31 (.pointer (some (Addr.add q11 3)))) w2 (.slice a13 l13 c13) w2 ∧ Cal Try.prog F_slices_DeleteFunc_int #[.slice a13 l13 c13, .func (.func F_cache_Cache_out_1) #[] #[.pointer (some q3)]] w2 fun r15 w3 => ∃ (a15 : Option Addr) (l15 c15 : Nat), r15 = .slice a15 l15 c15 ∧ ∃ q16 : Addr, (.pointer p0 : Value) = .pointer (some q16) ∧ ∃ w4 : World, RuU (Instr.storeAt 31 (.pointer (some (Addr.add q16 3))) (.slice a15 l15 c15)) w3 w4 ∧ K (.tuple #[]) w4
set_option maxRecDepth 100000 in
theorem C_cache_Cache_out (p0 : Option Addr) (n1 : Int) (w0 : World) (K : Value → World → Prop) (h : D_cache_Cache_out p0 n1 w0 K) : Cal Try.prog F_cache_Cache_out #[.pointer p0, .int .i64 n1] w0 K :=
 denF_sound (A := { S := [], ty := [], raw := [] }) mixed Try.func64 (by kernel_rfl) (by kernel_rfl) ((show denF Try.prog _ Try.f64 _ w0 K = D_cache_Cache_out p0 n1 w0 K by kernel_rfl).mpr h)

/- (levee.cache.Cache).room: slots {};  -/
set_option maxRecDepth 100000 in
def D_cache_Cache_room (p0 : Option Addr) (w0 : World) (K : Value → World → Prop) : Prop :=
 ∃ q1 : Addr, ∃ w1 : World, Ru (Instr.box 28 (.pointer p0)) w0 (.pointer (some q1)) w1 ∧ ∃ p4 : Option Addr, Ru (Instr.loadAt 28 (.pointer (some q1))) (drew w1) (.pointer p4) (drew w1) ∧ ∃ q5 : Addr, (.pointer p4 : Value) = .pointer (some q5) ∧ ∃ (a7 : Option Addr) (l7 c7 : Nat), Ru (Instr.loadAt 31 (.pointer (some (Addr.add q5 3)))) (drew w1) (.slice a7 l7 c7) (drew w1) ∧ ∃ p9 : Option Addr, Ru (Instr.loadAt 28 (.pointer (some q1))) (drew w1) (.pointer p9) (drew w1) ∧ ∃ q10 : Addr, (.pointer p9 : Value) = .pointer (some q10) ∧ ∃ n12 : Int, Ru (Instr.loadAt 3 (.pointer (some (Addr.add q10 1)))) (drew w1) (.int .i64 n12) (drew w1) ∧ (bif decide ((l7 : Int) < n12) then
 K (.int .i64 0) (drew w1)
 else
 ∃ p14 : Option Addr, Ru (Instr.loadAt 28 (.pointer (some q1))) (drew w1) (.pointer p14) (drew w1) ∧ ∃ q15 : Addr, (.pointer p14 : Value) = .pointer (some q15) ∧ ∃ (a17 : Option Addr) (l17 c17 : Nat), Ru (Instr.loadAt 31 (.pointer (some (Addr.add q15 3)))) (drew w1) (.slice a17 l17 c17) (drew w1) ∧ Cal Try.prog F_slices_IndexFunc_int #[.slice a17 l17 c17, .func (.func F_cache_Cache_room_1) #[] #[.pointer (some q1)]] (drew w1) fun r19 w2 => ∃ n19 : Int, r19 = .int .i64 n19 ∧ (bif decide (n19 < 0) then
 K (.int .i64 5) w2
 else
 ∃ p22 : Option Addr, Ru (Instr.loadAt 28 (.pointer (some q1))) (drew w2) (.pointer p22) (drew w2) ∧ ∃ p23 : Option Addr, Ru (Instr.loadAt 28 (.pointer (some q1))) (drew w2) (.pointer p23) (drew w2) ∧ ∃ q24 : Addr, (.pointer p23 : Value) = .pointer (some q24) ∧ ∃ (a26 : Option Addr) (l26 c26 : Nat), Ru (Instr.loadAt 31 (.pointer (some (Addr.add q24 3)))) (drew w2) (.slice a26 l26 c26) (drew w2) ∧ ∃ q28 : Addr, Al (Instr.indexAt 31 (.slice a26 l26 c26) (.int .i64 n19)) (.pointer (some q28)) ∧ ∃ n29 : Int, Ru (Instr.loadAt 3 (.pointer (some q28))) (drew w2) (.int .i64 n29) (drew w2) ∧ Cal Try.prog F_cache_Cache_out #[.pointer p22, .int .i64 n29] (drew w2) fun r30 w3 => r30 = .tuple #[] ∧ K (.int .i64 0) w3))
set_option maxRecDepth 100000 in
theorem C_cache_Cache_room (p0 : Option Addr) (w0 : World) (K : Value → World → Prop) (h : D_cache_Cache_room p0 w0 K) : Cal Try.prog F_cache_Cache_room #[.pointer p0] w0 K :=
 denF_sound (A := { S := [], ty := [], raw := [] }) mixed Try.func105 (by kernel_rfl) (by kernel_rfl) ((show denF Try.prog _ Try.f105 _ w0 K = D_cache_Cache_room p0 w0 K by kernel_rfl).mpr h)

/- (levee.cache.Cache).room$1: slots {3: ''};  -/
set_option maxRecDepth 100000 in
def D_cache_Cache_room_1 (n0 : Int) (v1 : Value) (w0 : World) (K : Value → World → Prop) : Prop :=
 Share (fun k => ∃ p4 : Option Addr, Ru (Instr.loadAt 28 v1) w0 (.pointer p4) w0 ∧ ∃ q5 : Addr, (.pointer p4 : Value) = .pointer (some q5) ∧ ∃ m7 : Option Nat, Ru (Instr.loadAt 86 (.pointer (some (Addr.add q5 2)))) w0 (.map m7) w0 ∧ ∃ p9 : Option Addr, Ru (Instr.lookup 86 (.map m7) (.int .i64 n0) false) w0 (.pointer p9) w0 ∧ ∃ q10 : Addr, (.pointer p9 : Value) = .pointer (some q10) ∧ ∃ n12 : Int, Ru (Instr.loadAt 3 (.pointer (some (Addr.add q10 1)))) w0 (.int .i64 n12) w0 ∧ (bif n12 == 0 then ∃ p15 : Option Addr, Ru (Instr.loadAt 28 v1) w0 (.pointer p15) w0 ∧ Cal Try.prog F_cache_Cache_dirty #[.pointer p15, .int .i64 n0] w0 fun r17 w1 => ∃ b17 : Bool, r17 = .bool b17 ∧ k [.bool (!b17)] w1 else k [.bool false] w0)) fun x w2 =>
 ∃ b3 : Bool, nth x 0 = .bool b3 ∧ K (.bool b3) w2
set_option maxRecDepth 100000 in
theorem C_cache_Cache_room_1 (n0 : Int) (v1 : Value) (w0 : World) (K : Value → World → Prop) (h : D_cache_Cache_room_1 n0 v1 w0 K) : Cal Try.prog F_cache_Cache_room_1 #[.int .i64 n0, v1] w0 K :=
 denF_sound (A := { S := [3], ty := [(3, 4)], raw := [] }) mixed Try.func133 (by kernel_rfl) (by kernel_rfl) ((show denF Try.prog _ Try.f133 _ w0 K = D_cache_Cache_room_1 n0 v1 w0 K by kernel_rfl).mpr h)

/- (levee.cache.Cache).may: slots {12: '', 24: ''};  -/
set_option maxRecDepth 100000 in
def D_cache_Cache_may (p0 : Option Addr) (n1 : Int) (a2 : Option Addr) (l2 c2 : Nat) (a3 : Option Addr) (l3 c3 : Nat) (w0 : World) (K : Value → World → Prop) : Prop :=
 (bif Option.isNone p0 then
 K (.int .i64 2) w0
 else
 Share (fun k => (bif decide (n1 < 0) then k [.bool true] w0 else ∃ q18 : Addr, (.pointer p0 : Value) = .pointer (some q18) ∧ ∃ p20 : Option Addr, Ru (Instr.loadAt 23 (.pointer (some (Addr.add q18 0)))) w0 (.pointer p20) w0 ∧ Cal Try.prog F_disk_Disk_Len #[.pointer p20] w0 fun r21 w1 => ∃ n21 : Int, r21 = .int .i64 n21 ∧ k [.bool (decide (n1 ≥ n21))] w1)) fun x w2 =>
 ∃ b12 : Bool, nth x 0 = .bool b12 ∧ (bif b12 then
 K (.int .i64 3) w2
 else
 Share (fun k_2 => (bif decide ((l3 : Int) > 0) then Cal Try.prog F_slices_Contains_int #[.slice a3 l3 c3, .int .i64 ((l2 : Int))] w2 fun r32 w3 => ∃ b32 : Bool, r32 = .bool b32 ∧ k_2 [.bool (!b32)] w3 else k_2 [.bool false] w2)) fun x_2 w4 =>
 ∃ b24 : Bool, nth x_2 0 = .bool b24 ∧ (bif b24 then
 K (.int .i64 4) w4
 else
 K (.int .i64 0) w4)))
set_option maxRecDepth 100000 in
theorem C_cache_Cache_may (p0 : Option Addr) (n1 : Int) (a2 : Option Addr) (l2 c2 : Nat) (a3 : Option Addr) (l3 c3 : Nat) (w0 : World) (K : Value → World → Prop) (h : D_cache_Cache_may p0 n1 a2 l2 c2 a3 l3 c3 w0 K) : Cal Try.prog F_cache_Cache_may #[.pointer p0, .int .i64 n1, .slice a2 l2 c2, .slice a3 l3 c3] w0 K :=
 denF_sound (A := { S := [12, 24], ty := [(12, 4), (24, 4)], raw := [] }) mixed Try.func56 (by kernel_rfl) (by kernel_rfl) ((show denF Try.prog _ Try.f56 _ w0 K = D_cache_Cache_may p0 n1 a2 l2 c2 a3 l3 c3 w0 K by kernel_rfl).mpr h)

/- (levee.cache.Cache).ask: slots {};  -/
set_option maxRecDepth 100000 in
def D_cache_Cache_ask (p0 : Option Addr) (n1 : Int) (w0 : World) (K : Value → World → Prop) : Prop :=
 ∃ q3 : Addr, ∃ w1 : World, Ru (Instr.box 3 (.int .i64 n1)) w0 (.pointer (some q3)) w1 ∧ ∃ q14 : Addr, (.pointer p0 : Value) = .pointer (some q14) ∧ ∃ m16 : Option Nat, Ru (Instr.loadAt 86 (.pointer (some (Addr.add q14 2)))) (drew w1) (.map m16) (drew w1) ∧ ∃ n17 : Int, Ru (Instr.loadAt 3 (.pointer (some q3))) (drew w1) (.int .i64 n17) (drew w1) ∧ ∃ p18a : Option Addr, ∃ b18b : Bool, Ru (Instr.lookup 86 (.map m16) (.int .i64 n17) true) (drew w1) (.tuple #[.pointer p18a, .bool b18b]) (drew w1) ∧ (bif b18b then
 ∃ q24 : Addr, (.pointer p0 : Value) = .pointer (some q24) ∧ ∃ (a26 : Option Addr) (l26 c26 : Nat), Ru (Instr.loadAt 31 (.pointer (some (Addr.add q24 3)))) (drew (drew w1)) (.slice a26 l26 c26) (drew (drew w1)) ∧ ∃ n29 : Int, Ru (Instr.loadAt 3 (.pointer (some q3))) (drew (drew w1)) (.int .i64 n29) (drew (drew w1)) ∧ (Cal Try.prog F_slices_DeleteFunc_int #[.slice a26 l26 c26, .func (.func F_cache_Cache_ask_1) #[] #[.pointer (some q3)]] (drew (drew w1)) fun r28 w2 => ∃ (a28 : Option Addr) (l28 c28 : Nat), r28 = .slice a28 l28 c28 ∧ Ru (Instr.loadAt 3 (.pointer (some q3))) w2 (.int .i64 n29) w2 ∧ ∃ (a30 : Option Addr) (l30 c30 : Nat), ∃ w3 : World, Ru (Instr.buildSlice 31 1 #[(0, .int .i64 n29)]) w2 (.slice a30 l30 c30) w3 ∧ Ru (Instr.loadAt 31 (.pointer (some (Addr.add q24 3)))) w3 (.slice a26 l26 c26) w3 ∧ ∃ (a31 : Option Addr) (l31 c31 : Nat), ∃ w4 : World, Ru (Builtin.append_ #[31, 31] 31 #[.slice a28 l28 c28, .slice a30 l30 c30]) w3 (.slice a31 l31 c31) w4 ∧ ∃ q32 : Addr, (.pointer p0 : Value) = .pointer (some q32) ∧ ∃ w5 : World, RuU (Instr.storeAt 31 (.pointer (some (Addr.add q32 3))) (.slice a31 l31 c31)) w4 w5 ∧ K (.tuple #[.pointer p18a, .int .i64 0]) w5) ∧ (∃ (a30_2 : Option Addr) (l30_2 c30_2 : Nat), ∃ w6 : World, Ru (Instr.buildSlice 31 1 #[(0, .int .i64 n29)]) (drew (drew w1)) (.slice a30_2 l30_2 c30_2) w6 ∧ Ru (Instr.loadAt 31 (.pointer (some (Addr.add q24 3)))) w6 (.slice a26 l26 c26) w6 ∧ Cal Try.prog F_slices_DeleteFunc_int #[.slice a26 l26 c26, .func (.func F_cache_Cache_ask_1) #[] #[.pointer (some q3)]] w6 fun r28_2 w7 => ∃ (a28_2 : Option Addr) (l28_2 c28_2 : Nat), r28_2 = .slice a28_2 l28_2 c28_2 ∧ Ru (Instr.loadAt 3 (.pointer (some q3))) w7 (.int .i64 n29) w7 ∧ ∃ (a31_2 : Option Addr) (l31_2 c31_2 : Nat), ∃ w8 : World, Ru (Builtin.append_ #[31, 31] 31 #[.slice a28_2 l28_2 c28_2, .slice a30_2 l30_2 c30_2]) w7 (.slice a31_2 l31_2 c31_2) w8 ∧ ∃ q32_2 : Addr, (.pointer p0 : Value) = .pointer (some q32_2) ∧ ∃ w9 : World, RuU (Instr.storeAt 31 (.pointer (some (Addr.add q32_2 3))) (.slice a31_2 l31_2 c31_2)) w8 w9 ∧ K (.tuple #[.pointer p18a, .int .i64 0]) w9)
 else
 Cal Try.prog F_cache_Cache_room #[.pointer p0] (drew w1) fun r36 w10 => ∃ n36 : Int, r36 = .int .i64 n36 ∧ (bif n36 != 0 then
 K (.tuple #[.pointer none, .int .i64 n36]) w10
 else
 ∃ q42 : Addr, (.pointer p0 : Value) = .pointer (some q42) ∧ ∃ p44 : Option Addr, Ru (Instr.loadAt 23 (.pointer (some (Addr.add q42 0)))) (drew w10) (.pointer p44) (drew w10) ∧ ∃ n45 : Int, Ru (Instr.loadAt 3 (.pointer (some q3))) (drew w10) (.int .i64 n45) (drew w10) ∧ Cal Try.prog F_disk_Disk_Read #[.pointer p44, .int .i64 n45] (drew w10) fun r46 w11 => ∃ (a46a : Option Addr) (l46a c46a : Nat), ∃ n46b : Int, r46 = .tuple #[.slice a46a l46a c46a, .int .i64 n46b] ∧ (bif n46b != 0 then
 K (.tuple #[.pointer none, .int .i64 n46b]) w11
 else
 ∃ g53 : Array Value, Al (Instr.build 96 #[(0, .slice a46a l46a c46a)]) (.agg g53) ∧ ∃ g54 : Array Value, Al (Instr.build 98 #[(0, .agg g53)]) (.agg g54) ∧ ∃ q55 : Addr, ∃ w12 : World, Ru (Instr.box 98 (.agg g54)) w11 (.pointer (some q55)) w12 ∧ ∃ q57 : Addr, (.pointer p0 : Value) = .pointer (some q57) ∧ ∃ m59 : Option Nat, Ru (Instr.loadAt 86 (.pointer (some (Addr.add q57 2)))) (drew w12) (.map m59) (drew w12) ∧ ∃ n60 : Int, Ru (Instr.loadAt 3 (.pointer (some q3))) (drew w12) (.int .i64 n60) (drew w12) ∧ ∃ w13 : World, RuU (Instr.mapUpdate 86 (.map m59) (.int .i64 n60) (.pointer (some q55))) (drew w12) w13 ∧ ∃ q64 : Addr, (.pointer p0 : Value) = .pointer (some q64) ∧ ∃ (a66 : Option Addr) (l66 c66 : Nat), Ru (Instr.loadAt 31 (.pointer (some (Addr.add q64 3)))) (drew w13) (.slice a66 l66 c66) (drew w13) ∧ ∃ n67 : Int, Ru (Instr.loadAt 3 (.pointer (some q3))) (drew w13) (.int .i64 n67) (drew w13) ∧ ∃ (a68 : Option Addr) (l68 c68 : Nat), ∃ w14 : World, Ru (Instr.buildSlice 31 1 #[(0, .int .i64 n67)]) (drew w13) (.slice a68 l68 c68) w14 ∧ Ru (Instr.loadAt 31 (.pointer (some (Addr.add q64 3)))) w14 (.slice a66 l66 c66) w14 ∧ ∃ (a69 : Option Addr) (l69 c69 : Nat), ∃ w15 : World, Ru (Builtin.append_ #[31, 31] 31 #[.slice a66 l66 c66, .slice a68 l68 c68]) w14 (.slice a69 l69 c69) w15 ∧ ∃ q70 : Addr, (.pointer p0 : Value) = .pointer (some q70) ∧ ∃ w16 : World, RuU (Instr.storeAt 31 (.pointer (some (Addr.add q70 3))) (.slice a69 l69 c69)) w15 w16 ∧ K (.tuple #[.pointer (some q55), .int .i64 0]) w16)))
set_option maxRecDepth 100000 in
theorem C_cache_Cache_ask (p0 : Option Addr) (n1 : Int) (w0 : World) (K : Value → World → Prop) (h : D_cache_Cache_ask p0 n1 w0 K) : Cal Try.prog F_cache_Cache_ask #[.pointer p0, .int .i64 n1] w0 K :=
 denF_sound (A := { S := [], ty := [], raw := [] }) mixed Try.func57 (by kernel_rfl) (by kernel_rfl) ((show denF Try.prog _ Try.f57 _ w0 K = D_cache_Cache_ask p0 n1 w0 K by kernel_rfl).mpr h)

/- (levee.cache.Cache).Read: slots {};  -/
set_option maxRecDepth 100000 in
def D_cache_Cache_Read (p0 : Option Addr) (n1 : Int) (w0 : World) (K : Value → World → Prop) : Prop :=
 Cal Try.prog F_cache_Cache_may #[.pointer p0, .int .i64 n1, .slice none 0 0, .slice none 0 0] w0 fun r11 w1 => ∃ n11 : Int, r11 = .int .i64 n11 ∧ (bif n11 != 0 then
 K (.tuple #[.slice none 0 0, .int .i64 n11]) w1
 else
 Cal Try.prog F_cache_Cache_ask #[.pointer p0, .int .i64 n1] w1 fun r18 w2 => ∃ p18a : Option Addr, ∃ n18b : Int, r18 = .tuple #[.pointer p18a, .int .i64 n18b] ∧ (bif n18b != 0 then
 K (.tuple #[.slice none 0 0, .int .i64 n18b]) w2
 else
 ∃ q25 : Addr, (.pointer p18a : Value) = .pointer (some q25) ∧ ∃ (a28 : Option Addr) (l28 c28 : Nat), Ru (Instr.loadAt 32 (.pointer (some (Addr.add (Addr.add q25 0) 0)))) w2 (.slice a28 l28 c28) w2 ∧ Cal Try.prog F_slices_Clone_byte #[.slice a28 l28 c28] w2 fun r29 w3 => ∃ (a29 : Option Addr) (l29 c29 : Nat), r29 = .slice a29 l29 c29 ∧ K (.tuple #[.slice a29 l29 c29, .int .i64 0]) w3))
set_option maxRecDepth 100000 in
theorem C_cache_Cache_Read (p0 : Option Addr) (n1 : Int) (w0 : World) (K : Value → World → Prop) (h : D_cache_Cache_Read p0 n1 w0 K) : Cal Try.prog F_cache_Cache_Read #[.pointer p0, .int .i64 n1] w0 K :=
 denF_sound (A := { S := [], ty := [], raw := [] }) mixed Try.func14 (by kernel_rfl) (by kernel_rfl) ((show denF Try.prog _ Try.f14 _ w0 K = D_cache_Cache_Read p0 n1 w0 K by kernel_rfl).mpr h)

/- (levee.cache.Cache).Lay: slots {};  -/
set_option maxRecDepth 100000 in
def D_cache_Cache_Lay (p0 : Option Addr) (n1 : Int) (a2 : Option Addr) (l2 c2 : Nat) (w0 : World) (K : Value → World → Prop) : Prop :=
 ∃ (a13 : Option Addr) (l13 c13 : Nat), ∃ w1 : World, Ru (Instr.buildSlice 31 1 #[(0, .int .i64 256)]) w0 (.slice a13 l13 c13) w1 ∧ Cal Try.prog F_cache_Cache_may #[.pointer p0, .int .i64 n1, .slice a2 l2 c2, .slice a13 l13 c13] w1 fun r14 w2 => ∃ n14 : Int, r14 = .int .i64 n14 ∧ (bif n14 != 0 then
 K (.int .i64 n14) w2
 else
 Cal Try.prog F_cache_Cache_ask #[.pointer p0, .int .i64 n1] w2 fun r21 w3 => ∃ p21a : Option Addr, ∃ n21b : Int, r21 = .tuple #[.pointer p21a, .int .i64 n21b] ∧ Share (fun k => (bif n21b == 0 then
 Cal Try.prog F_slices_Clone_byte #[.slice a2 l2 c2] w3 fun r28 w4 => ∃ (a28 : Option Addr) (l28 c28 : Nat), r28 = .slice a28 l28 c28 ∧ ∃ q29 : Addr, (.pointer p21a : Value) = .pointer (some q29) ∧ ∃ w5 : World, RuU (Instr.storeAt 32 (.pointer (some (Addr.add (Addr.add q29 0) 0))) (.slice a28 l28 c28)) w4 w5 ∧ k [] w5
 else
 k [] w3)) fun x w6 =>
 K (.int .i64 n21b) w6)
set_option maxRecDepth 100000 in
theorem C_cache_Cache_Lay (p0 : Option Addr) (n1 : Int) (a2 : Option Addr) (l2 c2 : Nat) (w0 : World) (K : Value → World → Prop) (h : D_cache_Cache_Lay p0 n1 a2 l2 c2 w0 K) : Cal Try.prog F_cache_Cache_Lay #[.pointer p0, .int .i64 n1, .slice a2 l2 c2] w0 K :=
 denF_sound (A := { S := [], ty := [], raw := [] }) mixed Try.func15 (by kernel_rfl) (by kernel_rfl) ((show denF Try.prog _ Try.f15 _ w0 K = D_cache_Cache_Lay p0 n1 a2 l2 c2 w0 K by kernel_rfl).mpr h)

/- (levee.cache.Cache).Write: slots {2: 'image'};  -/
set_option maxRecDepth 100000 in
def D_cache_Cache_Write (p0 : Option Addr) (n1 : Int) (a2 : Option Addr) (l2 c2 : Nat) (w0 : World) (K : Value → World → Prop) : Prop :=
 ∃ (a13 : Option Addr) (l13 c13 : Nat), ∃ w1 : World, Ru (Instr.buildSlice 31 2 #[(0, .int .i64 0), (1, .int .i64 256)]) w0 (.slice a13 l13 c13) w1 ∧ Cal Try.prog F_cache_Cache_may #[.pointer p0, .int .i64 n1, .slice a2 l2 c2, .slice a13 l13 c13] w1 fun r14 w2 => ∃ n14 : Int, r14 = .int .i64 n14 ∧ (bif n14 != 0 then
 K (.int .i64 n14) w2
 else
 Cal Try.prog F_cache_Cache_ask #[.pointer p0, .int .i64 n1] w2 fun r21 w3 => ∃ p21a : Option Addr, ∃ n21b : Int, r21 = .tuple #[.pointer p21a, .int .i64 n21b] ∧ (bif n21b != 0 then
 K (.int .i64 n21b) w3
 else
 Share (fun k => (bif (l2 : Int) == 0 then
 ∃ q31 : Addr, (.pointer p21a : Value) = .pointer (some q31) ∧ ∃ (a34 : Option Addr) (l34 c34 : Nat), Ru (Instr.loadAt 32 (.pointer (some (Addr.add (Addr.add q31 0) 0)))) w3 (.slice a34 l34 c34) w3 ∧ k [.slice a34 l34 c34] w3
 else
 k [.slice a2 l2 c2] w3)) fun x w4 =>
 ∃ q36 : Addr, (.pointer p0 : Value) = .pointer (some q36) ∧ ∃ p38 : Option Addr, Ru (Instr.loadAt 23 (.pointer (some (Addr.add q36 0)))) w4 (.pointer p38) w4 ∧ ∃ (a2_2 : Option Addr) (l2_2 c2_2 : Nat), nth x 0 = .slice a2_2 l2_2 c2_2 ∧ Cal Try.prog F_disk_Disk_Write #[.pointer p38, .int .i64 n1, .slice a2_2 l2_2 c2_2] w4 fun r41 w5 => ∃ n41 : Int, r41 = .int .i64 n41 ∧ K (.int .i64 n41) w5))
set_option maxRecDepth 100000 in
theorem C_cache_Cache_Write (p0 : Option Addr) (n1 : Int) (a2 : Option Addr) (l2 c2 : Nat) (w0 : World) (K : Value → World → Prop) (h : D_cache_Cache_Write p0 n1 a2 l2 c2 w0 K) : Cal Try.prog F_cache_Cache_Write #[.pointer p0, .int .i64 n1, .slice a2 l2 c2] w0 K :=
 denF_sound (A := { S := [2], ty := [(2, 32)], raw := [] }) mixed Try.func23 (by kernel_rfl) (by kernel_rfl) ((show denF Try.prog _ Try.f23 _ w0 K = D_cache_Cache_Write p0 n1 a2 l2 c2 w0 K by kernel_rfl).mpr h)

/- (levee.cache.Cache).held: slots {};  -/
set_option maxRecDepth 100000 in
def D_cache_Cache_held (p0 : Option Addr) (n1 : Int) (w0 : World) (K : Value → World → Prop) : Prop :=
 (bif Option.isNone p0 then
 K (.tuple #[.pointer none, .int .i64 2]) w0
 else
 ∃ q12 : Addr, (.pointer p0 : Value) = .pointer (some q12) ∧ ∃ m14 : Option Nat, Ru (Instr.loadAt 86 (.pointer (some (Addr.add q12 2)))) w0 (.map m14) w0 ∧ ∃ p16a : Option Addr, ∃ b16b : Bool, Ru (Instr.lookup 86 (.map m14) (.int .i64 n1) true) w0 (.tuple #[.pointer p16a, .bool b16b]) w0 ∧ (bif !b16b then
 K (.tuple #[.pointer none, .int .i64 20]) w0
 else
 K (.tuple #[.pointer p16a, .int .i64 0]) w0))
set_option maxRecDepth 100000 in
theorem C_cache_Cache_held (p0 : Option Addr) (n1 : Int) (w0 : World) (K : Value → World → Prop) (h : D_cache_Cache_held p0 n1 w0 K) : Cal Try.prog F_cache_Cache_held #[.pointer p0, .int .i64 n1] w0 K :=
 denF_sound (A := { S := [], ty := [], raw := [] }) mixed Try.func59 (by kernel_rfl) (by kernel_rfl) ((show denF Try.prog _ Try.f59 _ w0 K = D_cache_Cache_held p0 n1 w0 K by kernel_rfl).mpr h)

/- (levee.cache.Cache).Pin: slots {};  -/
set_option maxRecDepth 100000 in
def D_cache_Cache_Pin (p0 : Option Addr) (n1 : Int) (w0 : World) (K : Value → World → Prop) : Prop :=
 Cal Try.prog F_cache_Cache_held #[.pointer p0, .int .i64 n1] w0 fun r10 w1 => ∃ p10a : Option Addr, ∃ n10b : Int, r10 = .tuple #[.pointer p10a, .int .i64 n10b] ∧ Share (fun k => (bif n10b == 0 then
 ∃ q16 : Addr, (.pointer p10a : Value) = .pointer (some q16) ∧ ∃ n18 : Int, Ru (Instr.loadAt 3 (.pointer (some (Addr.add q16 1)))) w1 (.int .i64 n18) w1 ∧ ∃ q20 : Addr, (.pointer p10a : Value) = .pointer (some q20) ∧ ∃ w2 : World, RuU (Instr.storeAt 3 (.pointer (some (Addr.add q20 1))) (.int .i64 (IntKind.i64.wrap (n18 + 1)))) w1 w2 ∧ k [] w2
 else
 k [] w1)) fun x w3 =>
 K (.int .i64 n10b) w3
set_option maxRecDepth 100000 in
theorem C_cache_Cache_Pin (p0 : Option Addr) (n1 : Int) (w0 : World) (K : Value → World → Prop) (h : D_cache_Cache_Pin p0 n1 w0 K) : Cal Try.prog F_cache_Cache_Pin #[.pointer p0, .int .i64 n1] w0 K :=
 denF_sound (A := { S := [], ty := [], raw := [] }) mixed Try.func17 (by kernel_rfl) (by kernel_rfl) ((show denF Try.prog _ Try.f17 _ w0 K = D_cache_Cache_Pin p0 n1 w0 K by kernel_rfl).mpr h)

/- (levee.cache.Cache).Unpin: slots {};  -/
set_option maxRecDepth 100000 in
def D_cache_Cache_Unpin (p0 : Option Addr) (n1 : Int) (w0 : World) (K : Value → World → Prop) : Prop :=
 Cal Try.prog F_cache_Cache_held #[.pointer p0, .int .i64 n1] w0 fun r10 w1 => ∃ p10a : Option Addr, ∃ n10b : Int, r10 = .tuple #[.pointer p10a, .int .i64 n10b] ∧ (bif n10b != 0 then
 K (.int .i64 n10b) w1
 else
 ∃ q19 : Addr, (.pointer p10a : Value) = .pointer (some q19) ∧ ∃ n21 : Int, Ru (Instr.loadAt 3 (.pointer (some (Addr.add q19 1)))) w1 (.int .i64 n21) w1 ∧ (bif n21 == 0 then
 K (.int .i64 6) w1
 else
 ∃ q24 : Addr, (.pointer p10a : Value) = .pointer (some q24) ∧ ∃ n26 : Int, Ru (Instr.loadAt 3 (.pointer (some (Addr.add q24 1)))) w1 (.int .i64 n26) w1 ∧ ∃ q28 : Addr, (.pointer p10a : Value) = .pointer (some q28) ∧ ∃ w2 : World, RuU (Instr.storeAt 3 (.pointer (some (Addr.add q28 1))) (.int .i64 (IntKind.i64.wrap (n26 - 1)))) w1 w2 ∧ K (.int .i64 0) w2))
set_option maxRecDepth 100000 in
theorem C_cache_Cache_Unpin (p0 : Option Addr) (n1 : Int) (w0 : World) (K : Value → World → Prop) (h : D_cache_Cache_Unpin p0 n1 w0 K) : Cal Try.prog F_cache_Cache_Unpin #[.pointer p0, .int .i64 n1] w0 K :=
 denF_sound (A := { S := [], ty := [], raw := [] }) mixed Try.func18 (by kernel_rfl) (by kernel_rfl) ((show denF Try.prog _ Try.f18 _ w0 K = D_cache_Cache_Unpin p0 n1 w0 K by kernel_rfl).mpr h)

/- (levee.cache.Cache).Drop: slots {};  -/
set_option maxRecDepth 100000 in
def D_cache_Cache_Drop (p0 : Option Addr) (n1 : Int) (w0 : World) (K : Value → World → Prop) : Prop :=
 Cal Try.prog F_cache_Cache_held #[.pointer p0, .int .i64 n1] w0 fun r10 w1 => ∃ p10a : Option Addr, ∃ n10b : Int, r10 = .tuple #[.pointer p10a, .int .i64 n10b] ∧ (bif n10b != 0 then
 K (.int .i64 n10b) w1
 else
 ∃ q19 : Addr, (.pointer p10a : Value) = .pointer (some q19) ∧ ∃ n21 : Int, Ru (Instr.loadAt 3 (.pointer (some (Addr.add q19 1)))) w1 (.int .i64 n21) w1 ∧ (bif decide (n21 > 0) then
 K (.int .i64 32) w1
 else
 Cal Try.prog F_cache_Cache_out #[.pointer p0, .int .i64 n1] w1 fun r25 w2 => r25 = .tuple #[] ∧ K (.int .i64 0) w2))
set_option maxRecDepth 100000 in
theorem C_cache_Cache_Drop (p0 : Option Addr) (n1 : Int) (w0 : World) (K : Value → World → Prop) (h : D_cache_Cache_Drop p0 n1 w0 K) : Cal Try.prog F_cache_Cache_Drop #[.pointer p0, .int .i64 n1] w0 K :=
 denF_sound (A := { S := [], ty := [], raw := [] }) mixed Try.func24 (by kernel_rfl) (by kernel_rfl) ((show denF Try.prog _ Try.f24 _ w0 K = D_cache_Cache_Drop p0 n1 w0 K by kernel_rfl).mpr h)

/- (levee.cache.Cache).Flush: slots {};  -/
set_option maxRecDepth 100000 in
def D_cache_Cache_Flush (p0 : Option Addr) (w0 : World) (K : Value → World → Prop) : Prop :=
 (bif Option.isNone p0 then
 K (.int .i64 2) w0
 else
 ∃ q6 : Addr, (.pointer p0 : Value) = .pointer (some q6) ∧ ∃ p8 : Option Addr, Ru (Instr.loadAt 23 (.pointer (some (Addr.add q6 0)))) w0 (.pointer p8) w0 ∧ Cal Try.prog F_disk_Disk_Flush #[.pointer p8] w0 fun r9 w1 => ∃ n9 : Int, r9 = .int .i64 n9 ∧ K (.int .i64 n9) w1)
set_option maxRecDepth 100000 in
theorem C_cache_Cache_Flush (p0 : Option Addr) (w0 : World) (K : Value → World → Prop) (h : D_cache_Cache_Flush p0 w0 K) : Cal Try.prog F_cache_Cache_Flush #[.pointer p0] w0 K :=
 denF_sound (A := { S := [], ty := [], raw := [] }) mixed Try.func27 (by kernel_rfl) (by kernel_rfl) ((show denF Try.prog _ Try.f27 _ w0 K = D_cache_Cache_Flush p0 w0 K by kernel_rfl).mpr h)

/- (levee.cache.Cache).Dirty: slots {};  -/
set_option maxRecDepth 100000 in
def D_cache_Cache_Dirty (p0 : Option Addr) (w0 : World) (K : Value → World → Prop) : Prop :=
 ∃ q1 : Addr, ∃ w1 : World, Ru (Instr.box 28 (.pointer p0)) w0 (.pointer (some q1)) w1 ∧ ∃ p4 : Option Addr, Ru (Instr.loadAt 28 (.pointer (some q1))) w1 (.pointer p4) w1 ∧ Cal Try.prog F_cache_Cache_Held #[.pointer p4] w1 fun r5 w2 => ∃ (a5 : Option Addr) (l5 c5 : Nat), r5 = .slice a5 l5 c5 ∧ Cal Try.prog F_slices_DeleteFunc_int #[.slice a5 l5 c5, .func (.func F_cache_Cache_Dirty_1) #[] #[.pointer (some q1)]] w2 fun r7 w3 => ∃ (a7 : Option Addr) (l7 c7 : Nat), r7 = .slice a7 l7 c7 ∧ Cal Try.prog F_slices_Sort_int #[.slice a7 l7 c7] w3 fun r9 w4 => r9 = .tuple #[] ∧ K (.slice a7 l7 c7) w4
set_option maxRecDepth 100000 in
theorem C_cache_Cache_Dirty (p0 : Option Addr) (w0 : World) (K : Value → World → Prop) (h : D_cache_Cache_Dirty p0 w0 K) : Cal Try.prog F_cache_Cache_Dirty #[.pointer p0] w0 K :=
 denF_sound (A := { S := [], ty := [], raw := [] }) mixed Try.func13 (by kernel_rfl) (by kernel_rfl) ((show denF Try.prog _ Try.f13 _ w0 K = D_cache_Cache_Dirty p0 w0 K by kernel_rfl).mpr h)

/- (levee.cache.Cache).Dirty$1: slots {};  -/
set_option maxRecDepth 100000 in
def D_cache_Cache_Dirty_1 (n0 : Int) (v1 : Value) (w0 : World) (K : Value → World → Prop) : Prop :=
 ∃ p4 : Option Addr, Ru (Instr.loadAt 28 v1) w0 (.pointer p4) w0 ∧ Cal Try.prog F_cache_Cache_dirty #[.pointer p4, .int .i64 n0] w0 fun r6 w1 => ∃ b6 : Bool, r6 = .bool b6 ∧ K (.bool (!b6)) w1
set_option maxRecDepth 100000 in
theorem C_cache_Cache_Dirty_1 (n0 : Int) (v1 : Value) (w0 : World) (K : Value → World → Prop) (h : D_cache_Cache_Dirty_1 n0 v1 w0 K) : Cal Try.prog F_cache_Cache_Dirty_1 #[.int .i64 n0, v1] w0 K :=
 denF_sound (A := { S := [], ty := [], raw := [] }) mixed Try.func53 (by kernel_rfl) (by kernel_rfl) ((show denF Try.prog _ Try.f53 _ w0 K = D_cache_Cache_Dirty_1 n0 v1 w0 K by kernel_rfl).mpr h)

/- (levee.cache.Cache).Held: slots {};  -/
set_option maxRecDepth 100000 in
def D_cache_Cache_Held (p0 : Option Addr) (w0 : World) (K : Value → World → Prop) : Prop :=
 (bif Option.isNone p0 then
 K (.slice none 0 0) w0
 else
 ∃ q6 : Addr, (.pointer p0 : Value) = .pointer (some q6) ∧ ∃ (a8 : Option Addr) (l8 c8 : Nat), Ru (Instr.loadAt 31 (.pointer (some (Addr.add q6 3)))) w0 (.slice a8 l8 c8) w0 ∧ Cal Try.prog F_slices_Clone_int #[.slice a8 l8 c8] w0 fun r9 w1 => ∃ (a9 : Option Addr) (l9 c9 : Nat), r9 = .slice a9 l9 c9 ∧ K (.slice a9 l9 c9) w1)
set_option maxRecDepth 100000 in
theorem C_cache_Cache_Held (p0 : Option Addr) (w0 : World) (K : Value → World → Prop) (h : D_cache_Cache_Held p0 w0 K) : Cal Try.prog F_cache_Cache_Held #[.pointer p0] w0 K :=
 denF_sound (A := { S := [], ty := [], raw := [] }) mixed Try.func19 (by kernel_rfl) (by kernel_rfl) ((show denF Try.prog _ Try.f19 _ w0 K = D_cache_Cache_Held p0 w0 K by kernel_rfl).mpr h)

/- levee.leveeref01.Count: slots {0: 'k'};  -/
set_option maxRecDepth 100000 in
def D_leveeref01_Count (n0 : Int) (n1 : Int) (w0 : World) (K : Value → World → Prop) : Prop :=
 (bif decide (n1 < 1) then
 K (.int .i64 0) w0
 else
 ∃ n9 : Int, Al (eqS .rem 3 (.tmp 7) (.tmp 8) (.int .i64 n0) (.int .i64 n1)) (.int .i64 n9) ∧ Share (fun k => (bif decide (n9 < 0) then
 k [.int .i64 (IntKind.i64.wrap (n9 + n1))] w0
 else
 k [.int .i64 n9] w0)) fun x w1 =>
 ∃ n0_2 : Int, nth x 0 = .int .i64 n0_2 ∧ K (.int .i64 n0_2) w1)
set_option maxRecDepth 100000 in
theorem C_leveeref01_Count (n0 : Int) (n1 : Int) (w0 : World) (K : Value → World → Prop) (h : D_leveeref01_Count n0 n1 w0 K) : Cal Try.prog F_leveeref01_Count #[.int .i64 n0, .int .i64 n1] w0 K :=
 denF_sound (A := { S := [0], ty := [(0, 3)], raw := [] }) mixed Try.func11 (by kernel_rfl) (by kernel_rfl) ((show denF Try.prog _ Try.f11 _ w0 K = D_leveeref01_Count n0 n1 w0 K by kernel_rfl).mpr h)

/- levee.leveelaw10.CacheStays: slots {11: 'i', 16: 'n', 17: 'n', 41: '', 55: '', 61: '', 134: ''}; loop over [17, 134]; loop over [16]; loop over [11, 16, 17, 41, 55, 61, 134] -/
set_option maxRecDepth 100000 in
def D_leveelaw10_CacheStays (n0 : Int) (a1 : Option Addr) (l1 c1 : Nat) (w0 : World) (K : Value → World → Prop) : Prop :=
 Cal Try.prog F_disk_New #[.int .i64 6] w0 fun r19 w1 => ∃ p19a : Option Addr, ∃ n19b : Int, r19 = .tuple #[.pointer p19a, .int .i64 n19b] ∧ Cal Try.prog F_leveeref01_Count #[.int .i64 n0, .int .i64 4] w1 fun r23 w2 => ∃ n23 : Int, r23 = .int .i64 n23 ∧ Cal Try.prog F_cache_New #[.pointer p19a, .int .i64 (IntKind.i64.wrap (1 + n23))] w2 fun r28 w3 => ∃ p28a : Option Addr, ∃ n28b : Int, r28 = .tuple #[.pointer p28a, .int .i64 n28b] ∧ (bif n28b != 0 then
 K (.bool false) w3
 else
 ∃ (a33 : Option Addr) (l33 c33 : Nat), ∃ w4 : World, Ru (Instr.makeSlice 31 (.int .i64 6) (.int .i64 6)) w3 (.slice a33 l33 c33) w4 ∧ LoopC (fun k x w5 =>
 Share (fun k_2 => ∃ n11 : Int, nth x 0 = .int .i64 n11 ∧ (bif decide (n11 < (l1 : Int)) then k_2 [.bool (decide (n11 < 60))] w5 else k_2 [.bool false] w5)) fun x_2 w6 =>
 ∃ b41 : Bool, nth x_2 0 = .bool b41 ∧ (bif b41 then
 Share (fun k_3 => ∃ n11_2 : Int, nth x 0 = .int .i64 n11_2 ∧ ∃ q46 : Addr, Al (Instr.indexAt 22 (.slice a1 l1 c1) (.int .i64 n11_2)) (.pointer (some q46)) ∧ ∃ g47 : Array Value, Ru (Instr.loadAt 34 (.pointer (some q46))) w6 (.agg g47) w6 ∧ ∃ q12 : Addr, ∃ w7 : World, Ru (Instr.alloc 34 true (.tuple #[])) w6 (.pointer (some q12)) w7 ∧ ∃ w8 : World, RuU (Instr.storeAt 34 (.pointer (some q12)) (.agg g47)) w7 w8 ∧ ∃ n49 : Int, Ru (Instr.loadAt 3 (.pointer (some (Addr.add q12 1)))) w8 (.int .i64 n49) w8 ∧ Cal Try.prog F_leveeref01_Count #[.int .i64 n49, .int .i64 6] w8 fun r50 w9 => ∃ n50 : Int, r50 = .int .i64 n50 ∧ Cal Try.prog F_cache_Cache_Dirty #[.pointer p28a] w9 fun r52 w10 => ∃ (a52 : Option Addr) (l52 c52 : Nat), r52 = .slice a52 l52 c52 ∧ ∃ n54 : Int, Ru (Instr.loadAt 3 (.pointer (some (Addr.add q12 0)))) w10 (.int .i64 n54) w10 ∧ Share (fun k_4 => (bif n54 == 0 then
 k_4 [.bool (n54 == 0)] w10
 else
 k_4 [.bool (n54 == 1)] w10)) fun x_4 w11 =>
 ∃ b55 : Bool, nth x_4 0 = .bool b55 ∧ Share (fun k_5 => (bif b55 then
 Cal Try.prog F_cache_Cache_Read #[.pointer p28a, .int .i64 n50] w11 fun r60 w12 => ∃ (a60a : Option Addr) (l60a c60a : Nat), ∃ n60b : Int, r60 = .tuple #[.slice a60a l60a c60a, .int .i64 n60b] ∧ k_5 [nth x 5] w12
 else
 Share (fun k_6 => (bif n54 == 2 then
 k_6 [.bool (n54 == 2)] w11
 else
 k_6 [.bool (n54 == 3)] w11)) fun x_6 w13 =>
 ∃ b61 : Bool, nth x_6 0 = .bool b61 ∧ Share (fun k_7 => (bif b61 then
 ∃ (a67 : Option Addr) (l67 c67 : Nat), Ru (Instr.loadAt 32 (.pointer (some (Addr.add q12 2)))) w13 (.slice a67 l67 c67) w13 ∧ Cal Try.prog F_leveeref01_Fill #[.slice a67 l67 c67] w13 fun r68 w14 => ∃ (a68 : Option Addr) (l68 c68 : Nat), r68 = .slice a68 l68 c68 ∧ Cal Try.prog F_cache_Cache_Lay #[.pointer p28a, .int .i64 n50, .slice a68 l68 c68] w14 fun r69 w15 => ∃ n69 : Int, r69 = .int .i64 n69 ∧ k_7 [] w15
 else
 Share (fun k_8 => (bif n54 == 6 then
 Cal Try.prog F_cache_Cache_Pin #[.pointer p28a, .int .i64 n50] w13 fun r74 w16 => ∃ n74 : Int, r74 = .int .i64 n74 ∧ Share (fun k_9 => (bif n74 == 0 then
 ∃ q78 : Addr, Al (Instr.indexAt 31 (.slice a33 l33 c33) (.int .i64 n50)) (.pointer (some q78)) ∧ ∃ n79 : Int, Ru (Instr.loadAt 3 (.pointer (some q78))) w16 (.int .i64 n79) w16 ∧ ∃ q81 : Addr, Al (Instr.indexAt 31 (.slice a33 l33 c33) (.int .i64 n50)) (.pointer (some q81)) ∧ ∃ w17 : World, RuU (Instr.storeAt 3 (.pointer (some q81)) (.int .i64 (IntKind.i64.wrap (n79 + 1)))) w16 w17 ∧ k_9 [] w17
 else
 k_9 [] w16)) fun x_9 w18 =>
 k_8 [] w18
 else
 (bif n54 == 7 then
 Cal Try.prog F_cache_Cache_Unpin #[.pointer p28a, .int .i64 n50] w13 fun r86 w19 => ∃ n86 : Int, r86 = .int .i64 n86 ∧ Share (fun k_10 => (bif n86 == 0 then
 ∃ q90 : Addr, Al (Instr.indexAt 31 (.slice a33 l33 c33) (.int .i64 n50)) (.pointer (some q90)) ∧ ∃ n91 : Int, Ru (Instr.loadAt 3 (.pointer (some q90))) w19 (.int .i64 n91) w19 ∧ ∃ q93 : Addr, Al (Instr.indexAt 31 (.slice a33 l33 c33) (.int .i64 n50)) (.pointer (some q93)) ∧ ∃ w20 : World, RuU (Instr.storeAt 3 (.pointer (some q93)) (.int .i64 (IntKind.i64.wrap (n91 - 1)))) w19 w20 ∧ k_10 [] w20
 else
 k_10 [] w19)) fun x_10 w21 =>
 k_8 [] w21
 else
 k_3 [nth x 1, nth x 2, .bool b55, .bool b61, nth x 6] w13))) fun x_8 w22 =>
 k_7 [] w22)) fun x_7 w23 =>
 k_5 [.bool b61] w23)) fun x_5 w24 =>
 Cal Try.prog F_cache_Cache_Held #[.pointer p28a] w24 fun r95 w25 => ∃ (a95 : Option Addr) (l95 c95 : Nat), r95 = .slice a95 l95 c95 ∧ (bif decide ((l95 : Int) > (IntKind.i64.wrap (1 + n23))) then
 K (.bool false) w25
 else
 LoopC (fun k_11 x_11 w26 =>
 ∃ n16 : Int, nth x_11 0 = .int .i64 n16 ∧ (bif decide (n16 < (l52 : Int)) then
 ∃ q109 : Addr, Al (Instr.indexAt 31 (.slice a52 l52 c52) (.int .i64 n16)) (.pointer (some q109)) ∧ ∃ n110 : Int, Ru (Instr.loadAt 3 (.pointer (some q109))) w26 (.int .i64 n110) w26 ∧ Cal Try.prog F_leveelaw10_among #[.slice a95 l95 c95, .int .i64 n110] w26 fun r111 w27 => ∃ b111 : Bool, r111 = .bool b111 ∧ (bif !b111 then
 K (.bool false) w27
 else
 k_11 [.int .i64 (IntKind.i64.wrap (n16 + 1))] w27)
 else
 LoopC (fun k_12 x_12 w28 =>
 ∃ n17 : Int, nth x_12 0 = .int .i64 n17 ∧ (bif decide (n17 < 6) then
 Share (fun k_13 => ∃ q119 : Addr, Al (Instr.indexAt 31 (.slice a33 l33 c33) (.int .i64 n17)) (.pointer (some q119)) ∧ ∃ n120 : Int, Ru (Instr.loadAt 3 (.pointer (some q119))) w28 (.int .i64 n120) w28 ∧ (bif decide (n120 < 0) then k_13 [.bool true] w28 else ∃ q125 : Addr, Al (Instr.indexAt 31 (.slice a33 l33 c33) (.int .i64 n17)) (.pointer (some q125)) ∧ ∃ n126 : Int, Ru (Instr.loadAt 3 (.pointer (some q125))) w28 (.int .i64 n126) w28 ∧ (bif decide (n126 > 0) then Cal Try.prog F_leveelaw10_among #[.slice a95 l95 c95, .int .i64 n17] w28 fun r131 w29 => ∃ b131 : Bool, r131 = .bool b131 ∧ k_13 [.bool (!b131)] w29 else k_13 [.bool false] w28))) fun x_13 w30 =>
 ∃ b134 : Bool, nth x_13 0 = .bool b134 ∧ (bif b134 then
 K (.bool false) w30
 else
 k_12 [.int .i64 (IntKind.i64.wrap (n17 + 1)), .bool b134] w30)
 else
 k_3 [.int .i64 n16, .int .i64 n17, .bool b55, nth x_5 0, nth x_12 1] w28)) [.int .i64 0, nth x 6] w26)) [.int .i64 0] w25)) fun x_3 w31 =>
 ∃ n11_3 : Int, nth x 0 = .int .i64 n11_3 ∧ k [.int .i64 (IntKind.i64.wrap (n11_3 + 1)), nth x_3 0, nth x_3 1, .bool b41, nth x_3 2, nth x_3 3, nth x_3 4] w31
 else
 Cal Try.prog F_leveelaw10_known #[] w6 fun r135 w32 => ∃ b135 : Bool, r135 = .bool b135 ∧ K (.bool b135) w32)) [.int .i64 0, undef, undef, undef, undef, undef, undef] w4)
set_option maxRecDepth 100000 in
theorem C_leveelaw10_CacheStays (n0 : Int) (a1 : Option Addr) (l1 c1 : Nat) (w0 : World) (K : Value → World → Prop) (h : D_leveelaw10_CacheStays n0 a1 l1 c1 w0 K) : Cal Try.prog F_leveelaw10_CacheStays #[.int .i64 n0, .slice a1 l1 c1] w0 K :=
 denF_sound (A := { S := [11, 16, 17, 41, 55, 61, 134], ty := [(11, 3), (16, 3), (17, 3), (41, 4), (55, 4), (61, 4), (134, 4)], raw := [] }) mixed Try.func3 (by kernel_rfl) (by kernel_rfl) ((show denF Try.prog _ Try.f3 _ w0 K = D_leveelaw10_CacheStays n0 a1 l1 c1 w0 K by kernel_rfl).mpr h)

/- levee.leveelaw10.CacheReads: slots {10: 'i', 40: '', 112: '', 113: '', 166: ''}; loop over [10, 40, 112, 113, 166] -/
set_option maxRecDepth 100000 in
def D_leveelaw10_CacheReads (n0 : Int) (a1 : Option Addr) (l1 c1 : Nat) (w0 : World) (K : Value → World → Prop) : Prop :=
 Cal Try.prog F_disk_New #[.int .i64 4] w0 fun r19 w1 => ∃ p19a : Option Addr, ∃ n19b : Int, r19 = .tuple #[.pointer p19a, .int .i64 n19b] ∧ Cal Try.prog F_leveeref01_Count #[.int .i64 n0, .int .i64 4] w1 fun r25 w2 => ∃ n25 : Int, r25 = .int .i64 n25 ∧ Cal Try.prog F_cache_New #[.pointer p19a, .int .i64 (IntKind.i64.wrap (1 + n25))] w2 fun r27 w3 => ∃ p27a : Option Addr, ∃ n27b : Int, r27 = .tuple #[.pointer p27a, .int .i64 n27b] ∧ (bif n27b != 0 then
 K (.bool false) w3
 else
 ∃ (a32 : Option Addr) (l32 c32 : Nat), ∃ w4 : World, Ru (Instr.makeSlice 44 (.int .i64 4) (.int .i64 4)) w3 (.slice a32 l32 c32) w4 ∧ LoopC (fun k x w5 =>
 Share (fun k_2 => ∃ n10 : Int, nth x 0 = .int .i64 n10 ∧ (bif decide (n10 < (l1 : Int)) then k_2 [.bool (decide (n10 < 50))] w5 else k_2 [.bool false] w5)) fun x_2 w6 =>
 ∃ b40 : Bool, nth x_2 0 = .bool b40 ∧ (bif b40 then
 ∃ n10_2 : Int, nth x 0 = .int .i64 n10_2 ∧ ∃ q45 : Addr, Al (Instr.indexAt 22 (.slice a1 l1 c1) (.int .i64 n10_2)) (.pointer (some q45)) ∧ ∃ g46 : Array Value, Ru (Instr.loadAt 34 (.pointer (some q45))) w6 (.agg g46) w6 ∧ ∃ q11 : Addr, ∃ w7 : World, Ru (Instr.alloc 34 true (.tuple #[])) w6 (.pointer (some q11)) w7 ∧ ∃ w8 : World, RuU (Instr.storeAt 34 (.pointer (some q11)) (.agg g46)) w7 w8 ∧ Cal Try.prog F_disk_Disk_Bytes #[.pointer p19a] w8 fun r48 w9 => ∃ (a48 : Option Addr) (l48 c48 : Nat), r48 = .slice a48 l48 c48 ∧ ∃ s49 : ByteArray, Ru (convert 32 9 (.slice a48 l48 c48)) w9 (.string s49) w9 ∧ ∃ n51 : Int, Ru (Instr.loadAt 3 (.pointer (some (Addr.add q11 1)))) w9 (.int .i64 n51) w9 ∧ Cal Try.prog F_leveeref01_Count #[.int .i64 n51, .int .i64 4] w9 fun r52 w10 => ∃ n52 : Int, r52 = .int .i64 n52 ∧ ∃ n54 : Int, Ru (Instr.loadAt 3 (.pointer (some (Addr.add q11 0)))) w10 (.int .i64 n54) w10 ∧ Share (fun k_3 => (bif n54 == 2 then
 k_3 [.bool (n54 == 2)] w10
 else
 k_3 [.bool (n54 == 3)] w10)) fun x_3 w11 =>
 ∃ b113 : Bool, nth x_3 0 = .bool b113 ∧ Share (fun k_4 => (bif b113 then
 ∃ (a119 : Option Addr) (l119 c119 : Nat), Ru (Instr.loadAt 32 (.pointer (some (Addr.add q11 2)))) w11 (.slice a119 l119 c119) w11 ∧ Cal Try.prog F_leveeref01_Fill #[.slice a119 l119 c119] w11 fun r120 w12 => ∃ (a120 : Option Addr) (l120 c120 : Nat), r120 = .slice a120 l120 c120 ∧ Cal Try.prog F_cache_Cache_Lay #[.pointer p27a, .int .i64 n52, .slice a120 l120 c120] w12 fun r121 w13 => ∃ n121 : Int, r121 = .int .i64 n121 ∧ Share (fun k_5 => (bif n121 == 0 then
 ∃ (a126 : Option Addr) (l126 c126 : Nat), Ru (Instr.loadAt 32 (.pointer (some (Addr.add q11 2)))) w13 (.slice a126 l126 c126) w13 ∧ Cal Try.prog F_leveeref01_Fill #[.slice a126 l126 c126] w13 fun r127 w14 => ∃ (a127 : Option Addr) (l127 c127 : Nat), r127 = .slice a127 l127 c127 ∧ ∃ s128 : ByteArray, Ru (convert 32 9 (.slice a127 l127 c127)) w14 (.string s128) w14 ∧ ∃ q129 : Addr, Al (Instr.indexAt 44 (.slice a32 l32 c32) (.int .i64 n52)) (.pointer (some q129)) ∧ ∃ w15 : World, RuU (Instr.storeAt 9 (.pointer (some q129)) (.string s128)) w14 w15 ∧ k_5 [] w15
 else
 k_5 [] w13)) fun x_5 w16 =>
 k_4 [nth x 2] w16
 else
 Share (fun k_6 => (bif n54 == 4 then
 Cal Try.prog F_cache_Cache_Write #[.pointer p27a, .int .i64 n52, .slice none 0 0] w11 fun r134 w17 => ∃ n134 : Int, r134 = .int .i64 n134 ∧ k_6 [nth x 2] w17
 else
 Share (fun k_7 => (bif n54 == 5 then
 ∃ (a140 : Option Addr) (l140 c140 : Nat), Ru (Instr.loadAt 32 (.pointer (some (Addr.add q11 2)))) w11 (.slice a140 l140 c140) w11 ∧ Cal Try.prog F_leveeref01_Fill #[.slice a140 l140 c140] w11 fun r141 w18 => ∃ (a141 : Option Addr) (l141 c141 : Nat), r141 = .slice a141 l141 c141 ∧ Cal Try.prog F_cache_Cache_Write #[.pointer p27a, .int .i64 n52, .slice a141 l141 c141] w18 fun r142 w19 => ∃ n142 : Int, r142 = .int .i64 n142 ∧ k_7 [nth x 2] w19
 else
 Share (fun k_8 => (bif n54 == 8 then
 Cal Try.prog F_cache_Cache_Drop #[.pointer p27a, .int .i64 n52] w11 fun r147 w20 => ∃ n147 : Int, r147 = .int .i64 n147 ∧ Share (fun k_9 => (bif n147 == 0 then
 ∃ q151 : Addr, Al (Instr.indexAt 44 (.slice a32 l32 c32) (.int .i64 n52)) (.pointer (some q151)) ∧ ∃ w21 : World, RuU (Instr.storeAt 9 (.pointer (some q151)) (.string ByteArray.empty)) w20 w21 ∧ k_9 [] w21
 else
 k_9 [] w20)) fun x_9 w22 =>
 k_8 [nth x 2] w22
 else
 Cal Try.prog F_cache_Cache_Read #[.pointer p27a, .int .i64 n52] w11 fun r58 w23 => ∃ (a58a : Option Addr) (l58a c58a : Nat), ∃ n58b : Int, r58 = .tuple #[.slice a58a l58a c58a, .int .i64 n58b] ∧ Cal Try.prog F_disk_Disk_Read #[.pointer p19a, .int .i64 n52] w23 fun r64 w24 => ∃ (a64a : Option Addr) (l64a c64a : Nat), ∃ n64b : Int, r64 = .tuple #[.slice a64a l64a c64a, .int .i64 n64b] ∧ Share (fun k_10 => (bif n58b == 0 then ∃ s71 : ByteArray, Ru (convert 32 9 (.slice a58a l58a c58a)) (drew w24) (.string s71) (drew w24) ∧ ∃ q74 : Addr, Al (Instr.indexAt 44 (.slice a32 l32 c32) (.int .i64 n52)) (.pointer (some q74)) ∧ ∃ s75 : ByteArray, Ru (Instr.loadAt 9 (.pointer (some q74))) (drew w24) (.string s75) (drew w24) ∧ (bif !((ByteArray.toList s71) == (ByteArray.toList s75)) then ∃ q81 : Addr, Al (Instr.indexAt 44 (.slice a32 l32 c32) (.int .i64 n52)) (.pointer (some q81)) ∧ ∃ s82 : ByteArray, Ru (Instr.loadAt 9 (.pointer (some q81))) (drew w24) (.string s82) (drew w24) ∧ (bif !((ByteArray.toList s82) == (ByteArray.toList ByteArray.empty)) then ∃ s86 : ByteArray, Ru (convert 32 9 (.slice a64a l64a c64a)) (drew w24) (.string s86) (drew w24) ∧ ∃ s88 : ByteArray, Ru (convert 32 9 (.slice a58a l58a c58a)) (drew w24) (.string s88) (drew w24) ∧ (bif !((ByteArray.toList s86) == (ByteArray.toList s88)) then k_10 [.bool true] (drew w24) else ∃ q94 : Addr, Al (Instr.indexAt 44 (.slice a32 l32 c32) (.int .i64 n52)) (.pointer (some q94)) ∧ ∃ s95 : ByteArray, Ru (Instr.loadAt 9 (.pointer (some q94))) (drew w24) (.string s95) (drew w24) ∧ (bif (ByteArray.toList s95) == (ByteArray.toList ByteArray.empty) then ∃ s99 : ByteArray, Ru (convert 32 9 (.slice a58a l58a c58a)) (drew w24) (.string s99) (drew w24) ∧ ∃ s101 : ByteArray, Ru (convert 32 9 (.slice a64a l64a c64a)) (drew w24) (.string s101) (drew w24) ∧ (bif !((ByteArray.toList s99) == (ByteArray.toList s101)) then Cal Try.prog F_leveelaw10_wrote #[.slice a1 l1 c1, .int .i64 n10_2, .int .i64 n52] (drew w24) fun r108 w25 => ∃ b108 : Bool, r108 = .bool b108 ∧ k_10 [.bool (!b108)] w25 else k_10 [.bool false] (drew w24)) else k_10 [.bool false] (drew w24))) else ∃ q94_2 : Addr, Al (Instr.indexAt 44 (.slice a32 l32 c32) (.int .i64 n52)) (.pointer (some q94_2)) ∧ ∃ s95_2 : ByteArray, Ru (Instr.loadAt 9 (.pointer (some q94_2))) (drew w24) (.string s95_2) (drew w24) ∧ (bif (ByteArray.toList s95_2) == (ByteArray.toList ByteArray.empty) then ∃ s99_2 : ByteArray, Ru (convert 32 9 (.slice a58a l58a c58a)) (drew w24) (.string s99_2) (drew w24) ∧ ∃ s101_2 : ByteArray, Ru (convert 32 9 (.slice a64a l64a c64a)) (drew w24) (.string s101_2) (drew w24) ∧ (bif !((ByteArray.toList s99_2) == (ByteArray.toList s101_2)) then Cal Try.prog F_leveelaw10_wrote #[.slice a1 l1 c1, .int .i64 n10_2, .int .i64 n52] (drew w24) fun r108_2 w26 => ∃ b108_2 : Bool, r108_2 = .bool b108_2 ∧ k_10 [.bool (!b108_2)] w26 else k_10 [.bool false] (drew w24)) else k_10 [.bool false] (drew w24))) else k_10 [.bool false] (drew w24)) else k_10 [.bool false] (drew w24))) fun x_10 w27 =>
 ∃ b112 : Bool, nth x_10 0 = .bool b112 ∧ (bif b112 then
 K (.bool false) w27
 else
 k_8 [.bool b112] w27))) fun x_8 w28 =>
 k_7 [nth x_8 0] w28)) fun x_7 w29 =>
 k_6 [nth x_7 0] w29)) fun x_6 w30 =>
 k_4 [nth x_6 0] w30)) fun x_4 w31 =>
 Share (fun k_11 => ∃ n153 : Int, Ru (Instr.loadAt 3 (.pointer (some (Addr.add q11 0)))) w31 (.int .i64 n153) w31 ∧ (bif n153 != 4 then ∃ n157 : Int, Ru (Instr.loadAt 3 (.pointer (some (Addr.add q11 0)))) w31 (.int .i64 n157) w31 ∧ (bif n157 != 5 then Cal Try.prog F_disk_Disk_Bytes #[.pointer p19a] w31 fun r162 w32 => ∃ (a162 : Option Addr) (l162 c162 : Nat), r162 = .slice a162 l162 c162 ∧ ∃ s163 : ByteArray, Ru (convert 32 9 (.slice a162 l162 c162)) w32 (.string s163) w32 ∧ k_11 [.bool (!((ByteArray.toList s163) == (ByteArray.toList s49)))] w32 else k_11 [.bool false] w31) else k_11 [.bool false] w31)) fun x_11 w33 =>
 ∃ b166 : Bool, nth x_11 0 = .bool b166 ∧ (bif b166 then
 K (.bool false) w33
 else
 k [.int .i64 (IntKind.i64.wrap (n10_2 + 1)), .bool b40, nth x_4 0, .bool b113, .bool b166] w33)
 else
 Cal Try.prog F_leveelaw10_known #[] w6 fun r167 w34 => ∃ b167 : Bool, r167 = .bool b167 ∧ K (.bool b167) w34)) [.int .i64 0, undef, undef, undef, undef] w4)
set_option maxRecDepth 100000 in
theorem C_leveelaw10_CacheReads (n0 : Int) (a1 : Option Addr) (l1 c1 : Nat) (w0 : World) (K : Value → World → Prop) (h : D_leveelaw10_CacheReads n0 a1 l1 c1 w0 K) : Cal Try.prog F_leveelaw10_CacheReads #[.int .i64 n0, .slice a1 l1 c1] w0 K :=
 denF_sound (A := { S := [10, 40, 112, 113, 166], ty := [(10, 3), (40, 4), (112, 4), (113, 4), (166, 4)], raw := [] }) mixed Try.func4 (by kernel_rfl) (by kernel_rfl) ((show denF Try.prog _ Try.f4 _ w0 K = D_leveelaw10_CacheReads n0 a1 l1 c1 w0 K by kernel_rfl).mpr h)

/- levee.leveelaw10.CacheNil: slots {4: ''};  -/
set_option maxRecDepth 100000 in
def D_leveelaw10_CacheNil (n0 : Int) (a1 : Option Addr) (l1 c1 : Nat) (w0 : World) (K : Value → World → Prop) : Prop :=
 Cal Try.prog F_cache_New #[.pointer none, .int .i64 2] w0 fun r11 w1 => ∃ p11a : Option Addr, ∃ n11b : Int, r11 = .tuple #[.pointer p11a, .int .i64 n11b] ∧ Cal Try.prog F_cache_Cache_Read #[.pointer none, .int .i64 n0] w1 fun r17 w2 => ∃ (a17a : Option Addr) (l17a c17a : Nat), ∃ n17b : Int, r17 = .tuple #[.slice a17a l17a c17a, .int .i64 n17b] ∧ Share (fun k => (bif Option.isNone p11a then (bif n11b == 2 then (bif n17b == 2 then Cal Try.prog F_cache_Cache_Lay #[.pointer none, .int .i64 n0, .slice a1 l1 c1] w2 fun r34 w3 => ∃ n34 : Int, r34 = .int .i64 n34 ∧ (bif n34 == 2 then Cal Try.prog F_cache_Cache_Write #[.pointer none, .int .i64 n0, .slice a1 l1 c1] w3 fun r41 w4 => ∃ n41 : Int, r41 = .int .i64 n41 ∧ (bif n41 == 2 then Cal Try.prog F_cache_Cache_Pin #[.pointer none, .int .i64 n0] w4 fun r47 w5 => ∃ n47 : Int, r47 = .int .i64 n47 ∧ (bif n47 == 2 then Cal Try.prog F_cache_Cache_Unpin #[.pointer none, .int .i64 n0] w5 fun r53 w6 => ∃ n53 : Int, r53 = .int .i64 n53 ∧ (bif n53 == 2 then Cal Try.prog F_cache_Cache_Drop #[.pointer none, .int .i64 n0] w6 fun r59 w7 => ∃ n59 : Int, r59 = .int .i64 n59 ∧ (bif n59 == 2 then Cal Try.prog F_cache_Cache_Flush #[.pointer none] w7 fun r64 w8 => ∃ n64 : Int, r64 = .int .i64 n64 ∧ (bif n64 == 2 then Cal Try.prog F_cache_Cache_Dirty #[.pointer none] w8 fun r69 w9 => ∃ (a69 : Option Addr) (l69 c69 : Nat), r69 = .slice a69 l69 c69 ∧ (bif (l69 : Int) == 0 then Cal Try.prog F_cache_Cache_Held #[.pointer none] w9 fun r75 w10 => ∃ (a75 : Option Addr) (l75 c75 : Nat), r75 = .slice a75 l75 c75 ∧ (bif (l75 : Int) == 0 then Cal Try.prog F_leveelaw10_known #[] w10 fun r80 w11 => ∃ b80 : Bool, r80 = .bool b80 ∧ k [.bool b80] w11 else k [.bool false] w10) else k [.bool false] w9) else k [.bool false] w8) else k [.bool false] w7) else k [.bool false] w6) else k [.bool false] w5) else k [.bool false] w4) else k [.bool false] w3) else k [.bool false] w2) else k [.bool false] w2) else k [.bool false] w2)) fun x w12 =>
 ∃ b4 : Bool, nth x 0 = .bool b4 ∧ K (.bool b4) w12
set_option maxRecDepth 100000 in
theorem C_leveelaw10_CacheNil (n0 : Int) (a1 : Option Addr) (l1 c1 : Nat) (w0 : World) (K : Value → World → Prop) (h : D_leveelaw10_CacheNil n0 a1 l1 c1 w0 K) : Cal Try.prog F_leveelaw10_CacheNil #[.int .i64 n0, .slice a1 l1 c1] w0 K :=
 denF_sound (A := { S := [4], ty := [(4, 4)], raw := [] }) mixed Try.func5 (by kernel_rfl) (by kernel_rfl) ((show denF Try.prog _ Try.f5 _ w0 K = D_leveelaw10_CacheNil n0 a1 l1 c1 w0 K by kernel_rfl).mpr h)

/- levee.leveelaw10.among: slots {5: 'i'}; loop over [5] -/
set_option maxRecDepth 100000 in
def D_leveelaw10_among (a0 : Option Addr) (l0 c0 : Nat) (n1 : Int) (w0 : World) (K : Value → World → Prop) : Prop :=
 LoopC (fun k x w1 =>
 ∃ n5 : Int, nth x 0 = .int .i64 n5 ∧ (bif decide (n5 < (l0 : Int)) then
 ∃ q14 : Addr, Al (Instr.indexAt 31 (.slice a0 l0 c0) (.int .i64 n5)) (.pointer (some q14)) ∧ ∃ n15 : Int, Ru (Instr.loadAt 3 (.pointer (some q14))) w1 (.int .i64 n15) w1 ∧ (bif n15 == n1 then
 K (.bool true) w1
 else
 k [.int .i64 (IntKind.i64.wrap (n5 + 1))] w1)
 else
 K (.bool false) w1)) [.int .i64 0] w0
set_option maxRecDepth 100000 in
theorem C_leveelaw10_among (a0 : Option Addr) (l0 c0 : Nat) (n1 : Int) (w0 : World) (K : Value → World → Prop) (h : D_leveelaw10_among a0 l0 c0 n1 w0 K) : Cal Try.prog F_leveelaw10_among #[.slice a0 l0 c0, .int .i64 n1] w0 K :=
 denF_sound (A := { S := [5], ty := [(5, 3)], raw := [] }) mixed Try.func20 (by kernel_rfl) (by kernel_rfl) ((show denF Try.prog _ Try.f20 _ w0 K = D_leveelaw10_among a0 l0 c0 n1 w0 K by kernel_rfl).mpr h)

/- levee.leveelaw10.known: slots {0: '', 24: ''};  -/
set_option maxRecDepth 100000 in
def D_leveelaw10_known (w0 : World) (K : Value → World → Prop) : Prop :=
 Cal Try.prog F_disk_New #[.int .i64 4] w0 fun r11 w1 => ∃ p11a : Option Addr, ∃ n11b : Int, r11 = .tuple #[.pointer p11a, .int .i64 n11b] ∧ Cal Try.prog F_cache_New #[.pointer p11a, .int .i64 2] w1 fun r16 w2 => ∃ p16a : Option Addr, ∃ n16b : Int, r16 = .tuple #[.pointer p16a, .int .i64 n16b] ∧ Share (fun k => (bif n16b != 0 then k [.bool true] w2 else k [.bool (Option.isNone p16a)] w2)) fun x w3 =>
 ∃ b24 : Bool, nth x 0 = .bool b24 ∧ (bif b24 then
 K (.bool false) w3
 else
 Cal Try.prog F_cache_Cache_Read #[.pointer p16a, .int .i64 1] w3 fun r26 w4 => ∃ (a26a : Option Addr) (l26a c26a : Nat), ∃ n26b : Int, r26 = .tuple #[.slice a26a l26a c26a, .int .i64 n26b] ∧ Cal Try.prog F_cache_Cache_Read #[.pointer p16a, .int .i64 2] w4 fun r28 w5 => ∃ (a28a : Option Addr) (l28a c28a : Nat), ∃ n28b : Int, r28 = .tuple #[.slice a28a l28a c28a, .int .i64 n28b] ∧ Cal Try.prog F_cache_Cache_Read #[.pointer p16a, .int .i64 1] w5 fun r30 w6 => ∃ (a30a : Option Addr) (l30a c30a : Nat), ∃ n30b : Int, r30 = .tuple #[.slice a30a l30a c30a, .int .i64 n30b] ∧ Cal Try.prog F_cache_Cache_Read #[.pointer p16a, .int .i64 3] w6 fun r32 w7 => ∃ (a32a : Option Addr) (l32a c32a : Nat), ∃ n32b : Int, r32 = .tuple #[.slice a32a l32a c32a, .int .i64 n32b] ∧ ∃ (a34 : Option Addr) (l34 c34 : Nat), ∃ w8 : World, Ru (Instr.buildSlice 32 1 #[(0, .int .u8 120)]) w7 (.slice a34 l34 c34) w8 ∧ ∃ (a35 : Option Addr) (l35 c35 : Nat), ∃ w9 : World, Ru (convert 32 32 (.slice a34 l34 c34)) w8 (.slice a35 l35 c35) w9 ∧ Cal Try.prog F_leveeref01_Fill #[.slice a35 l35 c35] w9 fun r36 w10 => ∃ (a36 : Option Addr) (l36 c36 : Nat), r36 = .slice a36 l36 c36 ∧ Cal Try.prog F_cache_Cache_Lay #[.pointer p16a, .int .i64 1, .slice a36 l36 c36] w10 fun r37 w11 => ∃ n37 : Int, r37 = .int .i64 n37 ∧ Cal Try.prog F_cache_Cache_Dirty #[.pointer p16a] w11 fun r39 w12 => ∃ (a39 : Option Addr) (l39 c39 : Nat), r39 = .slice a39 l39 c39 ∧ Cal Try.prog F_cache_Cache_Write #[.pointer p16a, .int .i64 1, .slice none 0 0] w12 fun r41 w13 => ∃ n41 : Int, r41 = .int .i64 n41 ∧ Cal Try.prog F_disk_Disk_Read #[.pointer p11a, .int .i64 1] w13 fun r44 w14 => ∃ (a44a : Option Addr) (l44a c44a : Nat), ∃ n44b : Int, r44 = .tuple #[.slice a44a l44a c44a, .int .i64 n44b] ∧ Share (fun k_2 => Cal Try.prog F_cache_Cache_Held #[.pointer p16a] w14 fun r48 w15 => ∃ (a48 : Option Addr) (l48 c48 : Nat), r48 = .slice a48 l48 c48 ∧ ∃ (a49 : Option Addr) (l49 c49 : Nat), ∃ w16 : World, Ru (Instr.buildSlice 31 2 #[(0, .int .i64 3), (1, .int .i64 1)]) w15 (.slice a49 l49 c49) w16 ∧ Cal Try.prog F_leveeref01_Ints #[.slice a48 l48 c48, .slice a49 l49 c49] w16 fun r50 w17 => ∃ b50 : Bool, r50 = .bool b50 ∧ (bif b50 then (bif n37 == 0 then ∃ (a57 : Option Addr) (l57 c57 : Nat), ∃ w18 : World, Ru (Instr.buildSlice 31 1 #[(0, .int .i64 1)]) w17 (.slice a57 l57 c57) w18 ∧ Cal Try.prog F_leveeref01_Ints #[.slice a39 l39 c39, .slice a57 l57 c57] w18 fun r58 w19 => ∃ b58 : Bool, r58 = .bool b58 ∧ (bif b58 then (bif n41 == 0 then Cal Try.prog F_cache_Cache_Dirty #[.pointer p16a] w19 fun r66 w20 => ∃ (a66 : Option Addr) (l66 c66 : Nat), r66 = .slice a66 l66 c66 ∧ (bif (l66 : Int) == 0 then ∃ q72 : Addr, Al (Instr.indexAt 32 (.slice a44a l44a c44a) (.int .i64 0)) (.pointer (some q72)) ∧ ∃ n73 : Int, Ru (Instr.loadAt 5 (.pointer (some q72))) w20 (.int .u8 n73) w20 ∧ (bif n73 == 120 then k_2 [.bool (n44b == 0)] w20 else k_2 [.bool false] w20) else k_2 [.bool false] w20) else k_2 [.bool false] w19) else k_2 [.bool false] w19) else k_2 [.bool false] w17) else k_2 [.bool false] w17)) fun x_2 w21 =>
 ∃ b0 : Bool, nth x_2 0 = .bool b0 ∧ K (.bool b0) w21)
set_option maxRecDepth 100000 in
theorem C_leveelaw10_known (w0 : World) (K : Value → World → Prop) (h : D_leveelaw10_known  w0 K) : Cal Try.prog F_leveelaw10_known #[] w0 K :=
 denF_sound (A := { S := [0, 24], ty := [(0, 4), (24, 4)], raw := [] }) mixed Try.func21 (by kernel_rfl) (by kernel_rfl) ((show denF Try.prog _ Try.f21 _ w0 K = D_leveelaw10_known  w0 K by kernel_rfl).mpr h)

/- levee.leveelaw10.wrote: slots {7: 'i', 28: ''}; loop over [7, 28] -/
set_option maxRecDepth 100000 in
def D_leveelaw10_wrote (a0 : Option Addr) (l0 c0 : Nat) (n1 : Int) (n2 : Int) (w0 : World) (K : Value → World → Prop) : Prop :=
 LoopC (fun k x w1 =>
 ∃ n7 : Int, nth x 0 = .int .i64 n7 ∧ (bif decide (n7 < n1) then
 Share (fun k_2 => ∃ q15 : Addr, Al (Instr.indexAt 22 (.slice a0 l0 c0) (.int .i64 n7)) (.pointer (some q15)) ∧ ∃ n17 : Int, Ru (Instr.loadAt 3 (.pointer (some (Addr.add q15 0)))) w1 (.int .i64 n17) w1 ∧ (bif n17 == 5 then ∃ q22 : Addr, Al (Instr.indexAt 22 (.slice a0 l0 c0) (.int .i64 n7)) (.pointer (some q22)) ∧ ∃ n24 : Int, Ru (Instr.loadAt 3 (.pointer (some (Addr.add q22 1)))) w1 (.int .i64 n24) w1 ∧ Cal Try.prog F_leveeref01_Count #[.int .i64 n24, .int .i64 4] w1 fun r25 w2 => ∃ n25 : Int, r25 = .int .i64 n25 ∧ k_2 [.bool (n25 == n2)] w2 else k_2 [.bool false] w1)) fun x_2 w3 =>
 ∃ b28 : Bool, nth x_2 0 = .bool b28 ∧ (bif b28 then
 K (.bool true) w3
 else
 k [.int .i64 (IntKind.i64.wrap (n7 + 1)), .bool b28] w3)
 else
 K (.bool false) w1)) [.int .i64 0, undef] w0
set_option maxRecDepth 100000 in
theorem C_leveelaw10_wrote (a0 : Option Addr) (l0 c0 : Nat) (n1 : Int) (n2 : Int) (w0 : World) (K : Value → World → Prop) (h : D_leveelaw10_wrote a0 l0 c0 n1 n2 w0 K) : Cal Try.prog F_leveelaw10_wrote #[.slice a0 l0 c0, .int .i64 n1, .int .i64 n2] w0 K :=
 denF_sound (A := { S := [7, 28], ty := [(7, 3), (28, 4)], raw := [] }) mixed Try.func26 (by kernel_rfl) (by kernel_rfl) ((show denF Try.prog _ Try.f26 _ w0 K = D_leveelaw10_wrote a0 l0 c0 n1 n2 w0 K by kernel_rfl).mpr h)

/- levee.leveelaw10.CachePlays: slots {6: '', 15: 'i', 50: '', 61: '', 87: ''}; loop over [6, 15, 61, 87] -/
set_option maxRecDepth 100000 in
def D_leveelaw10_CachePlays (n0 : Int) (n1 : Int) (a2 : Option Addr) (l2 c2 : Nat) (w0 : World) (K : Value → World → Prop) : Prop :=
 Cal Try.prog F_leveeref01_Count #[.int .i64 n0, .int .i64 8] w0 fun r17 w1 => ∃ n17 : Int, r17 = .int .i64 n17 ∧ Cal Try.prog F_disk_New #[.int .i64 (IntKind.i64.wrap (1 + n17))] w1 fun r21 w2 => ∃ p21a : Option Addr, ∃ n21b : Int, r21 = .tuple #[.pointer p21a, .int .i64 n21b] ∧ Cal Try.prog F_leveeref02_New #[.int .i64 (IntKind.i64.wrap (1 + n17))] w2 fun r26 w3 => ∃ p26a : Option Addr, ∃ n26b : Int, r26 = .tuple #[.pointer p26a, .int .i64 n26b] ∧ Cal Try.prog F_cache_New #[.pointer p21a, .int .i64 n1] w3 fun r32 w4 => ∃ p32a : Option Addr, ∃ n32b : Int, r32 = .tuple #[.pointer p32a, .int .i64 n32b] ∧ Cal Try.prog F_leveeref10_New #[.pointer p26a, .int .i64 n1] w4 fun r38 w5 => ∃ p38a : Option Addr, ∃ n38b : Int, r38 = .tuple #[.pointer p38a, .int .i64 n38b] ∧ Share (fun k => (bif n32b != n38b then k [.bool true] w5 else k [.bool (!((Option.isNone p32a) == (Option.isNone p38a)))] w5)) fun x w6 =>
 ∃ b50 : Bool, nth x 0 = .bool b50 ∧ (bif b50 then
 K (.bool false) w6
 else
 (bif Option.isNone p32a then
 Cal Try.prog F_leveelaw10_known #[] w6 fun r53 w7 => ∃ b53 : Bool, r53 = .bool b53 ∧ K (.bool b53) w7
 else
 LoopC (fun k_2 x_2 w8 =>
 Share (fun k_3 => ∃ n15 : Int, nth x_2 1 = .int .i64 n15 ∧ (bif decide (n15 < (l2 : Int)) then k_3 [.bool (decide (n15 < 50))] w8 else k_3 [.bool false] w8)) fun x_3 w9 =>
 ∃ b61 : Bool, nth x_3 0 = .bool b61 ∧ (bif b61 then
 Share (fun k_4 => ∃ n15_2 : Int, nth x_2 1 = .int .i64 n15_2 ∧ ∃ q68 : Addr, Al (Instr.indexAt 22 (.slice a2 l2 c2) (.int .i64 n15_2)) (.pointer (some q68)) ∧ ∃ g69 : Array Value, Ru (Instr.loadAt 34 (.pointer (some q68))) w9 (.agg g69) w9 ∧ Cal Try.prog F_leveelaw10_do #[.pointer p32a, .pointer p38a, .agg g69] w9 fun r70 w10 => ∃ b70 : Bool, r70 = .bool b70 ∧ (bif !b70 then k_4 [.bool true] w10 else Cal Try.prog F_cache_Cache_Held #[.pointer p32a] w10 fun r74 w11 => ∃ (a74 : Option Addr) (l74 c74 : Nat), r74 = .slice a74 l74 c74 ∧ Cal Try.prog F_leveeref10_Cache_Held #[.pointer p38a] w11 fun r76 w12 => ∃ (a76 : Option Addr) (l76 c76 : Nat), r76 = .slice a76 l76 c76 ∧ Cal Try.prog F_leveeref01_Ints #[.slice a74 l74 c74, .slice a76 l76 c76] w12 fun r77 w13 => ∃ b77 : Bool, r77 = .bool b77 ∧ (bif !b77 then k_4 [.bool true] w13 else Cal Try.prog F_cache_Cache_Dirty #[.pointer p32a] w13 fun r82 w14 => ∃ (a82 : Option Addr) (l82 c82 : Nat), r82 = .slice a82 l82 c82 ∧ Cal Try.prog F_leveeref10_Cache_Dirty #[.pointer p38a] w14 fun r84 w15 => ∃ (a84 : Option Addr) (l84 c84 : Nat), r84 = .slice a84 l84 c84 ∧ Cal Try.prog F_leveeref01_Ints #[.slice a82 l82 c82, .slice a84 l84 c84] w15 fun r85 w16 => ∃ b85 : Bool, r85 = .bool b85 ∧ k_4 [.bool (!b85)] w16))) fun x_4 w17 =>
 ∃ b87 : Bool, nth x_4 0 = .bool b87 ∧ (bif b87 then
 K (.bool false) w17
 else
 ∃ n15_3 : Int, nth x_2 1 = .int .i64 n15_3 ∧ k_2 [nth x_2 0, .int .i64 (IntKind.i64.wrap (n15_3 + 1)), .bool b61, .bool b87] w17)
 else
 Share (fun k_5 => Cal Try.prog F_leveelaw10_same #[.pointer p21a, .pointer p26a] w9 fun r90 w18 => ∃ b90 : Bool, r90 = .bool b90 ∧ (bif b90 then Cal Try.prog F_leveelaw10_known #[] w18 fun r92 w19 => ∃ b92 : Bool, r92 = .bool b92 ∧ k_5 [.bool b92] w19 else k_5 [.bool false] w18)) fun x_5 w20 =>
 ∃ b6 : Bool, nth x_5 0 = .bool b6 ∧ K (.bool b6) w20)) [.bool false, .int .i64 0, undef, undef] w6))
set_option maxRecDepth 100000 in
theorem C_leveelaw10_CachePlays (n0 : Int) (n1 : Int) (a2 : Option Addr) (l2 c2 : Nat) (w0 : World) (K : Value → World → Prop) (h : D_leveelaw10_CachePlays n0 n1 a2 l2 c2 w0 K) : Cal Try.prog F_leveelaw10_CachePlays #[.int .i64 n0, .int .i64 n1, .slice a2 l2 c2] w0 K :=
 denF_sound (A := { S := [6, 15, 50, 61, 87], ty := [(6, 4), (15, 3), (50, 4), (61, 4), (87, 4)], raw := [] }) mixed Try.func6 (by kernel_rfl) (by kernel_rfl) ((show denF Try.prog _ Try.f6 _ w0 K = D_leveelaw10_CachePlays n0 n1 a2 l2 c2 w0 K by kernel_rfl).mpr h)

/- levee.leveelaw10.do: slots {7: 'data', 9: 'ok', 26: '', 55: '', 81: ''};  -/
set_option maxRecDepth 100000 in
def D_leveelaw10_do (p0 : Option Addr) (p1 : Option Addr) (g2 : Array Value) (w0 : World) (K : Value → World → Prop) : Prop :=
 ∃ q5 : Addr, ∃ w1 : World, Ru (Instr.box 34 (.agg g2)) w0 (.pointer (some q5)) w1 ∧ ∃ (a15 : Option Addr) (l15 c15 : Nat), Ru (Instr.loadAt 32 (.pointer (some (Addr.add q5 2)))) w1 (.slice a15 l15 c15) w1 ∧ Cal Try.prog F_leveeref01_Fill #[.slice a15 l15 c15] w1 fun r16 w2 => ∃ (a16 : Option Addr) (l16 c16 : Nat), r16 = .slice a16 l16 c16 ∧ ∃ n18 : Int, Ru (Instr.loadAt 3 (.pointer (some (Addr.add q5 0)))) w2 (.int .i64 n18) w2 ∧ Share (fun k => (bif decide (n18 > 9) then
 ∃ (a21 : Option Addr) (l21 c21 : Nat), Ru (Instr.loadAt 32 (.pointer (some (Addr.add q5 2)))) w2 (.slice a21 l21 c21) w2 ∧ k [.slice a21 l21 c21] w2
 else
 k [.slice a16 l16 c16] w2)) fun x w3 =>
 ∃ (a7 : Option Addr) (l7 c7 : Nat), nth x 0 = .slice a7 l7 c7 ∧ Cal Try.prog F_leveeref01_Lent #[.slice a7 l7 c7] w3 fun r23 w4 => ∃ (a23 : Option Addr) (l23 c23 : Nat), r23 = .slice a23 l23 c23 ∧ ∃ n25 : Int, Ru (Instr.loadAt 3 (.pointer (some (Addr.add q5 0)))) w4 (.int .i64 n25) w4 ∧ Share (fun k_2 => (bif n25 == 0 then
 k_2 [.bool (n25 == 0)] w4
 else
 k_2 [.bool (n25 == 1)] w4)) fun x_2 w5 =>
 ∃ b26 : Bool, nth x_2 0 = .bool b26 ∧ Share (fun k_3 => (bif b26 then
 ∃ n32 : Int, Ru (Instr.loadAt 3 (.pointer (some (Addr.add q5 1)))) w5 (.int .i64 n32) w5 ∧ Cal Try.prog F_cache_Cache_Read #[.pointer p0, .int .i64 n32] w5 fun r33 w6 => ∃ (a33a : Option Addr) (l33a c33a : Nat), ∃ n33b : Int, r33 = .tuple #[.slice a33a l33a c33a, .int .i64 n33b] ∧ ∃ n39 : Int, Ru (Instr.loadAt 3 (.pointer (some (Addr.add q5 1)))) w6 (.int .i64 n39) w6 ∧ Cal Try.prog F_leveeref10_Cache_Read #[.pointer p1, .int .i64 n39] w6 fun r40 w7 => ∃ (a40a : Option Addr) (l40a c40a : Nat), ∃ n40b : Int, r40 = .tuple #[.slice a40a l40a c40a, .int .i64 n40b] ∧ Share (fun k_4 => ∃ s44 : ByteArray, Ru (convert 32 9 (.slice a33a l33a c33a)) w7 (.string s44) w7 ∧ ∃ s46 : ByteArray, Ru (convert 32 9 (.slice a40a l40a c40a)) w7 (.string s46) w7 ∧ (bif (ByteArray.toList s44) == (ByteArray.toList s46) then k_4 [.bool (n33b == n40b)] w7 else k_4 [.bool false] w7)) fun x_4 w8 =>
 Cal Try.prog F_leveeref01_Spoil #[.slice a33a l33a c33a] w8 fun r54 w9 => r54 = .tuple #[] ∧ k_3 [nth x_4 0, undef, undef] w9
 else
 Share (fun k_5 => (bif n25 == 2 then
 k_5 [.bool (n25 == 2)] w5
 else
 Share (fun k_6 => (bif n25 == 3 then
 k_6 [.bool (n25 == 3)] w5
 else
 k_6 [.bool (n25 == 10)] w5)) fun x_6 w10 =>
 k_5 [nth x_6 0] w10)) fun x_5 w11 =>
 ∃ b55 : Bool, nth x_5 0 = .bool b55 ∧ Share (fun k_7 => (bif b55 then
 ∃ n61 : Int, Ru (Instr.loadAt 3 (.pointer (some (Addr.add q5 1)))) (drew w11) (.int .i64 n61) (drew w11) ∧ ∃ n66 : Int, Ru (Instr.loadAt 3 (.pointer (some (Addr.add q5 1)))) (drew w11) (.int .i64 n66) (drew w11) ∧ Cal Try.prog F_cache_Cache_Lay #[.pointer p0, .int .i64 n61, .slice a23 l23 c23] (drew w11) fun r63 w12 => ∃ n63 : Int, r63 = .int .i64 n63 ∧ Ru (Instr.loadAt 3 (.pointer (some (Addr.add q5 1)))) w12 (.int .i64 n66) w12 ∧ Cal Try.prog F_leveeref10_Cache_Lay #[.pointer p1, .int .i64 n66, .slice a7 l7 c7] w12 fun r68 w13 => ∃ n68 : Int, r68 = .int .i64 n68 ∧ k_7 [.bool (n63 == n68), undef] w13
 else
 Share (fun k_8 => (bif n25 == 4 then
 ∃ n74 : Int, Ru (Instr.loadAt 3 (.pointer (some (Addr.add q5 1)))) (drew w11) (.int .i64 n74) (drew w11) ∧ ∃ n78 : Int, Ru (Instr.loadAt 3 (.pointer (some (Addr.add q5 1)))) (drew w11) (.int .i64 n78) (drew w11) ∧ Cal Try.prog F_cache_Cache_Write #[.pointer p0, .int .i64 n74, .slice none 0 0] (drew w11) fun r75 w14 => ∃ n75 : Int, r75 = .int .i64 n75 ∧ Ru (Instr.loadAt 3 (.pointer (some (Addr.add q5 1)))) w14 (.int .i64 n78) w14 ∧ Cal Try.prog F_leveeref10_Cache_Write #[.pointer p1, .int .i64 n78, .slice none 0 0] w14 fun r79 w15 => ∃ n79 : Int, r79 = .int .i64 n79 ∧ k_8 [.bool (n75 == n79), undef] w15
 else
 Share (fun k_9 => (bif n25 == 5 then
 k_9 [.bool (n25 == 5)] w11
 else
 k_9 [.bool (n25 == 11)] w11)) fun x_9 w16 =>
 ∃ b81 : Bool, nth x_9 0 = .bool b81 ∧ Share (fun k_10 => (bif b81 then
 ∃ n86 : Int, Ru (Instr.loadAt 3 (.pointer (some (Addr.add q5 1)))) (drew w16) (.int .i64 n86) (drew w16) ∧ ∃ n91 : Int, Ru (Instr.loadAt 3 (.pointer (some (Addr.add q5 1)))) (drew w16) (.int .i64 n91) (drew w16) ∧ Cal Try.prog F_cache_Cache_Write #[.pointer p0, .int .i64 n86, .slice a23 l23 c23] (drew w16) fun r88 w17 => ∃ n88 : Int, r88 = .int .i64 n88 ∧ Ru (Instr.loadAt 3 (.pointer (some (Addr.add q5 1)))) w17 (.int .i64 n91) w17 ∧ Cal Try.prog F_leveeref10_Cache_Write #[.pointer p1, .int .i64 n91, .slice a7 l7 c7] w17 fun r93 w18 => ∃ n93 : Int, r93 = .int .i64 n93 ∧ k_10 [.bool (n88 == n93)] w18
 else
 Share (fun k_11 => (bif n25 == 6 then
 ∃ n99 : Int, Ru (Instr.loadAt 3 (.pointer (some (Addr.add q5 1)))) (drew w16) (.int .i64 n99) (drew w16) ∧ ∃ n103 : Int, Ru (Instr.loadAt 3 (.pointer (some (Addr.add q5 1)))) (drew w16) (.int .i64 n103) (drew w16) ∧ Cal Try.prog F_cache_Cache_Pin #[.pointer p0, .int .i64 n99] (drew w16) fun r100 w19 => ∃ n100 : Int, r100 = .int .i64 n100 ∧ Ru (Instr.loadAt 3 (.pointer (some (Addr.add q5 1)))) w19 (.int .i64 n103) w19 ∧ Cal Try.prog F_leveeref10_Cache_Pin #[.pointer p1, .int .i64 n103] w19 fun r104 w20 => ∃ n104 : Int, r104 = .int .i64 n104 ∧ k_11 [.bool (n100 == n104)] w20
 else
 Share (fun k_12 => (bif n25 == 7 then
 ∃ n110 : Int, Ru (Instr.loadAt 3 (.pointer (some (Addr.add q5 1)))) (drew w16) (.int .i64 n110) (drew w16) ∧ ∃ n114 : Int, Ru (Instr.loadAt 3 (.pointer (some (Addr.add q5 1)))) (drew w16) (.int .i64 n114) (drew w16) ∧ Cal Try.prog F_cache_Cache_Unpin #[.pointer p0, .int .i64 n110] (drew w16) fun r111 w21 => ∃ n111 : Int, r111 = .int .i64 n111 ∧ Ru (Instr.loadAt 3 (.pointer (some (Addr.add q5 1)))) w21 (.int .i64 n114) w21 ∧ Cal Try.prog F_leveeref10_Cache_Unpin #[.pointer p1, .int .i64 n114] w21 fun r115 w22 => ∃ n115 : Int, r115 = .int .i64 n115 ∧ k_12 [.bool (n111 == n115)] w22
 else
 Share (fun k_13 => (bif n25 == 8 then
 ∃ n121 : Int, Ru (Instr.loadAt 3 (.pointer (some (Addr.add q5 1)))) (drew w16) (.int .i64 n121) (drew w16) ∧ ∃ n125 : Int, Ru (Instr.loadAt 3 (.pointer (some (Addr.add q5 1)))) (drew w16) (.int .i64 n125) (drew w16) ∧ Cal Try.prog F_cache_Cache_Drop #[.pointer p0, .int .i64 n121] (drew w16) fun r122 w23 => ∃ n122 : Int, r122 = .int .i64 n122 ∧ Ru (Instr.loadAt 3 (.pointer (some (Addr.add q5 1)))) w23 (.int .i64 n125) w23 ∧ Cal Try.prog F_leveeref10_Cache_Drop #[.pointer p1, .int .i64 n125] w23 fun r126 w24 => ∃ n126 : Int, r126 = .int .i64 n126 ∧ k_13 [.bool (n122 == n126)] w24
 else
 Share (fun k_14 => (bif n25 == 9 then
 ∃ q133 : Addr, (.pointer p1 : Value) = .pointer (some q133) ∧ ∃ p135 : Option Addr, Ru (Instr.loadAt 49 (.pointer (some (Addr.add q133 0)))) (drew w16) (.pointer p135) (drew w16) ∧ Cal Try.prog F_cache_Cache_Flush #[.pointer p0] (drew w16) fun r131 w25 => ∃ n131 : Int, r131 = .int .i64 n131 ∧ Ru (Instr.loadAt 49 (.pointer (some (Addr.add q133 0)))) w25 (.pointer p135) w25 ∧ Cal Try.prog F_leveeref02_Disk_Flush #[.pointer p135] w25 fun r136 w26 => ∃ n136 : Int, r136 = .int .i64 n136 ∧ k_14 [.bool (n131 == n136)] w26
 else
 k_14 [.bool true] w16)) fun x_14 w27 =>
 k_13 [nth x_14 0] w27)) fun x_13 w28 =>
 k_12 [nth x_13 0] w28)) fun x_12 w29 =>
 k_11 [nth x_12 0] w29)) fun x_11 w30 =>
 k_10 [nth x_11 0] w30)) fun x_10 w31 =>
 k_8 [nth x_10 0, .bool b81] w31)) fun x_8 w32 =>
 k_7 [nth x_8 0, nth x_8 1] w32)) fun x_7 w33 =>
 k_3 [nth x_7 0, .bool b55, nth x_7 1] w33)) fun x_3 w34 =>
 Share (fun k_15 => ∃ b9 : Bool, nth x_3 0 = .bool b9 ∧ (bif b9 then Cal Try.prog F_leveeref01_Kept #[.slice a23 l23 c23, .slice a7 l7 c7] w34 fun r142 w35 => ∃ b142 : Bool, r142 = .bool b142 ∧ k_15 [.bool b142] w35 else k_15 [.bool false] w34)) fun x_15 w36 =>
 Cal Try.prog F_leveeref01_Spoil #[.slice a23 l23 c23] w36 fun r145 w37 => r145 = .tuple #[] ∧ ∃ b9_2 : Bool, nth x_15 0 = .bool b9_2 ∧ K (.bool b9_2) w37
set_option maxRecDepth 100000 in
theorem C_leveelaw10_do (p0 : Option Addr) (p1 : Option Addr) (g2 : Array Value) (w0 : World) (K : Value → World → Prop) (h : D_leveelaw10_do p0 p1 g2 w0 K) : Cal Try.prog F_leveelaw10_do #[.pointer p0, .pointer p1, .agg g2] w0 K :=
 denF_sound (A := { S := [7, 9, 26, 55, 81], ty := [(7, 32), (9, 4), (26, 4), (55, 4), (81, 4)], raw := [] }) mixed Try.func30 (by kernel_rfl) (by kernel_rfl) ((show denF Try.prog _ Try.f30 _ w0 K = D_leveelaw10_do p0 p1 g2 w0 K by kernel_rfl).mpr h)

/- levee.leveelaw10.same: slots {5: 'b', 24: '', 59: ''}; loop over [5, 59] -/
set_option maxRecDepth 100000 in
def D_leveelaw10_same (p0 : Option Addr) (p1 : Option Addr) (w0 : World) (K : Value → World → Prop) : Prop :=
 Share (fun k => Cal Try.prog F_disk_Disk_Bytes #[.pointer p0] (drew w0) fun r11 w1 => ∃ (a11 : Option Addr) (l11 c11 : Nat), r11 = .slice a11 l11 c11 ∧ ∃ s12 : ByteArray, Ru (convert 32 9 (.slice a11 l11 c11)) w1 (.string s12) w1 ∧ Cal Try.prog F_leveeref02_Disk_Bytes #[.pointer p1] w1 fun r14 w2 => ∃ (a14 : Option Addr) (l14 c14 : Nat), r14 = .slice a14 l14 c14 ∧ Ru (convert 32 9 (.slice a11 l11 c11)) w2 (.string s12) w2 ∧ ∃ s15 : ByteArray, Ru (convert 32 9 (.slice a14 l14 c14)) w2 (.string s15) w2 ∧ (bif !((ByteArray.toList s12) == (ByteArray.toList s15)) then k [.bool true] w2 else Cal Try.prog F_disk_Disk_Open #[.pointer p0] w2 fun r19 w3 => ∃ (a19 : Option Addr) (l19 c19 : Nat), r19 = .slice a19 l19 c19 ∧ Cal Try.prog F_leveeref02_Disk_Open #[.pointer p1] w3 fun r21 w4 => ∃ (a21 : Option Addr) (l21 c21 : Nat), r21 = .slice a21 l21 c21 ∧ Cal Try.prog F_leveeref01_Ints #[.slice a19 l19 c19, .slice a21 l21 c21] w4 fun r22 w5 => ∃ b22 : Bool, r22 = .bool b22 ∧ k [.bool (!b22)] w5)) fun x w6 =>
 ∃ b24 : Bool, nth x 0 = .bool b24 ∧ (bif b24 then
 K (.bool false) w6
 else
 LoopC (fun k_2 x_2 w7 =>
 ∃ n5 : Int, nth x_2 0 = .int .i64 n5 ∧ ∃ q27 : Addr, (.pointer p1 : Value) = .pointer (some q27) ∧ ∃ (a29 : Option Addr) (l29 c29 : Nat), Ru (Instr.loadAt 104 (.pointer (some (Addr.add q27 0)))) w7 (.slice a29 l29 c29) w7 ∧ (bif decide (n5 < (l29 : Int)) then
 Cal Try.prog F_disk_Disk_Safe #[.pointer p0, .int .i64 n5] w7 fun r37 w8 => ∃ (a37a : Option Addr) (l37a c37a : Nat), ∃ n37b : Int, r37 = .tuple #[.slice a37a l37a c37a, .int .i64 n37b] ∧ Cal Try.prog F_leveeref02_Disk_Safe #[.pointer p1, .int .i64 n5] w8 fun r43 w9 => ∃ (a43a : Option Addr) (l43a c43a : Nat), ∃ n43b : Int, r43 = .tuple #[.slice a43a l43a c43a, .int .i64 n43b] ∧ Share (fun k_3 => ∃ s47 : ByteArray, Ru (convert 32 9 (.slice a37a l37a c37a)) w9 (.string s47) w9 ∧ ∃ s49 : ByteArray, Ru (convert 32 9 (.slice a43a l43a c43a)) w9 (.string s49) w9 ∧ (bif !((ByteArray.toList s47) == (ByteArray.toList s49)) then k_3 [.bool true] w9 else Cal Try.prog F_disk_Disk_Writes #[.pointer p0, .int .i64 n5] w9 fun r54 w10 => ∃ n54 : Int, r54 = .int .i64 n54 ∧ Cal Try.prog F_leveeref02_Disk_Writes #[.pointer p1, .int .i64 n5] w10 fun r57 w11 => ∃ n57 : Int, r57 = .int .i64 n57 ∧ k_3 [.bool (n54 != n57)] w11)) fun x_3 w12 =>
 ∃ b59 : Bool, nth x_3 0 = .bool b59 ∧ (bif b59 then
 K (.bool false) w12
 else
 k_2 [.int .i64 (IntKind.i64.wrap (n5 + 1)), .bool b59] w12)
 else
 K (.bool true) w7)) [.int .i64 0, undef] w6)
set_option maxRecDepth 100000 in
theorem C_leveelaw10_same (p0 : Option Addr) (p1 : Option Addr) (w0 : World) (K : Value → World → Prop) (h : D_leveelaw10_same p0 p1 w0 K) : Cal Try.prog F_leveelaw10_same #[.pointer p0, .pointer p1] w0 K :=
 denF_sound (A := { S := [5, 24, 59], ty := [(5, 3), (24, 4), (59, 4)], raw := [] }) mixed Try.func34 (by kernel_rfl) (by kernel_rfl) ((show denF Try.prog _ Try.f34 _ w0 K = D_leveelaw10_same p0 p1 w0 K by kernel_rfl).mpr h)

/- levee.leveeref10.New: slots {11: ''};  -/
set_option maxRecDepth 100000 in
def D_leveeref10_New (p0 : Option Addr) (n1 : Int) (w0 : World) (K : Value → World → Prop) : Prop :=
 Share (fun k => (bif decide (n1 < 1) then k [.bool true] w0 else k [.bool (decide (n1 > 4096))] w0)) fun x w1 =>
 ∃ b11 : Bool, nth x 0 = .bool b11 ∧ (bif b11 then
 K (.tuple #[.pointer none, .int .i64 1]) w1
 else
 ∃ g14 : Array Value, Al (Instr.build 112 #[(0, .pointer p0), (2, .int .i64 n1)]) (.agg g14) ∧ ∃ q15 : Addr, ∃ w2 : World, Ru (Instr.box 112 (.agg g14)) w1 (.pointer (some q15)) w2 ∧ K (.tuple #[.pointer (some q15), .int .i64 0]) w2)
set_option maxRecDepth 100000 in
theorem C_leveeref10_New (p0 : Option Addr) (n1 : Int) (w0 : World) (K : Value → World → Prop) (h : D_leveeref10_New p0 n1 w0 K) : Cal Try.prog F_leveeref10_New #[.pointer p0, .int .i64 n1] w0 K :=
 denF_sound (A := { S := [11], ty := [(11, 4)], raw := [] }) mixed Try.func29 (by kernel_rfl) (by kernel_rfl) ((show denF Try.prog _ Try.f29 _ w0 K = D_leveeref10_New p0 n1 w0 K by kernel_rfl).mpr h)

/- (levee.leveeref10.Cache).Held: slots {3: 'out', 4: 'i'}; loop over [3, 4] -/
set_option maxRecDepth 100000 in
def D_leveeref10_Cache_Held (p0 : Option Addr) (w0 : World) (K : Value → World → Prop) : Prop :=
 LoopC (fun k x w1 =>
 ∃ n4 : Int, nth x 1 = .int .i64 n4 ∧ ∃ q7 : Addr, (.pointer p0 : Value) = .pointer (some q7) ∧ ∃ (a9 : Option Addr) (l9 c9 : Nat), Ru (Instr.loadAt 110 (.pointer (some (Addr.add q7 1)))) w1 (.slice a9 l9 c9) w1 ∧ (bif decide (n4 < (l9 : Int)) then
 ∃ (a3 : Option Addr) (l3 c3 : Nat), nth x 0 = .slice a3 l3 c3 ∧ ∃ q16 : Addr, (.pointer p0 : Value) = .pointer (some q16) ∧ ∃ (a18 : Option Addr) (l18 c18 : Nat), Ru (Instr.loadAt 110 (.pointer (some (Addr.add q16 1)))) w1 (.slice a18 l18 c18) w1 ∧ ∃ q20 : Addr, Al (Instr.indexAt 110 (.slice a18 l18 c18) (.int .i64 n4)) (.pointer (some q20)) ∧ ∃ n22 : Int, Ru (Instr.loadAt 3 (.pointer (some (Addr.add q20 0)))) w1 (.int .i64 n22) w1 ∧ ∃ (a23 : Option Addr) (l23 c23 : Nat), ∃ w2 : World, Ru (Instr.buildSlice 31 1 #[(0, .int .i64 n22)]) w1 (.slice a23 l23 c23) w2 ∧ ∃ (a24 : Option Addr) (l24 c24 : Nat), ∃ w3 : World, Ru (Builtin.append_ #[31, 31] 31 #[.slice a3 l3 c3, .slice a23 l23 c23]) w2 (.slice a24 l24 c24) w3 ∧ k [.slice a24 l24 c24, .int .i64 (IntKind.i64.wrap (n4 + 1))] w3
 else
 ∃ (a3_2 : Option Addr) (l3_2 c3_2 : Nat), nth x 0 = .slice a3_2 l3_2 c3_2 ∧ K (.slice a3_2 l3_2 c3_2) w1)) [.slice none 0 0, .int .i64 0] w0
set_option maxRecDepth 100000 in
theorem C_leveeref10_Cache_Held (p0 : Option Addr) (w0 : World) (K : Value → World → Prop) (h : D_leveeref10_Cache_Held p0 w0 K) : Cal Try.prog F_leveeref10_Cache_Held #[.pointer p0] w0 K :=
 denF_sound (A := { S := [3, 4], ty := [(3, 31), (4, 3)], raw := [] }) mixed Try.func32 (by kernel_rfl) (by kernel_rfl) ((show denF Try.prog _ Try.f32 _ w0 K = D_leveeref10_Cache_Held p0 w0 K by kernel_rfl).mpr h)

/- (levee.leveeref10.Cache).Dirty: slots {3: 'out', 4: 'b', 33: ''}; loop over [3, 4, 33] -/
set_option maxRecDepth 100000 in
def D_leveeref10_Cache_Dirty (p0 : Option Addr) (w0 : World) (K : Value → World → Prop) : Prop :=
 LoopC (fun k x w1 =>
 ∃ n4 : Int, nth x 1 = .int .i64 n4 ∧ ∃ q8 : Addr, (.pointer p0 : Value) = .pointer (some q8) ∧ ∃ p10 : Option Addr, Ru (Instr.loadAt 49 (.pointer (some (Addr.add q8 0)))) w1 (.pointer p10) w1 ∧ ∃ q11 : Addr, (.pointer p10 : Value) = .pointer (some q11) ∧ ∃ (a13 : Option Addr) (l13 c13 : Nat), Ru (Instr.loadAt 104 (.pointer (some (Addr.add q11 0)))) w1 (.slice a13 l13 c13) w1 ∧ (bif decide (n4 < (l13 : Int)) then
 Cal Try.prog F_leveeref10_Cache_find #[.pointer p0, .int .i64 n4] w1 fun r20 w2 => ∃ n20 : Int, r20 = .int .i64 n20 ∧ Share (fun k_2 => (bif decide (n20 ≥ 0) then ∃ q26 : Addr, (.pointer p0 : Value) = .pointer (some q26) ∧ ∃ (a28 : Option Addr) (l28 c28 : Nat), Ru (Instr.loadAt 110 (.pointer (some (Addr.add q26 1)))) w2 (.slice a28 l28 c28) w2 ∧ ∃ q30 : Addr, Al (Instr.indexAt 110 (.slice a28 l28 c28) (.int .i64 n20)) (.pointer (some q30)) ∧ ∃ g31 : Array Value, Ru (Instr.loadAt 116 (.pointer (some q30))) w2 (.agg g31) w2 ∧ Cal Try.prog F_leveeref10_Cache_dirty #[.pointer p0, .agg g31] w2 fun r32 w3 => ∃ b32 : Bool, r32 = .bool b32 ∧ k_2 [.bool b32] w3 else k_2 [.bool false] w2)) fun x_2 w4 =>
 ∃ b33 : Bool, nth x_2 0 = .bool b33 ∧ Share (fun k_3 => (bif b33 then
 ∃ (a3 : Option Addr) (l3 c3 : Nat), nth x 0 = .slice a3 l3 c3 ∧ ∃ (a36 : Option Addr) (l36 c36 : Nat), ∃ w5 : World, Ru (Instr.buildSlice 31 1 #[(0, .int .i64 n4)]) w4 (.slice a36 l36 c36) w5 ∧ ∃ (a37 : Option Addr) (l37 c37 : Nat), ∃ w6 : World, Ru (Builtin.append_ #[31, 31] 31 #[.slice a3 l3 c3, .slice a36 l36 c36]) w5 (.slice a37 l37 c37) w6 ∧ k_3 [.slice a37 l37 c37] w6
 else
 k_3 [nth x 0] w4)) fun x_3 w7 =>
 k [nth x_3 0, .int .i64 (IntKind.i64.wrap (n4 + 1)), .bool b33] w7
 else
 ∃ (a3_2 : Option Addr) (l3_2 c3_2 : Nat), nth x 0 = .slice a3_2 l3_2 c3_2 ∧ K (.slice a3_2 l3_2 c3_2) w1)) [.slice none 0 0, .int .i64 0, undef] w0
set_option maxRecDepth 100000 in
theorem C_leveeref10_Cache_Dirty (p0 : Option Addr) (w0 : World) (K : Value → World → Prop) (h : D_leveeref10_Cache_Dirty p0 w0 K) : Cal Try.prog F_leveeref10_Cache_Dirty #[.pointer p0] w0 K :=
 denF_sound (A := { S := [3, 4, 33], ty := [(3, 31), (4, 3), (33, 4)], raw := [] }) mixed Try.func33 (by kernel_rfl) (by kernel_rfl) ((show denF Try.prog _ Try.f33 _ w0 K = D_leveeref10_Cache_Dirty p0 w0 K by kernel_rfl).mpr h)

/- (levee.leveeref10.Cache).Read: slots {};  -/
set_option maxRecDepth 100000 in
def D_leveeref10_Cache_Read (p0 : Option Addr) (n1 : Int) (w0 : World) (K : Value → World → Prop) : Prop :=
 Cal Try.prog F_leveeref10_Cache_ask #[.pointer p0, .int .i64 n1] w0 fun r9 w1 => ∃ n9 : Int, r9 = .int .i64 n9 ∧ (bif n9 != 0 then
 K (.tuple #[.slice none 0 0, .int .i64 n9]) w1
 else
 ∃ q14 : Addr, (.pointer p0 : Value) = .pointer (some q14) ∧ ∃ (a16 : Option Addr) (l16 c16 : Nat), Ru (Instr.loadAt 110 (.pointer (some (Addr.add q14 1)))) (drew w1) (.slice a16 l16 c16) (drew w1) ∧ ∃ q18 : Addr, (.pointer p0 : Value) = .pointer (some q18) ∧ ∃ (a20 : Option Addr) (l20 c20 : Nat), Ru (Instr.loadAt 110 (.pointer (some (Addr.add q18 1)))) (drew w1) (.slice a20 l20 c20) (drew w1) ∧ ∃ q23 : Addr, Al (Instr.indexAt 110 (.slice a16 l16 c16) (.int .i64 (IntKind.i64.wrap ((l20 : Int) - 1)))) (.pointer (some q23)) ∧ ∃ s25 : ByteArray, Ru (Instr.loadAt 9 (.pointer (some (Addr.add q23 1)))) (drew w1) (.string s25) (drew w1) ∧ ∃ (a26 : Option Addr) (l26 c26 : Nat), ∃ w2 : World, Ru (convert 9 32 (.string s25)) (drew w1) (.slice a26 l26 c26) w2 ∧ K (.tuple #[.slice a26 l26 c26, .int .i64 0]) w2)
set_option maxRecDepth 100000 in
theorem C_leveeref10_Cache_Read (p0 : Option Addr) (n1 : Int) (w0 : World) (K : Value → World → Prop) (h : D_leveeref10_Cache_Read p0 n1 w0 K) : Cal Try.prog F_leveeref10_Cache_Read #[.pointer p0, .int .i64 n1] w0 K :=
 denF_sound (A := { S := [], ty := [], raw := [] }) mixed Try.func69 (by kernel_rfl) (by kernel_rfl) ((show denF Try.prog _ Try.f69 _ w0 K = D_leveeref10_Cache_Read p0 n1 w0 K by kernel_rfl).mpr h)

/- (levee.leveeref10.Cache).Lay: slots {};  -/
set_option maxRecDepth 100000 in
def D_leveeref10_Cache_Lay (p0 : Option Addr) (n1 : Int) (a2 : Option Addr) (l2 c2 : Nat) (w0 : World) (K : Value → World → Prop) : Prop :=
 ∃ q11 : Addr, (.pointer p0 : Value) = .pointer (some q11) ∧ ∃ p13 : Option Addr, Ru (Instr.loadAt 49 (.pointer (some (Addr.add q11 0)))) w0 (.pointer p13) w0 ∧ Cal Try.prog F_leveeref02_Disk_Read #[.pointer p13, .int .i64 n1] w0 fun r15 w1 => ∃ (a15a : Option Addr) (l15a c15a : Nat), ∃ n15b : Int, r15 = .tuple #[.slice a15a l15a c15a, .int .i64 n15b] ∧ (bif n15b != 0 then
 K (.int .i64 n15b) w1
 else
 (bif (l2 : Int) != 256 then
 K (.int .i64 4) w1
 else
 Cal Try.prog F_leveeref10_Cache_ask #[.pointer p0, .int .i64 n1] w1 fun r26 w2 => ∃ n26 : Int, r26 = .int .i64 n26 ∧ Share (fun k => (bif n26 == 0 then
 ∃ q30 : Addr, (.pointer p0 : Value) = .pointer (some q30) ∧ ∃ (a32 : Option Addr) (l32 c32 : Nat), Ru (Instr.loadAt 110 (.pointer (some (Addr.add q30 1)))) (drew w2) (.slice a32 l32 c32) (drew w2) ∧ ∃ q34 : Addr, (.pointer p0 : Value) = .pointer (some q34) ∧ ∃ (a36 : Option Addr) (l36 c36 : Nat), Ru (Instr.loadAt 110 (.pointer (some (Addr.add q34 1)))) (drew w2) (.slice a36 l36 c36) (drew w2) ∧ ∃ s40 : ByteArray, Ru (convert 32 9 (.slice a2 l2 c2)) (drew w2) (.string s40) (drew w2) ∧ ∃ q41 : Addr, Al (Instr.indexAt 110 (.slice a32 l32 c32) (.int .i64 (IntKind.i64.wrap ((l36 : Int) - 1)))) (.pointer (some q41)) ∧ ∃ w3 : World, RuU (Instr.storeAt 9 (.pointer (some (Addr.add q41 1))) (.string s40)) (drew w2) w3 ∧ k [] w3
 else
 k [] w2)) fun x w4 =>
 K (.int .i64 n26) w4))
set_option maxRecDepth 100000 in
theorem C_leveeref10_Cache_Lay (p0 : Option Addr) (n1 : Int) (a2 : Option Addr) (l2 c2 : Nat) (w0 : World) (K : Value → World → Prop) (h : D_leveeref10_Cache_Lay p0 n1 a2 l2 c2 w0 K) : Cal Try.prog F_leveeref10_Cache_Lay #[.pointer p0, .int .i64 n1, .slice a2 l2 c2] w0 K :=
 denF_sound (A := { S := [], ty := [], raw := [] }) mixed Try.func71 (by kernel_rfl) (by kernel_rfl) ((show denF Try.prog _ Try.f71 _ w0 K = D_leveeref10_Cache_Lay p0 n1 a2 l2 c2 w0 K by kernel_rfl).mpr h)

/- (levee.leveeref10.Cache).Write: slots {28: ''};  -/
set_option maxRecDepth 100000 in
def D_leveeref10_Cache_Write (p0 : Option Addr) (n1 : Int) (a2 : Option Addr) (l2 c2 : Nat) (w0 : World) (K : Value → World → Prop) : Prop :=
 ∃ q11 : Addr, (.pointer p0 : Value) = .pointer (some q11) ∧ ∃ p13 : Option Addr, Ru (Instr.loadAt 49 (.pointer (some (Addr.add q11 0)))) w0 (.pointer p13) w0 ∧ Cal Try.prog F_leveeref02_Disk_Read #[.pointer p13, .int .i64 n1] w0 fun r15 w1 => ∃ (a15a : Option Addr) (l15a c15a : Nat), ∃ n15b : Int, r15 = .tuple #[.slice a15a l15a c15a, .int .i64 n15b] ∧ (bif n15b != 0 then
 K (.int .i64 n15b) w1
 else
 Share (fun k => (bif (l2 : Int) != 256 then k [.bool ((l2 : Int) != 0)] w1 else k [.bool false] w1)) fun x w2 =>
 ∃ b28 : Bool, nth x 0 = .bool b28 ∧ (bif b28 then
 K (.int .i64 4) w2
 else
 Cal Try.prog F_leveeref10_Cache_ask #[.pointer p0, .int .i64 n1] w2 fun r31 w3 => ∃ n31 : Int, r31 = .int .i64 n31 ∧ (bif n31 != 0 then
 K (.int .i64 n31) w3
 else
 (bif (l2 : Int) == 0 then
 ∃ q39 : Addr, (.pointer p0 : Value) = .pointer (some q39) ∧ ∃ p41 : Option Addr, Ru (Instr.loadAt 49 (.pointer (some (Addr.add q39 0)))) (drew w3) (.pointer p41) (drew w3) ∧ ∃ q44 : Addr, (.pointer p0 : Value) = .pointer (some q44) ∧ ∃ (a46 : Option Addr) (l46 c46 : Nat), Ru (Instr.loadAt 110 (.pointer (some (Addr.add q44 1)))) (drew w3) (.slice a46 l46 c46) (drew w3) ∧ ∃ q48 : Addr, (.pointer p0 : Value) = .pointer (some q48) ∧ ∃ (a50 : Option Addr) (l50 c50 : Nat), Ru (Instr.loadAt 110 (.pointer (some (Addr.add q48 1)))) (drew w3) (.slice a50 l50 c50) (drew w3) ∧ ∃ q53 : Addr, Al (Instr.indexAt 110 (.slice a46 l46 c46) (.int .i64 (IntKind.i64.wrap ((l50 : Int) - 1)))) (.pointer (some q53)) ∧ ∃ s55 : ByteArray, Ru (Instr.loadAt 9 (.pointer (some (Addr.add q53 1)))) (drew w3) (.string s55) (drew w3) ∧ ∃ (a56 : Option Addr) (l56 c56 : Nat), ∃ w4 : World, Ru (convert 9 32 (.string s55)) (drew w3) (.slice a56 l56 c56) w4 ∧ Ru (Instr.loadAt 49 (.pointer (some (Addr.add q39 0)))) w4 (.pointer p41) w4 ∧ Cal Try.prog F_leveeref02_Disk_Write #[.pointer p41, .int .i64 n1, .slice a56 l56 c56] w4 fun r57 w5 => ∃ n57 : Int, r57 = .int .i64 n57 ∧ K (.int .i64 n57) w5
 else
 ∃ q59 : Addr, (.pointer p0 : Value) = .pointer (some q59) ∧ ∃ p61 : Option Addr, Ru (Instr.loadAt 49 (.pointer (some (Addr.add q59 0)))) w3 (.pointer p61) w3 ∧ Cal Try.prog F_leveeref02_Disk_Write #[.pointer p61, .int .i64 n1, .slice a2 l2 c2] w3 fun r64 w6 => ∃ n64 : Int, r64 = .int .i64 n64 ∧ K (.int .i64 n64) w6))))
set_option maxRecDepth 100000 in
theorem C_leveeref10_Cache_Write (p0 : Option Addr) (n1 : Int) (a2 : Option Addr) (l2 c2 : Nat) (w0 : World) (K : Value → World → Prop) (h : D_leveeref10_Cache_Write p0 n1 a2 l2 c2 w0 K) : Cal Try.prog F_leveeref10_Cache_Write #[.pointer p0, .int .i64 n1, .slice a2 l2 c2] w0 K :=
 denF_sound (A := { S := [28], ty := [(28, 4)], raw := [] }) mixed Try.func72 (by kernel_rfl) (by kernel_rfl) ((show denF Try.prog _ Try.f72 _ w0 K = D_leveeref10_Cache_Write p0 n1 a2 l2 c2 w0 K by kernel_rfl).mpr h)

/- (levee.leveeref10.Cache).Pin: slots {};  -/
set_option maxRecDepth 100000 in
def D_leveeref10_Cache_Pin (p0 : Option Addr) (n1 : Int) (w0 : World) (K : Value → World → Prop) : Prop :=
 Cal Try.prog F_leveeref10_Cache_find #[.pointer p0, .int .i64 n1] w0 fun r8 w1 => ∃ n8 : Int, r8 = .int .i64 n8 ∧ (bif decide (n8 < 0) then
 K (.int .i64 20) w1
 else
 ∃ q12 : Addr, (.pointer p0 : Value) = .pointer (some q12) ∧ ∃ (a14 : Option Addr) (l14 c14 : Nat), Ru (Instr.loadAt 110 (.pointer (some (Addr.add q12 1)))) w1 (.slice a14 l14 c14) w1 ∧ ∃ q16 : Addr, Al (Instr.indexAt 110 (.slice a14 l14 c14) (.int .i64 n8)) (.pointer (some q16)) ∧ ∃ n18 : Int, Ru (Instr.loadAt 3 (.pointer (some (Addr.add q16 2)))) w1 (.int .i64 n18) w1 ∧ ∃ q20 : Addr, Al (Instr.indexAt 110 (.slice a14 l14 c14) (.int .i64 n8)) (.pointer (some q20)) ∧ ∃ w2 : World, RuU (Instr.storeAt 3 (.pointer (some (Addr.add q20 2))) (.int .i64 (IntKind.i64.wrap (n18 + 1)))) w1 w2 ∧ K (.int .i64 0) w2)
set_option maxRecDepth 100000 in
theorem C_leveeref10_Cache_Pin (p0 : Option Addr) (n1 : Int) (w0 : World) (K : Value → World → Prop) (h : D_leveeref10_Cache_Pin p0 n1 w0 K) : Cal Try.prog F_leveeref10_Cache_Pin #[.pointer p0, .int .i64 n1] w0 K :=
 denF_sound (A := { S := [], ty := [], raw := [] }) mixed Try.func73 (by kernel_rfl) (by kernel_rfl) ((show denF Try.prog _ Try.f73 _ w0 K = D_leveeref10_Cache_Pin p0 n1 w0 K by kernel_rfl).mpr h)

/- (levee.leveeref10.Cache).Unpin: slots {};  -/
set_option maxRecDepth 100000 in
def D_leveeref10_Cache_Unpin (p0 : Option Addr) (n1 : Int) (w0 : World) (K : Value → World → Prop) : Prop :=
 Cal Try.prog F_leveeref10_Cache_find #[.pointer p0, .int .i64 n1] w0 fun r8 w1 => ∃ n8 : Int, r8 = .int .i64 n8 ∧ (bif decide (n8 < 0) then
 K (.int .i64 20) w1
 else
 ∃ q12 : Addr, (.pointer p0 : Value) = .pointer (some q12) ∧ ∃ (a14 : Option Addr) (l14 c14 : Nat), Ru (Instr.loadAt 110 (.pointer (some (Addr.add q12 1)))) w1 (.slice a14 l14 c14) w1 ∧ ∃ q16 : Addr, Al (Instr.indexAt 110 (.slice a14 l14 c14) (.int .i64 n8)) (.pointer (some q16)) ∧ ∃ n18 : Int, Ru (Instr.loadAt 3 (.pointer (some (Addr.add q16 2)))) w1 (.int .i64 n18) w1 ∧ (bif n18 == 0 then
 K (.int .i64 6) w1
 else
 ∃ q21 : Addr, (.pointer p0 : Value) = .pointer (some q21) ∧ ∃ (a23 : Option Addr) (l23 c23 : Nat), Ru (Instr.loadAt 110 (.pointer (some (Addr.add q21 1)))) w1 (.slice a23 l23 c23) w1 ∧ ∃ q25 : Addr, Al (Instr.indexAt 110 (.slice a23 l23 c23) (.int .i64 n8)) (.pointer (some q25)) ∧ ∃ n27 : Int, Ru (Instr.loadAt 3 (.pointer (some (Addr.add q25 2)))) w1 (.int .i64 n27) w1 ∧ ∃ q29 : Addr, Al (Instr.indexAt 110 (.slice a23 l23 c23) (.int .i64 n8)) (.pointer (some q29)) ∧ ∃ w2 : World, RuU (Instr.storeAt 3 (.pointer (some (Addr.add q29 2))) (.int .i64 (IntKind.i64.wrap (n27 - 1)))) w1 w2 ∧ K (.int .i64 0) w2))
set_option maxRecDepth 100000 in
theorem C_leveeref10_Cache_Unpin (p0 : Option Addr) (n1 : Int) (w0 : World) (K : Value → World → Prop) (h : D_leveeref10_Cache_Unpin p0 n1 w0 K) : Cal Try.prog F_leveeref10_Cache_Unpin #[.pointer p0, .int .i64 n1] w0 K :=
 denF_sound (A := { S := [], ty := [], raw := [] }) mixed Try.func74 (by kernel_rfl) (by kernel_rfl) ((show denF Try.prog _ Try.f74 _ w0 K = D_leveeref10_Cache_Unpin p0 n1 w0 K by kernel_rfl).mpr h)

/- (levee.leveeref10.Cache).Drop: slots {};  -/
set_option maxRecDepth 100000 in
def D_leveeref10_Cache_Drop (p0 : Option Addr) (n1 : Int) (w0 : World) (K : Value → World → Prop) : Prop :=
 Cal Try.prog F_leveeref10_Cache_find #[.pointer p0, .int .i64 n1] w0 fun r8 w1 => ∃ n8 : Int, r8 = .int .i64 n8 ∧ (bif decide (n8 < 0) then
 K (.int .i64 20) w1
 else
 ∃ q12 : Addr, (.pointer p0 : Value) = .pointer (some q12) ∧ ∃ (a14 : Option Addr) (l14 c14 : Nat), Ru (Instr.loadAt 110 (.pointer (some (Addr.add q12 1)))) w1 (.slice a14 l14 c14) w1 ∧ ∃ q16 : Addr, Al (Instr.indexAt 110 (.slice a14 l14 c14) (.int .i64 n8)) (.pointer (some q16)) ∧ ∃ n18 : Int, Ru (Instr.loadAt 3 (.pointer (some (Addr.add q16 2)))) w1 (.int .i64 n18) w1 ∧ (bif decide (n18 > 0) then
 K (.int .i64 32) w1
 else
 Cal Try.prog F_leveeref10_Cache_take #[.pointer p0, .int .i64 n1] w1 fun r22 w2 => ∃ g22a : Array Value, ∃ b22b : Bool, r22 = .tuple #[.agg g22a, .bool b22b] ∧ K (.int .i64 0) w2))
set_option maxRecDepth 100000 in
theorem C_leveeref10_Cache_Drop (p0 : Option Addr) (n1 : Int) (w0 : World) (K : Value → World → Prop) (h : D_leveeref10_Cache_Drop p0 n1 w0 K) : Cal Try.prog F_leveeref10_Cache_Drop #[.pointer p0, .int .i64 n1] w0 K :=
 denF_sound (A := { S := [], ty := [], raw := [] }) mixed Try.func75 (by kernel_rfl) (by kernel_rfl) ((show denF Try.prog _ Try.f75 _ w0 K = D_leveeref10_Cache_Drop p0 n1 w0 K by kernel_rfl).mpr h)

/- (levee.leveeref10.Cache).find: slots {5: 'i'}; loop over [5] -/
set_option maxRecDepth 100000 in
def D_leveeref10_Cache_find (p0 : Option Addr) (n1 : Int) (w0 : World) (K : Value → World → Prop) : Prop :=
 LoopC (fun k x w1 =>
 ∃ n5 : Int, nth x 0 = .int .i64 n5 ∧ ∃ q8 : Addr, (.pointer p0 : Value) = .pointer (some q8) ∧ ∃ (a10 : Option Addr) (l10 c10 : Nat), Ru (Instr.loadAt 110 (.pointer (some (Addr.add q8 1)))) w1 (.slice a10 l10 c10) w1 ∧ (bif decide (n5 < (l10 : Int)) then
 ∃ q16 : Addr, (.pointer p0 : Value) = .pointer (some q16) ∧ ∃ (a18 : Option Addr) (l18 c18 : Nat), Ru (Instr.loadAt 110 (.pointer (some (Addr.add q16 1)))) w1 (.slice a18 l18 c18) w1 ∧ ∃ q20 : Addr, Al (Instr.indexAt 110 (.slice a18 l18 c18) (.int .i64 n5)) (.pointer (some q20)) ∧ ∃ n22 : Int, Ru (Instr.loadAt 3 (.pointer (some (Addr.add q20 0)))) w1 (.int .i64 n22) w1 ∧ (bif n22 == n1 then
 K (.int .i64 n5) w1
 else
 k [.int .i64 (IntKind.i64.wrap (n5 + 1))] w1)
 else
 K (.int .i64 ((-1))) w1)) [.int .i64 0] w0
set_option maxRecDepth 100000 in
theorem C_leveeref10_Cache_find (p0 : Option Addr) (n1 : Int) (w0 : World) (K : Value → World → Prop) (h : D_leveeref10_Cache_find p0 n1 w0 K) : Cal Try.prog F_leveeref10_Cache_find #[.pointer p0, .int .i64 n1] w0 K :=
 denF_sound (A := { S := [5], ty := [(5, 3)], raw := [] }) mixed Try.func78 (by kernel_rfl) (by kernel_rfl) ((show denF Try.prog _ Try.f78 _ w0 K = D_leveeref10_Cache_find p0 n1 w0 K by kernel_rfl).mpr h)

/- (levee.leveeref10.Cache).dirty: slots {};  -/
set_option maxRecDepth 100000 in
def D_leveeref10_Cache_dirty (p0 : Option Addr) (g1 : Array Value) (w0 : World) (K : Value → World → Prop) : Prop :=
 ∃ q3 : Addr, ∃ w1 : World, Ru (Instr.box 116 (.agg g1)) w0 (.pointer (some q3)) w1 ∧ ∃ q9 : Addr, (.pointer p0 : Value) = .pointer (some q9) ∧ ∃ p11 : Option Addr, Ru (Instr.loadAt 49 (.pointer (some (Addr.add q9 0)))) (drew w1) (.pointer p11) (drew w1) ∧ ∃ n13 : Int, Ru (Instr.loadAt 3 (.pointer (some (Addr.add q3 0)))) (drew w1) (.int .i64 n13) (drew w1) ∧ Cal Try.prog F_leveeref02_Disk_Read #[.pointer p11, .int .i64 n13] (drew w1) fun r14 w2 => ∃ (a14a : Option Addr) (l14a c14a : Nat), ∃ n14b : Int, r14 = .tuple #[.slice a14a l14a c14a, .int .i64 n14b] ∧ ∃ s18 : ByteArray, Ru (convert 32 9 (.slice a14a l14a c14a)) w2 (.string s18) w2 ∧ ∃ s20 : ByteArray, Ru (Instr.loadAt 9 (.pointer (some (Addr.add q3 1)))) w2 (.string s20) w2 ∧ K (.bool (!((ByteArray.toList s18) == (ByteArray.toList s20)))) w2
set_option maxRecDepth 100000 in
theorem C_leveeref10_Cache_dirty (p0 : Option Addr) (g1 : Array Value) (w0 : World) (K : Value → World → Prop) (h : D_leveeref10_Cache_dirty p0 g1 w0 K) : Cal Try.prog F_leveeref10_Cache_dirty #[.pointer p0, .agg g1] w0 K :=
 denF_sound (A := { S := [], ty := [], raw := [] }) mixed Try.func79 (by kernel_rfl) (by kernel_rfl) ((show denF Try.prog _ Try.f79 _ w0 K = D_leveeref10_Cache_dirty p0 g1 w0 K by kernel_rfl).mpr h)

/- (levee.leveeref10.Cache).ask: slots {9: 'gone', 10: 'i', 60: '', 83: ''}; loop over [9, 10, 60, 83] -/
set_option maxRecDepth 100000 in
def D_leveeref10_Cache_ask (p0 : Option Addr) (n1 : Int) (w0 : World) (K : Value → World → Prop) : Prop :=
 ∃ q13 : Addr, (.pointer p0 : Value) = .pointer (some q13) ∧ ∃ p15 : Option Addr, Ru (Instr.loadAt 49 (.pointer (some (Addr.add q13 0)))) w0 (.pointer p15) w0 ∧ Cal Try.prog F_leveeref02_Disk_Read #[.pointer p15, .int .i64 n1] w0 fun r17 w1 => ∃ (a17a : Option Addr) (l17a c17a : Nat), ∃ n17b : Int, r17 = .tuple #[.slice a17a l17a c17a, .int .i64 n17b] ∧ (bif n17b != 0 then
 K (.int .i64 n17b) w1
 else
 Cal Try.prog F_leveeref10_Cache_take #[.pointer p0, .int .i64 n1] w1 fun r26 w2 => ∃ g26a : Array Value, ∃ b26b : Bool, r26 = .tuple #[.agg g26a, .bool b26b] ∧ ∃ q7 : Addr, ∃ w3 : World, Ru (Instr.alloc 116 true (.tuple #[])) w2 (.pointer (some q7)) w3 ∧ ∃ w4 : World, RuU (Instr.storeAt 116 (.pointer (some q7)) (.agg g26a)) w3 w4 ∧ (bif b26b then
 ∃ q32 : Addr, (.pointer p0 : Value) = .pointer (some q32) ∧ ∃ (a34 : Option Addr) (l34 c34 : Nat), Ru (Instr.loadAt 110 (.pointer (some (Addr.add q32 1)))) (drew w4) (.slice a34 l34 c34) (drew w4) ∧ ∃ g35 : Array Value, Ru (Instr.loadAt 116 (.pointer (some q7))) (drew w4) (.agg g35) (drew w4) ∧ ∃ (a36 : Option Addr) (l36 c36 : Nat), ∃ w5 : World, Ru (Instr.buildSlice 110 1 #[(0, .agg g35)]) (drew w4) (.slice a36 l36 c36) w5 ∧ Ru (Instr.loadAt 110 (.pointer (some (Addr.add q32 1)))) w5 (.slice a34 l34 c34) w5 ∧ ∃ (a37 : Option Addr) (l37 c37 : Nat), ∃ w6 : World, Ru (Builtin.append_ #[110, 110] 110 #[.slice a34 l34 c34, .slice a36 l36 c36]) w5 (.slice a37 l37 c37) w6 ∧ ∃ q38 : Addr, (.pointer p0 : Value) = .pointer (some q38) ∧ ∃ w7 : World, RuU (Instr.storeAt 110 (.pointer (some (Addr.add q38 1))) (.slice a37 l37 c37)) w6 w7 ∧ K (.int .i64 0) w7
 else
 ∃ q41 : Addr, (.pointer p0 : Value) = .pointer (some q41) ∧ ∃ (a43 : Option Addr) (l43 c43 : Nat), Ru (Instr.loadAt 110 (.pointer (some (Addr.add q41 1)))) (drew w4) (.slice a43 l43 c43) (drew w4) ∧ ∃ q46 : Addr, (.pointer p0 : Value) = .pointer (some q46) ∧ ∃ n48 : Int, Ru (Instr.loadAt 3 (.pointer (some (Addr.add q46 2)))) (drew w4) (.int .i64 n48) (drew w4) ∧ Share (fun k => (bif decide ((l43 : Int) ≥ n48) then
 LoopC (fun k_2 x_2 w8 =>
 Share (fun k_3 => ∃ n10 : Int, nth x_2 1 = .int .i64 n10 ∧ ∃ q52 : Addr, (.pointer p0 : Value) = .pointer (some q52) ∧ ∃ (a54 : Option Addr) (l54 c54 : Nat), Ru (Instr.loadAt 110 (.pointer (some (Addr.add q52 1)))) w8 (.slice a54 l54 c54) w8 ∧ (bif decide (n10 < (l54 : Int)) then ∃ b9 : Bool, nth x_2 0 = .bool b9 ∧ k_3 [.bool (!b9)] w8 else k_3 [.bool false] w8)) fun x_3 w9 =>
 ∃ b60 : Bool, nth x_3 0 = .bool b60 ∧ (bif b60 then
 Share (fun k_4 => ∃ q64 : Addr, (.pointer p0 : Value) = .pointer (some q64) ∧ ∃ (a66 : Option Addr) (l66 c66 : Nat), Ru (Instr.loadAt 110 (.pointer (some (Addr.add q64 1)))) w9 (.slice a66 l66 c66) w9 ∧ ∃ n10_2 : Int, nth x_2 1 = .int .i64 n10_2 ∧ ∃ q68 : Addr, Al (Instr.indexAt 110 (.slice a66 l66 c66) (.int .i64 n10_2)) (.pointer (some q68)) ∧ ∃ n70 : Int, Ru (Instr.loadAt 3 (.pointer (some (Addr.add q68 2)))) w9 (.int .i64 n70) w9 ∧ (bif n70 == 0 then ∃ q75 : Addr, (.pointer p0 : Value) = .pointer (some q75) ∧ ∃ (a77 : Option Addr) (l77 c77 : Nat), Ru (Instr.loadAt 110 (.pointer (some (Addr.add q75 1)))) w9 (.slice a77 l77 c77) w9 ∧ ∃ q79 : Addr, Al (Instr.indexAt 110 (.slice a77 l77 c77) (.int .i64 n10_2)) (.pointer (some q79)) ∧ ∃ g80 : Array Value, Ru (Instr.loadAt 116 (.pointer (some q79))) w9 (.agg g80) w9 ∧ Cal Try.prog F_leveeref10_Cache_dirty #[.pointer p0, .agg g80] w9 fun r81 w10 => ∃ b81 : Bool, r81 = .bool b81 ∧ k_4 [.bool (!b81)] w10 else k_4 [.bool false] w9)) fun x_4 w11 =>
 ∃ b83 : Bool, nth x_4 0 = .bool b83 ∧ Share (fun k_5 => (bif b83 then
 ∃ q86 : Addr, (.pointer p0 : Value) = .pointer (some q86) ∧ ∃ (a88 : Option Addr) (l88 c88 : Nat), Ru (Instr.loadAt 110 (.pointer (some (Addr.add q86 1)))) w11 (.slice a88 l88 c88) w11 ∧ ∃ n10_3 : Int, nth x_2 1 = .int .i64 n10_3 ∧ ∃ q90 : Addr, Al (Instr.indexAt 110 (.slice a88 l88 c88) (.int .i64 n10_3)) (.pointer (some q90)) ∧ ∃ n92 : Int, Ru (Instr.loadAt 3 (.pointer (some (Addr.add q90 0)))) w11 (.int .i64 n92) w11 ∧ Cal Try.prog F_leveeref10_Cache_take #[.pointer p0, .int .i64 n92] w11 fun r93 w12 => ∃ g93a : Array Value, ∃ b93b : Bool, r93 = .tuple #[.agg g93a, .bool b93b] ∧ k_5 [.bool true] w12
 else
 k_5 [nth x_2 0] w11)) fun x_5 w13 =>
 ∃ n10_4 : Int, nth x_2 1 = .int .i64 n10_4 ∧ k_2 [nth x_5 0, .int .i64 (IntKind.i64.wrap (n10_4 + 1)), .bool b60, .bool b83] w13
 else
 ∃ b9_2 : Bool, nth x_2 0 = .bool b9_2 ∧ (bif !b9_2 then
 K (.int .i64 5) w9
 else
 k [.bool b9_2, nth x_2 1, .bool b60, nth x_2 3] w9))) [.bool false, .int .i64 0, undef, undef] (drew w4)
 else
 k [undef, undef, undef, undef] (drew w4))) fun x w14 =>
 ∃ q98 : Addr, (.pointer p0 : Value) = .pointer (some q98) ∧ ∃ (a100 : Option Addr) (l100 c100 : Nat), Ru (Instr.loadAt 110 (.pointer (some (Addr.add q98 1)))) (drew w14) (.slice a100 l100 c100) (drew w14) ∧ ∃ s103 : ByteArray, Ru (convert 32 9 (.slice a17a l17a c17a)) (drew w14) (.string s103) (drew w14) ∧ ∃ g104 : Array Value, Al (Instr.build 116 #[(0, .int .i64 n1), (1, .string s103)]) (.agg g104) ∧ ∃ (a105 : Option Addr) (l105 c105 : Nat), ∃ w15 : World, Ru (Instr.buildSlice 110 1 #[(0, .agg g104)]) (drew w14) (.slice a105 l105 c105) w15 ∧ Ru (Instr.loadAt 110 (.pointer (some (Addr.add q98 1)))) w15 (.slice a100 l100 c100) w15 ∧ ∃ (a106 : Option Addr) (l106 c106 : Nat), ∃ w16 : World, Ru (Builtin.append_ #[110, 110] 110 #[.slice a100 l100 c100, .slice a105 l105 c105]) w15 (.slice a106 l106 c106) w16 ∧ ∃ q107 : Addr, (.pointer p0 : Value) = .pointer (some q107) ∧ ∃ w17 : World, RuU (Instr.storeAt 110 (.pointer (some (Addr.add q107 1))) (.slice a106 l106 c106)) w16 w17 ∧ K (.int .i64 0) w17))
set_option maxRecDepth 100000 in
theorem C_leveeref10_Cache_ask (p0 : Option Addr) (n1 : Int) (w0 : World) (K : Value → World → Prop) (h : D_leveeref10_Cache_ask p0 n1 w0 K) : Cal Try.prog F_leveeref10_Cache_ask #[.pointer p0, .int .i64 n1] w0 K :=
 denF_sound (A := { S := [9, 10, 60, 83], ty := [(9, 4), (10, 3), (60, 4), (83, 4)], raw := [] }) mixed Try.func108 (by kernel_rfl) (by kernel_rfl) ((show denF Try.prog _ Try.f108 _ w0 K = D_leveeref10_Cache_ask p0 n1 w0 K by kernel_rfl).mpr h)

/- (levee.leveeref10.Cache).take: slots {6: 'out', 8: 'there', 9: 'i'}; loop over [6, 8, 9] -/
set_option maxRecDepth 100000 in
def D_leveeref10_Cache_take (p0 : Option Addr) (n1 : Int) (w0 : World) (K : Value → World → Prop) : Prop :=
 ∃ q4 : Addr, ∃ w1 : World, Ru (Instr.alloc 116 true (.tuple #[])) w0 (.pointer (some q4)) w1 ∧ ∃ q7 : Addr, ∃ w2 : World, Ru (Instr.alloc 116 true (.tuple #[])) w1 (.pointer (some q7)) w2 ∧ LoopC (fun k x w3 =>
 ∃ n9 : Int, nth x 2 = .int .i64 n9 ∧ ∃ q12 : Addr, (.pointer p0 : Value) = .pointer (some q12) ∧ ∃ (a14 : Option Addr) (l14 c14 : Nat), Ru (Instr.loadAt 110 (.pointer (some (Addr.add q12 1)))) w3 (.slice a14 l14 c14) w3 ∧ (bif decide (n9 < (l14 : Int)) then
 ∃ q20 : Addr, (.pointer p0 : Value) = .pointer (some q20) ∧ ∃ (a22 : Option Addr) (l22 c22 : Nat), Ru (Instr.loadAt 110 (.pointer (some (Addr.add q20 1)))) w3 (.slice a22 l22 c22) w3 ∧ ∃ q24 : Addr, Al (Instr.indexAt 110 (.slice a22 l22 c22) (.int .i64 n9)) (.pointer (some q24)) ∧ ∃ n26 : Int, Ru (Instr.loadAt 3 (.pointer (some (Addr.add q24 0)))) w3 (.int .i64 n26) w3 ∧ Share (fun k_2 => (bif n26 == n1 then
 ∃ q30 : Addr, (.pointer p0 : Value) = .pointer (some q30) ∧ ∃ (a32 : Option Addr) (l32 c32 : Nat), Ru (Instr.loadAt 110 (.pointer (some (Addr.add q30 1)))) w3 (.slice a32 l32 c32) w3 ∧ ∃ q34 : Addr, Al (Instr.indexAt 110 (.slice a32 l32 c32) (.int .i64 n9)) (.pointer (some q34)) ∧ ∃ g35 : Array Value, Ru (Instr.loadAt 116 (.pointer (some q34))) w3 (.agg g35) w3 ∧ ∃ w4 : World, RuU (Instr.storeAt 116 (.pointer (some q7)) (.agg g35)) w3 w4 ∧ k_2 [nth x 0, .bool true] w4
 else
 ∃ (a6 : Option Addr) (l6 c6 : Nat), nth x 0 = .slice a6 l6 c6 ∧ ∃ q38 : Addr, (.pointer p0 : Value) = .pointer (some q38) ∧ ∃ (a40 : Option Addr) (l40 c40 : Nat), Ru (Instr.loadAt 110 (.pointer (some (Addr.add q38 1)))) w3 (.slice a40 l40 c40) w3 ∧ ∃ q42 : Addr, Al (Instr.indexAt 110 (.slice a40 l40 c40) (.int .i64 n9)) (.pointer (some q42)) ∧ ∃ g43 : Array Value, Ru (Instr.loadAt 116 (.pointer (some q42))) w3 (.agg g43) w3 ∧ ∃ (a44 : Option Addr) (l44 c44 : Nat), ∃ w5 : World, Ru (Instr.buildSlice 110 1 #[(0, .agg g43)]) w3 (.slice a44 l44 c44) w5 ∧ ∃ (a45 : Option Addr) (l45 c45 : Nat), ∃ w6 : World, Ru (Builtin.append_ #[110, 110] 110 #[.slice a6 l6 c6, .slice a44 l44 c44]) w5 (.slice a45 l45 c45) w6 ∧ k_2 [.slice a45 l45 c45, nth x 1] w6)) fun x_2 w7 =>
 k [nth x_2 0, nth x_2 1, .int .i64 (IntKind.i64.wrap (n9 + 1))] w7
 else
 ∃ (a6_2 : Option Addr) (l6_2 c6_2 : Nat), nth x 0 = .slice a6_2 l6_2 c6_2 ∧ ∃ q48 : Addr, (.pointer p0 : Value) = .pointer (some q48) ∧ ∃ w8 : World, RuU (Instr.storeAt 110 (.pointer (some (Addr.add q48 1))) (.slice a6_2 l6_2 c6_2)) w3 w8 ∧ ∃ g50 : Array Value, Ru (Instr.loadAt 116 (.pointer (some q7))) w8 (.agg g50) w8 ∧ ∃ b8 : Bool, nth x 1 = .bool b8 ∧ ∃ w9 : World, RuU (Instr.storeAt 116 (.pointer (some q4)) (.agg g50)) w8 w9 ∧ ∃ gR4 : Array Value, Ru (Instr.loadAt 116 (.pointer (some q4))) w9 (.agg gR4) w9 ∧ K (.tuple #[.agg gR4, .bool b8]) w9)) [.slice none 0 0, .bool false, .int .i64 0] w2
set_option maxRecDepth 100000 in
theorem C_leveeref10_Cache_take (p0 : Option Addr) (n1 : Int) (w0 : World) (K : Value → World → Prop) (h : D_leveeref10_Cache_take p0 n1 w0 K) : Cal Try.prog F_leveeref10_Cache_take #[.pointer p0, .int .i64 n1] w0 K :=
 denF_sound (A := { S := [6, 8, 9], ty := [(6, 110), (8, 4), (9, 3)], raw := [] }) mixed Try.func111 (by kernel_rfl) (by kernel_rfl) ((show denF Try.prog _ Try.f111 _ w0 K = D_leveeref10_Cache_take p0 n1 w0 K by kernel_rfl).mpr h)

end Go.Proofs.Ytgcecmfjpljpcaa
