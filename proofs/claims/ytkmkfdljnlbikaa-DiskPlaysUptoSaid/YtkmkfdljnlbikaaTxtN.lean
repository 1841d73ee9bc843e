/- What functions of the translation come to, as printed by a program of this session. -/
import Derived.Test.YtkmkfdljnlbikaaIds
open Go Go.Den Go.Proofs
namespace Go.Proofs.Ytkmkfdljnlbikaa

/- (levee.disk.Disk).Stop: slots {};  -/
set_option maxRecDepth 100000 in
def D_disk_Disk_Stop (p0 : Option Addr) (n1 : Int) (w0 : World) (K : Value → World → Prop) : Prop :=
 Share (fun k => (bif !(Option.isNone p0) then
 ∃ q9 : Addr, (.pointer p0 : Value) = .pointer (some q9) ∧ ∃ w1 : World, RuU (Instr.storeAt 3 (.pointer (some (Addr.add q9 2))) (.int .i64 (if 0 > n1 then 0 else n1))) w0 w1 ∧ k [] w1
 else
 k [] w0)) fun x w2 =>
 K (.tuple #[]) w2
set_option maxRecDepth 100000 in
theorem C_disk_Disk_Stop (p0 : Option Addr) (n1 : Int) (w0 : World) (K : Value → World → Prop) (h : D_disk_Disk_Stop p0 n1 w0 K) : Cal Try.prog F_disk_Disk_Stop #[.pointer p0, .int .i64 n1] w0 K :=
 denF_sound (A := { S := [], ty := [], raw := [] }) mixed Try.func68 (by kernel_rfl) (by kernel_rfl) ((show denF Try.prog _ Try.f68 _ w0 K = D_disk_Disk_Stop p0 n1 w0 K by kernel_rfl).mpr h)

/- (levee.disk.Disk).Stopped: slots {2: ''};  -/
set_option maxRecDepth 100000 in
def D_disk_Disk_Stopped (p0 : Option Addr) (w0 : World) (K : Value → World → Prop) : Prop :=
 Share (fun k => (bif !(Option.isNone p0) then ∃ q7 : Addr, (.pointer p0 : Value) = .pointer (some q7) ∧ ∃ n9 : Int, Ru (Instr.loadAt 3 (.pointer (some (Addr.add q7 2)))) w0 (.int .i64 n9) w0 ∧ k [.bool (n9 == 0)] w0 else k [.bool false] w0)) fun x w1 =>
 ∃ b2 : Bool, nth x 0 = .bool b2 ∧ K (.bool b2) w1
set_option maxRecDepth 100000 in
theorem C_disk_Disk_Stopped (p0 : Option Addr) (w0 : World) (K : Value → World → Prop) (h : D_disk_Disk_Stopped p0 w0 K) : Cal Try.prog F_disk_Disk_Stopped #[.pointer p0] w0 K :=
 denF_sound (A := { S := [2], ty := [(2, 4)], raw := [] }) mixed Try.func61 (by kernel_rfl) (by kernel_rfl) ((show denF Try.prog _ Try.f61 _ w0 K = D_disk_Disk_Stopped p0 w0 K by kernel_rfl).mpr h)

/- (levee.disk.Disk).Copy: slots {}; loop over []; loop over [] -/
set_option maxRecDepth 100000 in
def D_disk_Disk_Copy (p0 : Option Addr) (w0 : World) (K : Value → World → Prop) : Prop :=
 (bif Option.isNone p0 then
 K (.pointer none) w0
 else
 ∃ q9 : Addr, (.pointer p0 : Value) = .pointer (some q9) ∧ ∃ (a11 : Option Addr) (l11 c11 : Nat), Ru (Instr.loadAt 83 (.pointer (some (Addr.add q9 0)))) (drew w0) (.slice a11 l11 c11) (drew w0) ∧ ∃ q15 : Addr, (.pointer p0 : Value) = .pointer (some q15) ∧ ∃ n17 : Int, Ru (Instr.loadAt 3 (.pointer (some (Addr.add q15 2)))) (drew w0) (.int .i64 n17) (drew w0) ∧ (Cal Try.prog F_slices_Clone_disk_block #[.slice a11 l11 c11] (drew w0) fun r12 w1 => ∃ (a12 : Option Addr) (l12 c12 : Nat), r12 = .slice a12 l12 c12 ∧ Ru (Instr.loadAt 3 (.pointer (some (Addr.add q15 2)))) w1 (.int .i64 n17) w1 ∧ ∃ m13 : Option Nat, ∃ w2 : World, Ru (Instr.makeMap 84 none) w1 (.map m13) w2 ∧ Ru (Instr.loadAt 83 (.pointer (some (Addr.add q9 0)))) w2 (.slice a11 l11 c11) w2 ∧ Ru (Instr.loadAt 3 (.pointer (some (Addr.add q15 2)))) w2 (.int .i64 n17) w2 ∧ ∃ g18 : Array Value, Al (Instr.build 86 #[(0, .slice a12 l12 c12), (1, .map m13), (2, .int .i64 n17)]) (.agg g18) ∧ ∃ q19 : Addr, ∃ w3 : World, Ru (Instr.box 86 (.agg g18)) w2 (.pointer (some q19)) w3 ∧ ∃ q21 : Addr, (.pointer p0 : Value) = .pointer (some q21) ∧ ∃ m23 : Option Nat, Ru (Instr.loadAt 84 (.pointer (some (Addr.add q21 1)))) w3 (.map m23) w3 ∧ ∃ q24 : Addr, ∃ w4 : World, Ru (Instr.range 84 (.map m23)) w3 (.pointer (some q24)) w4 ∧ LoopC (fun k x w5 =>
 ∃ v25 : Value, ∃ w6 : World, Ru (Instr.next (.pointer (some q24)) false 0) w5 v25 w6 ∧ ∃ b26 : Bool, Al (Instr.extract v25 0) (.bool b26) ∧ (bif b26 then
 ∃ v27 : Value, Ru (Instr.entry (.pointer (some q24))) w6 v27 w6 ∧ ∃ n28 : Int, Al (Instr.extract v27 0) (.int .i64 n28) ∧ ∃ (a29 : Option Addr) (l29 c29 : Nat), Al (Instr.extract v27 1) (.slice a29 l29 c29) ∧ ∃ q31 : Addr, (.pointer (some q19) : Value) = .pointer (some q31) ∧ ∃ m33 : Option Nat, Ru (Instr.loadAt 84 (.pointer (some (Addr.add q31 1)))) w6 (.map m33) w6 ∧ ∃ w7 : World, RuU (Instr.mapUpdate 84 (.map m33) (.int .i64 n28) (.slice a29 l29 c29)) w6 w7 ∧ k [] w7
 else
 K (.pointer (some q19)) w6)) [] w4) ∧ (∃ m13_2 : Option Nat, ∃ w8 : World, Ru (Instr.makeMap 84 none) (drew w0) (.map m13_2) w8 ∧ Ru (Instr.loadAt 83 (.pointer (some (Addr.add q9 0)))) w8 (.slice a11 l11 c11) w8 ∧ Ru (Instr.loadAt 3 (.pointer (some (Addr.add q15 2)))) w8 (.int .i64 n17) w8 ∧ Cal Try.prog F_slices_Clone_disk_block #[.slice a11 l11 c11] w8 fun r12_2 w9 => ∃ (a12_2 : Option Addr) (l12_2 c12_2 : Nat), r12_2 = .slice a12_2 l12_2 c12_2 ∧ Ru (Instr.loadAt 3 (.pointer (some (Addr.add q15 2)))) w9 (.int .i64 n17) w9 ∧ ∃ g18_2 : Array Value, Al (Instr.build 86 #[(0, .slice a12_2 l12_2 c12_2), (1, .map m13_2), (2, .int .i64 n17)]) (.agg g18_2) ∧ ∃ q19_2 : Addr, ∃ w10 : World, Ru (Instr.box 86 (.agg g18_2)) w9 (.pointer (some q19_2)) w10 ∧ ∃ q21_2 : Addr, (.pointer p0 : Value) = .pointer (some q21_2) ∧ ∃ m23_2 : Option Nat, Ru (Instr.loadAt 84 (.pointer (some (Addr.add q21_2 1)))) w10 (.map m23_2) w10 ∧ ∃ q24_2 : Addr, ∃ w11 : World, Ru (Instr.range 84 (.map m23_2)) w10 (.pointer (some q24_2)) w11 ∧ LoopC (fun k_2 x_2 w12 =>
 ∃ v25_2 : Value, ∃ w13 : World, Ru (Instr.next (.pointer (some q24_2)) false 0) w12 v25_2 w13 ∧ ∃ b26_2 : Bool, Al (Instr.extract v25_2 0) (.bool b26_2) ∧ (bif b26_2 then
 ∃ v27_2 : Value, Ru (Instr.entry (.pointer (some q24_2))) w13 v27_2 w13 ∧ ∃ n28_2 : Int, Al (Instr.extract v27_2 0) (.int .i64 n28_2) ∧ ∃ (a29_2 : Option Addr) (l29_2 c29_2 : Nat), Al (Instr.extract v27_2 1) (.slice a29_2 l29_2 c29_2) ∧ ∃ q31_2 : Addr, (.pointer (some q19_2) : Value) = .pointer (some q31_2) ∧ ∃ m33_2 : Option Nat, Ru (Instr.loadAt 84 (.pointer (some (Addr.add q31_2 1)))) w13 (.map m33_2) w13 ∧ ∃ w14 : World, RuU (Instr.mapUpdate 84 (.map m33_2) (.int .i64 n28_2) (.slice a29_2 l29_2 c29_2)) w13 w14 ∧ k_2 [] w14
 else
 K (.pointer (some q19_2)) w13)) [] w11))
set_option maxRecDepth 100000 in
theorem C_disk_Disk_Copy (p0 : Option Addr) (w0 : World) (K : Value → World → Prop) (h : D_disk_Disk_Copy p0 w0 K) : Cal Try.prog F_disk_Disk_Copy #[.pointer p0] w0 K :=
 denF_sound (A := { S := [], ty := [], raw := [25, 27] }) mixed Try.func40 (by kernel_rfl) (by kernel_rfl) ((show denF Try.prog _ Try.f40 _ w0 K = D_disk_Disk_Copy p0 w0 K by kernel_rfl).mpr h)

/- (levee.disk.Disk).Bytes: slots {3: 'out', 8: ''}; loop over [3, 8] -/
set_option maxRecDepth 100000 in
def D_disk_Disk_Bytes (p0 : Option Addr) (w0 : World) (K : Value → World → Prop) : Prop :=
 Cal Try.prog F_disk_Disk_Len #[.pointer p0] w0 fun r7 w1 => ∃ n7 : Int, r7 = .int .i64 n7 ∧ LoopC (fun k x w2 =>
 ∃ n8 : Int, nth x 1 = .int .i64 n8 ∧ (bif decide (n8 < n7) then
 Cal Try.prog F_disk_Disk_last #[.pointer p0, .int .i64 n8] w2 fun r13 w3 => ∃ g13 : Array Value, r13 = .agg g13 ∧ ∃ q5 : Addr, ∃ w4 : World, Ru (Instr.alloc 89 true (.tuple #[])) w3 (.pointer (some q5)) w4 ∧ ∃ w5 : World, RuU (Instr.storeAt 89 (.pointer (some q5)) (.agg g13)) w4 w5 ∧ ∃ (a3 : Option Addr) (l3 c3 : Nat), nth x 0 = .slice a3 l3 c3 ∧ ∃ (a15 : Option Addr) (l15 c15 : Nat), Al (Instr.sliceAt 89 (.pointer (some q5)) none none none) (.slice a15 l15 c15) ∧ ∃ (a16 : Option Addr) (l16 c16 : Nat), ∃ w6 : World, Ru (Builtin.append_ #[40, 40] 40 #[.slice a3 l3 c3, .slice a15 l15 c15]) w5 (.slice a16 l16 c16) w6 ∧ k [.slice a16 l16 c16, .int .i64 (IntKind.i64.wrap (n8 + 1))] w6
 else
 ∃ (a3_2 : Option Addr) (l3_2 c3_2 : Nat), nth x 0 = .slice a3_2 l3_2 c3_2 ∧ K (.slice a3_2 l3_2 c3_2) w2)) [.slice none 0 0, .int .i64 0] w1
set_option maxRecDepth 100000 in
theorem C_disk_Disk_Bytes (p0 : Option Addr) (w0 : World) (K : Value → World → Prop) (h : D_disk_Disk_Bytes p0 w0 K) : Cal Try.prog F_disk_Disk_Bytes #[.pointer p0] w0 K :=
 denF_sound (A := { S := [3, 8], ty := [(3, 40), (8, 3)], raw := [] }) mixed Try.func37 (by kernel_rfl) (by kernel_rfl) ((show denF Try.prog _ Try.f37 _ w0 K = D_disk_Disk_Bytes p0 w0 K by kernel_rfl).mpr h)

end Go.Proofs.Ytkmkfdljnlbikaa
