/- What functions of the translation come to, as printed by a program of this session. -/
import Derived.Test.YtkmkfdljnlbikaaIds
open Go Go.Den Go.Proofs
namespace Go.Proofs.Ytkmkfdljnlbikaa

/- (levee.disk.Disk).may: slots {8: ''};  -/
set_option maxRecDepth 100000 in
def D_disk_Disk_may (p0 : Option Addr) (n1 : Int) (w0 : World) (K : Value → World → Prop) : Prop :=
 (bif Option.isNone p0 then
 K (.int .i64 2) w0
 else
 Share (fun k => (bif decide (n1 < 0) then k [.bool true] w0 else ∃ q14 : Addr, (.pointer p0 : Value) = .pointer (some q14) ∧ ∃ (a16 : Option Addr) (l16 c16 : Nat), Ru (Instr.loadAt 83 (.pointer (some (Addr.add q14 0)))) w0 (.slice a16 l16 c16) w0 ∧ k [.bool (decide (n1 ≥ (l16 : Int)))] w0)) fun x w1 =>
 ∃ b8 : Bool, nth x 0 = .bool b8 ∧ (bif b8 then
 K (.int .i64 3) w1
 else
 K (.int .i64 0) w1))
set_option maxRecDepth 100000 in
theorem C_disk_Disk_may (p0 : Option Addr) (n1 : Int) (w0 : World) (K : Value → World → Prop) (h : D_disk_Disk_may p0 n1 w0 K) : Cal Try.prog F_disk_Disk_may #[.pointer p0, .int .i64 n1] w0 K :=
 denF_sound (A := { S := [8], ty := [(8, 4)], raw := [] }) mixed Try.func52 (by kernel_rfl) (by kernel_rfl) ((show denF Try.prog _ Try.f52 _ w0 K = D_disk_Disk_may p0 n1 w0 K by kernel_rfl).mpr h)

/- (levee.disk.Disk).goes: slots {};  -/
set_option maxRecDepth 100000 in
def D_disk_Disk_goes (p0 : Option Addr) (w0 : World) (K : Value → World → Prop) : Prop :=
 ∃ q4 : Addr, (.pointer p0 : Value) = .pointer (some q4) ∧ ∃ n6 : Int, Ru (Instr.loadAt 3 (.pointer (some (Addr.add q4 2)))) w0 (.int .i64 n6) w0 ∧ (bif n6 == 0 then
 K (.bool false) w0
 else
 ∃ q10 : Addr, (.pointer p0 : Value) = .pointer (some q10) ∧ ∃ n12 : Int, Ru (Instr.loadAt 3 (.pointer (some (Addr.add q10 2)))) w0 (.int .i64 n12) w0 ∧ ∃ q15 : Addr, (.pointer p0 : Value) = .pointer (some q15) ∧ ∃ w1 : World, RuU (Instr.storeAt 3 (.pointer (some (Addr.add q15 2))) (.int .i64 (if (-1) > (IntKind.i64.wrap (n12 - 1)) then (-1) else (IntKind.i64.wrap (n12 - 1))))) w0 w1 ∧ K (.bool true) w1)
set_option maxRecDepth 100000 in
theorem C_disk_Disk_goes (p0 : Option Addr) (w0 : World) (K : Value → World → Prop) (h : D_disk_Disk_goes p0 w0 K) : Cal Try.prog F_disk_Disk_goes #[.pointer p0] w0 K :=
 denF_sound (A := { S := [], ty := [], raw := [] }) mixed Try.func53 (by kernel_rfl) (by kernel_rfl) ((show denF Try.prog _ Try.f53 _ w0 K = D_disk_Disk_goes p0 w0 K by kernel_rfl).mpr h)

/- (levee.disk.Disk).last: slots {};  -/
set_option maxRecDepth 100000 in
def D_disk_Disk_last (p0 : Option Addr) (n1 : Int) (w0 : World) (K : Value → World → Prop) : Prop :=
 ∃ q4 : Addr, ∃ w1 : World, Ru (Instr.alloc 89 true (.tuple #[])) w0 (.pointer (some q4)) w1 ∧ ∃ q7 : Addr, (.pointer p0 : Value) = .pointer (some q7) ∧ ∃ m9 : Option Nat, Ru (Instr.loadAt 84 (.pointer (some (Addr.add q7 1)))) w1 (.map m9) w1 ∧ ∃ (a11 : Option Addr) (l11 c11 : Nat), Ru (Instr.lookup 84 (.map m9) (.int .i64 n1) false) w1 (.slice a11 l11 c11) w1 ∧ (bif decide ((l11 : Int) > 0) then
 ∃ q19 : Addr, Al (Instr.indexAt 83 (.slice a11 l11 c11) (.int .i64 (IntKind.i64.wrap ((l11 : Int) - 1)))) (.pointer (some q19)) ∧ ∃ g20 : Array Value, Ru (Instr.loadAt 89 (.pointer (some q19))) w1 (.agg g20) w1 ∧ ∃ w2 : World, RuU (Instr.storeAt 89 (.pointer (some q4)) (.agg g20)) w1 w2 ∧ ∃ gR4 : Array Value, Ru (Instr.loadAt 89 (.pointer (some q4))) w2 (.agg gR4) w2 ∧ K (.agg gR4) w2
 else
 ∃ q22 : Addr, (.pointer p0 : Value) = .pointer (some q22) ∧ ∃ (a24 : Option Addr) (l24 c24 : Nat), Ru (Instr.loadAt 83 (.pointer (some (Addr.add q22 0)))) w1 (.slice a24 l24 c24) w1 ∧ ∃ q26 : Addr, Al (Instr.indexAt 83 (.slice a24 l24 c24) (.int .i64 n1)) (.pointer (some q26)) ∧ ∃ g27 : Array Value, Ru (Instr.loadAt 89 (.pointer (some q26))) w1 (.agg g27) w1 ∧ ∃ w3 : World, RuU (Instr.storeAt 89 (.pointer (some q4)) (.agg g27)) w1 w3 ∧ ∃ gR4_2 : Array Value, Ru (Instr.loadAt 89 (.pointer (some q4))) w3 (.agg gR4_2) w3 ∧ K (.agg gR4_2) w3)
set_option maxRecDepth 100000 in
theorem C_disk_Disk_last (p0 : Option Addr) (n1 : Int) (w0 : World) (K : Value → World → Prop) (h : D_disk_Disk_last p0 n1 w0 K) : Cal Try.prog F_disk_Disk_last #[.pointer p0, .int .i64 n1] w0 K :=
 denF_sound (A := { S := [], ty := [], raw := [] }) mixed Try.func55 (by kernel_rfl) (by kernel_rfl) ((show denF Try.prog _ Try.f55 _ w0 K = D_disk_Disk_last p0 n1 w0 K by kernel_rfl).mpr h)

/- (levee.disk.Disk).Read: slots {};  -/
set_option maxRecDepth 100000 in
def D_disk_Disk_Read (p0 : Option Addr) (n1 : Int) (w0 : World) (K : Value → World → Prop) : Prop :=
 Cal Try.prog F_disk_Disk_may #[.pointer p0, .int .i64 n1] w0 fun r10 w1 => ∃ n10 : Int, r10 = .int .i64 n10 ∧ (bif n10 != 0 then
 K (.tuple #[.slice none 0 0, .int .i64 n10]) w1
 else
 Cal Try.prog F_disk_Disk_last #[.pointer p0, .int .i64 n1] w1 fun r16 w2 => ∃ g16 : Array Value, r16 = .agg g16 ∧ ∃ q7 : Addr, ∃ w3 : World, Ru (Instr.alloc 89 true (.tuple #[])) w2 (.pointer (some q7)) w3 ∧ ∃ w4 : World, RuU (Instr.storeAt 89 (.pointer (some q7)) (.agg g16)) w3 w4 ∧ ∃ (a17 : Option Addr) (l17 c17 : Nat), Al (Instr.sliceAt 89 (.pointer (some q7)) none none none) (.slice a17 l17 c17) ∧ K (.tuple #[.slice a17 l17 c17, .int .i64 0]) w4)
set_option maxRecDepth 100000 in
theorem C_disk_Disk_Read (p0 : Option Addr) (n1 : Int) (w0 : World) (K : Value → World → Prop) (h : D_disk_Disk_Read p0 n1 w0 K) : Cal Try.prog F_disk_Disk_Read #[.pointer p0, .int .i64 n1] w0 K :=
 denF_sound (A := { S := [], ty := [], raw := [] }) mixed Try.func34 (by kernel_rfl) (by kernel_rfl) ((show denF Try.prog _ Try.f34 _ w0 K = D_disk_Disk_Read p0 n1 w0 K by kernel_rfl).mpr h)

/- (levee.disk.Disk).Safe: slots {};  -/
set_option maxRecDepth 100000 in
def D_disk_Disk_Safe (p0 : Option Addr) (n1 : Int) (w0 : World) (K : Value → World → Prop) : Prop :=
 Cal Try.prog F_disk_Disk_may #[.pointer p0, .int .i64 n1] w0 fun r10 w1 => ∃ n10 : Int, r10 = .int .i64 n10 ∧ (bif n10 != 0 then
 K (.tuple #[.slice none 0 0, .int .i64 n10]) w1
 else
 ∃ q15 : Addr, (.pointer p0 : Value) = .pointer (some q15) ∧ ∃ (a17 : Option Addr) (l17 c17 : Nat), Ru (Instr.loadAt 83 (.pointer (some (Addr.add q15 0)))) w1 (.slice a17 l17 c17) w1 ∧ ∃ q19 : Addr, Al (Instr.indexAt 83 (.slice a17 l17 c17) (.int .i64 n1)) (.pointer (some q19)) ∧ ∃ g20 : Array Value, Ru (Instr.loadAt 89 (.pointer (some q19))) w1 (.agg g20) w1 ∧ ∃ q7 : Addr, ∃ w2 : World, Ru (Instr.alloc 89 true (.tuple #[])) w1 (.pointer (some q7)) w2 ∧ ∃ w3 : World, RuU (Instr.storeAt 89 (.pointer (some q7)) (.agg g20)) w2 w3 ∧ ∃ (a21 : Option Addr) (l21 c21 : Nat), Al (Instr.sliceAt 89 (.pointer (some q7)) none none none) (.slice a21 l21 c21) ∧ K (.tuple #[.slice a21 l21 c21, .int .i64 0]) w3)
set_option maxRecDepth 100000 in
theorem C_disk_Disk_Safe (p0 : Option Addr) (n1 : Int) (w0 : World) (K : Value → World → Prop) (h : D_disk_Disk_Safe p0 n1 w0 K) : Cal Try.prog F_disk_Disk_Safe #[.pointer p0, .int .i64 n1] w0 K :=
 denF_sound (A := { S := [], ty := [], raw := [] }) mixed Try.func57 (by kernel_rfl) (by kernel_rfl) ((show denF Try.prog _ Try.f57 _ w0 K = D_disk_Disk_Safe p0 n1 w0 K by kernel_rfl).mpr h)

/- (levee.disk.Disk).Write: slots {};  -/
set_option maxRecDepth 100000 in
def D_disk_Disk_Write (p0 : Option Addr) (n1 : Int) (a2 : Option Addr) (l2 c2 : Nat) (w0 : World) (K : Value → World → Prop) : Prop :=
 Cal Try.prog F_disk_Disk_may #[.pointer p0, .int .i64 n1] w0 fun r11 w1 => ∃ n11 : Int, r11 = .int .i64 n11 ∧ (bif n11 != 0 then
 K (.int .i64 n11) w1
 else
 (bif (l2 : Int) != 256 then
 K (.int .i64 4) w1
 else
 ∃ q21 : Addr, (.pointer p0 : Value) = .pointer (some q21) ∧ ∃ m23 : Option Nat, Ru (Instr.loadAt 84 (.pointer (some (Addr.add q21 1)))) w1 (.map m23) w1 ∧ ∃ (a25 : Option Addr) (l25 c25 : Nat), Ru (Instr.lookup 84 (.map m23) (.int .i64 n1) false) w1 (.slice a25 l25 c25) w1 ∧ Cal Try.prog F_disk_Disk_goes #[.pointer p0] w1 fun r27 w2 => ∃ b27 : Bool, r27 = .bool b27 ∧ Share (fun k => (bif b27 then
 ∃ q29 : Addr, (.pointer p0 : Value) = .pointer (some q29) ∧ ∃ m31 : Option Nat, Ru (Instr.loadAt 84 (.pointer (some (Addr.add q29 1)))) (drew w2) (.map m31) (drew w2) ∧ ∃ (a38 : Option Addr) (l38 c38 : Nat), Al (Instr.sliceAt 83 (.slice a25 l25 c25) none (some (.int .i64 ((l25 : Int)))) (some (.int .i64 ((l25 : Int))))) (.slice a38 l38 c38) ∧ ∃ q40 : Addr, Al (Instr.arrayAt 89 (.slice a2 l2 c2)) (.pointer (some q40)) ∧ ∃ g41 : Array Value, Ru (Instr.loadAt 89 (.pointer (some q40))) (drew w2) (.agg g41) (drew w2) ∧ ∃ (a42 : Option Addr) (l42 c42 : Nat), ∃ w3 : World, Ru (Instr.buildSlice 83 1 #[(0, .agg g41)]) (drew w2) (.slice a42 l42 c42) w3 ∧ Ru (Instr.loadAt 84 (.pointer (some (Addr.add q29 1)))) w3 (.map m31) w3 ∧ ∃ (a43 : Option Addr) (l43 c43 : Nat), ∃ w4 : World, Ru (Builtin.append_ #[83, 83] 83 #[.slice a38 l38 c38, .slice a42 l42 c42]) w3 (.slice a43 l43 c43) w4 ∧ Ru (Instr.loadAt 84 (.pointer (some (Addr.add q29 1)))) w4 (.map m31) w4 ∧ ∃ w5 : World, RuU (Instr.mapUpdate 84 (.map m31) (.int .i64 n1) (.slice a43 l43 c43)) w4 w5 ∧ k [] w5
 else
 k [] w2)) fun x w6 =>
 K (.int .i64 0) w6))
set_option maxRecDepth 100000 in
theorem C_disk_Disk_Write (p0 : Option Addr) (n1 : Int) (a2 : Option Addr) (l2 c2 : Nat) (w0 : World) (K : Value → World → Prop) (h : D_disk_Disk_Write p0 n1 a2 l2 c2 w0 K) : Cal Try.prog F_disk_Disk_Write #[.pointer p0, .int .i64 n1, .slice a2 l2 c2] w0 K :=
 denF_sound (A := { S := [], ty := [], raw := [] }) mixed Try.func30 (by kernel_rfl) (by kernel_rfl) ((show denF Try.prog _ Try.f30 _ w0 K = D_disk_Disk_Write p0 n1 a2 l2 c2 w0 K by kernel_rfl).mpr h)

/- (levee.disk.Disk).Open: slots {3: 'l'}; loop over [3] -/
set_option maxRecDepth 100000 in
def D_disk_Disk_Open (p0 : Option Addr) (w0 : World) (K : Value → World → Prop) : Prop :=
 (bif Option.isNone p0 then
 K (.slice none 0 0) w0
 else
 ∃ q8 : Addr, (.pointer p0 : Value) = .pointer (some q8) ∧ ∃ m10 : Option Nat, Ru (Instr.loadAt 84 (.pointer (some (Addr.add q8 1)))) w0 (.map m10) w0 ∧ ∃ q11 : Addr, ∃ w1 : World, Ru (Instr.range 84 (.map m10)) w0 (.pointer (some q11)) w1 ∧ LoopC (fun k x w2 =>
 ∃ v12 : Value, ∃ w3 : World, Ru (Instr.next (.pointer (some q11)) false 0) w2 v12 w3 ∧ ∃ b13 : Bool, Al (Instr.extract v12 0) (.bool b13) ∧ (bif b13 then
 ∃ v14 : Value, Ru (Instr.entry (.pointer (some q11))) w3 v14 w3 ∧ ∃ n15 : Int, Al (Instr.extract v14 0) (.int .i64 n15) ∧ ∃ (a3 : Option Addr) (l3 c3 : Nat), nth x 0 = .slice a3 l3 c3 ∧ ∃ (a18 : Option Addr) (l18 c18 : Nat), ∃ w4 : World, Ru (Instr.buildSlice 42 1 #[(0, .int .i64 n15)]) w3 (.slice a18 l18 c18) w4 ∧ ∃ (a19 : Option Addr) (l19 c19 : Nat), ∃ w5 : World, Ru (Builtin.append_ #[42, 42] 42 #[.slice a3 l3 c3, .slice a18 l18 c18]) w4 (.slice a19 l19 c19) w5 ∧ k [.slice a19 l19 c19] w5
 else
 ∃ (a3_2 : Option Addr) (l3_2 c3_2 : Nat), nth x 0 = .slice a3_2 l3_2 c3_2 ∧ Cal Try.prog F_slices_Sort_int #[.slice a3_2 l3_2 c3_2] w3 fun r21 w6 => r21 = .tuple #[] ∧ K (.slice a3_2 l3_2 c3_2) w6)) [.slice none 0 0] w1)
set_option maxRecDepth 100000 in
theorem C_disk_Disk_Open (p0 : Option Addr) (w0 : World) (K : Value → World → Prop) (h : D_disk_Disk_Open p0 w0 K) : Cal Try.prog F_disk_Disk_Open #[.pointer p0] w0 K :=
 denF_sound (A := { S := [3], ty := [(3, 42)], raw := [12, 14] }) mixed Try.func54 (by kernel_rfl) (by kernel_rfl) ((show denF Try.prog _ Try.f54 _ w0 K = D_disk_Disk_Open p0 w0 K by kernel_rfl).mpr h)

/- (levee.disk.Disk).Flush: slots {15: ''}; loop over [15] -/
set_option maxRecDepth 100000 in
def D_disk_Disk_Flush (p0 : Option Addr) (w0 : World) (K : Value → World → Prop) : Prop :=
 (bif Option.isNone p0 then
 K (.int .i64 2) w0
 else
 Cal Try.prog F_disk_Disk_goes #[.pointer p0] w0 fun r10 w1 => ∃ b10 : Bool, r10 = .bool b10 ∧ (bif !b10 then
 K (.int .i64 0) w1
 else
 Cal Try.prog F_disk_Disk_Open #[.pointer p0] w1 fun r13 w2 => ∃ (a13 : Option Addr) (l13 c13 : Nat), r13 = .slice a13 l13 c13 ∧ LoopC (fun k x w3 =>
 ∃ n15 : Int, nth x 0 = .int .i64 n15 ∧ (bif decide (n15 < (l13 : Int)) then
 ∃ q17 : Addr, Al (Instr.indexAt 42 (.slice a13 l13 c13) (.int .i64 n15)) (.pointer (some q17)) ∧ ∃ n18 : Int, Ru (Instr.loadAt 3 (.pointer (some q17))) w3 (.int .i64 n18) w3 ∧ ∃ q20 : Addr, (.pointer p0 : Value) = .pointer (some q20) ∧ ∃ (a22 : Option Addr) (l22 c22 : Nat), Ru (Instr.loadAt 83 (.pointer (some (Addr.add q20 0)))) (drew w3) (.slice a22 l22 c22) (drew w3) ∧ Cal Try.prog F_disk_Disk_last #[.pointer p0, .int .i64 n18] (drew w3) fun r26 w4 => ∃ g26 : Array Value, r26 = .agg g26 ∧ Ru (Instr.loadAt 83 (.pointer (some (Addr.add q20 0)))) w4 (.slice a22 l22 c22) w4 ∧ ∃ q27 : Addr, Al (Instr.indexAt 83 (.slice a22 l22 c22) (.int .i64 n18)) (.pointer (some q27)) ∧ ∃ w5 : World, RuU (Instr.storeAt 89 (.pointer (some q27)) (.agg g26)) w4 w5 ∧ k [.int .i64 (IntKind.i64.wrap (n15 + 1))] w5
 else
 ∃ q30 : Addr, (.pointer p0 : Value) = .pointer (some q30) ∧ ∃ m32 : Option Nat, Ru (Instr.loadAt 84 (.pointer (some (Addr.add q30 1)))) w3 (.map m32) w3 ∧ ∃ w6 : World, Ru (Builtin.clear_ #[84] 0 #[.map m32]) w3 (.tuple #[]) w6 ∧ K (.int .i64 0) w6)) [.int .i64 0] w2))
set_option maxRecDepth 100000 in
theorem C_disk_Disk_Flush (p0 : Option Addr) (w0 : World) (K : Value → World → Prop) (h : D_disk_Disk_Flush p0 w0 K) : Cal Try.prog F_disk_Disk_Flush #[.pointer p0] w0 K :=
 denF_sound (A := { S := [15], ty := [(15, 3)], raw := [] }) mixed Try.func32 (by kernel_rfl) (by kernel_rfl) ((show denF Try.prog _ Try.f32 _ w0 K = D_disk_Disk_Flush p0 w0 K by kernel_rfl).mpr h)

/- (levee.disk.Disk).Crash: slots {6: 'k', 12: ''}; loop over [6, 12] -/
set_option maxRecDepth 100000 in
def D_disk_Disk_Crash (p0 : Option Addr) (a1 : Option Addr) (l1 c1 : Nat) (w0 : World) (K : Value → World → Prop) : Prop :=
 (bif Option.isNone p0 then
 K (.tuple #[]) w0
 else
 Cal Try.prog F_disk_Disk_Open #[.pointer p0] w0 fun r10 w1 => ∃ (a10 : Option Addr) (l10 c10 : Nat), r10 = .slice a10 l10 c10 ∧ LoopC (fun k x w2 =>
 ∃ n12 : Int, nth x 1 = .int .i64 n12 ∧ (bif decide (n12 < (l10 : Int)) then
 ∃ q15 : Addr, Al (Instr.indexAt 42 (.slice a10 l10 c10) (.int .i64 n12)) (.pointer (some q15)) ∧ ∃ n16 : Int, Ru (Instr.loadAt 3 (.pointer (some q15))) w2 (.int .i64 n16) w2 ∧ Share (fun k_2 => (bif decide (n12 < (l1 : Int)) then
 ∃ q23 : Addr, Al (Instr.indexAt 42 (.slice a1 l1 c1) (.int .i64 n12)) (.pointer (some q23)) ∧ ∃ n24 : Int, Ru (Instr.loadAt 3 (.pointer (some q23))) (drew w2) (.int .i64 n24) (drew w2) ∧ ∃ q27 : Addr, (.pointer p0 : Value) = .pointer (some q27) ∧ ∃ m29 : Option Nat, Ru (Instr.loadAt 84 (.pointer (some (Addr.add q27 1)))) (drew w2) (.map m29) (drew w2) ∧ ∃ (a31 : Option Addr) (l31 c31 : Nat), Ru (Instr.lookup 84 (.map m29) (.int .i64 n16) false) (drew w2) (.slice a31 l31 c31) (drew w2) ∧ k_2 [.int .i64 (if (l31 : Int) < (if 0 > n24 then 0 else n24) then (l31 : Int) else (if 0 > n24 then 0 else n24))] (drew w2)
 else
 k_2 [.int .i64 0] w2)) fun x_2 w3 =>
 ∃ n6 : Int, nth x_2 0 = .int .i64 n6 ∧ Share (fun k_3 => (bif decide (n6 > 0) then
 ∃ q37 : Addr, (.pointer p0 : Value) = .pointer (some q37) ∧ ∃ (a39 : Option Addr) (l39 c39 : Nat), Ru (Instr.loadAt 83 (.pointer (some (Addr.add q37 0)))) (drew w3) (.slice a39 l39 c39) (drew w3) ∧ ∃ q42 : Addr, (.pointer p0 : Value) = .pointer (some q42) ∧ ∃ m44 : Option Nat, Ru (Instr.loadAt 84 (.pointer (some (Addr.add q42 1)))) (drew w3) (.map m44) (drew w3) ∧ ∃ (a46 : Option Addr) (l46 c46 : Nat), Ru (Instr.lookup 84 (.map m44) (.int .i64 n16) false) (drew w3) (.slice a46 l46 c46) (drew w3) ∧ ∃ q49 : Addr, Al (Instr.indexAt 83 (.slice a46 l46 c46) (.int .i64 (IntKind.i64.wrap (n6 - 1)))) (.pointer (some q49)) ∧ ∃ g50 : Array Value, Ru (Instr.loadAt 89 (.pointer (some q49))) (drew w3) (.agg g50) (drew w3) ∧ ∃ q51 : Addr, Al (Instr.indexAt 83 (.slice a39 l39 c39) (.int .i64 n16)) (.pointer (some q51)) ∧ ∃ w4 : World, RuU (Instr.storeAt 89 (.pointer (some q51)) (.agg g50)) (drew w3) w4 ∧ k_3 [] w4
 else
 k_3 [] w3)) fun x_3 w5 =>
 k [.int .i64 n6, .int .i64 (IntKind.i64.wrap (n12 + 1))] w5
 else
 ∃ q54 : Addr, (.pointer p0 : Value) = .pointer (some q54) ∧ ∃ m56 : Option Nat, Ru (Instr.loadAt 84 (.pointer (some (Addr.add q54 1)))) w2 (.map m56) w2 ∧ ∃ w6 : World, Ru (Builtin.clear_ #[84] 0 #[.map m56]) w2 (.tuple #[]) w6 ∧ ∃ q58 : Addr, (.pointer p0 : Value) = .pointer (some q58) ∧ ∃ w7 : World, RuU (Instr.storeAt 3 (.pointer (some (Addr.add q58 2))) (.int .i64 ((-1)))) w6 w7 ∧ K (.tuple #[]) w7)) [undef, .int .i64 0] w1)
set_option maxRecDepth 100000 in
theorem C_disk_Disk_Crash (p0 : Option Addr) (a1 : Option Addr) (l1 c1 : Nat) (w0 : World) (K : Value → World → Prop) (h : D_disk_Disk_Crash p0 a1 l1 c1 w0 K) : Cal Try.prog F_disk_Disk_Crash #[.pointer p0, .slice a1 l1 c1] w0 K :=
 denF_sound (A := { S := [6, 12], ty := [(6, 3), (12, 3)], raw := [] }) mixed Try.func33 (by kernel_rfl) (by kernel_rfl) ((show denF Try.prog _ Try.f33 _ w0 K = D_disk_Disk_Crash p0 a1 l1 c1 w0 K by kernel_rfl).mpr h)

/- (levee.disk.Disk).Writes: slots {};  -/
set_option maxRecDepth 100000 in
def D_disk_Disk_Writes (p0 : Option Addr) (n1 : Int) (w0 : World) (K : Value → World → Prop) : Prop :=
 (bif Option.isNone p0 then
 K (.int .i64 0) w0
 else
 ∃ q8 : Addr, (.pointer p0 : Value) = .pointer (some q8) ∧ ∃ m10 : Option Nat, Ru (Instr.loadAt 84 (.pointer (some (Addr.add q8 1)))) w0 (.map m10) w0 ∧ ∃ (a12 : Option Addr) (l12 c12 : Nat), Ru (Instr.lookup 84 (.map m10) (.int .i64 n1) false) w0 (.slice a12 l12 c12) w0 ∧ K (.int .i64 ((l12 : Int))) w0)
set_option maxRecDepth 100000 in
theorem C_disk_Disk_Writes (p0 : Option Addr) (n1 : Int) (w0 : World) (K : Value → World → Prop) (h : D_disk_Disk_Writes p0 n1 w0 K) : Cal Try.prog F_disk_Disk_Writes #[.pointer p0, .int .i64 n1] w0 K :=
 denF_sound (A := { S := [], ty := [], raw := [] }) mixed Try.func51 (by kernel_rfl) (by kernel_rfl) ((show denF Try.prog _ Try.f51 _ w0 K = D_disk_Disk_Writes p0 n1 w0 K by kernel_rfl).mpr h)

/- (levee.disk.Disk).Len: slots {};  -/
set_option maxRecDepth 100000 in
def D_disk_Disk_Len (p0 : Option Addr) (w0 : World) (K : Value → World → Prop) : Prop :=
 (bif Option.isNone p0 then
 K (.int .i64 0) w0
 else
 ∃ q6 : Addr, (.pointer p0 : Value) = .pointer (some q6) ∧ ∃ (a8 : Option Addr) (l8 c8 : Nat), Ru (Instr.loadAt 83 (.pointer (some (Addr.add q6 0)))) w0 (.slice a8 l8 c8) w0 ∧ K (.int .i64 ((l8 : Int))) w0)
set_option maxRecDepth 100000 in
theorem C_disk_Disk_Len (p0 : Option Addr) (w0 : World) (K : Value → World → Prop) (h : D_disk_Disk_Len p0 w0 K) : Cal Try.prog F_disk_Disk_Len #[.pointer p0] w0 K :=
 denF_sound (A := { S := [], ty := [], raw := [] }) mixed Try.func43 (by kernel_rfl) (by kernel_rfl) ((show denF Try.prog _ Try.f43 _ w0 K = D_disk_Disk_Len p0 w0 K by kernel_rfl).mpr h)

/- levee.disk.New: slots {9: ''};  -/
set_option maxRecDepth 100000 in
def D_disk_New (n0 : Int) (w0 : World) (K : Value → World → Prop) : Prop :=
 Share (fun k => (bif decide (n0 < 1) then k [.bool true] w0 else k [.bool (decide (n0 > 4096))] w0)) fun x w1 =>
 ∃ b9 : Bool, nth x 0 = .bool b9 ∧ (bif b9 then
 K (.tuple #[.pointer none, .int .i64 1]) w1
 else
 ∃ (a11 : Option Addr) (l11 c11 : Nat), ∃ w2 : World, Ru (Instr.makeSlice 83 (.int .i64 n0) (.int .i64 n0)) w1 (.slice a11 l11 c11) w2 ∧ ∃ m12 : Option Nat, ∃ w3 : World, Ru (Instr.makeMap 84 none) w2 (.map m12) w3 ∧ ∃ g13 : Array Value, Al (Instr.build 86 #[(0, .slice a11 l11 c11), (1, .map m12), (2, .int .i64 ((-1)))]) (.agg g13) ∧ ∃ q14 : Addr, ∃ w4 : World, Ru (Instr.box 86 (.agg g13)) w3 (.pointer (some q14)) w4 ∧ K (.tuple #[.pointer (some q14), .int .i64 0]) w4)
set_option maxRecDepth 100000 in
theorem C_disk_New (n0 : Int) (w0 : World) (K : Value → World → Prop) (h : D_disk_New n0 w0 K) : Cal Try.prog F_disk_New #[.int .i64 n0] w0 K :=
 denF_sound (A := { S := [9], ty := [(9, 4)], raw := [] }) mixed Try.func29 (by kernel_rfl) (by kernel_rfl) ((show denF Try.prog _ Try.f29 _ w0 K = D_disk_New n0 w0 K by kernel_rfl).mpr h)

/- levee.leveeref01.Fill: slots {4: 'i', 12: ''}; loop over [4, 12] -/
set_option maxRecDepth 100000 in
def D_leveeref01_Fill (a0 : Option Addr) (l0 c0 : Nat) (w0 : World) (K : Value → World → Prop) : Prop :=
 ∃ (a5 : Option Addr) (l5 c5 : Nat), ∃ w1 : World, Ru (Instr.makeSlice 40 (.int .i64 256) (.int .i64 256)) w0 (.slice a5 l5 c5) w1 ∧ LoopC (fun k x w2 =>
 Share (fun k_2 => ∃ n4 : Int, nth x 0 = .int .i64 n4 ∧ (bif decide (n4 < 256) then k_2 [.bool (decide ((l0 : Int) > 0))] w2 else k_2 [.bool false] w2)) fun x_2 w3 =>
 ∃ b12 : Bool, nth x_2 0 = .bool b12 ∧ (bif b12 then
 ∃ n4_2 : Int, nth x 0 = .int .i64 n4_2 ∧ ∃ n21 : Int, Al (eqS .rem 3 (.tmp 18) (.tmp 20) (.int .i64 n4_2) (.int .i64 ((l0 : Int)))) (.int .i64 n21) ∧ ∃ q22 : Addr, Al (Instr.indexAt 40 (.slice a0 l0 c0) (.int .i64 n21)) (.pointer (some q22)) ∧ ∃ n23 : Int, Ru (Instr.loadAt 5 (.pointer (some q22))) w3 (.int .u8 n23) w3 ∧ ∃ q24 : Addr, Al (Instr.indexAt 40 (.slice a5 l5 c5) (.int .i64 n4_2)) (.pointer (some q24)) ∧ ∃ w4 : World, RuU (Instr.storeAt 5 (.pointer (some q24)) (.int .u8 n23)) w3 w4 ∧ k [.int .i64 (IntKind.i64.wrap (n4_2 + 1)), .bool b12] w4
 else
 K (.slice a5 l5 c5) w3)) [.int .i64 0, undef] w1
set_option maxRecDepth 100000 in
theorem C_leveeref01_Fill (a0 : Option Addr) (l0 c0 : Nat) (w0 : World) (K : Value → World → Prop) (h : D_leveeref01_Fill a0 l0 c0 w0 K) : Cal Try.prog F_leveeref01_Fill #[.slice a0 l0 c0] w0 K :=
 denF_sound (A := { S := [4, 12], ty := [(4, 3), (12, 4)], raw := [] }) mixed Try.func31 (by kernel_rfl) (by kernel_rfl) ((show denF Try.prog _ Try.f31 _ w0 K = D_leveeref01_Fill a0 l0 c0 w0 K by kernel_rfl).mpr h)

/- levee.leveelaw02.known: slots {0: '', 15: ''};  -/
set_option maxRecDepth 100000 in
def D_leveelaw02_known (w0 : World) (K : Value → World → Prop) : Prop :=
 Cal Try.prog F_disk_New #[.int .i64 3] w0 fun r7 w1 => ∃ p7a : Option Addr, ∃ n7b : Int, r7 = .tuple #[.pointer p7a, .int .i64 n7b] ∧ Share (fun k => (bif n7b != 0 then k [.bool true] w1 else k [.bool (Option.isNone p7a)] w1)) fun x w2 =>
 ∃ b15 : Bool, nth x 0 = .bool b15 ∧ (bif b15 then
 K (.bool false) w2
 else
 ∃ (a17 : Option Addr) (l17 c17 : Nat), ∃ w3 : World, Ru (Instr.buildSlice 40 1 #[(0, .int .u8 65)]) w2 (.slice a17 l17 c17) w3 ∧ ∃ (a18 : Option Addr) (l18 c18 : Nat), ∃ w4 : World, Ru (convert 40 40 (.slice a17 l17 c17)) w3 (.slice a18 l18 c18) w4 ∧ Cal Try.prog F_leveeref01_Fill #[.slice a18 l18 c18] w4 fun r19 w5 => ∃ (a19 : Option Addr) (l19 c19 : Nat), r19 = .slice a19 l19 c19 ∧ Cal Try.prog F_disk_Disk_Write #[.pointer p7a, .int .i64 1, .slice a19 l19 c19] w5 fun r20 w6 => ∃ n20 : Int, r20 = .int .i64 n20 ∧ Cal Try.prog F_disk_Disk_Flush #[.pointer p7a] w6 fun r22 w7 => ∃ n22 : Int, r22 = .int .i64 n22 ∧ ∃ (a24 : Option Addr) (l24 c24 : Nat), ∃ w8 : World, Ru (Instr.buildSlice 40 1 #[(0, .int .u8 66)]) w7 (.slice a24 l24 c24) w8 ∧ ∃ (a25 : Option Addr) (l25 c25 : Nat), ∃ w9 : World, Ru (convert 40 40 (.slice a24 l24 c24)) w8 (.slice a25 l25 c25) w9 ∧ Cal Try.prog F_leveeref01_Fill #[.slice a25 l25 c25] w9 fun r26 w10 => ∃ (a26 : Option Addr) (l26 c26 : Nat), r26 = .slice a26 l26 c26 ∧ Cal Try.prog F_disk_Disk_Write #[.pointer p7a, .int .i64 1, .slice a26 l26 c26] w10 fun r27 w11 => ∃ n27 : Int, r27 = .int .i64 n27 ∧ ∃ (a29 : Option Addr) (l29 c29 : Nat), ∃ w12 : World, Ru (Instr.buildSlice 40 1 #[(0, .int .u8 67)]) w11 (.slice a29 l29 c29) w12 ∧ ∃ (a30 : Option Addr) (l30 c30 : Nat), ∃ w13 : World, Ru (convert 40 40 (.slice a29 l29 c29)) w12 (.slice a30 l30 c30) w13 ∧ Cal Try.prog F_leveeref01_Fill #[.slice a30 l30 c30] w13 fun r31 w14 => ∃ (a31 : Option Addr) (l31 c31 : Nat), r31 = .slice a31 l31 c31 ∧ Cal Try.prog F_disk_Disk_Write #[.pointer p7a, .int .i64 1, .slice a31 l31 c31] w14 fun r32 w15 => ∃ n32 : Int, r32 = .int .i64 n32 ∧ ∃ (a34 : Option Addr) (l34 c34 : Nat), ∃ w16 : World, Ru (Instr.buildSlice 42 1 #[(0, .int .i64 1)]) w15 (.slice a34 l34 c34) w16 ∧ Cal Try.prog F_disk_Disk_Crash #[.pointer p7a, .slice a34 l34 c34] w16 fun r35 w17 => r35 = .tuple #[] ∧ Cal Try.prog F_disk_Disk_Read #[.pointer p7a, .int .i64 1] w17 fun r38 w18 => ∃ (a38a : Option Addr) (l38a c38a : Nat), ∃ n38b : Int, r38 = .tuple #[.slice a38a l38a c38a, .int .i64 n38b] ∧ Share (fun k_2 => (bif n20 == 0 then (bif n38b == 0 then ∃ s49 : ByteArray, Ru (convert 40 9 (.slice a38a l38a c38a)) (drew w18) (.string s49) (drew w18) ∧ ∃ (a50 : Option Addr) (l50 c50 : Nat), ∃ w19 : World, Ru (Instr.buildSlice 40 1 #[(0, .int .u8 66)]) (drew w18) (.slice a50 l50 c50) w19 ∧ Ru (convert 40 9 (.slice a38a l38a c38a)) w19 (.string s49) w19 ∧ ∃ (a51 : Option Addr) (l51 c51 : Nat), ∃ w20 : World, Ru (convert 40 40 (.slice a50 l50 c50)) w19 (.slice a51 l51 c51) w20 ∧ Ru (convert 40 9 (.slice a38a l38a c38a)) w20 (.string s49) w20 ∧ Cal Try.prog F_leveeref01_Fill #[.slice a51 l51 c51] w20 fun r52 w21 => ∃ (a52 : Option Addr) (l52 c52 : Nat), r52 = .slice a52 l52 c52 ∧ Ru (convert 40 9 (.slice a38a l38a c38a)) w21 (.string s49) w21 ∧ ∃ s53 : ByteArray, Ru (convert 40 9 (.slice a52 l52 c52)) w21 (.string s53) w21 ∧ (bif (ByteArray.toList s49) == (ByteArray.toList s53) then Cal Try.prog F_disk_Disk_Writes #[.pointer p7a, .int .i64 1] w21 fun r58 w22 => ∃ n58 : Int, r58 = .int .i64 n58 ∧ (bif n58 == 0 then Cal Try.prog F_disk_Disk_Len #[.pointer p7a] w22 fun r63 w23 => ∃ n63 : Int, r63 = .int .i64 n63 ∧ k_2 [.bool (n63 == 3)] w23 else k_2 [.bool false] w22) else k_2 [.bool false] w21) else k_2 [.bool false] (drew w18)) else k_2 [.bool false] (drew w18))) fun x_2 w24 =>
 ∃ b0 : Bool, nth x_2 0 = .bool b0 ∧ K (.bool b0) w24)
set_option maxRecDepth 100000 in
theorem C_leveelaw02_known (w0 : World) (K : Value → World → Prop) (h : D_leveelaw02_known  w0 K) : Cal Try.prog F_leveelaw02_known #[] w0 K :=
 denF_sound (A := { S := [0, 15], ty := [(0, 4), (15, 4)], raw := [] }) mixed Try.func28 (by kernel_rfl) (by kernel_rfl) ((show denF Try.prog _ Try.f28 _ w0 K = D_leveelaw02_known  w0 K by kernel_rfl).mpr h)

end Go.Proofs.Ytkmkfdljnlbikaa
