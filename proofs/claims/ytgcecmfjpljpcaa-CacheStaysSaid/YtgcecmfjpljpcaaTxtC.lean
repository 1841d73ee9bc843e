/- What functions of the translation come to, as printed by a program of this session. -/
import Derived.Test.YtgcecmfjpljpcaaIds
open Go Go.Den Go.Proofs
namespace Go.Proofs.Ytgcecmfjpljpcaa

/- (levee.disk.Disk).may: slots {8: ''};  -/
set_option maxRecDepth 100000 in
def D_disk_Disk_may (p0 : Option Addr) (n1 : Int) (w0 : World) (K : Value → World → Prop) : Prop :=
 (bif Option.isNone p0 then
 K (.int .i64 2) w0
 else
 Share (fun k => (bif decide (n1 < 0) then k [.bool true] w0 else ∃ q14 : Addr, (.pointer p0 : Value) = .pointer (some q14) ∧ ∃ (a16 : Option Addr) (l16 c16 : Nat), Ru (Instr.loadAt 82 (.pointer (some (Addr.add q14 0)))) w0 (.slice a16 l16 c16) w0 ∧ k [.bool (decide (n1 ≥ (l16 : Int)))] w0)) fun x w1 =>
 ∃ b8 : Bool, nth x 0 = .bool b8 ∧ (bif b8 then
 K (.int .i64 3) w1
 else
 K (.int .i64 0) w1))
set_option maxRecDepth 100000 in
theorem C_disk_Disk_may (p0 : Option Addr) (n1 : Int) (w0 : World) (K : Value → World → Prop) (h : D_disk_Disk_may p0 n1 w0 K) : Cal Try.prog F_disk_Disk_may #[.pointer p0, .int .i64 n1] w0 K :=
 denF_sound (A := { S := [8], ty := [(8, 4)], raw := [] }) mixed Try.func65 (by kernel_rfl) (by kernel_rfl) ((show denF Try.prog _ Try.f65 _ w0 K = D_disk_Disk_may p0 n1 w0 K by kernel_rfl).mpr h)

/- (levee.disk.Disk).goes: slots {};  -/
set_option maxRecDepth 100000 in
def D_disk_Disk_goes (p0 : Option Addr) (w0 : World) (K : Value → World → Prop) : Prop :=
 ∃ q4 : Addr, (.pointer p0 : Value) = .pointer (some q4) ∧ ∃ n6 : Int, Ru (Instr.loadAt 3 (.pointer (some (Addr.add q4 2)))) w0 (.int .i64 n6) w0 ∧ (bif n6 == 0 then
 K (.bool false) w0
 else
 ∃ q10 : Addr, (.pointer p0 : Value) = .pointer (some q10) ∧ ∃ n12 : Int, Ru (Instr.loadAt 3 (.pointer (some (Addr.add q10 2)))) w0 (.int .i64 n12) w0 ∧ ∃ q15 : Addr, (.pointer p0 : Value) = .pointer (some q15) ∧ ∃ w1 : World, RuU (Instr.storeAt 3 (.pointer (some (Addr.add q15 2))) (.int .i64 (if (-1) > (IntKind.i64.wrap (n12 - 1)) then (-1) else (IntKind.i64.wrap (n12 - 1))))) w0 w1 ∧ K (.bool true) w1)
set_option maxRecDepth 100000 in
theorem C_disk_Disk_goes (p0 : Option Addr) (w0 : World) (K : Value → World → Prop) (h : D_disk_Disk_goes p0 w0 K) : Cal Try.prog F_disk_Disk_goes #[.pointer p0] w0 K :=
 denF_sound (A := { S := [], ty := [], raw := [] }) mixed Try.func106 (by kernel_rfl) (by kernel_rfl) ((show denF Try.prog _ Try.f106 _ w0 K = D_disk_Disk_goes p0 w0 K by kernel_rfl).mpr h)

/- (levee.disk.Disk).last: slots {};  -/
set_option maxRecDepth 100000 in
def D_disk_Disk_last (p0 : Option Addr) (n1 : Int) (w0 : World) (K : Value → World → Prop) : Prop :=
 ∃ q4 : Addr, ∃ w1 : World, Ru (Instr.alloc 101 true (.tuple #[])) w0 (.pointer (some q4)) w1 ∧ ∃ q7 : Addr, (.pointer p0 : Value) = .pointer (some q7) ∧ ∃ m9 : Option Nat, Ru (Instr.loadAt 83 (.pointer (some (Addr.add q7 1)))) w1 (.map m9) w1 ∧ ∃ (a11 : Option Addr) (l11 c11 : Nat), Ru (Instr.lookup 83 (.map m9) (.int .i64 n1) false) w1 (.slice a11 l11 c11) w1 ∧ (bif decide ((l11 : Int) > 0) then
 ∃ q19 : Addr, Al (Instr.indexAt 82 (.slice a11 l11 c11) (.int .i64 (IntKind.i64.wrap ((l11 : Int) - 1)))) (.pointer (some q19)) ∧ ∃ g20 : Array Value, Ru (Instr.loadAt 101 (.pointer (some q19))) w1 (.agg g20) w1 ∧ ∃ w2 : World, RuU (Instr.storeAt 101 (.pointer (some q4)) (.agg g20)) w1 w2 ∧ ∃ gR4 : Array Value, Ru (Instr.loadAt 101 (.pointer (some q4))) w2 (.agg gR4) w2 ∧ K (.agg gR4) w2
 else
 ∃ q22 : Addr, (.pointer p0 : Value) = .pointer (some q22) ∧ ∃ (a24 : Option Addr) (l24 c24 : Nat), Ru (Instr.loadAt 82 (.pointer (some (Addr.add q22 0)))) w1 (.slice a24 l24 c24) w1 ∧ ∃ q26 : Addr, Al (Instr.indexAt 82 (.slice a24 l24 c24) (.int .i64 n1)) (.pointer (some q26)) ∧ ∃ g27 : Array Value, Ru (Instr.loadAt 101 (.pointer (some q26))) w1 (.agg g27) w1 ∧ ∃ w3 : World, RuU (Instr.storeAt 101 (.pointer (some q4)) (.agg g27)) w1 w3 ∧ ∃ gR4_2 : Array Value, Ru (Instr.loadAt 101 (.pointer (some q4))) w3 (.agg gR4_2) w3 ∧ K (.agg gR4_2) w3)
set_option maxRecDepth 100000 in
theorem C_disk_Disk_last (p0 : Option Addr) (n1 : Int) (w0 : World) (K : Value → World → Prop) (h : D_disk_Disk_last p0 n1 w0 K) : Cal Try.prog F_disk_Disk_last #[.pointer p0, .int .i64 n1] w0 K :=
 denF_sound (A := { S := [], ty := [], raw := [] }) mixed Try.func62 (by kernel_rfl) (by kernel_rfl) ((show denF Try.prog _ Try.f62 _ w0 K = D_disk_Disk_last p0 n1 w0 K by kernel_rfl).mpr h)

/- (levee.disk.Disk).Read: slots {};  -/
set_option maxRecDepth 100000 in
def D_disk_Disk_Read (p0 : Option Addr) (n1 : Int) (w0 : World) (K : Value → World → Prop) : Prop :=
 Cal Try.prog F_disk_Disk_may #[.pointer p0, .int .i64 n1] w0 fun r10 w1 => ∃ n10 : Int, r10 = .int .i64 n10 ∧ (bif n10 != 0 then
 K (.tuple #[.slice none 0 0, .int .i64 n10]) w1
 else
 Cal Try.prog F_disk_Disk_last #[.pointer p0, .int .i64 n1] w1 fun r16 w2 => ∃ g16 : Array Value, r16 = .agg g16 ∧ ∃ q7 : Addr, ∃ w3 : World, Ru (Instr.alloc 101 true (.tuple #[])) w2 (.pointer (some q7)) w3 ∧ ∃ w4 : World, RuU (Instr.storeAt 101 (.pointer (some q7)) (.agg g16)) w3 w4 ∧ ∃ (a17 : Option Addr) (l17 c17 : Nat), Al (Instr.sliceAt 101 (.pointer (some q7)) none none none) (.slice a17 l17 c17) ∧ K (.tuple #[.slice a17 l17 c17, .int .i64 0]) w4)
set_option maxRecDepth 100000 in
theorem C_disk_Disk_Read (p0 : Option Addr) (n1 : Int) (w0 : World) (K : Value → World → Prop) (h : D_disk_Disk_Read p0 n1 w0 K) : Cal Try.prog F_disk_Disk_Read #[.pointer p0, .int .i64 n1] w0 K :=
 denF_sound (A := { S := [], ty := [], raw := [] }) mixed Try.func25 (by kernel_rfl) (by kernel_rfl) ((show denF Try.prog _ Try.f25 _ w0 K = D_disk_Disk_Read p0 n1 w0 K by kernel_rfl).mpr h)

/- (levee.disk.Disk).Safe: slots {};  -/
set_option maxRecDepth 100000 in
def D_disk_Disk_Safe (p0 : Option Addr) (n1 : Int) (w0 : World) (K : Value → World → Prop) : Prop :=
 Cal Try.prog F_disk_Disk_may #[.pointer p0, .int .i64 n1] w0 fun r10 w1 => ∃ n10 : Int, r10 = .int .i64 n10 ∧ (bif n10 != 0 then
 K (.tuple #[.slice none 0 0, .int .i64 n10]) w1
 else
 ∃ q15 : Addr, (.pointer p0 : Value) = .pointer (some q15) ∧ ∃ (a17 : Option Addr) (l17 c17 : Nat), Ru (Instr.loadAt 82 (.pointer (some (Addr.add q15 0)))) w1 (.slice a17 l17 c17) w1 ∧ ∃ q19 : Addr, Al (Instr.indexAt 82 (.slice a17 l17 c17) (.int .i64 n1)) (.pointer (some q19)) ∧ ∃ g20 : Array Value, Ru (Instr.loadAt 101 (.pointer (some q19))) w1 (.agg g20) w1 ∧ ∃ q7 : Addr, ∃ w2 : World, Ru (Instr.alloc 101 true (.tuple #[])) w1 (.pointer (some q7)) w2 ∧ ∃ w3 : World, RuU (Instr.storeAt 101 (.pointer (some q7)) (.agg g20)) w2 w3 ∧ ∃ (a21 : Option Addr) (l21 c21 : Nat), Al (Instr.sliceAt 101 (.pointer (some q7)) none none none) (.slice a21 l21 c21) ∧ K (.tuple #[.slice a21 l21 c21, .int .i64 0]) w3)
set_option maxRecDepth 100000 in
theorem C_disk_Disk_Safe (p0 : Option Addr) (n1 : Int) (w0 : World) (K : Value → World → Prop) (h : D_disk_Disk_Safe p0 n1 w0 K) : Cal Try.prog F_disk_Disk_Safe #[.pointer p0, .int .i64 n1] w0 K :=
 denF_sound (A := { S := [], ty := [], raw := [] }) mixed Try.func46 (by kernel_rfl) (by kernel_rfl) ((show denF Try.prog _ Try.f46 _ w0 K = D_disk_Disk_Safe p0 n1 w0 K by kernel_rfl).mpr h)

/- (levee.disk.Disk).Write: slots {};  -/
set_option maxRecDepth 100000 in
def D_disk_Disk_Write (p0 : Option Addr) (n1 : Int) (a2 : Option Addr) (l2 c2 : Nat) (w0 : World) (K : Value → World → Prop) : Prop :=
 Cal Try.prog F_disk_Disk_may #[.pointer p0, .int .i64 n1] w0 fun r11 w1 => ∃ n11 : Int, r11 = .int .i64 n11 ∧ (bif n11 != 0 then
 K (.int .i64 n11) w1
 else
 (bif (l2 : Int) != 256 then
 K (.int .i64 4) w1
 else
 ∃ q21 : Addr, (.pointer p0 : Value) = .pointer (some q21) ∧ ∃ m23 : Option Nat, Ru (Instr.loadAt 83 (.pointer (some (Addr.add q21 1)))) w1 (.map m23) w1 ∧ ∃ (a25 : Option Addr) (l25 c25 : Nat), Ru (Instr.lookup 83 (.map m23) (.int .i64 n1) false) w1 (.slice a25 l25 c25) w1 ∧ Cal Try.prog F_disk_Disk_goes #[.pointer p0] w1 fun r27 w2 => ∃ b27 : Bool, r27 = .bool b27 ∧ Share (fun k => (bif b27 then
 ∃ q29 : Addr, (.pointer p0 : Value) = .pointer (some q29) ∧ ∃ m31 : Option Nat, Ru (Instr.loadAt 83 (.pointer (some (Addr.add q29 1)))) (drew w2) (.map m31) (drew w2) ∧ ∃ (a38 : Option Addr) (l38 c38 : Nat), Al (Instr.sliceAt 82 (.slice a25 l25 c25) none (some (.int .i64 ((l25 : Int)))) (some (.int .i64 ((l25 : Int))))) (.slice a38 l38 c38) ∧ ∃ q40 : Addr, Al (Instr.arrayAt 101 (.slice a2 l2 c2)) (.pointer (some q40)) ∧ ∃ g41 : Array Value, Ru (Instr.loadAt 101 (.pointer (some q40))) (drew w2) (.agg g41) (drew w2) ∧ ∃ (a42 : Option Addr) (l42 c42 : Nat), ∃ w3 : World, Ru (Instr.buildSlice 82 1 #[(0, .agg g41)]) (drew w2) (.slice a42 l42 c42) w3 ∧ Ru (Instr.loadAt 83 (.pointer (some (Addr.add q29 1)))) w3 (.map m31) w3 ∧ ∃ (a43 : Option Addr) (l43 c43 : Nat), ∃ w4 : World, Ru (Builtin.append_ #[82, 82] 82 #[.slice a38 l38 c38, .slice a42 l42 c42]) w3 (.slice a43 l43 c43) w4 ∧ Ru (Instr.loadAt 83 (.pointer (some (Addr.add q29 1)))) w4 (.map m31) w4 ∧ ∃ w5 : World, RuU (Instr.mapUpdate 83 (.map m31) (.int .i64 n1) (.slice a43 l43 c43)) w4 w5 ∧ k [] w5
 else
 k [] w2)) fun x w6 =>
 K (.int .i64 0) w6))
set_option maxRecDepth 100000 in
theorem C_disk_Disk_Write (p0 : Option Addr) (n1 : Int) (a2 : Option Addr) (l2 c2 : Nat) (w0 : World) (K : Value → World → Prop) (h : D_disk_Disk_Write p0 n1 a2 l2 c2 w0 K) : Cal Try.prog F_disk_Disk_Write #[.pointer p0, .int .i64 n1, .slice a2 l2 c2] w0 K :=
 denF_sound (A := { S := [], ty := [], raw := [] }) mixed Try.func63 (by kernel_rfl) (by kernel_rfl) ((show denF Try.prog _ Try.f63 _ w0 K = D_disk_Disk_Write p0 n1 a2 l2 c2 w0 K by kernel_rfl).mpr h)

/- (levee.disk.Disk).Open: slots {3: 'l'}; loop over [3] -/
set_option maxRecDepth 100000 in
def D_disk_Disk_Open (p0 : Option Addr) (w0 : World) (K : Value → World → Prop) : Prop :=
 (bif Option.isNone p0 then
 K (.slice none 0 0) w0
 else
 ∃ q8 : Addr, (.pointer p0 : Value) = .pointer (some q8) ∧ ∃ m10 : Option Nat, Ru (Instr.loadAt 83 (.pointer (some (Addr.add q8 1)))) w0 (.map m10) w0 ∧ ∃ q11 : Addr, ∃ w1 : World, Ru (Instr.range 83 (.map m10)) w0 (.pointer (some q11)) w1 ∧ LoopC (fun k x w2 =>
 ∃ v12 : Value, ∃ w3 : World, Ru (Instr.next (.pointer (some q11)) false 0) w2 v12 w3 ∧ ∃ b13 : Bool, Al (Instr.extract v12 0) (.bool b13) ∧ (bif b13 then
 ∃ v14 : Value, Ru (Instr.entry (.pointer (some q11))) w3 v14 w3 ∧ ∃ n15 : Int, Al (Instr.extract v14 0) (.int .i64 n15) ∧ ∃ (a3 : Option Addr) (l3 c3 : Nat), nth x 0 = .slice a3 l3 c3 ∧ ∃ (a18 : Option Addr) (l18 c18 : Nat), ∃ w4 : World, Ru (Instr.buildSlice 31 1 #[(0, .int .i64 n15)]) w3 (.slice a18 l18 c18) w4 ∧ ∃ (a19 : Option Addr) (l19 c19 : Nat), ∃ w5 : World, Ru (Builtin.append_ #[31, 31] 31 #[.slice a3 l3 c3, .slice a18 l18 c18]) w4 (.slice a19 l19 c19) w5 ∧ k [.slice a19 l19 c19] w5
 else
 ∃ (a3_2 : Option Addr) (l3_2 c3_2 : Nat), nth x 0 = .slice a3_2 l3_2 c3_2 ∧ Cal Try.prog F_slices_Sort_int #[.slice a3_2 l3_2 c3_2] w3 fun r21 w6 => r21 = .tuple #[] ∧ K (.slice a3_2 l3_2 c3_2) w6)) [.slice none 0 0] w1)
set_option maxRecDepth 100000 in
theorem C_disk_Disk_Open (p0 : Option Addr) (w0 : World) (K : Value → World → Prop) (h : D_disk_Disk_Open p0 w0 K) : Cal Try.prog F_disk_Disk_Open #[.pointer p0] w0 K :=
 denF_sound (A := { S := [3], ty := [(3, 31)], raw := [12, 14] }) mixed Try.func81 (by kernel_rfl) (by kernel_rfl) ((show denF Try.prog _ Try.f81 _ w0 K = D_disk_Disk_Open p0 w0 K by kernel_rfl).mpr h)

/- (levee.disk.Disk).Flush: slots {15: ''}; loop over [15] -/
set_option maxRecDepth 100000 in
def D_disk_Disk_Flush (p0 : Option Addr) (w0 : World) (K : Value → World → Prop) : Prop :=
 (bif Option.isNone p0 then
 K (.int .i64 2) w0
 else
 Cal Try.prog F_disk_Disk_goes #[.pointer p0] w0 fun r10 w1 => ∃ b10 : Bool, r10 = .bool b10 ∧ (bif !b10 then
 K (.int .i64 0) w1
 else
 Cal Try.prog F_disk_Disk_Open #[.pointer p0] w1 fun r13 w2 => ∃ (a13 : Option Addr) (l13 c13 : Nat), r13 = .slice a13 l13 c13 ∧ LoopC (fun k x w3 =>
 ∃ n15 : Int, nth x 0 = .int .i64 n15 ∧ (bif decide (n15 < (l13 : Int)) then
 ∃ q17 : Addr, Al (Instr.indexAt 31 (.slice a13 l13 c13) (.int .i64 n15)) (.pointer (some q17)) ∧ ∃ n18 : Int, Ru (Instr.loadAt 3 (.pointer (some q17))) w3 (.int .i64 n18) w3 ∧ ∃ q20 : Addr, (.pointer p0 : Value) = .pointer (some q20) ∧ ∃ (a22 : Option Addr) (l22 c22 : Nat), Ru (Instr.loadAt 82 (.pointer (some (Addr.add q20 0)))) (drew w3) (.slice a22 l22 c22) (drew w3) ∧ Cal Try.prog F_disk_Disk_last #[.pointer p0, .int .i64 n18] (drew w3) fun r26 w4 => ∃ g26 : Array Value, r26 = .agg g26 ∧ Ru (Instr.loadAt 82 (.pointer (some (Addr.add q20 0)))) w4 (.slice a22 l22 c22) w4 ∧ ∃ q27 : Addr, Al (Instr.indexAt 82 (.slice a22 l22 c22) (.int .i64 n18)) (.pointer (some q27)) ∧ ∃ w5 : World, RuU (Instr.storeAt 101 (.pointer (some q27)) (.agg g26)) w4 w5 ∧ k [.int .i64 (IntKind.i64.wrap (n15 + 1))] w5
 else
 ∃ q30 : Addr, (.pointer p0 : Value) = .pointer (some q30) ∧ ∃ m32 : Option Nat, Ru (Instr.loadAt 83 (.pointer (some (Addr.add q30 1)))) w3 (.map m32) w3 ∧ ∃ w6 : World, Ru (Builtin.clear_ #[83] 0 #[.map m32]) w3 (.tuple #[]) w6 ∧ K (.int .i64 0) w6)) [.int .i64 0] w2))
set_option maxRecDepth 100000 in
theorem C_disk_Disk_Flush (p0 : Option Addr) (w0 : World) (K : Value → World → Prop) (h : D_disk_Disk_Flush p0 w0 K) : Cal Try.prog F_disk_Disk_Flush #[.pointer p0] w0 K :=
 denF_sound (A := { S := [15], ty := [(15, 3)], raw := [] }) mixed Try.func66 (by kernel_rfl) (by kernel_rfl) ((show denF Try.prog _ Try.f66 _ w0 K = D_disk_Disk_Flush p0 w0 K by kernel_rfl).mpr h)

/- (levee.disk.Disk).Crash: slots {6: 'k', 12: ''}; loop over [6, 12] -/
set_option maxRecDepth 100000 in
def D_disk_Disk_Crash (p0 : Option Addr) (a1 : Option Addr) (l1 c1 : Nat) (w0 : World) (K : Value → World → Prop) : Prop :=
 (bif Option.isNone p0 then
 K (.tuple #[]) w0
 else
 Cal Try.prog F_disk_Disk_Open #[.pointer p0] w0 fun r10 w1 => ∃ (a10 : Option Addr) (l10 c10 : Nat), r10 = .slice a10 l10 c10 ∧ LoopC (fun k x w2 =>
 ∃ n12 : Int, nth x 1 = .int .i64 n12 ∧ (bif decide (n12 < (l10 : Int)) then
 ∃ q15 : Addr, Al (Instr.indexAt 31 (.slice a10 l10 c10) (.int .i64 n12)) (.pointer (some q15)) ∧ ∃ n16 : Int, Ru (Instr.loadAt 3 (.pointer (some q15))) w2 (.int .i64 n16) w2 ∧ Share (fun k_2 => (bif decide (n12 < (l1 : Int)) then
 ∃ q23 : Addr, Al (Instr.indexAt 31 (.slice a1 l1 c1) (.int .i64 n12)) (.pointer (some q23)) ∧ ∃ n24 : Int, Ru (Instr.loadAt 3 (.pointer (some q23))) (drew w2) (.int .i64 n24) (drew w2) ∧ ∃ q27 : Addr, (.pointer p0 : Value) = .pointer (some q27) ∧ ∃ m29 : Option Nat, Ru (Instr.loadAt 83 (.pointer (some (Addr.add q27 1)))) (drew w2) (.map m29) (drew w2) ∧ ∃ (a31 : Option Addr) (l31 c31 : Nat), Ru (Instr.lookup 83 (.map m29) (.int .i64 n16) false) (drew w2) (.slice a31 l31 c31) (drew w2) ∧ k_2 [.int .i64 (if (l31 : Int) < (if 0 > n24 then 0 else n24) then (l31 : Int) else (if 0 > n24 then 0 else n24))] (drew w2)
 else
 k_2 [.int .i64 0] w2)) fun x_2 w3 =>
 ∃ n6 : Int, nth x_2 0 = .int .i64 n6 ∧ Share (fun k_3 => (bif decide (n6 > 0) then
 ∃ q37 : Addr, (.pointer p0 : Value) = .pointer (some q37) ∧ ∃ (a39 : Option Addr) (l39 c39 : Nat), Ru (Instr.loadAt 82 (.pointer (some (Addr.add q37 0)))) (drew w3) (.slice a39 l39 c39) (drew w3) ∧ ∃ q42 : Addr, (.pointer p0 : Value) = .pointer (some q42) ∧ ∃ m44 : Option Nat, Ru (Instr.loadAt 83 (.pointer (some (Addr.add q42 1)))) (drew w3) (.map m44) (drew w3) ∧ ∃ (a46 : Option Addr) (l46 c46 : Nat), Ru (Instr.lookup 83 (.map m44) (.int .i64 n16) false) (drew w3) (.slice a46 l46 c46) (drew w3) ∧ ∃ q49 : Addr, Al (Instr.indexAt 82 (.slice a46 l46 c46) (.int .i64 (IntKind.i64.wrap (n6 - 1)))) (.pointer (some q49)) ∧ ∃ g50 : Array Value, Ru (Instr.loadAt 101 (.pointer (some q49))) (drew w3) (.agg g50) (drew w3) ∧ ∃ q51 : Addr, Al (Instr.indexAt 82 (.slice a39 l39 c39) (.int .i64 n16)) (.pointer (some q51)) ∧ ∃ w4 : World, RuU (Instr.storeAt 101 (.pointer (some q51)) (.agg g50)) (drew w3) w4 ∧ k_3 [] w4
 else
 k_3 [] w3)) fun x_3 w5 =>
 k [.int .i64 n6, .int .i64 (IntKind.i64.wrap (n12 + 1))] w5
 else
 ∃ q54 : Addr, (.pointer p0 : Value) = .pointer (some q54) ∧ ∃ m56 : Option Nat, Ru (Instr.loadAt 83 (.pointer (some (Addr.add q54 1)))) w2 (.map m56) w2 ∧ ∃ w6 : World, Ru (Builtin.clear_ #[83] 0 #[.map m56]) w2 (.tuple #[]) w6 ∧ ∃ q58 : Addr, (.pointer p0 : Value) = .pointer (some q58) ∧ ∃ w7 : World, RuU (Instr.storeAt 3 (.pointer (some (Addr.add q58 2))) (.int .i64 ((-1)))) w6 w7 ∧ K (.tuple #[]) w7)) [undef, .int .i64 0] w1)
set_option maxRecDepth 100000 in
theorem C_disk_Disk_Crash (p0 : Option Addr) (a1 : Option Addr) (l1 c1 : Nat) (w0 : World) (K : Value → World → Prop) (h : D_disk_Disk_Crash p0 a1 l1 c1 w0 K) : Cal Try.prog F_disk_Disk_Crash #[.pointer p0, .slice a1 l1 c1] w0 K :=
 denF_sound (A := { S := [6, 12], ty := [(6, 3), (12, 3)], raw := [] }) mixed Try.func40 (by kernel_rfl) (by kernel_rfl) ((show denF Try.prog _ Try.f40 _ w0 K = D_disk_Disk_Crash p0 a1 l1 c1 w0 K by kernel_rfl).mpr h)

/- (levee.disk.Disk).Writes: slots {};  -/
set_option maxRecDepth 100000 in
def D_disk_Disk_Writes (p0 : Option Addr) (n1 : Int) (w0 : World) (K : Value → World → Prop) : Prop :=
 (bif Option.isNone p0 then
 K (.int .i64 0) w0
 else
 ∃ q8 : Addr, (.pointer p0 : Value) = .pointer (some q8) ∧ ∃ m10 : Option Nat, Ru (Instr.loadAt 83 (.pointer (some (Addr.add q8 1)))) w0 (.map m10) w0 ∧ ∃ (a12 : Option Addr) (l12 c12 : Nat), Ru (Instr.lookup 83 (.map m10) (.int .i64 n1) false) w0 (.slice a12 l12 c12) w0 ∧ K (.int .i64 ((l12 : Int))) w0)
set_option maxRecDepth 100000 in
theorem C_disk_Disk_Writes (p0 : Option Addr) (n1 : Int) (w0 : World) (K : Value → World → Prop) (h : D_disk_Disk_Writes p0 n1 w0 K) : Cal Try.prog F_disk_Disk_Writes #[.pointer p0, .int .i64 n1] w0 K :=
 denF_sound (A := { S := [], ty := [], raw := [] }) mixed Try.func84 (by kernel_rfl) (by kernel_rfl) ((show denF Try.prog _ Try.f84 _ w0 K = D_disk_Disk_Writes p0 n1 w0 K by kernel_rfl).mpr h)

/- (levee.disk.Disk).Len: slots {};  -/
set_option maxRecDepth 100000 in
def D_disk_Disk_Len (p0 : Option Addr) (w0 : World) (K : Value → World → Prop) : Prop :=
 (bif Option.isNone p0 then
 K (.int .i64 0) w0
 else
 ∃ q6 : Addr, (.pointer p0 : Value) = .pointer (some q6) ∧ ∃ (a8 : Option Addr) (l8 c8 : Nat), Ru (Instr.loadAt 82 (.pointer (some (Addr.add q6 0)))) w0 (.slice a8 l8 c8) w0 ∧ K (.int .i64 ((l8 : Int))) w0)
set_option maxRecDepth 100000 in
theorem C_disk_Disk_Len (p0 : Option Addr) (w0 : World) (K : Value → World → Prop) (h : D_disk_Disk_Len p0 w0 K) : Cal Try.prog F_disk_Disk_Len #[.pointer p0] w0 K :=
 denF_sound (A := { S := [], ty := [], raw := [] }) mixed Try.func61 (by kernel_rfl) (by kernel_rfl) ((show denF Try.prog _ Try.f61 _ w0 K = D_disk_Disk_Len p0 w0 K by kernel_rfl).mpr h)

/- levee.disk.New: slots {9: ''};  -/
set_option maxRecDepth 100000 in
def D_disk_New (n0 : Int) (w0 : World) (K : Value → World → Prop) : Prop :=
 Share (fun k => (bif decide (n0 < 1) then k [.bool true] w0 else k [.bool (decide (n0 > 4096))] w0)) fun x w1 =>
 ∃ b9 : Bool, nth x 0 = .bool b9 ∧ (bif b9 then
 K (.tuple #[.pointer none, .int .i64 1]) w1
 else
 ∃ (a11 : Option Addr) (l11 c11 : Nat), ∃ w2 : World, Ru (Instr.makeSlice 82 (.int .i64 n0) (.int .i64 n0)) w1 (.slice a11 l11 c11) w2 ∧ ∃ m12 : Option Nat, ∃ w3 : World, Ru (Instr.makeMap 83 none) w2 (.map m12) w3 ∧ ∃ g13 : Array Value, Al (Instr.build 85 #[(0, .slice a11 l11 c11), (1, .map m12), (2, .int .i64 ((-1)))]) (.agg g13) ∧ ∃ q14 : Addr, ∃ w4 : World, Ru (Instr.box 85 (.agg g13)) w3 (.pointer (some q14)) w4 ∧ K (.tuple #[.pointer (some q14), .int .i64 0]) w4)
set_option maxRecDepth 100000 in
theorem C_disk_New (n0 : Int) (w0 : World) (K : Value → World → Prop) (h : D_disk_New n0 w0 K) : Cal Try.prog F_disk_New #[.int .i64 n0] w0 K :=
 denF_sound (A := { S := [9], ty := [(9, 4)], raw := [] }) mixed Try.func10 (by kernel_rfl) (by kernel_rfl) ((show denF Try.prog _ Try.f10 _ w0 K = D_disk_New n0 w0 K by kernel_rfl).mpr h)

/- levee.leveeref01.Fill: slots {4: 'i', 12: ''}; loop over [4, 12] -/
set_option maxRecDepth 100000 in
def D_leveeref01_Fill (a0 : Option Addr) (l0 c0 : Nat) (w0 : World) (K : Value → World → Prop) : Prop :=
 ∃ (a5 : Option Addr) (l5 c5 : Nat), ∃ w1 : World, Ru (Instr.makeSlice 32 (.int .i64 256) (.int .i64 256)) w0 (.slice a5 l5 c5) w1 ∧ LoopC (fun k x w2 =>
 Share (fun k_2 => ∃ n4 : Int, nth x 0 = .int .i64 n4 ∧ (bif decide (n4 < 256) then k_2 [.bool (decide ((l0 : Int) > 0))] w2 else k_2 [.bool false] w2)) fun x_2 w3 =>
 ∃ b12 : Bool, nth x_2 0 = .bool b12 ∧ (bif b12 then
 ∃ n4_2 : Int, nth x 0 = .int .i64 n4_2 ∧ ∃ n21 : Int, Al (eqS .rem 3 (.tmp 18) (.tmp 20) (.int .i64 n4_2) (.int .i64 ((l0 : Int)))) (.int .i64 n21) ∧ ∃ q22 : Addr, Al (Instr.indexAt 32 (.slice a0 l0 c0) (.int .i64 n21)) (.pointer (some q22)) ∧ ∃ n23 : Int, Ru (Instr.loadAt 5 (.pointer (some q22))) w3 (.int .u8 n23) w3 ∧ ∃ q24 : Addr, Al (Instr.indexAt 32 (.slice a5 l5 c5) (.int .i64 n4_2)) (.pointer (some q24)) ∧ ∃ w4 : World, RuU (Instr.storeAt 5 (.pointer (some q24)) (.int .u8 n23)) w3 w4 ∧ k [.int .i64 (IntKind.i64.wrap (n4_2 + 1)), .bool b12] w4
 else
 K (.slice a5 l5 c5) w3)) [.int .i64 0, undef] w1
set_option maxRecDepth 100000 in
theorem C_leveeref01_Fill (a0 : Option Addr) (l0 c0 : Nat) (w0 : World) (K : Value → World → Prop) (h : D_leveeref01_Fill a0 l0 c0 w0 K) : Cal Try.prog F_leveeref01_Fill #[.slice a0 l0 c0] w0 K :=
 denF_sound (A := { S := [4, 12], ty := [(4, 3), (12, 4)], raw := [] }) mixed Try.func16 (by kernel_rfl) (by kernel_rfl) ((show denF Try.prog _ Try.f16 _ w0 K = D_leveeref01_Fill a0 l0 c0 w0 K by kernel_rfl).mpr h)

end Go.Proofs.Ytgcecmfjpljpcaa
