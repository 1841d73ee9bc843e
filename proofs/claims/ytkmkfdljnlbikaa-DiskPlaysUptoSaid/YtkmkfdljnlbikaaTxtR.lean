/- What functions of the translation come to, as printed by a program of this session. -/
import Derived.Test.YtkmkfdljnlbikaaIds
open Go Go.Den Go.Proofs
namespace Go.Proofs.Ytkmkfdljnlbikaa

/- levee.leveeref02.Load: slots {5: 'i', 20: ''}; loop over [5] -/
set_option maxRecDepth 100000 in
def D_leveeref02_Load (a0 : Option Addr) (l0 c0 : Nat) (w0 : World) (K : Value → World → Prop) : Prop :=
 Share (fun k => (bif (Int.tmod (l0 : Int) 256) != 0 then k [.bool true] w0 else (bif (l0 : Int) == 0 then k [.bool true] w0 else k [.bool (decide ((IntKind.i64.wrap (Int.tdiv (l0 : Int) 256)) > 4096))] w0))) fun x w1 =>
 ∃ b20 : Bool, nth x 0 = .bool b20 ∧ (bif b20 then
 K (.tuple #[.pointer none, .int .i64 1]) w1
 else
 ∃ g21 : Array Value, Al (Instr.build 94 #[]) (.agg g21) ∧ ∃ q22 : Addr, ∃ w2 : World, Ru (Instr.box 94 (.agg g21)) w1 (.pointer (some q22)) w2 ∧ LoopC (fun k_2 x_2 w3 =>
 ∃ n5 : Int, nth x_2 0 = .int .i64 n5 ∧ (bif decide (n5 < (l0 : Int)) then
 ∃ q31 : Addr, (.pointer (some q22) : Value) = .pointer (some q31) ∧ ∃ (a33 : Option Addr) (l33 c33 : Nat), Ru (Instr.loadAt 92 (.pointer (some (Addr.add q31 0)))) (drew w3) (.slice a33 l33 c33) (drew w3) ∧ ∃ (a38 : Option Addr) (l38 c38 : Nat), Al (Instr.sliceAt 40 (.slice a0 l0 c0) (some (.int .i64 n5)) (some (.int .i64 (IntKind.i64.wrap (n5 + 256)))) none) (.slice a38 l38 c38) ∧ ∃ s39 : ByteArray, Ru (convert 40 9 (.slice a38 l38 c38)) (drew w3) (.string s39) (drew w3) ∧ ∃ (a40 : Option Addr) (l40 c40 : Nat), ∃ w4 : World, Ru (Instr.buildSlice 95 1 #[(0, .string s39)]) (drew w3) (.slice a40 l40 c40) w4 ∧ Ru (Instr.loadAt 92 (.pointer (some (Addr.add q31 0)))) w4 (.slice a33 l33 c33) w4 ∧ ∃ g41 : Array Value, Al (Instr.build 97 #[(0, .slice a40 l40 c40)]) (.agg g41) ∧ ∃ (a42 : Option Addr) (l42 c42 : Nat), ∃ w5 : World, Ru (Instr.buildSlice 92 1 #[(0, .agg g41)]) w4 (.slice a42 l42 c42) w5 ∧ Ru (Instr.loadAt 92 (.pointer (some (Addr.add q31 0)))) w5 (.slice a33 l33 c33) w5 ∧ ∃ (a43 : Option Addr) (l43 c43 : Nat), ∃ w6 : World, Ru (Builtin.append_ #[92, 92] 92 #[.slice a33 l33 c33, .slice a42 l42 c42]) w5 (.slice a43 l43 c43) w6 ∧ ∃ q44 : Addr, (.pointer (some q22) : Value) = .pointer (some q44) ∧ ∃ w7 : World, RuU (Instr.storeAt 92 (.pointer (some (Addr.add q44 0))) (.slice a43 l43 c43)) w6 w7 ∧ k_2 [.int .i64 (IntKind.i64.wrap (n5 + 256))] w7
 else
 K (.tuple #[.pointer (some q22), .int .i64 0]) w3)) [.int .i64 0] w2)
set_option maxRecDepth 100000 in
theorem C_leveeref02_Load (a0 : Option Addr) (l0 c0 : Nat) (w0 : World) (K : Value → World → Prop) (h : D_leveeref02_Load a0 l0 c0 w0 K) : Cal Try.prog F_leveeref02_Load #[.slice a0 l0 c0] w0 K :=
 denF_sound (A := { S := [5, 20], ty := [(5, 3), (20, 4)], raw := [] }) mixed Try.func36 (by kernel_rfl) (by kernel_rfl) ((show denF Try.prog _ Try.f36 _ w0 K = D_leveeref02_Load a0 l0 c0 w0 K by kernel_rfl).mpr h)

/- levee.leveeref02.New: slots {5: 'i', 11: ''}; loop over [5] -/
set_option maxRecDepth 100000 in
def D_leveeref02_New (n0 : Int) (w0 : World) (K : Value → World → Prop) : Prop :=
 Share (fun k => (bif decide (n0 < 1) then k [.bool true] w0 else k [.bool (decide (n0 > 4096))] w0)) fun x w1 =>
 ∃ b11 : Bool, nth x 0 = .bool b11 ∧ (bif b11 then
 K (.tuple #[.pointer none, .int .i64 1]) w1
 else
 ∃ g12 : Array Value, Al (Instr.build 94 #[]) (.agg g12) ∧ ∃ q13 : Addr, ∃ w2 : World, Ru (Instr.box 94 (.agg g12)) w1 (.pointer (some q13)) w2 ∧ LoopC (fun k_2 x_2 w3 =>
 ∃ n5 : Int, nth x_2 0 = .int .i64 n5 ∧ (bif decide (n5 < n0) then
 ∃ q21 : Addr, (.pointer (some q13) : Value) = .pointer (some q21) ∧ ∃ (a23 : Option Addr) (l23 c23 : Nat), Ru (Instr.loadAt 92 (.pointer (some (Addr.add q21 0)))) (drew w3) (.slice a23 l23 c23) (drew w3) ∧ Cal Try.prog F_leveeref02_none #[] (drew w3) fun r24 w4 => ∃ s24 : ByteArray, r24 = .string s24 ∧ Ru (Instr.loadAt 92 (.pointer (some (Addr.add q21 0)))) w4 (.slice a23 l23 c23) w4 ∧ ∃ (a25 : Option Addr) (l25 c25 : Nat), ∃ w5 : World, Ru (Instr.buildSlice 95 1 #[(0, .string s24)]) w4 (.slice a25 l25 c25) w5 ∧ Ru (Instr.loadAt 92 (.pointer (some (Addr.add q21 0)))) w5 (.slice a23 l23 c23) w5 ∧ ∃ g26 : Array Value, Al (Instr.build 97 #[(0, .slice a25 l25 c25)]) (.agg g26) ∧ ∃ (a27 : Option Addr) (l27 c27 : Nat), ∃ w6 : World, Ru (Instr.buildSlice 92 1 #[(0, .agg g26)]) w5 (.slice a27 l27 c27) w6 ∧ Ru (Instr.loadAt 92 (.pointer (some (Addr.add q21 0)))) w6 (.slice a23 l23 c23) w6 ∧ ∃ (a28 : Option Addr) (l28 c28 : Nat), ∃ w7 : World, Ru (Builtin.append_ #[92, 92] 92 #[.slice a23 l23 c23, .slice a27 l27 c27]) w6 (.slice a28 l28 c28) w7 ∧ ∃ q29 : Addr, (.pointer (some q13) : Value) = .pointer (some q29) ∧ ∃ w8 : World, RuU (Instr.storeAt 92 (.pointer (some (Addr.add q29 0))) (.slice a28 l28 c28)) w7 w8 ∧ k_2 [.int .i64 (IntKind.i64.wrap (n5 + 1))] w8
 else
 K (.tuple #[.pointer (some q13), .int .i64 0]) w3)) [.int .i64 0] w2)
set_option maxRecDepth 100000 in
theorem C_leveeref02_New (n0 : Int) (w0 : World) (K : Value → World → Prop) (h : D_leveeref02_New n0 w0 K) : Cal Try.prog F_leveeref02_New #[.int .i64 n0] w0 K :=
 denF_sound (A := { S := [5, 11], ty := [(5, 3), (11, 4)], raw := [] }) mixed Try.func39 (by kernel_rfl) (by kernel_rfl) ((show denF Try.prog _ Try.f39 _ w0 K = D_leveeref02_New n0 w0 K by kernel_rfl).mpr h)

/- levee.leveeref02.none: slots {};  -/
set_option maxRecDepth 100000 in
def D_leveeref02_none (w0 : World) (K : Value → World → Prop) : Prop :=
 ∃ (a1 : Option Addr) (l1 c1 : Nat), ∃ w1 : World, Ru (Instr.makeSlice 40 (.int .i64 256) (.int .i64 256)) w0 (.slice a1 l1 c1) w1 ∧ ∃ s2 : ByteArray, Ru (convert 40 9 (.slice a1 l1 c1)) w1 (.string s2) w1 ∧ K (.string s2) w1
set_option maxRecDepth 100000 in
theorem C_leveeref02_none (w0 : World) (K : Value → World → Prop) (h : D_leveeref02_none  w0 K) : Cal Try.prog F_leveeref02_none #[] w0 K :=
 denF_sound (A := { S := [], ty := [], raw := [] }) mixed Try.func63 (by kernel_rfl) (by kernel_rfl) ((show denF Try.prog _ Try.f63 _ w0 K = D_leveeref02_none  w0 K by kernel_rfl).mpr h)

/- (levee.leveeref02.Disk).Read: slots {};  -/
set_option maxRecDepth 100000 in
def D_leveeref02_Disk_Read (p0 : Option Addr) (n1 : Int) (w0 : World) (K : Value → World → Prop) : Prop :=
 Cal Try.prog F_leveeref02_Disk_there #[.pointer p0, .int .i64 n1] w0 fun r9 w1 => ∃ b9 : Bool, r9 = .bool b9 ∧ (bif !b9 then
 K (.tuple #[.slice none 0 0, .int .i64 3]) w1
 else
 ∃ q12 : Addr, (.pointer p0 : Value) = .pointer (some q12) ∧ ∃ (a14 : Option Addr) (l14 c14 : Nat), Ru (Instr.loadAt 92 (.pointer (some (Addr.add q12 0)))) w1 (.slice a14 l14 c14) w1 ∧ ∃ q16 : Addr, Al (Instr.indexAt 92 (.slice a14 l14 c14) (.int .i64 n1)) (.pointer (some q16)) ∧ ∃ (a18 : Option Addr) (l18 c18 : Nat), Ru (Instr.loadAt 95 (.pointer (some (Addr.add q16 0)))) w1 (.slice a18 l18 c18) w1 ∧ ∃ q23 : Addr, Al (Instr.indexAt 95 (.slice a18 l18 c18) (.int .i64 (IntKind.i64.wrap ((l18 : Int) - 1)))) (.pointer (some q23)) ∧ ∃ s24 : ByteArray, Ru (Instr.loadAt 9 (.pointer (some q23))) w1 (.string s24) w1 ∧ ∃ (a25 : Option Addr) (l25 c25 : Nat), ∃ w2 : World, Ru (convert 9 40 (.string s24)) w1 (.slice a25 l25 c25) w2 ∧ K (.tuple #[.slice a25 l25 c25, .int .i64 0]) w2)
set_option maxRecDepth 100000 in
theorem C_leveeref02_Disk_Read (p0 : Option Addr) (n1 : Int) (w0 : World) (K : Value → World → Prop) (h : D_leveeref02_Disk_Read p0 n1 w0 K) : Cal Try.prog F_leveeref02_Disk_Read #[.pointer p0, .int .i64 n1] w0 K :=
 denF_sound (A := { S := [], ty := [], raw := [] }) mixed Try.func56 (by kernel_rfl) (by kernel_rfl) ((show denF Try.prog _ Try.f56 _ w0 K = D_leveeref02_Disk_Read p0 n1 w0 K by kernel_rfl).mpr h)

/- (levee.leveeref02.Disk).Safe: slots {};  -/
set_option maxRecDepth 100000 in
def D_leveeref02_Disk_Safe (p0 : Option Addr) (n1 : Int) (w0 : World) (K : Value → World → Prop) : Prop :=
 Cal Try.prog F_leveeref02_Disk_there #[.pointer p0, .int .i64 n1] w0 fun r8 w1 => ∃ b8 : Bool, r8 = .bool b8 ∧ (bif !b8 then
 K (.tuple #[.slice none 0 0, .int .i64 3]) w1
 else
 ∃ q11 : Addr, (.pointer p0 : Value) = .pointer (some q11) ∧ ∃ (a13 : Option Addr) (l13 c13 : Nat), Ru (Instr.loadAt 92 (.pointer (some (Addr.add q11 0)))) w1 (.slice a13 l13 c13) w1 ∧ ∃ q15 : Addr, Al (Instr.indexAt 92 (.slice a13 l13 c13) (.int .i64 n1)) (.pointer (some q15)) ∧ ∃ (a17 : Option Addr) (l17 c17 : Nat), Ru (Instr.loadAt 95 (.pointer (some (Addr.add q15 0)))) w1 (.slice a17 l17 c17) w1 ∧ ∃ q18 : Addr, Al (Instr.indexAt 95 (.slice a17 l17 c17) (.int .i64 0)) (.pointer (some q18)) ∧ ∃ s19 : ByteArray, Ru (Instr.loadAt 9 (.pointer (some q18))) w1 (.string s19) w1 ∧ ∃ (a20 : Option Addr) (l20 c20 : Nat), ∃ w2 : World, Ru (convert 9 40 (.string s19)) w1 (.slice a20 l20 c20) w2 ∧ K (.tuple #[.slice a20 l20 c20, .int .i64 0]) w2)
set_option maxRecDepth 100000 in
theorem C_leveeref02_Disk_Safe (p0 : Option Addr) (n1 : Int) (w0 : World) (K : Value → World → Prop) (h : D_leveeref02_Disk_Safe p0 n1 w0 K) : Cal Try.prog F_leveeref02_Disk_Safe #[.pointer p0, .int .i64 n1] w0 K :=
 denF_sound (A := { S := [], ty := [], raw := [] }) mixed Try.func58 (by kernel_rfl) (by kernel_rfl) ((show denF Try.prog _ Try.f58 _ w0 K = D_leveeref02_Disk_Safe p0 n1 w0 K by kernel_rfl).mpr h)

/- (levee.leveeref02.Disk).there: slots {4: ''};  -/
set_option maxRecDepth 100000 in
def D_leveeref02_Disk_there (p0 : Option Addr) (n1 : Int) (w0 : World) (K : Value → World → Prop) : Prop :=
 Share (fun k => (bif decide (n1 ≥ 0) then ∃ q10 : Addr, (.pointer p0 : Value) = .pointer (some q10) ∧ ∃ (a12 : Option Addr) (l12 c12 : Nat), Ru (Instr.loadAt 92 (.pointer (some (Addr.add q10 0)))) w0 (.slice a12 l12 c12) w0 ∧ k [.bool (decide (n1 < (l12 : Int)))] w0 else k [.bool false] w0)) fun x w1 =>
 ∃ b4 : Bool, nth x 0 = .bool b4 ∧ K (.bool b4) w1
set_option maxRecDepth 100000 in
theorem C_leveeref02_Disk_there (p0 : Option Addr) (n1 : Int) (w0 : World) (K : Value → World → Prop) (h : D_leveeref02_Disk_there p0 n1 w0 K) : Cal Try.prog F_leveeref02_Disk_there #[.pointer p0, .int .i64 n1] w0 K :=
 denF_sound (A := { S := [4], ty := [(4, 4)], raw := [] }) mixed Try.func72 (by kernel_rfl) (by kernel_rfl) ((show denF Try.prog _ Try.f72 _ w0 K = D_leveeref02_Disk_there p0 n1 w0 K by kernel_rfl).mpr h)

/- (levee.leveeref02.Disk).Open: slots {3: 'out', 4: 'i'}; loop over [3, 4] -/
set_option maxRecDepth 100000 in
def D_leveeref02_Disk_Open (p0 : Option Addr) (w0 : World) (K : Value → World → Prop) : Prop :=
 LoopC (fun k x w1 =>
 ∃ n4 : Int, nth x 1 = .int .i64 n4 ∧ ∃ q7 : Addr, (.pointer p0 : Value) = .pointer (some q7) ∧ ∃ (a9 : Option Addr) (l9 c9 : Nat), Ru (Instr.loadAt 92 (.pointer (some (Addr.add q7 0)))) w1 (.slice a9 l9 c9) w1 ∧ (bif decide (n4 < (l9 : Int)) then
 Cal Try.prog F_leveeref02_Disk_Writes #[.pointer p0, .int .i64 n4] w1 fun r16 w2 => ∃ n16 : Int, r16 = .int .i64 n16 ∧ Share (fun k_2 => (bif decide (n16 > 0) then
 ∃ (a3 : Option Addr) (l3 c3 : Nat), nth x 0 = .slice a3 l3 c3 ∧ ∃ (a20 : Option Addr) (l20 c20 : Nat), ∃ w3 : World, Ru (Instr.buildSlice 42 1 #[(0, .int .i64 n4)]) w2 (.slice a20 l20 c20) w3 ∧ ∃ (a21 : Option Addr) (l21 c21 : Nat), ∃ w4 : World, Ru (Builtin.append_ #[42, 42] 42 #[.slice a3 l3 c3, .slice a20 l20 c20]) w3 (.slice a21 l21 c21) w4 ∧ k_2 [.slice a21 l21 c21] w4
 else
 k_2 [nth x 0] w2)) fun x_2 w5 =>
 k [nth x_2 0, .int .i64 (IntKind.i64.wrap (n4 + 1))] w5
 else
 ∃ (a3_2 : Option Addr) (l3_2 c3_2 : Nat), nth x 0 = .slice a3_2 l3_2 c3_2 ∧ K (.slice a3_2 l3_2 c3_2) w1)) [.slice none 0 0, .int .i64 0] w0
set_option maxRecDepth 100000 in
theorem C_leveeref02_Disk_Open (p0 : Option Addr) (w0 : World) (K : Value → World → Prop) (h : D_leveeref02_Disk_Open p0 w0 K) : Cal Try.prog F_leveeref02_Disk_Open #[.pointer p0] w0 K :=
 denF_sound (A := { S := [3, 4], ty := [(3, 42), (4, 3)], raw := [] }) mixed Try.func59 (by kernel_rfl) (by kernel_rfl) ((show denF Try.prog _ Try.f59 _ w0 K = D_leveeref02_Disk_Open p0 w0 K by kernel_rfl).mpr h)

/- (levee.leveeref02.Disk).Writes: slots {};  -/
set_option maxRecDepth 100000 in
def D_leveeref02_Disk_Writes (p0 : Option Addr) (n1 : Int) (w0 : World) (K : Value → World → Prop) : Prop :=
 Cal Try.prog F_leveeref02_Disk_there #[.pointer p0, .int .i64 n1] w0 fun r7 w1 => ∃ b7 : Bool, r7 = .bool b7 ∧ (bif !b7 then
 K (.int .i64 0) w1
 else
 ∃ q10 : Addr, (.pointer p0 : Value) = .pointer (some q10) ∧ ∃ (a12 : Option Addr) (l12 c12 : Nat), Ru (Instr.loadAt 92 (.pointer (some (Addr.add q10 0)))) w1 (.slice a12 l12 c12) w1 ∧ ∃ q14 : Addr, Al (Instr.indexAt 92 (.slice a12 l12 c12) (.int .i64 n1)) (.pointer (some q14)) ∧ ∃ (a16 : Option Addr) (l16 c16 : Nat), Ru (Instr.loadAt 95 (.pointer (some (Addr.add q14 0)))) w1 (.slice a16 l16 c16) w1 ∧ K (.int .i64 (IntKind.i64.wrap ((l16 : Int) - 1))) w1)
set_option maxRecDepth 100000 in
theorem C_leveeref02_Disk_Writes (p0 : Option Addr) (n1 : Int) (w0 : World) (K : Value → World → Prop) (h : D_leveeref02_Disk_Writes p0 n1 w0 K) : Cal Try.prog F_leveeref02_Disk_Writes #[.pointer p0, .int .i64 n1] w0 K :=
 denF_sound (A := { S := [], ty := [], raw := [] }) mixed Try.func60 (by kernel_rfl) (by kernel_rfl) ((show denF Try.prog _ Try.f60 _ w0 K = D_leveeref02_Disk_Writes p0 n1 w0 K by kernel_rfl).mpr h)

/- (levee.leveeref02.Disk).Stopped: slots {2: ''};  -/
set_option maxRecDepth 100000 in
def D_leveeref02_Disk_Stopped (p0 : Option Addr) (w0 : World) (K : Value → World → Prop) : Prop :=
 Share (fun k => ∃ q4 : Addr, (.pointer p0 : Value) = .pointer (some q4) ∧ ∃ b6 : Bool, Ru (Instr.loadAt 4 (.pointer (some (Addr.add q4 1)))) w0 (.bool b6) w0 ∧ (bif b6 then ∃ q9 : Addr, (.pointer p0 : Value) = .pointer (some q9) ∧ ∃ n11 : Int, Ru (Instr.loadAt 3 (.pointer (some (Addr.add q9 2)))) w0 (.int .i64 n11) w0 ∧ k [.bool (n11 == 0)] w0 else k [.bool false] w0)) fun x w1 =>
 ∃ b2 : Bool, nth x 0 = .bool b2 ∧ K (.bool b2) w1
set_option maxRecDepth 100000 in
theorem C_leveeref02_Disk_Stopped (p0 : Option Addr) (w0 : World) (K : Value → World → Prop) (h : D_leveeref02_Disk_Stopped p0 w0 K) : Cal Try.prog F_leveeref02_Disk_Stopped #[.pointer p0] w0 K :=
 denF_sound (A := { S := [2], ty := [(2, 4)], raw := [] }) mixed Try.func62 (by kernel_rfl) (by kernel_rfl) ((show denF Try.prog _ Try.f62 _ w0 K = D_leveeref02_Disk_Stopped p0 w0 K by kernel_rfl).mpr h)

/- (levee.leveeref02.Disk).Stop: slots {};  -/
set_option maxRecDepth 100000 in
def D_leveeref02_Disk_Stop (p0 : Option Addr) (n1 : Int) (w0 : World) (K : Value → World → Prop) : Prop :=
 ∃ q5 : Addr, (.pointer p0 : Value) = .pointer (some q5) ∧ ∃ w1 : World, RuU (Instr.storeAt 4 (.pointer (some (Addr.add q5 1))) (.bool true)) w0 w1 ∧ ∃ q9 : Addr, (.pointer p0 : Value) = .pointer (some q9) ∧ ∃ w2 : World, RuU (Instr.storeAt 3 (.pointer (some (Addr.add q9 2))) (.int .i64 n1)) w1 w2 ∧ Share (fun k => (bif decide (n1 < 0) then
 ∃ q14 : Addr, (.pointer p0 : Value) = .pointer (some q14) ∧ ∃ w3 : World, RuU (Instr.storeAt 3 (.pointer (some (Addr.add q14 2))) (.int .i64 0)) w2 w3 ∧ k [] w3
 else
 k [] w2)) fun x w4 =>
 K (.tuple #[]) w4
set_option maxRecDepth 100000 in
theorem C_leveeref02_Disk_Stop (p0 : Option Addr) (n1 : Int) (w0 : World) (K : Value → World → Prop) (h : D_leveeref02_Disk_Stop p0 n1 w0 K) : Cal Try.prog F_leveeref02_Disk_Stop #[.pointer p0, .int .i64 n1] w0 K :=
 denF_sound (A := { S := [], ty := [], raw := [] }) mixed Try.func69 (by kernel_rfl) (by kernel_rfl) ((show denF Try.prog _ Try.f69 _ w0 K = D_leveeref02_Disk_Stop p0 n1 w0 K by kernel_rfl).mpr h)

/- (levee.leveeref02.Disk).goes: slots {};  -/
set_option maxRecDepth 100000 in
def D_leveeref02_Disk_goes (p0 : Option Addr) (w0 : World) (K : Value → World → Prop) : Prop :=
 Cal Try.prog F_leveeref02_Disk_Stopped #[.pointer p0] w0 fun r4 w1 => ∃ b4 : Bool, r4 = .bool b4 ∧ (bif b4 then
 K (.bool false) w1
 else
 ∃ q6 : Addr, (.pointer p0 : Value) = .pointer (some q6) ∧ ∃ b8 : Bool, Ru (Instr.loadAt 4 (.pointer (some (Addr.add q6 1)))) w1 (.bool b8) w1 ∧ Share (fun k => (bif b8 then
 ∃ q10 : Addr, (.pointer p0 : Value) = .pointer (some q10) ∧ ∃ n12 : Int, Ru (Instr.loadAt 3 (.pointer (some (Addr.add q10 2)))) w1 (.int .i64 n12) w1 ∧ ∃ q14 : Addr, (.pointer p0 : Value) = .pointer (some q14) ∧ ∃ w2 : World, RuU (Instr.storeAt 3 (.pointer (some (Addr.add q14 2))) (.int .i64 (IntKind.i64.wrap (n12 - 1)))) w1 w2 ∧ k [] w2
 else
 k [] w1)) fun x w3 =>
 K (.bool true) w3)
set_option maxRecDepth 100000 in
theorem C_leveeref02_Disk_goes (p0 : Option Addr) (w0 : World) (K : Value → World → Prop) (h : D_leveeref02_Disk_goes p0 w0 K) : Cal Try.prog F_leveeref02_Disk_goes #[.pointer p0] w0 K :=
 denF_sound (A := { S := [], ty := [], raw := [] }) mixed Try.func73 (by kernel_rfl) (by kernel_rfl) ((show denF Try.prog _ Try.f73 _ w0 K = D_leveeref02_Disk_goes p0 w0 K by kernel_rfl).mpr h)

/- (levee.leveeref02.Disk).Write: slots {};  -/
set_option maxRecDepth 100000 in
def D_leveeref02_Disk_Write (p0 : Option Addr) (n1 : Int) (a2 : Option Addr) (l2 c2 : Nat) (w0 : World) (K : Value → World → Prop) : Prop :=
 Cal Try.prog F_leveeref02_Disk_there #[.pointer p0, .int .i64 n1] w0 fun r10 w1 => ∃ b10 : Bool, r10 = .bool b10 ∧ (bif !b10 then
 K (.int .i64 3) w1
 else
 (bif (l2 : Int) != 256 then
 K (.int .i64 4) w1
 else
 Cal Try.prog F_leveeref02_Disk_goes #[.pointer p0] w1 fun r16 w2 => ∃ b16 : Bool, r16 = .bool b16 ∧ (bif !b16 then
 K (.int .i64 0) w2
 else
 ∃ q20 : Addr, (.pointer p0 : Value) = .pointer (some q20) ∧ ∃ (a22 : Option Addr) (l22 c22 : Nat), Ru (Instr.loadAt 92 (.pointer (some (Addr.add q20 0)))) w2 (.slice a22 l22 c22) w2 ∧ ∃ q24 : Addr, Al (Instr.indexAt 92 (.slice a22 l22 c22) (.int .i64 n1)) (.pointer (some q24)) ∧ ∃ (a26 : Option Addr) (l26 c26 : Nat), Ru (Instr.loadAt 95 (.pointer (some (Addr.add q24 0)))) w2 (.slice a26 l26 c26) w2 ∧ ∃ (a27 : Option Addr) (l27 c27 : Nat), ∃ w3 : World, Ru (Builtin.append_ #[95, 95] 95 #[.slice none 0 0, .slice a26 l26 c26]) w2 (.slice a27 l27 c27) w3 ∧ ∃ q29 : Addr, (.pointer p0 : Value) = .pointer (some q29) ∧ ∃ (a31 : Option Addr) (l31 c31 : Nat), Ru (Instr.loadAt 92 (.pointer (some (Addr.add q29 0)))) (drew w3) (.slice a31 l31 c31) (drew w3) ∧ ∃ s35 : ByteArray, Ru (convert 40 9 (.slice a2 l2 c2)) (drew w3) (.string s35) (drew w3) ∧ ∃ (a36 : Option Addr) (l36 c36 : Nat), ∃ w4 : World, Ru (Instr.buildSlice 95 1 #[(0, .string s35)]) (drew w3) (.slice a36 l36 c36) w4 ∧ Ru (Instr.loadAt 92 (.pointer (some (Addr.add q29 0)))) w4 (.slice a31 l31 c31) w4 ∧ ∃ (a37 : Option Addr) (l37 c37 : Nat), ∃ w5 : World, Ru (Builtin.append_ #[95, 95] 95 #[.slice a27 l27 c27, .slice a36 l36 c36]) w4 (.slice a37 l37 c37) w5 ∧ Ru (Instr.loadAt 92 (.pointer (some (Addr.add q29 0)))) w5 (.slice a31 l31 c31) w5 ∧ ∃ q38 : Addr, Al (Instr.indexAt 92 (.slice a31 l31 c31) (.int .i64 n1)) (.pointer (some q38)) ∧ ∃ w6 : World, RuU (Instr.storeAt 95 (.pointer (some (Addr.add q38 0))) (.slice a37 l37 c37)) w5 w6 ∧ K (.int .i64 0) w6)))
set_option maxRecDepth 100000 in
theorem C_leveeref02_Disk_Write (p0 : Option Addr) (n1 : Int) (a2 : Option Addr) (l2 c2 : Nat) (w0 : World) (K : Value → World → Prop) (h : D_leveeref02_Disk_Write p0 n1 a2 l2 c2 w0 K) : Cal Try.prog F_leveeref02_Disk_Write #[.pointer p0, .int .i64 n1, .slice a2 l2 c2] w0 K :=
 denF_sound (A := { S := [], ty := [], raw := [] }) mixed Try.func65 (by kernel_rfl) (by kernel_rfl) ((show denF Try.prog _ Try.f65 _ w0 K = D_leveeref02_Disk_Write p0 n1 a2 l2 c2 w0 K by kernel_rfl).mpr h)

/- (levee.leveeref02.Disk).Flush: slots {3: 'i'}; loop over [3] -/
set_option maxRecDepth 100000 in
def D_leveeref02_Disk_Flush (p0 : Option Addr) (w0 : World) (K : Value → World → Prop) : Prop :=
 Cal Try.prog F_leveeref02_Disk_goes #[.pointer p0] w0 fun r6 w1 => ∃ b6 : Bool, r6 = .bool b6 ∧ (bif !b6 then
 K (.int .i64 0) w1
 else
 LoopC (fun k x w2 =>
 ∃ n3 : Int, nth x 0 = .int .i64 n3 ∧ ∃ q10 : Addr, (.pointer p0 : Value) = .pointer (some q10) ∧ ∃ (a12 : Option Addr) (l12 c12 : Nat), Ru (Instr.loadAt 92 (.pointer (some (Addr.add q10 0)))) w2 (.slice a12 l12 c12) w2 ∧ (bif decide (n3 < (l12 : Int)) then
 ∃ q18 : Addr, (.pointer p0 : Value) = .pointer (some q18) ∧ ∃ (a20 : Option Addr) (l20 c20 : Nat), Ru (Instr.loadAt 92 (.pointer (some (Addr.add q18 0)))) w2 (.slice a20 l20 c20) w2 ∧ ∃ q22 : Addr, Al (Instr.indexAt 92 (.slice a20 l20 c20) (.int .i64 n3)) (.pointer (some q22)) ∧ ∃ (a24 : Option Addr) (l24 c24 : Nat), Ru (Instr.loadAt 95 (.pointer (some (Addr.add q22 0)))) w2 (.slice a24 l24 c24) w2 ∧ ∃ q26 : Addr, (.pointer p0 : Value) = .pointer (some q26) ∧ ∃ (a28 : Option Addr) (l28 c28 : Nat), Ru (Instr.loadAt 92 (.pointer (some (Addr.add q26 0)))) (drew w2) (.slice a28 l28 c28) (drew w2) ∧ ∃ q34 : Addr, Al (Instr.indexAt 95 (.slice a24 l24 c24) (.int .i64 (IntKind.i64.wrap ((l24 : Int) - 1)))) (.pointer (some q34)) ∧ ∃ s35 : ByteArray, Ru (Instr.loadAt 9 (.pointer (some q34))) (drew w2) (.string s35) (drew w2) ∧ ∃ (a36 : Option Addr) (l36 c36 : Nat), ∃ w3 : World, Ru (Instr.buildSlice 95 1 #[(0, .string s35)]) (drew w2) (.slice a36 l36 c36) w3 ∧ Ru (Instr.loadAt 92 (.pointer (some (Addr.add q26 0)))) w3 (.slice a28 l28 c28) w3 ∧ ∃ q37 : Addr, Al (Instr.indexAt 92 (.slice a28 l28 c28) (.int .i64 n3)) (.pointer (some q37)) ∧ ∃ w4 : World, RuU (Instr.storeAt 95 (.pointer (some (Addr.add q37 0))) (.slice a36 l36 c36)) w3 w4 ∧ k [.int .i64 (IntKind.i64.wrap (n3 + 1))] w4
 else
 K (.int .i64 0) w2)) [.int .i64 0] w1)
set_option maxRecDepth 100000 in
theorem C_leveeref02_Disk_Flush (p0 : Option Addr) (w0 : World) (K : Value → World → Prop) (h : D_leveeref02_Disk_Flush p0 w0 K) : Cal Try.prog F_leveeref02_Disk_Flush #[.pointer p0] w0 K :=
 denF_sound (A := { S := [3], ty := [(3, 3)], raw := [] }) mixed Try.func66 (by kernel_rfl) (by kernel_rfl) ((show denF Try.prog _ Try.f66 _ w0 K = D_leveeref02_Disk_Flush p0 w0 K by kernel_rfl).mpr h)

/- (levee.leveeref02.Disk).Crash: slots {5: 'i', 6: 'k', 25: ''}; loop over [5, 6, 25] -/
set_option maxRecDepth 100000 in
def D_leveeref02_Disk_Crash (p0 : Option Addr) (a1 : Option Addr) (l1 c1 : Nat) (w0 : World) (K : Value → World → Prop) : Prop :=
 Cal Try.prog F_leveeref02_Disk_Open #[.pointer p0] w0 fun r8 w1 => ∃ (a8 : Option Addr) (l8 c8 : Nat), r8 = .slice a8 l8 c8 ∧ LoopC (fun k x w2 =>
 ∃ n5 : Int, nth x 0 = .int .i64 n5 ∧ (bif decide (n5 < (l8 : Int)) then
 Share (fun k_2 => (bif decide (n5 < (l1 : Int)) then ∃ q22 : Addr, Al (Instr.indexAt 42 (.slice a1 l1 c1) (.int .i64 n5)) (.pointer (some q22)) ∧ ∃ n23 : Int, Ru (Instr.loadAt 3 (.pointer (some q22))) w2 (.int .i64 n23) w2 ∧ k_2 [.bool (decide (n23 > 0))] w2 else k_2 [.bool false] w2)) fun x_2 w3 =>
 ∃ b25 : Bool, nth x_2 0 = .bool b25 ∧ Share (fun k_3 => (bif b25 then
 ∃ q28 : Addr, Al (Instr.indexAt 42 (.slice a1 l1 c1) (.int .i64 n5)) (.pointer (some q28)) ∧ ∃ n29 : Int, Ru (Instr.loadAt 3 (.pointer (some q28))) w3 (.int .i64 n29) w3 ∧ k_3 [.int .i64 n29] w3
 else
 k_3 [.int .i64 0] w3)) fun x_3 w4 =>
 ∃ n6 : Int, nth x_3 0 = .int .i64 n6 ∧ ∃ q34 : Addr, Al (Instr.indexAt 42 (.slice a8 l8 c8) (.int .i64 n5)) (.pointer (some q34)) ∧ ∃ n35 : Int, Ru (Instr.loadAt 3 (.pointer (some q34))) w4 (.int .i64 n35) w4 ∧ Cal Try.prog F_leveeref02_Disk_Writes #[.pointer p0, .int .i64 n35] w4 fun r36 w5 => ∃ n36 : Int, r36 = .int .i64 n36 ∧ Share (fun k_4 => (bif decide (n6 > n36) then
 ∃ q41 : Addr, Al (Instr.indexAt 42 (.slice a8 l8 c8) (.int .i64 n5)) (.pointer (some q41)) ∧ ∃ n42 : Int, Ru (Instr.loadAt 3 (.pointer (some q41))) w5 (.int .i64 n42) w5 ∧ Cal Try.prog F_leveeref02_Disk_Writes #[.pointer p0, .int .i64 n42] w5 fun r43 w6 => ∃ n43 : Int, r43 = .int .i64 n43 ∧ k_4 [.int .i64 n43] w6
 else
 k_4 [.int .i64 n6] w5)) fun x_4 w7 =>
 ∃ q45 : Addr, (.pointer p0 : Value) = .pointer (some q45) ∧ ∃ (a47 : Option Addr) (l47 c47 : Nat), Ru (Instr.loadAt 92 (.pointer (some (Addr.add q45 0)))) (drew w7) (.slice a47 l47 c47) (drew w7) ∧ ∃ q50 : Addr, Al (Instr.indexAt 42 (.slice a8 l8 c8) (.int .i64 n5)) (.pointer (some q50)) ∧ ∃ n51 : Int, Ru (Instr.loadAt 3 (.pointer (some q50))) (drew w7) (.int .i64 n51) (drew w7) ∧ ∃ q53 : Addr, (.pointer p0 : Value) = .pointer (some q53) ∧ ∃ (a55 : Option Addr) (l55 c55 : Nat), Ru (Instr.loadAt 92 (.pointer (some (Addr.add q53 0)))) (drew w7) (.slice a55 l55 c55) (drew w7) ∧ ∃ q58 : Addr, Al (Instr.indexAt 42 (.slice a8 l8 c8) (.int .i64 n5)) (.pointer (some q58)) ∧ ∃ n59 : Int, Ru (Instr.loadAt 3 (.pointer (some q58))) (drew w7) (.int .i64 n59) (drew w7) ∧ ∃ q60 : Addr, Al (Instr.indexAt 92 (.slice a55 l55 c55) (.int .i64 n59)) (.pointer (some q60)) ∧ ∃ (a62 : Option Addr) (l62 c62 : Nat), Ru (Instr.loadAt 95 (.pointer (some (Addr.add q60 0)))) (drew w7) (.slice a62 l62 c62) (drew w7) ∧ ∃ n6_2 : Int, nth x_4 0 = .int .i64 n6_2 ∧ ∃ q64 : Addr, Al (Instr.indexAt 95 (.slice a62 l62 c62) (.int .i64 n6_2)) (.pointer (some q64)) ∧ ∃ s65 : ByteArray, Ru (Instr.loadAt 9 (.pointer (some q64))) (drew w7) (.string s65) (drew w7) ∧ ∃ (a66 : Option Addr) (l66 c66 : Nat), ∃ w8 : World, Ru (Instr.buildSlice 95 1 #[(0, .string s65)]) (drew w7) (.slice a66 l66 c66) w8 ∧ Ru (Instr.loadAt 92 (.pointer (some (Addr.add q45 0)))) w8 (.slice a47 l47 c47) w8 ∧ Ru (Instr.loadAt 3 (.pointer (some q50))) w8 (.int .i64 n51) w8 ∧ ∃ q67 : Addr, Al (Instr.indexAt 92 (.slice a47 l47 c47) (.int .i64 n51)) (.pointer (some q67)) ∧ ∃ w9 : World, RuU (Instr.storeAt 95 (.pointer (some (Addr.add q67 0))) (.slice a66 l66 c66)) w8 w9 ∧ k [.int .i64 (IntKind.i64.wrap (n5 + 1)), .int .i64 n6_2, .bool b25] w9
 else
 ∃ q70 : Addr, (.pointer p0 : Value) = .pointer (some q70) ∧ ∃ w10 : World, RuU (Instr.storeAt 4 (.pointer (some (Addr.add q70 1))) (.bool false)) w2 w10 ∧ ∃ q73 : Addr, (.pointer p0 : Value) = .pointer (some q73) ∧ ∃ w11 : World, RuU (Instr.storeAt 3 (.pointer (some (Addr.add q73 2))) (.int .i64 0)) w10 w11 ∧ K (.tuple #[]) w11)) [.int .i64 0, undef, undef] w1
set_option maxRecDepth 100000 in
theorem C_leveeref02_Disk_Crash (p0 : Option Addr) (a1 : Option Addr) (l1 c1 : Nat) (w0 : World) (K : Value → World → Prop) (h : D_leveeref02_Disk_Crash p0 a1 l1 c1 w0 K) : Cal Try.prog F_leveeref02_Disk_Crash #[.pointer p0, .slice a1 l1 c1] w0 K :=
 denF_sound (A := { S := [5, 6, 25], ty := [(5, 3), (6, 3), (25, 4)], raw := [] }) mixed Try.func67 (by kernel_rfl) (by kernel_rfl) ((show denF Try.prog _ Try.f67 _ w0 K = D_leveeref02_Disk_Crash p0 a1 l1 c1 w0 K by kernel_rfl).mpr h)

/- (levee.leveeref02.Disk).Bytes: slots {3: 'out', 4: 'i'}; loop over [3, 4] -/
set_option maxRecDepth 100000 in
def D_leveeref02_Disk_Bytes (p0 : Option Addr) (w0 : World) (K : Value → World → Prop) : Prop :=
 LoopC (fun k x w1 =>
 ∃ n4 : Int, nth x 1 = .int .i64 n4 ∧ ∃ q9 : Addr, (.pointer p0 : Value) = .pointer (some q9) ∧ ∃ (a11 : Option Addr) (l11 c11 : Nat), Ru (Instr.loadAt 92 (.pointer (some (Addr.add q9 0)))) w1 (.slice a11 l11 c11) w1 ∧ (bif decide (n4 < (l11 : Int)) then
 Cal Try.prog F_leveeref02_Disk_Read #[.pointer p0, .int .i64 n4] w1 fun r19 w2 => ∃ (a19a : Option Addr) (l19a c19a : Nat), ∃ n19b : Int, r19 = .tuple #[.slice a19a l19a c19a, .int .i64 n19b] ∧ ∃ (a3 : Option Addr) (l3 c3 : Nat), nth x 0 = .slice a3 l3 c3 ∧ ∃ (a24 : Option Addr) (l24 c24 : Nat), ∃ w3 : World, Ru (Builtin.append_ #[40, 40] 40 #[.slice a3 l3 c3, .slice a19a l19a c19a]) w2 (.slice a24 l24 c24) w3 ∧ k [.slice a24 l24 c24, .int .i64 (IntKind.i64.wrap (n4 + 1))] w3
 else
 ∃ (a3_2 : Option Addr) (l3_2 c3_2 : Nat), nth x 0 = .slice a3_2 l3_2 c3_2 ∧ K (.slice a3_2 l3_2 c3_2) w1)) [.slice none 0 0, .int .i64 0] w0
set_option maxRecDepth 100000 in
theorem C_leveeref02_Disk_Bytes (p0 : Option Addr) (w0 : World) (K : Value → World → Prop) (h : D_leveeref02_Disk_Bytes p0 w0 K) : Cal Try.prog F_leveeref02_Disk_Bytes #[.pointer p0] w0 K :=
 denF_sound (A := { S := [3, 4], ty := [(3, 40), (4, 3)], raw := [] }) mixed Try.func42 (by kernel_rfl) (by kernel_rfl) ((show denF Try.prog _ Try.f42 _ w0 K = D_leveeref02_Disk_Bytes p0 w0 K by kernel_rfl).mpr h)

/- levee.leveelaw02.same: slots {6: '', 15: 'ok'};  -/
set_option maxRecDepth 100000 in
def D_leveelaw02_same (p0 : Option Addr) (p1 : Option Addr) (n2 : Int) (w0 : World) (K : Value → World → Prop) : Prop :=
 Cal Try.prog F_disk_Disk_Read #[.pointer p0, .int .i64 n2] w0 fun r19 w1 => ∃ (a19a : Option Addr) (l19a c19a : Nat), ∃ n19b : Int, r19 = .tuple #[.slice a19a l19a c19a, .int .i64 n19b] ∧ Cal Try.prog F_leveeref02_Disk_Read #[.pointer p1, .int .i64 n2] w1 fun r25 w2 => ∃ (a25a : Option Addr) (l25a c25a : Nat), ∃ n25b : Int, r25 = .tuple #[.slice a25a l25a c25a, .int .i64 n25b] ∧ Cal Try.prog F_disk_Disk_Safe #[.pointer p0, .int .i64 n2] w2 fun r31 w3 => ∃ (a31a : Option Addr) (l31a c31a : Nat), ∃ n31b : Int, r31 = .tuple #[.slice a31a l31a c31a, .int .i64 n31b] ∧ Cal Try.prog F_leveeref02_Disk_Safe #[.pointer p1, .int .i64 n2] w3 fun r37 w4 => ∃ (a37a : Option Addr) (l37a c37a : Nat), ∃ n37b : Int, r37 = .tuple #[.slice a37a l37a c37a, .int .i64 n37b] ∧ Share (fun k => ∃ s41 : ByteArray, Ru (convert 40 9 (.slice a19a l19a c19a)) w4 (.string s41) w4 ∧ ∃ s43 : ByteArray, Ru (convert 40 9 (.slice a25a l25a c25a)) w4 (.string s43) w4 ∧ (bif (ByteArray.toList s41) == (ByteArray.toList s43) then (bif n19b == n25b then ∃ s52 : ByteArray, Ru (convert 40 9 (.slice a31a l31a c31a)) w4 (.string s52) w4 ∧ ∃ s54 : ByteArray, Ru (convert 40 9 (.slice a37a l37a c37a)) w4 (.string s54) w4 ∧ (bif (ByteArray.toList s52) == (ByteArray.toList s54) then k [.bool (n31b == n37b)] w4 else k [.bool false] w4) else k [.bool false] w4) else k [.bool false] w4)) fun x w5 =>
 Cal Try.prog F_leveeref01_Spoil #[.slice a19a l19a c19a] w5 fun r63 w6 => r63 = .tuple #[] ∧ Cal Try.prog F_leveeref01_Spoil #[.slice a31a l31a c31a] w6 fun r65 w7 => r65 = .tuple #[] ∧ Share (fun k_2 => ∃ b15 : Bool, nth x 0 = .bool b15 ∧ (bif b15 then Cal Try.prog F_disk_Disk_Open #[.pointer p0] w7 fun r69 w8 => ∃ (a69 : Option Addr) (l69 c69 : Nat), r69 = .slice a69 l69 c69 ∧ Cal Try.prog F_leveeref02_Disk_Open #[.pointer p1] w8 fun r71 w9 => ∃ (a71 : Option Addr) (l71 c71 : Nat), r71 = .slice a71 l71 c71 ∧ Cal Try.prog F_leveeref01_Ints #[.slice a69 l69 c69, .slice a71 l71 c71] w9 fun r72 w10 => ∃ b72 : Bool, r72 = .bool b72 ∧ (bif b72 then Cal Try.prog F_disk_Disk_Writes #[.pointer p0, .int .i64 n2] w10 fun r77 w11 => ∃ n77 : Int, r77 = .int .i64 n77 ∧ Cal Try.prog F_leveeref02_Disk_Writes #[.pointer p1, .int .i64 n2] w11 fun r80 w12 => ∃ n80 : Int, r80 = .int .i64 n80 ∧ (bif n77 == n80 then Cal Try.prog F_disk_Disk_Stopped #[.pointer p0] w12 fun r85 w13 => ∃ b85 : Bool, r85 = .bool b85 ∧ Cal Try.prog F_leveeref02_Disk_Stopped #[.pointer p1] w13 fun r87 w14 => ∃ b87 : Bool, r87 = .bool b87 ∧ k_2 [.bool (b85 == b87)] w14 else k_2 [.bool false] w12) else k_2 [.bool false] w10) else k_2 [.bool false] w7)) fun x_2 w15 =>
 ∃ b6 : Bool, nth x_2 0 = .bool b6 ∧ K (.bool b6) w15
set_option maxRecDepth 100000 in
theorem C_leveelaw02_same (p0 : Option Addr) (p1 : Option Addr) (n2 : Int) (w0 : World) (K : Value → World → Prop) (h : D_leveelaw02_same p0 p1 n2 w0 K) : Cal Try.prog F_leveelaw02_same #[.pointer p0, .pointer p1, .int .i64 n2] w0 K :=
 denF_sound (A := { S := [6, 15], ty := [(6, 4), (15, 4)], raw := [] }) mixed Try.func38 (by kernel_rfl) (by kernel_rfl) ((show denF Try.prog _ Try.f38 _ w0 K = D_leveelaw02_same p0 p1 n2 w0 K by kernel_rfl).mpr h)

/- levee.leveelaw02.do: slots {7: 'data', 9: 'ok', 14: ''};  -/
set_option maxRecDepth 100000 in
def D_leveelaw02_do (p0 : Option Addr) (p1 : Option Addr) (g2 : Array Value) (w0 : World) (K : Value → World → Prop) : Prop :=
 ∃ q5 : Addr, ∃ w1 : World, Ru (Instr.box 71 (.agg g2)) w0 (.pointer (some q5)) w1 ∧ ∃ (a11 : Option Addr) (l11 c11 : Nat), Ru (Instr.loadAt 40 (.pointer (some (Addr.add q5 2)))) w1 (.slice a11 l11 c11) w1 ∧ ∃ n13 : Int, Ru (Instr.loadAt 3 (.pointer (some (Addr.add q5 0)))) w1 (.int .i64 n13) w1 ∧ Share (fun k => (bif n13 == 0 then
 k [.bool (n13 == 0)] w1
 else
 Share (fun k_2 => (bif n13 == 1 then
 k_2 [.bool (n13 == 1)] w1
 else
 Share (fun k_3 => (bif n13 == 2 then
 k_3 [.bool (n13 == 2)] w1
 else
 Share (fun k_4 => (bif n13 == 3 then
 k_4 [.bool (n13 == 3)] w1
 else
 k_4 [.bool (n13 == 7)] w1)) fun x_4 w2 =>
 k_3 [nth x_4 0] w2)) fun x_3 w3 =>
 k_2 [nth x_3 0] w3)) fun x_2 w4 =>
 k [nth x_2 0] w4)) fun x w5 =>
 ∃ b14 : Bool, nth x 0 = .bool b14 ∧ (bif b14 then
 ∃ n21 : Int, Ru (Instr.loadAt 3 (.pointer (some (Addr.add q5 0)))) w5 (.int .i64 n21) w5 ∧ Share (fun k_5 => (bif n21 != 7 then
 ∃ (a24 : Option Addr) (l24 c24 : Nat), Ru (Instr.loadAt 40 (.pointer (some (Addr.add q5 2)))) w5 (.slice a24 l24 c24) w5 ∧ Cal Try.prog F_leveeref01_Fill #[.slice a24 l24 c24] w5 fun r25 w6 => ∃ (a25 : Option Addr) (l25 c25 : Nat), r25 = .slice a25 l25 c25 ∧ k_5 [.slice a25 l25 c25] w6
 else
 k_5 [.slice a11 l11 c11] w5)) fun x_5 w7 =>
 ∃ (a7 : Option Addr) (l7 c7 : Nat), nth x_5 0 = .slice a7 l7 c7 ∧ Cal Try.prog F_leveeref01_Lent #[.slice a7 l7 c7] w7 fun r27 w8 => ∃ (a27 : Option Addr) (l27 c27 : Nat), r27 = .slice a27 l27 c27 ∧ Share (fun k_6 => ∃ n30 : Int, Ru (Instr.loadAt 3 (.pointer (some (Addr.add q5 1)))) (drew w8) (.int .i64 n30) (drew w8) ∧ ∃ n35 : Int, Ru (Instr.loadAt 3 (.pointer (some (Addr.add q5 1)))) (drew w8) (.int .i64 n35) (drew w8) ∧ Cal Try.prog F_disk_Disk_Write #[.pointer p0, .int .i64 n30, .slice a27 l27 c27] (drew w8) fun r32 w9 => ∃ n32 : Int, r32 = .int .i64 n32 ∧ Ru (Instr.loadAt 3 (.pointer (some (Addr.add q5 1)))) w9 (.int .i64 n35) w9 ∧ Cal Try.prog F_leveeref02_Disk_Write #[.pointer p1, .int .i64 n35, .slice a7 l7 c7] w9 fun r37 w10 => ∃ n37 : Int, r37 = .int .i64 n37 ∧ (bif n32 == n37 then Cal Try.prog F_leveeref01_Kept #[.slice a27 l27 c27, .slice a7 l7 c7] w10 fun r42 w11 => ∃ b42 : Bool, r42 = .bool b42 ∧ k_6 [.bool b42] w11 else k_6 [.bool false] w10)) fun x_6 w12 =>
 Cal Try.prog F_leveeref01_Spoil #[.slice a27 l27 c27] w12 fun r45 w13 => r45 = .tuple #[] ∧ ∃ b9 : Bool, nth x_6 0 = .bool b9 ∧ K (.bool b9) w13
 else
 (bif n13 == 4 then
 Cal Try.prog F_disk_Disk_Flush #[.pointer p0] w5 fun r50 w14 => ∃ n50 : Int, r50 = .int .i64 n50 ∧ Cal Try.prog F_leveeref02_Disk_Flush #[.pointer p1] w14 fun r52 w15 => ∃ n52 : Int, r52 = .int .i64 n52 ∧ K (.bool (n50 == n52)) w15
 else
 Share (fun k_7 => (bif n13 == 5 then
 ∃ (a58 : Option Addr) (l58 c58 : Nat), Ru (Instr.loadAt 42 (.pointer (some (Addr.add q5 3)))) w5 (.slice a58 l58 c58) w5 ∧ Cal Try.prog F_disk_Disk_Crash #[.pointer p0, .slice a58 l58 c58] w5 fun r59 w16 => r59 = .tuple #[] ∧ ∃ (a62 : Option Addr) (l62 c62 : Nat), Ru (Instr.loadAt 42 (.pointer (some (Addr.add q5 3)))) w16 (.slice a62 l62 c62) w16 ∧ Cal Try.prog F_leveeref02_Disk_Crash #[.pointer p1, .slice a62 l62 c62] w16 fun r63 w17 => r63 = .tuple #[] ∧ k_7 [] w17
 else
 Share (fun k_8 => (bif n13 == 8 then
 ∃ n68 : Int, Ru (Instr.loadAt 3 (.pointer (some (Addr.add q5 1)))) w5 (.int .i64 n68) w5 ∧ Cal Try.prog F_disk_Disk_Stop #[.pointer p0, .int .i64 n68] w5 fun r69 w18 => r69 = .tuple #[] ∧ ∃ n72 : Int, Ru (Instr.loadAt 3 (.pointer (some (Addr.add q5 1)))) w18 (.int .i64 n72) w18 ∧ Cal Try.prog F_leveeref02_Disk_Stop #[.pointer p1, .int .i64 n72] w18 fun r73 w19 => r73 = .tuple #[] ∧ k_8 [] w19
 else
 k_8 [] w5)) fun x_8 w20 =>
 k_7 [] w20)) fun x_7 w21 =>
 K (.bool true) w21))
set_option maxRecDepth 100000 in
theorem C_leveelaw02_do (p0 : Option Addr) (p1 : Option Addr) (g2 : Array Value) (w0 : World) (K : Value → World → Prop) (h : D_leveelaw02_do p0 p1 g2 w0 K) : Cal Try.prog F_leveelaw02_do #[.pointer p0, .pointer p1, .agg g2] w0 K :=
 denF_sound (A := { S := [7, 9, 14], ty := [(7, 40), (9, 4), (14, 4)], raw := [] }) mixed Try.func41 (by kernel_rfl) (by kernel_rfl) ((show denF Try.prog _ Try.f41 _ w0 K = D_leveelaw02_do p0 p1 g2 w0 K by kernel_rfl).mpr h)

/- levee.leveelaw02.DiskLoads: slots {4: '', 41: ''};  -/
set_option maxRecDepth 100000 in
def D_leveelaw02_DiskLoads (a0 : Option Addr) (l0 c0 : Nat) (n1 : Int) (w0 : World) (K : Value → World → Prop) : Prop :=
 (bif decide ((l0 : Int) > 10000) then
 Cal Try.prog F_leveelaw02_known #[] w0 fun r13 w1 => ∃ b13 : Bool, r13 = .bool b13 ∧ K (.bool b13) w1
 else
 Cal Try.prog F_leveeref01_Lent #[.slice a0 l0 c0] w0 fun r15 w2 => ∃ (a15 : Option Addr) (l15 c15 : Nat), r15 = .slice a15 l15 c15 ∧ Cal Try.prog F_disk_Load #[.slice a15 l15 c15] w2 fun r18 w3 => ∃ p18a : Option Addr, ∃ n18b : Int, r18 = .tuple #[.pointer p18a, .int .i64 n18b] ∧ Cal Try.prog F_leveeref02_Load #[.slice a0 l0 c0] w3 fun r23 w4 => ∃ p23a : Option Addr, ∃ n23b : Int, r23 = .tuple #[.pointer p23a, .int .i64 n23b] ∧ Share (fun k => (bif n18b != n23b then k [.bool true] w4 else (bif !((Option.isNone p18a) == (Option.isNone p23a)) then k [.bool true] w4 else Cal Try.prog F_leveeref01_Kept #[.slice a15 l15 c15, .slice a0 l0 c0] w4 fun r39 w5 => ∃ b39 : Bool, r39 = .bool b39 ∧ k [.bool (!b39)] w5))) fun x w6 =>
 ∃ b41 : Bool, nth x 0 = .bool b41 ∧ (bif b41 then
 K (.bool false) w6
 else
 Cal Try.prog F_leveeref01_Spoil #[.slice a15 l15 c15] w6 fun r43 w7 => r43 = .tuple #[] ∧ (bif Option.isNone p18a then
 Cal Try.prog F_leveelaw02_known #[] w7 fun r46 w8 => ∃ b46 : Bool, r46 = .bool b46 ∧ K (.bool b46) w8
 else
 Cal Try.prog F_disk_Disk_Crash #[.pointer p18a, .slice none 0 0] w7 fun r48 w9 => r48 = .tuple #[] ∧ Share (fun k_2 => ∃ s53 : ByteArray, Ru (convert 40 9 (.slice a0 l0 c0)) (drew w9) (.string s53) (drew w9) ∧ Cal Try.prog F_disk_Disk_Bytes #[.pointer p18a] (drew w9) fun r50 w10 => ∃ (a50 : Option Addr) (l50 c50 : Nat), r50 = .slice a50 l50 c50 ∧ Ru (convert 40 9 (.slice a0 l0 c0)) w10 (.string s53) w10 ∧ ∃ s51 : ByteArray, Ru (convert 40 9 (.slice a50 l50 c50)) w10 (.string s51) w10 ∧ (bif (ByteArray.toList s51) == (ByteArray.toList s53) then Cal Try.prog F_leveelaw02_same #[.pointer p18a, .pointer p23a, .int .i64 n1] w10 fun r59 w11 => ∃ b59 : Bool, r59 = .bool b59 ∧ (bif b59 then Cal Try.prog F_leveelaw02_known #[] w11 fun r62 w12 => ∃ b62 : Bool, r62 = .bool b62 ∧ k_2 [.bool b62] w12 else k_2 [.bool false] w11) else k_2 [.bool false] w10)) fun x_2 w13 =>
 ∃ b4 : Bool, nth x_2 0 = .bool b4 ∧ K (.bool b4) w13)))
set_option maxRecDepth 100000 in
theorem C_leveelaw02_DiskLoads (a0 : Option Addr) (l0 c0 : Nat) (n1 : Int) (w0 : World) (K : Value → World → Prop) (h : D_leveelaw02_DiskLoads a0 l0 c0 n1 w0 K) : Cal Try.prog F_leveelaw02_DiskLoads #[.slice a0 l0 c0, .int .i64 n1] w0 K :=
 denF_sound (A := { S := [4, 41], ty := [(4, 4), (41, 4)], raw := [] }) mixed Try.func7 (by kernel_rfl) (by kernel_rfl) ((show denF Try.prog _ Try.f7 _ w0 K = D_leveelaw02_DiskLoads a0 l0 c0 n1 w0 K by kernel_rfl).mpr h)

/- levee.leveelaw02.DiskPlays: slots {4: '', 5: 'd', 9: 'i', 11: 'b', 17: '', 38: '', 49: ''}; loop over [4, 11]; loop over [4, 5, 9, 49] -/
set_option maxRecDepth 100000 in
def D_leveelaw02_DiskPlays (n0 : Int) (a1 : Option Addr) (l1 c1 : Nat) (w0 : World) (K : Value → World → Prop) : Prop :=
 Share (fun k => (bif decide (n0 > 40) then k [.bool (decide (n0 ≤ 4096))] w0 else k [.bool false] w0)) fun x w1 =>
 ∃ b17 : Bool, nth x 0 = .bool b17 ∧ (bif b17 then
 Cal Try.prog F_leveelaw02_known #[] w1 fun r18 w2 => ∃ b18 : Bool, r18 = .bool b18 ∧ K (.bool b18) w2
 else
 Cal Try.prog F_disk_New #[.int .i64 n0] w1 fun r21 w3 => ∃ p21a : Option Addr, ∃ n21b : Int, r21 = .tuple #[.pointer p21a, .int .i64 n21b] ∧ Cal Try.prog F_leveeref02_New #[.int .i64 n0] w3 fun r26 w4 => ∃ p26a : Option Addr, ∃ n26b : Int, r26 = .tuple #[.pointer p26a, .int .i64 n26b] ∧ Share (fun k_2 => (bif n21b != n26b then k_2 [.bool true] w4 else k_2 [.bool (!((Option.isNone p21a) == (Option.isNone p26a)))] w4)) fun x_2 w5 =>
 ∃ b38 : Bool, nth x_2 0 = .bool b38 ∧ (bif b38 then
 K (.bool false) w5
 else
 (bif Option.isNone p21a then
 Cal Try.prog F_leveelaw02_known #[] w5 fun r41 w6 => ∃ b41 : Bool, r41 = .bool b41 ∧ K (.bool b41) w6
 else
 LoopC (fun k_3 x_3 w7 =>
 Share (fun k_4 => ∃ n9 : Int, nth x_3 2 = .int .i64 n9 ∧ (bif decide (n9 < (l1 : Int)) then k_4 [.bool (decide (n9 < 40))] w7 else k_4 [.bool false] w7)) fun x_4 w8 =>
 ∃ b49 : Bool, nth x_4 0 = .bool b49 ∧ (bif b49 then
 ∃ n9_2 : Int, nth x_3 2 = .int .i64 n9_2 ∧ ∃ q54 : Addr, Al (Instr.indexAt 68 (.slice a1 l1 c1) (.int .i64 n9_2)) (.pointer (some q54)) ∧ ∃ n56 : Int, Ru (Instr.loadAt 3 (.pointer (some (Addr.add q54 0)))) w8 (.int .i64 n56) w8 ∧ Share (fun k_5 => (bif n56 == 6 then
 ∃ p5 : Option Addr, nth x_3 1 = .pointer p5 ∧ Cal Try.prog F_disk_Disk_Copy #[.pointer p5] w8 fun r59 w9 => ∃ p59 : Option Addr, r59 = .pointer p59 ∧ (bif Option.isNone p59 then
 K (.bool false) w9
 else
 ∃ (a63 : Option Addr) (l63 c63 : Nat), ∃ w10 : World, Ru (Instr.buildSlice 40 2 #[(0, .int .u8 122), (1, .int .u8 122)]) w9 (.slice a63 l63 c63) w10 ∧ ∃ (a64 : Option Addr) (l64 c64 : Nat), ∃ w11 : World, Ru (convert 40 40 (.slice a63 l63 c63)) w10 (.slice a64 l64 c64) w11 ∧ Cal Try.prog F_leveeref01_Fill #[.slice a64 l64 c64] w11 fun r65 w12 => ∃ (a65 : Option Addr) (l65 c65 : Nat), r65 = .slice a65 l65 c65 ∧ Cal Try.prog F_disk_Disk_Write #[.pointer p5, .int .i64 0, .slice a65 l65 c65] w12 fun r66 w13 => ∃ n66 : Int, r66 = .int .i64 n66 ∧ Cal Try.prog F_disk_Disk_Crash #[.pointer p5, .slice none 0 0] w13 fun r68 w14 => r68 = .tuple #[] ∧ k_5 [nth x_3 0, .pointer p59] w14)
 else
 ∃ p5_2 : Option Addr, nth x_3 1 = .pointer p5_2 ∧ ∃ q74 : Addr, Al (Instr.indexAt 68 (.slice a1 l1 c1) (.int .i64 n9_2)) (.pointer (some q74)) ∧ ∃ g75 : Array Value, Ru (Instr.loadAt 71 (.pointer (some q74))) w8 (.agg g75) w8 ∧ Cal Try.prog F_leveelaw02_do #[.pointer p5_2, .pointer p26a, .agg g75] w8 fun r76 w15 => ∃ b76 : Bool, r76 = .bool b76 ∧ (bif !b76 then
 K (.bool false) w15
 else
 k_5 [nth x_3 0, .pointer p5_2] w15))) fun x_5 w16 =>
 ∃ p5_3 : Option Addr, nth x_5 1 = .pointer p5_3 ∧ ∃ q82 : Addr, Al (Instr.indexAt 68 (.slice a1 l1 c1) (.int .i64 n9_2)) (.pointer (some q82)) ∧ ∃ n84 : Int, Ru (Instr.loadAt 3 (.pointer (some (Addr.add q82 1)))) w16 (.int .i64 n84) w16 ∧ Cal Try.prog F_leveelaw02_same #[.pointer p5_3, .pointer p26a, .int .i64 n84] w16 fun r85 w17 => ∃ b85 : Bool, r85 = .bool b85 ∧ (bif !b85 then
 K (.bool false) w17
 else
 k_3 [nth x_5 0, .pointer p5_3, .int .i64 (IntKind.i64.wrap (n9_2 + 1)), .bool b49] w17)
 else
 LoopC (fun k_6 x_6 w18 =>
 ∃ n11 : Int, nth x_6 1 = .int .i64 n11 ∧ (bif decide (n11 < n0) then
 ∃ p5_4 : Option Addr, nth x_3 1 = .pointer p5_4 ∧ Cal Try.prog F_leveelaw02_same #[.pointer p5_4, .pointer p26a, .int .i64 n11] w18 fun r95 w19 => ∃ b95 : Bool, r95 = .bool b95 ∧ (bif !b95 then
 K (.bool false) w19
 else
 k_6 [nth x_6 0, .int .i64 (IntKind.i64.wrap (n11 + 1))] w19)
 else
 Share (fun k_7 => ∃ p5_5 : Option Addr, nth x_3 1 = .pointer p5_5 ∧ Cal Try.prog F_disk_Disk_Bytes #[.pointer p5_5] (drew w18) fun r98 w20 => ∃ (a98 : Option Addr) (l98 c98 : Nat), r98 = .slice a98 l98 c98 ∧ ∃ s99 : ByteArray, Ru (convert 40 9 (.slice a98 l98 c98)) w20 (.string s99) w20 ∧ Cal Try.prog F_leveeref02_Disk_Bytes #[.pointer p26a] w20 fun r101 w21 => ∃ (a101 : Option Addr) (l101 c101 : Nat), r101 = .slice a101 l101 c101 ∧ Ru (convert 40 9 (.slice a98 l98 c98)) w21 (.string s99) w21 ∧ ∃ s102 : ByteArray, Ru (convert 40 9 (.slice a101 l101 c101)) w21 (.string s102) w21 ∧ (bif (ByteArray.toList s99) == (ByteArray.toList s102) then Cal Try.prog F_disk_Disk_Len #[.pointer p5_5] w21 fun r106 w22 => ∃ n106 : Int, r106 = .int .i64 n106 ∧ (bif n106 == n0 then Cal Try.prog F_leveelaw02_known #[] w22 fun r111 w23 => ∃ b111 : Bool, r111 = .bool b111 ∧ k_7 [.bool b111] w23 else k_7 [.bool false] w22) else k_7 [.bool false] w21)) fun x_7 w24 =>
 ∃ b4 : Bool, nth x_7 0 = .bool b4 ∧ K (.bool b4) w24)) [nth x_3 0, .int .i64 0] w8)) [.bool false, .pointer p21a, .int .i64 0, undef] w5)))
set_option maxRecDepth 100000 in
theorem C_leveelaw02_DiskPlays (n0 : Int) (a1 : Option Addr) (l1 c1 : Nat) (w0 : World) (K : Value → World → Prop) (h : D_leveelaw02_DiskPlays n0 a1 l1 c1 w0 K) : Cal Try.prog F_leveelaw02_DiskPlays #[.int .i64 n0, .slice a1 l1 c1] w0 K :=
 denF_sound (A := { S := [4, 5, 9, 11, 17, 38, 49], ty := [(4, 4), (5, 53), (9, 3), (11, 3), (17, 4), (38, 4), (49, 4)], raw := [] }) mixed Try.func8 (by kernel_rfl) (by kernel_rfl) ((show denF Try.prog _ Try.f8 _ w0 K = D_leveelaw02_DiskPlays n0 a1 l1 c1 w0 K by kernel_rfl).mpr h)

/- levee.disk.Load: slots {26: ''}; loop over [26] -/
set_option maxRecDepth 100000 in
def D_disk_Load (a0 : Option Addr) (l0 c0 : Nat) (w0 : World) (K : Value → World → Prop) : Prop :=
 (bif (Int.tmod (l0 : Int) 256) != 0 then
 K (.tuple #[.pointer none, .int .i64 1]) w0
 else
 Cal Try.prog F_disk_New #[.int .i64 (IntKind.i64.wrap (Int.tdiv (l0 : Int) 256))] w0 fun r15 w1 => ∃ p15a : Option Addr, ∃ n15b : Int, r15 = .tuple #[.pointer p15a, .int .i64 n15b] ∧ (bif n15b != 0 then
 K (.tuple #[.pointer none, .int .i64 n15b]) w1
 else
 ∃ q22 : Addr, (.pointer p15a : Value) = .pointer (some q22) ∧ ∃ (a24 : Option Addr) (l24 c24 : Nat), Ru (Instr.loadAt 83 (.pointer (some (Addr.add q22 0)))) w1 (.slice a24 l24 c24) w1 ∧ LoopC (fun k x w2 =>
 ∃ n26 : Int, nth x 0 = .int .i64 n26 ∧ (bif decide (n26 < (l24 : Int)) then
 ∃ q30 : Addr, (.pointer p15a : Value) = .pointer (some q30) ∧ ∃ (a32 : Option Addr) (l32 c32 : Nat), Ru (Instr.loadAt 83 (.pointer (some (Addr.add q30 0)))) (drew w2) (.slice a32 l32 c32) (drew w2) ∧ ∃ q34 : Addr, Al (Instr.indexAt 83 (.slice a32 l32 c32) (.int .i64 n26)) (.pointer (some q34)) ∧ ∃ (a35 : Option Addr) (l35 c35 : Nat), Al (Instr.sliceAt 89 (.pointer (some q34)) none none none) (.slice a35 l35 c35) ∧ ∃ (a39 : Option Addr) (l39 c39 : Nat), Al (Instr.sliceAt 40 (.slice a0 l0 c0) (some (.int .i64 (IntKind.i64.wrap (n26 * 256)))) none none) (.slice a39 l39 c39) ∧ ∃ n40 : Int, ∃ w3 : World, Ru (Builtin.copy_ #[40, 40] 3 #[.slice a35 l35 c35, .slice a39 l39 c39]) (drew w2) (.int .i64 n40) w3 ∧ k [.int .i64 (IntKind.i64.wrap (n26 + 1))] w3
 else
 K (.tuple #[.pointer p15a, .int .i64 0]) w2)) [.int .i64 0] w1))
set_option maxRecDepth 100000 in
theorem C_disk_Load (a0 : Option Addr) (l0 c0 : Nat) (w0 : World) (K : Value → World → Prop) (h : D_disk_Load a0 l0 c0 w0 K) : Cal Try.prog F_disk_Load #[.slice a0 l0 c0] w0 K :=
 denF_sound (A := { S := [26], ty := [(26, 3)], raw := [] }) mixed Try.func35 (by kernel_rfl) (by kernel_rfl) ((show denF Try.prog _ Try.f35 _ w0 K = D_disk_Load a0 l0 c0 w0 K by kernel_rfl).mpr h)

/- slices.Clone[[]levee.disk.block,levee.disk.block]: slots {};  -/
set_option maxRecDepth 100000 in
def D_slices_Clone_disk_block (a0 : Option Addr) (l0 c0 : Nat) (w0 : World) (K : Value → World → Prop) : Prop :=
 ∃ b4 : Bool, Al (eqS .eql 83 (.tmp 3) (.const (.slice none 0 0)) (.slice a0 l0 c0) (.slice none 0 0)) (.bool b4) ∧ (bif b4 then
 K (.slice none 0 0) w0
 else
 ∃ (a5 : Option Addr) (l5 c5 : Nat), ∃ w1 : World, Ru (Instr.buildSlice 83 0 #[]) w0 (.slice a5 l5 c5) w1 ∧ ∃ (a7 : Option Addr) (l7 c7 : Nat), ∃ w2 : World, Ru (Builtin.append_ #[83, 83] 83 #[.slice a5 l5 c5, .slice a0 l0 c0]) w1 (.slice a7 l7 c7) w2 ∧ K (.slice a7 l7 c7) w2)
set_option maxRecDepth 100000 in
theorem C_slices_Clone_disk_block (a0 : Option Addr) (l0 c0 : Nat) (w0 : World) (K : Value → World → Prop) (h : D_slices_Clone_disk_block a0 l0 c0 w0 K) : Cal Try.prog F_slices_Clone_disk_block #[.slice a0 l0 c0] w0 K :=
 denF_sound (A := { S := [], ty := [], raw := [] }) mixed Try.func64 (by kernel_rfl) (by kernel_rfl) ((show denF Try.prog _ Try.f64 _ w0 K = D_slices_Clone_disk_block a0 l0 c0 w0 K by kernel_rfl).mpr h)

end Go.Proofs.Ytkmkfdljnlbikaa
