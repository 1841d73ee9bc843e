/- What functions of the translation come to, as printed by a program of this session. -/
import Derived.Test.YtkmkfdljnlbikaaIds
open Go Go.Den Go.Proofs
namespace Go.Proofs.Ytkmkfdljnlbikaa

/- levee.ptr.Of: slots {4: ''};  -/
set_option maxRecDepth 100000 in
def D_ptr_Of (n0 : Int) (w0 : World) (K : Value → World → Prop) : Prop :=
 ∃ q2 : Addr, ∃ w1 : World, Ru (Instr.alloc 24 true (.tuple #[])) w0 (.pointer (some q2)) w1 ∧ Share (fun k => (bif decide (n0 < 0) then k [.bool true] w1 else k [.bool (decide (n0 ≥ 4166))] w1)) fun x w2 =>
 ∃ b4 : Bool, nth x 0 = .bool b4 ∧ (bif b4 then
 ∃ g11 : Array Value, Al (Instr.build 24 #[]) (.agg g11) ∧ ∃ w3 : World, RuU (Instr.storeAt 24 (.pointer (some q2)) (.agg g11)) w2 w3 ∧ ∃ gR2 : Array Value, Ru (Instr.loadAt 24 (.pointer (some q2))) w3 (.agg gR2) w3 ∧ K (.tuple #[.agg gR2, .int .i64 28]) w3
 else
 (bif decide (n0 < 6) then
 ∃ g16 : Array Value, Al (Instr.build 24 #[(1, .int .i64 n0)]) (.agg g16) ∧ ∃ w4 : World, RuU (Instr.storeAt 24 (.pointer (some q2)) (.agg g16)) w2 w4 ∧ ∃ gR2_2 : Array Value, Ru (Instr.loadAt 24 (.pointer (some q2))) w4 (.agg gR2_2) w4 ∧ K (.tuple #[.agg gR2_2, .int .i64 0]) w4
 else
 (bif decide ((IntKind.i64.wrap (n0 - 6)) < 64) then
 ∃ g22 : Array Value, Al (Instr.build 24 #[(0, .int .i64 1), (2, .int .i64 (IntKind.i64.wrap (n0 - 6)))]) (.agg g22) ∧ ∃ w5 : World, RuU (Instr.storeAt 24 (.pointer (some q2)) (.agg g22)) w2 w5 ∧ ∃ gR2_3 : Array Value, Ru (Instr.loadAt 24 (.pointer (some q2))) w5 (.agg gR2_3) w5 ∧ K (.tuple #[.agg gR2_3, .int .i64 0]) w5
 else
 ∃ g29 : Array Value, Al (Instr.build 24 #[(0, .int .i64 2), (2, .int .i64 (IntKind.i64.wrap (Int.tdiv (IntKind.i64.wrap ((IntKind.i64.wrap (n0 - 6)) - 64)) 64))), (3, .int .i64 (Int.tmod (IntKind.i64.wrap ((IntKind.i64.wrap (n0 - 6)) - 64)) 64))]) (.agg g29) ∧ ∃ w6 : World, RuU (Instr.storeAt 24 (.pointer (some q2)) (.agg g29)) w2 w6 ∧ ∃ gR2_4 : Array Value, Ru (Instr.loadAt 24 (.pointer (some q2))) w6 (.agg gR2_4) w6 ∧ K (.tuple #[.agg gR2_4, .int .i64 0]) w6)))
set_option maxRecDepth 100000 in
theorem C_ptr_Of (n0 : Int) (w0 : World) (K : Value → World → Prop) (h : D_ptr_Of n0 w0 K) : Cal Try.prog F_ptr_Of #[.int .i64 n0] w0 K :=
 denF_sound (A := { S := [4], ty := [(4, 4)], raw := [] }) mixed Try.func9 (by kernel_rfl) (by kernel_rfl) ((show denF Try.prog _ Try.f9 _ w0 K = D_ptr_Of n0 w0 K by kernel_rfl).mpr h)

/- levee.leveeref09.Of: slots {9: ''};  -/
set_option maxRecDepth 100000 in
def D_leveeref09_Of (n0 : Int) (w0 : World) (K : Value → World → Prop) : Prop :=
 ∃ q2 : Addr, ∃ w1 : World, Ru (Instr.alloc 23 true (.tuple #[])) w0 (.pointer (some q2)) w1 ∧ Share (fun k => (bif decide (n0 < 0) then k [.bool true] w1 else k [.bool (decide (n0 ≥ 4166))] w1)) fun x w2 =>
 ∃ b9 : Bool, nth x 0 = .bool b9 ∧ (bif b9 then
 ∃ g10 : Array Value, Al (Instr.build 23 #[]) (.agg g10) ∧ ∃ w3 : World, RuU (Instr.storeAt 23 (.pointer (some q2)) (.agg g10)) w2 w3 ∧ ∃ gR2 : Array Value, Ru (Instr.loadAt 23 (.pointer (some q2))) w3 (.agg gR2) w3 ∧ K (.tuple #[.agg gR2, .int .i64 28]) w3
 else
 (bif decide (n0 < 6) then
 ∃ g14 : Array Value, Al (Instr.build 23 #[(1, .int .i64 n0)]) (.agg g14) ∧ ∃ w4 : World, RuU (Instr.storeAt 23 (.pointer (some q2)) (.agg g14)) w2 w4 ∧ ∃ gR2_2 : Array Value, Ru (Instr.loadAt 23 (.pointer (some q2))) w4 (.agg gR2_2) w4 ∧ K (.tuple #[.agg gR2_2, .int .i64 0]) w4
 else
 (bif decide (n0 < 70) then
 ∃ g19 : Array Value, Al (Instr.build 23 #[(0, .int .i64 1), (2, .int .i64 (IntKind.i64.wrap (n0 - 6)))]) (.agg g19) ∧ ∃ w5 : World, RuU (Instr.storeAt 23 (.pointer (some q2)) (.agg g19)) w2 w5 ∧ ∃ gR2_3 : Array Value, Ru (Instr.loadAt 23 (.pointer (some q2))) w5 (.agg gR2_3) w5 ∧ K (.tuple #[.agg gR2_3, .int .i64 0]) w5
 else
 ∃ g26 : Array Value, Al (Instr.build 23 #[(0, .int .i64 2), (2, .int .i64 (IntKind.i64.wrap (Int.tdiv (IntKind.i64.wrap (n0 - 70)) 64))), (3, .int .i64 (Int.tmod (IntKind.i64.wrap (n0 - 70)) 64))]) (.agg g26) ∧ ∃ w6 : World, RuU (Instr.storeAt 23 (.pointer (some q2)) (.agg g26)) w2 w6 ∧ ∃ gR2_4 : Array Value, Ru (Instr.loadAt 23 (.pointer (some q2))) w6 (.agg gR2_4) w6 ∧ K (.tuple #[.agg gR2_4, .int .i64 0]) w6)))
set_option maxRecDepth 100000 in
theorem C_leveeref09_Of (n0 : Int) (w0 : World) (K : Value → World → Prop) (h : D_leveeref09_Of n0 w0 K) : Cal Try.prog F_leveeref09_Of #[.int .i64 n0] w0 K :=
 denF_sound (A := { S := [9], ty := [(9, 4)], raw := [] }) mixed Try.func10 (by kernel_rfl) (by kernel_rfl) ((show denF Try.prog _ Try.f10 _ w0 K = D_leveeref09_Of n0 w0 K by kernel_rfl).mpr h)

/- levee.ptr.place: slots {};  -/
set_option maxRecDepth 100000 in
def D_ptr_place (n0 : Int) (w0 : World) (K : Value → World → Prop) : Prop :=
 Cal Try.prog F_ptr_within_int #[.int .i64 n0, .int .i64 0, .int .i64 63] w0 fun r4 w1 => ∃ n4 : Int, r4 = .int .i64 n4 ∧ K (.int .i64 n4) w1
set_option maxRecDepth 100000 in
theorem C_ptr_place (n0 : Int) (w0 : World) (K : Value → World → Prop) (h : D_ptr_place n0 w0 K) : Cal Try.prog F_ptr_place #[.int .i64 n0] w0 K :=
 denF_sound (A := { S := [], ty := [], raw := [] }) mixed Try.func44 (by kernel_rfl) (by kernel_rfl) ((show denF Try.prog _ Try.f44 _ w0 K = D_ptr_place n0 w0 K by kernel_rfl).mpr h)

/- levee.ptr.within[int]: slots {};  -/
set_option maxRecDepth 100000 in
def D_ptr_within_int (n0 : Int) (n1 : Int) (n2 : Int) (w0 : World) (K : Value → World → Prop) : Prop :=
 K (.int .i64 (if n2 < (if n1 > n0 then n1 else n0) then n2 else (if n1 > n0 then n1 else n0))) w0
set_option maxRecDepth 100000 in
theorem C_ptr_within_int (n0 : Int) (n1 : Int) (n2 : Int) (w0 : World) (K : Value → World → Prop) (h : D_ptr_within_int n0 n1 n2 w0 K) : Cal Try.prog F_ptr_within_int #[.int .i64 n0, .int .i64 n1, .int .i64 n2] w0 K :=
 denF_sound (A := { S := [], ty := [], raw := [] }) mixed Try.func70 (by kernel_rfl) (by kernel_rfl) ((show denF Try.prog _ Try.f70 _ w0 K = D_ptr_within_int n0 n1 n2 w0 K by kernel_rfl).mpr h)

/- levee.ptr.within[int64]: slots {};  -/
set_option maxRecDepth 100000 in
def D_ptr_within_int64 (n0 : Int) (n1 : Int) (n2 : Int) (w0 : World) (K : Value → World → Prop) : Prop :=
 K (.int .i64 (if n2 < (if n1 > n0 then n1 else n0) then n2 else (if n1 > n0 then n1 else n0))) w0
set_option maxRecDepth 100000 in
theorem C_ptr_within_int64 (n0 : Int) (n1 : Int) (n2 : Int) (w0 : World) (K : Value → World → Prop) (h : D_ptr_within_int64 n0 n1 n2 w0 K) : Cal Try.prog F_ptr_within_int64 #[.int .i64 n0, .int .i64 n1, .int .i64 n2] w0 K :=
 denF_sound (A := { S := [], ty := [], raw := [] }) mixed Try.func45 (by kernel_rfl) (by kernel_rfl) ((show denF Try.prog _ Try.f45 _ w0 K = D_ptr_within_int64 n0 n1 n2 w0 K by kernel_rfl).mpr h)

/- levee.ptr.Back: slots {4: 'n', 41: ''};  -/
set_option maxRecDepth 100000 in
def D_ptr_Back (g0 : Array Value) (w0 : World) (K : Value → World → Prop) : Prop :=
 ∃ q1 : Addr, ∃ w1 : World, Ru (Instr.box 24 (.agg g0)) w0 (.pointer (some q1)) w1 ∧ ∃ n8 : Int, Ru (Instr.loadAt 3 (.pointer (some (Addr.add q1 0)))) w1 (.int .i64 n8) w1 ∧ Share (fun k => (bif n8 == 0 then
 ∃ n12 : Int, Ru (Instr.loadAt 3 (.pointer (some (Addr.add q1 1)))) w1 (.int .i64 n12) w1 ∧ k [.int .i64 n12] w1
 else
 Share (fun k_2 => (bif n8 == 1 then
 ∃ n16 : Int, Ru (Instr.loadAt 3 (.pointer (some (Addr.add q1 2)))) w1 (.int .i64 n16) w1 ∧ Cal Try.prog F_ptr_place #[.int .i64 n16] w1 fun r17 w2 => ∃ n17 : Int, r17 = .int .i64 n17 ∧ k_2 [.int .i64 (IntKind.i64.wrap (6 + n17))] w2
 else
 Share (fun k_3 => (bif n8 == 2 then
 ∃ n22 : Int, Ru (Instr.loadAt 3 (.pointer (some (Addr.add q1 2)))) (drew w1) (.int .i64 n22) (drew w1) ∧ ∃ n27 : Int, Ru (Instr.loadAt 3 (.pointer (some (Addr.add q1 3)))) (drew w1) (.int .i64 n27) (drew w1) ∧ Cal Try.prog F_ptr_place #[.int .i64 n22] (drew w1) fun r23 w3 => ∃ n23 : Int, r23 = .int .i64 n23 ∧ Ru (Instr.loadAt 3 (.pointer (some (Addr.add q1 3)))) w3 (.int .i64 n27) w3 ∧ Cal Try.prog F_ptr_place #[.int .i64 n27] w3 fun r28 w4 => ∃ n28 : Int, r28 = .int .i64 n28 ∧ k_3 [.int .i64 (IntKind.i64.wrap ((IntKind.i64.wrap (70 + (IntKind.i64.wrap (n23 * 64)))) + n28))] w4
 else
 k_3 [.int .i64 0] w1)) fun x_3 w5 =>
 k_2 [nth x_3 0] w5)) fun x_2 w6 =>
 k [nth x_2 0] w6)) fun x w7 =>
 ∃ n4 : Int, nth x 0 = .int .i64 n4 ∧ Cal Try.prog F_ptr_Of #[.int .i64 n4] w7 fun r32 w8 => ∃ g32a : Array Value, ∃ n32b : Int, r32 = .tuple #[.agg g32a, .int .i64 n32b] ∧ ∃ q5 : Addr, ∃ w9 : World, Ru (Instr.alloc 24 true (.tuple #[])) w8 (.pointer (some q5)) w9 ∧ ∃ w10 : World, RuU (Instr.storeAt 24 (.pointer (some q5)) (.agg g32a)) w9 w10 ∧ Share (fun k_4 => (bif n32b != 0 then k_4 [.bool true] w10 else ∃ g38 : Array Value, Ru (Instr.loadAt 24 (.pointer (some q5))) w10 (.agg g38) w10 ∧ ∃ g39 : Array Value, Ru (Instr.loadAt 24 (.pointer (some q1))) w10 (.agg g39) w10 ∧ ∃ b40 : Bool, Al (eqS .neq 24 (.tmp 38) (.tmp 39) (.agg g38) (.agg g39)) (.bool b40) ∧ k_4 [.bool b40] w10)) fun x_4 w11 =>
 ∃ b41 : Bool, nth x_4 0 = .bool b41 ∧ (bif b41 then
 K (.tuple #[.int .i64 0, .int .i64 1]) w11
 else
 K (.tuple #[.int .i64 n4, .int .i64 0]) w11)
set_option maxRecDepth 100000 in
theorem C_ptr_Back (g0 : Array Value) (w0 : World) (K : Value → World → Prop) (h : D_ptr_Back g0 w0 K) : Cal Try.prog F_ptr_Back #[.agg g0] w0 K :=
 denF_sound (A := { S := [4, 41], ty := [(4, 3), (41, 4)], raw := [] }) mixed Try.func11 (by kernel_rfl) (by kernel_rfl) ((show denF Try.prog _ Try.f11 _ w0 K = D_ptr_Back g0 w0 K by kernel_rfl).mpr h)

/- levee.leveelaw09.given: slots {};  -/
set_option maxRecDepth 100000 in
def D_leveelaw09_given (g0 : Array Value) (w0 : World) (K : Value → World → Prop) : Prop :=
 ∃ q1 : Addr, ∃ w1 : World, Ru (Instr.box 23 (.agg g0)) w0 (.pointer (some q1)) w1 ∧ ∃ q2 : Addr, ∃ w2 : World, Ru (Instr.alloc 24 true (.tuple #[])) w1 (.pointer (some q2)) w2 ∧ ∃ n4 : Int, Ru (Instr.loadAt 3 (.pointer (some (Addr.add q1 0)))) w2 (.int .i64 n4) w2 ∧ ∃ n6 : Int, Ru (Instr.loadAt 3 (.pointer (some (Addr.add q1 1)))) w2 (.int .i64 n6) w2 ∧ ∃ n8 : Int, Ru (Instr.loadAt 3 (.pointer (some (Addr.add q1 2)))) w2 (.int .i64 n8) w2 ∧ ∃ n10 : Int, Ru (Instr.loadAt 3 (.pointer (some (Addr.add q1 3)))) w2 (.int .i64 n10) w2 ∧ ∃ g11 : Array Value, Al (Instr.build 24 #[(0, .int .i64 n4), (1, .int .i64 n6), (2, .int .i64 n8), (3, .int .i64 n10)]) (.agg g11) ∧ ∃ w3 : World, RuU (Instr.storeAt 24 (.pointer (some q2)) (.agg g11)) w2 w3 ∧ ∃ gR2 : Array Value, Ru (Instr.loadAt 24 (.pointer (some q2))) w3 (.agg gR2) w3 ∧ K (.agg gR2) w3
set_option maxRecDepth 100000 in
theorem C_leveelaw09_given (g0 : Array Value) (w0 : World) (K : Value → World → Prop) (h : D_leveelaw09_given g0 w0 K) : Cal Try.prog F_leveelaw09_given #[.agg g0] w0 K :=
 denF_sound (A := { S := [], ty := [], raw := [] }) mixed Try.func12 (by kernel_rfl) (by kernel_rfl) ((show denF Try.prog _ Try.f12 _ w0 K = D_leveelaw09_given g0 w0 K by kernel_rfl).mpr h)

/- levee.leveelaw09.taken: slots {};  -/
set_option maxRecDepth 100000 in
def D_leveelaw09_taken (g0 : Array Value) (w0 : World) (K : Value → World → Prop) : Prop :=
 ∃ q1 : Addr, ∃ w1 : World, Ru (Instr.box 24 (.agg g0)) w0 (.pointer (some q1)) w1 ∧ ∃ q2 : Addr, ∃ w2 : World, Ru (Instr.alloc 23 true (.tuple #[])) w1 (.pointer (some q2)) w2 ∧ ∃ n4 : Int, Ru (Instr.loadAt 3 (.pointer (some (Addr.add q1 0)))) w2 (.int .i64 n4) w2 ∧ ∃ n6 : Int, Ru (Instr.loadAt 3 (.pointer (some (Addr.add q1 1)))) w2 (.int .i64 n6) w2 ∧ ∃ n8 : Int, Ru (Instr.loadAt 3 (.pointer (some (Addr.add q1 2)))) w2 (.int .i64 n8) w2 ∧ ∃ n10 : Int, Ru (Instr.loadAt 3 (.pointer (some (Addr.add q1 3)))) w2 (.int .i64 n10) w2 ∧ ∃ g11 : Array Value, Al (Instr.build 23 #[(0, .int .i64 n4), (1, .int .i64 n6), (2, .int .i64 n8), (3, .int .i64 n10)]) (.agg g11) ∧ ∃ w3 : World, RuU (Instr.storeAt 23 (.pointer (some q2)) (.agg g11)) w2 w3 ∧ ∃ gR2 : Array Value, Ru (Instr.loadAt 23 (.pointer (some q2))) w3 (.agg gR2) w3 ∧ K (.agg gR2) w3
set_option maxRecDepth 100000 in
theorem C_leveelaw09_taken (g0 : Array Value) (w0 : World) (K : Value → World → Prop) (h : D_leveelaw09_taken g0 w0 K) : Cal Try.prog F_leveelaw09_taken #[.agg g0] w0 K :=
 denF_sound (A := { S := [], ty := [], raw := [] }) mixed Try.func16 (by kernel_rfl) (by kernel_rfl) ((show denF Try.prog _ Try.f16 _ w0 K = D_leveelaw09_taken g0 w0 K by kernel_rfl).mpr h)

/- levee.leveeref09.Back: slots {4: 'n'}; loop over [4] -/
set_option maxRecDepth 100000 in
def D_leveeref09_Back (g0 : Array Value) (w0 : World) (K : Value → World → Prop) : Prop :=
 ∃ q1 : Addr, ∃ w1 : World, Ru (Instr.box 23 (.agg g0)) w0 (.pointer (some q1)) w1 ∧ LoopC (fun k x w2 =>
 ∃ n4 : Int, nth x 0 = .int .i64 n4 ∧ (bif decide (n4 < 4166) then
 Cal Try.prog F_leveeref09_Of #[.int .i64 n4] w2 fun r13 w3 => ∃ g13a : Array Value, ∃ n13b : Int, r13 = .tuple #[.agg g13a, .int .i64 n13b] ∧ ∃ q5 : Addr, ∃ w4 : World, Ru (Instr.alloc 23 true (.tuple #[])) w3 (.pointer (some q5)) w4 ∧ ∃ w5 : World, RuU (Instr.storeAt 23 (.pointer (some q5)) (.agg g13a)) w4 w5 ∧ ∃ g16 : Array Value, Ru (Instr.loadAt 23 (.pointer (some q5))) w5 (.agg g16) w5 ∧ ∃ g17 : Array Value, Ru (Instr.loadAt 23 (.pointer (some q1))) w5 (.agg g17) w5 ∧ ∃ b18 : Bool, Al (eqS .eql 23 (.tmp 16) (.tmp 17) (.agg g16) (.agg g17)) (.bool b18) ∧ (bif b18 then
 K (.tuple #[.int .i64 n4, .int .i64 0]) w5
 else
 k [.int .i64 (IntKind.i64.wrap (n4 + 1))] w5)
 else
 K (.tuple #[.int .i64 0, .int .i64 1]) w2)) [.int .i64 0] w1
set_option maxRecDepth 100000 in
theorem C_leveeref09_Back (g0 : Array Value) (w0 : World) (K : Value → World → Prop) (h : D_leveeref09_Back g0 w0 K) : Cal Try.prog F_leveeref09_Back #[.agg g0] w0 K :=
 denF_sound (A := { S := [4], ty := [(4, 3)], raw := [] }) mixed Try.func13 (by kernel_rfl) (by kernel_rfl) ((show denF Try.prog _ Try.f13 _ w0 K = D_leveeref09_Back g0 w0 K by kernel_rfl).mpr h)

/- levee.ptr.Span: slots {19: ''};  -/
set_option maxRecDepth 100000 in
def D_ptr_Span (n0 : Int) (n1 : Int) (w0 : World) (K : Value → World → Prop) : Prop :=
 Share (fun k => (bif decide (n1 < 1) then k [.bool true] w0 else Cal Try.prog F_ptr_within_int64 #[.int .i64 n0, .int .i64 0, .int .i64 1066496] w0 fun r11 w1 => ∃ n11 : Int, r11 = .int .i64 n11 ∧ (bif n0 != n11 then k [.bool true] w1 else k [.bool (decide (n1 > (IntKind.i64.wrap (1066496 - n0))))] w1))) fun x w2 =>
 ∃ b19 : Bool, nth x 0 = .bool b19 ∧ (bif b19 then
 K (.tuple #[.int .i64 0, .int .i64 ((-1))]) w2
 else
 K (.tuple #[.int .i64 (IntKind.i64.wrap (Int.tdiv n0 256)), .int .i64 (IntKind.i64.wrap (Int.tdiv (IntKind.i64.wrap (n0 + (IntKind.i64.wrap (n1 - 1)))) 256))]) w2)
set_option maxRecDepth 100000 in
theorem C_ptr_Span (n0 : Int) (n1 : Int) (w0 : World) (K : Value → World → Prop) (h : D_ptr_Span n0 n1 w0 K) : Cal Try.prog F_ptr_Span #[.int .i64 n0, .int .i64 n1] w0 K :=
 denF_sound (A := { S := [19], ty := [(19, 4)], raw := [] }) mixed Try.func14 (by kernel_rfl) (by kernel_rfl) ((show denF Try.prog _ Try.f14 _ w0 K = D_ptr_Span n0 n1 w0 K by kernel_rfl).mpr h)

/- levee.leveeref09.Span: slots {24: ''};  -/
set_option maxRecDepth 100000 in
def D_leveeref09_Span (n0 : Int) (n1 : Int) (w0 : World) (K : Value → World → Prop) : Prop :=
 Share (fun k => (bif decide (n1 < 1) then k [.bool true] w0 else (bif decide (n0 < 0) then k [.bool true] w0 else (bif decide (n0 > 1066496) then k [.bool true] w0 else k [.bool (decide (n1 > (IntKind.i64.wrap (1066496 - n0))))] w0)))) fun x w1 =>
 ∃ b24 : Bool, nth x 0 = .bool b24 ∧ (bif b24 then
 K (.tuple #[.int .i64 0, .int .i64 ((-1))]) w1
 else
 K (.tuple #[.int .i64 (IntKind.i64.wrap (Int.tdiv n0 256)), .int .i64 (IntKind.i64.wrap (Int.tdiv (IntKind.i64.wrap ((IntKind.i64.wrap (n0 + n1)) - 1)) 256))]) w1)
set_option maxRecDepth 100000 in
theorem C_leveeref09_Span (n0 : Int) (n1 : Int) (w0 : World) (K : Value → World → Prop) (h : D_leveeref09_Span n0 n1 w0 K) : Cal Try.prog F_leveeref09_Span #[.int .i64 n0, .int .i64 n1] w0 K :=
 denF_sound (A := { S := [24], ty := [(24, 4)], raw := [] }) mixed Try.func15 (by kernel_rfl) (by kernel_rfl) ((show denF Try.prog _ Try.f15 _ w0 K = D_leveeref09_Span n0 n1 w0 K by kernel_rfl).mpr h)

/- levee.ptr.Need: slots {};  -/
set_option maxRecDepth 100000 in
def D_ptr_Need (n0 : Int) (n1 : Int) (w0 : World) (K : Value → World → Prop) : Prop :=
 Cal Try.prog F_ptr_Span #[.int .i64 n0, .int .i64 n1] w0 fun r11 w1 => ∃ n11a : Int, ∃ n11b : Int, r11 = .tuple #[.int .i64 n11a, .int .i64 n11b] ∧ (bif decide (n11b < n11a) then
 K (.int .i64 0) w1
 else
 K (.int .i64 (IntKind.i64.wrap ((IntKind.i64.wrap ((IntKind.i64.wrap ((IntKind.i64.wrap (n11b - n11a)) + 1)) + (IntKind.i64.wrap (Int.tdiv (IntKind.i64.wrap ((IntKind.i64.wrap (n11b - n11a)) + 1)) 64)))) + 3))) w1)
set_option maxRecDepth 100000 in
theorem C_ptr_Need (n0 : Int) (n1 : Int) (w0 : World) (K : Value → World → Prop) (h : D_ptr_Need n0 n1 w0 K) : Cal Try.prog F_ptr_Need #[.int .i64 n0, .int .i64 n1] w0 K :=
 denF_sound (A := { S := [], ty := [], raw := [] }) mixed Try.func17 (by kernel_rfl) (by kernel_rfl) ((show denF Try.prog _ Try.f17 _ w0 K = D_ptr_Need n0 n1 w0 K by kernel_rfl).mpr h)

/- levee.leveeref09.Need: slots {};  -/
set_option maxRecDepth 100000 in
def D_leveeref09_Need (n0 : Int) (n1 : Int) (w0 : World) (K : Value → World → Prop) : Prop :=
 Cal Try.prog F_leveeref09_Span #[.int .i64 n0, .int .i64 n1] w0 fun r11 w1 => ∃ n11a : Int, ∃ n11b : Int, r11 = .tuple #[.int .i64 n11a, .int .i64 n11b] ∧ (bif decide ((IntKind.i64.wrap ((IntKind.i64.wrap (n11b - n11a)) + 1)) < 1) then
 K (.int .i64 0) w1
 else
 K (.int .i64 (IntKind.i64.wrap ((IntKind.i64.wrap ((IntKind.i64.wrap ((IntKind.i64.wrap (n11b - n11a)) + 1)) + 3)) + (IntKind.i64.wrap (Int.tdiv (IntKind.i64.wrap ((IntKind.i64.wrap (n11b - n11a)) + 1)) 64))))) w1)
set_option maxRecDepth 100000 in
theorem C_leveeref09_Need (n0 : Int) (n1 : Int) (w0 : World) (K : Value → World → Prop) (h : D_leveeref09_Need n0 n1 w0 K) : Cal Try.prog F_leveeref09_Need #[.int .i64 n0, .int .i64 n1] w0 K :=
 denF_sound (A := { S := [], ty := [], raw := [] }) mixed Try.func18 (by kernel_rfl) (by kernel_rfl) ((show denF Try.prog _ Try.f18 _ w0 K = D_leveeref09_Need n0 n1 w0 K by kernel_rfl).mpr h)

/- levee.num.Get: slots {3: 'n', 8: ''}; loop over [3, 8] -/
set_option maxRecDepth 100000 in
def D_num_Get (a0 : Option Addr) (l0 c0 : Nat) (w0 : World) (K : Value → World → Prop) : Prop :=
 LoopC (fun k x w1 =>
 ∃ n8 : Int, nth x 1 = .int .i64 n8 ∧ (bif decide (n8 < (if 8 < (l0 : Int) then 8 else (l0 : Int))) then
 ∃ n3 : Int, nth x 0 = .int .u64 n3 ∧ ∃ q14 : Addr, Al (Instr.indexAt 40 (.slice a0 l0 c0) (.int .i64 n8)) (.pointer (some q14)) ∧ ∃ n15 : Int, Ru (Instr.loadAt 5 (.pointer (some q14))) w1 (.int .u8 n15) w1 ∧ ∃ n19 : Int, Al (eqS .shl 78 (.tmp 16) (.tmp 18) (.int .u64 (IntKind.u64.wrap n15)) (.int .i64 (IntKind.i64.wrap (8 * n8)))) (.int .u64 n19) ∧ k [.int .u64 (IntKind.u64.wrap (bvOr 64 n3 n19)), .int .i64 (IntKind.i64.wrap (n8 + 1))] w1
 else
 ∃ n3_2 : Int, nth x 0 = .int .u64 n3_2 ∧ K (.int .u64 n3_2) w1)) [.int .u64 0, .int .i64 0] w0
set_option maxRecDepth 100000 in
theorem C_num_Get (a0 : Option Addr) (l0 c0 : Nat) (w0 : World) (K : Value → World → Prop) (h : D_num_Get a0 l0 c0 w0 K) : Cal Try.prog F_num_Get #[.slice a0 l0 c0] w0 K :=
 denF_sound (A := { S := [3, 8], ty := [(3, 78), (8, 3)], raw := [] }) mixed Try.func46 (by kernel_rfl) (by kernel_rfl) ((show denF Try.prog _ Try.f46 _ w0 K = D_num_Get a0 l0 c0 w0 K by kernel_rfl).mpr h)

/- levee.num.Put: slots {1: 'n', 7: ''}; loop over [1, 7] -/
set_option maxRecDepth 100000 in
def D_num_Put (a0 : Option Addr) (l0 c0 : Nat) (n1 : Int) (w0 : World) (K : Value → World → Prop) : Prop :=
 LoopC (fun k x w1 =>
 ∃ n7 : Int, nth x 1 = .int .i64 n7 ∧ (bif decide (n7 < (l0 : Int)) then
 ∃ n1_2 : Int, nth x 0 = .int .u64 n1_2 ∧ ∃ q14 : Addr, Al (Instr.indexAt 40 (.slice a0 l0 c0) (.int .i64 n7)) (.pointer (some q14)) ∧ ∃ w2 : World, RuU (Instr.storeAt 5 (.pointer (some q14)) (.int .u8 (IntKind.u8.wrap n1_2))) w1 w2 ∧ k [.int .u64 (Int.fdiv n1_2 256), .int .i64 (IntKind.i64.wrap (n7 + 1))] w2
 else
 K (.tuple #[]) w1)) [.int .u64 n1, .int .i64 0] w0
set_option maxRecDepth 100000 in
theorem C_num_Put (a0 : Option Addr) (l0 c0 : Nat) (n1 : Int) (w0 : World) (K : Value → World → Prop) (h : D_num_Put a0 l0 c0 n1 w0 K) : Cal Try.prog F_num_Put #[.slice a0 l0 c0, .int .u64 n1] w0 K :=
 denF_sound (A := { S := [1, 7], ty := [(1, 78), (7, 3)], raw := [] }) mixed Try.func48 (by kernel_rfl) (by kernel_rfl) ((show denF Try.prog _ Try.f48 _ w0 K = D_num_Put a0 l0 c0 n1 w0 K by kernel_rfl).mpr h)

/- levee.ptr.Names: slots {12: ''}; loop over [12] -/
set_option maxRecDepth 100000 in
def D_ptr_Names (a0 : Option Addr) (l0 c0 : Nat) (w0 : World) (K : Value → World → Prop) : Prop :=
 (bif (l0 : Int) != 256 then
 K (.tuple #[.slice none 0 0, .int .i64 4]) w0
 else
 ∃ (a9 : Option Addr) (l9 c9 : Nat), ∃ w1 : World, Ru (Instr.makeSlice 42 (.int .i64 64) (.int .i64 64)) w0 (.slice a9 l9 c9) w1 ∧ LoopC (fun k x w2 =>
 ∃ n12 : Int, nth x 0 = .int .i64 n12 ∧ (bif decide (n12 < (l9 : Int)) then
 ∃ (a23 : Option Addr) (l23 c23 : Nat), Al (Instr.sliceAt 40 (.slice a0 l0 c0) (some (.int .i64 (IntKind.i64.wrap (n12 * 4)))) (some (.int .i64 (IntKind.i64.wrap ((IntKind.i64.wrap (n12 + 1)) * 4)))) none) (.slice a23 l23 c23) ∧ Cal Try.prog F_num_Get #[.slice a23 l23 c23] w2 fun r24 w3 => ∃ n24 : Int, r24 = .int .u64 n24 ∧ ∃ q27 : Addr, Al (Instr.indexAt 42 (.slice a9 l9 c9) (.int .i64 n12)) (.pointer (some q27)) ∧ ∃ w4 : World, RuU (Instr.storeAt 3 (.pointer (some q27)) (.int .i64 (IntKind.i64.wrap (IntKind.u64.wrap (bvAnd 64 n24 2147483647))))) w3 w4 ∧ k [.int .i64 (IntKind.i64.wrap (n12 + 1))] w4
 else
 K (.tuple #[.slice a9 l9 c9, .int .i64 0]) w2)) [.int .i64 0] w1)
set_option maxRecDepth 100000 in
theorem C_ptr_Names (a0 : Option Addr) (l0 c0 : Nat) (w0 : World) (K : Value → World → Prop) (h : D_ptr_Names a0 l0 c0 w0 K) : Cal Try.prog F_ptr_Names #[.slice a0 l0 c0] w0 K :=
 denF_sound (A := { S := [12], ty := [(12, 3)], raw := [] }) mixed Try.func21 (by kernel_rfl) (by kernel_rfl) ((show denF Try.prog _ Try.f21 _ w0 K = D_ptr_Names a0 l0 c0 w0 K by kernel_rfl).mpr h)

/- levee.ptr.Lay: slots {13: '', 20: ''};  -/
set_option maxRecDepth 100000 in
def D_ptr_Lay (a0 : Option Addr) (l0 c0 : Nat) (n1 : Int) (n2 : Int) (w0 : World) (K : Value → World → Prop) : Prop :=
 (bif (l0 : Int) != 256 then
 K (.tuple #[.slice none 0 0, .int .i64 4]) w0
 else
 Share (fun k => (bif decide (n1 < 0) then k [.bool true] w0 else k [.bool (decide (n1 ≥ 64))] w0)) fun x w1 =>
 ∃ b13 : Bool, nth x 0 = .bool b13 ∧ (bif b13 then
 K (.tuple #[.slice none 0 0, .int .i64 3]) w1
 else
 Share (fun k_2 => (bif decide (n2 < 0) then k_2 [.bool true] w1 else k_2 [.bool (decide (n2 ≥ 4096))] w1)) fun x_2 w2 =>
 ∃ b20 : Bool, nth x_2 0 = .bool b20 ∧ (bif b20 then
 K (.tuple #[.slice none 0 0, .int .i64 1]) w2
 else
 ∃ (a29 : Option Addr) (l29 c29 : Nat), ∃ w3 : World, Ru (Instr.makeSlice 40 (.int .i64 ((l0 : Int))) (.int .i64 ((l0 : Int)))) w2 (.slice a29 l29 c29) w3 ∧ ∃ n32 : Int, ∃ w4 : World, Ru (Builtin.copy_ #[40, 40] 3 #[.slice a29 l29 c29, .slice a0 l0 c0]) w3 (.int .i64 n32) w4 ∧ ∃ (a39 : Option Addr) (l39 c39 : Nat), Al (Instr.sliceAt 40 (.slice a29 l29 c29) (some (.int .i64 (IntKind.i64.wrap (n1 * 4)))) (some (.int .i64 (IntKind.i64.wrap ((IntKind.i64.wrap (n1 + 1)) * 4)))) none) (.slice a39 l39 c39) ∧ Cal Try.prog F_num_Put #[.slice a39 l39 c39, .int .u64 (IntKind.u64.wrap n2)] w4 fun r42 w5 => r42 = .tuple #[] ∧ K (.tuple #[.slice a29 l29 c29, .int .i64 0]) w5)))
set_option maxRecDepth 100000 in
theorem C_ptr_Lay (a0 : Option Addr) (l0 c0 : Nat) (n1 : Int) (n2 : Int) (w0 : World) (K : Value → World → Prop) (h : D_ptr_Lay a0 l0 c0 n1 n2 w0 K) : Cal Try.prog F_ptr_Lay #[.slice a0 l0 c0, .int .i64 n1, .int .i64 n2] w0 K :=
 denF_sound (A := { S := [13, 20], ty := [(13, 4), (20, 4)], raw := [] }) mixed Try.func23 (by kernel_rfl) (by kernel_rfl) ((show denF Try.prog _ Try.f23 _ w0 K = D_ptr_Lay a0 l0 c0 n1 n2 w0 K by kernel_rfl).mpr h)

/- levee.leveelaw09.known: slots {0: ''};  -/
set_option maxRecDepth 100000 in
def D_leveelaw09_known (w0 : World) (K : Value → World → Prop) : Prop :=
 Cal Try.prog F_ptr_Of #[.int .i64 200] w0 fun r10 w1 => ∃ g10a : Array Value, ∃ n10b : Int, r10 = .tuple #[.agg g10a, .int .i64 n10b] ∧ ∃ q1 : Addr, ∃ w2 : World, Ru (Instr.alloc 24 true (.tuple #[])) w1 (.pointer (some q1)) w2 ∧ ∃ w3 : World, RuU (Instr.storeAt 24 (.pointer (some q1)) (.agg g10a)) w2 w3 ∧ ∃ g14 : Array Value, Al (Instr.build 24 #[(0, .int .i64 1), (2, .int .i64 0)]) (.agg g14) ∧ Cal Try.prog F_ptr_Back #[.agg g14] w3 fun r15 w4 => ∃ n15a : Int, ∃ n15b : Int, r15 = .tuple #[.int .i64 n15a, .int .i64 n15b] ∧ ∃ (a19 : Option Addr) (l19 c19 : Nat), ∃ w5 : World, Ru (Instr.makeSlice 40 (.int .i64 256) (.int .i64 256)) w4 (.slice a19 l19 c19) w5 ∧ Cal Try.prog F_ptr_Lay #[.slice a19 l19 c19, .int .i64 1, .int .i64 258] w5 fun r20 w6 => ∃ (a20a : Option Addr) (l20a c20a : Nat), ∃ n20b : Int, r20 = .tuple #[.slice a20a l20a c20a, .int .i64 n20b] ∧ Cal Try.prog F_ptr_Names #[.slice a20a l20a c20a] w6 fun r25 w7 => ∃ (a25a : Option Addr) (l25a c25a : Nat), ∃ n25b : Int, r25 = .tuple #[.slice a25a l25a c25a, .int .i64 n25b] ∧ Share (fun k => ∃ n29 : Int, Ru (Instr.loadAt 3 (.pointer (some (Addr.add q1 0)))) w7 (.int .i64 n29) w7 ∧ (bif n29 == 2 then ∃ n33 : Int, Ru (Instr.loadAt 3 (.pointer (some (Addr.add q1 2)))) w7 (.int .i64 n33) w7 ∧ (bif n33 == 2 then ∃ n38 : Int, Ru (Instr.loadAt 3 (.pointer (some (Addr.add q1 3)))) w7 (.int .i64 n38) w7 ∧ (bif n38 == 2 then (bif n10b == 0 then (bif n15a == 6 then (bif n15b == 0 then (bif n20b == 0 then (bif n25b == 0 then (bif (l25a : Int) == 64 then ∃ q68 : Addr, Al (Instr.indexAt 42 (.slice a25a l25a c25a) (.int .i64 1)) (.pointer (some q68)) ∧ ∃ n69 : Int, Ru (Instr.loadAt 3 (.pointer (some q68))) w7 (.int .i64 n69) w7 ∧ (bif n69 == 258 then Cal Try.prog F_ptr_Need #[.int .i64 0, .int .i64 300] w7 fun r73 w8 => ∃ n73 : Int, r73 = .int .i64 n73 ∧ k [.bool (n73 == 5)] w8 else k [.bool false] w7) else k [.bool false] w7) else k [.bool false] w7) else k [.bool false] w7) else k [.bool false] w7) else k [.bool false] w7) else k [.bool false] w7) else k [.bool false] w7) else k [.bool false] w7) else k [.bool false] w7)) fun x w9 =>
 ∃ b0 : Bool, nth x 0 = .bool b0 ∧ K (.bool b0) w9
set_option maxRecDepth 100000 in
theorem C_leveelaw09_known (w0 : World) (K : Value → World → Prop) (h : D_leveelaw09_known  w0 K) : Cal Try.prog F_leveelaw09_known #[] w0 K :=
 denF_sound (A := { S := [0], ty := [(0, 4)], raw := [] }) mixed Try.func19 (by kernel_rfl) (by kernel_rfl) ((show denF Try.prog _ Try.f19 _ w0 K = D_leveelaw09_known  w0 K by kernel_rfl).mpr h)

/- levee.leveelaw09.PtrWays: slots {8: ''};  -/
set_option maxRecDepth 100000 in
def D_leveelaw09_PtrWays (n0 : Int) (g1 : Array Value) (n2 : Int) (n3 : Int) (w0 : World) (K : Value → World → Prop) : Prop :=
 ∃ q5 : Addr, ∃ w1 : World, Ru (Instr.box 23 (.agg g1)) w0 (.pointer (some q5)) w1 ∧ Cal Try.prog F_ptr_Of #[.int .i64 n0] w1 fun r23 w2 => ∃ g23a : Array Value, ∃ n23b : Int, r23 = .tuple #[.agg g23a, .int .i64 n23b] ∧ ∃ q9 : Addr, ∃ w3 : World, Ru (Instr.alloc 24 true (.tuple #[])) w2 (.pointer (some q9)) w3 ∧ ∃ w4 : World, RuU (Instr.storeAt 24 (.pointer (some q9)) (.agg g23a)) w3 w4 ∧ Cal Try.prog F_leveeref09_Of #[.int .i64 n0] w4 fun r28 w5 => ∃ g28a : Array Value, ∃ n28b : Int, r28 = .tuple #[.agg g28a, .int .i64 n28b] ∧ ∃ q11 : Addr, ∃ w6 : World, Ru (Instr.alloc 23 true (.tuple #[])) w5 (.pointer (some q11)) w6 ∧ ∃ w7 : World, RuU (Instr.storeAt 23 (.pointer (some q11)) (.agg g28a)) w6 w7 ∧ ∃ g32 : Array Value, Ru (Instr.loadAt 23 (.pointer (some q5))) w7 (.agg g32) w7 ∧ Cal Try.prog F_leveelaw09_given #[.agg g32] w7 fun r33 w8 => ∃ g33 : Array Value, r33 = .agg g33 ∧ Cal Try.prog F_ptr_Back #[.agg g33] w8 fun r34 w9 => ∃ n34a : Int, ∃ n34b : Int, r34 = .tuple #[.int .i64 n34a, .int .i64 n34b] ∧ ∃ g38 : Array Value, Ru (Instr.loadAt 23 (.pointer (some q5))) w9 (.agg g38) w9 ∧ Cal Try.prog F_leveeref09_Back #[.agg g38] w9 fun r39 w10 => ∃ n39a : Int, ∃ n39b : Int, r39 = .tuple #[.int .i64 n39a, .int .i64 n39b] ∧ Cal Try.prog F_ptr_Span #[.int .i64 n2, .int .i64 n3] w10 fun r45 w11 => ∃ n45a : Int, ∃ n45b : Int, r45 = .tuple #[.int .i64 n45a, .int .i64 n45b] ∧ Cal Try.prog F_leveeref09_Span #[.int .i64 n2, .int .i64 n3] w11 fun r51 w12 => ∃ n51a : Int, ∃ n51b : Int, r51 = .tuple #[.int .i64 n51a, .int .i64 n51b] ∧ Share (fun k => ∃ g54 : Array Value, Ru (Instr.loadAt 24 (.pointer (some q9))) (drew w12) (.agg g54) (drew w12) ∧ ∃ g56 : Array Value, Ru (Instr.loadAt 23 (.pointer (some q11))) (drew w12) (.agg g56) (drew w12) ∧ Cal Try.prog F_leveelaw09_taken #[.agg g54] (drew w12) fun r55 w13 => ∃ g55 : Array Value, r55 = .agg g55 ∧ Ru (Instr.loadAt 23 (.pointer (some q11))) w13 (.agg g56) w13 ∧ ∃ b57 : Bool, Al (eqS .eql 23 (.tmp 55) (.tmp 56) (.agg g55) (.agg g56)) (.bool b57) ∧ (bif b57 then (bif n23b == n28b then (bif n34a == n39a then (bif n34b == n39b then (bif n45a == n51a then (bif n45b == n51b then Cal Try.prog F_ptr_Need #[.int .i64 n2, .int .i64 n3] w13 fun r86 w14 => ∃ n86 : Int, r86 = .int .i64 n86 ∧ Cal Try.prog F_leveeref09_Need #[.int .i64 n2, .int .i64 n3] w14 fun r89 w15 => ∃ n89 : Int, r89 = .int .i64 n89 ∧ (bif n86 == n89 then Cal Try.prog F_leveelaw09_known #[] w15 fun r93 w16 => ∃ b93 : Bool, r93 = .bool b93 ∧ k [.bool b93] w16 else k [.bool false] w15) else k [.bool false] w13) else k [.bool false] w13) else k [.bool false] w13) else k [.bool false] w13) else k [.bool false] w13) else k [.bool false] w13)) fun x w17 =>
 ∃ b8 : Bool, nth x 0 = .bool b8 ∧ K (.bool b8) w17
set_option maxRecDepth 100000 in
theorem C_leveelaw09_PtrWays (n0 : Int) (g1 : Array Value) (n2 : Int) (n3 : Int) (w0 : World) (K : Value → World → Prop) (h : D_leveelaw09_PtrWays n0 g1 n2 n3 w0 K) : Cal Try.prog F_leveelaw09_PtrWays #[.int .i64 n0, .agg g1, .int .i64 n2, .int .i64 n3] w0 K :=
 denF_sound (A := { S := [8], ty := [(8, 4)], raw := [] }) mixed Try.func3 (by kernel_rfl) (by kernel_rfl) ((show denF Try.prog _ Try.f3 _ w0 K = D_leveelaw09_PtrWays n0 g1 n2 n3 w0 K by kernel_rfl).mpr h)

/- levee.leveelaw09.PtrBack: slots {4: '', 11: 'less', 27: ''};  -/
set_option maxRecDepth 100000 in
def D_leveelaw09_PtrBack (n0 : Int) (n1 : Int) (w0 : World) (K : Value → World → Prop) : Prop :=
 Cal Try.prog F_ptr_Of #[.int .i64 n0] w0 fun r14 w1 => ∃ g14a : Array Value, ∃ n14b : Int, r14 = .tuple #[.agg g14a, .int .i64 n14b] ∧ ∃ q5 : Addr, ∃ w2 : World, Ru (Instr.alloc 24 true (.tuple #[])) w1 (.pointer (some q5)) w2 ∧ ∃ w3 : World, RuU (Instr.storeAt 24 (.pointer (some q5)) (.agg g14a)) w2 w3 ∧ Cal Try.prog F_ptr_Of #[.int .i64 n1] w3 fun r19 w4 => ∃ g19a : Array Value, ∃ n19b : Int, r19 = .tuple #[.agg g19a, .int .i64 n19b] ∧ ∃ q7 : Addr, ∃ w5 : World, Ru (Instr.alloc 24 true (.tuple #[])) w4 (.pointer (some q7)) w5 ∧ ∃ w6 : World, RuU (Instr.storeAt 24 (.pointer (some q7)) (.agg g19a)) w5 w6 ∧ Share (fun k => (bif n14b != 0 then k [.bool true] w6 else k [.bool (n19b != 0)] w6)) fun x w7 =>
 ∃ b27 : Bool, nth x 0 = .bool b27 ∧ (bif b27 then
 Cal Try.prog F_leveelaw09_known #[] w7 fun r28 w8 => ∃ b28 : Bool, r28 = .bool b28 ∧ K (.bool b28) w8
 else
 ∃ g30 : Array Value, Ru (Instr.loadAt 24 (.pointer (some q5))) w7 (.agg g30) w7 ∧ Cal Try.prog F_ptr_Back #[.agg g30] w7 fun r31 w9 => ∃ n31a : Int, ∃ n31b : Int, r31 = .tuple #[.int .i64 n31a, .int .i64 n31b] ∧ Share (fun k_2 => ∃ n35 : Int, Ru (Instr.loadAt 3 (.pointer (some (Addr.add q5 0)))) w9 (.int .i64 n35) w9 ∧ ∃ n37 : Int, Ru (Instr.loadAt 3 (.pointer (some (Addr.add q7 0)))) w9 (.int .i64 n37) w9 ∧ (bif decide (n35 < n37) then k_2 [.bool true] w9 else ∃ n41 : Int, Ru (Instr.loadAt 3 (.pointer (some (Addr.add q5 0)))) w9 (.int .i64 n41) w9 ∧ ∃ n43 : Int, Ru (Instr.loadAt 3 (.pointer (some (Addr.add q7 0)))) w9 (.int .i64 n43) w9 ∧ (bif n41 == n43 then ∃ n47 : Int, Ru (Instr.loadAt 3 (.pointer (some (Addr.add q5 1)))) w9 (.int .i64 n47) w9 ∧ ∃ n49 : Int, Ru (Instr.loadAt 3 (.pointer (some (Addr.add q7 1)))) w9 (.int .i64 n49) w9 ∧ (bif decide (n47 < n49) then k_2 [.bool true] w9 else ∃ n53 : Int, Ru (Instr.loadAt 3 (.pointer (some (Addr.add q5 1)))) w9 (.int .i64 n53) w9 ∧ ∃ n55 : Int, Ru (Instr.loadAt 3 (.pointer (some (Addr.add q7 1)))) w9 (.int .i64 n55) w9 ∧ (bif n53 == n55 then ∃ n59 : Int, Ru (Instr.loadAt 3 (.pointer (some (Addr.add q5 2)))) w9 (.int .i64 n59) w9 ∧ ∃ n61 : Int, Ru (Instr.loadAt 3 (.pointer (some (Addr.add q7 2)))) w9 (.int .i64 n61) w9 ∧ (bif decide (n59 < n61) then k_2 [.bool true] w9 else ∃ n65 : Int, Ru (Instr.loadAt 3 (.pointer (some (Addr.add q5 2)))) w9 (.int .i64 n65) w9 ∧ ∃ n67 : Int, Ru (Instr.loadAt 3 (.pointer (some (Addr.add q7 2)))) w9 (.int .i64 n67) w9 ∧ (bif n65 == n67 then ∃ n71 : Int, Ru (Instr.loadAt 3 (.pointer (some (Addr.add q5 3)))) w9 (.int .i64 n71) w9 ∧ ∃ n73 : Int, Ru (Instr.loadAt 3 (.pointer (some (Addr.add q7 3)))) w9 (.int .i64 n73) w9 ∧ k_2 [.bool (decide (n71 < n73))] w9 else k_2 [.bool false] w9)) else k_2 [.bool false] w9)) else k_2 [.bool false] w9))) fun x_2 w10 =>
 Share (fun k_3 => (bif n31a == n0 then (bif n31b == 0 then ∃ b11 : Bool, nth x_2 0 = .bool b11 ∧ (bif b11 == (decide (n0 < n1)) then Cal Try.prog F_leveelaw09_known #[] w10 fun r96 w11 => ∃ b96 : Bool, r96 = .bool b96 ∧ k_3 [.bool b96] w11 else k_3 [.bool false] w10) else k_3 [.bool false] w10) else k_3 [.bool false] w10)) fun x_3 w12 =>
 ∃ b4 : Bool, nth x_3 0 = .bool b4 ∧ K (.bool b4) w12)
set_option maxRecDepth 100000 in
theorem C_leveelaw09_PtrBack (n0 : Int) (n1 : Int) (w0 : World) (K : Value → World → Prop) (h : D_leveelaw09_PtrBack n0 n1 w0 K) : Cal Try.prog F_leveelaw09_PtrBack #[.int .i64 n0, .int .i64 n1] w0 K :=
 denF_sound (A := { S := [4, 11, 27], ty := [(4, 4), (11, 4), (27, 4)], raw := [] }) mixed Try.func5 (by kernel_rfl) (by kernel_rfl) ((show denF Try.prog _ Try.f5 _ w0 K = D_leveelaw09_PtrBack n0 n1 w0 K by kernel_rfl).mpr h)

end Go.Proofs.Ytkmkfdljnlbikaa
