/- Parts of the proof, in order: what the statement leans on. -/
import Derived.Test.YtiahkkekcmgkfaaDoorBa
section
/- What functions of the translation come to, as printed by a program of this session. -/
open Go Go.Den Go.Proofs
namespace Go.Proofs.YtiahkkekcmgkfaaDoor

/- levee.leveelaw34.DiffTrees: slots {13: 'i', 14: 'k', 22: '', 47: '', 84: '', 119: ''}; loop over [13, 14, 119] -/
/- levee.leveelaw34.DiffSums: slots {4: '', 92: ''};  -/
/- levee.leveelaw34.DiffFinds: slots {4: ''};  -/
/- levee.leveelaw34.DiffMore: slots {6: '', 26: ''};  -/
set_option maxRecDepth 100000 in
def D_leveelaw34_DiffMore (a0 : Option Addr) (l0 c0 : Nat) (s1 : ByteArray) (s2 : ByteArray) (w0 : World) (K : Value → World → Prop) : Prop :=
 Share (fun k => (bif decide ((l0 : Int) > 40) then k [.bool true] w0 else Cal Tryd.prog F_leveeref33_Right #[.slice a0 l0 c0] w0 fun r19 w1 => ∃ b19 : Bool, r19 = .bool b19 ∧ (bif !b19 then k [.bool true] w1 else k [.bool (decide ((ByteArray.size s2 : Int) > 100))] w1))) fun x w2 =>
 ∃ b26 : Bool, nth x 0 = .bool b26 ∧ (bif b26 then
 Cal Tryd.prog F_leveelaw34_known #[] w2 fun r27 w3 => ∃ b27 : Bool, r27 = .bool b27 ∧ K (.bool b27) w3
 else
 ∃ (a30 : Option Addr) (l30 c30 : Nat), ∃ w4 : World, Ru (Builtin.append_ #[22, 22] 22 #[.slice none 0 0, .slice a0 l0 c0]) w2 (.slice a30 l30 c30) w4 ∧ ∃ s33 : ByteArray, Al (eqS .add 9 (.const (.string ⟨#[47]⟩)) (.tmp 32) (.string ⟨#[47]⟩) (.string s1)) (.string s33) ∧ ∃ g35 : Array Value, Al (Instr.build 58 #[(0, .string s33), (1, .int .i64 1), (3, .string s2), (4, .int .i64 ((-1)))]) (.agg g35) ∧ ∃ (a36 : Option Addr) (l36 c36 : Nat), ∃ w5 : World, Ru (Instr.buildSlice 22 1 #[(0, .agg g35)]) w4 (.slice a36 l36 c36) w5 ∧ ∃ (a37 : Option Addr) (l37 c37 : Nat), ∃ w6 : World, Ru (Builtin.append_ #[22, 22] 22 #[.slice a30 l30 c30, .slice a36 l36 c36]) w5 (.slice a37 l37 c37) w6 ∧ Cal Tryd.prog F_leveeref33_Right #[.slice a37 l37 c37] w6 fun r39 w7 => ∃ b39 : Bool, r39 = .bool b39 ∧ (bif !b39 then
 Cal Tryd.prog F_leveelaw34_known #[] w7 fun r41 w8 => ∃ b41 : Bool, r41 = .bool b41 ∧ K (.bool b41) w8
 else
 Cal Tryd.prog F_leveelaw34_given #[.slice a0 l0 c0] w7 fun r44 w9 => ∃ (a44 : Option Addr) (l44 c44 : Nat), r44 = .slice a44 l44 c44 ∧ Cal Tryd.prog F_leveelaw34_given #[.slice a37 l37 c37] w9 fun r46 w10 => ∃ (a46 : Option Addr) (l46 c46 : Nat), r46 = .slice a46 l46 c46 ∧ Cal Tryd.prog F_diff_Trees #[.slice a44 l44 c44, .slice a46 l46 c46] w10 fun r47 w11 => ∃ (a47a : Option Addr) (l47a c47a : Nat), ∃ n47b : Int, r47 = .tuple #[.slice a47a l47a c47a, .int .i64 n47b] ∧ Cal Tryd.prog F_leveelaw34_given #[.slice a0 l0 c0] w11 fun r52 w12 => ∃ (a52 : Option Addr) (l52 c52 : Nat), r52 = .slice a52 l52 c52 ∧ Cal Tryd.prog F_diff_Sum #[.slice a52 l52 c52] w12 fun r53 w13 => ∃ g53a : Array Value, ∃ n53b : Int, r53 = .tuple #[.agg g53a, .int .i64 n53b] ∧ ∃ q10 : Addr, ∃ w14 : World, Ru (Instr.alloc 39 true (.tuple #[])) w13 (.pointer (some q10)) w14 ∧ ∃ w15 : World, RuU (Instr.storeAt 39 (.pointer (some q10)) (.agg g53a)) w14 w15 ∧ Cal Tryd.prog F_leveelaw34_given #[.slice a37 l37 c37] w15 fun r58 w16 => ∃ (a58 : Option Addr) (l58 c58 : Nat), r58 = .slice a58 l58 c58 ∧ Cal Tryd.prog F_diff_Sum #[.slice a58 l58 c58] w16 fun r59 w17 => ∃ g59a : Array Value, ∃ n59b : Int, r59 = .tuple #[.agg g59a, .int .i64 n59b] ∧ ∃ q12 : Addr, ∃ w18 : World, Ru (Instr.alloc 39 true (.tuple #[])) w17 (.pointer (some q12)) w18 ∧ ∃ w19 : World, RuU (Instr.storeAt 39 (.pointer (some q12)) (.agg g59a)) w18 w19 ∧ Share (fun k_2 => (bif n47b == 0 then (bif (l47a : Int) == 1 then ∃ q71 : Addr, Al (Instr.indexAt 24 (.slice a47a l47a c47a) (.int .i64 0)) (.pointer (some q71)) ∧ ∃ n73 : Int, Ru (Instr.loadAt 3 (.pointer (some (Addr.add q71 0)))) w19 (.int .i64 n73) w19 ∧ (bif n73 == 2 then ∃ q78 : Addr, Al (Instr.indexAt 24 (.slice a47a l47a c47a) (.int .i64 0)) (.pointer (some q78)) ∧ ∃ s80 : ByteArray, Ru (Instr.loadAt 9 (.pointer (some (Addr.add q78 1)))) w19 (.string s80) w19 ∧ ∃ s82 : ByteArray, Al (eqS .add 9 (.const (.string ⟨#[47]⟩)) (.tmp 81) (.string ⟨#[47]⟩) (.string s1)) (.string s82) ∧ (bif (ByteArray.toList s80) == (ByteArray.toList s82) then (bif n53b == 0 then (bif n59b == 0 then ∃ n95 : Int, Ru (Instr.loadAt 3 (.pointer (some (Addr.add q12 3)))) w19 (.int .i64 n95) w19 ∧ ∃ n97 : Int, Ru (Instr.loadAt 3 (.pointer (some (Addr.add q10 3)))) w19 (.int .i64 n97) w19 ∧ (bif n95 == (IntKind.i64.wrap (n97 + 1)) then ∃ n103 : Int, Ru (Instr.loadAt 3 (.pointer (some (Addr.add q12 1)))) w19 (.int .i64 n103) w19 ∧ ∃ n105 : Int, Ru (Instr.loadAt 3 (.pointer (some (Addr.add q10 1)))) w19 (.int .i64 n105) w19 ∧ (bif n103 == (IntKind.i64.wrap (n105 + 1)) then ∃ n111 : Int, Ru (Instr.loadAt 2 (.pointer (some (Addr.add q12 4)))) w19 (.int .i64 n111) w19 ∧ ∃ n113 : Int, Ru (Instr.loadAt 2 (.pointer (some (Addr.add q10 4)))) w19 (.int .i64 n113) w19 ∧ (bif n111 == (IntKind.i64.wrap (n113 + (ByteArray.size s2 : Int))) then Cal Tryd.prog F_leveelaw34_known #[] w19 fun r120 w20 => ∃ b120 : Bool, r120 = .bool b120 ∧ k_2 [.bool b120] w20 else k_2 [.bool false] w19) else k_2 [.bool false] w19) else k_2 [.bool false] w19) else k_2 [.bool false] w19) else k_2 [.bool false] w19) else k_2 [.bool false] w19) else k_2 [.bool false] w19) else k_2 [.bool false] w19) else k_2 [.bool false] w19)) fun x_2 w21 =>
 ∃ b6 : Bool, nth x_2 0 = .bool b6 ∧ K (.bool b6) w21))
set_option maxRecDepth 100000 in
theorem C_leveelaw34_DiffMore (a0 : Option Addr) (l0 c0 : Nat) (s1 : ByteArray) (s2 : ByteArray) (w0 : World) (K : Value → World → Prop) (h : D_leveelaw34_DiffMore a0 l0 c0 s1 s2 w0 K) : Cal Tryd.prog F_leveelaw34_DiffMore #[.slice a0 l0 c0, .string s1, .string s2] w0 K :=
 denF_sound (A := { S := [6, 26], ty := [(6, 4), (26, 4)], raw := [] }) mixed Tryd.func6 (by kernel_rfl) (by kernel_rfl) ((show denF Tryd.prog _ Tryd.f6 _ w0 K = D_leveelaw34_DiffMore a0 l0 c0 s1 s2 w0 K by kernel_rfl).mpr h)

/- levee.leveelaw34.DiffNone: slots {2: ''};  -/
/- levee.leveelaw34.known: slots {0: ''};  -/
set_option maxRecDepth 100000 in
def D_leveelaw34_known (w0 : World) (K : Value → World → Prop) : Prop :=
 Cal Tryd.prog F_leveelaw34_one #[.string ⟨#[102]⟩] w0 fun r10 w1 => ∃ (a10 : Option Addr) (l10 c10 : Nat), r10 = .slice a10 l10 c10 ∧ Cal Tryd.prog F_leveelaw34_one #[.string ⟨#[103]⟩] w1 fun r11 w2 => ∃ (a11 : Option Addr) (l11 c11 : Nat), r11 = .slice a11 l11 c11 ∧ Cal Tryd.prog F_diff_Trees #[.slice a10 l10 c10, .slice a11 l11 c11] w2 fun r12 w3 => ∃ (a12a : Option Addr) (l12a c12a : Nat), ∃ n12b : Int, r12 = .tuple #[.slice a12a l12a c12a, .int .i64 n12b] ∧ Cal Tryd.prog F_leveelaw34_one #[.string ⟨#[102]⟩] w3 fun r16 w4 => ∃ (a16 : Option Addr) (l16 c16 : Nat), r16 = .slice a16 l16 c16 ∧ Cal Tryd.prog F_diff_Sum #[.slice a16 l16 c16] w4 fun r17 w5 => ∃ g17a : Array Value, ∃ n17b : Int, r17 = .tuple #[.agg g17a, .int .i64 n17b] ∧ ∃ q3 : Addr, ∃ w6 : World, Ru (Instr.alloc 39 true (.tuple #[])) w5 (.pointer (some q3)) w6 ∧ ∃ w7 : World, RuU (Instr.storeAt 39 (.pointer (some q3)) (.agg g17a)) w6 w7 ∧ Cal Tryd.prog F_leveelaw34_one #[.string ⟨#[102]⟩] w7 fun r21 w8 => ∃ (a21 : Option Addr) (l21 c21 : Nat), r21 = .slice a21 l21 c21 ∧ Cal Tryd.prog F_diff_Below #[.slice a21 l21 c21, .string (⟨#[47, 97]⟩)] w8 fun r22 w9 => ∃ (a22a : Option Addr) (l22a c22a : Nat), ∃ n22b : Int, r22 = .tuple #[.slice a22a l22a c22a, .int .i64 n22b] ∧ Cal Tryd.prog F_leveelaw34_one #[.string ⟨#[102]⟩] w9 fun r26 w10 => ∃ (a26 : Option Addr) (l26 c26 : Nat), r26 = .slice a26 l26 c26 ∧ Cal Tryd.prog F_diff_Find #[.slice a26 l26 c26, .string (⟨#[102, 42]⟩)] w10 fun r27 w11 => ∃ (a27a : Option Addr) (l27a c27a : Nat), ∃ n27b : Int, r27 = .tuple #[.slice a27a l27a c27a, .int .i64 n27b] ∧ Share (fun k => (bif n12b == 0 then (bif (l12a : Int) == 2 then ∃ q39 : Addr, Al (Instr.indexAt 24 (.slice a12a l12a c12a) (.int .i64 0)) (.pointer (some q39)) ∧ ∃ n41 : Int, Ru (Instr.loadAt 3 (.pointer (some (Addr.add q39 0)))) w11 (.int .i64 n41) w11 ∧ (bif n41 == 1 then ∃ q46 : Addr, Al (Instr.indexAt 24 (.slice a12a l12a c12a) (.int .i64 0)) (.pointer (some q46)) ∧ ∃ s48 : ByteArray, Ru (Instr.loadAt 9 (.pointer (some (Addr.add q46 1)))) w11 (.string s48) w11 ∧ (bif (ByteArray.toList s48) == (ByteArray.toList (⟨#[47, 97, 47, 102]⟩)) then ∃ q53 : Addr, Al (Instr.indexAt 24 (.slice a12a l12a c12a) (.int .i64 1)) (.pointer (some q53)) ∧ ∃ n55 : Int, Ru (Instr.loadAt 3 (.pointer (some (Addr.add q53 0)))) w11 (.int .i64 n55) w11 ∧ (bif n55 == 2 then ∃ q60 : Addr, Al (Instr.indexAt 24 (.slice a12a l12a c12a) (.int .i64 1)) (.pointer (some q60)) ∧ ∃ s62 : ByteArray, Ru (Instr.loadAt 9 (.pointer (some (Addr.add q60 1)))) w11 (.string s62) w11 ∧ (bif (ByteArray.toList s62) == (ByteArray.toList (⟨#[47, 97, 47, 103]⟩)) then (bif n17b == 0 then ∃ n71 : Int, Ru (Instr.loadAt 3 (.pointer (some (Addr.add q3 0)))) w11 (.int .i64 n71) w11 ∧ (bif n71 == 2 then ∃ n76 : Int, Ru (Instr.loadAt 3 (.pointer (some (Addr.add q3 1)))) w11 (.int .i64 n76) w11 ∧ (bif n76 == 1 then ∃ n81 : Int, Ru (Instr.loadAt 3 (.pointer (some (Addr.add q3 3)))) w11 (.int .i64 n81) w11 ∧ (bif n81 == 2 then ∃ n86 : Int, Ru (Instr.loadAt 2 (.pointer (some (Addr.add q3 4)))) w11 (.int .i64 n86) w11 ∧ (bif n86 == 2 then (bif n22b == 0 then (bif (l22a : Int) == 2 then ∃ q100 : Addr, Al (Instr.indexAt 28 (.slice a22a l22a c22a) (.int .i64 1)) (.pointer (some q100)) ∧ ∃ s102 : ByteArray, Ru (Instr.loadAt 9 (.pointer (some (Addr.add q100 0)))) w11 (.string s102) w11 ∧ (bif (ByteArray.toList s102) == (ByteArray.toList (⟨#[47, 102]⟩)) then (bif n27b == 0 then k [.bool (bif ((l27a : Int) == 1) then true else false)] w11 else k [.bool false] w11) else k [.bool false] w11) else k [.bool false] w11) else k [.bool false] w11) else k [.bool false] w11) else k [.bool false] w11) else k [.bool false] w11) else k [.bool false] w11) else k [.bool false] w11) else k [.bool false] w11) else k [.bool false] w11) else k [.bool false] w11) else k [.bool false] w11) else k [.bool false] w11) else k [.bool false] w11)) fun x w12 =>
 ∃ b0 : Bool, nth x 0 = .bool b0 ∧ K (.bool b0) w12
set_option maxRecDepth 100000 in
theorem C_leveelaw34_known (w0 : World) (K : Value → World → Prop) (h : D_leveelaw34_known  w0 K) : Cal Tryd.prog F_leveelaw34_known #[] w0 K :=
 denF_sound (A := { S := [0], ty := [(0, 4)], raw := [] }) mixed Tryd.func8 (by kernel_rfl) (by kernel_rfl) ((show denF Tryd.prog _ Tryd.f8 _ w0 K = D_leveelaw34_known  w0 K by kernel_rfl).mpr h)

/- levee.diff.Trees: slots {14: ''};  -/
set_option maxRecDepth 100000 in
def D_diff_Trees (a0 : Option Addr) (l0 c0 : Nat) (a1 : Option Addr) (l1 c1 : Nat) (w0 : World) (K : Value → World → Prop) : Prop :=
 ∃ q2 : Addr, ∃ w1 : World, Ru (Instr.box 28 (.slice a0 l0 c0)) w0 (.pointer (some q2)) w1 ∧ ∃ q3 : Addr, ∃ w2 : World, Ru (Instr.box 28 (.slice a1 l1 c1)) w1 (.pointer (some q3)) w2 ∧ Share (fun k => ∃ (a7 : Option Addr) (l7 c7 : Nat), Ru (Instr.loadAt 28 (.pointer (some q2))) w2 (.slice a7 l7 c7) w2 ∧ Cal Tryd.prog F_dump_Right #[.slice a7 l7 c7] w2 fun r8 w3 => ∃ b8 : Bool, r8 = .bool b8 ∧ (bif !b8 then k [.bool true] w3 else ∃ (a11 : Option Addr) (l11 c11 : Nat), Ru (Instr.loadAt 28 (.pointer (some q3))) w3 (.slice a11 l11 c11) w3 ∧ Cal Tryd.prog F_dump_Right #[.slice a11 l11 c11] w3 fun r12 w4 => ∃ b12 : Bool, r12 = .bool b12 ∧ k [.bool (!b12)] w4)) fun x w5 =>
 ∃ b14 : Bool, nth x 0 = .bool b14 ∧ (bif b14 then
 K (.tuple #[.slice none 0 0, .int .i64 1]) w5
 else
 ∃ q6 : Addr, ∃ w6 : World, Ru (Instr.alloc 24 true (.tuple #[])) w5 (.pointer (some q6)) w6 ∧ ∃ (a15 : Option Addr) (l15 c15 : Nat), Ru (Instr.loadAt 28 (.pointer (some q2))) w6 (.slice a15 l15 c15) w6 ∧ ∃ (a16 : Option Addr) (l16 c16 : Nat), Ru (Instr.loadAt 28 (.pointer (some q3))) w6 (.slice a16 l16 c16) w6 ∧ Cal Tryd.prog F_diff_sides #[.slice a15 l15 c15, .slice a16 l16 c16, .func (.func F_diff_Trees_1) #[] #[.pointer (some q6), .pointer (some q2), .pointer (some q3)]] w6 fun r18 w7 => r18 = .tuple #[] ∧ ∃ (a19 : Option Addr) (l19 c19 : Nat), Ru (Instr.loadAt 24 (.pointer (some q6))) w7 (.slice a19 l19 c19) w7 ∧ K (.tuple #[.slice a19 l19 c19, .int .i64 0]) w7)
set_option maxRecDepth 100000 in
theorem C_diff_Trees (a0 : Option Addr) (l0 c0 : Nat) (a1 : Option Addr) (l1 c1 : Nat) (w0 : World) (K : Value → World → Prop) (h : D_diff_Trees a0 l0 c0 a1 l1 c1 w0 K) : Cal Tryd.prog F_diff_Trees #[.slice a0 l0 c0, .slice a1 l1 c1] w0 K :=
 denF_sound (A := { S := [14], ty := [(14, 4)], raw := [] }) mixed Tryd.func9 (by kernel_rfl) (by kernel_rfl) ((show denF Tryd.prog _ Tryd.f9 _ w0 K = D_diff_Trees a0 l0 c0 a1 l1 c1 w0 K by kernel_rfl).mpr h)

/- levee.leveelaw34.given: slots {3: 'out', 4: 'i'}; loop over [3, 4] -/
set_option maxRecDepth 100000 in
def D_leveelaw34_given (a0 : Option Addr) (l0 c0 : Nat) (w0 : World) (K : Value → World → Prop) : Prop :=
 LoopC (fun k x w1 =>
 ∃ n4 : Int, nth x 1 = .int .i64 n4 ∧ (bif decide (n4 < (l0 : Int)) then
 ∃ (a3 : Option Addr) (l3 c3 : Nat), nth x 0 = .slice a3 l3 c3 ∧ ∃ q14 : Addr, Al (Instr.indexAt 22 (.slice a0 l0 c0) (.int .i64 n4)) (.pointer (some q14)) ∧ ∃ s16 : ByteArray, Ru (Instr.loadAt 9 (.pointer (some (Addr.add q14 0)))) (drew w1) (.string s16) (drew w1) ∧ ∃ q19 : Addr, Al (Instr.indexAt 22 (.slice a0 l0 c0) (.int .i64 n4)) (.pointer (some q19)) ∧ ∃ n21 : Int, Ru (Instr.loadAt 3 (.pointer (some (Addr.add q19 1)))) (drew w1) (.int .i64 n21) (drew w1) ∧ ∃ q24 : Addr, Al (Instr.indexAt 22 (.slice a0 l0 c0) (.int .i64 n4)) (.pointer (some q24)) ∧ ∃ s26 : ByteArray, Ru (Instr.loadAt 9 (.pointer (some (Addr.add q24 2)))) (drew w1) (.string s26) (drew w1) ∧ ∃ q29 : Addr, Al (Instr.indexAt 22 (.slice a0 l0 c0) (.int .i64 n4)) (.pointer (some q29)) ∧ ∃ s31 : ByteArray, Ru (Instr.loadAt 9 (.pointer (some (Addr.add q29 3)))) (drew w1) (.string s31) (drew w1) ∧ ∃ q35 : Addr, Al (Instr.indexAt 22 (.slice a0 l0 c0) (.int .i64 n4)) (.pointer (some q35)) ∧ ∃ n37 : Int, Ru (Instr.loadAt 3 (.pointer (some (Addr.add q35 4)))) (drew w1) (.int .i64 n37) (drew w1) ∧ ∃ (a32 : Option Addr) (l32 c32 : Nat), ∃ w2 : World, Ru (convert 9 62 (.string s31)) (drew w1) (.slice a32 l32 c32) w2 ∧ Ru (Instr.loadAt 9 (.pointer (some (Addr.add q14 0)))) w2 (.string s16) w2 ∧ Ru (Instr.loadAt 3 (.pointer (some (Addr.add q19 1)))) w2 (.int .i64 n21) w2 ∧ Ru (Instr.loadAt 9 (.pointer (some (Addr.add q24 2)))) w2 (.string s26) w2 ∧ Ru (Instr.loadAt 3 (.pointer (some (Addr.add q35 4)))) w2 (.int .i64 n37) w2 ∧ ∃ g38 : Array Value, Al (Instr.build 64 #[(0, .string s16), (1, .int .i64 n21), (2, .string s26), (3, .slice a32 l32 c32), (4, .int .i64 n37)]) (.agg g38) ∧ ∃ (a39 : Option Addr) (l39 c39 : Nat), ∃ w3 : World, Ru (Instr.buildSlice 28 1 #[(0, .agg g38)]) w2 (.slice a39 l39 c39) w3 ∧ ∃ (a40 : Option Addr) (l40 c40 : Nat), ∃ w4 : World, Ru (Builtin.append_ #[28, 28] 28 #[.slice a3 l3 c3, .slice a39 l39 c39]) w3 (.slice a40 l40 c40) w4 ∧ k [.slice a40 l40 c40, .int .i64 (IntKind.i64.wrap (n4 + 1))] w4
 else
 ∃ (a3_2 : Option Addr) (l3_2 c3_2 : Nat), nth x 0 = .slice a3_2 l3_2 c3_2 ∧ K (.slice a3_2 l3_2 c3_2) w1)) [.slice none 0 0, .int .i64 0] w0
set_option maxRecDepth 100000 in
theorem C_leveelaw34_given (a0 : Option Addr) (l0 c0 : Nat) (w0 : World) (K : Value → World → Prop) (h : D_leveelaw34_given a0 l0 c0 w0 K) : Cal Tryd.prog F_leveelaw34_given #[.slice a0 l0 c0] w0 K :=
 denF_sound (A := { S := [3, 4], ty := [(3, 28), (4, 3)], raw := [] }) mixed Tryd.func10 (by kernel_rfl) (by kernel_rfl) ((show denF Tryd.prog _ Tryd.f10 _ w0 K = D_leveelaw34_given a0 l0 c0 w0 K by kernel_rfl).mpr h)

/- levee.leveeref34.Trees: slots {6: 'out', 7: 'i', 9: 'i', 17: ''}; loop over [6, 9]; loop over [6, 7] -/
/- levee.leveeref34.SameChanges: slots {5: 'i'}; loop over [5] -/
/- levee.leveelaw34.changes: slots {3: 'out', 4: 'i'}; loop over [3, 4] -/
/- levee.diff.Sum: slots {17: ''}; loop over [17] -/
set_option maxRecDepth 100000 in
def D_diff_Sum (a0 : Option Addr) (l0 c0 : Nat) (w0 : World) (K : Value → World → Prop) : Prop :=
 ∃ q2 : Addr, ∃ w1 : World, Ru (Instr.alloc 39 true (.tuple #[])) w0 (.pointer (some q2)) w1 ∧ Cal Tryd.prog F_dump_Right #[.slice a0 l0 c0] w1 fun r8 w2 => ∃ b8 : Bool, r8 = .bool b8 ∧ (bif !b8 then
 ∃ g10 : Array Value, Al (Instr.build 39 #[]) (.agg g10) ∧ ∃ w3 : World, RuU (Instr.storeAt 39 (.pointer (some q2)) (.agg g10)) w2 w3 ∧ ∃ gR2 : Array Value, Ru (Instr.loadAt 39 (.pointer (some q2))) w3 (.agg gR2) w3 ∧ K (.tuple #[.agg gR2, .int .i64 1]) w3
 else
 ∃ g14 : Array Value, Al (Instr.build 39 #[(3, .int .i64 (IntKind.i64.wrap ((l0 : Int) - 1)))]) (.agg g14) ∧ ∃ q4 : Addr, ∃ w4 : World, Ru (Instr.alloc 39 true (.tuple #[])) w2 (.pointer (some q4)) w4 ∧ ∃ w5 : World, RuU (Instr.storeAt 39 (.pointer (some q4)) (.agg g14)) w4 w5 ∧ LoopC (fun k x w6 =>
 ∃ n17 : Int, nth x 0 = .int .i64 n17 ∧ (bif decide (n17 < (l0 : Int)) then
 Share (fun k_2 => ∃ q19 : Addr, Al (Instr.indexAt 28 (.slice a0 l0 c0) (.int .i64 n17)) (.pointer (some q19)) ∧ ∃ g20 : Array Value, Ru (Instr.loadAt 64 (.pointer (some q19))) w6 (.agg g20) w6 ∧ ∃ q6 : Addr, ∃ w7 : World, Ru (Instr.alloc 64 true (.tuple #[])) w6 (.pointer (some q6)) w7 ∧ ∃ w8 : World, RuU (Instr.storeAt 64 (.pointer (some q6)) (.agg g20)) w7 w8 ∧ ∃ n27 : Int, Ru (Instr.loadAt 3 (.pointer (some (Addr.add q6 4)))) w8 (.int .i64 n27) w8 ∧ (bif decide (n27 ≥ 0) then
 k_2 [] w8
 else
 ∃ n31 : Int, Ru (Instr.loadAt 3 (.pointer (some (Addr.add q6 1)))) w8 (.int .i64 n31) w8 ∧ Share (fun k_3 => (bif n31 == 2 then
 ∃ n34 : Int, Ru (Instr.loadAt 3 (.pointer (some (Addr.add q4 0)))) w8 (.int .i64 n34) w8 ∧ ∃ w9 : World, RuU (Instr.storeAt 3 (.pointer (some (Addr.add q4 0))) (.int .i64 (IntKind.i64.wrap (n34 + 1)))) w8 w9 ∧ k_3 [] w9
 else
 ∃ n39 : Int, Ru (Instr.loadAt 3 (.pointer (some (Addr.add q6 1)))) w8 (.int .i64 n39) w8 ∧ Share (fun k_4 => (bif n39 == 1 then
 ∃ n42 : Int, Ru (Instr.loadAt 3 (.pointer (some (Addr.add q4 1)))) w8 (.int .i64 n42) w8 ∧ ∃ w10 : World, RuU (Instr.storeAt 3 (.pointer (some (Addr.add q4 1))) (.int .i64 (IntKind.i64.wrap (n42 + 1)))) w8 w10 ∧ k_4 [] w10
 else
 ∃ n22 : Int, Ru (Instr.loadAt 3 (.pointer (some (Addr.add q4 2)))) w8 (.int .i64 n22) w8 ∧ ∃ w11 : World, RuU (Instr.storeAt 3 (.pointer (some (Addr.add q4 2))) (.int .i64 (IntKind.i64.wrap (n22 + 1)))) w8 w11 ∧ k_4 [] w11)) fun x_4 w12 =>
 k_3 [] w12)) fun x_3 w13 =>
 ∃ n46 : Int, Ru (Instr.loadAt 2 (.pointer (some (Addr.add q4 4)))) w13 (.int .i64 n46) w13 ∧ ∃ (a48 : Option Addr) (l48 c48 : Nat), Ru (Instr.loadAt 62 (.pointer (some (Addr.add q6 3)))) w13 (.slice a48 l48 c48) w13 ∧ ∃ w14 : World, RuU (Instr.storeAt 2 (.pointer (some (Addr.add q4 4))) (.int .i64 (IntKind.i64.wrap (n46 + (l48 : Int))))) w13 w14 ∧ k_2 [] w14)) fun x_2 w15 =>
 k [.int .i64 (IntKind.i64.wrap (n17 + 1))] w15
 else
 ∃ g53 : Array Value, Ru (Instr.loadAt 39 (.pointer (some q4))) w6 (.agg g53) w6 ∧ ∃ w16 : World, RuU (Instr.storeAt 39 (.pointer (some q2)) (.agg g53)) w6 w16 ∧ ∃ gR2_2 : Array Value, Ru (Instr.loadAt 39 (.pointer (some q2))) w16 (.agg gR2_2) w16 ∧ K (.tuple #[.agg gR2_2, .int .i64 0]) w16)) [.int .i64 0] w5)
set_option maxRecDepth 100000 in
theorem C_diff_Sum (a0 : Option Addr) (l0 c0 : Nat) (w0 : World) (K : Value → World → Prop) (h : D_diff_Sum a0 l0 c0 w0 K) : Cal Tryd.prog F_diff_Sum #[.slice a0 l0 c0] w0 K :=
 denF_sound (A := { S := [17], ty := [(17, 3)], raw := [] }) mixed Tryd.func14 (by kernel_rfl) (by kernel_rfl) ((show denF Tryd.prog _ Tryd.f14 _ w0 K = D_diff_Sum a0 l0 c0 w0 K by kernel_rfl).mpr h)

/- levee.leveeref34.Sum: slots {5: 'i'}; loop over [5] -/
/- levee.diff.Below: slots {7: 'out', 9: 'i', 31: '', 60: ''}; loop over [7, 9, 60] -/
set_option maxRecDepth 100000 in
def D_diff_Below (a0 : Option Addr) (l0 c0 : Nat) (s1 : ByteArray) (w0 : World) (K : Value → World → Prop) : Prop :=
 ∃ q3 : Addr, ∃ w1 : World, Ru (Instr.box 9 (.string s1)) w0 (.pointer (some q3)) w1 ∧ Cal Tryd.prog F_dump_Right #[.slice a0 l0 c0] w1 fun r17 w2 => ∃ b17 : Bool, r17 = .bool b17 ∧ (bif !b17 then
 K (.tuple #[.slice none 0 0, .int .i64 1]) w2
 else
 Cal Tryd.prog F_slices_IndexFunc_dump_Entry #[.slice a0 l0 c0, .func (.func F_diff_Below_1) #[] #[.pointer (some q3)]] w2 fun r21 w3 => ∃ n21 : Int, r21 = .int .i64 n21 ∧ Share (fun k => (bif decide (n21 < 0) then k [.bool true] w3 else ∃ q27 : Addr, Al (Instr.indexAt 28 (.slice a0 l0 c0) (.int .i64 n21)) (.pointer (some q27)) ∧ ∃ n29 : Int, Ru (Instr.loadAt 3 (.pointer (some (Addr.add q27 1)))) w3 (.int .i64 n29) w3 ∧ k [.bool (n29 != 2)] w3)) fun x w4 =>
 ∃ b31 : Bool, nth x 0 = .bool b31 ∧ (bif b31 then
 K (.tuple #[.slice none 0 0, .int .i64 20]) w4
 else
 ∃ m32 : Option Nat, ∃ w5 : World, Ru (Instr.makeMap 75 none) w4 (.map m32) w5 ∧ LoopC (fun k_2 x_2 w6 =>
 ∃ n9 : Int, nth x_2 1 = .int .i64 n9 ∧ (bif decide (n9 < (l0 : Int)) then
 Share (fun k_3 => ∃ q43 : Addr, Al (Instr.indexAt 28 (.slice a0 l0 c0) (.int .i64 n9)) (.pointer (some q43)) ∧ ∃ s45 : ByteArray, Ru (Instr.loadAt 9 (.pointer (some (Addr.add q43 0)))) (drew w6) (.string s45) (drew w6) ∧ ∃ s46 : ByteArray, Ru (Instr.loadAt 9 (.pointer (some q3))) (drew w6) (.string s46) (drew w6) ∧ Cal Tryd.prog F_strings_CutPrefix #[.string s45, .string s46] (drew w6) fun r47 w7 => ∃ s47a : ByteArray, ∃ b47b : Bool, r47 = .tuple #[.string s47a, .bool b47b] ∧ Share (fun k_4 => (bif !b47b then k_4 [.bool true] w7 else (bif !((ByteArray.toList s47a) == (ByteArray.toList ByteArray.empty)) then ∃ n57 : Int, Al (Instr.index 9 (.string s47a) (.int .i64 0)) (.int .u8 n57) ∧ k_4 [.bool (n57 != 47)] w7 else k_4 [.bool false] w7))) fun x_4 w8 =>
 ∃ b60 : Bool, nth x_4 0 = .bool b60 ∧ (bif b60 then
 k_3 [nth x_2 0, .bool b60] w8
 else
 Cal Tryd.prog F_diff_thing #[.slice a0 l0 c0, .int .i64 n9] w8 fun r63 w9 => ∃ n63 : Int, r63 = .int .i64 n63 ∧ ∃ q67 : Addr, Al (Instr.indexAt 28 (.slice a0 l0 c0) (.int .i64 n9)) (.pointer (some q67)) ∧ ∃ n69 : Int, Ru (Instr.loadAt 3 (.pointer (some (Addr.add q67 1)))) w9 (.int .i64 n69) w9 ∧ ∃ g70 : Array Value, Al (Instr.build 64 #[(0, .string s47a), (1, .int .i64 n69), (4, .int .i64 ((-1)))]) (.agg g70) ∧ ∃ q13 : Addr, ∃ w10 : World, Ru (Instr.alloc 64 true (.tuple #[])) w9 (.pointer (some q13)) w10 ∧ ∃ w11 : World, RuU (Instr.storeAt 64 (.pointer (some q13)) (.agg g70)) w10 w11 ∧ ∃ n74a : Int, ∃ b74b : Bool, Ru (Instr.lookup 75 (.map m32) (.int .i64 n63) true) w11 (.tuple #[.int .i64 n74a, .bool b74b]) w11 ∧ Share (fun k_5 => (bif b74b then
 ∃ w12 : World, RuU (Instr.storeAt 3 (.pointer (some (Addr.add q13 4))) (.int .i64 n74a)) w11 w12 ∧ k_5 [] w12
 else
 ∃ (a7 : Option Addr) (l7 c7 : Nat), nth x_2 0 = .slice a7 l7 c7 ∧ ∃ w13 : World, RuU (Instr.mapUpdate 75 (.map m32) (.int .i64 n63) (.int .i64 ((l7 : Int)))) w11 w13 ∧ ∃ q86 : Addr, Al (Instr.indexAt 28 (.slice a0 l0 c0) (.int .i64 n63)) (.pointer (some q86)) ∧ ∃ s88 : ByteArray, Ru (Instr.loadAt 9 (.pointer (some (Addr.add q86 2)))) (drew w13) (.string s88) (drew w13) ∧ ∃ q91 : Addr, Al (Instr.indexAt 28 (.slice a0 l0 c0) (.int .i64 n63)) (.pointer (some q91)) ∧ ∃ (a93 : Option Addr) (l93 c93 : Nat), Ru (Instr.loadAt 62 (.pointer (some (Addr.add q91 3)))) (drew w13) (.slice a93 l93 c93) (drew w13) ∧ Cal Tryd.prog F_slices_Clone_byte #[.slice a93 l93 c93] (drew w13) fun r94 w14 => ∃ (a94 : Option Addr) (l94 c94 : Nat), r94 = .slice a94 l94 c94 ∧ Ru (Instr.loadAt 9 (.pointer (some (Addr.add q86 2)))) w14 (.string s88) w14 ∧ ∃ w15 : World, RuU (Instr.storeAt 9 (.pointer (some (Addr.add q13 2))) (.string s88)) w14 w15 ∧ ∃ w16 : World, RuU (Instr.storeAt 62 (.pointer (some (Addr.add q13 3))) (.slice a94 l94 c94)) w15 w16 ∧ k_5 [] w16)) fun x_5 w17 =>
 ∃ (a7_2 : Option Addr) (l7_2 c7_2 : Nat), nth x_2 0 = .slice a7_2 l7_2 c7_2 ∧ ∃ g98 : Array Value, Ru (Instr.loadAt 64 (.pointer (some q13))) w17 (.agg g98) w17 ∧ ∃ (a99 : Option Addr) (l99 c99 : Nat), ∃ w18 : World, Ru (Instr.buildSlice 28 1 #[(0, .agg g98)]) w17 (.slice a99 l99 c99) w18 ∧ ∃ (a100 : Option Addr) (l100 c100 : Nat), ∃ w19 : World, Ru (Builtin.append_ #[28, 28] 28 #[.slice a7_2 l7_2 c7_2, .slice a99 l99 c99]) w18 (.slice a100 l100 c100) w19 ∧ k_3 [.slice a100 l100 c100, .bool b60] w19)) fun x_3 w20 =>
 k_2 [nth x_3 0, .int .i64 (IntKind.i64.wrap (n9 + 1)), nth x_3 1] w20
 else
 ∃ (a7_3 : Option Addr) (l7_3 c7_3 : Nat), nth x_2 0 = .slice a7_3 l7_3 c7_3 ∧ K (.tuple #[.slice a7_3 l7_3 c7_3, .int .i64 0]) w6)) [.slice none 0 0, .int .i64 n21, undef] w5))
set_option maxRecDepth 100000 in
theorem C_diff_Below (a0 : Option Addr) (l0 c0 : Nat) (s1 : ByteArray) (w0 : World) (K : Value → World → Prop) (h : D_diff_Below a0 l0 c0 s1 w0 K) : Cal Tryd.prog F_diff_Below #[.slice a0 l0 c0, .string s1] w0 K :=
 denF_sound (A := { S := [7, 9, 31, 60], ty := [(7, 28), (9, 3), (31, 4), (60, 4)], raw := [] }) mixed Tryd.func16 (by kernel_rfl) (by kernel_rfl) ((show denF Tryd.prog _ Tryd.f16 _ w0 K = D_diff_Below a0 l0 c0 s1 w0 K by kernel_rfl).mpr h)

/- levee.leveeref34.Below: slots {7: 'out', 8: 'was', 9: 'i', 12: 'thing', 28: '', 65: ''}; loop over [7, 8, 9, 12, 65] -/
/- levee.leveeref33.Same: slots {5: 'i'}; loop over [5] -/
/- levee.leveelaw34.taken: slots {3: 'out', 4: 'i'}; loop over [3, 4] -/
/- levee.leveeref33.Right: slots {3: 'i', 7: 'there', 8: 'k', 46: '', 71: '', 115: ''}; loop over [7, 8]; loop over [3, 7, 8, 71, 115] -/
set_option maxRecDepth 100000 in
def D_leveeref33_Right (a0 : Option Addr) (l0 c0 : Nat) (w0 : World) (K : Value → World → Prop) : Prop :=
 Share (fun k => (bif (l0 : Int) == 0 then k [.bool true] w0 else ∃ q14 : Addr, Al (Instr.indexAt 22 (.slice a0 l0 c0) (.int .i64 0)) (.pointer (some q14)) ∧ ∃ s16 : ByteArray, Ru (Instr.loadAt 9 (.pointer (some (Addr.add q14 0)))) w0 (.string s16) w0 ∧ (bif !((ByteArray.toList s16) == (ByteArray.toList ByteArray.empty)) then k [.bool true] w0 else ∃ q21 : Addr, Al (Instr.indexAt 22 (.slice a0 l0 c0) (.int .i64 0)) (.pointer (some q21)) ∧ ∃ n23 : Int, Ru (Instr.loadAt 3 (.pointer (some (Addr.add q21 1)))) w0 (.int .i64 n23) w0 ∧ (bif n23 != 2 then k [.bool true] w0 else ∃ q28 : Addr, Al (Instr.indexAt 22 (.slice a0 l0 c0) (.int .i64 0)) (.pointer (some q28)) ∧ ∃ s30 : ByteArray, Ru (Instr.loadAt 9 (.pointer (some (Addr.add q28 2)))) w0 (.string s30) w0 ∧ (bif !((ByteArray.toList s30) == (ByteArray.toList ByteArray.empty)) then k [.bool true] w0 else ∃ q35 : Addr, Al (Instr.indexAt 22 (.slice a0 l0 c0) (.int .i64 0)) (.pointer (some q35)) ∧ ∃ s37 : ByteArray, Ru (Instr.loadAt 9 (.pointer (some (Addr.add q35 3)))) w0 (.string s37) w0 ∧ (bif !((ByteArray.toList s37) == (ByteArray.toList ByteArray.empty)) then k [.bool true] w0 else ∃ q42 : Addr, Al (Instr.indexAt 22 (.slice a0 l0 c0) (.int .i64 0)) (.pointer (some q42)) ∧ ∃ n44 : Int, Ru (Instr.loadAt 3 (.pointer (some (Addr.add q42 4)))) w0 (.int .i64 n44) w0 ∧ k [.bool (n44 != (-1))] w0)))))) fun x w1 =>
 ∃ b46 : Bool, nth x 0 = .bool b46 ∧ (bif b46 then
 K (.bool false) w1
 else
 LoopC (fun k_2 x_2 w2 =>
 ∃ n3 : Int, nth x_2 0 = .int .i64 n3 ∧ (bif decide (n3 < (l0 : Int)) then
 ∃ q55 : Addr, Al (Instr.indexAt 22 (.slice a0 l0 c0) (.int .i64 n3)) (.pointer (some q55)) ∧ ∃ g56 : Array Value, Ru (Instr.loadAt 58 (.pointer (some q55))) w2 (.agg g56) w2 ∧ ∃ q4 : Addr, ∃ w3 : World, Ru (Instr.alloc 58 true (.tuple #[])) w2 (.pointer (some q4)) w3 ∧ ∃ w4 : World, RuU (Instr.storeAt 58 (.pointer (some q4)) (.agg g56)) w3 w4 ∧ Share (fun k_3 => ∃ s58 : ByteArray, Ru (Instr.loadAt 9 (.pointer (some (Addr.add q4 0)))) w4 (.string s58) w4 ∧ (bif (ByteArray.toList s58) == (ByteArray.toList ByteArray.empty) then k_3 [.bool true] w4 else ∃ s62 : ByteArray, Ru (Instr.loadAt 9 (.pointer (some (Addr.add q4 0)))) w4 (.string s62) w4 ∧ ∃ n63 : Int, Al (Instr.index 9 (.string s62) (.int .i64 0)) (.int .u8 n63) ∧ (bif n63 != 47 then k_3 [.bool true] w4 else Cal Tryd.prog F_leveeref33_one #[.slice a0 l0 c0, .int .i64 n3] w4 fun r69 w5 => ∃ b69 : Bool, r69 = .bool b69 ∧ k_3 [.bool (!b69)] w5))) fun x_3 w6 =>
 ∃ b71 : Bool, nth x_3 0 = .bool b71 ∧ (bif b71 then
 K (.bool false) w6
 else
 ∃ s74 : ByteArray, Ru (Instr.loadAt 9 (.pointer (some (Addr.add q4 0)))) w6 (.string s74) w6 ∧ Cal Tryd.prog F_leveeref33_parts #[.string s74] w6 fun r75 w7 => ∃ s75a : ByteArray, ∃ s75b : ByteArray, r75 = .tuple #[.string s75a, .string s75b] ∧ LoopC (fun k_4 x_4 w8 =>
 ∃ n8 : Int, nth x_4 1 = .int .i64 n8 ∧ (bif decide (n8 < n3) then
 Share (fun k_5 => ∃ b7 : Bool, nth x_4 0 = .bool b7 ∧ (bif b7 then k_5 [.bool true] w8 else ∃ q87 : Addr, Al (Instr.indexAt 22 (.slice a0 l0 c0) (.int .i64 n8)) (.pointer (some q87)) ∧ ∃ s89 : ByteArray, Ru (Instr.loadAt 9 (.pointer (some (Addr.add q87 0)))) w8 (.string s89) w8 ∧ (bif (ByteArray.toList s89) == (ByteArray.toList s75a) then ∃ q95 : Addr, Al (Instr.indexAt 22 (.slice a0 l0 c0) (.int .i64 n8)) (.pointer (some q95)) ∧ ∃ n97 : Int, Ru (Instr.loadAt 3 (.pointer (some (Addr.add q95 1)))) w8 (.int .i64 n97) w8 ∧ k_5 [.bool (n97 == 2)] w8 else k_5 [.bool false] w8))) fun x_5 w9 =>
 ∃ q103 : Addr, Al (Instr.indexAt 22 (.slice a0 l0 c0) (.int .i64 n8)) (.pointer (some q103)) ∧ ∃ s105 : ByteArray, Ru (Instr.loadAt 9 (.pointer (some (Addr.add q103 0)))) (drew w9) (.string s105) (drew w9) ∧ ∃ s107 : ByteArray, Ru (Instr.loadAt 9 (.pointer (some (Addr.add q4 0)))) (drew w9) (.string s107) (drew w9) ∧ (bif (ByteArray.toList s105) == (ByteArray.toList s107) then
 K (.bool false) (drew w9)
 else
 k_4 [nth x_5 0, .int .i64 (IntKind.i64.wrap (n8 + 1))] (drew w9))
 else
 Share (fun k_6 => ∃ b7_2 : Bool, nth x_4 0 = .bool b7_2 ∧ (bif !b7_2 then k_6 [.bool true] w8 else Cal Tryd.prog F_leveeref08_Name #[.string s75b] w8 fun r113 w10 => ∃ b113 : Bool, r113 = .bool b113 ∧ k_6 [.bool (!b113)] w10)) fun x_6 w11 =>
 ∃ b115 : Bool, nth x_6 0 = .bool b115 ∧ (bif b115 then
 K (.bool false) w11
 else
 k_2 [.int .i64 (IntKind.i64.wrap (n3 + 1)), nth x_4 0, .int .i64 n8, .bool b71, .bool b115] w11))) [.bool false, .int .i64 0] w7)
 else
 Cal Tryd.prog F_leveeref33_ordered #[.slice a0 l0 c0] w2 fun r117 w12 => ∃ b117 : Bool, r117 = .bool b117 ∧ K (.bool b117) w12)) [.int .i64 1, undef, undef, undef, undef] w1)
set_option maxRecDepth 100000 in
theorem C_leveeref33_Right (a0 : Option Addr) (l0 c0 : Nat) (w0 : World) (K : Value → World → Prop) (h : D_leveeref33_Right a0 l0 c0 w0 K) : Cal Tryd.prog F_leveeref33_Right #[.slice a0 l0 c0] w0 K :=
 denF_sound (A := { S := [3, 7, 8, 46, 71, 115], ty := [(3, 3), (7, 4), (8, 3), (46, 4), (71, 4), (115, 4)], raw := [] }) mixed Tryd.func20 (by kernel_rfl) (by kernel_rfl) ((show denF Tryd.prog _ Tryd.f20 _ w0 K = D_leveeref33_Right a0 l0 c0 w0 K by kernel_rfl).mpr h)

/- levee.diff.Find: slots {6: 'paths', 13: '', 24: ''}; loop over [6, 24] -/
set_option maxRecDepth 100000 in
def D_diff_Find (a0 : Option Addr) (l0 c0 : Nat) (s1 : ByteArray) (w0 : World) (K : Value → World → Prop) : Prop :=
 Cal Tryd.prog F_dump_Right #[.slice a0 l0 c0] w0 fun r11 w1 => ∃ b11 : Bool, r11 = .bool b11 ∧ (bif !b11 then
 K (.tuple #[.slice none 0 0, .int .i64 1]) w1
 else
 Share (fun k => (bif (ByteArray.toList s1) == (ByteArray.toList ByteArray.empty) then k [.bool true] w1 else k [.bool (decide ((ByteArray.size s1 : Int) > 40))] w1)) fun x w2 =>
 ∃ b13 : Bool, nth x 0 = .bool b13 ∧ (bif b13 then
 K (.tuple #[.slice none 0 0, .int .i64 25]) w2
 else
 ∃ (a22 : Option Addr) (l22 c22 : Nat), Al (Instr.sliceAt 28 (.slice a0 l0 c0) (some (.int .i64 1)) none none) (.slice a22 l22 c22) ∧ LoopC (fun k_2 x_2 w3 =>
 ∃ n24 : Int, nth x_2 1 = .int .i64 n24 ∧ (bif decide (n24 < (l22 : Int)) then
 ∃ q26 : Addr, Al (Instr.indexAt 28 (.slice a22 l22 c22) (.int .i64 n24)) (.pointer (some q26)) ∧ ∃ g27 : Array Value, Ru (Instr.loadAt 64 (.pointer (some q26))) w3 (.agg g27) w3 ∧ ∃ q8 : Addr, ∃ w4 : World, Ru (Instr.alloc 64 true (.tuple #[])) w3 (.pointer (some q8)) w4 ∧ ∃ w5 : World, RuU (Instr.storeAt 64 (.pointer (some q8)) (.agg g27)) w4 w5 ∧ ∃ s30 : ByteArray, Ru (Instr.loadAt 9 (.pointer (some (Addr.add q8 0)))) (drew w5) (.string s30) (drew w5) ∧ ∃ s32 : ByteArray, Ru (Instr.loadAt 9 (.pointer (some (Addr.add q8 0)))) (drew w5) (.string s32) (drew w5) ∧ Cal Tryd.prog F_strings_LastIndexByte #[.string s32, .int .u8 47] (drew w5) fun r33 w6 => ∃ n33 : Int, r33 = .int .i64 n33 ∧ Ru (Instr.loadAt 9 (.pointer (some (Addr.add q8 0)))) w6 (.string s30) w6 ∧ ∃ s35 : ByteArray, Al (Instr.sliceAt 9 (.string s30) (some (.int .i64 (IntKind.i64.wrap (n33 + 1)))) none none) (.string s35) ∧ Cal Tryd.prog F_diff_match #[.string s1, .string s35] w6 fun r36 w7 => ∃ b36 : Bool, r36 = .bool b36 ∧ Share (fun k_3 => (bif b36 then
 ∃ (a6 : Option Addr) (l6 c6 : Nat), nth x_2 0 = .slice a6 l6 c6 ∧ ∃ s39 : ByteArray, Ru (Instr.loadAt 9 (.pointer (some (Addr.add q8 0)))) w7 (.string s39) w7 ∧ ∃ (a40 : Option Addr) (l40 c40 : Nat), ∃ w8 : World, Ru (Instr.buildSlice 52 1 #[(0, .string s39)]) w7 (.slice a40 l40 c40) w8 ∧ ∃ (a41 : Option Addr) (l41 c41 : Nat), ∃ w9 : World, Ru (Builtin.append_ #[52, 52] 52 #[.slice a6 l6 c6, .slice a40 l40 c40]) w8 (.slice a41 l41 c41) w9 ∧ k_3 [.slice a41 l41 c41] w9
 else
 k_3 [nth x_2 0] w7)) fun x_3 w10 =>
 k_2 [nth x_3 0, .int .i64 (IntKind.i64.wrap (n24 + 1))] w10
 else
 ∃ (a6_2 : Option Addr) (l6_2 c6_2 : Nat), nth x_2 0 = .slice a6_2 l6_2 c6_2 ∧ K (.tuple #[.slice a6_2 l6_2 c6_2, .int .i64 0]) w3)) [.slice none 0 0, .int .i64 0] w2))
set_option maxRecDepth 100000 in
theorem C_diff_Find (a0 : Option Addr) (l0 c0 : Nat) (s1 : ByteArray) (w0 : World) (K : Value → World → Prop) (h : D_diff_Find a0 l0 c0 s1 w0 K) : Cal Tryd.prog F_diff_Find #[.slice a0 l0 c0, .string s1] w0 K :=
 denF_sound (A := { S := [6, 13, 24], ty := [(6, 52), (13, 4), (24, 3)], raw := [] }) mixed Tryd.func21 (by kernel_rfl) (by kernel_rfl) ((show denF Tryd.prog _ Tryd.f21 _ w0 K = D_diff_Find a0 l0 c0 s1 w0 K by kernel_rfl).mpr h)

/- levee.leveeref34.Find: slots {6: 'out', 7: 'i', 9: 'k', 20: ''}; loop over [9]; loop over [6, 7, 9] -/
/- levee.leveeref17.Texts: slots {5: 'i'}; loop over [5] -/
/- levee.leveelaw34.one: slots {};  -/
set_option maxRecDepth 100000 in
def D_leveelaw34_one (s0 : ByteArray) (w0 : World) (K : Value → World → Prop) : Prop :=
 ∃ g3 : Array Value, Al (Instr.build 64 #[(1, .int .i64 2), (4, .int .i64 ((-1)))]) (.agg g3) ∧ ∃ g4 : Array Value, Al (Instr.build 64 #[(0, .string (⟨#[47, 97]⟩)), (1, .int .i64 2), (4, .int .i64 ((-1)))]) (.agg g4) ∧ ∃ s6 : ByteArray, Al (eqS .add 9 (.const (.string (⟨#[47, 97, 47]⟩))) (.tmp 5) (.string (⟨#[47, 97, 47]⟩)) (.string s0)) (.string s6) ∧ ∃ (a7 : Option Addr) (l7 c7 : Nat), ∃ w1 : World, Ru (Instr.buildSlice 62 2 #[(0, .int .u8 104), (1, .int .u8 105)]) w0 (.slice a7 l7 c7) w1 ∧ ∃ (a8 : Option Addr) (l8 c8 : Nat), ∃ w2 : World, Ru (convert 62 62 (.slice a7 l7 c7)) w1 (.slice a8 l8 c8) w2 ∧ ∃ g9 : Array Value, Al (Instr.build 64 #[(0, .string s6), (1, .int .i64 1), (3, .slice a8 l8 c8), (4, .int .i64 ((-1)))]) (.agg g9) ∧ ∃ (a10 : Option Addr) (l10 c10 : Nat), ∃ w3 : World, Ru (Instr.buildSlice 28 3 #[(0, .agg g3), (1, .agg g4), (2, .agg g9)]) w2 (.slice a10 l10 c10) w3 ∧ K (.slice a10 l10 c10) w3
set_option maxRecDepth 100000 in
theorem C_leveelaw34_one (s0 : ByteArray) (w0 : World) (K : Value → World → Prop) (h : D_leveelaw34_one s0 w0 K) : Cal Tryd.prog F_leveelaw34_one #[.string s0] w0 K :=
 denF_sound (A := { S := [], ty := [], raw := [] }) mixed Tryd.func24 (by kernel_rfl) (by kernel_rfl) ((show denF Tryd.prog _ Tryd.f24 _ w0 K = D_leveelaw34_one s0 w0 K by kernel_rfl).mpr h)

/- levee.dump.Right: slots {5: 'i', 30: '', 80: ''}; loop over [5, 80] -/
set_option maxRecDepth 100000 in
def D_dump_Right (a0 : Option Addr) (l0 c0 : Nat) (w0 : World) (K : Value → World → Prop) : Prop :=
 (bif (l0 : Int) == 0 then
 K (.bool false) w0
 else
 ∃ m13 : Option Nat, ∃ w1 : World, Ru (Instr.makeMap 88 none) w0 (.map m13) w1 ∧ ∃ w2 : World, RuU (Instr.mapUpdate 88 (.map m13) (.string ByteArray.empty) (.bool true)) w1 w2 ∧ ∃ q16 : Addr, Al (Instr.indexAt 28 (.slice a0 l0 c0) (.int .i64 0)) (.pointer (some q16)) ∧ ∃ g17 : Array Value, Ru (Instr.loadAt 64 (.pointer (some q16))) w2 (.agg g17) w2 ∧ ∃ q4 : Addr, ∃ w3 : World, Ru (Instr.alloc 64 true (.tuple #[])) w2 (.pointer (some q4)) w3 ∧ ∃ w4 : World, RuU (Instr.storeAt 64 (.pointer (some q4)) (.agg g17)) w3 w4 ∧ Share (fun k => ∃ s19 : ByteArray, Ru (Instr.loadAt 9 (.pointer (some (Addr.add q4 0)))) w4 (.string s19) w4 ∧ (bif !((ByteArray.toList s19) == (ByteArray.toList ByteArray.empty)) then k [.bool true] w4 else ∃ n23 : Int, Ru (Instr.loadAt 3 (.pointer (some (Addr.add q4 1)))) w4 (.int .i64 n23) w4 ∧ (bif n23 != 2 then k [.bool true] w4 else ∃ g27 : Array Value, Ru (Instr.loadAt 64 (.pointer (some q4))) w4 (.agg g27) w4 ∧ Cal Tryd.prog F_dump_Entry_plain #[.agg g27, .slice none 0 0] w4 fun r28 w5 => ∃ b28 : Bool, r28 = .bool b28 ∧ k [.bool (!b28)] w5))) fun x w6 =>
 ∃ b30 : Bool, nth x 0 = .bool b30 ∧ (bif b30 then
 K (.bool false) w6
 else
 LoopC (fun k_2 x_2 w7 =>
 ∃ n5 : Int, nth x_2 0 = .int .i64 n5 ∧ (bif decide (n5 < (l0 : Int)) then
 ∃ q39 : Addr, Al (Instr.indexAt 28 (.slice a0 l0 c0) (.int .i64 n5)) (.pointer (some q39)) ∧ ∃ g40 : Array Value, Ru (Instr.loadAt 64 (.pointer (some q39))) w7 (.agg g40) w7 ∧ ∃ q6 : Addr, ∃ w8 : World, Ru (Instr.alloc 64 true (.tuple #[])) w7 (.pointer (some q6)) w8 ∧ ∃ w9 : World, RuU (Instr.storeAt 64 (.pointer (some q6)) (.agg g40)) w8 w9 ∧ ∃ s43 : ByteArray, Ru (Instr.loadAt 9 (.pointer (some (Addr.add q6 0)))) w9 (.string s43) w9 ∧ Cal Tryd.prog F_dump_parent #[.string s43] w9 fun r44 w10 => ∃ s44a : ByteArray, ∃ s44b : ByteArray, ∃ b44c : Bool, r44 = .tuple #[.string s44a, .string s44b, .bool b44c] ∧ Share (fun k_3 => (bif !b44c then k_3 [.bool true] (drew w10) else ∃ b53 : Bool, Ru (Instr.lookup 88 (.map m13) (.string s44a) false) (drew w10) (.bool b53) (drew w10) ∧ (bif !b53 then k_3 [.bool true] (drew w10) else Cal Tryd.prog F_dirent_Name #[.string s44b] (drew w10) fun r58 w11 => ∃ b58 : Bool, r58 = .bool b58 ∧ (bif !b58 then k_3 [.bool true] w11 else ∃ q65 : Addr, Al (Instr.indexAt 28 (.slice a0 l0 c0) (.int .i64 (IntKind.i64.wrap (n5 - 1)))) (.pointer (some q65)) ∧ ∃ s67 : ByteArray, Ru (Instr.loadAt 9 (.pointer (some (Addr.add q65 0)))) w11 (.string s67) w11 ∧ ∃ s69 : ByteArray, Ru (Instr.loadAt 9 (.pointer (some (Addr.add q6 0)))) w11 (.string s69) w11 ∧ Cal Tryd.prog F_dump_ahead #[.string s67, .string s69] w11 fun r70 w12 => ∃ b70 : Bool, r70 = .bool b70 ∧ (bif !b70 then k_3 [.bool true] w12 else ∃ g74 : Array Value, Ru (Instr.loadAt 64 (.pointer (some q6))) w12 (.agg g74) w12 ∧ ∃ (a77 : Option Addr) (l77 c77 : Nat), Al (Instr.sliceAt 28 (.slice a0 l0 c0) none (some (.int .i64 n5)) none) (.slice a77 l77 c77) ∧ Cal Tryd.prog F_dump_Entry_plain #[.agg g74, .slice a77 l77 c77] w12 fun r78 w13 => ∃ b78 : Bool, r78 = .bool b78 ∧ k_3 [.bool (!b78)] w13))))) fun x_3 w14 =>
 ∃ b80 : Bool, nth x_3 0 = .bool b80 ∧ (bif b80 then
 K (.bool false) w14
 else
 ∃ n82 : Int, Ru (Instr.loadAt 3 (.pointer (some (Addr.add q6 1)))) w14 (.int .i64 n82) w14 ∧ Share (fun k_4 => (bif n82 == 2 then
 ∃ s86 : ByteArray, Ru (Instr.loadAt 9 (.pointer (some (Addr.add q6 0)))) w14 (.string s86) w14 ∧ ∃ w15 : World, RuU (Instr.mapUpdate 88 (.map m13) (.string s86) (.bool true)) w14 w15 ∧ k_4 [] w15
 else
 k_4 [] w14)) fun x_4 w16 =>
 k_2 [.int .i64 (IntKind.i64.wrap (n5 + 1)), .bool b80] w16)
 else
 K (.bool true) w7)) [.int .i64 1, undef] w6))
set_option maxRecDepth 100000 in
theorem C_dump_Right (a0 : Option Addr) (l0 c0 : Nat) (w0 : World) (K : Value → World → Prop) (h : D_dump_Right a0 l0 c0 w0 K) : Cal Tryd.prog F_dump_Right #[.slice a0 l0 c0] w0 K :=
 denF_sound (A := { S := [5, 30, 80], ty := [(5, 3), (30, 4), (80, 4)], raw := [] }) mixed Tryd.func25 (by kernel_rfl) (by kernel_rfl) ((show denF Tryd.prog _ Tryd.f25 _ w0 K = D_dump_Right a0 l0 c0 w0 K by kernel_rfl).mpr h)

/- levee.diff.sides: slots {6: 'i', 7: 'k', 8: 'way', 18: ''}; loop over [6, 7, 8, 18] -/
set_option maxRecDepth 100000 in
def D_diff_sides (a0 : Option Addr) (l0 c0 : Nat) (a1 : Option Addr) (l1 c1 : Nat) (v2 : Value) (w0 : World) (K : Value → World → Prop) : Prop :=
 LoopC (fun k x w1 =>
 Share (fun k_2 => ∃ n6 : Int, nth x 0 = .int .i64 n6 ∧ (bif decide (n6 < (l0 : Int)) then k_2 [.bool true] w1 else ∃ n7 : Int, nth x 1 = .int .i64 n7 ∧ k_2 [.bool (decide (n7 < (l1 : Int)))] w1)) fun x_2 w2 =>
 ∃ b18 : Bool, nth x_2 0 = .bool b18 ∧ (bif b18 then
 ∃ n6_2 : Int, nth x 0 = .int .i64 n6_2 ∧ Share (fun k_3 => (bif n6_2 == (l0 : Int) then
 k_3 [.int .i64 1] w2
 else
 ∃ n7_2 : Int, nth x 1 = .int .i64 n7_2 ∧ Share (fun k_4 => (bif n7_2 == (l1 : Int) then
 k_4 [.int .i64 ((-1))] w2
 else
 ∃ q21 : Addr, Al (Instr.indexAt 28 (.slice a0 l0 c0) (.int .i64 n6_2)) (.pointer (some q21)) ∧ ∃ s23 : ByteArray, Ru (Instr.loadAt 9 (.pointer (some (Addr.add q21 0)))) (drew w2) (.string s23) (drew w2) ∧ ∃ q26 : Addr, Al (Instr.indexAt 28 (.slice a1 l1 c1) (.int .i64 n7_2)) (.pointer (some q26)) ∧ ∃ s28 : ByteArray, Ru (Instr.loadAt 9 (.pointer (some (Addr.add q26 0)))) (drew w2) (.string s28) (drew w2) ∧ Cal Tryd.prog F_diff_order #[.string s23, .string s28] (drew w2) fun r29 w3 => ∃ n29 : Int, r29 = .int .i64 n29 ∧ k_4 [.int .i64 n29] w3)) fun x_4 w4 =>
 k_3 [nth x_4 0] w4)) fun x_3 w5 =>
 ∃ n8 : Int, nth x_3 0 = .int .i64 n8 ∧ Share (fun k_5 => (bif decide (n8 < 0) then
 Dyn Tryd.prog v2 #[.int .i64 n6_2, .int .i64 ((-1))] w5 fun r53 w6 => r53 = .tuple #[] ∧ k_5 [.int .i64 (IntKind.i64.wrap (n6_2 + 1)), nth x 1] w6
 else
 Share (fun k_6 => (bif decide (n8 > 0) then
 ∃ n7_3 : Int, nth x 1 = .int .i64 n7_3 ∧ Dyn Tryd.prog v2 #[.int .i64 ((-1)), .int .i64 n7_3] w5 fun r61 w7 => r61 = .tuple #[] ∧ k_6 [.int .i64 n6_2, .int .i64 (IntKind.i64.wrap (n7_3 + 1))] w7
 else
 ∃ n7_4 : Int, nth x 1 = .int .i64 n7_4 ∧ Dyn Tryd.prog v2 #[.int .i64 n6_2, .int .i64 n7_4] w5 fun r43 w8 => r43 = .tuple #[] ∧ k_6 [.int .i64 (IntKind.i64.wrap (n6_2 + 1)), .int .i64 (IntKind.i64.wrap (n7_4 + 1))] w8)) fun x_6 w9 =>
 k_5 [nth x_6 0, nth x_6 1] w9)) fun x_5 w10 =>
 k [nth x_5 0, nth x_5 1, .int .i64 n8, .bool b18] w10
 else
 K (.tuple #[]) w2)) [.int .i64 0, .int .i64 0, undef, undef] w0
set_option maxRecDepth 100000 in
theorem C_diff_sides (a0 : Option Addr) (l0 c0 : Nat) (a1 : Option Addr) (l1 c1 : Nat) (v2 : Value) (w0 : World) (K : Value → World → Prop) (h : D_diff_sides a0 l0 c0 a1 l1 c1 v2 w0 K) : Cal Tryd.prog F_diff_sides #[.slice a0 l0 c0, .slice a1 l1 c1, v2] w0 K :=
 denF_sound (A := { S := [6, 7, 8, 18], ty := [(6, 3), (7, 3), (8, 3), (18, 4)], raw := [] }) mixed Tryd.func26 (by kernel_rfl) (by kernel_rfl) ((show denF Tryd.prog _ Tryd.f26 _ w0 K = D_diff_sides a0 l0 c0 a1 l1 c1 v2 w0 K by kernel_rfl).mpr h)

/- levee.diff.Trees$1: slots {};  -/
set_option maxRecDepth 100000 in
def D_diff_Trees_1 (n0 : Int) (n1 : Int) (v2 : Value) (v3 : Value) (v4 : Value) (w0 : World) (K : Value → World → Prop) : Prop :=
 Share (fun k => (bif decide (n1 < 0) then
 ∃ (a10 : Option Addr) (l10 c10 : Nat), Ru (Instr.loadAt 24 v2) (drew w0) (.slice a10 l10 c10) (drew w0) ∧ ∃ (a11 : Option Addr) (l11 c11 : Nat), Ru (Instr.loadAt 28 v3) (drew w0) (.slice a11 l11 c11) (drew w0) ∧ ∃ q13 : Addr, Al (Instr.indexAt 28 (.slice a11 l11 c11) (.int .i64 n0)) (.pointer (some q13)) ∧ ∃ s15 : ByteArray, Ru (Instr.loadAt 9 (.pointer (some (Addr.add q13 0)))) (drew w0) (.string s15) (drew w0) ∧ ∃ g16 : Array Value, Al (Instr.build 36 #[(0, .int .i64 1), (1, .string s15)]) (.agg g16) ∧ ∃ (a17 : Option Addr) (l17 c17 : Nat), ∃ w1 : World, Ru (Instr.buildSlice 24 1 #[(0, .agg g16)]) (drew w0) (.slice a17 l17 c17) w1 ∧ Ru (Instr.loadAt 24 v2) w1 (.slice a10 l10 c10) w1 ∧ ∃ (a18 : Option Addr) (l18 c18 : Nat), ∃ w2 : World, Ru (Builtin.append_ #[24, 24] 24 #[.slice a10 l10 c10, .slice a17 l17 c17]) w1 (.slice a18 l18 c18) w2 ∧ ∃ w3 : World, RuU (Instr.storeAt 24 v2 (.slice a18 l18 c18)) w2 w3 ∧ k [] w3
 else
 Share (fun k_2 => (bif decide (n0 < 0) then
 ∃ (a22 : Option Addr) (l22 c22 : Nat), Ru (Instr.loadAt 24 v2) (drew w0) (.slice a22 l22 c22) (drew w0) ∧ ∃ (a23 : Option Addr) (l23 c23 : Nat), Ru (Instr.loadAt 28 v4) (drew w0) (.slice a23 l23 c23) (drew w0) ∧ ∃ q25 : Addr, Al (Instr.indexAt 28 (.slice a23 l23 c23) (.int .i64 n1)) (.pointer (some q25)) ∧ ∃ s27 : ByteArray, Ru (Instr.loadAt 9 (.pointer (some (Addr.add q25 0)))) (drew w0) (.string s27) (drew w0) ∧ ∃ g28 : Array Value, Al (Instr.build 36 #[(0, .int .i64 2), (1, .string s27)]) (.agg g28) ∧ ∃ (a29 : Option Addr) (l29 c29 : Nat), ∃ w4 : World, Ru (Instr.buildSlice 24 1 #[(0, .agg g28)]) (drew w0) (.slice a29 l29 c29) w4 ∧ Ru (Instr.loadAt 24 v2) w4 (.slice a22 l22 c22) w4 ∧ ∃ (a30 : Option Addr) (l30 c30 : Nat), ∃ w5 : World, Ru (Builtin.append_ #[24, 24] 24 #[.slice a22 l22 c22, .slice a29 l29 c29]) w4 (.slice a30 l30 c30) w5 ∧ ∃ w6 : World, RuU (Instr.storeAt 24 v2 (.slice a30 l30 c30)) w5 w6 ∧ k_2 [] w6
 else
 ∃ (a32 : Option Addr) (l32 c32 : Nat), Ru (Instr.loadAt 28 v3) w0 (.slice a32 l32 c32) w0 ∧ ∃ (a34 : Option Addr) (l34 c34 : Nat), Ru (Instr.loadAt 28 v4) w0 (.slice a34 l34 c34) w0 ∧ Cal Tryd.prog F_diff_alike #[.slice a32 l32 c32, .int .i64 n0, .slice a34 l34 c34, .int .i64 n1] w0 fun r36 w7 => ∃ b36 : Bool, r36 = .bool b36 ∧ Share (fun k_3 => (bif !b36 then
 ∃ (a38 : Option Addr) (l38 c38 : Nat), Ru (Instr.loadAt 24 v2) (drew w7) (.slice a38 l38 c38) (drew w7) ∧ ∃ (a39 : Option Addr) (l39 c39 : Nat), Ru (Instr.loadAt 28 v3) (drew w7) (.slice a39 l39 c39) (drew w7) ∧ ∃ q41 : Addr, Al (Instr.indexAt 28 (.slice a39 l39 c39) (.int .i64 n0)) (.pointer (some q41)) ∧ ∃ s43 : ByteArray, Ru (Instr.loadAt 9 (.pointer (some (Addr.add q41 0)))) (drew w7) (.string s43) (drew w7) ∧ ∃ g44 : Array Value, Al (Instr.build 36 #[(0, .int .i64 3), (1, .string s43)]) (.agg g44) ∧ ∃ (a45 : Option Addr) (l45 c45 : Nat), ∃ w8 : World, Ru (Instr.buildSlice 24 1 #[(0, .agg g44)]) (drew w7) (.slice a45 l45 c45) w8 ∧ Ru (Instr.loadAt 24 v2) w8 (.slice a38 l38 c38) w8 ∧ ∃ (a46 : Option Addr) (l46 c46 : Nat), ∃ w9 : World, Ru (Builtin.append_ #[24, 24] 24 #[.slice a38 l38 c38, .slice a45 l45 c45]) w8 (.slice a46 l46 c46) w9 ∧ ∃ w10 : World, RuU (Instr.storeAt 24 v2 (.slice a46 l46 c46)) w9 w10 ∧ k_3 [] w10
 else
 k_3 [] w7)) fun x_3 w11 =>
 k_2 [] w11)) fun x_2 w12 =>
 k [] w12)) fun x w13 =>
 K (.tuple #[]) w13
set_option maxRecDepth 100000 in
theorem C_diff_Trees_1 (n0 : Int) (n1 : Int) (v2 : Value) (v3 : Value) (v4 : Value) (w0 : World) (K : Value → World → Prop) (h : D_diff_Trees_1 n0 n1 v2 v3 v4 w0 K) : Cal Tryd.prog F_diff_Trees_1 #[.int .i64 n0, .int .i64 n1, v2, v3, v4] w0 K :=
 denF_sound (A := { S := [], ty := [], raw := [] }) mixed Tryd.func27 (by kernel_rfl) (by kernel_rfl) ((show denF Tryd.prog _ Tryd.f27 _ w0 K = D_diff_Trees_1 n0 n1 v2 v3 v4 w0 K by kernel_rfl).mpr h)

/- levee.diff.alike: slots {8: ''};  -/
set_option maxRecDepth 100000 in
def D_diff_alike (a0 : Option Addr) (l0 c0 : Nat) (n1 : Int) (a2 : Option Addr) (l2 c2 : Nat) (n3 : Int) (w0 : World) (K : Value → World → Prop) : Prop :=
 (Cal Tryd.prog F_diff_thing #[.slice a0 l0 c0, .int .i64 n1] (drew w0) fun r14 w1 => ∃ n14 : Int, r14 = .int .i64 n14 ∧ ∃ q15 : Addr, Al (Instr.indexAt 28 (.slice a0 l0 c0) (.int .i64 n14)) (.pointer (some q15)) ∧ ∃ g16 : Array Value, Ru (Instr.loadAt 64 (.pointer (some q15))) w1 (.agg g16) w1 ∧ (Cal Tryd.prog F_diff_thing #[.slice a2 l2 c2, .int .i64 n3] w1 fun r20 w2 => ∃ n20 : Int, r20 = .int .i64 n20 ∧ Ru (Instr.loadAt 64 (.pointer (some q15))) w2 (.agg g16) w2 ∧ ∃ q21 : Addr, Al (Instr.indexAt 28 (.slice a2 l2 c2) (.int .i64 n20)) (.pointer (some q21)) ∧ ∃ g22 : Array Value, Ru (Instr.loadAt 64 (.pointer (some q21))) w2 (.agg g22) w2 ∧ (∃ q9 : Addr, ∃ w3 : World, Ru (Instr.alloc 64 true (.tuple #[])) w2 (.pointer (some q9)) w3 ∧ Ru (Instr.loadAt 64 (.pointer (some q15))) w3 (.agg g16) w3 ∧ Ru (Instr.loadAt 64 (.pointer (some q21))) w3 (.agg g22) w3 ∧ ∃ q10 : Addr, ∃ w4 : World, Ru (Instr.alloc 64 true (.tuple #[])) w3 (.pointer (some q10)) w4 ∧ Ru (Instr.loadAt 64 (.pointer (some q15))) w4 (.agg g16) w4 ∧ Ru (Instr.loadAt 64 (.pointer (some q21))) w4 (.agg g22) w4 ∧ ∃ w5 : World, RuU (Instr.storeAt 64 (.pointer (some q9)) (.agg g16)) w4 w5 ∧ Ru (Instr.loadAt 64 (.pointer (some q21))) w5 (.agg g22) w5 ∧ ∃ w6 : World, RuU (Instr.storeAt 64 (.pointer (some q10)) (.agg g22)) w5 w6 ∧ Share (fun k => ∃ n24 : Int, Ru (Instr.loadAt 3 (.pointer (some (Addr.add q9 1)))) w6 (.int .i64 n24) w6 ∧ ∃ n26 : Int, Ru (Instr.loadAt 3 (.pointer (some (Addr.add q10 1)))) w6 (.int .i64 n26) w6 ∧ (bif n24 == n26 then ∃ s30 : ByteArray, Ru (Instr.loadAt 9 (.pointer (some (Addr.add q9 2)))) w6 (.string s30) w6 ∧ ∃ s32 : ByteArray, Ru (Instr.loadAt 9 (.pointer (some (Addr.add q10 2)))) w6 (.string s32) w6 ∧ (bif (ByteArray.toList s30) == (ByteArray.toList s32) then ∃ (a37 : Option Addr) (l37 c37 : Nat), Ru (Instr.loadAt 62 (.pointer (some (Addr.add q9 3)))) w6 (.slice a37 l37 c37) w6 ∧ ∃ (a39 : Option Addr) (l39 c39 : Nat), Ru (Instr.loadAt 62 (.pointer (some (Addr.add q10 3)))) w6 (.slice a39 l39 c39) w6 ∧ Cal Tryd.prog F_slices_Equal_byte #[.slice a37 l37 c37, .slice a39 l39 c39] w6 fun r40 w7 => ∃ b40 : Bool, r40 = .bool b40 ∧ k [.bool b40] w7 else k [.bool false] w6) else k [.bool false] w6)) fun x w8 =>
 ∃ b8 : Bool, nth x 0 = .bool b8 ∧ K (.bool b8) w8) ∧ (∃ q10_2 : Addr, ∃ w9 : World, Ru (Instr.alloc 64 true (.tuple #[])) w2 (.pointer (some q10_2)) w9 ∧ Ru (Instr.loadAt 64 (.pointer (some q15))) w9 (.agg g16) w9 ∧ Ru (Instr.loadAt 64 (.pointer (some q21))) w9 (.agg g22) w9 ∧ ∃ q9_2 : Addr, ∃ w10 : World, Ru (Instr.alloc 64 true (.tuple #[])) w9 (.pointer (some q9_2)) w10 ∧ Ru (Instr.loadAt 64 (.pointer (some q15))) w10 (.agg g16) w10 ∧ Ru (Instr.loadAt 64 (.pointer (some q21))) w10 (.agg g22) w10 ∧ ∃ w11 : World, RuU (Instr.storeAt 64 (.pointer (some q9_2)) (.agg g16)) w10 w11 ∧ Ru (Instr.loadAt 64 (.pointer (some q21))) w11 (.agg g22) w11 ∧ ∃ w12 : World, RuU (Instr.storeAt 64 (.pointer (some q10_2)) (.agg g22)) w11 w12 ∧ Share (fun k_2 => ∃ n24_2 : Int, Ru (Instr.loadAt 3 (.pointer (some (Addr.add q9_2 1)))) w12 (.int .i64 n24_2) w12 ∧ ∃ n26_2 : Int, Ru (Instr.loadAt 3 (.pointer (some (Addr.add q10_2 1)))) w12 (.int .i64 n26_2) w12 ∧ (bif n24_2 == n26_2 then ∃ s30_2 : ByteArray, Ru (Instr.loadAt 9 (.pointer (some (Addr.add q9_2 2)))) w12 (.string s30_2) w12 ∧ ∃ s32_2 : ByteArray, Ru (Instr.loadAt 9 (.pointer (some (Addr.add q10_2 2)))) w12 (.string s32_2) w12 ∧ (bif (ByteArray.toList s30_2) == (ByteArray.toList s32_2) then ∃ (a37_2 : Option Addr) (l37_2 c37_2 : Nat), Ru (Instr.loadAt 62 (.pointer (some (Addr.add q9_2 3)))) w12 (.slice a37_2 l37_2 c37_2) w12 ∧ ∃ (a39_2 : Option Addr) (l39_2 c39_2 : Nat), Ru (Instr.loadAt 62 (.pointer (some (Addr.add q10_2 3)))) w12 (.slice a39_2 l39_2 c39_2) w12 ∧ Cal Tryd.prog F_slices_Equal_byte #[.slice a37_2 l37_2 c37_2, .slice a39_2 l39_2 c39_2] w12 fun r40_2 w13 => ∃ b40_2 : Bool, r40_2 = .bool b40_2 ∧ k_2 [.bool b40_2] w13 else k_2 [.bool false] w12) else k_2 [.bool false] w12)) fun x_2 w14 =>
 ∃ b8_2 : Bool, nth x_2 0 = .bool b8_2 ∧ K (.bool b8_2) w14)) ∧ (∃ q9_3 : Addr, ∃ w15 : World, Ru (Instr.alloc 64 true (.tuple #[])) w1 (.pointer (some q9_3)) w15 ∧ Ru (Instr.loadAt 64 (.pointer (some q15))) w15 (.agg g16) w15 ∧ (Cal Tryd.prog F_diff_thing #[.slice a2 l2 c2, .int .i64 n3] w15 fun r20_2 w16 => ∃ n20_2 : Int, r20_2 = .int .i64 n20_2 ∧ Ru (Instr.loadAt 64 (.pointer (some q15))) w16 (.agg g16) w16 ∧ ∃ q21_2 : Addr, Al (Instr.indexAt 28 (.slice a2 l2 c2) (.int .i64 n20_2)) (.pointer (some q21_2)) ∧ ∃ g22_2 : Array Value, Ru (Instr.loadAt 64 (.pointer (some q21_2))) w16 (.agg g22_2) w16 ∧ ∃ q10_3 : Addr, ∃ w17 : World, Ru (Instr.alloc 64 true (.tuple #[])) w16 (.pointer (some q10_3)) w17 ∧ Ru (Instr.loadAt 64 (.pointer (some q15))) w17 (.agg g16) w17 ∧ Ru (Instr.loadAt 64 (.pointer (some q21_2))) w17 (.agg g22_2) w17 ∧ ∃ w18 : World, RuU (Instr.storeAt 64 (.pointer (some q9_3)) (.agg g16)) w17 w18 ∧ Ru (Instr.loadAt 64 (.pointer (some q21_2))) w18 (.agg g22_2) w18 ∧ ∃ w19 : World, RuU (Instr.storeAt 64 (.pointer (some q10_3)) (.agg g22_2)) w18 w19 ∧ Share (fun k_3 => ∃ n24_3 : Int, Ru (Instr.loadAt 3 (.pointer (some (Addr.add q9_3 1)))) w19 (.int .i64 n24_3) w19 ∧ ∃ n26_3 : Int, Ru (Instr.loadAt 3 (.pointer (some (Addr.add q10_3 1)))) w19 (.int .i64 n26_3) w19 ∧ (bif n24_3 == n26_3 then ∃ s30_3 : ByteArray, Ru (Instr.loadAt 9 (.pointer (some (Addr.add q9_3 2)))) w19 (.string s30_3) w19 ∧ ∃ s32_3 : ByteArray, Ru (Instr.loadAt 9 (.pointer (some (Addr.add q10_3 2)))) w19 (.string s32_3) w19 ∧ (bif (ByteArray.toList s30_3) == (ByteArray.toList s32_3) then ∃ (a37_3 : Option Addr) (l37_3 c37_3 : Nat), Ru (Instr.loadAt 62 (.pointer (some (Addr.add q9_3 3)))) w19 (.slice a37_3 l37_3 c37_3) w19 ∧ ∃ (a39_3 : Option Addr) (l39_3 c39_3 : Nat), Ru (Instr.loadAt 62 (.pointer (some (Addr.add q10_3 3)))) w19 (.slice a39_3 l39_3 c39_3) w19 ∧ Cal Tryd.prog F_slices_Equal_byte #[.slice a37_3 l37_3 c37_3, .slice a39_3 l39_3 c39_3] w19 fun r40_3 w20 => ∃ b40_3 : Bool, r40_3 = .bool b40_3 ∧ k_3 [.bool b40_3] w20 else k_3 [.bool false] w19) else k_3 [.bool false] w19)) fun x_3 w21 =>
 ∃ b8_3 : Bool, nth x_3 0 = .bool b8_3 ∧ K (.bool b8_3) w21) ∧ (∃ q10_4 : Addr, ∃ w22 : World, Ru (Instr.alloc 64 true (.tuple #[])) w15 (.pointer (some q10_4)) w22 ∧ Ru (Instr.loadAt 64 (.pointer (some q15))) w22 (.agg g16) w22 ∧ Cal Tryd.prog F_diff_thing #[.slice a2 l2 c2, .int .i64 n3] w22 fun r20_3 w23 => ∃ n20_3 : Int, r20_3 = .int .i64 n20_3 ∧ Ru (Instr.loadAt 64 (.pointer (some q15))) w23 (.agg g16) w23 ∧ ∃ q21_3 : Addr, Al (Instr.indexAt 28 (.slice a2 l2 c2) (.int .i64 n20_3)) (.pointer (some q21_3)) ∧ ∃ g22_3 : Array Value, Ru (Instr.loadAt 64 (.pointer (some q21_3))) w23 (.agg g22_3) w23 ∧ ∃ w24 : World, RuU (Instr.storeAt 64 (.pointer (some q9_3)) (.agg g16)) w23 w24 ∧ Ru (Instr.loadAt 64 (.pointer (some q21_3))) w24 (.agg g22_3) w24 ∧ ∃ w25 : World, RuU (Instr.storeAt 64 (.pointer (some q10_4)) (.agg g22_3)) w24 w25 ∧ Share (fun k_4 => ∃ n24_4 : Int, Ru (Instr.loadAt 3 (.pointer (some (Addr.add q9_3 1)))) w25 (.int .i64 n24_4) w25 ∧ ∃ n26_4 : Int, Ru (Instr.loadAt 3 (.pointer (some (Addr.add q10_4 1)))) w25 (.int .i64 n26_4) w25 ∧ (bif n24_4 == n26_4 then ∃ s30_4 : ByteArray, Ru (Instr.loadAt 9 (.pointer (some (Addr.add q9_3 2)))) w25 (.string s30_4) w25 ∧ ∃ s32_4 : ByteArray, Ru (Instr.loadAt 9 (.pointer (some (Addr.add q10_4 2)))) w25 (.string s32_4) w25 ∧ (bif (ByteArray.toList s30_4) == (ByteArray.toList s32_4) then ∃ (a37_4 : Option Addr) (l37_4 c37_4 : Nat), Ru (Instr.loadAt 62 (.pointer (some (Addr.add q9_3 3)))) w25 (.slice a37_4 l37_4 c37_4) w25 ∧ ∃ (a39_4 : Option Addr) (l39_4 c39_4 : Nat), Ru (Instr.loadAt 62 (.pointer (some (Addr.add q10_4 3)))) w25 (.slice a39_4 l39_4 c39_4) w25 ∧ Cal Tryd.prog F_slices_Equal_byte #[.slice a37_4 l37_4 c37_4, .slice a39_4 l39_4 c39_4] w25 fun r40_4 w26 => ∃ b40_4 : Bool, r40_4 = .bool b40_4 ∧ k_4 [.bool b40_4] w26 else k_4 [.bool false] w25) else k_4 [.bool false] w25)) fun x_4 w27 =>
 ∃ b8_4 : Bool, nth x_4 0 = .bool b8_4 ∧ K (.bool b8_4) w27)) ∧ (∃ q10_5 : Addr, ∃ w28 : World, Ru (Instr.alloc 64 true (.tuple #[])) w1 (.pointer (some q10_5)) w28 ∧ Ru (Instr.loadAt 64 (.pointer (some q15))) w28 (.agg g16) w28 ∧ (Cal Tryd.prog F_diff_thing #[.slice a2 l2 c2, .int .i64 n3] w28 fun r20_4 w29 => ∃ n20_4 : Int, r20_4 = .int .i64 n20_4 ∧ Ru (Instr.loadAt 64 (.pointer (some q15))) w29 (.agg g16) w29 ∧ ∃ q21_4 : Addr, Al (Instr.indexAt 28 (.slice a2 l2 c2) (.int .i64 n20_4)) (.pointer (some q21_4)) ∧ ∃ g22_4 : Array Value, Ru (Instr.loadAt 64 (.pointer (some q21_4))) w29 (.agg g22_4) w29 ∧ ∃ q9_4 : Addr, ∃ w30 : World, Ru (Instr.alloc 64 true (.tuple #[])) w29 (.pointer (some q9_4)) w30 ∧ Ru (Instr.loadAt 64 (.pointer (some q15))) w30 (.agg g16) w30 ∧ Ru (Instr.loadAt 64 (.pointer (some q21_4))) w30 (.agg g22_4) w30 ∧ ∃ w31 : World, RuU (Instr.storeAt 64 (.pointer (some q9_4)) (.agg g16)) w30 w31 ∧ Ru (Instr.loadAt 64 (.pointer (some q21_4))) w31 (.agg g22_4) w31 ∧ ∃ w32 : World, RuU (Instr.storeAt 64 (.pointer (some q10_5)) (.agg g22_4)) w31 w32 ∧ Share (fun k_5 => ∃ n24_5 : Int, Ru (Instr.loadAt 3 (.pointer (some (Addr.add q9_4 1)))) w32 (.int .i64 n24_5) w32 ∧ ∃ n26_5 : Int, Ru (Instr.loadAt 3 (.pointer (some (Addr.add q10_5 1)))) w32 (.int .i64 n26_5) w32 ∧ (bif n24_5 == n26_5 then ∃ s30_5 : ByteArray, Ru (Instr.loadAt 9 (.pointer (some (Addr.add q9_4 2)))) w32 (.string s30_5) w32 ∧ ∃ s32_5 : ByteArray, Ru (Instr.loadAt 9 (.pointer (some (Addr.add q10_5 2)))) w32 (.string s32_5) w32 ∧ (bif (ByteArray.toList s30_5) == (ByteArray.toList s32_5) then ∃ (a37_5 : Option Addr) (l37_5 c37_5 : Nat), Ru (Instr.loadAt 62 (.pointer (some (Addr.add q9_4 3)))) w32 (.slice a37_5 l37_5 c37_5) w32 ∧ ∃ (a39_5 : Option Addr) (l39_5 c39_5 : Nat), Ru (Instr.loadAt 62 (.pointer (some (Addr.add q10_5 3)))) w32 (.slice a39_5 l39_5 c39_5) w32 ∧ Cal Tryd.prog F_slices_Equal_byte #[.slice a37_5 l37_5 c37_5, .slice a39_5 l39_5 c39_5] w32 fun r40_5 w33 => ∃ b40_5 : Bool, r40_5 = .bool b40_5 ∧ k_5 [.bool b40_5] w33 else k_5 [.bool false] w32) else k_5 [.bool false] w32)) fun x_5 w34 =>
 ∃ b8_5 : Bool, nth x_5 0 = .bool b8_5 ∧ K (.bool b8_5) w34) ∧ (∃ q9_5 : Addr, ∃ w35 : World, Ru (Instr.alloc 64 true (.tuple #[])) w28 (.pointer (some q9_5)) w35 ∧ Ru (Instr.loadAt 64 (.pointer (some q15))) w35 (.agg g16) w35 ∧ Cal Tryd.prog F_diff_thing #[.slice a2 l2 c2, .int .i64 n3] w35 fun r20_5 w36 => ∃ n20_5 : Int, r20_5 = .int .i64 n20_5 ∧ Ru (Instr.loadAt 64 (.pointer (some q15))) w36 (.agg g16) w36 ∧ ∃ q21_5 : Addr, Al (Instr.indexAt 28 (.slice a2 l2 c2) (.int .i64 n20_5)) (.pointer (some q21_5)) ∧ ∃ g22_5 : Array Value, Ru (Instr.loadAt 64 (.pointer (some q21_5))) w36 (.agg g22_5) w36 ∧ ∃ w37 : World, RuU (Instr.storeAt 64 (.pointer (some q9_5)) (.agg g16)) w36 w37 ∧ Ru (Instr.loadAt 64 (.pointer (some q21_5))) w37 (.agg g22_5) w37 ∧ ∃ w38 : World, RuU (Instr.storeAt 64 (.pointer (some q10_5)) (.agg g22_5)) w37 w38 ∧ Share (fun k_6 => ∃ n24_6 : Int, Ru (Instr.loadAt 3 (.pointer (some (Addr.add q9_5 1)))) w38 (.int .i64 n24_6) w38 ∧ ∃ n26_6 : Int, Ru (Instr.loadAt 3 (.pointer (some (Addr.add q10_5 1)))) w38 (.int .i64 n26_6) w38 ∧ (bif n24_6 == n26_6 then ∃ s30_6 : ByteArray, Ru (Instr.loadAt 9 (.pointer (some (Addr.add q9_5 2)))) w38 (.string s30_6) w38 ∧ ∃ s32_6 : ByteArray, Ru (Instr.loadAt 9 (.pointer (some (Addr.add q10_5 2)))) w38 (.string s32_6) w38 ∧ (bif (ByteArray.toList s30_6) == (ByteArray.toList s32_6) then ∃ (a37_6 : Option Addr) (l37_6 c37_6 : Nat), Ru (Instr.loadAt 62 (.pointer (some (Addr.add q9_5 3)))) w38 (.slice a37_6 l37_6 c37_6) w38 ∧ ∃ (a39_6 : Option Addr) (l39_6 c39_6 : Nat), Ru (Instr.loadAt 62 (.pointer (some (Addr.add q10_5 3)))) w38 (.slice a39_6 l39_6 c39_6) w38 ∧ Cal Tryd.prog F_slices_Equal_byte #[.slice a37_6 l37_6 c37_6, .slice a39_6 l39_6 c39_6] w38 fun r40_6 w39 => ∃ b40_6 : Bool, r40_6 = .bool b40_6 ∧ k_6 [.bool b40_6] w39 else k_6 [.bool false] w38) else k_6 [.bool false] w38)) fun x_6 w40 =>
 ∃ b8_6 : Bool, nth x_6 0 = .bool b8_6 ∧ K (.bool b8_6) w40))) ∧ (∃ q9_6 : Addr, ∃ w41 : World, Ru (Instr.alloc 64 true (.tuple #[])) (drew w0) (.pointer (some q9_6)) w41 ∧ (Cal Tryd.prog F_diff_thing #[.slice a0 l0 c0, .int .i64 n1] w41 fun r14_2 w42 => ∃ n14_2 : Int, r14_2 = .int .i64 n14_2 ∧ ∃ q15_2 : Addr, Al (Instr.indexAt 28 (.slice a0 l0 c0) (.int .i64 n14_2)) (.pointer (some q15_2)) ∧ ∃ g16_2 : Array Value, Ru (Instr.loadAt 64 (.pointer (some q15_2))) w42 (.agg g16_2) w42 ∧ (Cal Tryd.prog F_diff_thing #[.slice a2 l2 c2, .int .i64 n3] w42 fun r20_6 w43 => ∃ n20_6 : Int, r20_6 = .int .i64 n20_6 ∧ Ru (Instr.loadAt 64 (.pointer (some q15_2))) w43 (.agg g16_2) w43 ∧ ∃ q21_6 : Addr, Al (Instr.indexAt 28 (.slice a2 l2 c2) (.int .i64 n20_6)) (.pointer (some q21_6)) ∧ ∃ g22_6 : Array Value, Ru (Instr.loadAt 64 (.pointer (some q21_6))) w43 (.agg g22_6) w43 ∧ ∃ q10_6 : Addr, ∃ w44 : World, Ru (Instr.alloc 64 true (.tuple #[])) w43 (.pointer (some q10_6)) w44 ∧ Ru (Instr.loadAt 64 (.pointer (some q15_2))) w44 (.agg g16_2) w44 ∧ Ru (Instr.loadAt 64 (.pointer (some q21_6))) w44 (.agg g22_6) w44 ∧ ∃ w45 : World, RuU (Instr.storeAt 64 (.pointer (some q9_6)) (.agg g16_2)) w44 w45 ∧ Ru (Instr.loadAt 64 (.pointer (some q21_6))) w45 (.agg g22_6) w45 ∧ ∃ w46 : World, RuU (Instr.storeAt 64 (.pointer (some q10_6)) (.agg g22_6)) w45 w46 ∧ Share (fun k_7 => ∃ n24_7 : Int, Ru (Instr.loadAt 3 (.pointer (some (Addr.add q9_6 1)))) w46 (.int .i64 n24_7) w46 ∧ ∃ n26_7 : Int, Ru (Instr.loadAt 3 (.pointer (some (Addr.add q10_6 1)))) w46 (.int .i64 n26_7) w46 ∧ (bif n24_7 == n26_7 then ∃ s30_7 : ByteArray, Ru (Instr.loadAt 9 (.pointer (some (Addr.add q9_6 2)))) w46 (.string s30_7) w46 ∧ ∃ s32_7 : ByteArray, Ru (Instr.loadAt 9 (.pointer (some (Addr.add q10_6 2)))) w46 (.string s32_7) w46 ∧ (bif (ByteArray.toList s30_7) == (ByteArray.toList s32_7) then ∃ (a37_7 : Option Addr) (l37_7 c37_7 : Nat), Ru (Instr.loadAt 62 (.pointer (some (Addr.add q9_6 3)))) w46 (.slice a37_7 l37_7 c37_7) w46 ∧ ∃ (a39_7 : Option Addr) (l39_7 c39_7 : Nat), Ru (Instr.loadAt 62 (.pointer (some (Addr.add q10_6 3)))) w46 (.slice a39_7 l39_7 c39_7) w46 ∧ Cal Tryd.prog F_slices_Equal_byte #[.slice a37_7 l37_7 c37_7, .slice a39_7 l39_7 c39_7] w46 fun r40_7 w47 => ∃ b40_7 : Bool, r40_7 = .bool b40_7 ∧ k_7 [.bool b40_7] w47 else k_7 [.bool false] w46) else k_7 [.bool false] w46)) fun x_7 w48 =>
 ∃ b8_7 : Bool, nth x_7 0 = .bool b8_7 ∧ K (.bool b8_7) w48) ∧ (∃ q10_7 : Addr, ∃ w49 : World, Ru (Instr.alloc 64 true (.tuple #[])) w42 (.pointer (some q10_7)) w49 ∧ Ru (Instr.loadAt 64 (.pointer (some q15_2))) w49 (.agg g16_2) w49 ∧ Cal Tryd.prog F_diff_thing #[.slice a2 l2 c2, .int .i64 n3] w49 fun r20_7 w50 => ∃ n20_7 : Int, r20_7 = .int .i64 n20_7 ∧ Ru (Instr.loadAt 64 (.pointer (some q15_2))) w50 (.agg g16_2) w50 ∧ ∃ q21_7 : Addr, Al (Instr.indexAt 28 (.slice a2 l2 c2) (.int .i64 n20_7)) (.pointer (some q21_7)) ∧ ∃ g22_7 : Array Value, Ru (Instr.loadAt 64 (.pointer (some q21_7))) w50 (.agg g22_7) w50 ∧ ∃ w51 : World, RuU (Instr.storeAt 64 (.pointer (some q9_6)) (.agg g16_2)) w50 w51 ∧ Ru (Instr.loadAt 64 (.pointer (some q21_7))) w51 (.agg g22_7) w51 ∧ ∃ w52 : World, RuU (Instr.storeAt 64 (.pointer (some q10_7)) (.agg g22_7)) w51 w52 ∧ Share (fun k_8 => ∃ n24_8 : Int, Ru (Instr.loadAt 3 (.pointer (some (Addr.add q9_6 1)))) w52 (.int .i64 n24_8) w52 ∧ ∃ n26_8 : Int, Ru (Instr.loadAt 3 (.pointer (some (Addr.add q10_7 1)))) w52 (.int .i64 n26_8) w52 ∧ (bif n24_8 == n26_8 then ∃ s30_8 : ByteArray, Ru (Instr.loadAt 9 (.pointer (some (Addr.add q9_6 2)))) w52 (.string s30_8) w52 ∧ ∃ s32_8 : ByteArray, Ru (Instr.loadAt 9 (.pointer (some (Addr.add q10_7 2)))) w52 (.string s32_8) w52 ∧ (bif (ByteArray.toList s30_8) == (ByteArray.toList s32_8) then ∃ (a37_8 : Option Addr) (l37_8 c37_8 : Nat), Ru (Instr.loadAt 62 (.pointer (some (Addr.add q9_6 3)))) w52 (.slice a37_8 l37_8 c37_8) w52 ∧ ∃ (a39_8 : Option Addr) (l39_8 c39_8 : Nat), Ru (Instr.loadAt 62 (.pointer (some (Addr.add q10_7 3)))) w52 (.slice a39_8 l39_8 c39_8) w52 ∧ Cal Tryd.prog F_slices_Equal_byte #[.slice a37_8 l37_8 c37_8, .slice a39_8 l39_8 c39_8] w52 fun r40_8 w53 => ∃ b40_8 : Bool, r40_8 = .bool b40_8 ∧ k_8 [.bool b40_8] w53 else k_8 [.bool false] w52) else k_8 [.bool false] w52)) fun x_8 w54 =>
 ∃ b8_8 : Bool, nth x_8 0 = .bool b8_8 ∧ K (.bool b8_8) w54)) ∧ (∃ q10_8 : Addr, ∃ w55 : World, Ru (Instr.alloc 64 true (.tuple #[])) w41 (.pointer (some q10_8)) w55 ∧ Cal Tryd.prog F_diff_thing #[.slice a0 l0 c0, .int .i64 n1] w55 fun r14_3 w56 => ∃ n14_3 : Int, r14_3 = .int .i64 n14_3 ∧ ∃ q15_3 : Addr, Al (Instr.indexAt 28 (.slice a0 l0 c0) (.int .i64 n14_3)) (.pointer (some q15_3)) ∧ ∃ g16_3 : Array Value, Ru (Instr.loadAt 64 (.pointer (some q15_3))) w56 (.agg g16_3) w56 ∧ Cal Tryd.prog F_diff_thing #[.slice a2 l2 c2, .int .i64 n3] w56 fun r20_8 w57 => ∃ n20_8 : Int, r20_8 = .int .i64 n20_8 ∧ Ru (Instr.loadAt 64 (.pointer (some q15_3))) w57 (.agg g16_3) w57 ∧ ∃ q21_8 : Addr, Al (Instr.indexAt 28 (.slice a2 l2 c2) (.int .i64 n20_8)) (.pointer (some q21_8)) ∧ ∃ g22_8 : Array Value, Ru (Instr.loadAt 64 (.pointer (some q21_8))) w57 (.agg g22_8) w57 ∧ ∃ w58 : World, RuU (Instr.storeAt 64 (.pointer (some q9_6)) (.agg g16_3)) w57 w58 ∧ Ru (Instr.loadAt 64 (.pointer (some q21_8))) w58 (.agg g22_8) w58 ∧ ∃ w59 : World, RuU (Instr.storeAt 64 (.pointer (some q10_8)) (.agg g22_8)) w58 w59 ∧ Share (fun k_9 => ∃ n24_9 : Int, Ru (Instr.loadAt 3 (.pointer (some (Addr.add q9_6 1)))) w59 (.int .i64 n24_9) w59 ∧ ∃ n26_9 : Int, Ru (Instr.loadAt 3 (.pointer (some (Addr.add q10_8 1)))) w59 (.int .i64 n26_9) w59 ∧ (bif n24_9 == n26_9 then ∃ s30_9 : ByteArray, Ru (Instr.loadAt 9 (.pointer (some (Addr.add q9_6 2)))) w59 (.string s30_9) w59 ∧ ∃ s32_9 : ByteArray, Ru (Instr.loadAt 9 (.pointer (some (Addr.add q10_8 2)))) w59 (.string s32_9) w59 ∧ (bif (ByteArray.toList s30_9) == (ByteArray.toList s32_9) then ∃ (a37_9 : Option Addr) (l37_9 c37_9 : Nat), Ru (Instr.loadAt 62 (.pointer (some (Addr.add q9_6 3)))) w59 (.slice a37_9 l37_9 c37_9) w59 ∧ ∃ (a39_9 : Option Addr) (l39_9 c39_9 : Nat), Ru (Instr.loadAt 62 (.pointer (some (Addr.add q10_8 3)))) w59 (.slice a39_9 l39_9 c39_9) w59 ∧ Cal Tryd.prog F_slices_Equal_byte #[.slice a37_9 l37_9 c37_9, .slice a39_9 l39_9 c39_9] w59 fun r40_9 w60 => ∃ b40_9 : Bool, r40_9 = .bool b40_9 ∧ k_9 [.bool b40_9] w60 else k_9 [.bool false] w59) else k_9 [.bool false] w59)) fun x_9 w61 =>
 ∃ b8_9 : Bool, nth x_9 0 = .bool b8_9 ∧ K (.bool b8_9) w61)) ∧ (∃ q10_9 : Addr, ∃ w62 : World, Ru (Instr.alloc 64 true (.tuple #[])) (drew w0) (.pointer (some q10_9)) w62 ∧ (Cal Tryd.prog F_diff_thing #[.slice a0 l0 c0, .int .i64 n1] w62 fun r14_4 w63 => ∃ n14_4 : Int, r14_4 = .int .i64 n14_4 ∧ ∃ q15_4 : Addr, Al (Instr.indexAt 28 (.slice a0 l0 c0) (.int .i64 n14_4)) (.pointer (some q15_4)) ∧ ∃ g16_4 : Array Value, Ru (Instr.loadAt 64 (.pointer (some q15_4))) w63 (.agg g16_4) w63 ∧ (Cal Tryd.prog F_diff_thing #[.slice a2 l2 c2, .int .i64 n3] w63 fun r20_9 w64 => ∃ n20_9 : Int, r20_9 = .int .i64 n20_9 ∧ Ru (Instr.loadAt 64 (.pointer (some q15_4))) w64 (.agg g16_4) w64 ∧ ∃ q21_9 : Addr, Al (Instr.indexAt 28 (.slice a2 l2 c2) (.int .i64 n20_9)) (.pointer (some q21_9)) ∧ ∃ g22_9 : Array Value, Ru (Instr.loadAt 64 (.pointer (some q21_9))) w64 (.agg g22_9) w64 ∧ ∃ q9_7 : Addr, ∃ w65 : World, Ru (Instr.alloc 64 true (.tuple #[])) w64 (.pointer (some q9_7)) w65 ∧ Ru (Instr.loadAt 64 (.pointer (some q15_4))) w65 (.agg g16_4) w65 ∧ Ru (Instr.loadAt 64 (.pointer (some q21_9))) w65 (.agg g22_9) w65 ∧ ∃ w66 : World, RuU (Instr.storeAt 64 (.pointer (some q9_7)) (.agg g16_4)) w65 w66 ∧ Ru (Instr.loadAt 64 (.pointer (some q21_9))) w66 (.agg g22_9) w66 ∧ ∃ w67 : World, RuU (Instr.storeAt 64 (.pointer (some q10_9)) (.agg g22_9)) w66 w67 ∧ Share (fun k_10 => ∃ n24_10 : Int, Ru (Instr.loadAt 3 (.pointer (some (Addr.add q9_7 1)))) w67 (.int .i64 n24_10) w67 ∧ ∃ n26_10 : Int, Ru (Instr.loadAt 3 (.pointer (some (Addr.add q10_9 1)))) w67 (.int .i64 n26_10) w67 ∧ (bif n24_10 == n26_10 then ∃ s30_10 : ByteArray, Ru (Instr.loadAt 9 (.pointer (some (Addr.add q9_7 2)))) w67 (.string s30_10) w67 ∧ ∃ s32_10 : ByteArray, Ru (Instr.loadAt 9 (.pointer (some (Addr.add q10_9 2)))) w67 (.string s32_10) w67 ∧ (bif (ByteArray.toList s30_10) == (ByteArray.toList s32_10) then ∃ (a37_10 : Option Addr) (l37_10 c37_10 : Nat), Ru (Instr.loadAt 62 (.pointer (some (Addr.add q9_7 3)))) w67 (.slice a37_10 l37_10 c37_10) w67 ∧ ∃ (a39_10 : Option Addr) (l39_10 c39_10 : Nat), Ru (Instr.loadAt 62 (.pointer (some (Addr.add q10_9 3)))) w67 (.slice a39_10 l39_10 c39_10) w67 ∧ Cal Tryd.prog F_slices_Equal_byte #[.slice a37_10 l37_10 c37_10, .slice a39_10 l39_10 c39_10] w67 fun r40_10 w68 => ∃ b40_10 : Bool, r40_10 = .bool b40_10 ∧ k_10 [.bool b40_10] w68 else k_10 [.bool false] w67) else k_10 [.bool false] w67)) fun x_10 w69 =>
 ∃ b8_10 : Bool, nth x_10 0 = .bool b8_10 ∧ K (.bool b8_10) w69) ∧ (∃ q9_8 : Addr, ∃ w70 : World, Ru (Instr.alloc 64 true (.tuple #[])) w63 (.pointer (some q9_8)) w70 ∧ Ru (Instr.loadAt 64 (.pointer (some q15_4))) w70 (.agg g16_4) w70 ∧ Cal Tryd.prog F_diff_thing #[.slice a2 l2 c2, .int .i64 n3] w70 fun r20_10 w71 => ∃ n20_10 : Int, r20_10 = .int .i64 n20_10 ∧ Ru (Instr.loadAt 64 (.pointer (some q15_4))) w71 (.agg g16_4) w71 ∧ ∃ q21_10 : Addr, Al (Instr.indexAt 28 (.slice a2 l2 c2) (.int .i64 n20_10)) (.pointer (some q21_10)) ∧ ∃ g22_10 : Array Value, Ru (Instr.loadAt 64 (.pointer (some q21_10))) w71 (.agg g22_10) w71 ∧ ∃ w72 : World, RuU (Instr.storeAt 64 (.pointer (some q9_8)) (.agg g16_4)) w71 w72 ∧ Ru (Instr.loadAt 64 (.pointer (some q21_10))) w72 (.agg g22_10) w72 ∧ ∃ w73 : World, RuU (Instr.storeAt 64 (.pointer (some q10_9)) (.agg g22_10)) w72 w73 ∧ Share (fun k_11 => ∃ n24_11 : Int, Ru (Instr.loadAt 3 (.pointer (some (Addr.add q9_8 1)))) w73 (.int .i64 n24_11) w73 ∧ ∃ n26_11 : Int, Ru (Instr.loadAt 3 (.pointer (some (Addr.add q10_9 1)))) w73 (.int .i64 n26_11) w73 ∧ (bif n24_11 == n26_11 then ∃ s30_11 : ByteArray, Ru (Instr.loadAt 9 (.pointer (some (Addr.add q9_8 2)))) w73 (.string s30_11) w73 ∧ ∃ s32_11 : ByteArray, Ru (Instr.loadAt 9 (.pointer (some (Addr.add q10_9 2)))) w73 (.string s32_11) w73 ∧ (bif (ByteArray.toList s30_11) == (ByteArray.toList s32_11) then ∃ (a37_11 : Option Addr) (l37_11 c37_11 : Nat), Ru (Instr.loadAt 62 (.pointer (some (Addr.add q9_8 3)))) w73 (.slice a37_11 l37_11 c37_11) w73 ∧ ∃ (a39_11 : Option Addr) (l39_11 c39_11 : Nat), Ru (Instr.loadAt 62 (.pointer (some (Addr.add q10_9 3)))) w73 (.slice a39_11 l39_11 c39_11) w73 ∧ Cal Tryd.prog F_slices_Equal_byte #[.slice a37_11 l37_11 c37_11, .slice a39_11 l39_11 c39_11] w73 fun r40_11 w74 => ∃ b40_11 : Bool, r40_11 = .bool b40_11 ∧ k_11 [.bool b40_11] w74 else k_11 [.bool false] w73) else k_11 [.bool false] w73)) fun x_11 w75 =>
 ∃ b8_11 : Bool, nth x_11 0 = .bool b8_11 ∧ K (.bool b8_11) w75)) ∧ (∃ q9_9 : Addr, ∃ w76 : World, Ru (Instr.alloc 64 true (.tuple #[])) w62 (.pointer (some q9_9)) w76 ∧ Cal Tryd.prog F_diff_thing #[.slice a0 l0 c0, .int .i64 n1] w76 fun r14_5 w77 => ∃ n14_5 : Int, r14_5 = .int .i64 n14_5 ∧ ∃ q15_5 : Addr, Al (Instr.indexAt 28 (.slice a0 l0 c0) (.int .i64 n14_5)) (.pointer (some q15_5)) ∧ ∃ g16_5 : Array Value, Ru (Instr.loadAt 64 (.pointer (some q15_5))) w77 (.agg g16_5) w77 ∧ Cal Tryd.prog F_diff_thing #[.slice a2 l2 c2, .int .i64 n3] w77 fun r20_11 w78 => ∃ n20_11 : Int, r20_11 = .int .i64 n20_11 ∧ Ru (Instr.loadAt 64 (.pointer (some q15_5))) w78 (.agg g16_5) w78 ∧ ∃ q21_11 : Addr, Al (Instr.indexAt 28 (.slice a2 l2 c2) (.int .i64 n20_11)) (.pointer (some q21_11)) ∧ ∃ g22_11 : Array Value, Ru (Instr.loadAt 64 (.pointer (some q21_11))) w78 (.agg g22_11) w78 ∧ ∃ w79 : World, RuU (Instr.storeAt 64 (.pointer (some q9_9)) (.agg g16_5)) w78 w79 ∧ Ru (Instr.loadAt 64 (.pointer (some q21_11))) w79 (.agg g22_11) w79 ∧ ∃ w80 : World, RuU (Instr.storeAt 64 (.pointer (some q10_9)) (.agg g22_11)) w79 w80 ∧ Share (fun k_12 => ∃ n24_12 : Int, Ru (Instr.loadAt 3 (.pointer (some (Addr.add q9_9 1)))) w80 (.int .i64 n24_12) w80 ∧ ∃ n26_12 : Int, Ru (Instr.loadAt 3 (.pointer (some (Addr.add q10_9 1)))) w80 (.int .i64 n26_12) w80 ∧ (bif n24_12 == n26_12 then ∃ s30_12 : ByteArray, Ru (Instr.loadAt 9 (.pointer (some (Addr.add q9_9 2)))) w80 (.string s30_12) w80 ∧ ∃ s32_12 : ByteArray, Ru (Instr.loadAt 9 (.pointer (some (Addr.add q10_9 2)))) w80 (.string s32_12) w80 ∧ (bif (ByteArray.toList s30_12) == (ByteArray.toList s32_12) then ∃ (a37_12 : Option Addr) (l37_12 c37_12 : Nat), Ru (Instr.loadAt 62 (.pointer (some (Addr.add q9_9 3)))) w80 (.slice a37_12 l37_12 c37_12) w80 ∧ ∃ (a39_12 : Option Addr) (l39_12 c39_12 : Nat), Ru (Instr.loadAt 62 (.pointer (some (Addr.add q10_9 3)))) w80 (.slice a39_12 l39_12 c39_12) w80 ∧ Cal Tryd.prog F_slices_Equal_byte #[.slice a37_12 l37_12 c37_12, .slice a39_12 l39_12 c39_12] w80 fun r40_12 w81 => ∃ b40_12 : Bool, r40_12 = .bool b40_12 ∧ k_12 [.bool b40_12] w81 else k_12 [.bool false] w80) else k_12 [.bool false] w80)) fun x_12 w82 =>
 ∃ b8_12 : Bool, nth x_12 0 = .bool b8_12 ∧ K (.bool b8_12) w82))
set_option maxRecDepth 100000 in
theorem C_diff_alike (a0 : Option Addr) (l0 c0 : Nat) (n1 : Int) (a2 : Option Addr) (l2 c2 : Nat) (n3 : Int) (w0 : World) (K : Value → World → Prop) (h : D_diff_alike a0 l0 c0 n1 a2 l2 c2 n3 w0 K) : Cal Tryd.prog F_diff_alike #[.slice a0 l0 c0, .int .i64 n1, .slice a2 l2 c2, .int .i64 n3] w0 K :=
 denF_sound (A := { S := [8], ty := [(8, 4)], raw := [] }) mixed Tryd.func28 (by kernel_rfl) (by kernel_rfl) ((show denF Tryd.prog _ Tryd.f28 _ w0 K = D_diff_alike a0 l0 c0 n1 a2 l2 c2 n3 w0 K by kernel_rfl).mpr h)

/- levee.leveeref34.find: slots {5: 'i'}; loop over [5] -/
/- levee.leveeref34.put: slots {5: 'out', 6: 'in', 7: 'i', 25: ''}; loop over [5, 6, 7, 25] -/
/- levee.leveeref34.alike: slots {8: ''};  -/
/- slices.IndexFunc[[]levee.dump.Entry,levee.dump.Entry]: slots {8: ''}; loop over [8] -/
set_option maxRecDepth 100000 in
def D_slices_IndexFunc_dump_Entry (a0 : Option Addr) (l0 c0 : Nat) (v1 : Value) (w0 : World) (K : Value → World → Prop) : Prop :=
 LoopC (fun k x w1 =>
 ∃ n8 : Int, nth x 0 = .int .i64 n8 ∧ (bif decide (n8 < (l0 : Int)) then
 ∃ q14 : Addr, Al (Instr.indexAt 28 (.slice a0 l0 c0) (.int .i64 n8)) (.pointer (some q14)) ∧ ∃ g15 : Array Value, Ru (Instr.loadAt 64 (.pointer (some q14))) w1 (.agg g15) w1 ∧ Dyn Tryd.prog v1 #[.agg g15] w1 fun r16 w2 => ∃ b16 : Bool, r16 = .bool b16 ∧ (bif b16 then
 K (.int .i64 n8) w2
 else
 k [.int .i64 (IntKind.i64.wrap (n8 + 1))] w2)
 else
 K (.int .i64 ((-1))) w1)) [.int .i64 0] w0
set_option maxRecDepth 100000 in
theorem C_slices_IndexFunc_dump_Entry (a0 : Option Addr) (l0 c0 : Nat) (v1 : Value) (w0 : World) (K : Value → World → Prop) (h : D_slices_IndexFunc_dump_Entry a0 l0 c0 v1 w0 K) : Cal Tryd.prog F_slices_IndexFunc_dump_Entry #[.slice a0 l0 c0, v1] w0 K :=
 denF_sound (A := { S := [8], ty := [(8, 3)], raw := [] }) mixed Tryd.func32 (by kernel_rfl) (by kernel_rfl) ((show denF Tryd.prog _ Tryd.f32 _ w0 K = D_slices_IndexFunc_dump_Entry a0 l0 c0 v1 w0 K by kernel_rfl).mpr h)

/- levee.diff.Below$1: slots {};  -/
set_option maxRecDepth 100000 in
def D_diff_Below_1 (g0 : Array Value) (v1 : Value) (w0 : World) (K : Value → World → Prop) : Prop :=
 ∃ q2 : Addr, ∃ w1 : World, Ru (Instr.box 64 (.agg g0)) w0 (.pointer (some q2)) w1 ∧ ∃ s5 : ByteArray, Ru (Instr.loadAt 9 (.pointer (some (Addr.add q2 0)))) w1 (.string s5) w1 ∧ ∃ s6 : ByteArray, Ru (Instr.loadAt 9 v1) w1 (.string s6) w1 ∧ K (.bool ((ByteArray.toList s5) == (ByteArray.toList s6))) w1
set_option maxRecDepth 100000 in
theorem C_diff_Below_1 (g0 : Array Value) (v1 : Value) (w0 : World) (K : Value → World → Prop) (h : D_diff_Below_1 g0 v1 w0 K) : Cal Tryd.prog F_diff_Below_1 #[.agg g0, v1] w0 K :=
 denF_sound (A := { S := [], ty := [], raw := [] }) mixed Tryd.func33 (by kernel_rfl) (by kernel_rfl) ((show denF Tryd.prog _ Tryd.f33 _ w0 K = D_diff_Below_1 g0 v1 w0 K by kernel_rfl).mpr h)

/- strings.CutPrefix: slots {};  -/
set_option maxRecDepth 100000 in
def D_strings_CutPrefix (s0 : ByteArray) (s1 : ByteArray) (w0 : World) (K : Value → World → Prop) : Prop :=
 Cal Tryd.prog F_stringslite_CutPrefix #[.string s0, .string s1] w0 fun r8 w1 => ∃ s8a : ByteArray, ∃ b8b : Bool, r8 = .tuple #[.string s8a, .bool b8b] ∧ K (.tuple #[.string s8a, .bool b8b]) w1
set_option maxRecDepth 100000 in
theorem C_strings_CutPrefix (s0 : ByteArray) (s1 : ByteArray) (w0 : World) (K : Value → World → Prop) (h : D_strings_CutPrefix s0 s1 w0 K) : Cal Tryd.prog F_strings_CutPrefix #[.string s0, .string s1] w0 K :=
 denF_sound (A := { S := [], ty := [], raw := [] }) mixed Tryd.func34 (by kernel_rfl) (by kernel_rfl) ((show denF Tryd.prog _ Tryd.f34 _ w0 K = D_strings_CutPrefix s0 s1 w0 K by kernel_rfl).mpr h)

/- levee.diff.thing: slots {};  -/
set_option maxRecDepth 100000 in
def D_diff_thing (a0 : Option Addr) (l0 c0 : Nat) (n1 : Int) (w0 : World) (K : Value → World → Prop) : Prop :=
 ∃ q7 : Addr, Al (Instr.indexAt 28 (.slice a0 l0 c0) (.int .i64 n1)) (.pointer (some q7)) ∧ ∃ n9 : Int, Ru (Instr.loadAt 3 (.pointer (some (Addr.add q7 4)))) w0 (.int .i64 n9) w0 ∧ (bif decide (n9 ≥ 0) then
 ∃ q13 : Addr, Al (Instr.indexAt 28 (.slice a0 l0 c0) (.int .i64 n1)) (.pointer (some q13)) ∧ ∃ n15 : Int, Ru (Instr.loadAt 3 (.pointer (some (Addr.add q13 4)))) w0 (.int .i64 n15) w0 ∧ K (.int .i64 n15) w0
 else
 K (.int .i64 n1) w0)
set_option maxRecDepth 100000 in
theorem C_diff_thing (a0 : Option Addr) (l0 c0 : Nat) (n1 : Int) (w0 : World) (K : Value → World → Prop) (h : D_diff_thing a0 l0 c0 n1 w0 K) : Cal Tryd.prog F_diff_thing #[.slice a0 l0 c0, .int .i64 n1] w0 K :=
 denF_sound (A := { S := [], ty := [], raw := [] }) mixed Tryd.func35 (by kernel_rfl) (by kernel_rfl) ((show denF Tryd.prog _ Tryd.f35 _ w0 K = D_diff_thing a0 l0 c0 n1 w0 K by kernel_rfl).mpr h)

/- slices.Clone[[]byte,byte]: slots {};  -/
set_option maxRecDepth 100000 in
def D_slices_Clone_byte (a0 : Option Addr) (l0 c0 : Nat) (w0 : World) (K : Value → World → Prop) : Prop :=
 ∃ b4 : Bool, Al (eqS .eql 62 (.tmp 3) (.const (.slice none 0 0)) (.slice a0 l0 c0) (.slice none 0 0)) (.bool b4) ∧ (bif b4 then
 K (.slice none 0 0) w0
 else
 ∃ (a5 : Option Addr) (l5 c5 : Nat), ∃ w1 : World, Ru (Instr.buildSlice 62 0 #[]) w0 (.slice a5 l5 c5) w1 ∧ ∃ (a7 : Option Addr) (l7 c7 : Nat), ∃ w2 : World, Ru (Builtin.append_ #[62, 62] 62 #[.slice a5 l5 c5, .slice a0 l0 c0]) w1 (.slice a7 l7 c7) w2 ∧ K (.slice a7 l7 c7) w2)
set_option maxRecDepth 100000 in
theorem C_slices_Clone_byte (a0 : Option Addr) (l0 c0 : Nat) (w0 : World) (K : Value → World → Prop) (h : D_slices_Clone_byte a0 l0 c0 w0 K) : Cal Tryd.prog F_slices_Clone_byte #[.slice a0 l0 c0] w0 K :=
 denF_sound (A := { S := [], ty := [], raw := [] }) mixed Tryd.func36 (by kernel_rfl) (by kernel_rfl) ((show denF Tryd.prog _ Tryd.f36 _ w0 K = D_slices_Clone_byte a0 l0 c0 w0 K by kernel_rfl).mpr h)

/- levee.leveeref34.at: slots {5: 'i'}; loop over [5] -/
/- levee.leveeref33.one: slots {4: '', 46: ''};  -/
set_option maxRecDepth 100000 in
def D_leveeref33_one (a0 : Option Addr) (l0 c0 : Nat) (n1 : Int) (w0 : World) (K : Value → World → Prop) : Prop :=
 ∃ q11 : Addr, Al (Instr.indexAt 22 (.slice a0 l0 c0) (.int .i64 n1)) (.pointer (some q11)) ∧ ∃ g12 : Array Value, Ru (Instr.loadAt 58 (.pointer (some q11))) w0 (.agg g12) w0 ∧ ∃ q5 : Addr, ∃ w1 : World, Ru (Instr.alloc 58 true (.tuple #[])) w0 (.pointer (some q5)) w1 ∧ ∃ w2 : World, RuU (Instr.storeAt 58 (.pointer (some q5)) (.agg g12)) w1 w2 ∧ Share (fun k => ∃ n14 : Int, Ru (Instr.loadAt 3 (.pointer (some (Addr.add q5 1)))) w2 (.int .i64 n14) w2 ∧ (bif decide (n14 < 1) then k [.bool true] w2 else ∃ n18 : Int, Ru (Instr.loadAt 3 (.pointer (some (Addr.add q5 1)))) w2 (.int .i64 n18) w2 ∧ (bif decide (n18 > 3) then k [.bool true] w2 else ∃ n23 : Int, Ru (Instr.loadAt 3 (.pointer (some (Addr.add q5 1)))) w2 (.int .i64 n23) w2 ∧ (bif n23 != 1 then ∃ s27 : ByteArray, Ru (Instr.loadAt 9 (.pointer (some (Addr.add q5 3)))) w2 (.string s27) w2 ∧ (bif !((ByteArray.toList s27) == (ByteArray.toList ByteArray.empty)) then k [.bool true] w2 else ∃ n33 : Int, Ru (Instr.loadAt 3 (.pointer (some (Addr.add q5 1)))) w2 (.int .i64 n33) w2 ∧ (bif n33 != 3 then ∃ s37 : ByteArray, Ru (Instr.loadAt 9 (.pointer (some (Addr.add q5 2)))) w2 (.string s37) w2 ∧ (bif !((ByteArray.toList s37) == (ByteArray.toList ByteArray.empty)) then k [.bool true] w2 else ∃ s43 : ByteArray, Ru (Instr.loadAt 9 (.pointer (some (Addr.add q5 3)))) w2 (.string s43) w2 ∧ k [.bool (decide ((ByteArray.size s43 : Int) > 65536))] w2) else ∃ s43_2 : ByteArray, Ru (Instr.loadAt 9 (.pointer (some (Addr.add q5 3)))) w2 (.string s43_2) w2 ∧ k [.bool (decide ((ByteArray.size s43_2 : Int) > 65536))] w2)) else ∃ n33_2 : Int, Ru (Instr.loadAt 3 (.pointer (some (Addr.add q5 1)))) w2 (.int .i64 n33_2) w2 ∧ (bif n33_2 != 3 then ∃ s37_2 : ByteArray, Ru (Instr.loadAt 9 (.pointer (some (Addr.add q5 2)))) w2 (.string s37_2) w2 ∧ (bif !((ByteArray.toList s37_2) == (ByteArray.toList ByteArray.empty)) then k [.bool true] w2 else ∃ s43_3 : ByteArray, Ru (Instr.loadAt 9 (.pointer (some (Addr.add q5 3)))) w2 (.string s43_3) w2 ∧ k [.bool (decide ((ByteArray.size s43_3 : Int) > 65536))] w2) else ∃ s43_4 : ByteArray, Ru (Instr.loadAt 9 (.pointer (some (Addr.add q5 3)))) w2 (.string s43_4) w2 ∧ k [.bool (decide ((ByteArray.size s43_4 : Int) > 65536))] w2))))) fun x w3 =>
 ∃ b46 : Bool, nth x 0 = .bool b46 ∧ (bif b46 then
 K (.bool false) w3
 else
 ∃ n48 : Int, Ru (Instr.loadAt 3 (.pointer (some (Addr.add q5 4)))) w3 (.int .i64 n48) w3 ∧ (bif n48 != (-1) then
 Share (fun k_2 => ∃ n51 : Int, Ru (Instr.loadAt 3 (.pointer (some (Addr.add q5 1)))) (drew w3) (.int .i64 n51) (drew w3) ∧ (bif n51 != 2 then ∃ n55 : Int, Ru (Instr.loadAt 3 (.pointer (some (Addr.add q5 4)))) (drew w3) (.int .i64 n55) (drew w3) ∧ (bif decide (n55 ≥ 0) then ∃ n60 : Int, Ru (Instr.loadAt 3 (.pointer (some (Addr.add q5 4)))) (drew w3) (.int .i64 n60) (drew w3) ∧ (bif decide (n60 < n1) then ∃ n67 : Int, Ru (Instr.loadAt 3 (.pointer (some (Addr.add q5 4)))) (drew w3) (.int .i64 n67) (drew w3) ∧ ∃ q68 : Addr, Al (Instr.indexAt 22 (.slice a0 l0 c0) (.int .i64 n67)) (.pointer (some q68)) ∧ ∃ n70 : Int, Ru (Instr.loadAt 3 (.pointer (some (Addr.add q68 1)))) (drew w3) (.int .i64 n70) (drew w3) ∧ ∃ n72 : Int, Ru (Instr.loadAt 3 (.pointer (some (Addr.add q5 1)))) (drew w3) (.int .i64 n72) (drew w3) ∧ (bif n70 == n72 then ∃ n78 : Int, Ru (Instr.loadAt 3 (.pointer (some (Addr.add q5 4)))) (drew w3) (.int .i64 n78) (drew w3) ∧ ∃ q79 : Addr, Al (Instr.indexAt 22 (.slice a0 l0 c0) (.int .i64 n78)) (.pointer (some q79)) ∧ ∃ n81 : Int, Ru (Instr.loadAt 3 (.pointer (some (Addr.add q79 4)))) (drew w3) (.int .i64 n81) (drew w3) ∧ (bif n81 == (-1) then ∃ s86 : ByteArray, Ru (Instr.loadAt 9 (.pointer (some (Addr.add q5 3)))) (drew w3) (.string s86) (drew w3) ∧ (bif (ByteArray.toList s86) == (ByteArray.toList ByteArray.empty) then ∃ s91 : ByteArray, Ru (Instr.loadAt 9 (.pointer (some (Addr.add q5 2)))) (drew w3) (.string s91) (drew w3) ∧ k_2 [.bool ((ByteArray.toList s91) == (ByteArray.toList ByteArray.empty))] (drew w3) else k_2 [.bool false] (drew w3)) else k_2 [.bool false] (drew w3)) else k_2 [.bool false] (drew w3)) else k_2 [.bool false] (drew w3)) else k_2 [.bool false] (drew w3)) else k_2 [.bool false] (drew w3))) fun x_2 w4 =>
 ∃ b4 : Bool, nth x_2 0 = .bool b4 ∧ K (.bool b4) w4
 else
 ∃ n95 : Int, Ru (Instr.loadAt 3 (.pointer (some (Addr.add q5 1)))) w3 (.int .i64 n95) w3 ∧ (bif n95 == 3 then
 ∃ s99 : ByteArray, Ru (Instr.loadAt 9 (.pointer (some (Addr.add q5 2)))) w3 (.string s99) w3 ∧ Cal Tryd.prog F_leveeref17_Split #[.string s99] w3 fun r100 w5 => ∃ (a100a : Option Addr) (l100a c100a : Nat), ∃ b100b : Bool, ∃ n100c : Int, r100 = .tuple #[.slice a100a l100a c100a, .bool b100b, .int .i64 n100c] ∧ K (.bool (n100c == 0)) w5
 else
 K (.bool true) w3)))
set_option maxRecDepth 100000 in
theorem C_leveeref33_one (a0 : Option Addr) (l0 c0 : Nat) (n1 : Int) (w0 : World) (K : Value → World → Prop) (h : D_leveeref33_one a0 l0 c0 n1 w0 K) : Cal Tryd.prog F_leveeref33_one #[.slice a0 l0 c0, .int .i64 n1] w0 K :=
 denF_sound (A := { S := [4, 46], ty := [(4, 4), (46, 4)], raw := [] }) mixed Tryd.func38 (by kernel_rfl) (by kernel_rfl) ((show denF Tryd.prog _ Tryd.f38 _ w0 K = D_leveeref33_one a0 l0 c0 n1 w0 K by kernel_rfl).mpr h)

/- levee.leveeref33.parts: slots {4: 'k', 5: 'i'}; loop over [4, 5] -/
set_option maxRecDepth 100000 in
def D_leveeref33_parts (s0 : ByteArray) (w0 : World) (K : Value → World → Prop) : Prop :=
 LoopC (fun k x w1 =>
 ∃ n5 : Int, nth x 1 = .int .i64 n5 ∧ (bif decide (n5 < (ByteArray.size s0 : Int)) then
 ∃ n14 : Int, Al (Instr.index 9 (.string s0) (.int .i64 n5)) (.int .u8 n14) ∧ Share (fun k_2 => (bif n14 == 47 then
 k_2 [.int .i64 n5] w1
 else
 k_2 [nth x 0] w1)) fun x_2 w2 =>
 k [nth x_2 0, .int .i64 (IntKind.i64.wrap (n5 + 1))] w2
 else
 (bif (ByteArray.toList s0) == (ByteArray.toList ByteArray.empty) then
 K (.tuple #[.string ByteArray.empty, .string ByteArray.empty]) w1
 else
 ∃ n4 : Int, nth x 0 = .int .i64 n4 ∧ ∃ s21 : ByteArray, Al (Instr.sliceAt 9 (.string s0) none (some (.int .i64 n4)) none) (.string s21) ∧ ∃ s25 : ByteArray, Al (Instr.sliceAt 9 (.string s0) (some (.int .i64 (IntKind.i64.wrap (n4 + 1)))) none none) (.string s25) ∧ K (.tuple #[.string s21, .string s25]) (drew w1)))) [.int .i64 0, .int .i64 0] w0
set_option maxRecDepth 100000 in
theorem C_leveeref33_parts (s0 : ByteArray) (w0 : World) (K : Value → World → Prop) (h : D_leveeref33_parts s0 w0 K) : Cal Tryd.prog F_leveeref33_parts #[.string s0] w0 K :=
 denF_sound (A := { S := [4, 5], ty := [(4, 3), (5, 3)], raw := [] }) mixed Tryd.func39 (by kernel_rfl) (by kernel_rfl) ((show denF Tryd.prog _ Tryd.f39 _ w0 K = D_leveeref33_parts s0 w0 K by kernel_rfl).mpr h)

/- levee.leveeref08.Name: slots {3: 'ok', 4: 'i'}; loop over [3, 4] -/
set_option maxRecDepth 100000 in
def D_leveeref08_Name (s0 : ByteArray) (w0 : World) (K : Value → World → Prop) : Prop :=
 Share (fun k => (bif decide ((ByteArray.size s0 : Int) ≥ 1) then (bif decide ((ByteArray.size s0 : Int) ≤ 24) then (bif !((ByteArray.toList s0) == (ByteArray.toList ⟨#[46]⟩)) then k [.bool (!((ByteArray.toList s0) == (ByteArray.toList (⟨#[46, 46]⟩))))] w0 else k [.bool false] w0) else k [.bool false] w0) else k [.bool false] w0)) fun x w1 =>
 LoopC (fun k_2 x_2 w2 =>
 ∃ n4 : Int, nth x_2 1 = .int .i64 n4 ∧ (bif decide (n4 < (ByteArray.size s0 : Int)) then
 Share (fun k_3 => ∃ b3 : Bool, nth x_2 0 = .bool b3 ∧ (bif b3 then ∃ n31 : Int, Al (Instr.index 9 (.string s0) (.int .i64 n4)) (.int .u8 n31) ∧ (bif n31 != 0 then ∃ n37 : Int, Al (Instr.index 9 (.string s0) (.int .i64 n4)) (.int .u8 n37) ∧ k_3 [.bool (n37 != 47)] w2 else k_3 [.bool false] w2) else k_3 [.bool false] w2)) fun x_3 w3 =>
 k_2 [nth x_3 0, .int .i64 (IntKind.i64.wrap (n4 + 1))] w3
 else
 ∃ b3_2 : Bool, nth x_2 0 = .bool b3_2 ∧ K (.bool b3_2) w2)) [nth x 0, .int .i64 0] w1
set_option maxRecDepth 100000 in
theorem C_leveeref08_Name (s0 : ByteArray) (w0 : World) (K : Value → World → Prop) (h : D_leveeref08_Name s0 w0 K) : Cal Tryd.prog F_leveeref08_Name #[.string s0] w0 K :=
 denF_sound (A := { S := [3, 4], ty := [(3, 4), (4, 3)], raw := [] }) mixed Tryd.func40 (by kernel_rfl) (by kernel_rfl) ((show denF Tryd.prog _ Tryd.f40 _ w0 K = D_leveeref08_Name s0 w0 K by kernel_rfl).mpr h)

/- levee.leveeref33.ordered: slots {3: 'i'}; loop over [3] -/
set_option maxRecDepth 100000 in
def D_leveeref33_ordered (a0 : Option Addr) (l0 c0 : Nat) (w0 : World) (K : Value → World → Prop) : Prop :=
 LoopC (fun k x w1 =>
 ∃ n3 : Int, nth x 0 = .int .i64 n3 ∧ (bif decide (n3 < (l0 : Int)) then
 ∃ q13 : Addr, Al (Instr.indexAt 22 (.slice a0 l0 c0) (.int .i64 (IntKind.i64.wrap (n3 - 1)))) (.pointer (some q13)) ∧ ∃ s15 : ByteArray, Ru (Instr.loadAt 9 (.pointer (some (Addr.add q13 0)))) (drew w1) (.string s15) (drew w1) ∧ ∃ q18 : Addr, Al (Instr.indexAt 22 (.slice a0 l0 c0) (.int .i64 n3)) (.pointer (some q18)) ∧ ∃ s20 : ByteArray, Ru (Instr.loadAt 9 (.pointer (some (Addr.add q18 0)))) (drew w1) (.string s20) (drew w1) ∧ Cal Tryd.prog F_leveeref33_Less #[.string s15, .string s20] (drew w1) fun r21 w2 => ∃ b21 : Bool, r21 = .bool b21 ∧ (bif !b21 then
 K (.bool false) w2
 else
 k [.int .i64 (IntKind.i64.wrap (n3 + 1))] w2)
 else
 K (.bool true) w1)) [.int .i64 1] w0
set_option maxRecDepth 100000 in
theorem C_leveeref33_ordered (a0 : Option Addr) (l0 c0 : Nat) (w0 : World) (K : Value → World → Prop) (h : D_leveeref33_ordered a0 l0 c0 w0 K) : Cal Tryd.prog F_leveeref33_ordered #[.slice a0 l0 c0] w0 K :=
 denF_sound (A := { S := [3], ty := [(3, 3)], raw := [] }) mixed Tryd.func41 (by kernel_rfl) (by kernel_rfl) ((show denF Tryd.prog _ Tryd.f41 _ w0 K = D_leveeref33_ordered a0 l0 c0 w0 K by kernel_rfl).mpr h)

/- levee.diff.match: slots {5: 'p', 6: 'k', 7: 'star', 8: 'from', 13: '', 28: ''}; loop over [5, 6, 7, 8, 13, 28] -/
set_option maxRecDepth 100000 in
def D_diff_match (s0 : ByteArray) (s1 : ByteArray) (w0 : World) (K : Value → World → Prop) : Prop :=
 LoopC (fun k x w1 =>
 ∃ n6 : Int, nth x 1 = .int .i64 n6 ∧ (bif decide (n6 < (ByteArray.size s1 : Int)) then
 Share (fun k_2 => ∃ n5 : Int, nth x 0 = .int .i64 n5 ∧ (bif decide (n5 < (ByteArray.size s0 : Int)) then ∃ n21 : Int, Al (Instr.index 9 (.string s0) (.int .i64 n5)) (.int .u8 n21) ∧ k_2 [.bool (n21 == 42)] w1 else k_2 [.bool false] w1)) fun x_2 w2 =>
 ∃ b13 : Bool, nth x_2 0 = .bool b13 ∧ Share (fun k_3 => (bif b13 then
 ∃ n5_2 : Int, nth x 0 = .int .i64 n5_2 ∧ k_3 [.int .i64 (IntKind.i64.wrap (n5_2 + 1)), .int .i64 n6, .int .i64 n5_2, .int .i64 n6, nth x 5] w2
 else
 Share (fun k_4 => ∃ n5_3 : Int, nth x 0 = .int .i64 n5_3 ∧ (bif decide (n5_3 < (ByteArray.size s0 : Int)) then ∃ n36 : Int, Al (Instr.index 9 (.string s0) (.int .i64 n5_3)) (.int .u8 n36) ∧ (bif n36 == 63 then k_4 [.bool true] (drew w2) else ∃ n41 : Int, Al (Instr.index 9 (.string s0) (.int .i64 n5_3)) (.int .u8 n41) ∧ ∃ n44 : Int, Al (Instr.index 9 (.string s1) (.int .i64 n6)) (.int .u8 n44) ∧ k_4 [.bool (n41 == n44)] (drew w2)) else k_4 [.bool false] (drew w2))) fun x_4 w3 =>
 ∃ b28 : Bool, nth x_4 0 = .bool b28 ∧ Share (fun k_5 => (bif b28 then
 ∃ n5_4 : Int, nth x 0 = .int .i64 n5_4 ∧ k_5 [.int .i64 (IntKind.i64.wrap (n5_4 + 1)), .int .i64 (IntKind.i64.wrap (n6 + 1)), nth x 3] w3
 else
 ∃ n7 : Int, nth x 2 = .int .i64 n7 ∧ (bif decide (n7 ≥ 0) then
 ∃ n8 : Int, nth x 3 = .int .i64 n8 ∧ k_5 [.int .i64 (IntKind.i64.wrap (n7 + 1)), .int .i64 (IntKind.i64.wrap (n8 + 1)), .int .i64 (IntKind.i64.wrap (n8 + 1))] w3
 else
 K (.bool false) w3))) fun x_5 w4 =>
 k_3 [nth x_5 0, nth x_5 1, nth x 2, nth x_5 2, .bool b28] w4)) fun x_3 w5 =>
 k [nth x_3 0, nth x_3 1, nth x_3 2, nth x_3 3, .bool b13, nth x_3 4] w5
 else
 ∃ n5_5 : Int, nth x 0 = .int .i64 n5_5 ∧ ∃ s62 : ByteArray, Al (Instr.sliceAt 9 (.string s0) (some (.int .i64 n5_5)) none none) (.string s62) ∧ Cal Tryd.prog F_strings_Trim #[.string s62, .string ⟨#[42]⟩] w1 fun r63 w6 => ∃ s63 : ByteArray, r63 = .string s63 ∧ K (.bool ((ByteArray.toList s63) == (ByteArray.toList ByteArray.empty))) w6)) [.int .i64 0, .int .i64 0, .int .i64 ((-1)), .int .i64 0, undef, undef] w0
set_option maxRecDepth 100000 in
theorem C_diff_match (s0 : ByteArray) (s1 : ByteArray) (w0 : World) (K : Value → World → Prop) (h : D_diff_match s0 s1 w0 K) : Cal Tryd.prog F_diff_match #[.string s0, .string s1] w0 K :=
 denF_sound (A := { S := [5, 6, 7, 8, 13, 28], ty := [(5, 3), (6, 3), (7, 3), (8, 3), (13, 4), (28, 4)], raw := [] }) mixed Tryd.func42 (by kernel_rfl) (by kernel_rfl) ((show denF Tryd.prog _ Tryd.f42 _ w0 K = D_diff_match s0 s1 w0 K by kernel_rfl).mpr h)

/- strings.LastIndexByte: slots {};  -/
set_option maxRecDepth 100000 in
def D_strings_LastIndexByte (s0 : ByteArray) (n1 : Int) (w0 : World) (K : Value → World → Prop) : Prop :=
 Cal Tryd.prog F_bytealg_LastIndexByteString #[.string s0, .int .u8 n1] w0 fun r7 w1 => ∃ n7 : Int, r7 = .int .i64 n7 ∧ K (.int .i64 n7) w1
set_option maxRecDepth 100000 in
theorem C_strings_LastIndexByte (s0 : ByteArray) (n1 : Int) (w0 : World) (K : Value → World → Prop) (h : D_strings_LastIndexByte s0 n1 w0 K) : Cal Tryd.prog F_strings_LastIndexByte #[.string s0, .int .u8 n1] w0 K :=
 denF_sound (A := { S := [], ty := [], raw := [] }) mixed Tryd.func43 (by kernel_rfl) (by kernel_rfl) ((show denF Tryd.prog _ Tryd.f43 _ w0 K = D_strings_LastIndexByte s0 n1 w0 K by kernel_rfl).mpr h)

/- levee.leveeref34.Match: slots {5: 'can', 6: 'i', 8: 'k', 54: ''}; loop over [8, 54]; loop over [5, 6, 8, 54] -/
/- (levee.dump.Entry).plain: slots {4: '', 12: '', 32: ''};  -/
set_option maxRecDepth 100000 in
def D_dump_Entry_plain (g0 : Array Value) (a1 : Option Addr) (l1 c1 : Nat) (w0 : World) (K : Value → World → Prop) : Prop :=
 ∃ q2 : Addr, ∃ w1 : World, Ru (Instr.box 64 (.agg g0)) w0 (.pointer (some q2)) w1 ∧ ∃ n10 : Int, Ru (Instr.loadAt 3 (.pointer (some (Addr.add q2 4)))) w1 (.int .i64 n10) w1 ∧ Share (fun k => ∃ n14 : Int, Ru (Instr.loadAt 3 (.pointer (some (Addr.add q2 1)))) w1 (.int .i64 n14) w1 ∧ (bif decide (n14 < 1) then k [.bool true] w1 else ∃ n18 : Int, Ru (Instr.loadAt 3 (.pointer (some (Addr.add q2 1)))) w1 (.int .i64 n18) w1 ∧ (bif decide (n18 > 3) then k [.bool true] w1 else ∃ n23 : Int, Ru (Instr.loadAt 3 (.pointer (some (Addr.add q2 4)))) w1 (.int .i64 n23) w1 ∧ (bif decide (n23 < (-1)) then k [.bool true] w1 else ∃ (a28 : Option Addr) (l28 c28 : Nat), Ru (Instr.loadAt 62 (.pointer (some (Addr.add q2 3)))) w1 (.slice a28 l28 c28) w1 ∧ k [.bool (decide ((l28 : Int) > 65536))] w1)))) fun x w2 =>
 ∃ b12 : Bool, nth x 0 = .bool b12 ∧ (bif b12 then
 K (.bool false) w2
 else
 Share (fun k_2 => ∃ n34 : Int, Ru (Instr.loadAt 3 (.pointer (some (Addr.add q2 1)))) w2 (.int .i64 n34) w2 ∧ (bif n34 != 1 then ∃ (a38 : Option Addr) (l38 c38 : Nat), Ru (Instr.loadAt 62 (.pointer (some (Addr.add q2 3)))) w2 (.slice a38 l38 c38) w2 ∧ (bif decide ((l38 : Int) > 0) then k_2 [.bool true] w2 else ∃ n44 : Int, Ru (Instr.loadAt 3 (.pointer (some (Addr.add q2 1)))) w2 (.int .i64 n44) w2 ∧ (bif n44 != 3 then ∃ s48 : ByteArray, Ru (Instr.loadAt 9 (.pointer (some (Addr.add q2 2)))) w2 (.string s48) w2 ∧ k_2 [.bool (!((ByteArray.toList s48) == (ByteArray.toList ByteArray.empty)))] w2 else k_2 [.bool false] w2)) else ∃ n44_2 : Int, Ru (Instr.loadAt 3 (.pointer (some (Addr.add q2 1)))) w2 (.int .i64 n44_2) w2 ∧ (bif n44_2 != 3 then ∃ s48_2 : ByteArray, Ru (Instr.loadAt 9 (.pointer (some (Addr.add q2 2)))) w2 (.string s48_2) w2 ∧ k_2 [.bool (!((ByteArray.toList s48_2) == (ByteArray.toList ByteArray.empty)))] w2 else k_2 [.bool false] w2))) fun x_2 w3 =>
 ∃ b32 : Bool, nth x_2 0 = .bool b32 ∧ (bif b32 then
 K (.bool false) w3
 else
 (bif decide (n10 ≥ 0) then
 Share (fun k_3 => ∃ n55 : Int, Ru (Instr.loadAt 3 (.pointer (some (Addr.add q2 1)))) (drew w3) (.int .i64 n55) (drew w3) ∧ (bif n55 != 2 then ∃ n59 : Int, Ru (Instr.loadAt 3 (.pointer (some (Addr.add q2 4)))) (drew w3) (.int .i64 n59) (drew w3) ∧ (bif decide (n59 < (l1 : Int)) then ∃ n67 : Int, Ru (Instr.loadAt 3 (.pointer (some (Addr.add q2 4)))) (drew w3) (.int .i64 n67) (drew w3) ∧ ∃ q68 : Addr, Al (Instr.indexAt 28 (.slice a1 l1 c1) (.int .i64 n67)) (.pointer (some q68)) ∧ ∃ n70 : Int, Ru (Instr.loadAt 3 (.pointer (some (Addr.add q68 1)))) (drew w3) (.int .i64 n70) (drew w3) ∧ ∃ n72 : Int, Ru (Instr.loadAt 3 (.pointer (some (Addr.add q2 1)))) (drew w3) (.int .i64 n72) (drew w3) ∧ (bif n70 == n72 then ∃ n78 : Int, Ru (Instr.loadAt 3 (.pointer (some (Addr.add q2 4)))) (drew w3) (.int .i64 n78) (drew w3) ∧ ∃ q79 : Addr, Al (Instr.indexAt 28 (.slice a1 l1 c1) (.int .i64 n78)) (.pointer (some q79)) ∧ ∃ n81 : Int, Ru (Instr.loadAt 3 (.pointer (some (Addr.add q79 4)))) (drew w3) (.int .i64 n81) (drew w3) ∧ (bif n81 == (-1) then ∃ (a86 : Option Addr) (l86 c86 : Nat), Ru (Instr.loadAt 62 (.pointer (some (Addr.add q2 3)))) (drew w3) (.slice a86 l86 c86) (drew w3) ∧ (bif (l86 : Int) == 0 then ∃ s92 : ByteArray, Ru (Instr.loadAt 9 (.pointer (some (Addr.add q2 2)))) (drew w3) (.string s92) (drew w3) ∧ k_3 [.bool ((ByteArray.toList s92) == (ByteArray.toList ByteArray.empty))] (drew w3) else k_3 [.bool false] (drew w3)) else k_3 [.bool false] (drew w3)) else k_3 [.bool false] (drew w3)) else k_3 [.bool false] (drew w3)) else k_3 [.bool false] (drew w3))) fun x_3 w4 =>
 ∃ b4 : Bool, nth x_3 0 = .bool b4 ∧ K (.bool b4) w4
 else
 ∃ n97 : Int, Ru (Instr.loadAt 3 (.pointer (some (Addr.add q2 1)))) w3 (.int .i64 n97) w3 ∧ (bif n97 == 3 then
 ∃ s101 : ByteArray, Ru (Instr.loadAt 9 (.pointer (some (Addr.add q2 2)))) w3 (.string s101) w3 ∧ Cal Tryd.prog F_tree_Split #[.string s101] w3 fun r102 w5 => ∃ (a102a : Option Addr) (l102a c102a : Nat), ∃ b102b : Bool, ∃ n102c : Int, r102 = .tuple #[.slice a102a l102a c102a, .bool b102b, .int .i64 n102c] ∧ K (.bool (n102c == 0)) w5
 else
 K (.bool true) w3))))
set_option maxRecDepth 100000 in
theorem C_dump_Entry_plain (g0 : Array Value) (a1 : Option Addr) (l1 c1 : Nat) (w0 : World) (K : Value → World → Prop) (h : D_dump_Entry_plain g0 a1 l1 c1 w0 K) : Cal Tryd.prog F_dump_Entry_plain #[.agg g0, .slice a1 l1 c1] w0 K :=
 denF_sound (A := { S := [4, 12, 32], ty := [(4, 4), (12, 4), (32, 4)], raw := [] }) mixed Tryd.func45 (by kernel_rfl) (by kernel_rfl) ((show denF Tryd.prog _ Tryd.f45 _ w0 K = D_dump_Entry_plain g0 a1 l1 c1 w0 K by kernel_rfl).mpr h)

/- levee.dump.parent: slots {};  -/
set_option maxRecDepth 100000 in
def D_dump_parent (s0 : ByteArray) (w0 : World) (K : Value → World → Prop) : Prop :=
 Cal Tryd.prog F_strings_LastIndexByte #[.string s0, .int .u8 47] w0 fun r7 w1 => ∃ n7 : Int, r7 = .int .i64 n7 ∧ (bif decide (n7 < 0) then
 K (.tuple #[.string ByteArray.empty, .string ByteArray.empty, .bool false]) w1
 else
 ∃ s12 : ByteArray, Al (Instr.sliceAt 9 (.string s0) none (some (.int .i64 n7)) none) (.string s12) ∧ ∃ s16 : ByteArray, Al (Instr.sliceAt 9 (.string s0) (some (.int .i64 (IntKind.i64.wrap (n7 + 1)))) none none) (.string s16) ∧ K (.tuple #[.string s12, .string s16, .bool true]) (drew w1))
set_option maxRecDepth 100000 in
theorem C_dump_parent (s0 : ByteArray) (w0 : World) (K : Value → World → Prop) (h : D_dump_parent s0 w0 K) : Cal Tryd.prog F_dump_parent #[.string s0] w0 K :=
 denF_sound (A := { S := [], ty := [], raw := [] }) mixed Tryd.func46 (by kernel_rfl) (by kernel_rfl) ((show denF Tryd.prog _ Tryd.f46 _ w0 K = D_dump_parent s0 w0 K by kernel_rfl).mpr h)

/- levee.dirent.Name: slots {6: '', 20: ''}; loop over [20] -/
set_option maxRecDepth 100000 in
def D_dirent_Name (s0 : ByteArray) (w0 : World) (K : Value → World → Prop) : Prop :=
 Share (fun k => (bif (ByteArray.toList s0) == (ByteArray.toList ByteArray.empty) then
 k [.bool ((ByteArray.toList s0) == (ByteArray.toList ByteArray.empty))] w0
 else
 Share (fun k_2 => (bif (ByteArray.toList s0) == (ByteArray.toList ⟨#[46]⟩) then
 k_2 [.bool ((ByteArray.toList s0) == (ByteArray.toList ⟨#[46]⟩))] w0
 else
 k_2 [.bool ((ByteArray.toList s0) == (ByteArray.toList (⟨#[46, 46]⟩)))] w0)) fun x_2 w1 =>
 k [nth x_2 0] w1)) fun x w2 =>
 ∃ b6 : Bool, nth x 0 = .bool b6 ∧ (bif b6 then
 K (.bool false) w2
 else
 ∃ q11 : Addr, ∃ w3 : World, Ru (Instr.range 9 (.string s0)) w2 (.pointer (some q11)) w3 ∧ LoopC (fun k_3 x_3 w4 =>
 ∃ v12 : Value, ∃ w5 : World, Ru (Instr.next (.pointer (some q11)) true 0) w4 v12 w5 ∧ ∃ b13 : Bool, Al (Instr.extract v12 0) (.bool b13) ∧ (bif b13 then
 ∃ n14 : Int, Al (Instr.extract v12 2) (.int .i32 n14) ∧ Share (fun k_4 => (bif n14 == 47 then k_4 [.bool true] w5 else k_4 [.bool (n14 == 0)] w5)) fun x_4 w6 =>
 ∃ b20 : Bool, nth x_4 0 = .bool b20 ∧ (bif b20 then
 K (.bool false) w6
 else
 k_3 [.bool b20] w6)
 else
 K (.bool (decide ((ByteArray.size s0 : Int) ≤ 24))) w5)) [undef] w3)
set_option maxRecDepth 100000 in
theorem C_dirent_Name (s0 : ByteArray) (w0 : World) (K : Value → World → Prop) (h : D_dirent_Name s0 w0 K) : Cal Tryd.prog F_dirent_Name #[.string s0] w0 K :=
 denF_sound (A := { S := [6, 20], ty := [(6, 4), (20, 4)], raw := [12] }) mixed Tryd.func47 (by kernel_rfl) (by kernel_rfl) ((show denF Tryd.prog _ Tryd.f47 _ w0 K = D_dirent_Name s0 w0 K by kernel_rfl).mpr h)

/- levee.dump.ahead: slots {};  -/
set_option maxRecDepth 100000 in
def D_dump_ahead (s0 : ByteArray) (s1 : ByteArray) (w0 : World) (K : Value → World → Prop) : Prop :=
 Cal Tryd.prog F_strings_Split #[.string s0, .string ⟨#[47]⟩] w0 fun r6 w1 => ∃ (a6 : Option Addr) (l6 c6 : Nat), r6 = .slice a6 l6 c6 ∧ Cal Tryd.prog F_strings_Split #[.string s1, .string ⟨#[47]⟩] w1 fun r8 w2 => ∃ (a8 : Option Addr) (l8 c8 : Nat), r8 = .slice a8 l8 c8 ∧ Cal Tryd.prog F_slices_Compare_string #[.slice a6 l6 c6, .slice a8 l8 c8] w2 fun r9 w3 => ∃ n9 : Int, r9 = .int .i64 n9 ∧ K (.bool (decide (n9 < 0))) w3
set_option maxRecDepth 100000 in
theorem C_dump_ahead (s0 : ByteArray) (s1 : ByteArray) (w0 : World) (K : Value → World → Prop) (h : D_dump_ahead s0 s1 w0 K) : Cal Tryd.prog F_dump_ahead #[.string s0, .string s1] w0 K :=
 denF_sound (A := { S := [], ty := [], raw := [] }) mixed Tryd.func48 (by kernel_rfl) (by kernel_rfl) ((show denF Tryd.prog _ Tryd.f48 _ w0 K = D_dump_ahead s0 s1 w0 K by kernel_rfl).mpr h)

/- levee.diff.order: slots {};  -/
set_option maxRecDepth 100000 in
def D_diff_order (s0 : ByteArray) (s1 : ByteArray) (w0 : World) (K : Value → World → Prop) : Prop :=
 Cal Tryd.prog F_strings_Split #[.string s0, .string ⟨#[47]⟩] w0 fun r6 w1 => ∃ (a6 : Option Addr) (l6 c6 : Nat), r6 = .slice a6 l6 c6 ∧ Cal Tryd.prog F_strings_Split #[.string s1, .string ⟨#[47]⟩] w1 fun r8 w2 => ∃ (a8 : Option Addr) (l8 c8 : Nat), r8 = .slice a8 l8 c8 ∧ Cal Tryd.prog F_slices_Compare_string #[.slice a6 l6 c6, .slice a8 l8 c8] w2 fun r9 w3 => ∃ n9 : Int, r9 = .int .i64 n9 ∧ K (.int .i64 n9) w3
set_option maxRecDepth 100000 in
theorem C_diff_order (s0 : ByteArray) (s1 : ByteArray) (w0 : World) (K : Value → World → Prop) (h : D_diff_order s0 s1 w0 K) : Cal Tryd.prog F_diff_order #[.string s0, .string s1] w0 K :=
 denF_sound (A := { S := [], ty := [], raw := [] }) mixed Tryd.func49 (by kernel_rfl) (by kernel_rfl) ((show denF Tryd.prog _ Tryd.f49 _ w0 K = D_diff_order s0 s1 w0 K by kernel_rfl).mpr h)

/- slices.Equal[[]byte,byte]: slots {13: ''}; loop over [13] -/
set_option maxRecDepth 100000 in
def D_slices_Equal_byte (a0 : Option Addr) (l0 c0 : Nat) (a1 : Option Addr) (l1 c1 : Nat) (w0 : World) (K : Value → World → Prop) : Prop :=
 (bif (l0 : Int) != (l1 : Int) then
 K (.bool false) w0
 else
 LoopC (fun k x w1 =>
 ∃ n13 : Int, nth x 0 = .int .i64 n13 ∧ (bif decide (n13 < (l0 : Int)) then
 ∃ q18 : Addr, Al (Instr.indexAt 62 (.slice a0 l0 c0) (.int .i64 n13)) (.pointer (some q18)) ∧ ∃ n19 : Int, Ru (Instr.loadAt 5 (.pointer (some q18))) (drew w1) (.int .u8 n19) (drew w1) ∧ ∃ q22 : Addr, Al (Instr.indexAt 62 (.slice a1 l1 c1) (.int .i64 n13)) (.pointer (some q22)) ∧ ∃ n23 : Int, Ru (Instr.loadAt 5 (.pointer (some q22))) (drew w1) (.int .u8 n23) (drew w1) ∧ (bif n19 != n23 then
 K (.bool false) (drew w1)
 else
 k [.int .i64 (IntKind.i64.wrap (n13 + 1))] (drew w1))
 else
 K (.bool true) w1)) [.int .i64 0] w0)
set_option maxRecDepth 100000 in
theorem C_slices_Equal_byte (a0 : Option Addr) (l0 c0 : Nat) (a1 : Option Addr) (l1 c1 : Nat) (w0 : World) (K : Value → World → Prop) (h : D_slices_Equal_byte a0 l0 c0 a1 l1 c1 w0 K) : Cal Tryd.prog F_slices_Equal_byte #[.slice a0 l0 c0, .slice a1 l1 c1] w0 K :=
 denF_sound (A := { S := [13], ty := [(13, 3)], raw := [] }) mixed Tryd.func50 (by kernel_rfl) (by kernel_rfl) ((show denF Tryd.prog _ Tryd.f50 _ w0 K = D_slices_Equal_byte a0 l0 c0 a1 l1 c1 w0 K by kernel_rfl).mpr h)

/- levee.leveeref33.Less: slots {7: 'i', 21: ''}; loop over [7, 21] -/
set_option maxRecDepth 100000 in
def D_leveeref33_Less (s0 : ByteArray) (s1 : ByteArray) (w0 : World) (K : Value → World → Prop) : Prop :=
 Cal Tryd.prog F_leveeref33_names #[.string s0] w0 fun r9 w1 => ∃ (a9 : Option Addr) (l9 c9 : Nat), r9 = .slice a9 l9 c9 ∧ Cal Tryd.prog F_leveeref33_names #[.string s1] w1 fun r11 w2 => ∃ (a11 : Option Addr) (l11 c11 : Nat), r11 = .slice a11 l11 c11 ∧ LoopC (fun k x w3 =>
 Share (fun k_2 => ∃ n7 : Int, nth x 0 = .int .i64 n7 ∧ (bif decide (n7 < (l9 : Int)) then k_2 [.bool (decide (n7 < (l11 : Int)))] w3 else k_2 [.bool false] w3)) fun x_2 w4 =>
 ∃ b21 : Bool, nth x_2 0 = .bool b21 ∧ (bif b21 then
 ∃ n7_2 : Int, nth x 0 = .int .i64 n7_2 ∧ ∃ q26 : Addr, Al (Instr.indexAt 52 (.slice a9 l9 c9) (.int .i64 n7_2)) (.pointer (some q26)) ∧ ∃ s27 : ByteArray, Ru (Instr.loadAt 9 (.pointer (some q26))) (drew w4) (.string s27) (drew w4) ∧ ∃ q30 : Addr, Al (Instr.indexAt 52 (.slice a11 l11 c11) (.int .i64 n7_2)) (.pointer (some q30)) ∧ ∃ s31 : ByteArray, Ru (Instr.loadAt 9 (.pointer (some q30))) (drew w4) (.string s31) (drew w4) ∧ (bif !((ByteArray.toList s27) == (ByteArray.toList s31)) then
 ∃ q35 : Addr, Al (Instr.indexAt 52 (.slice a9 l9 c9) (.int .i64 n7_2)) (.pointer (some q35)) ∧ ∃ s36 : ByteArray, Ru (Instr.loadAt 9 (.pointer (some q35))) (drew (drew w4)) (.string s36) (drew (drew w4)) ∧ ∃ q39 : Addr, Al (Instr.indexAt 52 (.slice a11 l11 c11) (.int .i64 n7_2)) (.pointer (some q39)) ∧ ∃ s40 : ByteArray, Ru (Instr.loadAt 9 (.pointer (some q39))) (drew (drew w4)) (.string s40) (drew (drew w4)) ∧ ∃ b41 : Bool, Al (eqS .lss 9 (.tmp 36) (.tmp 40) (.string s36) (.string s40)) (.bool b41) ∧ K (.bool b41) (drew (drew w4))
 else
 k [.int .i64 (IntKind.i64.wrap (n7_2 + 1)), .bool b21] (drew w4))
 else
 K (.bool (decide ((l9 : Int) < (l11 : Int)))) w4)) [.int .i64 0, undef] w2
set_option maxRecDepth 100000 in
theorem C_leveeref33_Less (s0 : ByteArray) (s1 : ByteArray) (w0 : World) (K : Value → World → Prop) (h : D_leveeref33_Less s0 s1 w0 K) : Cal Tryd.prog F_leveeref33_Less #[.string s0, .string s1] w0 K :=
 denF_sound (A := { S := [7, 21], ty := [(7, 3), (21, 4)], raw := [] }) mixed Tryd.func51 (by kernel_rfl) (by kernel_rfl) ((show denF Tryd.prog _ Tryd.f51 _ w0 K = D_leveeref33_Less s0 s1 w0 K by kernel_rfl).mpr h)

/- levee.leveeref34.link: slots {};  -/
/- levee.leveeref33.Bytes: slots {12: '', 28: ''};  -/
/- internal.stringslite.CutPrefix: slots {};  -/
set_option maxRecDepth 100000 in
def D_stringslite_CutPrefix (s0 : ByteArray) (s1 : ByteArray) (w0 : World) (K : Value → World → Prop) : Prop :=
 Cal Tryd.prog F_stringslite_HasPrefix #[.string s0, .string s1] w0 fun r8 w1 => ∃ b8 : Bool, r8 = .bool b8 ∧ (bif !b8 then
 K (.tuple #[.string s0, .bool false]) w1
 else
 ∃ s14 : ByteArray, Al (Instr.sliceAt 9 (.string s0) (some (.int .i64 ((ByteArray.size s1 : Int)))) none none) (.string s14) ∧ K (.tuple #[.string s14, .bool true]) w1)
set_option maxRecDepth 100000 in
theorem C_stringslite_CutPrefix (s0 : ByteArray) (s1 : ByteArray) (w0 : World) (K : Value → World → Prop) (h : D_stringslite_CutPrefix s0 s1 w0 K) : Cal Tryd.prog F_stringslite_CutPrefix #[.string s0, .string s1] w0 K :=
 denF_sound (A := { S := [], ty := [], raw := [] }) mixed Tryd.func54 (by kernel_rfl) (by kernel_rfl) ((show denF Tryd.prog _ Tryd.f54 _ w0 K = D_stringslite_CutPrefix s0 s1 w0 K by kernel_rfl).mpr h)

/- levee.leveeref17.Split: slots {5: 'out', 6: 'part', 7: 'i', 15: '', 31: '', 44: '', 51: ''}; loop over [5, 6, 7, 31, 44, 51] -/
set_option maxRecDepth 100000 in
def D_leveeref17_Split (s0 : ByteArray) (w0 : World) (K : Value → World → Prop) : Prop :=
 Share (fun k => (bif decide ((ByteArray.size s0 : Int) < 1) then k [.bool true] w0 else k [.bool (decide ((ByteArray.size s0 : Int) > 255))] w0)) fun x w1 =>
 ∃ b15 : Bool, nth x 0 = .bool b15 ∧ (bif b15 then
 K (.tuple #[.slice none 0 0, .bool false, .int .i64 25]) w1
 else
 LoopC (fun k_2 x_2 w2 =>
 ∃ n7 : Int, nth x_2 2 = .int .i64 n7 ∧ (bif decide (n7 ≤ (ByteArray.size s0 : Int)) then
 Share (fun k_3 => Share (fun k_4 => (bif decide (n7 < (ByteArray.size s0 : Int)) then ∃ n29 : Int, Al (Instr.index 9 (.string s0) (.int .i64 n7)) (.int .u8 n29) ∧ k_4 [.bool (n29 != 47)] w2 else k_4 [.bool false] w2)) fun x_4 w3 =>
 ∃ b31 : Bool, nth x_4 0 = .bool b31 ∧ (bif b31 then
 ∃ s6 : ByteArray, nth x_2 1 = .string s6 ∧ ∃ s37 : ByteArray, Al (Instr.sliceAt 9 (.string s0) (some (.int .i64 n7)) (some (.int .i64 (IntKind.i64.wrap (n7 + 1)))) none) (.string s37) ∧ ∃ s38 : ByteArray, Al (eqS .add 9 (.tmp 32) (.tmp 37) (.string s6) (.string s37)) (.string s38) ∧ k_3 [nth x_2 0, .string s38, .bool b31, nth x_2 4, nth x_2 5] w3
 else
 Share (fun k_5 => ∃ s6_2 : ByteArray, nth x_2 1 = .string s6_2 ∧ (bif !((ByteArray.toList s6_2) == (ByteArray.toList ByteArray.empty)) then k_5 [.bool (!((ByteArray.toList s6_2) == (ByteArray.toList ⟨#[46]⟩)))] w3 else k_5 [.bool false] w3)) fun x_5 w4 =>
 ∃ b44 : Bool, nth x_5 0 = .bool b44 ∧ Share (fun k_6 => (bif b44 then
 Share (fun k_7 => ∃ s6_3 : ByteArray, nth x_2 1 = .string s6_3 ∧ (bif !((ByteArray.toList s6_3) == (ByteArray.toList (⟨#[46, 46]⟩))) then Cal Tryd.prog F_leveeref08_Name #[.string s6_3] w4 fun r49 w5 => ∃ b49 : Bool, r49 = .bool b49 ∧ k_7 [.bool (!b49)] w5 else k_7 [.bool false] w4)) fun x_7 w6 =>
 ∃ b51 : Bool, nth x_7 0 = .bool b51 ∧ (bif b51 then
 K (.tuple #[.slice none 0 0, .bool false, .int .i64 25]) w6
 else
 ∃ (a5 : Option Addr) (l5 c5 : Nat), nth x_2 0 = .slice a5 l5 c5 ∧ ∃ s6_4 : ByteArray, nth x_2 1 = .string s6_4 ∧ ∃ (a54 : Option Addr) (l54 c54 : Nat), ∃ w7 : World, Ru (Instr.buildSlice 52 1 #[(0, .string s6_4)]) w6 (.slice a54 l54 c54) w7 ∧ ∃ (a55 : Option Addr) (l55 c55 : Nat), ∃ w8 : World, Ru (Builtin.append_ #[52, 52] 52 #[.slice a5 l5 c5, .slice a54 l54 c54]) w7 (.slice a55 l55 c55) w8 ∧ k_6 [.slice a55 l55 c55, .bool b51] w8)
 else
 k_6 [nth x_2 0, nth x_2 5] w4)) fun x_6 w9 =>
 k_3 [nth x_6 0, .string ByteArray.empty, .bool b31, .bool b44, nth x_6 1] w9)) fun x_3 w10 =>
 k_2 [nth x_3 0, nth x_3 1, .int .i64 (IntKind.i64.wrap (n7 + 1)), nth x_3 2, nth x_3 3, nth x_3 4] w10
 else
 ∃ (a5_2 : Option Addr) (l5_2 c5_2 : Nat), nth x_2 0 = .slice a5_2 l5_2 c5_2 ∧ (bif decide ((l5_2 : Int) > 16) then
 K (.tuple #[.slice none 0 0, .bool false, .int .i64 25]) w2
 else
 ∃ n61 : Int, Al (Instr.index 9 (.string s0) (.int .i64 0)) (.int .u8 n61) ∧ K (.tuple #[.slice a5_2 l5_2 c5_2, .bool (n61 == 47), .int .i64 0]) (drew w2)))) [.slice none 0 0, .string ByteArray.empty, .int .i64 0, undef, undef, undef] w1)
set_option maxRecDepth 100000 in
theorem C_leveeref17_Split (s0 : ByteArray) (w0 : World) (K : Value → World → Prop) (h : D_leveeref17_Split s0 w0 K) : Cal Tryd.prog F_leveeref17_Split #[.string s0] w0 K :=
 denF_sound (A := { S := [5, 6, 7, 15, 31, 44, 51], ty := [(5, 52), (6, 9), (7, 3), (15, 4), (31, 4), (44, 4), (51, 4)], raw := [] }) mixed Tryd.func55 (by kernel_rfl) (by kernel_rfl) ((show denF Tryd.prog _ Tryd.f55 _ w0 K = D_leveeref17_Split s0 w0 K by kernel_rfl).mpr h)

/- internal.bytealg.LastIndexByteString: slots {5: 'i'}; loop over [5] -/
set_option maxRecDepth 100000 in
def D_bytealg_LastIndexByteString (s0 : ByteArray) (n1 : Int) (w0 : World) (K : Value → World → Prop) : Prop :=
 LoopC (fun k x w1 =>
 ∃ n5 : Int, nth x 0 = .int .i64 n5 ∧ (bif decide (n5 ≥ 0) then
 ∃ n15 : Int, Al (Instr.index 9 (.string s0) (.int .i64 n5)) (.int .u8 n15) ∧ (bif n15 == n1 then
 K (.int .i64 n5) w1
 else
 k [.int .i64 (IntKind.i64.wrap (n5 - 1))] w1)
 else
 K (.int .i64 ((-1))) w1)) [.int .i64 (IntKind.i64.wrap ((ByteArray.size s0 : Int) - 1))] w0
set_option maxRecDepth 100000 in
theorem C_bytealg_LastIndexByteString (s0 : ByteArray) (n1 : Int) (w0 : World) (K : Value → World → Prop) (h : D_bytealg_LastIndexByteString s0 n1 w0 K) : Cal Tryd.prog F_bytealg_LastIndexByteString #[.string s0, .int .u8 n1] w0 K :=
 denF_sound (A := { S := [5], ty := [(5, 3)], raw := [] }) mixed Tryd.func57 (by kernel_rfl) (by kernel_rfl) ((show denF Tryd.prog _ Tryd.f57 _ w0 K = D_bytealg_LastIndexByteString s0 n1 w0 K by kernel_rfl).mpr h)

/- levee.tree.Split: slots {5: 'l', 14: '', 18: '', 22: '', 29: ''}; loop over [5, 18, 22, 29] -/
set_option maxRecDepth 100000 in
def D_tree_Split (s0 : ByteArray) (w0 : World) (K : Value → World → Prop) : Prop :=
 Share (fun k => (bif (ByteArray.toList s0) == (ByteArray.toList ByteArray.empty) then k [.bool true] w0 else k [.bool (decide ((ByteArray.size s0 : Int) > 255))] w0)) fun x w1 =>
 ∃ b14 : Bool, nth x 0 = .bool b14 ∧ (bif b14 then
 K (.tuple #[.slice none 0 0, .bool false, .int .i64 25]) w1
 else
 Cal Tryd.prog F_strings_Split #[.string s0, .string ⟨#[47]⟩] w1 fun r16 w2 => ∃ (a16 : Option Addr) (l16 c16 : Nat), r16 = .slice a16 l16 c16 ∧ LoopC (fun k_2 x_2 w3 =>
 ∃ n18 : Int, nth x_2 1 = .int .i64 n18 ∧ (bif decide (n18 < (l16 : Int)) then
 Share (fun k_3 => ∃ q20 : Addr, Al (Instr.indexAt 52 (.slice a16 l16 c16) (.int .i64 n18)) (.pointer (some q20)) ∧ ∃ s21 : ByteArray, Ru (Instr.loadAt 9 (.pointer (some q20))) w3 (.string s21) w3 ∧ Share (fun k_4 => (bif (ByteArray.toList s21) == (ByteArray.toList ByteArray.empty) then k_4 [.bool true] w3 else k_4 [.bool ((ByteArray.toList s21) == (ByteArray.toList ⟨#[46]⟩))] w3)) fun x_4 w4 =>
 ∃ b22 : Bool, nth x_4 0 = .bool b22 ∧ (bif b22 then
 k_3 [nth x_2 0, .bool b22, nth x_2 3] w4
 else
 Share (fun k_5 => (bif !((ByteArray.toList s21) == (ByteArray.toList (⟨#[46, 46]⟩))) then Cal Tryd.prog F_dirent_Name #[.string s21] w4 fun r34 w5 => ∃ b34 : Bool, r34 = .bool b34 ∧ k_5 [.bool (!b34)] w5 else k_5 [.bool false] w4)) fun x_5 w6 =>
 ∃ b29 : Bool, nth x_5 0 = .bool b29 ∧ (bif b29 then
 K (.tuple #[.slice none 0 0, .bool false, .int .i64 25]) w6
 else
 ∃ (a5 : Option Addr) (l5 c5 : Nat), nth x_2 0 = .slice a5 l5 c5 ∧ ∃ (a39 : Option Addr) (l39 c39 : Nat), ∃ w7 : World, Ru (Instr.buildSlice 52 1 #[(0, .string s21)]) w6 (.slice a39 l39 c39) w7 ∧ ∃ (a40 : Option Addr) (l40 c40 : Nat), ∃ w8 : World, Ru (Builtin.append_ #[52, 52] 52 #[.slice a5 l5 c5, .slice a39 l39 c39]) w7 (.slice a40 l40 c40) w8 ∧ k_3 [.slice a40 l40 c40, .bool b22, .bool b29] w8))) fun x_3 w9 =>
 k_2 [nth x_3 0, .int .i64 (IntKind.i64.wrap (n18 + 1)), nth x_3 1, nth x_3 2] w9
 else
 ∃ (a5_2 : Option Addr) (l5_2 c5_2 : Nat), nth x_2 0 = .slice a5_2 l5_2 c5_2 ∧ (bif decide ((l5_2 : Int) > 16) then
 K (.tuple #[.slice none 0 0, .bool false, .int .i64 25]) w3
 else
 ∃ n47 : Int, Al (Instr.index 9 (.string s0) (.int .i64 0)) (.int .u8 n47) ∧ K (.tuple #[.slice a5_2 l5_2 c5_2, .bool (n47 == 47), .int .i64 0]) (drew w3)))) [.slice none 0 0, .int .i64 0, undef, undef] w2)
set_option maxRecDepth 100000 in
theorem C_tree_Split (s0 : ByteArray) (w0 : World) (K : Value → World → Prop) (h : D_tree_Split s0 w0 K) : Cal Tryd.prog F_tree_Split #[.string s0] w0 K :=
 denF_sound (A := { S := [5, 14, 18, 22, 29], ty := [(5, 52), (14, 4), (18, 3), (22, 4), (29, 4)], raw := [] }) mixed Tryd.func58 (by kernel_rfl) (by kernel_rfl) ((show denF Tryd.prog _ Tryd.f58 _ w0 K = D_tree_Split s0 w0 K by kernel_rfl).mpr h)

/- slices.Compare[[]string,string]: slots {11: ''}; loop over [11] -/
set_option maxRecDepth 100000 in
def D_slices_Compare_string (a0 : Option Addr) (l0 c0 : Nat) (a1 : Option Addr) (l1 c1 : Nat) (w0 : World) (K : Value → World → Prop) : Prop :=
 LoopC (fun k x w1 =>
 ∃ n11 : Int, nth x 0 = .int .i64 n11 ∧ (bif decide (n11 < (l0 : Int)) then
 ∃ q14 : Addr, Al (Instr.indexAt 52 (.slice a0 l0 c0) (.int .i64 n11)) (.pointer (some q14)) ∧ ∃ s15 : ByteArray, Ru (Instr.loadAt 9 (.pointer (some q14))) w1 (.string s15) w1 ∧ (bif decide (n11 ≥ (l1 : Int)) then
 K (.int .i64 1) w1
 else
 ∃ q22 : Addr, Al (Instr.indexAt 52 (.slice a1 l1 c1) (.int .i64 n11)) (.pointer (some q22)) ∧ ∃ s23 : ByteArray, Ru (Instr.loadAt 9 (.pointer (some q22))) w1 (.string s23) w1 ∧ Cal Tryd.prog F_cmp_Compare_string #[.string s15, .string s23] w1 fun r26 w2 => ∃ n26 : Int, r26 = .int .i64 n26 ∧ (bif n26 != 0 then
 K (.int .i64 n26) w2
 else
 k [.int .i64 (IntKind.i64.wrap (n11 + 1))] w2))
 else
 (bif decide ((l0 : Int) < (l1 : Int)) then
 K (.int .i64 ((-1))) w1
 else
 K (.int .i64 0) w1))) [.int .i64 0] w0
set_option maxRecDepth 100000 in
theorem C_slices_Compare_string (a0 : Option Addr) (l0 c0 : Nat) (a1 : Option Addr) (l1 c1 : Nat) (w0 : World) (K : Value → World → Prop) (h : D_slices_Compare_string a0 l0 c0 a1 l1 c1 w0 K) : Cal Tryd.prog F_slices_Compare_string #[.slice a0 l0 c0, .slice a1 l1 c1] w0 K :=
 denF_sound (A := { S := [11], ty := [(11, 3)], raw := [] }) mixed Tryd.func59 (by kernel_rfl) (by kernel_rfl) ((show denF Tryd.prog _ Tryd.f59 _ w0 K = D_slices_Compare_string a0 l0 c0 a1 l1 c1 w0 K by kernel_rfl).mpr h)

/- levee.leveeref33.names: slots {3: 'out', 4: 'i'}; loop over [3, 4] -/
set_option maxRecDepth 100000 in
def D_leveeref33_names (s0 : ByteArray) (w0 : World) (K : Value → World → Prop) : Prop :=
 LoopC (fun k x w1 =>
 ∃ n4 : Int, nth x 1 = .int .i64 n4 ∧ (bif decide (n4 < (ByteArray.size s0 : Int)) then
 ∃ n13 : Int, Al (Instr.index 9 (.string s0) (.int .i64 n4)) (.int .u8 n13) ∧ Share (fun k_2 => (bif n13 == 47 then
 ∃ (a3 : Option Addr) (l3 c3 : Nat), nth x 0 = .slice a3 l3 c3 ∧ ∃ (a16 : Option Addr) (l16 c16 : Nat), ∃ w2 : World, Ru (Instr.buildSlice 52 1 #[(0, .string ByteArray.empty)]) w1 (.slice a16 l16 c16) w2 ∧ ∃ (a17 : Option Addr) (l17 c17 : Nat), ∃ w3 : World, Ru (Builtin.append_ #[52, 52] 52 #[.slice a3 l3 c3, .slice a16 l16 c16]) w2 (.slice a17 l17 c17) w3 ∧ k_2 [.slice a17 l17 c17] w3
 else
 ∃ (a3_2 : Option Addr) (l3_2 c3_2 : Nat), nth x 0 = .slice a3_2 l3_2 c3_2 ∧ Share (fun k_3 => (bif decide ((l3_2 : Int) > 0) then
 ∃ q29 : Addr, Al (Instr.indexAt 52 (.slice a3_2 l3_2 c3_2) (.int .i64 (IntKind.i64.wrap ((l3_2 : Int) - 1)))) (.pointer (some q29)) ∧ ∃ s30 : ByteArray, Ru (Instr.loadAt 9 (.pointer (some q29))) (drew w1) (.string s30) (drew w1) ∧ ∃ s35 : ByteArray, Al (Instr.sliceAt 9 (.string s0) (some (.int .i64 n4)) (some (.int .i64 (IntKind.i64.wrap (n4 + 1)))) none) (.string s35) ∧ ∃ s36 : ByteArray, Al (eqS .add 9 (.tmp 30) (.tmp 35) (.string s30) (.string s35)) (.string s36) ∧ ∃ q37 : Addr, Al (Instr.indexAt 52 (.slice a3_2 l3_2 c3_2) (.int .i64 (IntKind.i64.wrap ((l3_2 : Int) - 1)))) (.pointer (some q37)) ∧ ∃ w4 : World, RuU (Instr.storeAt 9 (.pointer (some q37)) (.string s36)) (drew w1) w4 ∧ k_3 [] w4
 else
 k_3 [] w1)) fun x_3 w5 =>
 k_2 [.slice a3_2 l3_2 c3_2] w5)) fun x_2 w6 =>
 k [nth x_2 0, .int .i64 (IntKind.i64.wrap (n4 + 1))] w6
 else
 ∃ (a3_3 : Option Addr) (l3_3 c3_3 : Nat), nth x 0 = .slice a3_3 l3_3 c3_3 ∧ K (.slice a3_3 l3_3 c3_3) w1)) [.slice none 0 0, .int .i64 0] w0
set_option maxRecDepth 100000 in
theorem C_leveeref33_names (s0 : ByteArray) (w0 : World) (K : Value → World → Prop) (h : D_leveeref33_names s0 w0 K) : Cal Tryd.prog F_leveeref33_names #[.string s0] w0 K :=
 denF_sound (A := { S := [3, 4], ty := [(3, 52), (4, 3)], raw := [] }) mixed Tryd.func61 (by kernel_rfl) (by kernel_rfl) ((show denF Tryd.prog _ Tryd.f61 _ w0 K = D_leveeref33_names s0 w0 K by kernel_rfl).mpr h)

/- internal.stringslite.HasPrefix: slots {4: ''};  -/
set_option maxRecDepth 100000 in
def D_stringslite_HasPrefix (s0 : ByteArray) (s1 : ByteArray) (w0 : World) (K : Value → World → Prop) : Prop :=
 Share (fun k => (bif decide ((ByteArray.size s0 : Int) ≥ (ByteArray.size s1 : Int)) then ∃ s14 : ByteArray, Al (Instr.sliceAt 9 (.string s0) none (some (.int .i64 ((ByteArray.size s1 : Int)))) none) (.string s14) ∧ k [.bool ((ByteArray.toList s14) == (ByteArray.toList s1))] w0 else k [.bool false] w0)) fun x w1 =>
 ∃ b4 : Bool, nth x 0 = .bool b4 ∧ K (.bool b4) w1
set_option maxRecDepth 100000 in
theorem C_stringslite_HasPrefix (s0 : ByteArray) (s1 : ByteArray) (w0 : World) (K : Value → World → Prop) (h : D_stringslite_HasPrefix s0 s1 w0 K) : Cal Tryd.prog F_stringslite_HasPrefix #[.string s0, .string s1] w0 K :=
 denF_sound (A := { S := [4], ty := [(4, 4)], raw := [] }) mixed Tryd.func62 (by kernel_rfl) (by kernel_rfl) ((show denF Tryd.prog _ Tryd.f62 _ w0 K = D_stringslite_HasPrefix s0 s1 w0 K by kernel_rfl).mpr h)

/- cmp.Compare[string]: slots {};  -/
set_option maxRecDepth 100000 in
def D_cmp_Compare_string (s0 : ByteArray) (s1 : ByteArray) (w0 : World) (K : Value → World → Prop) : Prop :=
 Cal Tryd.prog F_cmp_isNaN_string #[.string s0] w0 fun r8 w1 => ∃ b8 : Bool, r8 = .bool b8 ∧ Cal Tryd.prog F_cmp_isNaN_string #[.string s1] w1 fun r10 w2 => ∃ b10 : Bool, r10 = .bool b10 ∧ (bif b8 then
 (bif b10 then
 K (.int .i64 0) w2
 else
 K (.int .i64 ((-1))) w2)
 else
 (bif b10 then
 K (.int .i64 1) w2
 else
 ∃ b16 : Bool, Al (eqS .lss 9 (.tmp 14) (.tmp 15) (.string s0) (.string s1)) (.bool b16) ∧ (bif b16 then
 K (.int .i64 ((-1))) w2
 else
 ∃ b19 : Bool, Al (eqS .gtr 9 (.tmp 17) (.tmp 18) (.string s0) (.string s1)) (.bool b19) ∧ (bif b19 then
 K (.int .i64 1) w2
 else
 K (.int .i64 0) w2))))
set_option maxRecDepth 100000 in
theorem C_cmp_Compare_string (s0 : ByteArray) (s1 : ByteArray) (w0 : World) (K : Value → World → Prop) (h : D_cmp_Compare_string s0 s1 w0 K) : Cal Tryd.prog F_cmp_Compare_string #[.string s0, .string s1] w0 K :=
 denF_sound (A := { S := [], ty := [], raw := [] }) mixed Tryd.func70 (by kernel_rfl) (by kernel_rfl) ((show denF Tryd.prog _ Tryd.f70 _ w0 K = D_cmp_Compare_string s0 s1 w0 K by kernel_rfl).mpr h)

/- cmp.isNaN[string]: slots {};  -/
set_option maxRecDepth 100000 in
def D_cmp_isNaN_string (s0 : ByteArray) (w0 : World) (K : Value → World → Prop) : Prop :=
 K (.bool (!((ByteArray.toList s0) == (ByteArray.toList s0)))) w0
set_option maxRecDepth 100000 in
theorem C_cmp_isNaN_string (s0 : ByteArray) (w0 : World) (K : Value → World → Prop) (h : D_cmp_isNaN_string s0 w0 K) : Cal Tryd.prog F_cmp_isNaN_string #[.string s0] w0 K :=
 denF_sound (A := { S := [], ty := [], raw := [] }) mixed Tryd.func76 (by kernel_rfl) (by kernel_rfl) ((show denF Tryd.prog _ Tryd.f76 _ w0 K = D_cmp_isNaN_string s0 w0 K by kernel_rfl).mpr h)

end Go.Proofs.YtiahkkekcmgkfaaDoor
end
section
/- The ways of layer 9: contracts of the small functions. -/
open Go Go.Den Go.Proofs
namespace Go.Proofs.YtiahkkekcmgkfaaDoor

/-- A way: its four numbers. -/
structure Wy where
  d : Int
  a : Int
  b : Int
  c : Int
  deriving DecidableEq
def Wy.l (x : Wy) : List Value := [.int .i64 x.d, .int .i64 x.a, .int .i64 x.b, .int .i64 x.c]
end Go.Proofs.YtiahkkekcmgkfaaDoor
end
section
/- Rows of cells in memory, slices over them, bytes; what the operations do there. -/
open Go Go.Den
namespace Go.Den
section
variable {P : Program} {w : World}

/-- The cells cs stand in block b from o on. -/
def At (w : World) (b o : Nat) (cs : List Value) : Prop :=
  ∃ l t fz, w.heap[b]? = some (.cells ⟨l⟩ t fz) ∧ o + cs.length ≤ l.length ∧ (l.drop o).take cs.length = cs
/-- And none of them is frozen. -/
def AtU (w : World) (b o : Nat) (cs : List Value) : Prop :=
  ∃ l t fz, w.heap[b]? = some (.cells ⟨l⟩ t fz) ∧ o + cs.length ≤ l.length ∧ (l.drop o).take cs.length = cs ∧ ∀ j, o ≤ j → j < o + cs.length → ¬ (fz.1 ≤ j ∧ j < fz.2)

theorem AtU.at {b o : Nat} {cs : List Value} (h : AtU w b o cs) : At w b o cs := by obtain ⟨l, t, fz, h1, h2, h3, _⟩ := h; exact ⟨l, t, fz, h1, h2, h3⟩
theorem At.lt {b o : Nat} {cs : List Value} (h : At w b o cs) : b < w.heap.size := by obtain ⟨l, t, fz, h1, _⟩ := h; exact lt_of_heap h1
theorem AtU.lt {b o : Nat} {cs : List Value} (h : AtU w b o cs) : b < w.heap.size := h.at.lt
theorem At.of_eq {b o : Nat} {cs : List Value} {w' : World} (h : At w b o cs) (e : w'.heap[b]? = w.heap[b]?) : At w' b o cs := by
  obtain ⟨l, t, fz, h1, h2⟩ := h; exact ⟨l, t, fz, e.trans h1, h2⟩
theorem AtU.of_eq {b o : Nat} {cs : List Value} {w' : World} (h : AtU w b o cs) (e : w'.heap[b]? = w.heap[b]?) : AtU w' b o cs := by
  obtain ⟨l, t, fz, h1, h2⟩ := h; exact ⟨l, t, fz, e.trans h1, h2⟩
theorem At.keep {b o : Nat} {cs : List Value} {w' : World} {S : Nat → Prop} (h : At w b o cs) (m : Mod S w w') (hb : ¬ S b) : At w' b o cs := h.of_eq (m.block b h.lt hb)
theorem AtU.keep {b o : Nat} {cs : List Value} {w' : World} {S : Nat → Prop} (h : AtU w b o cs) (m : Mod S w w') (hb : ¬ S b) : AtU w' b o cs := h.of_eq (m.block b h.lt hb)
theorem At.drew {b o : Nat} {cs : List Value} (h : At w b o cs) : At (drew w) b o cs := h
theorem AtU.drew {b o : Nat} {cs : List Value} (h : AtU w b o cs) : AtU (drew w) b o cs := h

theorem take_drop_get {l cs : List Value} {o : Nat} (h3 : (l.drop o).take cs.length = cs) (i : Nat) (hi : i < cs.length) : l[o + i]? = some cs[i] := by
  have : cs[i]? = some cs[i] := by simp [hi]
  rw [← this]
  conv => rhs; rw [← h3]
  rw [List.getElem?_take, if_pos hi, List.getElem?_drop]

theorem sub_take {l cs : List Value} {o i m : Nat} (h3 : (l.drop o).take cs.length = cs) (him : i + m ≤ cs.length) : (l.drop (o + i)).take m = (cs.drop i).take m := by
  conv => rhs; rw [← h3]
  rw [← List.drop_drop, List.drop_take, List.take_take]
  congr 1; omega

theorem At.sub {b o : Nat} {cs : List Value} (h : At w b o cs) {i m : Nat} (him : i + m ≤ cs.length) : At w b (o + i) ((cs.drop i).take m) := by
  obtain ⟨l, t, fz, h1, h2, h3⟩ := h
  have hl : ((cs.drop i).take m).length = m := by simp; omega
  refine ⟨l, t, fz, h1, by omega, ?_⟩
  rw [hl]; exact sub_take h3 him
theorem AtU.sub {b o : Nat} {cs : List Value} (h : AtU w b o cs) {i m : Nat} (him : i + m ≤ cs.length) : AtU w b (o + i) ((cs.drop i).take m) := by
  obtain ⟨l, t, fz, h1, h2, h3, h4⟩ := h
  have hl : ((cs.drop i).take m).length = m := by simp; omega
  refine ⟨l, t, fz, h1, by omega, ?_, fun j hj1 hj2 => h4 j (by omega) (by omega)⟩
  rw [hl]; exact sub_take h3 him

theorem At.load {T : TypeId} {b o i : Nat} {cs : List Value} {v : Value} (hT : scal P T = true) (h : At w b o cs) (hv : cs[i]? = some v) : (Instr.loadAt T (.pointer (some ⟨b, o + i, none⟩))).run P w = .ok v w := by
  obtain ⟨l, t, fz, h1, h2, h3⟩ := h
  have hi : i < cs.length := (List.getElem?_eq_some_iff.1 hv).1
  refine load_cell hT h1 ?_
  rw [take_drop_get h3 i hi]
  rw [← hv]; simp [hi]
theorem At.loadAgg {T : TypeId} {b o i n : Nat} {cs : List Value} (hT : aggN P T = some n) (h : At w b o cs) (hi : i + n ≤ cs.length) : (Instr.loadAt T (.pointer (some ⟨b, o + i, none⟩))).run P w = .ok (.agg ⟨(cs.drop i).take n⟩) w := by
  obtain ⟨l, t, fz, h1, h2, h3⟩ := h
  rw [load_agg hT h1 (by omega), sub_take h3 hi]

theorem splice_at {l cs vs : List Value} {o i : Nat} (h2 : o + cs.length ≤ l.length) (h3 : (l.drop o).take cs.length = cs) (hi : i + vs.length ≤ cs.length) :
    ((splice l (o + i) vs).drop o).take (splice cs i vs).length = splice cs i vs := by
  rw [length_splice hi]
  have e : splice l (o + i) vs = l.take o ++ (splice cs i vs ++ l.drop (o + cs.length)) := by
    have hl : l = l.take o ++ (cs ++ l.drop (o + cs.length)) := by
      conv => lhs; rw [← List.take_append_drop o l, ← List.take_append_drop cs.length (l.drop o), h3, List.drop_drop]
    have hlen : (l.take o).length = o := by simp; omega
    unfold splice
    have e1 : l.take (o + i) = l.take o ++ cs.take i := by
      conv => lhs; rw [hl]
      rw [List.take_append, hlen, List.take_of_length_le (by omega), show o + i - o = i by omega, List.take_append, show i - cs.length = 0 by omega]; simp
    have e2 : l.drop (o + i + vs.length) = cs.drop (i + vs.length) ++ l.drop (o + cs.length) := by
      conv => lhs; rw [hl]
      rw [List.drop_append, hlen, List.drop_eq_nil_of_le (by omega), List.nil_append, show o + i + vs.length - o = i + vs.length by omega, List.drop_append, show i + vs.length - cs.length = 0 by omega]; simp
    rw [e1, e2]; simp
  have hlen : (l.take o).length = o := by simp; omega
  rw [e, List.drop_append, hlen, List.drop_eq_nil_of_le (by omega), List.nil_append, Nat.sub_self, List.drop_zero, List.take_append_of_le_length (by rw [length_splice hi]; omega), List.take_of_length_le (by rw [length_splice hi]; omega)]

theorem AtU.store {T : TypeId} {b o i : Nat} {cs : List Value} {v : Value} (hT : scal P T = true) (h : AtU w b o cs) (hi : i < cs.length) (hv : v.oneCell' = true) :
    ∃ w', (Instr.storeAt T (.pointer (some ⟨b, o + i, none⟩)) v).run P w = .ok () w' ∧ AtU w' b o (cs.set i v) ∧ Mod (fun x => x = b) w w' ∧ w'.heap.size = w.heap.size := by
  obtain ⟨l, t, fz, h1, h2, h3, h4⟩ := h
  refine ⟨_, store_cell hT h1 (by omega) (h4 _ (by omega) (by omega)) hv, ⟨l.set (o + i) v, t, fz, heap_put_same (lt_of_heap h1), by simp; omega, ?_, fun j a1 a2 => h4 j a1 (by simpa using a2)⟩, (Mod.refl (fun x => x = b) w).put (.inr rfl) _, by simp⟩
  have e1 : l.set (o + i) v = splice l (o + i) [v] := by
    unfold splice; rw [List.set_eq_take_append_cons_drop, if_pos (by omega)]; simp
  have e2 : cs.set i v = splice cs i [v] := by
    unfold splice; rw [List.set_eq_take_append_cons_drop, if_pos hi]; simp
  rw [e1, e2]; exact splice_at h2 h3 (by simp; omega)

theorem AtU.storeAgg {T : TypeId} {b o i n : Nat} {cs vs : List Value} (hT : aggN P T = some n) (h : AtU w b o cs) (hn : vs.length = n) (hi : i + n ≤ cs.length) (hv : ∀ v ∈ vs, v.oneCell' = true) :
    ∃ w', (Instr.storeAt T (.pointer (some ⟨b, o + i, none⟩)) (.agg ⟨vs⟩)).run P w = .ok () w' ∧ AtU w' b o (splice cs i vs) ∧ Mod (fun x => x = b) w w' ∧ w'.heap.size = w.heap.size := by
  obtain ⟨l, t, fz, h1, h2, h3, h4⟩ := h
  subst hn
  refine ⟨_, store_agg hT h1 rfl (by omega) (fun j a1 a2 => h4 j (by omega) (by omega)) hv, ⟨splice l (o + i) vs, t, fz, heap_put_same (lt_of_heap h1), ?_, splice_at h2 h3 hi, fun j a1 a2 => h4 j a1 (by rwa [length_splice hi] at a2)⟩, (Mod.refl (fun x => x = b) w).put (.inr rfl) _, by simp⟩
  rw [length_splice hi, length_splice (by omega)]; exact h2

theorem AtU.new {cs : List Value} {t : TypeId} : AtU (w.alloc (.cells ⟨cs⟩ t)) w.heap.size 0 cs :=
  ⟨cs, t, (0, 0), heap_new w _, by simp, by simp, fun j _ _ => by simp⟩

/-- What an element's type lays: its size, its cells, its bytes. -/
def elemC (P : Program) (T : TypeId) : Option (Nat × Array Value × Nat) :=
  match P.underlying T with
  | some (.slice e) => match P.info? e with
    | some i => match i.zero with
      | some z => some (i.size, z.cells, i.bytes)
      | none => none
    | none => none
  | _ => none
def elemZ (P : Program) (T : TypeId) (k : Nat) (z : Value) (bytes : Nat) : Prop := elemC P T = some (k, ⟨List.replicate k z⟩, bytes)
theorem elemZ.is {T : TypeId} {k bytes : Nat} {z : Value} (h : elemZ P T k z bytes) : ∃ e i zv, P.underlying T = some (.slice e) ∧ P.info? e = some i ∧ i.size = k ∧ i.zero = some zv ∧ zv.cells = ⟨List.replicate k z⟩ ∧ i.bytes = bytes := by
  unfold elemZ elemC at h
  split at h
  · rename_i e he
    split at h
    · rename_i i hi
      split at h
      · rename_i zv hz
        have h := Option.some.inj h
        simp only [Prod.mk.injEq] at h
        exact ⟨e, i, zv, he, hi, h.1, hz, h.2.1, h.2.2⟩
      · cases h
    · cases h
  · cases h
end
end Go.Den
namespace Go.Den
section
variable {P : Program} {w : World}
theorem At.cells {b o n : Nat} {cs : List Value} (h : At w b o cs) (hn : n ≤ cs.length) : (loadCells ⟨b, o, none⟩ n).run P w = .ok ⟨cs.take n⟩ w := by
  obtain ⟨l, t, fz, h1, h2, h3⟩ := h
  have hl : (cs.take n).length = n := by simp; omega
  have := run_loadCells_list (P := P) w ⟨b, o, none⟩ (cs.take n) (fun j v hj => by
    have hjn : j < n := by have := (List.getElem?_eq_some_iff.1 hj).1; omega
    rw [add_none, cell_of h1, take_drop_get h3 j (by omega)]
    rw [List.getElem?_take, if_pos hjn] at hj
    rw [← hj]; simp)
  rwa [hl] at this
end
end Go.Den
end
section
/- Layer 1, numbers as bytes: num.Get, num.Put. -/
open Go Go.Den Go.Proofs
namespace Go.Den

def u8 (x : UInt8) : Value := .int .u8 (x.toNat : Int)
def u8L (xs : List UInt8) : List Value := xs.map u8
@[simp] theorem length_u8L (xs : List UInt8) : (u8L xs).length = xs.length := by simp [u8L]
theorem u8L_get {xs : List UInt8} {i : Nat} (hi : i < xs.length) : (u8L xs)[i]? = some (.int .u8 (xs[i].toNat : Int)) := by simp [u8L, hi, u8]
/-- A row of bytes that a slice shows. -/
def Row (w : World) (a : Option Addr) (cs : List Value) : Prop := cs = [] ∨ ∃ b o, a = some ⟨b, o, none⟩ ∧ At w b o cs
def RowU (w : World) (a : Option Addr) (cs : List Value) : Prop := cs = [] ∨ ∃ b o, a = some ⟨b, o, none⟩ ∧ AtU w b o cs
end Go.Den

namespace Go.Proofs.YtiahkkekcmgkfaaDoor
/-- A number's lowest bytes. -/
def toLe : Nat → Nat → List UInt8
  | 0, _ => []
  | k + 1, n => UInt8.ofNat (n % 256) :: toLe k (n / 256)
@[simp] theorem length_toLe : ∀ k n, (toLe k n).length = k
  | 0, _ => rfl
  | k + 1, n => by simp [toLe, length_toLe k]
end Go.Proofs.YtiahkkekcmgkfaaDoor
end
section
/- The ways of layer 9: blocks of names, spans, and back. -/
open Go Go.Den Go.Proofs
namespace Go.Den
def I (n : Int) : Value := .int .i64 n
def iL (ns : List Int) : List Value := ns.map I
@[simp] theorem length_iL (ns : List Int) : (iL ns).length = ns.length := by simp [iL]
theorem one_u8L (xs : List UInt8) : ∀ v ∈ u8L xs, v.oneCell' = true := by
  intro v hv; simp [u8L] at hv; obtain ⟨x, _, rfl⟩ := hv; rfl
theorem u8L_sub (xs : List UInt8) (i m : Nat) : ((u8L xs).drop i).take m = u8L ((xs.drop i).take m) := by simp [u8L, List.map_drop, List.map_take]
theorem Row.sub {w : World} {a : Option Addr} {c i m : Nat} {xs : List UInt8} (h : Row w a (u8L xs)) (him : i + m ≤ xs.length) (hc : xs.length ≤ c) (hm : 0 < m) : Row w (cutA a c i 1) (u8L ((xs.drop i).take m)) := by
  rcases h with h | ⟨b, o, rfl, hat⟩
  · have := congrArg List.length h; simp at this; rw [this] at him; simp at him; omega
  · refine .inr ⟨b, o + i, ?_, ?_⟩
    · unfold cutA; rw [if_neg (by omega)]; simp [add_none]
    · rw [← u8L_sub]; exact hat.sub (by simpa using him)
end Go.Den

namespace Go.Proofs.YtiahkkekcmgkfaaDoor
theorem elemZ_bytes : elemZ Tryd.prog 62 1 (.int .u8 0) 1 := by unfold elemZ; kernel_rfl

end Go.Proofs.YtiahkkekcmgkfaaDoor
end
section
/- Slices that grow: append, and bytes as strings. -/
open Go Go.Den
namespace Go.Den
section
variable {P : Program} {w : World}

theorem Mod.grown {b : World} {row : Option Nat} (h : w.grownBy b row) : Mod (fun x => row = some x) w b :=
  ⟨h.tape, h.os, h.output, h.size, fun k hk hn => h.block k hk (fun e => hn e.symm)⟩

/-- A row of one's own: in a block from base on. -/
def Own (P : Program) (w : World) (base : Nat) (T : TypeId) (k : Nat) (a : Option Addr) (l c : Nat) (xs : List Value) : Prop :=
  ∃ e, P.underlying T = some (.slice e) ∧ w.ownsRow base e k (.slice a l c) l xs

theorem Own.len {base k l c : Nat} {T : TypeId} {a : Option Addr} {xs : List Value} (h : Own P w base T k a l c xs) : xs.length = l * k := by obtain ⟨e, _, h⟩ := h; exact h.1
theorem Own.nil {base k bytes : Nat} {T : TypeId} {z : Value} (hT : elemZ P T k z bytes) : Own P w base T k none 0 0 [] := by
  obtain ⟨e, i, zv, he, _⟩ := hT.is
  exact ⟨e, he, World.ownsRow_nil w base e k⟩
theorem Own.base {base k l c : Nat} {T : TypeId} {a : Option Addr} {xs : List Value} (h : Own P w base T k a l c xs) {q : Addr} (hq : a = some q) : base ≤ q.block ∧ q.block < w.heap.size := by
  obtain ⟨e, _, h⟩ := h
  exact h.lt q.block (by rw [hq]; rfl)
theorem Own.zero {base k l c : Nat} {T : TypeId} {xs : List Value} (h : Own P w base T k none l c xs) : l = 0 ∧ c = 0 := by
  obtain ⟨e, _, h⟩ := h
  rcases h.2 with ⟨h1, h2⟩ | ⟨g, cap, cur, h1, _⟩
  · simp at h1; exact ⟨h2, h1.2⟩
  · simp at h1
theorem Own.cap {base k l c : Nat} {T : TypeId} {a : Option Addr} {xs : List Value} (h : Own P w base T k a l c xs) : l ≤ c ∧ c ≤ maxLen := by
  obtain ⟨e, _, h⟩ := h
  rcases h.2 with ⟨h1, h2⟩ | ⟨g, cap, cur, h1, _, _, h3, h4, _⟩
  · simp at h1; omega
  · simp at h1; obtain ⟨_, rfl⟩ := h1; exact ⟨h3, h4⟩
theorem Own.keep {base k l c : Nat} {T : TypeId} {a : Option Addr} {xs : List Value} {S : Nat → Prop} {w' : World} (h : Own P w base T k a l c xs) (m : Mod S w w') (hs : ∀ q, a = some q → ¬ S q.block) : Own P w' base T k a l c xs := by
  obtain ⟨e, he, h1, h2⟩ := h
  refine ⟨e, he, h1, ?_⟩
  rcases h2 with hn | ⟨g, cap, cur, hv, hb, hg, rest⟩
  · exact .inl hn
  · refine .inr ⟨g, cap, cur, hv, hb, ?_, rest⟩
    simp at hv
    exact m.keep hg (hs _ hv.1)
theorem Own.mono {base base' k l c : Nat} {T : TypeId} {a : Option Addr} {xs : List Value} (h : Own P w base T k a l c xs) (hb : base' ≤ base) : Own P w base' T k a l c xs := by
  obtain ⟨e, he, h1, h2⟩ := h
  refine ⟨e, he, h1, ?_⟩
  rcases h2 with hn | ⟨g, cap, cur, hv, hb', rest⟩
  · exact .inl hn
  · exact .inr ⟨g, cap, cur, hv, by omega, rest⟩
/-- The cells up to the capacity. -/
theorem Own.rowU {base k l c : Nat} {T : TypeId} {a : Option Addr} {xs : List Value} (h : Own P w base T k a l c xs) : RowU w a xs := by
  obtain ⟨e, he, h1, h2⟩ := h
  rcases h2 with ⟨hn, hz⟩ | ⟨g, cap, cur, hv, hb, hg, hle, _, hsz, ht⟩
  · left; exact List.eq_nil_of_length_eq_zero (by rw [h1, hz]; omega)
  · right
    simp at hv
    have hm : l * k ≤ cap * k := Nat.mul_le_mul_right _ hle
    refine ⟨g, 0, hv.1, cur.toList, e, (0, 0), hg, ?_, ?_, fun j _ _ => by simp⟩
    · rw [h1]; simp [hsz]; exact hm
    · rw [h1]; simpa using ht
theorem RowU.row {a : Option Addr} {xs : List Value} (h : RowU w a xs) : Row w a xs := by
  rcases h with h | ⟨b, o, e, h⟩
  · exact .inl h
  · exact .inr ⟨b, o, e, h.at⟩
theorem Row.keep {a : Option Addr} {xs : List Value} {S : Nat → Prop} {w' : World} (h : Row w a xs) (m : Mod S w w') (hs : ∀ q, a = some q → ¬ S q.block) : Row w' a xs := by
  rcases h with h | ⟨b, o, e, h⟩
  · exact .inl h
  · exact .inr ⟨b, o, e, h.keep m (hs _ e)⟩
theorem RowU.keep {a : Option Addr} {xs : List Value} {S : Nat → Prop} {w' : World} (h : RowU w a xs) (m : Mod S w w') (hs : ∀ q, a = some q → ¬ S q.block) : RowU w' a xs := by
  rcases h with h | ⟨b, o, e, h⟩
  · exact .inl h
  · exact .inr ⟨b, o, e, h.keep m (hs _ e)⟩
theorem Row.nos {a : Option Addr} {xs : List Value} {w' : World} (h : Row w a xs) (m : Mod No w w') : Row w' a xs := h.keep m fun _ _ => id
theorem Own.nos {base k l c : Nat} {T : TypeId} {a : Option Addr} {xs : List Value} {w' : World} (h : Own P w base T k a l c xs) (m : Mod No w w') : Own P w' base T k a l c xs := h.keep m fun _ _ => id

theorem At.cell {b o j : Nat} {xs : List Value} {v : Value} (h : At w b o xs) (hj : xs[j]? = some v) : w.cell? (Addr.add ⟨b, o, none⟩ j) = some v := by
  obtain ⟨l, t, fz, h1, h2, h3⟩ := h
  have hjn : j < xs.length := (List.getElem?_eq_some_iff.1 hj).1
  rw [add_none, cell_of h1, take_drop_get h3 j hjn, ← hj]; simp [hjn]

/-- append, of a row to a row of one's own. -/
theorem Own.append {base k bytes l c m c2 : Nat} {T ty : TypeId} {z : Value} {a a2 : Option Addr} {xs ys : List Value} (hT : elemZ P T k z bytes) (hk : 0 < k) (h : Own P w base T k a l c xs)
    (hr : Row w a2 ys) (hl : ys.length = m * k) (h0 : a2 = none → m = 0 ∧ c2 = 0) (h1 : ∀ v ∈ ys, v.oneCell' = true) (h63 : (l + m) * bytes ≤ 140737488355328) (hb : 0 < bytes) (hbase : base ≤ w.heap.size) :
    ∃ a' c' w', (Builtin.append_ #[T, T] ty #[.slice a l c, .slice a2 m c2]).run P w = .ok (.slice a' (l + m) c') w' ∧ Own P w' base T k a' (l + m) c' (xs ++ ys) ∧ Mod (fun x => base ≤ x) w w' := by
  obtain ⟨e, i, zv, he, hi, hsz, hz, hzc, hby⟩ := hT.is
  obtain ⟨e', he', how⟩ := h
  have : e' = e := by rw [he] at he'; simpa using he'.symm
  subst this
  have h63' : l + m ≤ maxLen := by
    have : l + m ≤ (l + m) * bytes := Nat.le_mul_of_pos_right _ hb
    simp [maxLen]; omega
  cases a2 with
  | none =>
    obtain ⟨rfl, rfl⟩ := h0 rfl
    have hy : ys = [] := List.eq_nil_of_length_eq_zero (by omega)
    subst hy
    refine ⟨a, c, w, ?_, ⟨e', he, by simpa using how⟩, Mod.refl _ _⟩
    exact run_append_owned_none w base T ty e' i k he hi _ l xs how
  | some ad =>
    have hcell : ∀ j u, ys[j]? = some u → w.cell? (ad.add j) = some u := by
      intro j u hj
      rcases hr with hr | ⟨b, o, e, hat⟩
      · subst hr; simp at hj
      · simp at e; subst e; exact hat.cell hj
    obtain ⟨v', w', hrun, how', hgr, _⟩ := run_append_own w base T ty e' i zv k bytes he hi hz hsz hby (by rw [hzc]; simp) hk (.slice a l c) l xs how ad m c2 ys hl hcell h1 h63' h63 hbase
    have hv : ∃ a' c', v' = .slice a' (l + m) c' := by
      rcases how'.2 with ⟨hn, hz⟩ | ⟨g, cap, cur, hv, _⟩
      · exact ⟨none, 0, by rw [hn, hz]⟩
      · exact ⟨_, cap, hv⟩
    obtain ⟨a', c', rfl⟩ := hv
    refine ⟨a', c', w', hrun, ⟨e', he, how'⟩, (Mod.grown hgr).mono fun x hx e => ?_⟩
    exact (how.lt x e).1

end
end Go.Den
end
section
/- Layer 1 of the document's answers: bytes of numbers, bytes over bytes, lent rows and whether they are kept. -/
open Go Go.Den Go.Proofs
namespace Go.Den
def nI (x : List Value) (i : Nat) : Int := match nth x i with | .int _ n => n | _ => 0
section
variable {P : Program} {w : World}
theorem Own.sm {base k l c : Nat} {T : TypeId} {a : Option Addr} {xs : List Value} (h : Own P w base T k a l c xs) (hl : 0 < l) : ∃ g, a = some ⟨g, 0, none⟩ ∧ base ≤ g ∧ AtU w g 0 xs := by
  obtain ⟨e, he, h1, h2⟩ := h
  rcases h2 with ⟨hn, hz⟩ | ⟨g, cap, cur, hv, hb, hg, hle, _, hsz, ht⟩
  · omega
  · simp at hv
    have hm : l * k ≤ cap * k := Nat.mul_le_mul_right _ hle
    refine ⟨g, hv.1, hb, cur.toList, e, (0, 0), hg, ?_, ?_, fun j _ _ => by simp⟩
    · rw [h1]; simp [hsz]; exact hm
    · rw [h1]; simpa using ht
/-- append of one new value. -/
theorem Own.snoc {base k bytes l c : Nat} {T ty : TypeId} {t : TypeId} {z : Value} {a : Option Addr} {xs ys : List Value} (hT : elemZ P T k z bytes) (hk : 0 < k) (h : Own P w base T k a l c xs)
    (hl : ys.length = k) (h1 : ∀ v ∈ ys, v.oneCell' = true) (h63 : (l + 1) * bytes ≤ 140737488355328) (hb : 0 < bytes) (hbase : base ≤ w.heap.size) :
    ∃ a' c' w', (Builtin.append_ #[T, T] ty #[.slice a l c, .slice (some ⟨w.heap.size, 0, none⟩) 1 1]).run P (w.alloc (.cells ⟨ys⟩ t)) = .ok (.slice a' (l + 1) c') w' ∧ Own P w' base T k a' (l + 1) c' (xs ++ ys) ∧ Mod (fun x => base ≤ x) w w' := by
  have hm : Mod No w (w.alloc (.cells ⟨ys⟩ t)) := (Mod.refl No w).alloc _
  obtain ⟨a', c', w', h2, h3, h4⟩ := (h.nos hm).append (ty := ty) hT hk (a2 := some ⟨w.heap.size, 0, none⟩) (m := 1) (c2 := 1) (ys := ys) (.inr ⟨_, _, rfl, AtU.new.at⟩) (by omega) (fun e => by cases e) h1 h63 hb (Nat.le_trans hbase hm.size)
  exact ⟨a', c', w', h2, h3, (hm.mono fun _ _ h => h.elim).trans h4 fun _ _ h => h⟩
theorem Mod.up {base : Nat} {a b c : World} (h : Mod No a b) (m : Mod (fun x => base ≤ x) b c) (hb : a.heap.size ≤ base) : Mod No a c := h.trans m fun x hx e => by omega
end
end Go.Den
namespace Go.Proofs.YtiahkkekcmgkfaaDoor

def a5 : List UInt8 := [165, 165, 165, 165, 165, 165, 165, 165]
/-- A row lent: its bytes, with eight bytes of room behind. -/
def LentAt (w : World) (b l c : Nat) (xs : List UInt8) : Prop := l = xs.length ∧ l + 8 ≤ c ∧ AtU w b 0 (u8L (xs ++ a5))
theorem LentAt.row {w : World} {b l c : Nat} {xs : List UInt8} (h : LentAt w b l c xs) : Row w (some ⟨b, 0, none⟩) (u8L xs) := by
  obtain ⟨h1, h2, h3⟩ := h
  refine .inr ⟨b, 0, rfl, ?_⟩
  have := h3.at.sub (i := 0) (m := xs.length) (by simp)
  simpa [u8L] using this
theorem LentAt.keep {w w' : World} {b l c : Nat} {xs : List UInt8} {S : Nat → Prop} (h : LentAt w b l c xs) (m : Mod S w w') (hb : ¬ S b) : LentAt w' b l c xs := ⟨h.1, h.2.1, h.2.2.keep m hb⟩

end Go.Proofs.YtiahkkekcmgkfaaDoor
end
section
/- Arguments that came in: rows of bytes, as a proof over the denotation takes them; the last step of a statement of the second form. -/
open Go Go.Den
namespace Go.Den
open Go.ChangeShapes Go.WideShapes Go.RowKit
section
variable {H : Type} {enc : TypeId × Value → H} {P : Program} {w : World} {base : Nat} {spare : Nat → Bool} {held : Bool}
theorem At.of_cells {b o : Nat} {cs : List Value} (h0 : 0 < cs.length) (h : ∀ j (hj : j < cs.length), w.cell? ⟨b, o + j, none⟩ = some cs[j]) : At w b o cs := by
  have hb : ∃ l t fz, w.heap[b]? = some (.cells ⟨l⟩ t fz) := by
    have := h 0 h0
    unfold World.cell? at this
    split at this
    · rename_i c t fz hc; exact ⟨c.toList, t, fz, hc⟩
    · cases this
  obtain ⟨l, t, fz, hb⟩ := hb
  have hget : ∀ j (hj : j < cs.length), l[o + j]? = some cs[j] := fun j hj => by rw [← cell_of hb]; exact h j hj
  have hlen : o + cs.length ≤ l.length := by
    have := (List.getElem?_eq_some_iff.1 (hget (cs.length - 1) (by omega))).1
    omega
  refine ⟨l, t, fz, hb, hlen, ?_⟩
  apply List.ext_getElem?
  intro i
  by_cases hi : i < cs.length
  · rw [List.getElem?_take, if_pos hi, List.getElem?_drop, hget i hi]; simp [hi]
  · rw [List.getElem?_eq_none (by simp; omega), List.getElem?_eq_none (by omega)]

end
end Go.Den
end
section
/- A loop whose measure is known to the proof alone. -/
open Go Go.Den
namespace Go.Den
theorem least_ex {p : Nat → Prop} (h : ∃ m, p m) : ∃ m, p m ∧ ∀ k, p k → m ≤ k := by
  obtain ⟨m, hm⟩ := h
  induction m using Nat.strongRecOn with
  | _ m ih =>
    by_cases e : ∃ k, k < m ∧ p k
    · obtain ⟨k, hk, hp⟩ := e
      exact ih k hk hp
    · exact ⟨m, hm, fun k hk => Nat.le_of_not_lt fun hl => e ⟨k, hl, hk⟩⟩
/-- A loop whose measure is known to the proof alone. -/
theorem LoopC.by {B : (List Value → World → Prop) → List Value → World → Prop} (J : Nat → List Value → World → Prop) {m : Nat} {x : List Value} {w : World} (h : J m x w)
    (hs : ∀ m x w, J m x w → B (fun x' w' => ∃ m', m' < m ∧ J m' x' w') x w) : LoopC B x w := by
  classical
  let μ : List Value → World → Nat := fun x w => if h : ∃ m, J m x w then Classical.choose (least_ex h) else 0
  have hμ : ∀ x w, (∃ m, J m x w) → J (μ x w) x w ∧ ∀ k, J k x w → μ x w ≤ k := fun x w h => by
    show J (if h : ∃ m, J m x w then Classical.choose (least_ex h) else 0) x w ∧ ∀ k, J k x w → (if h : ∃ m, J m x w then Classical.choose (least_ex h) else 0) ≤ k
    rw [dif_pos h]
    exact Classical.choose_spec (least_ex h)
  refine ⟨fun x w => ∃ m, J m x w, μ, ⟨m, h⟩, fun x w hI => ?_⟩
  have e : (fun x' w' => (∃ m, J m x' w') ∧ μ x' w' < μ x w) = fun x' w' => ∃ m', m' < μ x w ∧ J m' x' w' := by
    funext x' w'
    apply propext
    constructor
    · rintro ⟨h1, h2⟩
      exact ⟨_, h2, (hμ x' w' h1).1⟩
    · rintro ⟨m', hm, hJ⟩
      exact ⟨⟨m', hJ⟩, Nat.lt_of_le_of_lt ((hμ x' w' ⟨m', hJ⟩).2 m' hJ) hm⟩
  show B (fun x' w' => (∃ m, J m x' w') ∧ μ x' w' < μ x w) x w
  rw [e]
  exact hs _ x w (hμ x w hI).1
end Go.Den
end
section
/- Patterns, in plain terms: what a text must be to be as a pattern says; one step of the way with a star to go back to; one row of the table. -/
namespace Go.Den
abbrev Bs := List UInt8
def okG (c : UInt8) (seg : Bs) : Prop := if c = 42 then True else ∃ x, seg = [x] ∧ (c = 63 ∨ c = x)
inductive Mt : Bs → Bs → Prop
  | nil : Mt [] []
  | cons {c : UInt8} {seg p s : Bs} : okG c seg → Mt p s → Mt (c :: p) (seg ++ s)
theorem Mt.nil_iff {s : Bs} : Mt [] s ↔ s = [] := by
  constructor
  · intro h; cases h; rfl
  · rintro rfl; exact .nil
theorem Mt.cons_iff {c : UInt8} {p s : Bs} : Mt (c :: p) s ↔ ∃ seg t, s = seg ++ t ∧ okG c seg ∧ Mt p t := by
  constructor
  · intro h
    cases h with
    | cons ho hm => exact ⟨_, _, rfl, ho, hm⟩
  · rintro ⟨seg, t, rfl, ho, hm⟩; exact .cons ho hm
theorem Mt.app : ∀ {p q s t : Bs}, Mt p s → Mt q t → Mt (p ++ q) (s ++ t)
  | _, _, _, _, .nil, h => h
  | _, _, _, _, .cons ho hm, h => by
    rw [List.cons_append, List.append_assoc]
    exact .cons ho (hm.app h)
theorem Mt.split : ∀ {p q u : Bs}, Mt (p ++ q) u → ∃ s t, u = s ++ t ∧ Mt p s ∧ Mt q t
  | [], q, u, h => ⟨[], u, rfl, .nil, h⟩
  | c :: p, q, u, h => by
    rw [List.cons_append, Mt.cons_iff] at h
    obtain ⟨seg, t, rfl, ho, hm⟩ := h
    obtain ⟨s, t', rfl, h1, h2⟩ := Mt.split hm
    exact ⟨seg ++ s, t', by rw [List.append_assoc], .cons ho h1, h2⟩
theorem okG_star (seg : Bs) : okG 42 seg := by unfold okG; rw [if_pos rfl]; trivial
theorem okG_one {c : UInt8} (h : c ≠ 42) {seg : Bs} : okG c seg ↔ ∃ x, seg = [x] ∧ (c = 63 ∨ c = x) := by unfold okG; rw [if_neg h]
/-- A pattern without stars takes as many bytes as it has. -/
theorem Mt.len : ∀ {p s : Bs}, (∀ c ∈ p, c ≠ 42) → Mt p s → s.length = p.length
  | _, _, _, .nil => rfl
  | _, _, hp, .cons ho hm => by
    obtain ⟨x, rfl, _⟩ := (okG_one (hp _ List.mem_cons_self)).1 ho
    have := Mt.len (fun c hc => hp c (List.mem_cons_of_mem _ hc)) hm
    simp [this]
/-- Nothing is left: all that is left of the pattern is stars. -/
theorem Mt.stars {p : Bs} : Mt p [] ↔ ∀ c ∈ p, c = 42 := by
  induction p with
  | nil => exact ⟨fun _ c hc => (by cases hc), fun _ => Mt.nil⟩
  | cons c p ih =>
    rw [Mt.cons_iff]
    constructor
    · rintro ⟨seg, t, e, ho, hm⟩
      obtain ⟨e1, e2⟩ := List.append_eq_nil_iff.1 e.symm
      subst e1 e2
      intro d hd
      rcases List.mem_cons.1 hd with rfl | hd
      · by_cases e : d = 42
        · exact e
        · obtain ⟨x, e, _⟩ := (okG_one e).1 ho; cases e
      · exact ih.1 hm d hd
    · intro h
      have := h c List.mem_cons_self
      subst this
      exact ⟨[], [], rfl, okG_star _, ih.2 fun d hd => h d (List.mem_cons_of_mem _ hd)⟩
theorem Mt.one {c x : UInt8} {p s : Bs} (hc : c ≠ 42) : Mt (c :: p) (x :: s) ↔ (c = 63 ∨ c = x) ∧ Mt p s := by
  rw [Mt.cons_iff]
  constructor
  · rintro ⟨seg, t, e, ho, hm⟩
    obtain ⟨y, rfl, hy⟩ := (okG_one hc).1 ho
    simp at e
    obtain ⟨rfl, rfl⟩ := e
    exact ⟨hy, hm⟩
  · rintro ⟨hx, hm⟩
    exact ⟨[x], s, rfl, (okG_one hc).2 ⟨x, rfl, hx⟩, hm⟩
theorem Mt.more {p s : Bs} (u : Bs) (h : Mt (42 :: p) s) : Mt (42 :: p) (u ++ s) := by
  rw [Mt.cons_iff] at h ⊢
  obtain ⟨seg, t, rfl, _, hm⟩ := h
  exact ⟨u ++ seg, t, by rw [List.append_assoc], okG_star _, hm⟩
/-- Behind a star and bytes that were found, another star: the first one need not be asked again. -/
theorem Mt.newStar {Q r seg t : Bs} (hQ : ∀ c ∈ Q, c ≠ 42) (hm : Mt Q seg) : Mt (42 :: (Q ++ 42 :: r)) (seg ++ t) ↔ Mt (42 :: r) t := by
  constructor
  · intro h
    obtain ⟨u, v, e, _, h2⟩ := Mt.cons_iff.1 h
    obtain ⟨a, b, rfl, h3, h4⟩ := Mt.split h2
    have l1 := Mt.len hQ hm
    have l2 := Mt.len hQ h3
    have : ∃ z, t = z ++ b := by
      rw [← List.append_assoc] at e
      have hl : seg.length ≤ (u ++ a).length := by rw [List.length_append]; omega
      obtain ⟨z, hz⟩ : ∃ z, u ++ a = seg ++ z := by
        refine ⟨(u ++ a).drop seg.length, ?_⟩
        have h1 : (seg ++ t).take seg.length = seg := by simp
        have h2 : ((u ++ a) ++ b).take seg.length = (u ++ a).take seg.length := by rw [List.take_append_of_le_length hl]
        rw [e, h2] at h1
        have h3 := List.take_append_drop seg.length (u ++ a)
        rw [h1] at h3
        exact h3.symm
      rw [hz, List.append_assoc] at e
      exact ⟨z, List.append_cancel_left e⟩
    obtain ⟨z, rfl⟩ := this
    exact h4.more z
  · intro h
    exact Mt.cons_iff.2 ⟨[], seg ++ t, rfl, okG_star _, hm.app h⟩
/-- A star, bytes that were found, and then one that is not: the star takes one byte more. -/
theorem Mt.goOn {Q R seg t : Bs} {x : UInt8} (hQ : ∀ c ∈ Q, c ≠ 42) (hm : Mt Q seg) (hno : ¬ Mt R t) (y : Bs) (hy : seg ++ t = x :: y) : Mt (42 :: (Q ++ R)) (seg ++ t) ↔ Mt (42 :: (Q ++ R)) y := by
  constructor
  · intro h
    obtain ⟨u, v, e, _, h2⟩ := Mt.cons_iff.1 h
    cases u with
    | nil =>
      exfalso
      obtain ⟨a, b, rfl, h3, h4⟩ := Mt.split h2
      have l1 := Mt.len hQ hm
      have l2 := Mt.len hQ h3
      rw [List.nil_append] at e
      obtain ⟨_, rfl⟩ := List.append_inj e (by omega)
      exact hno h4
    | cons z u =>
      rw [e] at hy
      rw [List.cons_append] at hy
      obtain ⟨_, rfl⟩ := List.cons_eq_cons.1 hy
      exact Mt.cons_iff.2 ⟨u, v, rfl, okG_star _, h2⟩
  · intro h
    rw [hy]
    exact h.more [x]
/-- At the end, with a star. -/
theorem Mt.atEnd {Q R seg : Bs} (hQ : ∀ c ∈ Q, c ≠ 42) (hm : Mt Q seg) : Mt (42 :: (Q ++ R)) seg ↔ Mt R [] := by
  constructor
  · intro h
    obtain ⟨u, v, e, _, h2⟩ := Mt.cons_iff.1 h
    obtain ⟨a, b, rfl, h3, h4⟩ := Mt.split h2
    have l1 := Mt.len hQ hm
    have l2 := Mt.len hQ h3
    have := congrArg List.length e
    simp at this
    have hb : b = [] := List.eq_nil_of_length_eq_zero (by omega)
    rw [hb] at h4; exact h4
  · intro h
    refine Mt.cons_iff.2 ⟨[], seg, rfl, okG_star _, ?_⟩
    have := hm.app h
    rwa [List.append_nil] at this
theorem Mt.snoc {Q s : Bs} {c x : UInt8} (hm : Mt Q s) (hc : c ≠ 42) (hx : c = 63 ∨ c = x) : Mt (Q ++ [c]) (s ++ [x]) :=
  hm.app ((Mt.one hc).2 ⟨hx, .nil⟩)
/-- The way with a star to go back to: where it is. -/
structure Gw (P S : Bs) (p k star frm : Nat) (st : Bool) : Prop where
  hp : p ≤ P.length
  hk : k ≤ S.length
  no : st = false → (∀ c ∈ P.take p, c ≠ 42) ∧ (Mt P S ↔ Mt (P.drop p) (S.drop k))
  yes : st = true → star < p ∧ P[star]? = some 42 ∧ frm ≤ k ∧ (∀ c ∈ (P.take p).drop (star + 1), c ≠ 42) ∧ Mt ((P.take p).drop (star + 1)) ((S.take k).drop frm) ∧ (Mt P S ↔ Mt (P.drop star) (S.drop frm))
theorem Gw.start (P S : Bs) (a b : Nat) : Gw P S 0 0 a b false := ⟨Nat.zero_le _, Nat.zero_le _, fun _ => ⟨by simp, by simp⟩, fun h => by cases h⟩
theorem drop_cons {l : Bs} {i : Nat} {c : UInt8} (h : l[i]? = some c) : l.drop i = c :: l.drop (i + 1) := by
  obtain ⟨hi, e⟩ := List.getElem?_eq_some_iff.1 h
  rw [List.drop_eq_getElem_cons hi, e]
theorem parts {P : Bs} {star p : Nat} (h1 : star < p) (h2 : p ≤ P.length) (hs : P[star]? = some 42) : P.drop star = 42 :: ((P.take p).drop (star + 1) ++ P.drop p) := by
  rw [drop_cons hs]
  congr 1
  conv => lhs; rw [← List.take_append_drop p P]
  rw [List.drop_append_of_le_length (by rw [List.length_take]; omega)]
theorem cut {S : Bs} {frm k : Nat} (h1 : frm ≤ k) (h2 : k ≤ S.length) : S.drop frm = (S.take k).drop frm ++ S.drop k := by
  conv => lhs; rw [← List.take_append_drop k S]
  rw [List.drop_append_of_le_length (by rw [List.length_take]; omega)]
theorem take_snoc' {l : Bs} {i : Nat} {c : UInt8} (h : l[i]? = some c) : l.take (i + 1) = l.take i ++ [c] := by
  obtain ⟨hi, e⟩ := List.getElem?_eq_some_iff.1 h
  rw [List.take_succ_eq_append_getElem hi, e]
section
variable {P S : Bs} {p k sr frm : Nat} {st : Bool}
/-- A star in the pattern. -/
theorem Gw.aStar (h : Gw P S p k sr frm st) (hc : P[p]? = some 42) : Gw P S (p + 1) k p k true := by
  have hpl := (List.getElem?_eq_some_iff.1 hc).1
  refine ⟨hpl, h.hk, fun e => (by cases e), fun _ => ⟨Nat.lt_succ_self _, hc, Nat.le_refl _, ?_, ?_, ?_⟩⟩
  · rw [List.drop_eq_nil_of_le (by rw [List.length_take]; omega)]; intro c hc; cases hc
  · rw [List.drop_eq_nil_of_le (by rw [List.length_take]; omega), List.drop_eq_nil_of_le (by rw [List.length_take]; omega)]; exact .nil
  · cases st with
    | false => exact (h.no rfl).2
    | true =>
      obtain ⟨h1, h2, h3, h4, h5, h6⟩ := h.yes rfl
      rw [h6, parts h1 h.hp h2, cut h3 h.hk, drop_cons hc]
      exact Mt.newStar h4 h5
/-- A byte that is as the pattern says. -/
theorem Gw.byte (h : Gw P S p k sr frm st) {c x : UInt8} (hc : P[p]? = some c) (hx : S[k]? = some x) (hn : c ≠ 42) (ho : c = 63 ∨ c = x) : Gw P S (p + 1) (k + 1) sr frm st := by
  have hpl := (List.getElem?_eq_some_iff.1 hc).1
  have hkl := (List.getElem?_eq_some_iff.1 hx).1
  refine ⟨hpl, hkl, fun e => ?_, fun e => ?_⟩
  · obtain ⟨h1, h2⟩ := h.no e
    refine ⟨?_, ?_⟩
    · rw [take_snoc' hc]
      intro d hd
      rcases List.mem_append.1 hd with hd | hd
      · exact h1 d hd
      · rw [List.mem_singleton.1 hd]; exact hn
    · rw [h2, drop_cons hc, drop_cons hx, Mt.one hn]
      exact ⟨fun h => h.2, fun h => ⟨ho, h⟩⟩
  · obtain ⟨h1, h2, h3, h4, h5, h6⟩ := h.yes e
    have e1 : (P.take (p + 1)).drop (sr + 1) = (P.take p).drop (sr + 1) ++ [c] := by rw [take_snoc' hc, List.drop_append_of_le_length (by rw [List.length_take]; omega)]
    have e2 : (S.take (k + 1)).drop frm = (S.take k).drop frm ++ [x] := by rw [take_snoc' hx, List.drop_append_of_le_length (by rw [List.length_take]; omega)]
    refine ⟨by omega, h2, by omega, ?_, ?_, h6⟩
    · rw [e1]
      intro d hd
      rcases List.mem_append.1 hd with hd | hd
      · exact h4 d hd
      · rw [List.mem_singleton.1 hd]; exact hn
    · rw [e1, e2]; exact h5.snoc hn ho
/-- One that is not: not matched from here on. -/
theorem no_match {x : UInt8} (hx : S[k]? = some x) (hno : ∀ c, P[p]? = some c → c ≠ 42 ∧ ¬ (c = 63 ∨ c = x)) : ¬ Mt (P.drop p) (S.drop k) := by
  rw [drop_cons hx]
  cases hc : P[p]? with
  | none =>
    rw [List.drop_eq_nil_of_le (List.getElem?_eq_none_iff.1 hc), Mt.nil_iff]
    intro e; cases e
  | some c =>
    obtain ⟨h1, h2⟩ := hno c hc
    rw [drop_cons hc, Mt.one h1]
    exact fun h => h2 h.1
theorem Gw.back (h : Gw P S p k sr frm true) {x : UInt8} (hx : S[k]? = some x) (hno : ∀ c, P[p]? = some c → c ≠ 42 ∧ ¬ (c = 63 ∨ c = x)) : Gw P S (sr + 1) (frm + 1) sr (frm + 1) true := by
  obtain ⟨h1, h2, h3, h4, h5, h6⟩ := h.yes rfl
  have hkl := (List.getElem?_eq_some_iff.1 hx).1
  have hp := h.hp
  refine ⟨by omega, by omega, fun e => (by cases e), fun _ => ⟨Nat.lt_succ_self _, h2, Nat.le_refl _, ?_, ?_, ?_⟩⟩
  · rw [List.drop_eq_nil_of_le (by rw [List.length_take]; omega)]; intro c hc; cases hc
  · rw [List.drop_eq_nil_of_le (by rw [List.length_take]; omega), List.drop_eq_nil_of_le (by rw [List.length_take]; omega)]; exact .nil
  · have hf : frm < S.length := by omega
    have e : (S.take k).drop frm ++ S.drop k = S[frm] :: S.drop (frm + 1) := by rw [← cut h3 h.hk, List.drop_eq_getElem_cons hf]
    rw [h6, parts h1 h.hp h2, cut h3 h.hk]
    exact Mt.goOn h4 h5 (no_match hx hno) _ e
theorem Gw.fail (h : Gw P S p k sr frm false) {x : UInt8} (hx : S[k]? = some x) (hno : ∀ c, P[p]? = some c → c ≠ 42 ∧ ¬ (c = 63 ∨ c = x)) : ¬ Mt P S := by
  rw [(h.no rfl).2]; exact no_match hx hno
/-- All of the text is taken. -/
theorem Gw.done (h : Gw P S p k sr frm st) (hk : k = S.length) : Mt P S ↔ ∀ c ∈ P.drop p, c = 42 := by
  rw [← Mt.stars]
  cases st with
  | false => rw [(h.no rfl).2, hk, List.drop_length]
  | true =>
    obtain ⟨h1, h2, h3, h4, h5, h6⟩ := h.yes rfl
    rw [h6, parts h1 h.hp h2, cut h3 h.hk, hk, List.drop_length, List.append_nil]
    rw [hk] at h5
    exact Mt.atEnd h4 h5
end
end Go.Den
end
section
/- Paths, in plain terms: the pieces between slashes; the order of two paths, as the program and as the document has it. -/
namespace Go.Den
/-- Bytes ahead of bytes. -/
def bl : Bs → Bs → Bool
  | _, [] => false
  | [], _ :: _ => true
  | a :: x, b :: y => a < b || (a == b && bl x y)
theorem bl_irrefl : ∀ x : Bs, bl x x = false
  | [] => rfl
  | a :: x => by
    unfold bl
    rw [bl_irrefl x, Bool.and_false, Bool.or_false]
    exact decide_eq_false (by intro h; exact absurd h (by simp))
theorem u8_tri (a b : UInt8) : a < b ∨ a = b ∨ b < a := by
  rcases Nat.lt_trichotomy a.toNat b.toNat with h | h | h
  · exact .inl (UInt8.lt_iff_toNat_lt.2 h)
  · exact .inr (.inl (UInt8.toNat_inj.1 h))
  · exact .inr (.inr (UInt8.lt_iff_toNat_lt.2 h))
theorem u8_trans {a b c : UInt8} (h : a < b) (h' : b < c) : a < c := UInt8.lt_iff_toNat_lt.2 (by have := UInt8.lt_iff_toNat_lt.1 h; have := UInt8.lt_iff_toNat_lt.1 h'; omega)
theorem bl_cons {a b : UInt8} {x y : Bs} : bl (a :: x) (b :: y) = true ↔ a < b ∨ (a = b ∧ bl x y = true) := by
  show (decide (a < b) || (a == b && bl x y)) = true ↔ _
  simp
theorem bl_tri : ∀ x y : Bs, bl x y = true ∨ x = y ∨ bl y x = true
  | [], [] => .inr (.inl rfl)
  | [], _ :: _ => .inl rfl
  | _ :: _, [] => .inr (.inr rfl)
  | a :: x, b :: y => by
    rcases u8_tri a b with h | h | h
    · exact .inl (bl_cons.2 (.inl h))
    · subst h
      rcases bl_tri x y with h | h | h
      · exact .inl (bl_cons.2 (.inr ⟨rfl, h⟩))
      · exact .inr (.inl (by rw [h]))
      · exact .inr (.inr (bl_cons.2 (.inr ⟨rfl, h⟩)))
    · exact .inr (.inr (bl_cons.2 (.inl h)))
theorem bl_trans : ∀ {x y z : Bs}, bl x y = true → bl y z = true → bl x z = true
  | _, [], _, h, _ => by
    rename_i x z
    cases x <;> exact absurd h (by unfold bl; simp)
  | _, _ :: _, [], _, h => absurd h (by unfold bl; simp)
  | [], _ :: _, _ :: _, _, _ => rfl
  | a :: x, b :: y, c :: z, h1, h2 => by
    rw [bl_cons] at h1 h2 ⊢
    rcases h1 with h1 | ⟨rfl, h1⟩
    · rcases h2 with h2 | ⟨rfl, h2⟩
      · exact .inl (u8_trans h1 h2)
      · exact .inl h1
    · rcases h2 with h2 | ⟨rfl, h2⟩
      · exact .inl h2
      · exact .inr ⟨rfl, bl_trans h1 h2⟩
theorem bl_asym {x y : Bs} (h : bl x y = true) : bl y x = false := by
  cases h' : bl y x with
  | false => rfl
  | true => have := bl_trans h h'; rw [bl_irrefl] at this; cases this
/-- How two rows of texts stand to each other. -/
def clp : List Bs → List Bs → Int
  | [], [] => 0
  | [], _ :: _ => -1
  | _ :: _, [] => 1
  | a :: x, b :: y => if bl a b = true then -1 else if bl b a = true then 1 else clp x y
theorem clp_cons (a b : Bs) (x y : List Bs) : clp (a :: x) (b :: y) = if bl a b = true then -1 else if bl b a = true then 1 else clp x y := rfl
theorem clp_self : ∀ x : List Bs, clp x x = 0
  | [] => rfl
  | a :: x => by rw [clp_cons, bl_irrefl, if_neg (by simp), if_neg (by simp), clp_self x]
theorem clp_neg : ∀ x y : List Bs, clp y x = - clp x y
  | [], [] => rfl
  | [], _ :: _ => rfl
  | _ :: _, [] => rfl
  | a :: x, b :: y => by
    rw [clp_cons, clp_cons]
    by_cases h1 : bl a b = true
    · rw [if_pos h1, if_neg (by rw [bl_asym h1]; simp), if_pos h1]; rfl
    · rw [if_neg h1]
      by_cases h2 : bl b a = true
      · rw [if_pos h2, if_pos h2, if_neg h1]
      · rw [if_neg h2, if_neg h2, if_neg h1, clp_neg x y]
theorem clp_zero : ∀ {x y : List Bs}, clp x y = 0 → x = y
  | [], [], _ => rfl
  | [], _ :: _, h => by unfold clp at h; omega
  | _ :: _, [], h => by unfold clp at h; omega
  | a :: x, b :: y, h => by
    rw [clp_cons] at h
    split at h
    · omega
    · split at h
      · omega
      · rename_i h1 h2
        rcases bl_tri a b with h3 | h3 | h3
        · exact absurd h3 h1
        · rw [h3, clp_zero h]
        · exact absurd h3 h2
theorem clp_lt : ∀ {x y : List Bs}, clp x y < 0 ↔ (x = [] ∧ y ≠ []) ∨ ∃ a x' b y', x = a :: x' ∧ y = b :: y' ∧ (bl a b = true ∨ (a = b ∧ clp x' y' < 0))
  | [], [] => by unfold clp; simp
  | [], _ :: _ => by unfold clp; simp
  | _ :: _, [] => by unfold clp; simp
  | a :: x, b :: y => by
    rw [clp_cons]
    constructor
    · intro h
      right
      refine ⟨a, x, b, y, rfl, rfl, ?_⟩
      split at h
      · rename_i h1; exact .inl h1
      · split at h
        · omega
        · rename_i h1 h2
          rcases bl_tri a b with h3 | h3 | h3
          · exact .inl h3
          · exact .inr ⟨h3, h⟩
          · exact absurd h3 h2
    · rintro (⟨h, _⟩ | ⟨a', x', b', y', e1, e2, h⟩)
      · cases h
      · cases e1; cases e2
        rcases h with h | ⟨rfl, h⟩
        · rw [if_pos h]; omega
        · rw [bl_irrefl, if_neg (by simp), if_neg (by simp)]; exact h
theorem clp_trans : ∀ {x y z : List Bs}, clp x y < 0 → clp y z < 0 → clp x z < 0
  | x, y, z, h1, h2 => by
    rw [clp_lt] at h1 h2
    rcases h1 with ⟨rfl, h1⟩ | ⟨a, x', b, y', rfl, rfl, h1⟩
    · refine clp_lt.2 (.inl ⟨rfl, ?_⟩)
      rcases h2 with ⟨h2, _⟩ | ⟨_, _, _, _, _, rfl, _⟩
      · exact absurd h2 h1
      · simp
    · rcases h2 with ⟨h2, _⟩ | ⟨b', y2, c, z', e, rfl, h2⟩
      · cases h2
      · cases e
        refine clp_lt.2 (.inr ⟨a, x', c, z', rfl, rfl, ?_⟩)
        rcases h1 with h1 | ⟨rfl, h1⟩
        · rcases h2 with h2 | ⟨rfl, h2⟩
          · exact .inl (bl_trans h1 h2)
          · exact .inl h1
        · rcases h2 with h2 | ⟨rfl, h2⟩
          · exact .inl h2
          · exact .inr ⟨rfl, clp_trans h1 h2⟩
/-- As the document compares two rows of names. -/
def lessR : List Bs → List Bs → Bool
  | [], y => decide (0 < y.length)
  | _ :: _, [] => false
  | a :: x, b :: y => if a ≠ b then bl a b else lessR x y
theorem lessR_cl : ∀ x y : List Bs, lessR x y = decide (clp x y < 0)
  | [], [] => rfl
  | [], _ :: _ => by unfold lessR clp; simp
  | _ :: _, [] => rfl
  | a :: x, b :: y => by
    rw [clp_cons]
    show (if a ≠ b then bl a b else lessR x y) = _
    by_cases e : a = b
    · subst e
      rw [if_neg (by simp), bl_irrefl, if_neg (by simp), if_neg (by simp), lessR_cl x y]
    · rw [if_pos e]
      rcases bl_tri a b with h | h | h
      · rw [h, if_pos rfl]; rfl
      · exact absurd h e
      · rw [bl_asym h, if_neg (by simp), if_pos h]; rfl
/-- The pieces between slashes. -/
def pieces : Bs → List Bs
  | [] => [[]]
  | c :: r => if c = 47 then [] :: pieces r else match pieces r with | [] => [[c]] | h :: t => (c :: h) :: t
theorem pieces_cons (c : UInt8) (r : Bs) : pieces (c :: r) = if c = 47 then [] :: pieces r else match pieces r with | [] => [[c]] | h :: t => (c :: h) :: t := rfl
theorem pieces_ne : ∀ s : Bs, pieces s ≠ []
  | [] => by unfold pieces; simp
  | c :: r => by
    unfold pieces
    split
    · simp
    · split <;> simp
def glue : List Bs → Bs
  | [] => []
  | [h] => h
  | h :: t :: r => h ++ 47 :: glue (t :: r)
theorem glue_pieces : ∀ s : Bs, glue (pieces s) = s
  | [] => rfl
  | c :: r => by
    have ih := glue_pieces r
    have hn := pieces_ne r
    rw [pieces_cons]
    cases hp : pieces r with
    | nil => exact absurd hp hn
    | cons h t =>
      rw [hp] at ih
      split
      · rename_i e
        subst e
        show [] ++ 47 :: glue (h :: t) = _
        rw [ih]; rfl
      · cases t with
        | nil =>
          show c :: h = c :: r
          rw [show h = r from ih]
        | cons t1 t2 =>
          show (c :: h) ++ 47 :: glue (t1 :: t2) = c :: r
          have ih : h ++ 47 :: glue (t1 :: t2) = r := ih
          rw [← ih]; rfl
theorem pieces_inj {a b : Bs} (h : pieces a = pieces b) : a = b := by rw [← glue_pieces a, ← glue_pieces b, h]
/-- Names as the document gathers them, a byte at a time. -/
def nameStep (acc : List Bs) (c : UInt8) : List Bs := if c = 47 then acc ++ [[]] else if acc = [] then acc else acc.dropLast ++ [acc.getLastD [] ++ [c]]
theorem names_from : ∀ (s : Bs) (acc : List Bs) (l : Bs), s.foldl nameStep (acc ++ [l]) = acc ++ (match pieces s with | [] => [] | h :: t => (l ++ h) :: t)
  | [], acc, l => by simp [pieces]
  | c :: r, acc, l => by
    rw [List.foldl_cons]
    have hn := pieces_ne r
    by_cases e : c = 47
    · subst e
      have e1 : nameStep (acc ++ [l]) 47 = (acc ++ [l]) ++ [[]] := by unfold nameStep; rw [if_pos rfl]
      rw [e1, names_from r (acc ++ [l]) []]
      rw [pieces_cons]
      rw [if_pos rfl]
      cases hp : pieces r with
      | nil => exact absurd hp hn
      | cons h t => simp
    · have e1 : nameStep (acc ++ [l]) c = acc ++ [l ++ [c]] := by unfold nameStep; rw [if_neg e, if_neg (by simp)]; simp
      rw [e1, names_from r acc (l ++ [c])]
      rw [pieces_cons, if_neg e]
      cases hp : pieces r with
      | nil => exact absurd hp hn
      | cons h t => simp
theorem names_eq : ∀ s : Bs, s.foldl nameStep [] = (pieces s).tail
  | [] => rfl
  | c :: r => by
    rw [List.foldl_cons]
    have hn := pieces_ne r
    rw [pieces_cons]
    by_cases e : c = 47
    · subst e
      have e1 : nameStep [] 47 = [] ++ [[]] := by unfold nameStep; rw [if_pos rfl]
      rw [e1, names_from r [] [], if_pos rfl]
      cases hp : pieces r with
      | nil => exact absurd hp hn
      | cons h t => simp
    · have e1 : nameStep [] c = [] := by unfold nameStep; rw [if_neg e, if_pos rfl]
      rw [e1, names_eq r, if_neg e]
      cases hp : pieces r with
      | nil => exact absurd hp hn
      | cons h t => rfl
/-- A path that is none, or begins with a slash. -/
def Rooted (s : Bs) : Prop := s = [] ∨ ∃ r, s = 47 :: r
theorem pieces_rooted {s : Bs} (h : Rooted s) : pieces s = [] :: (pieces s).tail := by
  rcases h with rfl | ⟨r, rfl⟩
  · rfl
  · rw [pieces_cons, if_pos rfl]; rfl
def ordP (a b : Bs) : Int := clp (pieces a) (pieces b)
/-- Both ways to tell which path comes first. -/
theorem less_ord {a b : Bs} (ha : Rooted a) (hb : Rooted b) : lessR (a.foldl nameStep []) (b.foldl nameStep []) = decide (ordP a b < 0) := by
  rw [names_eq, names_eq, lessR_cl]
  unfold ordP
  rw [pieces_rooted ha, pieces_rooted hb]
  congr 1
theorem ord_zero {a b : Bs} : ordP a b = 0 ↔ a = b := ⟨fun h => pieces_inj (clp_zero h), fun h => by rw [h]; exact clp_self _⟩
theorem ord_neg (a b : Bs) : ordP b a = - ordP a b := clp_neg _ _
theorem ord_trans {a b c : Bs} (h1 : ordP a b < 0) (h2 : ordP b c < 0) : ordP a c < 0 := clp_trans h1 h2
end Go.Den
end
section
/- Changes from a tree to another one, in plain terms: side by side, and put in their places. -/
namespace Go.Den
abbrev Chg := Int × Bs
def Asc (l : List Chg) : Prop := l.Pairwise fun x y => ordP x.2 y.2 < 0
def AscP (l : List Bs) : Prop := l.Pairwise fun x y => ordP x y < 0
theorem ord_irr (x : Bs) : ¬ ordP x x < 0 := by rw [ord_zero.2 rfl]; omega
theorem ord_tri (x y : Bs) : ordP x y < 0 ∨ x = y ∨ ordP y x < 0 := by
  have h := ord_neg x y
  rcases Int.lt_trichotomy (ordP x y) 0 with h1 | h1 | h1
  · exact .inl h1
  · exact .inr (.inl (ord_zero.1 h1))
  · exact .inr (.inr (by omega))
theorem asc_eq {l r : List Chg} (h1 : Asc l) (h2 : Asc r) (hm : ∀ x, x ∈ l ↔ x ∈ r) : l = r := by
  have hn : ∀ {l : List Chg}, Asc l → l.Nodup := fun h => h.imp fun h e => by rw [e] at h; exact ord_irr _ h
  have hp : l.Perm r := (List.perm_ext_iff_of_nodup (hn h1) (hn h2)).2 hm
  exact hp.eq_of_pairwise (fun a b _ _ h1 h2 => absurd (ord_trans h1 h2) (ord_irr _)) h1 h2
/-- A change more, in its place. -/
def ins (c : Chg) : List Chg → List Chg
  | [] => [c]
  | e :: r => if ordP c.2 e.2 < 0 then c :: e :: r else e :: ins c r
theorem ins_mem {c x : Chg} : ∀ {l : List Chg}, x ∈ ins c l ↔ x = c ∨ x ∈ l
  | [] => by unfold ins; simp
  | e :: r => by
    show x ∈ (if ordP c.2 e.2 < 0 then c :: e :: r else e :: ins c r) ↔ _
    split
    · rw [List.mem_cons]
    · rw [List.mem_cons, ins_mem, List.mem_cons]
      constructor
      · rintro (h | h | h)
        · exact .inr (.inl h)
        · exact .inl h
        · exact .inr (.inr h)
      · rintro (h | h | h)
        · exact .inr (.inl h)
        · exact .inl h
        · exact .inr (.inr h)
theorem ins_asc {c : Chg} : ∀ {l : List Chg}, Asc l → (∀ e ∈ l, e.2 ≠ c.2) → Asc (ins c l)
  | [], _, _ => List.pairwise_singleton _ _
  | e :: r, h, hn => by
    have h' := List.pairwise_cons.1 h
    show Asc (if ordP c.2 e.2 < 0 then c :: e :: r else e :: ins c r)
    split
    · rename_i h1
      exact List.pairwise_cons.2 ⟨fun y hy => by
        rcases List.mem_cons.1 hy with rfl | hy
        · exact h1
        · exact ord_trans h1 (h'.1 y hy), h⟩
    · rename_i h1
      refine List.pairwise_cons.2 ⟨fun y hy => ?_, ins_asc h'.2 fun e he => hn e (List.mem_cons_of_mem _ he)⟩
      rcases ins_mem.1 hy with rfl | hy
      · rcases ord_tri e.2 y.2 with h2 | h2 | h2
        · exact h2
        · exact absurd h2 (hn e List.mem_cons_self)
        · exact absurd h2 h1
      · exact h'.1 y hy
/-- What a change must be. -/
def Sp (PA PB : List Bs) (al : Nat → Nat → Bool) (c : Chg) : Prop :=
  (c.1 = 1 ∧ c.2 ∈ PA ∧ c.2 ∉ PB) ∨ (c.1 = 2 ∧ c.2 ∉ PA ∧ c.2 ∈ PB) ∨ (c.1 = 3 ∧ ∃ i k, PA[i]? = some c.2 ∧ PB[k]? = some c.2 ∧ al i k = false)
/-- Side by side, so far. -/
structure Mg (PA PB : List Bs) (al : Nat → Nat → Bool) (i k : Nat) (out : List Chg) : Prop where
  hi : i ≤ PA.length
  hk : k ≤ PB.length
  asc : Asc out
  ab : ∀ x ∈ PA.take i, ∀ y ∈ PB.drop k, ordP x y < 0
  ba : ∀ y ∈ PB.take k, ∀ x ∈ PA.drop i, ordP y x < 0
  mem : ∀ c, c ∈ out ↔ Sp PA PB al c ∧ (c.2 ∈ PA.take i ∨ c.2 ∈ PB.take k)
theorem Mg.start (PA PB : List Bs) (al : Nat → Nat → Bool) : Mg PA PB al 0 0 [] := ⟨Nat.zero_le _, Nat.zero_le _, List.Pairwise.nil, by simp, by simp, by simp⟩
section
variable {PA PB : List Bs} {al : Nat → Nat → Bool} {i k : Nat} {out : List Chg}
theorem asc_take_drop {l : List Bs} (h : AscP l) {i : Nat} {x y : Bs} (hx : x ∈ l.take i) (hy : y ∈ l.drop i) : ordP x y < 0 := by
  have := h
  rw [← List.take_append_drop i l] at this
  exact (List.pairwise_append.1 this).2.2 x hx y hy
theorem dropCons {l : List Bs} {i : Nat} {x : Bs} (h : l[i]? = some x) : l.drop i = x :: l.drop (i + 1) := by
  obtain ⟨hi, e⟩ := List.getElem?_eq_some_iff.1 h
  rw [List.drop_eq_getElem_cons hi, e]
theorem takeSnoc {l : List Bs} {i : Nat} {x : Bs} (h : l[i]? = some x) : l.take (i + 1) = l.take i ++ [x] := by
  obtain ⟨hi, e⟩ := List.getElem?_eq_some_iff.1 h
  rw [List.take_succ_eq_append_getElem hi, e]
theorem asc_head {l : List Bs} (h : AscP l) {i : Nat} {x y : Bs} (hx : l[i]? = some x) (hy : y ∈ l.drop (i + 1)) : ordP x y < 0 :=
  asc_take_drop h (by rw [takeSnoc hx]; simp) hy
theorem asc_inj {l : List Bs} (h : AscP l) {i j : Nat} {x : Bs} (hi : l[i]? = some x) (hj : l[j]? = some x) : i = j := by
  obtain ⟨h1, e1⟩ := List.getElem?_eq_some_iff.1 hi
  obtain ⟨h2, e2⟩ := List.getElem?_eq_some_iff.1 hj
  have hp := List.pairwise_iff_getElem.1 h
  rcases Nat.lt_trichotomy i j with hlt | hlt | hlt
  · have := hp i j h1 h2 hlt; rw [e1, e2] at this; exact absurd this (ord_irr x)
  · exact hlt
  · have := hp j i h2 h1 hlt; rw [e1, e2] at this; exact absurd this (ord_irr x)
/-- All that was told comes ahead of what is left. -/
theorem Mg.ahead (h : Mg PA PB al i k out) (hA : AscP PA) (hB : AscP PB) {c : Chg} (hc : c ∈ out) {x : Bs} (hx : x ∈ PA.drop i ∨ x ∈ PB.drop k) : ordP c.2 x < 0 := by
  rcases ((h.mem c).1 hc).2 with h1 | h1
  · rcases hx with hx | hx
    · exact asc_take_drop hA h1 hx
    · exact h.ab _ h1 _ hx
  · rcases hx with hx | hx
    · exact h.ba _ h1 _ hx
    · exact asc_take_drop hB h1 hx
theorem Mg.snoc (h : Mg PA PB al i k out) (hA : AscP PA) (hB : AscP PB) {c : Chg} (hx : c.2 ∈ PA.drop i ∨ c.2 ∈ PB.drop k) : Asc (out ++ [c]) :=
  List.pairwise_append.2 ⟨h.asc, List.pairwise_singleton _ _, fun y hy z hz => by rw [List.mem_singleton.1 hz]; exact h.ahead hA hB hy hx⟩
theorem mem_split {l : List Bs} {i : Nat} {x : Bs} (h : x ∈ l) : x ∈ l.take i ∨ x ∈ l.drop i := by
  rw [← List.take_append_drop i l] at h
  exact List.mem_append.1 h
/-- Only the first one has it. -/
theorem Mg.gone (h : Mg PA PB al i k out) (hA : AscP PA) (hB : AscP PB) {x : Bs} (hx : PA[i]? = some x) (hlt : ∀ y, PB[k]? = some y → ordP x y < 0) : Mg PA PB al (i + 1) k (out ++ [(1, x)]) := by
  have hil := (List.getElem?_eq_some_iff.1 hx).1
  have hxd : x ∈ PA.drop i := by rw [dropCons hx]; simp
  have hxB : ∀ y ∈ PB.drop k, ordP x y < 0 := fun y hy => by
    cases hk : PB[k]? with
    | none => rw [List.drop_eq_nil_of_le (List.getElem?_eq_none_iff.1 hk)] at hy; cases hy
    | some z =>
      rw [dropCons hk] at hy
      rcases List.mem_cons.1 hy with rfl | hy
      · exact hlt _ hk
      · exact ord_trans (hlt z hk) (asc_head hB hk hy)
  have hno : x ∉ PB := fun hm => by
    rcases mem_split (i := k) hm with h1 | h1
    · exact ord_irr _ (h.ba _ h1 _ hxd)
    · exact ord_irr _ (hxB _ h1)
  refine ⟨hil, h.hk, h.snoc hA hB (.inl hxd), fun u hu y hy => ?_, fun y hy u hu => h.ba y hy u ?_, fun c => ?_⟩
  · rw [takeSnoc hx] at hu
    rcases List.mem_append.1 hu with hu | hu
    · exact h.ab u hu y hy
    · rw [List.mem_singleton.1 hu]; exact hxB y hy
  · rw [dropCons hx]; exact List.mem_cons_of_mem _ hu
  · rw [List.mem_append, h.mem, List.mem_singleton, takeSnoc hx, List.mem_append, List.mem_singleton]
    constructor
    · rintro (⟨h1, h2⟩ | rfl)
      · refine ⟨h1, ?_⟩
        rcases h2 with h2 | h2
        · exact .inl (.inl h2)
        · exact .inr h2
      · exact ⟨.inl ⟨rfl, List.mem_of_getElem? hx, hno⟩, .inl (.inr rfl)⟩
    · rintro ⟨h1, (h2 | h2) | h2⟩
      · exact .inl ⟨h1, .inl h2⟩
      · right
        rcases h1 with ⟨e, _⟩ | ⟨_, e, _⟩ | ⟨_, _, k', _, e, _⟩
        · exact Prod.ext e h2
        · rw [h2] at e; exact absurd (List.mem_of_getElem? hx) e
        · rw [h2] at e; exact absurd (List.mem_of_getElem? e) hno
      · exact .inl ⟨h1, .inr h2⟩
/-- Only the second one has it. -/
theorem Mg.new (h : Mg PA PB al i k out) (hA : AscP PA) (hB : AscP PB) {y : Bs} (hy : PB[k]? = some y) (hlt : ∀ x, PA[i]? = some x → ordP y x < 0) : Mg PA PB al i (k + 1) (out ++ [(2, y)]) := by
  have hkl := (List.getElem?_eq_some_iff.1 hy).1
  have hyd : y ∈ PB.drop k := by rw [dropCons hy]; simp
  have hyA : ∀ x ∈ PA.drop i, ordP y x < 0 := fun x hx => by
    cases hi : PA[i]? with
    | none => rw [List.drop_eq_nil_of_le (List.getElem?_eq_none_iff.1 hi)] at hx; cases hx
    | some z =>
      rw [dropCons hi] at hx
      rcases List.mem_cons.1 hx with rfl | hx
      · exact hlt _ hi
      · exact ord_trans (hlt z hi) (asc_head hA hi hx)
  have hno : y ∉ PA := fun hm => by
    rcases mem_split (i := i) hm with h1 | h1
    · exact ord_irr _ (h.ab _ h1 _ hyd)
    · exact ord_irr _ (hyA _ h1)
  refine ⟨h.hi, hkl, h.snoc hA hB (.inr hyd), fun u hu z hz => h.ab u hu z ?_, fun z hz u hu => ?_, fun c => ?_⟩
  · rw [dropCons hy]; exact List.mem_cons_of_mem _ hz
  · rw [takeSnoc hy] at hz
    rcases List.mem_append.1 hz with hz | hz
    · exact h.ba z hz u hu
    · rw [List.mem_singleton.1 hz]; exact hyA u hu
  · rw [List.mem_append, h.mem, List.mem_singleton, takeSnoc hy, List.mem_append, List.mem_singleton]
    constructor
    · rintro (⟨h1, h2⟩ | rfl)
      · refine ⟨h1, ?_⟩
        rcases h2 with h2 | h2
        · exact .inl h2
        · exact .inr (.inl h2)
      · exact ⟨.inr (.inl ⟨rfl, hno, List.mem_of_getElem? hy⟩), .inr (.inr rfl)⟩
    · rintro ⟨h1, h2 | (h2 | h2)⟩
      · exact .inl ⟨h1, .inl h2⟩
      · exact .inl ⟨h1, .inr h2⟩
      · right
        rcases h1 with ⟨_, e, _⟩ | ⟨e, _⟩ | ⟨_, i', _, e, _, _⟩
        · rw [h2] at e; exact absurd e hno
        · exact Prod.ext e h2
        · rw [h2] at e; exact absurd (List.mem_of_getElem? e) hno
/-- Both have it. -/
theorem Mg.both (h : Mg PA PB al i k out) (hA : AscP PA) (hB : AscP PB) {x : Bs} (hx : PA[i]? = some x) (hy : PB[k]? = some x) : Mg PA PB al (i + 1) (k + 1) (if al i k = true then out else out ++ [(3, x)]) := by
  have hil := (List.getElem?_eq_some_iff.1 hx).1
  have hkl := (List.getElem?_eq_some_iff.1 hy).1
  have hxd : x ∈ PA.drop i := by rw [dropCons hx]; simp
  refine ⟨hil, hkl, ?_, fun u hu z hz => ?_, fun z hz u hu => ?_, fun c => ?_⟩
  · split
    · exact h.asc
    · exact h.snoc hA hB (.inl hxd)
  · rw [takeSnoc hx] at hu
    rcases List.mem_append.1 hu with hu | hu
    · exact h.ab u hu z (by rw [dropCons hy]; exact List.mem_cons_of_mem _ hz)
    · rw [List.mem_singleton.1 hu]; exact asc_head hB hy hz
  · rw [takeSnoc hy] at hz
    rcases List.mem_append.1 hz with hz | hz
    · exact h.ba z hz u (by rw [dropCons hx]; exact List.mem_cons_of_mem _ hu)
    · rw [List.mem_singleton.1 hz]; exact asc_head hA hx hu
  · have hsp : ∀ c : Chg, c.2 = x → (Sp PA PB al c ↔ c.1 = 3 ∧ al i k = false) := fun c e => by
      constructor
      · rintro (⟨_, _, h2⟩ | ⟨_, h2, _⟩ | ⟨e1, i', k', h1, h2, h3⟩)
        · rw [e] at h2; exact absurd (List.mem_of_getElem? hy) h2
        · rw [e] at h2; exact absurd (List.mem_of_getElem? hx) h2
        · rw [e] at h1 h2
          have e2 := asc_inj hA h1 hx
          have e3 := asc_inj hB h2 hy
          subst e2 e3
          exact ⟨e1, h3⟩
      · rintro ⟨e1, h3⟩
        exact .inr (.inr ⟨e1, i, k, by rw [e]; exact hx, by rw [e]; exact hy, h3⟩)
    have hcore : c ∈ (if al i k = true then out else out ++ [(3, x)]) ↔ c ∈ out ∨ (c.2 = x ∧ Sp PA PB al c) := by
      split
      · rename_i ha
        constructor
        · exact .inl
        · rintro (h1 | ⟨e, h1⟩)
          · exact h1
          · have := ((hsp c e).1 h1).2
            rw [ha] at this; cases this
      · rename_i ha
        rw [List.mem_append, List.mem_singleton]
        constructor
        · rintro (h1 | rfl)
          · exact .inl h1
          · exact .inr ⟨rfl, (hsp (3, x) rfl).2 ⟨rfl, by simpa using ha⟩⟩
        · rintro (h1 | ⟨e, h1⟩)
          · exact .inl h1
          · exact .inr (Prod.ext ((hsp c e).1 h1).1 e)
    rw [hcore, h.mem, takeSnoc hx, takeSnoc hy, List.mem_append, List.mem_append, List.mem_singleton]
    constructor
    · rintro (⟨h1, h2 | h2⟩ | ⟨e, h1⟩)
      · exact ⟨h1, .inl (.inl h2)⟩
      · exact ⟨h1, .inr (.inl h2)⟩
      · exact ⟨h1, .inl (.inr e)⟩
    · rintro ⟨h1, (h2 | h2) | (h2 | h2)⟩
      · exact .inl ⟨h1, .inl h2⟩
      · exact .inr ⟨h2, h1⟩
      · exact .inl ⟨h1, .inr h2⟩
      · exact .inr ⟨h2, h1⟩
theorem Sp.in_ {c : Chg} (h : Sp PA PB al c) : (c.1 ≠ 2 ∧ c.2 ∈ PA) ∨ (c.1 = 2 ∧ c.2 ∈ PB) := by
  rcases h with ⟨e, h, _⟩ | ⟨e, _, h⟩ | ⟨e, _, _, h, _, _⟩
  · exact .inl ⟨by omega, h⟩
  · exact .inr ⟨e, h⟩
  · exact .inl ⟨by omega, List.mem_of_getElem? h⟩
/-- The document's way, so far: those of the first one, then those that are new. -/
structure Rf (PA PB : List Bs) (al : Nat → Nat → Bool) (i k : Nat) (out : List Chg) : Prop where
  asc : Asc out
  mem : ∀ c, c ∈ out ↔ Sp PA PB al c ∧ ((c.1 ≠ 2 ∧ c.2 ∈ PA.take i) ∨ (c.1 = 2 ∧ c.2 ∈ PB.take k))
theorem Rf.start (PA PB : List Bs) (al : Nat → Nat → Bool) : Rf PA PB al 0 0 [] := ⟨List.Pairwise.nil, by simp⟩
theorem Rf.notIn (h : Rf PA PB al i k out) (hA : AscP PA) {x : Bs} (hx : PA[i]? = some x) : ∀ e ∈ out, e.2 ≠ x := fun e he e2 => by
  obtain ⟨h1, h2⟩ := (h.mem e).1 he
  rcases h2 with ⟨_, h2⟩ | ⟨h3, h2⟩
  · rw [e2] at h2
    exact ord_irr _ (asc_take_drop hA h2 (by rw [dropCons hx]; simp))
  · rcases h1 with ⟨e3, _⟩ | ⟨_, h4, _⟩ | ⟨e3, _⟩
    · omega
    · rw [e2] at h4; exact h4 (List.mem_of_getElem? hx)
    · omega
theorem Rf.none (h : Rf PA PB al i k out) (hA : AscP PA) {x : Bs} (hx : PA[i]? = some x) (hno : x ∉ PB) : Rf PA PB al (i + 1) k (ins (1, x) out) := by
  refine ⟨ins_asc h.asc (h.notIn hA hx), fun c => ?_⟩
  rw [ins_mem, h.mem, takeSnoc hx, List.mem_append, List.mem_singleton]
  constructor
  · rintro (rfl | ⟨h1, ⟨h2, h3⟩ | h2⟩)
    · exact ⟨.inl ⟨rfl, List.mem_of_getElem? hx, hno⟩, .inl ⟨(fun e => by have e : (1 : Int) = 2 := e; omega), .inr rfl⟩⟩
    · exact ⟨h1, .inl ⟨h2, .inl h3⟩⟩
    · exact ⟨h1, .inr h2⟩
  · rintro ⟨h1, ⟨h2, h3 | h3⟩ | h2⟩
    · exact .inr ⟨h1, .inl ⟨h2, h3⟩⟩
    · left
      rcases h1 with ⟨e, _⟩ | ⟨e, _⟩ | ⟨_, _, k', _, e, _⟩
      · exact Prod.ext e h3
      · exact absurd e h2
      · rw [h3] at e; exact absurd (List.mem_of_getElem? e) hno
    · exact .inr ⟨h1, .inr h2⟩
theorem Rf.both (h : Rf PA PB al i k out) (hA : AscP PA) (hB : AscP PB) {x : Bs} {j : Nat} (hx : PA[i]? = some x) (hy : PB[j]? = some x) : Rf PA PB al (i + 1) k (if al i j = true then out else ins (3, x) out) := by
  have hsp : ∀ c : Chg, c.2 = x → (Sp PA PB al c ↔ c.1 = 3 ∧ al i j = false) := fun c e => by
    constructor
    · rintro (⟨_, _, h2⟩ | ⟨_, h2, _⟩ | ⟨e1, i', k', h1, h2, h3⟩)
      · rw [e] at h2; exact absurd (List.mem_of_getElem? hy) h2
      · rw [e] at h2; exact absurd (List.mem_of_getElem? hx) h2
      · rw [e] at h1 h2
        have e2 := asc_inj hA h1 hx
        have e3 := asc_inj hB h2 hy
        subst e2 e3
        exact ⟨e1, h3⟩
    · rintro ⟨e1, h3⟩
      exact .inr (.inr ⟨e1, i, j, by rw [e]; exact hx, by rw [e]; exact hy, h3⟩)
  have hcore : ∀ c, c ∈ (if al i j = true then out else ins (3, x) out) ↔ c ∈ out ∨ (c.2 = x ∧ Sp PA PB al c) := fun c => by
    split
    · rename_i ha
      constructor
      · exact .inl
      · rintro (h1 | ⟨e, h1⟩)
        · exact h1
        · have := ((hsp c e).1 h1).2
          rw [ha] at this; cases this
    · rename_i ha
      rw [ins_mem]
      constructor
      · rintro (rfl | h1)
        · exact .inr ⟨rfl, (hsp (3, x) rfl).2 ⟨rfl, by simpa using ha⟩⟩
        · exact .inl h1
      · rintro (h1 | ⟨e, h1⟩)
        · exact .inr h1
        · exact .inl (Prod.ext ((hsp c e).1 h1).1 e)
  refine ⟨?_, fun c => ?_⟩
  · split
    · exact h.asc
    · exact ins_asc h.asc (h.notIn hA hx)
  · rw [hcore, h.mem, takeSnoc hx, List.mem_append, List.mem_singleton]
    constructor
    · rintro (⟨h1, ⟨h2, h3⟩ | h2⟩ | ⟨e, h1⟩)
      · exact ⟨h1, .inl ⟨h2, .inl h3⟩⟩
      · exact ⟨h1, .inr h2⟩
      · exact ⟨h1, .inl ⟨by have := ((hsp c e).1 h1).1; omega, .inr e⟩⟩
    · rintro ⟨h1, ⟨h2, h3 | h3⟩ | h2⟩
      · exact .inl ⟨h1, .inl ⟨h2, h3⟩⟩
      · exact .inr ⟨h3, h1⟩
      · exact .inl ⟨h1, .inr h2⟩
theorem Rf.new (h : Rf PA PB al i k out) (hB : AscP PB) {y : Bs} (hy : PB[k]? = some y) (hno : y ∉ PA) : Rf PA PB al i (k + 1) (ins (2, y) out) := by
  refine ⟨ins_asc h.asc fun e he e2 => ?_, fun c => ?_⟩
  · obtain ⟨h1, h2⟩ := (h.mem e).1 he
    have e2 : e.2 = y := e2
    rcases h2 with ⟨_, h2⟩ | ⟨_, h2⟩
    · rw [e2] at h2; exact hno (List.mem_of_mem_take h2)
    · rw [e2] at h2; exact ord_irr _ (asc_take_drop hB h2 (by rw [dropCons hy]; simp))
  · rw [ins_mem, h.mem, takeSnoc hy, List.mem_append, List.mem_singleton]
    constructor
    · rintro (rfl | ⟨h1, h2 | ⟨h2, h3⟩⟩)
      · exact ⟨.inr (.inl ⟨rfl, hno, List.mem_of_getElem? hy⟩), .inr ⟨rfl, .inr rfl⟩⟩
      · exact ⟨h1, .inl h2⟩
      · exact ⟨h1, .inr ⟨h2, .inl h3⟩⟩
    · rintro ⟨h1, h2 | ⟨h2, h3 | h3⟩⟩
      · exact .inr ⟨h1, .inl h2⟩
      · exact .inr ⟨h1, .inr ⟨h2, h3⟩⟩
      · exact .inl (Prod.ext h2 h3)
end
end Go.Den
end
section
/- Can entries be a tree's? In plain terms, as the program and as the document has it. -/
namespace Go.Den
structure Tn where
  path : Bs
  kind : Int
  link : Bs
  data : Bs
  same : Int
/-- Can a text name a thing? -/
def nameB (s : Bs) : Bool := decide (s ≠ []) && decide (s ≠ [46]) && decide (s ≠ [46, 46]) && s.all (fun c => decide (c ≠ 47) && decide (c ≠ 0)) && decide (s.length ≤ 24)
/-- The names of a path, and whether it is one. -/
def tNames (s : Bs) : List Bs := (pieces s).filter fun p => decide (p ≠ []) && decide (p ≠ [46])
def tOk (s : Bs) : Bool := decide (1 ≤ s.length) && decide (s.length ≤ 255) && (tNames s).all (fun p => decide (p = [46, 46]) || nameB p) && decide ((tNames s).length ≤ 16)
/-- A path's directory and its last name. -/
def Cut (s d n : Bs) : Prop := s = d ++ 47 :: n ∧ (47 : UInt8) ∉ n
theorem Cut.inj {s d n d' n' : Bs} (h : Cut s d n) (h' : Cut s d' n') : d = d' ∧ n = n' := by
  obtain ⟨rfl, hn⟩ := h
  obtain ⟨e, hn'⟩ := h'
  rcases List.append_eq_append_iff.1 e with ⟨t, e1, e2⟩ | ⟨t, e1, e2⟩
  · cases t with
    | nil => simp at e1 e2; exact ⟨e1.symm, e2⟩
    | cons a r =>
      simp at e2
      exact absurd (by rw [e2.2]; simp) hn
  · cases t with
    | nil => simp at e1 e2; exact ⟨e1, e2.symm⟩
    | cons a r =>
      simp at e2
      exact absurd (by rw [e2.2]; simp) hn'
theorem Cut.ex : ∀ {s : Bs}, (47 : UInt8) ∈ s → ∃ d n, Cut s d n
  | c :: r, h => by
    by_cases hr : (47 : UInt8) ∈ r
    · obtain ⟨d, n, e, hn⟩ := Cut.ex hr
      exact ⟨c :: d, n, by rw [e]; rfl, hn⟩
    · have hc : c = 47 := by
        rcases List.mem_cons.1 h with h | h
        · exact h.symm
        · exact absurd h hr
      exact ⟨[], r, by rw [hc]; rfl, hr⟩
/-- Is an entry as its kind must be, among those ahead? -/
def OneE (l : List Tn) (i : Nat) (e : Tn) : Prop :=
  1 ≤ e.kind ∧ e.kind ≤ 3 ∧ e.data.length ≤ 65536 ∧ (e.kind ≠ 1 → e.data = []) ∧ (e.kind ≠ 3 → e.link = []) ∧
  ((e.same = -1 ∧ (e.kind = 3 → tOk e.link = true)) ∨ (0 ≤ e.same ∧ e.same < i ∧ e.kind ≠ 2 ∧ e.data = [] ∧ e.link = [] ∧ ∃ q, l[e.same.toNat]? = some q ∧ q.kind = e.kind ∧ q.same = -1))
def InDir (l : List Tn) (i : Nat) (d : Bs) : Prop := ∃ (k : Nat) (q : Tn), k < i ∧ l[k]? = some q ∧ q.path = d ∧ q.kind = 2
def OkAt (l : List Tn) (i : Nat) : Prop :=
  ∃ p e, l[i - 1]? = some p ∧ l[i]? = some e ∧ (∃ d n, Cut e.path d n ∧ InDir l i d ∧ nameB n = true) ∧ ordP p.path e.path < 0 ∧ OneE l i e
def Head0 (l : List Tn) : Prop := ∃ e, l[0]? = some e ∧ e.path = [] ∧ e.kind = 2 ∧ e.link = [] ∧ e.data = [] ∧ e.same = -1
/-- The first entries are right. -/
def RightTo (l : List Tn) (i : Nat) : Prop := Head0 l ∧ ∀ j, 1 ≤ j → j < i → OkAt l j
def RightL (l : List Tn) : Prop := RightTo l l.length
theorem RightTo.mono {l : List Tn} {i j : Nat} (h : RightTo l i) (hj : j ≤ i) : RightTo l j := ⟨h.1, fun k h1 h2 => h.2 k h1 (by omega)⟩
theorem nameB_len {n : Bs} (h : nameB n = true) : 1 ≤ n.length ∧ n.length ≤ 24 := by
  unfold nameB at h
  simp only [Bool.and_eq_true, decide_eq_true_eq] at h
  refine ⟨?_, h.2⟩
  have := h.1.1.1.1
  cases n with
  | nil => exact absurd rfl this
  | cons a r => simp
theorem RightTo.path {l : List Tn} {i : Nat} (h : RightTo l i) : ∀ {k : Nat} {e : Tn}, k < i → l[k]? = some e → Rooted e.path ∧ e.path.length ≤ 25 * k := by
  intro k
  induction k using Nat.strongRecOn with
  | ind k ih =>
    intro e hk he
    by_cases h0 : k = 0
    · subst h0
      obtain ⟨e0, h1, h2, _⟩ := h.1
      rw [he] at h1; cases h1
      rw [h2]
      exact ⟨.inl rfl, by simp⟩
    · obtain ⟨p, e', hp, he', ⟨d, n, hc, ⟨m, q, hm, hq, hqd, _⟩, hn⟩, _⟩ := h.2 k (by omega) hk
      rw [he] at he'; cases he'
      obtain ⟨r1, r2⟩ := ih m hm (by omega) hq
      have hl := nameB_len hn
      rw [hqd] at r1 r2
      refine ⟨?_, ?_⟩
      · rw [hc.1]
        rcases r1 with rfl | ⟨r, rfl⟩
        · exact .inr ⟨n, rfl⟩
        · exact .inr ⟨_, rfl⟩
      · rw [hc.1]; simp; omega
theorem RightTo.asc {l : List Tn} {i : Nat} (h : RightTo l i) : ∀ {j k : Nat} {a b : Tn}, j < k → k < i → l[j]? = some a → l[k]? = some b → ordP a.path b.path < 0 := by
  intro j k
  induction k with
  | zero => intro a b h1; omega
  | succ k ih =>
    intro a b hjk hki ha hb
    obtain ⟨p, e, hp, he, _, ho, _⟩ := h.2 (k + 1) (by omega) hki
    rw [hb] at he; cases he
    rw [Nat.add_sub_cancel] at hp
    by_cases hjk' : j = k
    · subst hjk'
      rw [ha] at hp; cases hp
      exact ho
    · exact ord_trans (ih (by omega) (by omega) ha hp) ho
theorem RightL.ascP {l : List Tn} (h : RightL l) : AscP (l.map (·.path)) := by
  refine List.pairwise_iff_getElem.2 fun i j hi hj hij => ?_
  simp only [List.length_map] at hi hj
  simp only [List.getElem_map]
  exact RightTo.asc h hij hj (List.getElem?_eq_getElem hi) (List.getElem?_eq_getElem hj)
theorem RightTo.one {l : List Tn} {i : Nat} (h : RightTo l i) {k : Nat} {e : Tn} (hk : k < i) (he : l[k]? = some e) : OneE l k e := by
  by_cases h0 : k = 0
  · subst h0
    obtain ⟨e0, h1, h2, h3, h4, h5, h6⟩ := h.1
    rw [he] at h1; cases h1
    exact ⟨by omega, by omega, by rw [h5]; simp, fun _ => h5, fun _ => h4, .inl ⟨h6, fun e => by omega⟩⟩
  · obtain ⟨p, e', hp, he', _, _, h1⟩ := h.2 k (by omega) hk
    rw [he] at he'; cases he'
    exact h1
/- As the document says it. -/
def RefAt (l : List Tn) (i : Nat) : Prop :=
  ∃ e, l[i]? = some e ∧ (∃ r, e.path = 47 :: r) ∧ OneE l i e ∧ (∃ d n, Cut e.path d n ∧ InDir l i d ∧ nameB n = true) ∧ ∀ (k : Nat) (q : Tn), k < i → l[k]? = some q → q.path ≠ e.path
def lessN (a b : Bs) : Bool := lessR (a.foldl nameStep []) (b.foldl nameStep [])
def OrdAt (l : List Tn) (i : Nat) : Prop := ∃ p e, l[i - 1]? = some p ∧ l[i]? = some e ∧ lessN p.path e.path = true
theorem right_ref {l : List Tn} : RightL l ↔ Head0 l ∧ (∀ i, 1 ≤ i → i < l.length → RefAt l i) ∧ ∀ i, 1 ≤ i → i < l.length → OrdAt l i := by
  constructor
  · intro h
    refine ⟨h.1, fun i h1 hi => ?_, fun i h1 hi => ?_⟩
    · obtain ⟨p, e, hp, he, hx, ho, hon⟩ := h.2 i h1 hi
      refine ⟨e, he, ?_, hon, hx, fun k q hk hq e2 => ?_⟩
      · obtain ⟨d, n, hc, _⟩ := hx
        rcases (RightTo.path h hi he).1 with h2 | h2
        · rw [hc.1] at h2; simp at h2
        · exact h2
      · have := RightTo.asc h hk hi hq he
        rw [e2] at this; exact ord_irr _ this
    · obtain ⟨p, e, hp, he, hx, ho, hon⟩ := h.2 i h1 hi
      refine ⟨p, e, hp, he, ?_⟩
      unfold lessN
      rw [less_ord (RightTo.path h (by omega) hp).1 (RightTo.path h hi he).1]
      exact decide_eq_true ho
  · rintro ⟨h0, h1, h2⟩
    have hr : ∀ {k : Nat} {e : Tn}, l[k]? = some e → Rooted e.path := by
      intro k e he
      by_cases hk : k = 0
      · subst hk
        obtain ⟨e0, h3, h4, _⟩ := h0
        rw [he] at h3; cases h3
        exact .inl h4
      · obtain ⟨e', he', h3, _⟩ := h1 k (by omega) (List.getElem?_eq_some_iff.1 he).1
        rw [he] at he'; cases he'
        exact .inr h3
    refine ⟨h0, fun i hi1 hi => ?_⟩
    obtain ⟨e, he, _, hon, hx, _⟩ := h1 i hi1 hi
    obtain ⟨p, e', hp, he', ho⟩ := h2 i hi1 hi
    rw [he] at he'; cases he'
    unfold lessN at ho
    rw [less_ord (hr hp) (hr he)] at ho
    exact ⟨p, e, hp, he, hx, of_decide_eq_true ho, hon⟩
end Go.Den
end
section
/- Changes, the other way round, of a tree and itself, of a tree and one with a name more; totals; in plain terms. -/
namespace Go.Den
section
variable {PA PB : List Bs} {al al' : Nat → Nat → Bool} {out : List Chg}
theorem Sp.kind {c : Chg} (h : Sp PA PB al c) : c.1 = 1 ∨ c.1 = 2 ∨ c.1 = 3 := by
  rcases h with h | h | h
  · exact .inl h.1
  · exact .inr (.inl h.1)
  · exact .inr (.inr h.1)
/-- All changes. -/
def All (PA PB : List Bs) (al : Nat → Nat → Bool) (out : List Chg) : Prop := Asc out ∧ ∀ c, c ∈ out ↔ Sp PA PB al c
theorem Mg.all (h : Mg PA PB al PA.length PB.length out) : All PA PB al out := by
  refine ⟨h.asc, fun c => ?_⟩
  rw [h.mem, List.take_length, List.take_length]
  constructor
  · exact fun h => h.1
  · intro h
    refine ⟨h, ?_⟩
    rcases h.in_ with ⟨_, h⟩ | ⟨_, h⟩
    · exact .inl h
    · exact .inr h
theorem Rf.all (h : Rf PA PB al PA.length PB.length out) : All PA PB al out := by
  refine ⟨h.asc, fun c => ?_⟩
  rw [h.mem, List.take_length, List.take_length]
  exact ⟨fun h => h.1, fun h => ⟨h, h.in_⟩⟩
theorem All.eq {o1 o2 : List Chg} (h1 : All PA PB al o1) (h2 : All PA PB al o2) : o1 = o2 := asc_eq h1.1 h2.1 fun c => (h1.2 c).trans (h2.2 c).symm
theorem All.more {x : Bs} (h : All PA (PA ++ [x]) al out) (hA : AscP (PA ++ [x])) (hal : ∀ i y, PA[i]? = some y → al i i = true) : out = [(2, x)] := by
  have hx : x ∉ PA := fun hm => by
    obtain ⟨i, hi, e⟩ := List.getElem_of_mem hm
    have h1 : (PA ++ [x])[i]? = some x := by rw [List.getElem?_append_left hi, List.getElem?_eq_getElem hi, e]
    have h2 : (PA ++ [x])[PA.length]? = some x := by simp
    have := asc_inj hA h1 h2
    omega
  have h1 : All PA (PA ++ [x]) al [(2, x)] := by
    refine ⟨List.pairwise_singleton _ _, fun c => ?_⟩
    rw [List.mem_singleton]
    constructor
    · rintro rfl
      exact .inr (.inl ⟨rfl, hx, by simp⟩)
    · rintro (⟨_, h1, h2⟩ | ⟨e, h1, h2⟩ | ⟨_, i, k, h1, h2, h3⟩)
      · exact absurd (by simp [h1]) h2
      · rcases List.mem_append.1 h2 with h2 | h2
        · exact absurd h2 h1
        · exact Prod.ext e (by simpa using h2)
      · have hi := (List.getElem?_eq_some_iff.1 h1).1
        have h1' : (PA ++ [x])[i]? = some c.2 := by rw [List.getElem?_append_left hi]; exact h1
        have := asc_inj hA h1' h2
        subst this
        rw [hal i _ h1] at h3; cases h3
  exact All.eq h h1
end
/-- The entry that one is the same as, or itself. -/
def thingI (l : List Tn) (i : Nat) : Nat := match l[i]? with | some e => if 0 ≤ e.same then e.same.toNat else i | none => i
theorem OneE.thing {l : List Tn} {i : Nat} {e : Tn} (h : OneE l i e) (he : l[i]? = some e) : ∃ q, l[thingI l i]? = some q ∧ q.kind = e.kind ∧ thingI l i ≤ i ∧ q.same = -1 ∧ (thingI l i = i ↔ e.same < 0) ∧ (e.same ≥ 0 → e.data = [] ∧ e.link = []) := by
  unfold thingI
  rw [he]
  simp only
  obtain ⟨_, _, _, _, _, h | ⟨h1, h2, _, h3, h4, q, h5, h6, h7⟩⟩ := h
  · rw [if_neg (by omega)]
    exact ⟨e, he, rfl, Nat.le_refl _, h.1, ⟨fun _ => by omega, fun _ => rfl⟩, fun _ => by omega⟩
  · rw [if_pos h1]
    exact ⟨q, h5, h6, by omega, h7, ⟨fun _ => by omega, fun _ => by omega⟩, fun _ => ⟨h3, h4⟩⟩
/-- Are two entries alike, but for their paths? -/
def alE (a b : List Tn) (i k : Nat) : Bool :=
  match a[thingI a i]?, b[thingI b k]? with
  | some x, some y => decide (x.kind = y.kind) && decide (x.link = y.link) && decide (x.data = y.data)
  | _, _ => false
theorem paths_get {a : List Tn} {i : Nat} {x : Bs} (h : (a.map (·.path))[i]? = some x) : ∃ e, a[i]? = some e ∧ e.path = x := by
  rw [List.getElem?_map] at h
  cases he : a[i]? with
  | none => rw [he] at h; cases h
  | some e => rw [he] at h; exact ⟨e, rfl, by simpa using h⟩
def AllE (a b : List Tn) (out : List Chg) : Prop := All (a.map (·.path)) (b.map (·.path)) (alE a b) out
theorem one_more {l : List Tn} {e0 : Tn} (h : RightL (l ++ [e0])) {i : Nat} {e : Tn} (he : l[i]? = some e) : alE l (l ++ [e0]) i i = true := by
  have hi := (List.getElem?_eq_some_iff.1 he).1
  have he' : (l ++ [e0])[i]? = some e := by rw [List.getElem?_append_left hi]; exact he
  obtain ⟨q, hq, _, hle, _⟩ := (RightTo.one h (by simp; omega) he').thing he'
  have e1 : thingI (l ++ [e0]) i = thingI l i := by unfold thingI; rw [he, he']
  rw [e1] at hq hle
  have hq' : l[thingI l i]? = some q := by rw [List.getElem?_append_left (by omega)] at hq; exact hq
  unfold alE
  rw [e1, hq, hq']; simp
theorem AllE.more {l : List Tn} {e0 : Tn} {out : List Chg} (h : AllE l (l ++ [e0]) out) (hr : RightL (l ++ [e0])) : out = [(2, e0.path)] := by
  have h' := h
  have ha := hr.ascP
  unfold AllE at h'
  rw [List.map_append, List.map_cons, List.map_nil] at h' ha
  exact All.more h' ha fun i y hy => by obtain ⟨e, he, _⟩ := paths_get hy; exact one_more hr he
/-- What a tree has in all. -/
structure Tot where
  dirs : Int
  files : Int
  links : Int
  bytes : Int
def totStep (t : Tot) (e : Tn) : Tot :=
  if 0 ≤ e.same then t else
  if e.kind = 2 then { t with dirs := t.dirs + 1, bytes := t.bytes + e.data.length } else
  if e.kind = 1 then { t with files := t.files + 1, bytes := t.bytes + e.data.length } else { t with links := t.links + 1, bytes := t.bytes + e.data.length }
def tot (l : List Tn) : Tot := l.foldl totStep ⟨0, 0, 0, 0⟩
theorem tot_take {l : List Tn} {i : Nat} {e : Tn} (h : l[i]? = some e) : tot (l.take (i + 1)) = totStep (tot (l.take i)) e := by
  obtain ⟨hi, he⟩ := List.getElem?_eq_some_iff.1 h
  unfold tot
  rw [List.take_succ_eq_append_getElem hi, List.foldl_append, he]; rfl
theorem tot_bounds {l : List Tn} (h : RightL l) (h40 : l.length ≤ 1000) : ∀ i, i ≤ l.length → 0 ≤ (tot (l.take i)).dirs ∧ (tot (l.take i)).dirs ≤ i ∧ 0 ≤ (tot (l.take i)).files ∧ (tot (l.take i)).files ≤ i ∧ 0 ≤ (tot (l.take i)).links ∧ (tot (l.take i)).links ≤ i ∧ 0 ≤ (tot (l.take i)).bytes ∧ (tot (l.take i)).bytes ≤ 65536 * i
  | 0, _ => by simp [tot]
  | i + 1, hi => by
    have ih := tot_bounds h h40 i (by omega)
    have he : l[i]? = some l[i] := List.getElem?_eq_getElem (by omega)
    have hone := RightTo.one h (by omega : i < l.length) he
    rw [tot_take he]
    generalize tot (l.take i) = t at *
    generalize l[i] = e at *
    have := hone.2.2.1
    unfold totStep
    split
    · omega
    · split
      · simp only; omega
      · split
        · simp only; omega
        · simp only; omega
end Go.Den
end
section
/- What stands below a path of a tree, in plain terms: it is a tree; below the top it is the tree itself. -/
namespace Go.Den
/-- What is left of a path behind another one that it stands below. -/
def restOf (path p : Bs) : Option Bs :=
  if path.isPrefixOf p = true then (if p.drop path.length = [] ∨ (p.drop path.length).head? = some 47 then some (p.drop path.length) else none) else none
theorem restOf_some {path p r : Bs} : restOf path p = some r ↔ p = path ++ r ∧ Rooted r := by
  unfold restOf Rooted
  constructor
  · intro h
    split at h
    · rename_i hp
      obtain ⟨t, rfl⟩ := List.isPrefixOf_iff_prefix.1 hp
      rw [List.drop_left] at h
      split at h
      · rename_i ht
        cases h
        refine ⟨rfl, ?_⟩
        rcases ht with ht | ht
        · exact .inl ht
        · cases r with
          | nil => exact .inl rfl
          | cons a t => simp at ht; exact .inr ⟨t, by rw [ht]⟩
      · cases h
    · cases h
  · rintro ⟨rfl, h⟩
    rw [if_pos (List.isPrefixOf_iff_prefix.2 ⟨r, rfl⟩), List.drop_left, if_pos]
    rcases h with rfl | ⟨t, rfl⟩
    · exact .inl rfl
    · exact .inr rfl
theorem pieces_app : ∀ (x r : Bs), Rooted r → pieces (x ++ r) = pieces x ++ (pieces r).tail
  | [], r, h => by rw [List.nil_append, pieces_rooted h]; rfl
  | c :: x, r, h => by
    rw [List.cons_append, pieces_cons, pieces_cons, pieces_app x r h]
    split
    · rfl
    · cases hp : pieces x with
      | nil => exact absurd hp (pieces_ne x)
      | cons a t => rfl
theorem bl_irr (x : Bs) : bl x x = false := bl_irrefl x
theorem clp_app : ∀ (x a b : List Bs), clp (x ++ a) (x ++ b) = clp a b
  | [], _, _ => rfl
  | y :: x, a, b => by
    rw [List.cons_append, List.cons_append, clp_cons, bl_irr, if_neg (by simp), if_neg (by simp), clp_app x a b]
theorem ord_app {x a b : Bs} (ha : Rooted a) (hb : Rooted b) : ordP (x ++ a) (x ++ b) = ordP a b := by
  unfold ordP
  rw [pieces_app x a ha, pieces_app x b hb, clp_app, pieces_rooted ha, pieces_rooted hb, clp_cons, bl_irr, if_neg (by simp), if_neg (by simp)]; rfl
theorem ord_nil {b : Bs} (hb : Rooted b) : ordP [] b ≤ 0 := by
  unfold ordP
  rw [pieces_rooted hb]
  show clp [[]] _ ≤ 0
  rw [clp_cons, bl_irr, if_neg (by simp), if_neg (by simp)]
  cases (pieces b).tail with
  | nil => exact Int.le_refl _
  | cons a r => show (-1 : Int) ≤ 0; omega
theorem ahead_none {l : List Tn} (h : RightL l) {path : Bs} {i top : Nat} {e q : Tn} (hi : i < top) (he : l[i]? = some e) (hq : l[top]? = some q) (hp : q.path = path) : restOf path e.path = none := by
  cases hr : restOf path e.path with
  | none => rfl
  | some r =>
    obtain ⟨h1, h2⟩ := restOf_some.1 hr
    have h3 := RightTo.asc h hi (List.getElem?_eq_some_iff.1 hq).1 he hq
    have h4 : ordP path (path ++ r) ≤ 0 := by
      have := ord_app (x := path) (a := []) (.inl rfl) h2
      rw [List.append_nil] at this
      rw [this]; exact ord_nil h2
    rw [hp, h1, ord_neg] at h3
    omega
/-- The first place of a number; -1: it stands nowhere. -/
def atI (k : Nat) : List Nat → Nat → Int
  | [], _ => -1
  | x :: r, i => if x = k then i else atI k r (i + 1)
theorem atI_app (k x : Nat) : ∀ (l : List Nat) (i : Nat), atI k (l ++ [x]) i = if 0 ≤ atI k l i then atI k l i else if x = k then ((i + l.length : Nat) : Int) else -1
  | [], i => by
    show (if x = k then (i : Int) else -1) = _
    simp [atI]
  | y :: r, i => by
    rw [List.cons_append]
    unfold atI
    by_cases e : y = k
    · rw [if_pos e, if_pos e, if_pos (by omega)]
    · rw [if_neg e, if_neg e, atI_app k x r (i + 1), List.length_cons, show i + 1 + r.length = i + (r.length + 1) by omega]
def mkE (e : Tn) (r : Bs) (q : Tn) (a : Int) : Tn := if a < 0 then ⟨r, e.kind, q.link, q.data, -1⟩ else ⟨r, e.kind, [], [], a⟩
structure BelS where
  out : List Tn
  src : List Nat
def belStep (l : List Tn) (path : Bs) (s : BelS) (i : Nat) : BelS :=
  match l[i]? with
  | none => s
  | some e => match restOf path e.path with
    | none => s
    | some r => match l[thingI l i]? with
      | none => s
      | some q => ⟨s.out ++ [mkE e r q (atI (thingI l i) (s.src.map (thingI l)) 0)], s.src ++ [i]⟩
def bel (l : List Tn) (path : Bs) : Nat → BelS
  | 0 => ⟨[], []⟩
  | i + 1 => belStep l path (bel l path i) i
theorem bel_skip {l : List Tn} {path : Bs} {i : Nat} {e : Tn} (he : l[i]? = some e) (hr : restOf path e.path = none) : bel l path (i + 1) = bel l path i := by
  show belStep l path (bel l path i) i = _
  unfold belStep
  rw [he]; simp only; rw [hr]
theorem bel_step {l : List Tn} {path : Bs} {i : Nat} {e q : Tn} {r : Bs} (he : l[i]? = some e) (hr : restOf path e.path = some r) (hq : l[thingI l i]? = some q) :
    bel l path (i + 1) = ⟨(bel l path i).out ++ [mkE e r q (atI (thingI l i) ((bel l path i).src.map (thingI l)) 0)], (bel l path i).src ++ [i]⟩ := by
  show belStep l path (bel l path i) i = _
  unfold belStep
  rw [he]; simp only; rw [hr]; simp only; rw [hq]
theorem bel_top {l : List Tn} (h : RightL l) {path : Bs} {top : Nat} {q : Tn} (hq : l[top]? = some q) (hp : q.path = path) : ∀ i, i ≤ top → bel l path i = ⟨[], []⟩
  | 0, _ => rfl
  | i + 1, hi => by
    have ht := (List.getElem?_eq_some_iff.1 hq).1
    have he : l[i]? = some l[i] := List.getElem?_eq_getElem (by omega)
    rw [bel_skip he (ahead_none h (by omega : i < top) he hq hp), bel_top h hq hp i (by omega)]
structure Bel (l : List Tn) (path : Bs) (i : Nat) (s : BelS) : Prop where
  len : s.out.length = s.src.length
  asc : s.src.Pairwise (· < ·)
  at_ : ∀ (j m : Nat), s.src[j]? = some m → m < i ∧ ∃ e r q, l[m]? = some e ∧ restOf path e.path = some r ∧ l[thingI l m]? = some q ∧ s.out[j]? = some (mkE e r q (atI (thingI l m) ((s.src.take j).map (thingI l)) 0))
  all : ∀ (m : Nat) (e : Tn) (r : Bs), m < i → l[m]? = some e → restOf path e.path = some r → m ∈ s.src
theorem bel_inv {l : List Tn} (h : RightL l) (path : Bs) : ∀ i, i ≤ l.length → Bel l path i (bel l path i)
  | 0, _ => ⟨rfl, List.Pairwise.nil, by intro j m hm; simp [bel] at hm, by intro m e r hm; omega⟩
  | i + 1, hi => by
    have ih := bel_inv h path i (by omega)
    have he : l[i]? = some l[i] := List.getElem?_eq_getElem (by omega)
    obtain ⟨q, hq, _⟩ := (RightTo.one h (by omega : i < l.length) he).thing he
    generalize l[i] = e at *
    cases hr : restOf path e.path with
    | none =>
      rw [bel_skip he hr]
      refine ⟨ih.len, ih.asc, fun j m hm => ?_, fun m e' r hm he' hr' => ?_⟩
      · obtain ⟨h1, h2⟩ := ih.at_ j m hm
        exact ⟨by omega, h2⟩
      · by_cases e1 : m = i
        · subst e1; rw [he] at he'; cases he'; rw [hr] at hr'; cases hr'
        · exact ih.all m e' r (by omega) he' hr'
    | some r =>
      rw [bel_step he hr hq]
      generalize bel l path i = s at *
      refine ⟨by simp [ih.len], ?_, fun j m hm => ?_, fun m e' r' hm he' hr' => ?_⟩
      · refine List.pairwise_append.2 ⟨ih.asc, List.pairwise_singleton _ _, fun a ha b hb => ?_⟩
        rw [List.mem_singleton] at hb; subst hb
        obtain ⟨j, hj⟩ := List.mem_iff_getElem?.1 ha
        exact (ih.at_ j a hj).1
      · by_cases hj : j < s.src.length
        · simp only at hm ⊢
          rw [List.getElem?_append_left hj] at hm
          obtain ⟨h1, e', r', q', h2, h3, h4, h5⟩ := ih.at_ j m hm
          refine ⟨by omega, e', r', q', h2, h3, h4, ?_⟩
          rw [List.getElem?_append_left (by rw [ih.len]; exact hj), List.take_append_of_le_length (by omega)]
          exact h5
        · simp only at hm ⊢
          have hjl : j = s.src.length := by
            have := (List.getElem?_eq_some_iff.1 hm).1
            simp at this; omega
          subst hjl
          simp at hm; subst hm
          refine ⟨by omega, e, r, q, he, hr, hq, ?_⟩
          rw [List.take_left, ← ih.len]
          simp
      · simp only
        by_cases e1 : m = i
        · subst e1; simp
        · exact List.mem_append_left _ (ih.all m e' r' (by omega) he' hr')
theorem Cut.restOf {path r d n : Bs} (hr : Rooted r) (hne : r ≠ []) (h : Cut (path ++ r) d n) : ∃ d', d = path ++ d' ∧ Rooted d' ∧ Cut r d' n := by
  have hs : (47 : UInt8) ∈ r := by
    rcases hr with e | ⟨t, rfl⟩
    · exact absurd e hne
    · simp
  obtain ⟨d', n', hc⟩ := Cut.ex hs
  have hc' : Cut (path ++ r) (path ++ d') n' := ⟨by rw [hc.1]; simp, hc.2⟩
  obtain ⟨e1, e2⟩ := h.inj hc'
  subst e2
  refine ⟨d', e1, ?_, hc⟩
  rcases hr with e | ⟨t, rfl⟩
  · exact absurd e hne
  · cases d' with
    | nil => exact .inl rfl
    | cons a d' =>
      have := hc.1
      simp at this
      exact .inr ⟨d', by rw [this.1]⟩
end Go.Den
end
section
/- Texts, in plain terms: cut at slashes by the library; the last slash; a text's runes. -/
namespace Go.Den
theorem pieces_none : ∀ {s : Bs}, (47 : UInt8) ∉ s → pieces s = [s]
  | [], _ => rfl
  | c :: r, h => by
    have h1 : c ≠ 47 := fun e => h (by simp [e])
    have h2 : (47 : UInt8) ∉ r := fun e => h (by simp [e])
    rw [pieces_cons, if_neg h1, pieces_none h2]
theorem pieces_hit : ∀ {x t : Bs}, (47 : UInt8) ∉ x → pieces (x ++ 47 :: t) = x :: pieces t
  | [], t, _ => by rw [List.nil_append, pieces_cons, if_pos rfl]
  | c :: r, t, h => by
    have h1 : c ≠ 47 := fun e => h (by simp [e])
    have h2 : (47 : UInt8) ∉ r := fun e => h (by simp [e])
    rw [List.cons_append, pieces_cons, if_neg h1, pieces_hit h2]
theorem occ_one {s : Bs} {c : UInt8} {i : Nat} : Lib.occAt s [c] i = true ↔ s[i]? = some c := by
  unfold Lib.occAt
  constructor
  · intro h
    have := List.isPrefixOf_iff_prefix.1 h
    obtain ⟨t, ht⟩ := this
    have e : (s.drop i)[0]? = some c := by rw [← ht]; rfl
    rw [List.getElem?_drop] at e
    simpa using e
  · intro h
    refine List.isPrefixOf_iff_prefix.2 ⟨s.drop (i + 1), ?_⟩
    obtain ⟨hi, e⟩ := List.getElem?_eq_some_iff.1 h
    rw [List.drop_eq_getElem_cons hi, e]; rfl
theorem splitK_pieces : ∀ (n : Nat) (s : Bs), s.length ≤ n → Lib.splitK [47] 0 (Lib.count s [47]) s = pieces s
  | 0, s, h => by
    have : s = [] := List.eq_nil_of_length_eq_zero (by omega)
    subst this; rfl
  | n + 1, s, h => by
    rcases Lib.index_spec s [47] with ⟨h1, h2⟩ | ⟨i, h1, h2, h3, h4⟩
    · have hno : (47 : UInt8) ∉ s := fun hm => by
        obtain ⟨j, hj⟩ := List.mem_iff_getElem?.1 hm
        have := h2 j (by have := (List.getElem?_eq_some_iff.1 hj).1; omega)
        rw [occ_one.2 hj] at this; cases this
      rw [Lib.count_miss h1, pieces_none hno]; rfl
    · have hi := occ_one.1 h3
      obtain ⟨hil, e⟩ := List.getElem?_eq_some_iff.1 hi
      have hno : (47 : UInt8) ∉ s.take i := fun hm => by
        obtain ⟨j, hj⟩ := List.mem_iff_getElem?.1 hm
        have hji : j < i := by
          have := (List.getElem?_eq_some_iff.1 hj).1
          simp at this; omega
        rw [List.getElem?_take, if_pos hji] at hj
        have := h4 j hji
        rw [occ_one.2 hj] at this; cases this
      have hs : s = s.take i ++ 47 :: s.drop (i + 1) := by
        conv => lhs; rw [← List.take_append_drop i s, List.drop_eq_getElem_cons hil, e]
      rw [Lib.count_hit (by simp) h1, Nat.add_comm]
      show (if Lib.index s [47] == -1 then [s] else s.take ((Lib.index s [47]).toNat + 0) :: Lib.splitK [47] 0 _ (s.drop ((Lib.index s [47]).toNat + 1))) = _
      rw [h1, if_neg (by simp), Int.toNat_natCast, Nat.add_zero]
      have ih := splitK_pieces n (s.drop (i + 1)) (by rw [List.length_drop]; omega)
      have e1 : ([47] : Bs).length = 1 := rfl
      rw [e1, ih]
      conv => rhs; rw [hs]
      rw [pieces_hit hno]
theorem split_pieces (s : ByteArray) (sep : ByteArray) (hsep : sep.data.toList = [47]) : (Lib.splitB sep 0 (Lib.countB s sep) s).map (·.data.toList) = pieces s.data.toList := by
  rw [Lib.splitB_data, hsep]
  have : Lib.countB s sep = Lib.count s.data.toList [47] := by unfold Lib.countB; rw [hsep]
  rw [this]
  exact splitK_pieces _ _ (Nat.le_refl _)
/-- The last slash. -/
theorem cut_at {s : Bs} {i : Nat} (h : s[i]? = some 47) (hn : ∀ j, i < j → s[j]? ≠ some 47) : Cut s (s.take i) (s.drop (i + 1)) := by
  obtain ⟨hi, e⟩ := List.getElem?_eq_some_iff.1 h
  refine ⟨?_, fun hm => ?_⟩
  · conv => lhs; rw [← List.take_append_drop i s, List.drop_eq_getElem_cons hi, e]
  · obtain ⟨j, hj⟩ := List.mem_iff_getElem?.1 hm
    rw [List.getElem?_drop] at hj
    exact hn _ (by omega) hj
/-- A rune of a text: one byte, or bytes from 128 on. -/
theorem decode_spec (s : ByteArray) (i : Nat) (h : i < s.size) :
    ((s.get! i).toNat < 128 ∧ Utf8.decode s i = ((s.get! i).toNat, 1)) ∨
    (128 ≤ (Utf8.decode s i).1 ∧ (Utf8.decode s i).1 < 2147483648 ∧ 1 ≤ (Utf8.decode s i).2 ∧ i + (Utf8.decode s i).2 ≤ s.size ∧ ∀ k, k < (Utf8.decode s i).2 → 128 ≤ (s.get! (i + k)).toNat) := by
  have hb : ∀ k, (s.get! (i + k)).toNat < 256 := fun k => (s.get! (i + k)).toNat_lt
  have hb0 := hb 0
  rw [Nat.add_zero] at hb0
  by_cases h0 : (s.get! i).toNat < 128
  · left
    refine ⟨h0, ?_⟩
    unfold Utf8.decode
    simp only [Nat.add_zero]
    rw [if_pos h0]
  · right
    have c1 : ∀ k, (decide (i + k < s.size) && (s.get! (i + k)).toNat / 64 == 2) = true → i + k < s.size ∧ 128 ≤ (s.get! (i + k)).toNat := fun k hk => by
      simp only [Bool.and_eq_true, decide_eq_true_eq, beq_iff_eq] at hk
      omega
    have h1 := hb 1
    have h2 := hb 2
    have h3 := hb 3
    have one : ∀ k, k < 1 → 128 ≤ (s.get! (i + k)).toNat := fun k hk => by
      have : k = 0 := by omega
      subst this; rw [Nat.add_zero]; omega
    unfold Utf8.decode
    simp only [Nat.add_zero]
    rw [if_neg h0]
    split
    · rename_i hc
      simp only [Bool.and_eq_true] at hc
      have k1 := c1 1 (by simpa using hc.2)
      split
      · refine ⟨by omega, by simp only; omega, by simp, by simp; omega, fun k hk => ?_⟩
        simp only at hk
        rcases (by omega : k = 0 ∨ k = 1) with rfl | rfl
        · exact one 0 (by omega)
        · exact k1.2
      · exact ⟨by simp [Utf8.runeError], by simp [Utf8.runeError], by simp, by simp; omega, one⟩
    · split
      · rename_i hc
        simp only [Bool.and_eq_true] at hc
        have k1 := c1 1 (by simpa using hc.1.2)
        have k2 := c1 2 (by simpa using hc.2)
        split
        · rename_i hv
          simp only [ge_iff_le, Bool.and_eq_true, decide_eq_true_eq] at hv
          refine ⟨by simp only; omega, by simp only; omega, by simp, by simp; omega, fun k hk => ?_⟩
          simp only at hk
          rcases (by omega : k = 0 ∨ k = 1 ∨ k = 2) with rfl | rfl | rfl
          · exact one 0 (by omega)
          · exact k1.2
          · exact k2.2
        · exact ⟨by simp [Utf8.runeError], by simp [Utf8.runeError], by simp, by simp; omega, one⟩
      · split
        · rename_i hc
          simp only [Bool.and_eq_true] at hc
          have k1 := c1 1 (by simpa using hc.1.1.2)
          have k2 := c1 2 (by simpa using hc.1.2)
          have k3 := c1 3 (by simpa using hc.2)
          split
          · rename_i hv
            simp only [ge_iff_le, Bool.and_eq_true, decide_eq_true_eq] at hv
            refine ⟨by simp only; omega, by simp only; omega, by simp, by simp; omega, fun k hk => ?_⟩
            simp only at hk
            rcases (by omega : k = 0 ∨ k = 1 ∨ k = 2 ∨ k = 3) with rfl | rfl | rfl | rfl
            · exact one 0 (by omega)
            · exact k1.2
            · exact k2.2
            · exact k3.2
          · exact ⟨by simp [Utf8.runeError], by simp [Utf8.runeError], by simp, by simp; omega, one⟩
        · exact ⟨by simp [Utf8.runeError], by simp [Utf8.runeError], by simp, by simp; omega, one⟩
end Go.Den
end
section
/- Texts over the denotation: indexing, cutting, joining, comparing. -/
open Go Go.Den Go.Proofs
namespace Go.Den
def sB (xs : Bs) : ByteArray := ⟨xs.toArray⟩
theorem sB_size (xs : Bs) : (sB xs).size = xs.length := by simp [sB, ByteArray.size]
theorem sB_data (xs : Bs) : (sB xs).data.toList = xs := rfl
theorem sB_list (xs : Bs) : (sB xs).toList = xs := by rw [ByteArray.toList_eq]; rfl
theorem sB_of (s : ByteArray) : s = sB s.data.toList := by cases s; rfl
theorem beq_bs (x y : Bs) : (x == y) = decide (x = y) := by rw [Bool.eq_iff_iff, beq_iff_eq, decide_eq_true_eq]
theorem beq_sB (x y : Bs) : ((sB x).toList == (sB y).toList) = decide (x = y) := by rw [sB_list, sB_list, beq_bs]
theorem beq_empty (x : Bs) : ((sB x).toList == ByteArray.empty.toList) = decide (x = []) := beq_sB x []
theorem beq_dot (x : Bs) : ((sB x).toList == (⟨#[46]⟩ : ByteArray).toList) = decide (x = [46]) := beq_sB x [46]
theorem beq_dots (x : Bs) : ((sB x).toList == (⟨#[46, 46]⟩ : ByteArray).toList) = decide (x = [46, 46]) := beq_sB x [46, 46]
theorem sB_extract (x : Bs) (i j : Nat) : (sB x).extract i j = sB ((x.drop i).take (j - i)) := ByteArray.extract_mk x i j
theorem sB_append (x y : Bs) : sB x ++ sB y = sB (x ++ y) := ByteArray.mk_append_mk x y
theorem bl_less : ∀ x y : Bs, Op.bytesLess x y = bl x y
  | x, [] => by cases x <;> rfl
  | [], _ :: _ => rfl
  | a :: x, b :: y => by
    show (a < b || (a == b && Op.bytesLess x y)) = _
    rw [bl_less x y]; rfl
theorem bl_gtr (x y : Bs) : (!(bl x y || (x == y))) = bl y x := by
  rcases bl_tri x y with h | h | h
  · rw [h, bl_asym h]; rfl
  · subst h; rw [bl_irrefl]; simp
  · have h2 : x ≠ y := fun e => by rw [e, bl_irrefl] at h; cases h
    rw [h, bl_asym h, beq_bs]; simp [h2]
theorem beq_c (c d : UInt8) : (((c.toNat : Int)) == (d.toNat : Int)) = decide (c = d) := by
  rw [Bool.eq_iff_iff, beq_iff_eq, decide_eq_true_eq]
  exact ⟨fun h => UInt8.toNat_inj.1 (by omega), fun h => by rw [h]⟩
theorem beq_47 (c : UInt8) : ((c.toNat : Int) == 47) = decide (c = 47) := beq_c c 47
theorem beq_0 (c : UInt8) : ((c.toNat : Int) == 0) = decide (c = 0) := beq_c c 0
theorem bne_47 (c : UInt8) : ((c.toNat : Int) != 47) = decide (c ≠ 47) := by show (!((c.toNat : Int) == 47)) = _; rw [beq_47, decide_not]
theorem bne_0 (c : UInt8) : ((c.toNat : Int) != 0) = decide (c ≠ 0) := by show (!((c.toNat : Int) == 0)) = _; rw [beq_0, decide_not]
theorem Mod.iter {S : Nat → Prop} {a b : World} (h : Mod S a b) (s : ByteArray) (pos : Nat) : Mod S a (b.iter s pos) := h.alloc _
end Go.Den
namespace Go.Proofs.YtiahkkekcmgkfaaDoor
theorem elemZ_strings : elemZ Tryd.prog 52 1 (.string ByteArray.empty) 16 := by unfold elemZ; kernel_rfl
theorem ix_run {x : Bs} {i : Nat} {c : UInt8} (h : x[i]? = some c) : Al (Instr.index 9 (.string (sB x)) (.int .i64 i)) (.int .u8 (c.toNat : Int)) := fun w => by
  obtain ⟨hi, e⟩ := List.getElem?_eq_some_iff.1 h
  have hi2 : i < (sB x).size := by rw [sB_size]; exact hi
  rw [run_index_string w _ (sB x) .i64 i (by kernel_rfl), dif_pos ⟨by omega, by omega⟩]
  have : (sB x)[(i : Int).toNat]'(by omega) = c := by rw [← e]; rfl
  rw [this]
theorem to_run {x : Bs} {j : Nat} (h : j ≤ x.length) : Al (Instr.sliceAt 9 (.string (sB x)) none (some (.int .i64 j)) none) (.string (sB (x.take j))) := fun w => by
  have hs := sB_size x
  rw [run_sliceAt_string (h := by kernel_rfl), run_slice_string_to_if w _ (sB x) .i64 j (by kernel_rfl), if_pos ⟨by omega, by omega⟩, sB_extract]; simp
theorem from_run {x : Bs} {i : Nat} (h : i ≤ x.length) : Al (Instr.sliceAt 9 (.string (sB x)) (some (.int .i64 i)) none none) (.string (sB (x.drop i))) := fun w => by
  have hs := sB_size x
  rw [run_sliceAt_string (h := by kernel_rfl), run_slice_string_from_if w _ (sB x) .i64 i (by kernel_rfl), if_pos ⟨by omega, by omega⟩, sB_extract, hs, Int.toNat_natCast, List.take_of_length_le (by simp)]
theorem one_run {x : Bs} {i : Nat} {c : UInt8} (h : x[i]? = some c) : Al (Instr.sliceAt 9 (.string (sB x)) (some (.int .i64 i)) (some (.int .i64 ((i : Int) + 1))) none) (.string (sB [c])) := fun w => by
  have hs := sB_size x
  obtain ⟨hi, e⟩ := List.getElem?_eq_some_iff.1 h
  rw [run_sliceAt_string (h := by kernel_rfl), run_slice_string_if w _ (sB x) .i64 .i64 i ((i : Int) + 1) (by kernel_rfl), if_pos ⟨by omega, by omega⟩, if_pos ⟨by omega, by omega⟩, sB_extract]
  have e1 : ((i : Int) + 1).toNat - (i : Int).toNat = 1 := by omega
  rw [e1, Int.toNat_natCast, List.drop_eq_getElem_cons hi, e]; rfl
theorem add_run {x y : Bs} {a b : Operand} (h : x.length + y.length ≤ 9223372036854775807) : Al (eqS .add 9 a b (.string (sB x)) (.string (sB y))) (.string (sB (x ++ y))) := fun w => by
  have h1 := sB_size x
  have h2 := sB_size y
  rw [eqS_run (fun w => by simp [eqGuard])]
  show (Op.stringOp .add (sB x) (sB y)).run Tryd.prog w = _
  rw [run_string_add_sum _ _ _ (by omega), sB_append]
theorem lss_run {x y : Bs} {a b : Operand} : Al (eqS .lss 9 a b (.string (sB x)) (.string (sB y))) (.bool (bl x y)) := fun w => by
  rw [eqS_run (fun w => by simp [eqGuard])]
  show (Op.stringOp .lss (sB x) (sB y)).run Tryd.prog w = _
  simp [Op.stringOp, sB_list, bl_less]
theorem gtr_run {x y : Bs} {a b : Operand} : Al (eqS .gtr 9 a b (.string (sB x)) (.string (sB y))) (.bool (bl y x)) := fun w => by
  rw [eqS_run (fun w => by simp [eqGuard])]
  show (Op.stringOp .gtr (sB x) (sB y)).run Tryd.prog w = _
  simp only [Op.stringOp, sB_list, bl_less]
  rw [bl_gtr]; rfl
theorem range_str {w : World} {s : ByteArray} : Ru (Instr.range 9 (.string s)) w (.pointer (some ⟨w.heap.size, 0, none⟩)) (w.iter s 0) := run_range_string w _ s (by kernel_rfl)
theorem next_str {w : World} {s : ByteArray} {pos : Nat} {ty : TypeId} (h : pos < s.size) :
    Ru (Instr.next (.pointer (some ⟨w.heap.size, 0, none⟩)) true ty) (w.iter s pos) (.tuple #[.bool true, .int .i64 pos, .int .i32 ((Utf8.decode s pos).1 : Int)]) (w.iter s (pos + (Utf8.decode s pos).2)) := by
  unfold Ru
  simp only [Instr.next, getObj, setObj, Sem.run_bind, Sem.run, World.iter_heap, Result.andThen, h, if_true, World.iter_set]
  simp [goInt, Sem.run, World.iter_heap, World.iter_set]
theorem end_str {w : World} {s : ByteArray} {pos : Nat} {ty : TypeId} (h : ¬ pos < s.size) : Ru (Instr.next (.pointer (some ⟨w.heap.size, 0, none⟩)) true ty) (w.iter s pos) (.tuple #[.bool false]) (w.iter s pos) := run_next_end w s pos ty h
end Go.Proofs.YtiahkkekcmgkfaaDoor
end
section
/- Texts, walked: the last slash, names, prefixes, cut at slashes, the order of paths. -/
open Go Go.Den Go.Proofs
namespace Go.Den
def sL (l : List Bs) : List Value := l.map fun x => .string (sB x)
theorem sL_get {l : List Bs} {i : Nat} {x : Bs} (h : l[i]? = some x) : (sL l)[i]? = some (.string (sB x)) := by unfold sL; rw [List.getElem?_map, h]; rfl
theorem length_sL (l : List Bs) : (sL l).length = l.length := by simp [sL]
theorem sL_append (l r : List Bs) : sL (l ++ r) = sL l ++ sL r := by simp [sL]
/-- The first package variable holds a number. -/
def Gl (w : World) : Prop := ∃ m, w.cell? ⟨0, 0, none⟩ = some (.int .i64 m)
theorem Gl.pos {w : World} (h : Gl w) : 0 < w.heap.size := by
  obtain ⟨m, h⟩ := h
  unfold World.cell? at h
  split at h
  · rename_i c t fz hc; exact lt_of_heap hc
  · cases h
theorem Gl.keep {S : Nat → Prop} {w w' : World} (h : Gl w) (m : Mod S w w') (hs : ¬ S 0) : Gl w' := by
  have hp := h.pos
  obtain ⟨n, h⟩ := h
  refine ⟨n, ?_⟩
  unfold World.cell? at h ⊢
  rw [m.block 0 hp hs]; exact h
theorem Gl.nos {w w' : World} (h : Gl w) (m : Mod No w w') : Gl w' := h.keep m id
/-- Where a byte stands last. -/
def LastAt (x : Bs) (c : UInt8) (n : Int) : Prop := (n = -1 ∧ c ∉ x) ∨ ∃ i : Nat, n = i ∧ x[i]? = some c ∧ ∀ j, i < j → x[j]? ≠ some c
theorem row_str {w : World} {a : Option Addr} {l : List Bs} {i : Nat} (h : Row w a (sL l)) (hi : i < l.length) : ∃ b o, a = some ⟨b, o, none⟩ ∧ At w b o (sL l) := by
  refine h.resolve_left fun e => ?_
  have := congrArg List.length e
  rw [length_sL] at this; simp at this; rw [this] at hi; simp at hi
end Go.Den
namespace Go.Proofs.YtiahkkekcmgkfaaDoor
section
variable {w : World} {K : Value → World → Prop}
theorem LastIndexS_c {x : Bs} {c : UInt8} (hx : x.length ≤ 9223372036854775807) (hk : ∀ n, LastAt x c n → K (.int .i64 n) w) : Cal Tryd.prog F_bytealg_LastIndexByteString #[.string (sB x), .int .u8 (c.toNat : Int)] w K := by
  apply C_bytealg_LastIndexByteString
  unfold D_bytealg_LastIndexByteString
  have hs := sB_size x
  refine ⟨fun z w1 => w1 = w ∧ ∃ n : Nat, n ≤ x.length ∧ z = [.int .i64 ((n : Int) - 1)] ∧ ∀ j, n ≤ j → x[j]? ≠ some c, fun z _ => (nI z 0 + 1).toNat, ⟨rfl, x.length, Nat.le_refl _, ?_, fun j hj e => ?_⟩, ?_⟩
  · rw [hs, wrap64 (by omega) (by omega)]
  · rw [List.getElem?_eq_none hj] at e; cases e
  rintro z w1 ⟨rfl, n, hn, rfl, hno⟩
  refine ⟨_, rfl, cond_of (fun hb => ?_) (fun hb => ?_)⟩
  · have hb := of_decide_eq_true hb
    have hnx : n - 1 < x.length := by omega
    have e : (n : Int) - 1 = ((n - 1 : Nat) : Int) := by omega
    have hg : x[n - 1]? = some x[n - 1] := List.getElem?_eq_getElem hnx
    rw [e]
    refine ⟨_, ix_run hg, cond_of (fun hc => ?_) (fun hc => ?_)⟩
    · rw [beq_c] at hc
      refine hk _ (.inr ⟨n - 1, rfl, by rw [hg, of_decide_eq_true hc], fun j hj => hno j (by omega)⟩)
    · rw [beq_c] at hc
      have hc := of_decide_eq_false hc
      rw [wrap64 (by omega) (by omega)]
      refine ⟨⟨rfl, n - 1, by omega, rfl, fun j hj => ?_⟩, by simp [nI, nth] <;> omega⟩
      by_cases e2 : j = n - 1
      · subst e2; rw [hg]; exact fun e3 => hc (by simpa using e3)
      · exact hno j (by omega)
  · have hb := of_decide_eq_false hb
    have h0 : n = 0 := by omega
    subst h0
    refine hk _ (.inl ⟨rfl, fun hm => ?_⟩)
    obtain ⟨j, hj⟩ := List.mem_iff_getElem?.1 hm
    exact hno j (Nat.zero_le _) hj
theorem LastIndexByte_c {x : Bs} {c : UInt8} (hx : x.length ≤ 9223372036854775807) (hk : ∀ n, LastAt x c n → K (.int .i64 n) w) : Cal Tryd.prog F_strings_LastIndexByte #[.string (sB x), .int .u8 (c.toNat : Int)] w K := by
  apply C_strings_LastIndexByte
  unfold D_strings_LastIndexByte
  exact LastIndexS_c hx fun n hn => ⟨_, rfl, hk n hn⟩
theorem parent_c {x : Bs} (hx : x.length ≤ 9223372036854775806) (h0 : (47 : UInt8) ∉ x → K (.tuple #[.string (sB []), .string (sB []), .bool false]) w)
    (hk : ∀ w' d n, Mod No w w' → Cut x d n → K (.tuple #[.string (sB d), .string (sB n), .bool true]) w') : Cal Tryd.prog F_dump_parent #[.string (sB x)] w K := by
  apply C_dump_parent
  unfold D_dump_parent
  refine LastIndexByte_c (c := 47) (by omega) fun n hn => ⟨_, rfl, ?_⟩
  rcases hn with ⟨rfl, hno⟩ | ⟨i, rfl, hi, hl⟩
  · exact tt rfl (h0 hno)
  · have hil := (List.getElem?_eq_some_iff.1 hi).1
    refine ff (decide_eq_false (by omega)) ⟨_, to_run (by omega), ?_⟩
    rw [wrap64 (by omega) (by omega)]
    exact ⟨_, from_run (i := i + 1) (by omega), hk _ _ _ (Mod.refl No w).drew (cut_at hi hl)⟩
theorem refParts_c {x r : Bs} (hx : x.length ≤ 9223372036854775806) (hr : x = 47 :: r) (hk : ∀ w' d n, Mod No w w' → Cut x d n → K (.tuple #[.string (sB d), .string (sB n)]) w') : Cal Tryd.prog F_leveeref33_parts #[.string (sB x)] w K := by
  apply C_leveeref33_parts
  unfold D_leveeref33_parts
  have hs := sB_size x
  have h00 : x[0]? = some 47 := by rw [hr]; rfl
  have hpos : 0 < x.length := (List.getElem?_eq_some_iff.1 h00).1
  refine ⟨fun z w1 => w1 = w ∧ ∃ k i : Nat, i ≤ x.length ∧ k < x.length ∧ z = [.int .i64 k, .int .i64 i] ∧ x[k]? = some 47 ∧ ∀ j, k < j → j < i → x[j]? ≠ some 47, fun z _ => (x.length - nI z 1).toNat, ⟨rfl, 0, 0, by omega, hpos, rfl, h00, fun j _ h => by omega⟩, ?_⟩
  rintro z w1 ⟨rfl, k, i, hi, hk0, rfl, hk47, hno⟩
  refine ⟨_, rfl, cond_of (fun hb => ?_) (fun hb => ?_)⟩
  · have hb := of_decide_eq_true hb
    have hix : i < x.length := by omega
    have hg : x[i]? = some x[i] := List.getElem?_eq_getElem hix
    refine ⟨_, ix_run hg, Share.cut (fun z w2 => w2 = w1 ∧ ∃ k' : Nat, k' < x.length ∧ z = [.int .i64 k'] ∧ x[k']? = some 47 ∧ ∀ j, k' < j → j < i + 1 → x[j]? ≠ some 47) (cond_of (fun hc => ?_) (fun hc => ?_)) ?_⟩
    · rw [beq_47] at hc
      exact ⟨rfl, i, hix, rfl, by rw [hg, of_decide_eq_true hc], fun j h1 h2 => by omega⟩
    · rw [beq_47] at hc
      have hc := of_decide_eq_false hc
      refine ⟨rfl, k, hk0, rfl, hk47, fun j h1 h2 => ?_⟩
      by_cases e : j = i
      · subst e; rw [hg]; exact fun e3 => hc (by simpa using e3)
      · exact hno j h1 (by omega)
    rintro z w2 ⟨rfl, k', hk1, rfl, hk2, hk3⟩
    rw [wrap64 (by omega) (by omega)]
    exact ⟨⟨rfl, k', i + 1, by omega, hk1, rfl, hk2, hk3⟩, by simp [nI, nth]; omega⟩
  · have hb := of_decide_eq_false hb
    have hil : i = x.length := by omega
    subst hil
    refine ff (by rw [beq_empty]; exact decide_eq_false (by rw [hr]; simp)) ⟨_, rfl, _, to_run (by omega), ?_⟩
    rw [wrap64 (by omega) (by omega)]
    exact ⟨_, from_run (i := k + 1) (by omega), hk _ _ _ (Mod.refl No w1).drew (cut_at hk47 fun j hj e => hno j hj (List.getElem?_eq_some_iff.1 e).1 e)⟩
theorem all_take {p : UInt8 → Bool} {x : Bs} {i : Nat} {c : UInt8} (h : x[i]? = some c) : (x.take (i + 1)).all p = ((x.take i).all p && p c) := by
  obtain ⟨hi, e⟩ := List.getElem?_eq_some_iff.1 h
  rw [List.take_succ_eq_append_getElem hi, List.all_append, e]; simp
def okc (c : UInt8) : Bool := decide (c ≠ 47) && decide (c ≠ 0)
theorem nameB_of (x : Bs) : nameB x = (!decide (x = [] ∨ x = [46] ∨ x = [46, 46]) && x.all okc && decide (x.length ≤ 24)) := by
  unfold nameB okc
  congr 2
  by_cases h1 : x = [] <;> by_cases h2 : x = [46] <;> by_cases h3 : x = [46, 46] <;> simp [h1, h2, h3]
theorem get_bang {x : Bs} {i : Nat} {c : UInt8} (h : x[i]? = some c) : (sB x).get! i = c := by
  obtain ⟨hi, e⟩ := List.getElem?_eq_some_iff.1 h
  unfold sB ByteArray.get!
  simp [hi, e]
theorem dName_c {x : Bs} (hx : x.length ≤ 9223372036854775807) (hk : ∀ w', Mod No w w' → K (.bool (nameB x)) w') : Cal Tryd.prog F_dirent_Name #[.string (sB x)] w K := by
  apply C_dirent_Name
  unfold D_dirent_Name
  have hs := sB_size x
  refine Share.cut (fun z w1 => w1 = w ∧ z = [.bool (decide (x = [] ∨ x = [46] ∨ x = [46, 46]))]) ?_ ?_
  · rw [beq_empty, beq_dot, beq_dots]
    refine cond_of (fun hb => ⟨rfl, ?_⟩) (fun hb => Share.dup (cond_of (fun hb2 => ⟨rfl, ?_⟩) (fun hb2 => ⟨rfl, ?_⟩)))
    · have := of_decide_eq_true hb; simp [this]
    · have := of_decide_eq_true hb2; simp [nth, this]
    · have h1 := of_decide_eq_false hb
      have h2 := of_decide_eq_false hb2
      simp [nth, h1, h2]
  rintro z w1 ⟨rfl, rfl⟩
  refine ⟨_, rfl, cond_of (fun hb => ?_) (fun hb => ?_)⟩
  · have e : nameB x = false := by rw [nameB_of, hb]; rfl
    rw [← e]; exact hk _ (Mod.refl _ _)
  · refine ⟨_, _, range_str, LoopC.by (fun m z w2 => ∃ (pos : Nat) (y : Value), z = [y] ∧ w2 = w1.iter (sB x) pos ∧ pos ≤ x.length ∧ m = x.length - pos ∧ (x.take pos).all okc = true) ⟨0, _, rfl, rfl, Nat.zero_le _, rfl, by simp⟩ ?_⟩
    rintro m z w2 ⟨pos, y, rfl, rfl, hpos, rfl, hall⟩
    by_cases hp : pos < x.length
    · refine ⟨_, _, next_str (by omega), true, fun w => rfl, tt rfl ⟨_, fun w => rfl, ?_⟩⟩
      have hg : x[pos]? = some x[pos] := List.getElem?_eq_getElem hp
      have hspec := decode_spec (sB x) pos (by omega)
      rw [get_bang hg] at hspec
      rcases hspec with ⟨h128, hd⟩ | ⟨h1, h1', h2, h3, h4⟩
      · rw [hd]
        simp only
        refine Share.cut (fun z w3 => w3 = w1.iter (sB x) (pos + 1) ∧ z = [.bool (!okc x[pos])]) (cond_of (fun hc => ⟨rfl, ?_⟩) (fun hc => ⟨rfl, ?_⟩)) ?_
        · rw [beq_47] at hc
          have := of_decide_eq_true hc
          simp [okc, this]
        · rw [beq_47] at hc
          have := of_decide_eq_false hc
          rw [beq_0]
          simp [okc, this]
        rintro z w3 ⟨rfl, rfl⟩
        refine ⟨_, rfl, cond_of (fun hc => ?_) (fun hc => ?_)⟩
        · have e : nameB x = false := by
            rw [nameB_of]
            have : x.all okc = false := by
              rw [Bool.eq_false_iff]
              intro ha
              have := (List.all_eq_true.1 ha) _ (List.getElem_mem hp)
              simp [this] at hc
            rw [this]; simp
          rw [← e]; exact hk _ ((Mod.refl No w1).iter _ _)
        · exact ⟨x.length - (pos + 1), by omega, pos + 1, _, rfl, rfl, by omega, rfl, by rw [all_take hg, hall]; simpa using hc⟩
      · generalize hdd : Utf8.decode (sB x) pos = dd at *
        have e1 : ((dd.1 : Int) == 47) = false := by rw [beq_eq_false_iff_ne]; omega
        have e2 : ((dd.1 : Int) == 0) = false := by rw [beq_eq_false_iff_ne]; omega
        rw [e1, e2]
        refine Share.cut (fun z w3 => w3 = w1.iter (sB x) (pos + dd.2) ∧ z = [.bool false]) ⟨rfl, rfl⟩ ?_
        rintro z w3 ⟨rfl, rfl⟩
        refine ⟨_, rfl, ff rfl ⟨x.length - (pos + dd.2), by omega, pos + dd.2, _, rfl, rfl, by omega, rfl, ?_⟩⟩
        have hall2 : ∀ k, k ≤ dd.2 → (x.take (pos + k)).all okc = true := by
          intro k
          induction k with
          | zero => intro _; exact hall
          | succ k ih =>
            intro hk'
            have hpk : pos + k < x.length := by omega
            have hgk : x[pos + k]? = some x[pos + k] := List.getElem?_eq_getElem hpk
            have h5 := h4 k (by omega)
            rw [get_bang hgk] at h5
            rw [← Nat.add_assoc, all_take hgk, ih (by omega)]
            have n1 : x[pos + k] ≠ 47 := fun e => by rw [e] at h5; simp at h5
            have n2 : x[pos + k] ≠ 0 := fun e => by rw [e] at h5; simp at h5
            simp [okc, n1, n2]
        exact hall2 _ (Nat.le_refl _)
    · have hpl : pos = x.length := by omega
      subst hpl
      rw [List.take_length] at hall
      refine ⟨_, _, end_str (by omega), false, fun w => rfl, ff rfl ?_⟩
      have e : nameB x = decide (((sB x).size : Int) ≤ 24) := by
        rw [nameB_of, hb, hall, hs]
        simp only [Bool.not_false, Bool.true_and, Bool.and_true, decide_eq_decide]
        omega
      rw [← e]; exact hk _ ((Mod.refl No w1).iter _ _)
theorem refName_c {x : Bs} (hx : x.length ≤ 9223372036854775806) (hk : ∀ w', Mod No w w' → K (.bool (nameB x)) w') : Cal Tryd.prog F_leveeref08_Name #[.string (sB x)] w K := by
  apply C_leveeref08_Name
  unfold D_leveeref08_Name
  have hs := sB_size x
  let B0 : Bool := !decide (x = [] ∨ x = [46] ∨ x = [46, 46]) && decide (x.length ≤ 24)
  refine Share.cut (fun z w1 => w1 = w ∧ z = [.bool B0]) ?_ ?_
  · rw [beq_dot, beq_dots, hs]
    refine cond_of (fun h1 => cond_of (fun h2 => cond_of (fun h3 => ⟨rfl, ?_⟩) (fun h3 => ⟨rfl, ?_⟩)) (fun h2 => ⟨rfl, ?_⟩)) (fun h1 => ⟨rfl, ?_⟩)
    · have h1 := of_decide_eq_true h1
      have h2 := of_decide_eq_true h2
      have h0 : x ≠ [] := fun e => by rw [e] at h1; simp at h1
      have h3 : x ≠ [46] := by simpa using h3
      have h4 : x.length ≤ 24 := by omega
      simp [B0, h0, h3, h4]
    · have h3 : x = [46] := by simpa using h3
      simp [B0, h3]
    · have h2 := of_decide_eq_false h2
      have h4 : ¬ x.length ≤ 24 := by omega
      simp [B0, h4]
    · have h1 := of_decide_eq_false h1
      have h0 : x = [] := List.eq_nil_of_length_eq_zero (by omega)
      simp [B0, h0]
  rintro z w1 ⟨rfl, rfl⟩
  refine ⟨fun z w2 => Mod No w1 w2 ∧ ∃ i : Nat, i ≤ x.length ∧ z = [.bool (B0 && (x.take i).all okc), .int .i64 i], fun z _ => (x.length - nI z 1).toNat, ⟨Mod.refl _ _, 0, Nat.zero_le _, by simp [nth]⟩, ?_⟩
  rintro z w2 ⟨m2, i, hi, rfl⟩
  refine ⟨_, rfl, cond_of (fun hb => ?_) (fun hb => ?_)⟩
  · have hb := of_decide_eq_true hb
    have hix : i < x.length := by omega
    have hg : x[i]? = some x[i] := List.getElem?_eq_getElem hix
    refine Share.cut (fun z w3 => w3 = w2 ∧ z = [.bool (B0 && (x.take (i + 1)).all okc)]) ⟨_, rfl, cond_of (fun hc => ⟨_, ix_run hg, ?_⟩) (fun hc => ⟨rfl, ?_⟩)⟩ ?_
    · rw [bne_0]
      refine cond_of (fun h0 => ⟨_, ix_run hg, rfl, ?_⟩) (fun h0 => ⟨rfl, ?_⟩)
      · rw [bne_47, all_take hg]
        have h0 := of_decide_eq_true h0
        have : (B0 && ((x.take i).all okc && okc x[i])) = okc x[i] := by rw [← Bool.and_assoc, hc, Bool.true_and]
        rw [this]
        simp [okc, h0]
      · rw [all_take hg]
        have h0 : x[i] = 0 := by simpa using h0
        simp [okc, h0]
    · rw [all_take hg]
      have : (B0 && ((x.take i).all okc && okc x[i])) = false := by rw [← Bool.and_assoc, hc, Bool.false_and]
      rw [this]
    rintro z w3 ⟨rfl, rfl⟩
    rw [wrap64 (by omega) (by omega)]
    exact ⟨⟨m2, i + 1, by omega, rfl⟩, by simp [nI, nth]; omega⟩
  · have hb := of_decide_eq_false hb
    have hil : i = x.length := by omega
    subst hil
    refine ⟨_, rfl, ?_⟩
    rw [List.take_length]
    have e : nameB x = (B0 && x.all okc) := by
      rw [nameB_of]
      show _ = (!decide (x = [] ∨ x = [46] ∨ x = [46, 46]) && decide (x.length ≤ 24) && x.all okc)
      rw [Bool.and_assoc, Bool.and_assoc, Bool.and_comm (x.all okc)]
    rw [← e]; exact hk _ m2
theorem HasPrefix_c {x p : Bs} (hk : K (.bool (p.isPrefixOf x)) w) : Cal Tryd.prog F_stringslite_HasPrefix #[.string (sB x), .string (sB p)] w K := by
  apply C_stringslite_HasPrefix
  unfold D_stringslite_HasPrefix
  have hs := sB_size x
  have hp := sB_size p
  refine Share.cut (fun z w1 => w1 = w ∧ z = [.bool (p.isPrefixOf x)]) (cond_of (fun hb => ?_) (fun hb => ⟨rfl, ?_⟩)) ?_
  · have hb := of_decide_eq_true hb
    rw [hp]
    refine ⟨_, to_run (by omega), rfl, ?_⟩
    rw [beq_sB]
    congr 2
    rw [Bool.eq_iff_iff, decide_eq_true_eq, List.isPrefixOf_iff_prefix]
    exact ⟨fun e => ⟨x.drop p.length, by rw [← e, List.length_take, Nat.min_eq_left (by omega), List.take_append_drop]⟩, fun ⟨t, e⟩ => by rw [← e]; simp⟩
  · have hb := of_decide_eq_false hb
    have : p.isPrefixOf x = false := by
      rw [Bool.eq_false_iff]
      intro h
      obtain ⟨t, rfl⟩ := List.isPrefixOf_iff_prefix.1 h
      simp at hs; omega
    rw [this]
  rintro z w1 ⟨rfl, rfl⟩
  exact ⟨_, rfl, hk⟩
theorem CutPrefix_c {x p : Bs} (hk : K (.tuple #[.string (sB (if p.isPrefixOf x = true then x.drop p.length else x)), .bool (p.isPrefixOf x)]) w) : Cal Tryd.prog F_strings_CutPrefix #[.string (sB x), .string (sB p)] w K := by
  apply C_strings_CutPrefix
  unfold D_strings_CutPrefix
  apply C_stringslite_CutPrefix
  unfold D_stringslite_CutPrefix
  refine HasPrefix_c ⟨_, rfl, cond_of (fun hb => ?_) (fun hb => ?_)⟩
  · have hb : p.isPrefixOf x = false := by simpa using hb
    rw [hb, if_neg (by simp)] at hk
    exact ⟨_, _, rfl, hk⟩
  · have hb : p.isPrefixOf x = true := by simpa using hb
    rw [hb, if_pos rfl] at hk
    have hp := sB_size p
    rw [hp]
    have hle : p.length ≤ x.length := (List.isPrefixOf_iff_prefix.1 hb).length_le
    exact ⟨_, from_run hle, _, _, rfl, hk⟩
theorem Split_c {x : Bs} (hx : x.length < 4294967281) (hg : Gl w)
    (hk : ∀ w', Mod No w w' → At w' w.heap.size 0 (sL (pieces x)) → K (.slice (some ⟨w.heap.size, 0, none⟩) (pieces x).length (pieces x).length) w') : Cal Tryd.prog F_strings_Split #[.string (sB x), .string ⟨#[47]⟩] w K := by
  obtain ⟨m, hm⟩ := hg
  refine ⟨⟨_, Tryd.func60, by kernel_rfl, by kernel_rfl⟩, (Tryd.strings_Split (sB x) ⟨#[47]⟩ m w (by rw [sB_size]; exact hx) hm (by decide)).mono fun e w' he => ?_⟩
  obtain ⟨rfl, rfl⟩ := he
  have hp := split_pieces (sB x) ⟨#[47]⟩ rfl
  rw [sB_data] at hp
  have hl : Lib.countB (sB x) ⟨#[47]⟩ + 1 = (pieces x).length := by
    rw [← hp, List.length_map]
    exact (Lib.splitB_all ⟨#[47]⟩ (by decide) 0 _ (sB x) rfl).symm
  rw [hl]
  refine hk _ ((Mod.refl No w).alloc _) ?_
  have e : (Lib.splitB ⟨#[47]⟩ 0 (Lib.countB (sB x) ⟨#[47]⟩) (sB x)).map Value.string = sL (pieces x) := by
    rw [← hp]
    unfold sL
    rw [List.map_map]
    refine List.map_congr_left fun s _ => ?_
    simp only [Function.comp]
    rw [← sB_of]
  rw [e]
  exact AtU.new.at
theorem Compare_c {x y : Bs} (hk : K (.int .i64 (if bl x y = true then -1 else if bl y x = true then 1 else 0)) w) : Cal Tryd.prog F_cmp_Compare_string #[.string (sB x), .string (sB y)] w K := by
  have nan : ∀ {x : Bs} {w : World} {K : Value → World → Prop}, K (.bool false) w → Cal Tryd.prog F_cmp_isNaN_string #[.string (sB x)] w K := fun {x w K} h => by
    apply C_cmp_isNaN_string
    unfold D_cmp_isNaN_string
    rw [beq_sB]; simpa using h
  apply C_cmp_Compare_string
  unfold D_cmp_Compare_string
  refine nan ⟨_, rfl, nan ⟨_, rfl, ff rfl (ff rfl ⟨_, lss_run, cond_of (fun hb => ?_) (fun hb => ⟨_, gtr_run, cond_of (fun hb2 => ?_) (fun hb2 => ?_)⟩)⟩)⟩⟩
  · rw [if_pos hb] at hk; exact hk
  · rw [if_neg (by rw [hb]; simp), if_pos hb2] at hk; exact hk
  · rw [if_neg (by rw [hb]; simp), if_neg (by rw [hb2]; simp)] at hk; exact hk
theorem CompareL_c {a0 a1 : Option Addr} {l0 c0 l1 c1 : Nat} {x y : List Bs} (hx : x.length = l0) (hy : y.length = l1) (h0 : Row w a0 (sL x)) (h1 : Row w a1 (sL y)) (h63 : l0 ≤ 9223372036854775806)
    (hk : K (.int .i64 (clp x y)) w) : Cal Tryd.prog F_slices_Compare_string #[.slice a0 l0 c0, .slice a1 l1 c1] w K := by
  apply C_slices_Compare_string
  unfold D_slices_Compare_string
  refine ⟨fun z w1 => w1 = w ∧ ∃ n : Nat, n ≤ l0 ∧ n ≤ l1 ∧ z = [.int .i64 n] ∧ clp x y = clp (x.drop n) (y.drop n), fun z _ => (l0 - nI z 0).toNat, ⟨rfl, 0, by omega, by omega, rfl, rfl⟩, ?_⟩
  rintro z w1 ⟨rfl, n, hn0, hn1, rfl, he⟩
  refine ⟨_, rfl, cond_of (fun hb => ?_) (fun hb => ?_)⟩
  · have hb := of_decide_eq_true hb
    have hnx : n < x.length := by omega
    have hgx : x[n]? = some x[n] := List.getElem?_eq_getElem hnx
    obtain ⟨b0, o0, rfl, hat0⟩ := row_str h0 hnx
    refine ⟨_, index_slice (k := 1) (by kernel_rfl) (by omega) (by omega), ?_⟩
    rw [add_none, show (n : Int).toNat * 1 = n by omega]
    refine ⟨_, hat0.load (by kernel_rfl) (sL_get hgx), cond_of (fun hc => ?_) (fun hc => ?_)⟩
    · have hc := of_decide_eq_true hc
      have e1 : clp x y = 1 := by
        rw [he, List.drop_eq_getElem_cons hnx, List.drop_eq_nil_of_le (by omega : y.length ≤ n)]; rfl
      rw [← e1]; exact hk
    · have hc := of_decide_eq_false hc
      have hny : n < y.length := by omega
      have hgy : y[n]? = some y[n] := List.getElem?_eq_getElem hny
      obtain ⟨b1, o1, rfl, hat1⟩ := row_str h1 hny
      refine ⟨_, index_slice (k := 1) (by kernel_rfl) (by omega) (by omega), ?_⟩
      rw [add_none, show (n : Int).toNat * 1 = n by omega]
      refine ⟨_, hat1.load (by kernel_rfl) (sL_get hgy), Compare_c ⟨_, rfl, ?_⟩⟩
      rw [List.drop_eq_getElem_cons hnx, List.drop_eq_getElem_cons hny, clp_cons] at he
      refine cond_of (fun hd => ?_) (fun hd => ?_)
      · have e1 : clp x y = (if bl x[n] y[n] = true then -1 else if bl y[n] x[n] = true then 1 else 0) := by
          rw [he]
          by_cases g1 : bl x[n] y[n] = true
          · rw [if_pos g1, if_pos g1]
          · rw [if_neg g1, if_neg g1]
            by_cases g2 : bl y[n] x[n] = true
            · rw [if_pos g2, if_pos g2]
            · rw [if_neg g1, if_neg g2] at hd
              simp at hd
        rw [← e1]; exact hk
      · rw [wrap64 (by omega) (by omega)]
        refine ⟨⟨rfl, n + 1, by omega, by omega, rfl, ?_⟩, by simp [nI, nth]; omega⟩
        rw [he]
        by_cases g1 : bl x[n] y[n] = true
        · rw [if_pos g1] at hd; simp at hd
        · rw [if_neg g1] at hd ⊢
          by_cases g2 : bl y[n] x[n] = true
          · rw [if_pos g2] at hd; simp at hd
          · rw [if_neg g2]
  · have hb := of_decide_eq_false hb
    have hxl : x.drop n = [] := List.drop_eq_nil_of_le (by omega)
    rw [hxl] at he
    refine cond_of (fun hc => ?_) (fun hc => ?_)
    · have hc := of_decide_eq_true hc
      rw [List.drop_eq_getElem_cons (by omega : n < y.length)] at he
      have e1 : clp x y = -1 := he
      rw [← e1]; exact hk
    · have hc := of_decide_eq_false hc
      rw [List.drop_eq_nil_of_le (by omega : y.length ≤ n)] at he
      have e1 : clp x y = 0 := he
      rw [← e1]; exact hk
theorem pieces_len : ∀ x : Bs, (pieces x).length ≤ x.length + 1
  | [] => by simp [pieces]
  | c :: r => by
    have ih := pieces_len r
    rw [pieces_cons]
    split
    · simp; omega
    · split
      · simp
      · rename_i h; rw [h] at ih; simp at ih ⊢; omega
theorem order_c {x y : Bs} (hx : x.length < 4294967281) (hy : y.length < 4294967281) (hg : Gl w) (hk : ∀ w', Mod No w w' → K (.int .i64 (ordP x y)) w') : Cal Tryd.prog F_diff_order #[.string (sB x), .string (sB y)] w K := by
  apply C_diff_order
  unfold D_diff_order
  have hl := pieces_len x
  refine Split_c hx hg fun w1 m1 r1 => ⟨_, _, _, rfl, Split_c hy (hg.nos m1) fun w2 m2 r2 => ⟨_, _, _, rfl, CompareL_c rfl rfl (.inr ⟨_, _, rfl, r1.keep m2 id⟩) (.inr ⟨_, _, rfl, r2⟩) (by omega) ⟨_, rfl, hk _ (m1.no m2)⟩⟩⟩
theorem ahead_c {x y : Bs} (hx : x.length < 4294967281) (hy : y.length < 4294967281) (hg : Gl w) (hk : ∀ w', Mod No w w' → K (.bool (decide (ordP x y < 0))) w') : Cal Tryd.prog F_dump_ahead #[.string (sB x), .string (sB y)] w K := by
  apply C_dump_ahead
  unfold D_dump_ahead
  have hl := pieces_len x
  refine Split_c hx hg fun w1 m1 r1 => ⟨_, _, _, rfl, Split_c hy (hg.nos m1) fun w2 m2 r2 => ⟨_, _, _, rfl, CompareL_c rfl rfl (.inr ⟨_, _, rfl, r1.keep m2 id⟩) (.inr ⟨_, _, rfl, r2⟩) (by omega) ⟨_, rfl, hk _ (m1.no m2)⟩⟩⟩
end
end Go.Proofs.YtiahkkekcmgkfaaDoor
end
