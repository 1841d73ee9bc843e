/- What functions of the translation come to, as printed by a program of this session. -/
import Derived.Test.YtgcecmfjpljpcaaIds
open Go Go.Den Go.Proofs
namespace Go.Proofs.Ytgcecmfjpljpcaa

/- levee.cache.New: slots {9: ''};  -/
set_option maxRecDepth 100000 in
def D_cache_New (p0 : Option Addr) (n1 : Int) (w0 : World) (K : Value → World → Prop) : Prop :=
 (bif Option.isNone p0 then
 K (.tuple #[.pointer none, .int .i64 2]) w0
 else
 Share (fun k => (bif decide (n1 < 1) then k [.bool true] w0 else k [.bool (decide (n1 > 4096))] w0)) fun x w1 =>
 ∃ b9 : Bool, nth x 0 = .bool b9 ∧ (bif b9 then
 K (.tuple #[.pointer none, .int .i64 1]) w1
 else
 ∃ m18 : Option Nat, ∃ w2 : World, Ru (Instr.makeMap 86 none) w1 (.map m18) w2 ∧ ∃ g19 : Array Value, Al (Instr.build 88 #[(0, .pointer p0), (1, .int .i64 n1), (2, .map m18)]) (.agg g19) ∧ ∃ q20 : Addr, ∃ w3 : World, Ru (Instr.box 88 (.agg g19)) w2 (.pointer (some q20)) w3 ∧ K (.tuple #[.pointer (some q20), .int .i64 0]) w3))
set_option maxRecDepth 100000 in
theorem C_cache_New (p0 : Option Addr) (n1 : Int) (w0 : World) (K : Value → World → Prop) (h : D_cache_New p0 n1 w0 K) : Cal Try.prog F_cache_New #[.pointer p0, .int .i64 n1] w0 K :=
 denF_sound (A := { S := [9], ty := [(9, 4)], raw := [] }) mixed Try.func12 (by kernel_rfl) (by kernel_rfl) ((show denF Try.prog _ Try.f12 _ w0 K = D_cache_New p0 n1 w0 K by kernel_rfl).mpr h)

/- (levee.cache.Cache).dirty: slots {};  -/
set_option maxRecDepth 100000 in
def D_cache_Cache_dirty (p0 : Option Addr) (n1 : Int) (w0 : World) (K : Value → World → Prop) : Prop :=
 ∃ q11 : Addr, (.pointer p0 : Value) = .pointer (some q11) ∧ ∃ p13 : Option Addr, Ru (Instr.loadAt 23 (.pointer (some (Addr.add q11 0)))) w0 (.pointer p13) w0 ∧ Cal Try.prog F_disk_Disk_Read #[.pointer p13, .int .i64 n1] w0 fun r15 w1 => ∃ (a15a : Option Addr) (l15a c15a : Nat), ∃ n15b : Int, r15 = .tuple #[.slice a15a l15a c15a, .int .i64 n15b] ∧ ∃ q21 : Addr, (.pointer p0 : Value) = .pointer (some q21) ∧ ∃ m23 : Option Nat, Ru (Instr.loadAt 86 (.pointer (some (Addr.add q21 2)))) w1 (.map m23) w1 ∧ ∃ p25 : Option Addr, Ru (Instr.lookup 86 (.map m23) (.int .i64 n1) false) w1 (.pointer p25) w1 ∧ ∃ q26 : Addr, (.pointer p25 : Value) = .pointer (some q26) ∧ ∃ (a29 : Option Addr) (l29 c29 : Nat), Ru (Instr.loadAt 32 (.pointer (some (Addr.add (Addr.add q26 0) 0)))) w1 (.slice a29 l29 c29) w1 ∧ Cal Try.prog F_num_Diff #[.slice a15a l15a c15a, .slice a29 l29 c29] w1 fun r30 w2 => ∃ n30a : Int, ∃ n30b : Int, r30 = .tuple #[.int .i64 n30a, .int .i64 n30b] ∧ K (.bool (decide (n30a ≥ 0))) w2
set_option maxRecDepth 100000 in
theorem C_cache_Cache_dirty (p0 : Option Addr) (n1 : Int) (w0 : World) (K : Value → World → Prop) (h : D_cache_Cache_dirty p0 n1 w0 K) : Cal Try.prog F_cache_Cache_dirty #[.pointer p0, .int .i64 n1] w0 K :=
 denF_sound (A := { S := [], ty := [], raw := [] }) mixed Try.func54 (by kernel_rfl) (by kernel_rfl) ((show denF Try.prog _ Try.f54 _ w0 K = D_cache_Cache_dirty p0 n1 w0 K by kernel_rfl).mpr h)

/- (levee.cache.Cache).out: slots {};  -/
set_option maxRecDepth 100000 in
def D_cache_Cache_out (p0 : Option Addr) (n1 : Int) (w0 : World) (K : Value → World → Prop) : Prop :=
 ∃ q3 : Addr, ∃ w1 : World, Ru (Instr.box 3 (.int .i64 n1)) w0 (.pointer (some q3)) w1 ∧ ∃ q5 : Addr, (.pointer p0 : Value) = .pointer (some q5) ∧ ∃ m7 : Option Nat, Ru (Instr.loadAt 86 (.pointer (some (Addr.add q5 2)))) (drew w1) (.map m7) (drew w1) ∧ ∃ n8 : Int, Ru (Instr.loadAt 3 (.pointer (some q3))) (drew w1) (.int .i64 n8) (drew w1) ∧ ∃ w2 : World, Ru (Builtin.delete_ #[86, 141] 0 #[.map m7, .int .i64 n8]) (drew w1) (.tuple #[]) w2 ∧ ∃ q11 : Addr, (.pointer p0 : Value) = .pointer (some q11) ∧ ∃ (a13 : Option Addr) (l13 c13 : Nat), Ru (Instr.loadAt 31 (.pointer (some (Addr.add q11 3)))) w2 (.slice a13 l13 c13) w2 ∧ Cal Try.prog F_slices_DeleteFunc_int #[.slice a13 l13 c13, .func (.func F_cache_Cache_out_1) #[] #[.pointer (some q3)]] w2 fun r15 w3 => ∃ (a15 : Option Addr) (l15 c15 : Nat), r15 = .slice a15 l15 c15 ∧ ∃ q16 : Addr, (.pointer p0 : Value) = .pointer (some q16) ∧ ∃ w4 : World, RuU (Instr.storeAt 31 (.pointer (some (Addr.add q16 3))) (.slice a15 l15 c15)) w3 w4 ∧ K (.tuple #[]) w4
set_option maxRecDepth 100000 in
theorem C_cache_Cache_out (p0 : Option Addr) (n1 : Int) (w0 : World) (K : Value → World → Prop) (h : D_cache_Cache_out p0 n1 w0 K) : Cal Try.prog F_cache_Cache_out #[.pointer p0, .int .i64 n1] w0 K :=
 denF_sound (A := { S := [], ty := [], raw := [] }) mixed Try.func64 (by kernel_rfl) (by kernel_rfl) ((show denF Try.prog _ Try.f64 _ w0 K = D_cache_Cache_out p0 n1 w0 K by kernel_rfl).mpr h)

/- (levee.cache.Cache).room: slots {};  -/
set_option maxRecDepth 100000 in
def D_cache_Cache_room (p0 : Option Addr) (w0 : World) (K : Value → World → Prop) : Prop :=
 ∃ q1 : Addr, ∃ w1 : World, Ru (Instr.box 28 (.pointer p0)) w0 (.pointer (some q1)) w1 ∧ ∃ p4 : Option Addr, Ru (Instr.loadAt 28 (.pointer (some q1))) (drew w1) (.pointer p4) (drew w1) ∧ ∃ q5 : Addr, (.pointer p4 : Value) = .pointer (some q5) ∧ ∃ (a7 : Option Addr) (l7 c7 : Nat), Ru (Instr.loadAt 31 (.pointer (some (Addr.add q5 3)))) (drew w1) (.slice a7 l7 c7) (drew w1) ∧ ∃ p9 : Option Addr, Ru (Instr.loadAt 28 (.pointer (some q1))) (drew w1) (.pointer p9) (drew w1) ∧ ∃ q10 : Addr, (.pointer p9 : Value) = .pointer (some q10) ∧ ∃ n12 : Int, Ru (Instr.loadAt 3 (.pointer (some (Addr.add q10 1)))) (drew w1) (.int .i64 n12) (drew w1) ∧ (bif decide ((l7 : Int) < n12) then
 K (.int .i64 0) (drew w1)
 else
 ∃ p14 : Option Addr, Ru (Instr.loadAt 28 (.pointer (some q1))) (drew w1) (.pointer p14) (drew w1) ∧ ∃ q15 : Addr, (.pointer p14 : Value) = .pointer (some q15) ∧ ∃ (a17 : Option Addr) (l17 c17 : Nat), Ru (Instr.loadAt 31 (.pointer (some (Addr.add q15 3)))) (drew w1) (.slice a17 l17 c17) (drew w1) ∧ Cal Try.prog F_slices_IndexFunc_int #[.slice a17 l17 c17, .func (.func F_cache_Cache_room_1) #[] #[.pointer (some q1)]] (drew w1) fun r19 w2 => ∃ n19 : Int, r19 = .int .i64 n19 ∧ (bif decide (n19 < 0) then
 K (.int .i64 5) w2
 else
 ∃ p22 : Option Addr, Ru (Instr.loadAt 28 (.pointer (some q1))) (drew w2) (.pointer p22) (drew w2) ∧ ∃ p23 : Option Addr, Ru (Instr.loadAt 28 (.pointer (some q1))) (drew w2) (.pointer p23) (drew w2) ∧ ∃ q24 : Addr, (.pointer p23 : Value) = .pointer (some q24) ∧ ∃ (a26 : Option Addr) (l26 c26 : Nat), Ru (Instr.loadAt 31 (.pointer (some (Addr.add q24 3)))) (drew w2) (.slice a26 l26 c26) (drew w2) ∧ ∃ q28 : Addr, Al (Instr.indexAt 31 (.slice a26 l26 c26) (.int .i64 n19)) (.pointer (some q28)) ∧ ∃ n29 : Int, Ru (Instr.loadAt 3 (.pointer (some q28))) (drew w2) (.int .i64 n29) (drew w2) ∧ Cal Try.prog F_cache_Cache_out #[.pointer p22, .int .i64 n29] (drew w2) fun r30 w3 => r30 = .tuple #[] ∧ K (.int .i64 0) w3))
set_option maxRecDepth 100000 in
theorem C_cache_Cache_room (p0 : Option Addr) (w0 : World) (K : Value → World → Prop) (h : D_cache_Cache_room p0 w0 K) : Cal Try.prog F_cache_Cache_room #[.pointer p0] w0 K :=
 denF_sound (A := { S := [], ty := [], raw := [] }) mixed Try.func105 (by kernel_rfl) (by kernel_rfl) ((show denF Try.prog _ Try.f105 _ w0 K = D_cache_Cache_room p0 w0 K by kernel_rfl).mpr h)

/- (levee.cache.Cache).room$1: slots {3: ''};  -/
set_option maxRecDepth 100000 in
def D_cache_Cache_room_1 (n0 : Int) (v1 : Value) (w0 : World) (K : Value → World → Prop) : Prop :=
 Share (fun k => ∃ p4 : Option Addr, Ru (Instr.loadAt 28 v1) w0 (.pointer p4) w0 ∧ ∃ q5 : Addr, (.pointer p4 : Value) = .pointer (some q5) ∧ ∃ m7 : Option Nat, Ru (Instr.loadAt 86 (.pointer (some (Addr.add q5 2)))) w0 (.map m7) w0 ∧ ∃ p9 : Option Addr, Ru (Instr.lookup 86 (.map m7) (.int .i64 n0) false) w0 (.pointer p9) w0 ∧ ∃ q10 : Addr, (.pointer p9 : Value) = .pointer (some q10) ∧ ∃ n12 : Int, Ru (Instr.loadAt 3 (.pointer (some (Addr.add q10 1)))) w0 (.int .i64 n12) w0 ∧ (bif n12 == 0 then ∃ p15 : Option Addr, Ru (Instr.loadAt 28 v1) w0 (.pointer p15) w0 ∧ Cal Try.prog F_cache_Cache_dirty #[.pointer p15, .int .i64 n0] w0 fun r17 w1 => ∃ b17 : Bool, r17 = .bool b17 ∧ k [.bool (!b17)] w1 else k [.bool false] w0)) fun x w2 =>
 ∃ b3 : Bool, nth x 0 = .bool b3 ∧ K (.bool b3) w2
set_option maxRecDepth 100000 in
theorem C_cache_Cache_room_1 (n0 : Int) (v1 : Value) (w0 : World) (K : Value → World → Prop) (h : D_cache_Cache_room_1 n0 v1 w0 K) : Cal Try.prog F_cache_Cache_room_1 #[.int .i64 n0, v1] w0 K :=
 denF_sound (A := { S := [3], ty := [(3, 4)], raw := [] }) mixed Try.func133 (by kernel_rfl) (by kernel_rfl) ((show denF Try.prog _ Try.f133 _ w0 K = D_cache_Cache_room_1 n0 v1 w0 K by kernel_rfl).mpr h)

/- (levee.cache.Cache).may: slots {12: '', 24: ''};  -/
set_option maxRecDepth 100000 in
def D_cache_Cache_may (p0 : Option Addr) (n1 : Int) (a2 : Option Addr) (l2 c2 : Nat) (a3 : Option Addr) (l3 c3 : Nat) (w0 : World) (K : Value → World → Prop) : Prop :=
 (bif Option.isNone p0 then
 K (.int .i64 2) w0
 else
 Share (fun k => (bif decide (n1 < 0) then k [.bool true] w0 else ∃ q18 : Addr, (.pointer p0 : Value) = .pointer (some q18) ∧ ∃ p20 : Option Addr, Ru (Instr.loadAt 23 (.pointer (some (Addr.add q18 0)))) w0 (.pointer p20) w0 ∧ Cal Try.prog F_disk_Disk_Len #[.pointer p20] w0 fun r21 w1 => ∃ n21 : Int, r21 = .int .i64 n21 ∧ k [.bool (decide (n1 ≥ n21))] w1)) fun x w2 =>
 ∃ b12 : Bool, nth x 0 = .bool b12 ∧ (bif b12 then
 K (.int .i64 3) w2
 else
 Share (fun k_2 => (bif decide ((l3 : Int) > 0) then Cal Try.prog F_slices_Contains_int #[.slice a3 l3 c3, .int .i64 ((l2 : Int))] w2 fun r32 w3 => ∃ b32 : Bool, r32 = .bool b32 ∧ k_2 [.bool (!b32)] w3 else k_2 [.bool false] w2)) fun x_2 w4 =>
 ∃ b24 : Bool, nth x_2 0 = .bool b24 ∧ (bif b24 then
 K (.int .i64 4) w4
 else
 K (.int .i64 0) w4)))
set_option maxRecDepth 100000 in
theorem C_cache_Cache_may (p0 : Option Addr) (n1 : Int) (a2 : Option Addr) (l2 c2 : Nat) (a3 : Option Addr) (l3 c3 : Nat) (w0 : World) (K : Value → World → Prop) (h : D_cache_Cache_may p0 n1 a2 l2 c2 a3 l3 c3 w0 K) : Cal Try.prog F_cache_Cache_may #[.pointer p0, .int .i64 n1, .slice a2 l2 c2, .slice a3 l3 c3] w0 K :=
 denF_sound (A := { S := [12, 24], ty := [(12, 4), (24, 4)], raw := [] }) mixed Try.func56 (by kernel_rfl) (by kernel_rfl) ((show denF Try.prog _ Try.f56 _ w0 K = D_cache_Cache_may p0 n1 a2 l2 c2 a3 l3 c3 w0 K by kernel_rfl).mpr h)

/- (levee.cache.Cache).ask: slots {};  -/
set_option maxRecDepth 100000 in
def D_cache_Cache_ask (p0 : Option Addr) (n1 : Int) (w0 : World) (K : Value → World → Prop) : Prop :=
 ∃ q3 : Addr, ∃ w1 : World, Ru (Instr.box 3 (.int .i64 n1)) w0 (.pointer (some q3)) w1 ∧ ∃ q14 : Addr, (.pointer p0 : Value) = .pointer (some q14) ∧ ∃ m16 : Option Nat, Ru (Instr.loadAt 86 (.pointer (some (Addr.add q14 2)))) (drew w1) (.map m16) (drew w1) ∧ ∃ n17 : Int, Ru (Instr.loadAt 3 (.pointer (some q3))) (drew w1) (.int .i64 n17) (drew w1) ∧ ∃ p18a : Option Addr, ∃ b18b : Bool, Ru (Instr.lookup 86 (.map m16) (.int .i64 n17) true) (drew w1) (.tuple #[.pointer p18a, .bool b18b]) (drew w1) ∧ (bif b18b then
 ∃ q24 : Addr, (.pointer p0 : Value) = .pointer (some q24) ∧ ∃ (a26 : Option Addr) (l26 c26 : Nat), Ru (Instr.loadAt 31 (.pointer (some (Addr.add q24 3)))) (drew (drew w1)) (.slice a26 l26 c26) (drew (drew w1)) ∧ ∃ n29 : Int, Ru (Instr.loadAt 3 (.pointer (some q3))) (drew (drew w1)) (.int .i64 n29) (drew (drew w1)) ∧ (Cal Try.prog F_slices_DeleteFunc_int #[.slice a26 l26 c26, .func (.func F_cache_Cache_ask_1) #[] #[.pointer (some q3)]] (drew (drew w1)) fun r28 w2 => ∃ (a28 : Option Addr) (l28 c28 : Nat), r28 = .slice a28 l28 c28 ∧ Ru (Instr.loadAt 3 (.pointer (some q3))) w2 (.int .i64 n29) w2 ∧ ∃ (a30 : Option Addr) (l30 c30 : Nat), ∃ w3 : World, Ru (Instr.buildSlice 31 1 #[(0, .int .i64 n29)]) w2 (.slice a30 l30 c30) w3 ∧ Ru (Instr.loadAt 31 (.pointer (some (Addr.add q24 3)))) w3 (.slice a26 l26 c26) w3 ∧ ∃ (a31 : Option Addr) (l31 c31 : Nat), ∃ w4 : World, Ru (Builtin.append_ #[31, 31] 31 #[.slice a28 l28 c28, .slice a30 l30 c30]) w3 (.slice a31 l31 c31) w4 ∧ ∃ q32 : Addr, (.pointer p0 : Value) = .pointer (some q32) ∧ ∃ w5 : World, RuU (Instr.storeAt 31 (.pointer (some (Addr.add q32 3))) (.slice a31 l31 c31)) w4 w5 ∧ K (.tuple #[.pointer p18a, .int .i64 0]) w5) ∧ (∃ (a30_2 : Option Addr) (l30_2 c30_2 : Nat), ∃ w6 : World, Ru (Instr.buildSlice 31 1 #[(0, .int .i64 n29)]) (drew (drew w1)) (.slice a30_2 l30_2 c30_2) w6 ∧ Ru (Instr.loadAt 31 (.pointer (some (Addr.add q24 3)))) w6 (.slice a26 l26 c26) w6 ∧ Cal Try.prog F_slices_DeleteFunc_int #[.slice a26 l26 c26, .func (.func F_cache_Cache_ask_1) #[] #[.pointer (some q3)]] w6 fun r28_2 w7 => ∃ (a28_2 : Option Addr) (l28_2 c28_2 : Nat), r28_2 = .slice a28_2 l28_2 c28_2 ∧ Ru (Instr.loadAt 3 (.pointer (some q3))) w7 (.int .i64 n29) w7 ∧ ∃ (a31_2 : Option Addr) (l31_2 c31_2 : Nat), ∃ w8 : World, Ru (Builtin.append_ #[31, 31] 31 #[.slice a28_2 l28_2 c28_2, .slice a30_2 l30_2 c30_2]) w7 (.slice a31_2 l31_2 c31_2) w8 ∧ ∃ q32_2 : Addr, (.pointer p0 : Value) = .pointer (some q32_2) ∧ ∃ w9 : World, RuU (Instr.storeAt 31 (.pointer (some (Addr.add q32_2 3))) (.slice a31_2 l31_2 c31_2)) w8 w9 ∧ K (.tuple #[.pointer p18a, .int .i64 0]) w9)
 else
 Cal Try.prog F_cache_Cache_room #[.pointer p0] (drew w1) fun r36 w10 => ∃ n36 : Int, r36 = .int .i64 n36 ∧ (bif n36 != 0 then
 K (.tuple #[.pointer none, .int .i64 n36]) w10
 else
 ∃ q42 : Addr, (.pointer p0 : Value) = .pointer (some q42) ∧ ∃ p44 : Option Addr, Ru (Instr.loadAt 23 (.pointer (some (Addr.add q42 0)))) (drew w10) (.pointer p44) (drew w10) ∧ ∃ n45 : Int, Ru (Instr.loadAt 3 (.pointer (some q3))) (drew w10) (.int .i64 n45) (drew w10) ∧ Cal Try.prog F_disk_Disk_Read #[.pointer p44, .int .i64 n45] (drew w10) fun r46 w11 => ∃ (a46a : Option Addr) (l46a c46a : Nat), ∃ n46b : Int, r46 = .tuple #[.slice a46a l46a c46a, .int .i64 n46b] ∧ (bif n46b != 0 then
 K (.tuple #[.pointer none, .int .i64 n46b]) w11
 else
 ∃ g53 : Array Value, Al (Instr.build 96 #[(0, .slice a46a l46a c46a)]) (.agg g53) ∧ ∃ g54 : Array Value, Al (Instr.build 98 #[(0, .agg g53)]) (.agg g54) ∧ ∃ q55 : Addr, ∃ w12 : World, Ru (Instr.box 98 (.agg g54)) w11 (.pointer (some q55)) w12 ∧ ∃ q57 : Addr, (.pointer p0 : Value) = .pointer (some q57) ∧ ∃ m59 : Option Nat, Ru (Instr.loadAt 86 (.pointer (some (Addr.add q57 2)))) (drew w12) (.map m59) (drew w12) ∧ ∃ n60 : Int, Ru (Instr.loadAt 3 (.pointer (some q3))) (drew w12) (.int .i64 n60) (drew w12) ∧ ∃ w13 : World, RuU (Instr.mapUpdate 86 (.map m59) (.int .i64 n60) (.pointer (some q55))) (drew w12) w13 ∧ ∃ q64 : Addr, (.pointer p0 : Value) = .pointer (some q64) ∧ ∃ (a66 : Option Addr) (l66 c66 : Nat), Ru (Instr.loadAt 31 (.pointer (some (Addr.add q64 3)))) (drew w13) (.slice a66 l66 c66) (drew w13) ∧ ∃ n67 : Int, Ru (Instr.loadAt 3 (.pointer (some q3))) (drew w13) (.int .i64 n67) (drew w13) ∧ ∃ (a68 : Option Addr) (l68 c68 : Nat), ∃ w14 : World, Ru (Instr.buildSlice 31 1 #[(0, .int .i64 n67)]) (drew w13) (.slice a68 l68 c68) w14 ∧ Ru (Instr.loadAt 31 (.pointer (some (Addr.add q64 3)))) w14 (.slice a66 l66 c66) w14 ∧ ∃ (a69 : Option Addr) (l69 c69 : Nat), ∃ w15 : World, Ru (Builtin.append_ #[31, 31] 31 #[.slice a66 l66 c66, .slice a68 l68 c68]) w14 (.slice a69 l69 c69) w15 ∧ ∃ q70 : Addr, (.pointer p0 : Value) = .pointer (some q70) ∧ ∃ w16 : World, RuU (Instr.storeAt 31 (.pointer (some (Addr.add q70 3))) (.slice a69 l69 c69)) w15 w16 ∧ K (.tuple #[.pointer (some q55), .int .i64 0]) w16)))
set_option maxRecDepth 100000 in
theorem C_cache_Cache_ask (p0 : Option Addr) (n1 : Int) (w0 : World) (K : Value → World → Prop) (h : D_cache_Cache_ask p0 n1 w0 K) : Cal Try.prog F_cache_Cache_ask #[.pointer p0, .int .i64 n1] w0 K :=
 denF_sound (A := { S := [], ty := [], raw := [] }) mixed Try.func57 (by kernel_rfl) (by kernel_rfl) ((show denF Try.prog _ Try.f57 _ w0 K = D_cache_Cache_ask p0 n1 w0 K by kernel_rfl).mpr h)

/- (levee.cache.Cache).Read: slots {};  -/
set_option maxRecDepth 100000 in
def D_cache_Cache_Read (p0 : Option Addr) (n1 : Int) (w0 : World) (K : Value → World → Prop) : Prop :=
 Cal Try.prog F_cache_Cache_may #[.pointer p0, .int .i64 n1, .slice none 0 0, .slice none 0 0] w0 fun r11 w1 => ∃ n11 : Int, r11 = .int .i64 n11 ∧ (bif n11 != 0 then
 K (.tuple #[.slice none 0 0, .int .i64 n11]) w1
 else
 Cal Try.prog F_cache_Cache_ask #[.pointer p0, .int .i64 n1] w1 fun r18 w2 => ∃ p18a : Option Addr, ∃ n18b : Int, r18 = .tuple #[.pointer p18a, .int .i64 n18b] ∧ (bif n18b != 0 then
 K (.tuple #[.slice none 0 0, .int .i64 n18b]) w2
 else
 ∃ q25 : Addr, (.pointer p18a : Value) = .pointer (some q25) ∧ ∃ (a28 : Option Addr) (l28 c28 : Nat), Ru (Instr.loadAt 32 (.pointer (some (Addr.add (Addr.add q25 0) 0)))) w2 (.slice a28 l28 c28) w2 ∧ Cal Try.prog F_slices_Clone_byte #[.slice a28 l28 c28] w2 fun r29 w3 => ∃ (a29 : Option Addr) (l29 c29 : Nat), r29 = .slice a29 l29 c29 ∧ K (.tuple #[.slice a29 l29 c29, .int .i64 0]) w3))
set_option maxRecDepth 100000 in
theorem C_cache_Cache_Read (p0 : Option Addr) (n1 : Int) (w0 : World) (K : Value → World → Prop) (h : D_cache_Cache_Read p0 n1 w0 K) : Cal Try.prog F_cache_Cache_Read #[.pointer p0, .int .i64 n1] w0 K :=
 denF_sound (A := { S := [], ty := [], raw := [] }) mixed Try.func14 (by kernel_rfl) (by kernel_rfl) ((show denF Try.prog _ Try.f14 _ w0 K = D_cache_Cache_Read p0 n1 w0 K by kernel_rfl).mpr h)

/- (levee.cache.Cache).Lay: slots {};  -/
set_option maxRecDepth 100000 in
def D_cache_Cache_Lay (p0 : Option Addr) (n1 : Int) (a2 : Option Addr) (l2 c2 : Nat) (w0 : World) (K : Value → World → Prop) : Prop :=
 ∃ (a13 : Option Addr) (l13 c13 : Nat), ∃ w1 : World, Ru (Instr.buildSlice 31 1 #[(0, .int .i64 256)]) w0 (.slice a13 l13 c13) w1 ∧ Cal Try.prog F_cache_Cache_may #[.pointer p0, .int .i64 n1, .slice a2 l2 c2, .slice a13 l13 c13] w1 fun r14 w2 => ∃ n14 : Int, r14 = .int .i64 n14 ∧ (bif n14 != 0 then
 K (.int .i64 n14) w2
 else
 Cal Try.prog F_cache_Cache_ask #[.pointer p0, .int .i64 n1] w2 fun r21 w3 => ∃ p21a : Option Addr, ∃ n21b : Int, r21 = .tuple #[.pointer p21a, .int .i64 n21b] ∧ Share (fun k => (bif n21b == 0 then
 Cal Try.prog F_slices_Clone_byte #[.slice a2 l2 c2] w3 fun r28 w4 => ∃ (a28 : Option Addr) (l28 c28 : Nat), r28 = .slice a28 l28 c28 ∧ ∃ q29 : Addr, (.pointer p21a : Value) = .pointer (some q29) ∧ ∃ w5 : World, RuU (Instr.storeAt 32 (.pointer (some (Addr.add (Addr.add q29 0) 0))) (.slice a28 l28 c28)) w4 w5 ∧ k [] w5
 else
 k [] w3)) fun x w6 =>
 K (.int .i64 n21b) w6)
set_option maxRecDepth 100000 in
theorem C_cache_Cache_Lay (p0 : Option Addr) (n1 : Int) (a2 : Option Addr) (l2 c2 : Nat) (w0 : World) (K : Value → World → Prop) (h : D_cache_Cache_Lay p0 n1 a2 l2 c2 w0 K) : Cal Try.prog F_cache_Cache_Lay #[.pointer p0, .int .i64 n1, .slice a2 l2 c2] w0 K :=
 denF_sound (A := { S := [], ty := [], raw := [] }) mixed Try.func15 (by kernel_rfl) (by kernel_rfl) ((show denF Try.prog _ Try.f15 _ w0 K = D_cache_Cache_Lay p0 n1 a2 l2 c2 w0 K by kernel_rfl).mpr h)

/- (levee.cache.Cache).Write: slots {2: 'image'};  -/
set_option maxRecDepth 100000 in
def D_cache_Cache_Write (p0 : Option Addr) (n1 : Int) (a2 : Option Addr) (l2 c2 : Nat) (w0 : World) (K : Value → World → Prop) : Prop :=
 ∃ (a13 : Option Addr) (l13 c13 : Nat), ∃ w1 : World, Ru (Instr.buildSlice 31 2 #[(0, .int .i64 0), (1, .int .i64 256)]) w0 (.slice a13 l13 c13) w1 ∧ Cal Try.prog F_cache_Cache_may #[.pointer p0, .int .i64 n1, .slice a2 l2 c2, .slice a13 l13 c13] w1 fun r14 w2 => ∃ n14 : Int, r14 = .int .i64 n14 ∧ (bif n14 != 0 then
 K (.int .i64 n14) w2
 else
 Cal Try.prog F_cache_Cache_ask #[.pointer p0, .int .i64 n1] w2 fun r21 w3 => ∃ p21a : Option Addr, ∃ n21b : Int, r21 = .tuple #[.pointer p21a, .int .i64 n21b] ∧ (bif n21b != 0 then
 K (.int .i64 n21b) w3
 else
 Share (fun k => (bif (l2 : Int) == 0 then
 ∃ q31 : Addr, (.pointer p21a : Value) = .pointer (some q31) ∧ ∃ (a34 : Option Addr) (l34 c34 : Nat), Ru (Instr.loadAt 32 (.pointer (some (Addr.add (Addr.add q31 0) 0)))) w3 (.slice a34 l34 c34) w3 ∧ k [.slice a34 l34 c34] w3
 else
 k [.slice a2 l2 c2] w3)) fun x w4 =>
 ∃ q36 : Addr, (.pointer p0 : Value) = .pointer (some q36) ∧ ∃ p38 : Option Addr, Ru (Instr.loadAt 23 (.pointer (some (Addr.add q36 0)))) w4 (.pointer p38) w4 ∧ ∃ (a2_2 : Option Addr) (l2_2 c2_2 : Nat), nth x 0 = .slice a2_2 l2_2 c2_2 ∧ Cal Try.prog F_disk_Disk_Write #[.pointer p38, .int .i64 n1, .slice a2_2 l2_2 c2_2] w4 fun r41 w5 => ∃ n41 : Int, r41 = .int .i64 n41 ∧ K (.int .i64 n41) w5))
set_option maxRecDepth 100000 in
theorem C_cache_Cache_Write (p0 : Option Addr) (n1 : Int) (a2 : Option Addr) (l2 c2 : Nat) (w0 : World) (K : Value → World → Prop) (h : D_cache_Cache_Write p0 n1 a2 l2 c2 w0 K) : Cal Try.prog F_cache_Cache_Write #[.pointer p0, .int .i64 n1, .slice a2 l2 c2] w0 K :=
 denF_sound (A := { S := [2], ty := [(2, 32)], raw := [] }) mixed Try.func23 (by kernel_rfl) (by kernel_rfl) ((show denF Try.prog _ Try.f23 _ w0 K = D_cache_Cache_Write p0 n1 a2 l2 c2 w0 K by kernel_rfl).mpr h)

/- (levee.cache.Cache).held: slots {};  -/
set_option maxRecDepth 100000 in
def D_cache_Cache_held (p0 : Option Addr) (n1 : Int) (w0 : World) (K : Value → World → Prop) : Prop :=
 (bif Option.isNone p0 then
 K (.tuple #[.pointer none, .int .i64 2]) w0
 else
 ∃ q12 : Addr, (.pointer p0 : Value) = .pointer (some q12) ∧ ∃ m14 : Option Nat, Ru (Instr.loadAt 86 (.pointer (some (Addr.add q12 2)))) w0 (.map m14) w0 ∧ ∃ p16a : Option Addr, ∃ b16b : Bool, Ru (Instr.lookup 86 (.map m14) (.int .i64 n1) true) w0 (.tuple #[.pointer p16a, .bool b16b]) w0 ∧ (bif !b16b then
 K (.tuple #[.pointer none, .int .i64 20]) w0
 else
 K (.tuple #[.pointer p16a, .int .i64 0]) w0))
set_option maxRecDepth 100000 in
theorem C_cache_Cache_held (p0 : Option Addr) (n1 : Int) (w0 : World) (K : Value → World → Prop) (h : D_cache_Cache_held p0 n1 w0 K) : Cal Try.prog F_cache_Cache_held #[.pointer p0, .int .i64 n1] w0 K :=
 denF_sound (A := { S := [], ty := [], raw := [] }) mixed Try.func59 (by kernel_rfl) (by kernel_rfl) ((show denF Try.prog _ Try.f59 _ w0 K = D_cache_Cache_held p0 n1 w0 K by kernel_rfl).mpr h)

/- (levee.cache.Cache).Pin: slots {};  -/
set_option maxRecDepth 100000 in
def D_cache_Cache_Pin (p0 : Option Addr) (n1 : Int) (w0 : World) (K : Value → World → Prop) : Prop :=
 Cal Try.prog F_cache_Cache_held #[.pointer p0, .int .i64 n1] w0 fun r10 w1 => ∃ p10a : Option Addr, ∃ n10b : Int, r10 = .tuple #[.pointer p10a, .int .i64 n10b] ∧ Share (fun k => (bif n10b == 0 then
 ∃ q16 : Addr, (.pointer p10a : Value) = .pointer (some q16) ∧ ∃ n18 : Int, Ru (Instr.loadAt 3 (.pointer (some (Addr.add q16 1)))) w1 (.int .i64 n18) w1 ∧ ∃ q20 : Addr, (.pointer p10a : Value) = .pointer (some q20) ∧ ∃ w2 : World, RuU (Instr.storeAt 3 (.pointer (some (Addr.add q20 1))) (.int .i64 (IntKind.i64.wrap (n18 + 1)))) w1 w2 ∧ k [] w2
 else
 k [] w1)) fun x w3 =>
 K (.int .i64 n10b) w3
set_option maxRecDepth 100000 in
theorem C_cache_Cache_Pin (p0 : Option Addr) (n1 : Int) (w0 : World) (K : Value → World → Prop) (h : D_cache_Cache_Pin p0 n1 w0 K) : Cal Try.prog F_cache_Cache_Pin #[.pointer p0, .int .i64 n1] w0 K :=
 denF_sound (A := { S := [], ty := [], raw := [] }) mixed Try.func17 (by kernel_rfl) (by kernel_rfl) ((show denF Try.prog _ Try.f17 _ w0 K = D_cache_Cache_Pin p0 n1 w0 K by kernel_rfl).mpr h)

/- (levee.cache.Cache).Unpin: slots {};  -/
set_option maxRecDepth 100000 in
def D_cache_Cache_Unpin (p0 : Option Addr) (n1 : Int) (w0 : World) (K : Value → World → Prop) : Prop :=
 Cal Try.prog F_cache_Cache_held #[.pointer p0, .int .i64 n1] w0 fun r10 w1 => ∃ p10a : Option Addr, ∃ n10b : Int, r10 = .tuple #[.pointer p10a, .int .i64 n10b] ∧ (bif n10b != 0 then
 K (.int .i64 n10b) w1
 else
 ∃ q19 : Addr, (.pointer p10a : Value) = .pointer (some q19) ∧ ∃ n21 : Int, Ru (Instr.loadAt 3 (.pointer (some (Addr.add q19 1)))) w1 (.int .i64 n21) w1 ∧ (bif n21 == 0 then
 K (.int .i64 6) w1
 else
 ∃ q24 : Addr, (.pointer p10a : Value) = .pointer (some q24) ∧ ∃ n26 : Int, Ru (Instr.loadAt 3 (.pointer (some (Addr.add q24 1)))) w1 (.int .i64 n26) w1 ∧ ∃ q28 : Addr, (.pointer p10a : Value) = .pointer (some q28) ∧ ∃ w2 : World, RuU (Instr.storeAt 3 (.pointer (some (Addr.add q28 1))) (.int .i64 (IntKind.i64.wrap (n26 - 1)))) w1 w2 ∧ K (.int .i64 0) w2))
set_option maxRecDepth 100000 in
theorem C_cache_Cache_Unpin (p0 : Option Addr) (n1 : Int) (w0 : World) (K : Value → World → Prop) (h : D_cache_Cache_Unpin p0 n1 w0 K) : Cal Try.prog F_cache_Cache_Unpin #[.pointer p0, .int .i64 n1] w0 K :=
 denF_sound (A := { S := [], ty := [], raw := [] }) mixed Try.func18 (by kernel_rfl) (by kernel_rfl) ((show denF Try.prog _ Try.f18 _ w0 K = D_cache_Cache_Unpin p0 n1 w0 K by kernel_rfl).mpr h)

/- (levee.cache.Cache).Drop: slots {};  -/
set_option maxRecDepth 100000 in
def D_cache_Cache_Drop (p0 : Option Addr) (n1 : Int) (w0 : World) (K : Value → World → Prop) : Prop :=
 Cal Try.prog F_cache_Cache_held #[.pointer p0, .int .i64 n1] w0 fun r10 w1 => ∃ p10a : Option Addr, ∃ n10b : Int, r10 = .tuple #[.pointer p10a, .int .i64 n10b] ∧ (bif n10b != 0 then
 K (.int .i64 n10b) w1
 else
 ∃ q19 : Addr, (.pointer p10a : Value) = .pointer (some q19) ∧ ∃ n21 : Int, Ru (Instr.loadAt 3 (.pointer (some (Addr.add q19 1)))) w1 (.int .i64 n21) w1 ∧ (bif decide (n21 > 0) then
 K (.int .i64 32) w1
 else
 Cal Try.prog F_cache_Cache_out #[.pointer p0, .int .i64 n1] w1 fun r25 w2 => r25 = .tuple #[] ∧ K (.int .i64 0) w2))
set_option maxRecDepth 100000 in
theorem C_cache_Cache_Drop (p0 : Option Addr) (n1 : Int) (w0 : World) (K : Value → World → Prop) (h : D_cache_Cache_Drop p0 n1 w0 K) : Cal Try.prog F_cache_Cache_Drop #[.pointer p0, .int .i64 n1] w0 K :=
 denF_sound (A := { S := [], ty := [], raw := [] }) mixed Try.func24 (by kernel_rfl) (by kernel_rfl) ((show denF Try.prog _ Try.f24 _ w0 K = D_cache_Cache_Drop p0 n1 w0 K by kernel_rfl).mpr h)

/- (levee.cache.Cache).Flush: slots {};  -/
set_option maxRecDepth 100000 in
def D_cache_Cache_Flush (p0 : Option Addr) (w0 : World) (K : Value → World → Prop) : Prop :=
 (bif Option.isNone p0 then
 K (.int .i64 2) w0
 else
 ∃ q6 : Addr, (.pointer p0 : Value) = .pointer (some q6) ∧ ∃ p8 : Option Addr, Ru (Instr.loadAt 23 (.pointer (some (Addr.add q6 0)))) w0 (.pointer p8) w0 ∧ Cal Try.prog F_disk_Disk_Flush #[.pointer p8] w0 fun r9 w1 => ∃ n9 : Int, r9 = .int .i64 n9 ∧ K (.int .i64 n9) w1)
set_option maxRecDepth 100000 in
theorem C_cache_Cache_Flush (p0 : Option Addr) (w0 : World) (K : Value → World → Prop) (h : D_cache_Cache_Flush p0 w0 K) : Cal Try.prog F_cache_Cache_Flush #[.pointer p0] w0 K :=
 denF_sound (A := { S := [], ty := [], raw := [] }) mixed Try.func27 (by kernel_rfl) (by kernel_rfl) ((show denF Try.prog _ Try.f27 _ w0 K = D_cache_Cache_Flush p0 w0 K by kernel_rfl).mpr h)

/- (levee.cache.Cache).Dirty: slots {};  -/
set_option maxRecDepth 100000 in
def D_cache_Cache_Dirty (p0 : Option Addr) (w0 : World) (K : Value → World → Prop) : Prop :=
 ∃ q1 : Addr, ∃ w1 : World, Ru (Instr.box 28 (.pointer p0)) w0 (.pointer (some q1)) w1 ∧ ∃ p4 : Option Addr, Ru (Instr.loadAt 28 (.pointer (some q1))) w1 (.pointer p4) w1 ∧ Cal Try.prog F_cache_Cache_Held #[.pointer p4] w1 fun r5 w2 => ∃ (a5 : Option Addr) (l5 c5 : Nat), r5 = .slice a5 l5 c5 ∧ Cal Try.prog F_slices_DeleteFunc_int #[.slice a5 l5 c5, .func (.func F_cache_Cache_Dirty_1) #[] #[.pointer (some q1)]] w2 fun r7 w3 => ∃ (a7 : Option Addr) (l7 c7 : Nat), r7 = .slice a7 l7 c7 ∧ Cal Try.prog F_slices_Sort_int #[.slice a7 l7 c7] w3 fun r9 w4 => r9 = .tuple #[] ∧ K (.slice a7 l7 c7) w4
set_option maxRecDepth 100000 in
theorem C_cache_Cache_Dirty (p0 : Option Addr) (w0 : World) (K : Value → World → Prop) (h : D_cache_Cache_Dirty p0 w0 K) : Cal Try.prog F_cache_Cache_Dirty #[.pointer p0] w0 K :=
 denF_sound (A := { S := [], ty := [], raw := [] }) mixed Try.func13 (by kernel_rfl) (by kernel_rfl) ((show denF Try.prog _ Try.f13 _ w0 K = D_cache_Cache_Dirty p0 w0 K by kernel_rfl).mpr h)

/- (levee.cache.Cache).Dirty$1: slots {};  -/
set_option maxRecDepth 100000 in
def D_cache_Cache_Dirty_1 (n0 : Int) (v1 : Value) (w0 : World) (K : Value → World → Prop) : Prop :=
 ∃ p4 : Option Addr, Ru (Instr.loadAt 28 v1) w0 (.pointer p4) w0 ∧ Cal Try.prog F_cache_Cache_dirty #[.pointer p4, .int .i64 n0] w0 fun r6 w1 => ∃ b6 : Bool, r6 = .bool b6 ∧ K (.bool (!b6)) w1
set_option maxRecDepth 100000 in
theorem C_cache_Cache_Dirty_1 (n0 : Int) (v1 : Value) (w0 : World) (K : Value → World → Prop) (h : D_cache_Cache_Dirty_1 n0 v1 w0 K) : Cal Try.prog F_cache_Cache_Dirty_1 #[.int .i64 n0, v1] w0 K :=
 denF_sound (A := { S := [], ty := [], raw := [] }) mixed Try.func53 (by kernel_rfl) (by kernel_rfl) ((show denF Try.prog _ Try.f53 _ w0 K = D_cache_Cache_Dirty_1 n0 v1 w0 K by kernel_rfl).mpr h)

/- (levee.cache.Cache).Held: slots {};  -/
set_option maxRecDepth 100000 in
def D_cache_Cache_Held (p0 : Option Addr) (w0 : World) (K : Value → World → Prop) : Prop :=
 (bif Option.isNone p0 then
 K (.slice none 0 0) w0
 else
 ∃ q6 : Addr, (.pointer p0 : Value) = .pointer (some q6) ∧ ∃ (a8 : Option Addr) (l8 c8 : Nat), Ru (Instr.loadAt 31 (.pointer (some (Addr.add q6 3)))) w0 (.slice a8 l8 c8) w0 ∧ Cal Try.prog F_slices_Clone_int #[.slice a8 l8 c8] w0 fun r9 w1 => ∃ (a9 : Option Addr) (l9 c9 : Nat), r9 = .slice a9 l9 c9 ∧ K (.slice a9 l9 c9) w1)
set_option maxRecDepth 100000 in
theorem C_cache_Cache_Held (p0 : Option Addr) (w0 : World) (K : Value → World → Prop) (h : D_cache_Cache_Held p0 w0 K) : Cal Try.prog F_cache_Cache_Held #[.pointer p0] w0 K :=
 denF_sound (A := { S := [], ty := [], raw := [] }) mixed Try.func19 (by kernel_rfl) (by kernel_rfl) ((show denF Try.prog _ Try.f19 _ w0 K = D_cache_Cache_Held p0 w0 K by kernel_rfl).mpr h)

/- levee.leveeref01.Count: slots {0: 'k'};  -/
set_option maxRecDepth 100000 in
def D_leveeref01_Count (n0 : Int) (n1 : Int) (w0 : World) (K : Value → World → Prop) : Prop :=
 (bif decide (n1 < 1) then
 K (.int .i64 0) w0
 else
 ∃ n9 : Int, Al (eqS .rem 3 (.tmp 7) (.tmp 8) (.int .i64 n0) (.int .i64 n1)) (.int .i64 n9) ∧ Share (fun k => (bif decide (n9 < 0) then
 k [.int .i64 (IntKind.i64.wrap (n9 + n1))] w0
 else
 k [.int .i64 n9] w0)) fun x w1 =>
 ∃ n0_2 : Int, nth x 0 = .int .i64 n0_2 ∧ K (.int .i64 n0_2) w1)
set_option maxRecDepth 100000 in
theorem C_leveeref01_Count (n0 : Int) (n1 : Int) (w0 : World) (K : Value → World → Prop) (h : D_leveeref01_Count n0 n1 w0 K) : Cal Try.prog F_leveeref01_Count #[.int .i64 n0, .int .i64 n1] w0 K :=
 denF_sound (A := { S := [0], ty := [(0, 3)], raw := [] }) mixed Try.func11 (by kernel_rfl) (by kernel_rfl) ((show denF Try.prog _ Try.f11 _ w0 K = D_leveeref01_Count n0 n1 w0 K by kernel_rfl).mpr h)

end Go.Proofs.Ytgcecmfjpljpcaa
