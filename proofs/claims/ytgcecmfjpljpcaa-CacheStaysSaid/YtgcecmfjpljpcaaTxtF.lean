/- What functions of the translation come to, as printed by a program of this session. -/
import Derived.Test.YtgcecmfjpljpcaaIds
open Go Go.Den Go.Proofs
namespace Go.Proofs.Ytgcecmfjpljpcaa

/- slices.IndexFunc[[]int,int]: slots {8: ''}; loop over [8] -/
set_option maxRecDepth 100000 in
def D_slices_IndexFunc_int (a0 : Option Addr) (l0 c0 : Nat) (v1 : Value) (w0 : World) (K : Value → World → Prop) : Prop :=
 LoopC (fun k x w1 =>
 ∃ n8 : Int, nth x 0 = .int .i64 n8 ∧ (bif decide (n8 < (l0 : Int)) then
 ∃ q14 : Addr, Al (Instr.indexAt 31 (.slice a0 l0 c0) (.int .i64 n8)) (.pointer (some q14)) ∧ ∃ n15 : Int, Ru (Instr.loadAt 3 (.pointer (some q14))) w1 (.int .i64 n15) w1 ∧ Dyn Try.prog v1 #[.int .i64 n15] w1 fun r16 w2 => ∃ b16 : Bool, r16 = .bool b16 ∧ (bif b16 then
 K (.int .i64 n8) w2
 else
 k [.int .i64 (IntKind.i64.wrap (n8 + 1))] w2)
 else
 K (.int .i64 ((-1))) w1)) [.int .i64 0] w0
set_option maxRecDepth 100000 in
theorem C_slices_IndexFunc_int (a0 : Option Addr) (l0 c0 : Nat) (v1 : Value) (w0 : World) (K : Value → World → Prop) (h : D_slices_IndexFunc_int a0 l0 c0 v1 w0 K) : Cal Try.prog F_slices_IndexFunc_int #[.slice a0 l0 c0, v1] w0 K :=
 denF_sound (A := { S := [8], ty := [(8, 3)], raw := [] }) mixed Try.func99 (by kernel_rfl) (by kernel_rfl) ((show denF Try.prog _ Try.f99 _ w0 K = D_slices_IndexFunc_int a0 l0 c0 v1 w0 K by kernel_rfl).mpr h)

/- slices.DeleteFunc[[]int,int]: slots {5: 'i', 6: 'j'}; loop over [5, 6] -/
set_option maxRecDepth 100000 in
def D_slices_DeleteFunc_int (a0 : Option Addr) (l0 c0 : Nat) (v1 : Value) (w0 : World) (K : Value → World → Prop) : Prop :=
 Cal Try.prog F_slices_IndexFunc_int #[.slice a0 l0 c0, v1] w0 fun r10 w1 => ∃ n10 : Int, r10 = .int .i64 n10 ∧ (bif n10 == (-1) then
 K (.slice a0 l0 c0) w1
 else
 LoopC (fun k x w2 =>
 ∃ n6 : Int, nth x 1 = .int .i64 n6 ∧ (bif decide (n6 < (l0 : Int)) then
 ∃ q24 : Addr, Al (Instr.indexAt 31 (.slice a0 l0 c0) (.int .i64 n6)) (.pointer (some q24)) ∧ ∃ n25 : Int, Ru (Instr.loadAt 3 (.pointer (some q24))) w2 (.int .i64 n25) w2 ∧ Dyn Try.prog v1 #[.int .i64 n25] w2 fun r28 w3 => ∃ b28 : Bool, r28 = .bool b28 ∧ Share (fun k_2 => (bif !b28 then
 ∃ n5 : Int, nth x 0 = .int .i64 n5 ∧ ∃ q33 : Addr, Al (Instr.indexAt 31 (.slice a0 l0 c0) (.int .i64 n5)) (.pointer (some q33)) ∧ ∃ w4 : World, RuU (Instr.storeAt 3 (.pointer (some q33)) (.int .i64 n25)) w3 w4 ∧ k_2 [.int .i64 (IntKind.i64.wrap (n5 + 1))] w4
 else
 k_2 [nth x 0] w3)) fun x_2 w5 =>
 k [nth x_2 0, .int .i64 (IntKind.i64.wrap (n6 + 1))] w5
 else
 ∃ n5_2 : Int, nth x 0 = .int .i64 n5_2 ∧ ∃ (a38 : Option Addr) (l38 c38 : Nat), Al (Instr.sliceAt 31 (.slice a0 l0 c0) (some (.int .i64 n5_2)) none none) (.slice a38 l38 c38) ∧ ∃ w6 : World, Ru (Builtin.clear_ #[31] 0 #[.slice a38 l38 c38]) w2 (.tuple #[]) w6 ∧ ∃ (a41 : Option Addr) (l41 c41 : Nat), Al (Instr.sliceAt 31 (.slice a0 l0 c0) none (some (.int .i64 n5_2)) none) (.slice a41 l41 c41) ∧ K (.slice a41 l41 c41) w6)) [.int .i64 n10, .int .i64 (IntKind.i64.wrap (n10 + 1))] w1)
set_option maxRecDepth 100000 in
theorem C_slices_DeleteFunc_int (a0 : Option Addr) (l0 c0 : Nat) (v1 : Value) (w0 : World) (K : Value → World → Prop) (h : D_slices_DeleteFunc_int a0 l0 c0 v1 w0 K) : Cal Try.prog F_slices_DeleteFunc_int #[.slice a0 l0 c0, v1] w0 K :=
 denF_sound (A := { S := [5, 6], ty := [(5, 3), (6, 3)], raw := [] }) mixed Try.func52 (by kernel_rfl) (by kernel_rfl) ((show denF Try.prog _ Try.f52 _ w0 K = D_slices_DeleteFunc_int a0 l0 c0 v1 w0 K by kernel_rfl).mpr h)

/- slices.Contains[[]int,int]: slots {};  -/
set_option maxRecDepth 100000 in
def D_slices_Contains_int (a0 : Option Addr) (l0 c0 : Nat) (n1 : Int) (w0 : World) (K : Value → World → Prop) : Prop :=
 Cal Try.prog F_slices_Index_int #[.slice a0 l0 c0, .int .i64 n1] w0 fun r7 w1 => ∃ n7 : Int, r7 = .int .i64 n7 ∧ K (.bool (decide (n7 ≥ 0))) w1
set_option maxRecDepth 100000 in
theorem C_slices_Contains_int (a0 : Option Addr) (l0 c0 : Nat) (n1 : Int) (w0 : World) (K : Value → World → Prop) (h : D_slices_Contains_int a0 l0 c0 n1 w0 K) : Cal Try.prog F_slices_Contains_int #[.slice a0 l0 c0, .int .i64 n1] w0 K :=
 denF_sound (A := { S := [], ty := [], raw := [] }) mixed Try.func103 (by kernel_rfl) (by kernel_rfl) ((show denF Try.prog _ Try.f103 _ w0 K = D_slices_Contains_int a0 l0 c0 n1 w0 K by kernel_rfl).mpr h)

/- slices.Index[[]int,int]: slots {8: ''}; loop over [8] -/
set_option maxRecDepth 100000 in
def D_slices_Index_int (a0 : Option Addr) (l0 c0 : Nat) (n1 : Int) (w0 : World) (K : Value → World → Prop) : Prop :=
 LoopC (fun k x w1 =>
 ∃ n8 : Int, nth x 0 = .int .i64 n8 ∧ (bif decide (n8 < (l0 : Int)) then
 ∃ q14 : Addr, Al (Instr.indexAt 31 (.slice a0 l0 c0) (.int .i64 n8)) (.pointer (some q14)) ∧ ∃ n15 : Int, Ru (Instr.loadAt 3 (.pointer (some q14))) w1 (.int .i64 n15) w1 ∧ (bif n1 == n15 then
 K (.int .i64 n8) w1
 else
 k [.int .i64 (IntKind.i64.wrap (n8 + 1))] w1)
 else
 K (.int .i64 ((-1))) w1)) [.int .i64 0] w0
set_option maxRecDepth 100000 in
theorem C_slices_Index_int (a0 : Option Addr) (l0 c0 : Nat) (n1 : Int) (w0 : World) (K : Value → World → Prop) (h : D_slices_Index_int a0 l0 c0 n1 w0 K) : Cal Try.prog F_slices_Index_int #[.slice a0 l0 c0, .int .i64 n1] w0 K :=
 denF_sound (A := { S := [8], ty := [(8, 3)], raw := [] }) mixed Try.func132 (by kernel_rfl) (by kernel_rfl) ((show denF Try.prog _ Try.f132 _ w0 K = D_slices_Index_int a0 l0 c0 n1 w0 K by kernel_rfl).mpr h)

/- slices.Clone[[]byte,byte]: slots {};  -/
set_option maxRecDepth 100000 in
def D_slices_Clone_byte (a0 : Option Addr) (l0 c0 : Nat) (w0 : World) (K : Value → World → Prop) : Prop :=
 ∃ b4 : Bool, Al (eqS .eql 32 (.tmp 3) (.const (.slice none 0 0)) (.slice a0 l0 c0) (.slice none 0 0)) (.bool b4) ∧ (bif b4 then
 K (.slice none 0 0) w0
 else
 ∃ (a5 : Option Addr) (l5 c5 : Nat), ∃ w1 : World, Ru (Instr.buildSlice 32 0 #[]) w0 (.slice a5 l5 c5) w1 ∧ ∃ (a7 : Option Addr) (l7 c7 : Nat), ∃ w2 : World, Ru (Builtin.append_ #[32, 32] 32 #[.slice a5 l5 c5, .slice a0 l0 c0]) w1 (.slice a7 l7 c7) w2 ∧ K (.slice a7 l7 c7) w2)
set_option maxRecDepth 100000 in
theorem C_slices_Clone_byte (a0 : Option Addr) (l0 c0 : Nat) (w0 : World) (K : Value → World → Prop) (h : D_slices_Clone_byte a0 l0 c0 w0 K) : Cal Try.prog F_slices_Clone_byte #[.slice a0 l0 c0] w0 K :=
 denF_sound (A := { S := [], ty := [], raw := [] }) mixed Try.func58 (by kernel_rfl) (by kernel_rfl) ((show denF Try.prog _ Try.f58 _ w0 K = D_slices_Clone_byte a0 l0 c0 w0 K by kernel_rfl).mpr h)

/- slices.Clone[[]int,int]: slots {};  -/
set_option maxRecDepth 100000 in
def D_slices_Clone_int (a0 : Option Addr) (l0 c0 : Nat) (w0 : World) (K : Value → World → Prop) : Prop :=
 ∃ b4 : Bool, Al (eqS .eql 31 (.tmp 3) (.const (.slice none 0 0)) (.slice a0 l0 c0) (.slice none 0 0)) (.bool b4) ∧ (bif b4 then
 K (.slice none 0 0) w0
 else
 ∃ (a5 : Option Addr) (l5 c5 : Nat), ∃ w1 : World, Ru (Instr.buildSlice 31 0 #[]) w0 (.slice a5 l5 c5) w1 ∧ ∃ (a7 : Option Addr) (l7 c7 : Nat), ∃ w2 : World, Ru (Builtin.append_ #[31, 31] 31 #[.slice a5 l5 c5, .slice a0 l0 c0]) w1 (.slice a7 l7 c7) w2 ∧ K (.slice a7 l7 c7) w2)
set_option maxRecDepth 100000 in
theorem C_slices_Clone_int (a0 : Option Addr) (l0 c0 : Nat) (w0 : World) (K : Value → World → Prop) (h : D_slices_Clone_int a0 l0 c0 w0 K) : Cal Try.prog F_slices_Clone_int #[.slice a0 l0 c0] w0 K :=
 denF_sound (A := { S := [], ty := [], raw := [] }) mixed Try.func60 (by kernel_rfl) (by kernel_rfl) ((show denF Try.prog _ Try.f60 _ w0 K = D_slices_Clone_int a0 l0 c0 w0 K by kernel_rfl).mpr h)

/- levee.num.Diff: slots {6: 'first', 7: 'last', 14: '', 34: ''}; loop over [6, 7, 14, 34] -/
set_option maxRecDepth 100000 in
def D_num_Diff (a0 : Option Addr) (l0 c0 : Nat) (a1 : Option Addr) (l1 c1 : Nat) (w0 : World) (K : Value → World → Prop) : Prop :=
 LoopC (fun k x w1 =>
 ∃ n14 : Int, nth x 2 = .int .i64 n14 ∧ (bif decide (n14 < (if (l1 : Int) > (l0 : Int) then (l1 : Int) else (l0 : Int))) then
 Share (fun k_2 => Share (fun k_3 => (bif decide (n14 < (if (l1 : Int) < (l0 : Int) then (l1 : Int) else (l0 : Int))) then ∃ q27 : Addr, Al (Instr.indexAt 32 (.slice a0 l0 c0) (.int .i64 n14)) (.pointer (some q27)) ∧ ∃ n28 : Int, Ru (Instr.loadAt 5 (.pointer (some q27))) (drew w1) (.int .u8 n28) (drew w1) ∧ ∃ q31 : Addr, Al (Instr.indexAt 32 (.slice a1 l1 c1) (.int .i64 n14)) (.pointer (some q31)) ∧ ∃ n32 : Int, Ru (Instr.loadAt 5 (.pointer (some q31))) (drew w1) (.int .u8 n32) (drew w1) ∧ k_3 [.bool (n28 == n32)] (drew w1) else k_3 [.bool false] (drew w1))) fun x_3 w2 =>
 ∃ b34 : Bool, nth x_3 0 = .bool b34 ∧ (bif b34 then
 k_2 [nth x 0, nth x 1, .bool b34] w2
 else
 ∃ n6 : Int, nth x 0 = .int .i64 n6 ∧ Share (fun k_4 => (bif decide (n6 < 0) then
 k_4 [.int .i64 n14] w2
 else
 k_4 [.int .i64 n6] w2)) fun x_4 w3 =>
 k_2 [nth x_4 0, .int .i64 (IntKind.i64.wrap (n14 + 1)), .bool b34] w3)) fun x_2 w4 =>
 k [nth x_2 0, nth x_2 1, .int .i64 (IntKind.i64.wrap (n14 + 1)), nth x_2 2] w4
 else
 ∃ n6_2 : Int, nth x 0 = .int .i64 n6_2 ∧ ∃ n7 : Int, nth x 1 = .int .i64 n7 ∧ K (.tuple #[.int .i64 n6_2, .int .i64 n7]) w1)) [.int .i64 ((-1)), .int .i64 ((-1)), .int .i64 0, undef] w0
set_option maxRecDepth 100000 in
theorem C_num_Diff (a0 : Option Addr) (l0 c0 : Nat) (a1 : Option Addr) (l1 c1 : Nat) (w0 : World) (K : Value → World → Prop) (h : D_num_Diff a0 l0 c0 a1 l1 c1 w0 K) : Cal Try.prog F_num_Diff #[.slice a0 l0 c0, .slice a1 l1 c1] w0 K :=
 denF_sound (A := { S := [6, 7, 14, 34], ty := [(6, 3), (7, 3), (14, 3), (34, 4)], raw := [] }) mixed Try.func100 (by kernel_rfl) (by kernel_rfl) ((show denF Try.prog _ Try.f100 _ w0 K = D_num_Diff a0 l0 c0 a1 l1 c1 w0 K by kernel_rfl).mpr h)

/- (levee.cache.Cache).ask$1: slots {};  -/
set_option maxRecDepth 100000 in
def D_cache_Cache_ask_1 (n0 : Int) (v1 : Value) (w0 : World) (K : Value → World → Prop) : Prop :=
 ∃ n5 : Int, Ru (Instr.loadAt 3 v1) w0 (.int .i64 n5) w0 ∧ K (.bool (n0 == n5)) w0
set_option maxRecDepth 100000 in
theorem C_cache_Cache_ask_1 (n0 : Int) (v1 : Value) (w0 : World) (K : Value → World → Prop) (h : D_cache_Cache_ask_1 n0 v1 w0 K) : Cal Try.prog F_cache_Cache_ask_1 #[.int .i64 n0, v1] w0 K :=
 denF_sound (A := { S := [], ty := [], raw := [] }) mixed Try.func104 (by kernel_rfl) (by kernel_rfl) ((show denF Try.prog _ Try.f104 _ w0 K = D_cache_Cache_ask_1 n0 v1 w0 K by kernel_rfl).mpr h)

/- (levee.cache.Cache).out$1: slots {};  -/
set_option maxRecDepth 100000 in
def D_cache_Cache_out_1 (n0 : Int) (v1 : Value) (w0 : World) (K : Value → World → Prop) : Prop :=
 ∃ n5 : Int, Ru (Instr.loadAt 3 v1) w0 (.int .i64 n5) w0 ∧ K (.bool (n0 == n5)) w0
set_option maxRecDepth 100000 in
theorem C_cache_Cache_out_1 (n0 : Int) (v1 : Value) (w0 : World) (K : Value → World → Prop) (h : D_cache_Cache_out_1 n0 v1 w0 K) : Cal Try.prog F_cache_Cache_out_1 #[.int .i64 n0, v1] w0 K :=
 denF_sound (A := { S := [], ty := [], raw := [] }) mixed Try.func107 (by kernel_rfl) (by kernel_rfl) ((show denF Try.prog _ Try.f107 _ w0 K = D_cache_Cache_out_1 n0 v1 w0 K by kernel_rfl).mpr h)

end Go.Proofs.Ytgcecmfjpljpcaa
