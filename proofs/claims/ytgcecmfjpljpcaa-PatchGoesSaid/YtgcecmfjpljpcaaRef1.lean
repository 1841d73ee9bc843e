/- Layer 1 of the document's answers: bytes of numbers, bytes over bytes, lent rows and whether they are kept. -/
import Derived.Test.YtgcecmfjpljpcaaGrow
import Derived.Laws.Concat
import Derived.Test.YtgcecmfjpljpcaaTxtA
open Go Go.Den Go.Proofs
namespace Go.Den
def nI (x : List Value) (i : Nat) : Int := match nth x i with | .int _ n => n | _ => 0
theorem shl_runU {P : Program} {T : TypeId} {x y : Operand} {a b : Int} (hb : 0 ≤ b) (w : World) : (eqS .shl T x y (.int .u64 a) (.int .u64 b)).run P w = .ok (.int .u64 (IntKind.u64.wrap (a * 2 ^ (min b.toNat 64)))) w := by
  rw [eqS_run (fun w => guard_int _ _ _ _ _ _ _ _ w)]
  have : ¬ b < 0 := by omega
  simp [binOp, Op.shift, this, IntKind.bits]
theorem shr_runU {P : Program} {T : TypeId} {x y : Operand} {a b : Int} (hb : 0 ≤ b) (w : World) : (eqS .shr T x y (.int .u64 a) (.int .u64 b)).run P w = .ok (.int .u64 (a.fdiv (2 ^ (min b.toNat 64)))) w := by
  rw [eqS_run (fun w => guard_int _ _ _ _ _ _ _ _ w)]
  have : ¬ b < 0 := by omega
  simp [binOp, Op.shift, this, IntKind.bits]
section
variable {P : Program} {w : World}
theorem Own.sm {base k l c : Nat} {T : TypeId} {a : Option Addr} {xs : List Value} (h : Own P w base T k a l c xs) (hl : 0 < l) : ∃ g, a = some ⟨g, 0, none⟩ ∧ base ≤ g ∧ AtU w g 0 xs := by
  obtain ⟨e, he, h1, h2⟩ := h
  rcases h2 with ⟨hn, hz⟩ | ⟨g, cap, cur, hv, hb, hg, hle, _, hsz, ht⟩
  · omega
  · simp at hv
    have hm : l * k ≤ cap * k := Nat.mul_le_mul_right _ hle
    refine ⟨g, hv.1, hb, cur.toList, e, (0, 0), hg, ?_, ?_, fun j _ _ => by simp⟩
    · rw [h1]; simp [hsz]; exact hm
    · rw [h1]; simpa using ht
/-- append of one new value. -/
theorem Own.snoc {base k bytes l c : Nat} {T ty : TypeId} {t : TypeId} {z : Value} {a : Option Addr} {xs ys : List Value} (hT : elemZ P T k z bytes) (hk : 0 < k) (h : Own P w base T k a l c xs)
    (hl : ys.length = k) (h1 : ∀ v ∈ ys, v.oneCell' = true) (h63 : (l + 1) * bytes ≤ 140737488355328) (hb : 0 < bytes) (hbase : base ≤ w.heap.size) :
    ∃ a' c' w', (Builtin.append_ #[T, T] ty #[.slice a l c, .slice (some ⟨w.heap.size, 0, none⟩) 1 1]).run P (w.alloc (.cells ⟨ys⟩ t)) = .ok (.slice a' (l + 1) c') w' ∧ Own P w' base T k a' (l + 1) c' (xs ++ ys) ∧ Mod (fun x => base ≤ x) w w' := by
  have hm : Mod No w (w.alloc (.cells ⟨ys⟩ t)) := (Mod.refl No w).alloc _
  obtain ⟨a', c', w', h2, h3, h4⟩ := (h.nos hm).append (ty := ty) hT hk (a2 := some ⟨w.heap.size, 0, none⟩) (m := 1) (c2 := 1) (ys := ys) (.inr ⟨_, _, rfl, AtU.new.at⟩) (by omega) (fun e => by cases e) h1 h63 hb (Nat.le_trans hbase hm.size)
  exact ⟨a', c', w', h2, h3, (hm.mono fun _ _ h => h.elim).trans h4 fun _ _ h => h⟩
theorem Mod.up {base : Nat} {a b c : World} (h : Mod No a b) (m : Mod (fun x => base ≤ x) b c) (hb : a.heap.size ≤ base) : Mod No a c := h.trans m fun x hx e => by omega
theorem u8L_append (xs ys : List UInt8) : u8L (xs ++ ys) = u8L xs ++ u8L ys := by simp [u8L]
theorem u8L_eq {xs : List UInt8} {i : Nat} (h : (u8L xs)[i]? = none) : xs.length ≤ i := by simpa [u8L] using h
end
end Go.Den
namespace Go.Proofs.Ytgcecmfjpljpcaa

theorem built1 (w : World) (v : Int) : (Instr.buildSlice 32 1 #[(0, .int .u8 v)]).run Try.prog w = .ok (.slice (some ⟨w.heap.size, 0, none⟩) 1 1) (w.alloc (.cells ⟨[.int .u8 v]⟩ 5)) := by kernel_rfl
theorem builtI (w : World) (v : Int) : (Instr.buildSlice 31 1 #[(0, .int .i64 v)]).run Try.prog w = .ok (.slice (some ⟨w.heap.size, 0, none⟩) 1 1) (w.alloc (.cells ⟨[.int .i64 v]⟩ 3)) := by kernel_rfl
def a5 : List UInt8 := [165, 165, 165, 165, 165, 165, 165, 165]
theorem built8 (w : World) : (Instr.buildSlice 32 8 #[(0, .int .u8 165), (1, .int .u8 165), (2, .int .u8 165), (3, .int .u8 165), (4, .int .u8 165), (5, .int .u8 165), (6, .int .u8 165), (7, .int .u8 165)]).run Try.prog w = .ok (.slice (some ⟨w.heap.size, 0, none⟩) 8 8) (w.alloc (.cells ⟨u8L a5⟩ 5)) := by kernel_rfl

theorem shr_byte (n : Nat) {i : Nat} (h8 : i < 8) : IntKind.u8.wrap ((n : Int).fdiv (2 ^ (min (8 * (i : Int)).toNat 64))) = ((n / 256 ^ i % 256 : Nat) : Int) := by
  rw [show min (8 * (i : Int)).toNat 64 = 8 * i by omega, wrapU8, Int.fdiv_eq_ediv_of_nonneg _ (Int.le_of_lt (Int.pow_pos (by omega)))]
  have : (256 : Nat) ^ i = 2 ^ (8 * i) := by rw [Nat.pow_mul]
  rw [this, Int.natCast_emod, Int.natCast_ediv, Int.natCast_pow]; rfl
theorem high_byte {n i : Nat} (hn : n < 18446744073709551616) (h8 : ¬ i < 8) : (0 : Int) = ((n / 256 ^ i % 256 : Nat) : Int) := by
  have h1 : 256 ^ 8 ≤ 256 ^ i := Nat.pow_le_pow_right (by omega) (by omega)
  have h2 : (256 : Nat) ^ 8 = 18446744073709551616 := by decide
  rw [Nat.div_eq_of_lt (by rw [h2] at h1; exact Nat.lt_of_lt_of_le hn h1)]; rfl
theorem byte_cell {v : Int} {q : Nat} (hv : v = ((q % 256 : Nat) : Int)) : [Value.int .u8 v] = u8L [UInt8.ofNat (q % 256)] := by
  simp only [u8L, u8, List.map_cons, List.map_nil]
  rw [u8_ofNat, hv]; rfl
/-- A row lent: its bytes, with eight bytes of room behind. -/
def LentAt (w : World) (b l c : Nat) (xs : List UInt8) : Prop := l = xs.length ∧ l + 8 ≤ c ∧ AtU w b 0 (u8L (xs ++ a5))
theorem LentAt.row {w : World} {b l c : Nat} {xs : List UInt8} (h : LentAt w b l c xs) : Row w (some ⟨b, 0, none⟩) (u8L xs) := by
  obtain ⟨h1, h2, h3⟩ := h
  refine .inr ⟨b, 0, rfl, ?_⟩
  have := h3.at.sub (i := 0) (m := xs.length) (by simp)
  simpa [u8L] using this
theorem LentAt.keep {w w' : World} {b l c : Nat} {xs : List UInt8} {S : Nat → Prop} (h : LentAt w b l c xs) (m : Mod S w w') (hb : ¬ S b) : LentAt w' b l c xs := ⟨h.1, h.2.1, h.2.2.keep m hb⟩

theorem Lent_c {a : Option Addr} {l c : Nat} {xs : List UInt8} {w : World} {K : Value → World → Prop} (hl : xs.length = l) (hr : Row w a (u8L xs)) (h0 : a = none → l = 0 ∧ c = 0) (h63 : l ≤ 1048576)
    (h : ∀ w' b cap, w.heap.size ≤ b → Mod No w w' → LentAt w' b l cap xs → K (.slice (some ⟨b, 0, none⟩) l cap) w') : Cal Try.prog F_leveeref01_Lent #[.slice a l c] w K := by
  apply C_leveeref01_Lent
  unfold D_leveeref01_Lent
  rw [wrap64 (x := (l : Int) + 8) (by omega) (by omega)]
  obtain ⟨w1, h1, o1, m1⟩ := make_own (P := Try.prog) (w := w) (base := w.heap.size) (n := l + 8) elemZ_bytes (by omega) (by simp [maxLen]; omega) (Nat.le_refl _)
  refine ⟨_, _, _, w1, h1, ?_⟩
  obtain ⟨a2, c2, w2, h2, o2, m2⟩ := o1.append (ty := 32) elemZ_bytes (by omega) (hr.nos m1) (m := l) (c2 := c) (by simp [hl]) h0 (one_u8L xs) (by omega) (by omega) m1.size
  have m2' := m1.up m2 (Nat.le_refl _)
  refine ⟨_, _, _, w2, h2, _, _, _, _, built8 w2, ?_⟩
  have m3 : Mod No w2 (w2.alloc (.cells ⟨u8L a5⟩ 5)) := (Mod.refl No w2).alloc _
  obtain ⟨a4, c4, w4, h4, o4, m4⟩ := (o2.nos m3).append (ty := 32) elemZ_bytes (by omega) (a2 := some ⟨w2.heap.size, 0, none⟩) (m := 8) (c2 := 8) (ys := u8L a5) (.inr ⟨_, _, rfl, AtU.new.at⟩) rfl (fun e => by cases e) (one_u8L a5) (by omega) (by omega) (Nat.le_trans m2'.size m3.size)
  refine ⟨_, _, _, w4, h4, ?_⟩
  obtain ⟨g, rfl, hg1, hg2⟩ := o4.sm (by omega)
  have hcap := o4.cap
  refine ⟨_, _, _, slice_h (k := 1) (by kernel_rfl) (by omega) (by omega), ?_⟩
  have hcut : cutA (some ⟨g, 0, none⟩) c4 0 1 = some ⟨g, 0, none⟩ := by
    unfold cutA; rw [if_neg (by omega)]; simp [add_none]
  rw [hcut, Int.toNat_natCast]
  refine h w4 g c4 hg1 ((m2'.no m3).up m4 (Nat.le_refl _)) ⟨hl.symm, by omega, ?_⟩
  rw [u8L_append]; simpa using hg2

theorem Kept_c {a1 : Option Addr} {b l l1 c0 c1 : Nat} {xs : List UInt8} {w : World} {K : Value → World → Prop} (ho : LentAt w b l c0 xs) (hl : l1 = l) (hr : Row w a1 (u8L xs)) (h63 : l ≤ 1048576)
    (h : ∀ w', Mod No w w' → K (.bool true) w') : Cal Try.prog F_leveeref01_Kept #[.slice (some ⟨b, 0, none⟩) l c0, .slice a1 l1 c1] w K := by
  apply C_leveeref01_Kept
  unfold D_leveeref01_Kept
  obtain ⟨e1, e2, hat⟩ := ho
  subst hl
  refine Share.cut (fun z w' => z = [.bool false] ∧ w' = w) ⟨_, str_run (by kernel_rfl) (LentAt.row ⟨e1, e2, hat⟩) e1.symm, _, str_run (by kernel_rfl) hr e1.symm, ff (by simp) ⟨?_, rfl⟩⟩ ?_
  · rw [wrap64 (x := (l1 : Int) + 8) (by omega) (by omega)]
    simp; omega
  rintro z w' ⟨rfl, rfl⟩
  refine ⟨_, rfl, ff rfl ?_⟩
  rw [wrap64 (x := (l1 : Int) + 8) (by omega) (by omega)]
  refine ⟨_, _, _, slice_h (k := 1) (by kernel_rfl) (by omega) (by omega), ?_⟩
  have hcut : cutA (some ⟨b, 0, none⟩) c0 0 1 = some ⟨b, 0, none⟩ := by
    unfold cutA; rw [if_neg (by omega)]; simp [add_none]
  rw [hcut]
  refine ⟨_, str_run (xs := xs ++ a5) (by kernel_rfl) (.inr ⟨_, _, rfl, hat.at.drew⟩) (by simp [a5]; omega), _, str_run (by kernel_rfl) (show Row (drew w') a1 (u8L xs) from hr) e1.symm, ⟨(xs ++ a5).toArray⟩, ?_, ?_⟩
  · intro w3
    rw [eqS_run (fun w => by simp [eqGuard])]
    have hsz : ¬ (9223372036854775807 < (((⟨xs.toArray⟩ : ByteArray).size : Int) + ((⟨#[165, 165, 165, 165, 165, 165, 165, 165]⟩ : ByteArray).size : Int))) := by
      have h1 : (⟨xs.toArray⟩ : ByteArray).size = xs.length := by simp [ByteArray.size]
      have h2 : (⟨#[165, 165, 165, 165, 165, 165, 165, 165]⟩ : ByteArray).size = 8 := rfl
      rw [h1, h2]; omega
    simp [binOp, Op.stringOp, if_neg hsz, a5]
    exact ByteArray.mk_append_mk xs [165, 165, 165, 165, 165, 165, 165, 165]
  · have := h _ ((Mod.refl No w').drew)
    simpa using this

theorem Spoil_c {b l c : Nat} {xs : List UInt8} {w : World} {K : Value → World → Prop} (hat : AtU w b 0 (u8L xs)) (hl : l ≤ xs.length) (h63 : l ≤ 1048576)
    (h : ∀ w', Mod (fun x => x = b) w w' → K (.tuple #[]) w') : Cal Try.prog F_leveeref01_Spoil #[.slice (some ⟨b, 0, none⟩) l c] w K := by
  apply C_leveeref01_Spoil
  unfold D_leveeref01_Spoil
  refine ⟨fun x w1 => ∃ (i : Nat) (ys : List Value), i ≤ l ∧ x = [.int .i64 i] ∧ ys.length = xs.length ∧ AtU w1 b 0 ys ∧ Mod (fun x => x = b) w w1, fun x _ => (l - nI x 0).toNat, ⟨0, u8L xs, by omega, rfl, by simp, hat, Mod.refl _ _⟩, ?_⟩
  rintro x w1 ⟨i, ys, hi, rfl, hy, hat1, hm⟩
  refine ⟨_, rfl, cond_of (fun hb => ?_) (fun hb => ?_)⟩
  · have hi : i < l := by have := of_decide_eq_true hb; omega
    refine ⟨_, index_slice (k := 1) (by kernel_rfl) (by omega) (by omega), ?_⟩
    rw [add_none, show (i : Int).toNat * 1 = i by omega]
    obtain ⟨w2, h1, h2, h3, h4⟩ := hat1.store (P := Try.prog) (T := 5) (i := i) (v := .int .u8 90) (by kernel_rfl) (by omega) rfl
    rw [wrap64 (x := (i : Int) + 1) (by omega) (by omega)]
    exact ⟨w2, h1, ⟨i + 1, _, by omega, rfl, by simpa using hy, h2, hm.trans h3 fun _ _ h => h⟩, by simp [nI, nth]; omega⟩
  · exact h w1 hm

theorem Ints_c {a0 a1 : Option Addr} {l c0 c1 : Nat} {xs : List Int} {w : World} {K : Value → World → Prop} (hl : xs.length = l) (h0 : Row w a0 (iL xs)) (h1 : Row w a1 (iL xs)) (h63 : l ≤ 9223372036854775807)
    (h : ∀ w', Mod No w w' → K (.bool true) w') : Cal Try.prog F_leveeref01_Ints #[.slice a0 l c0, .slice a1 l c1] w K := by
  apply C_leveeref01_Ints
  unfold D_leveeref01_Ints
  refine ff (by simp) ?_
  refine ⟨fun x w1 => ∃ i : Nat, i ≤ l ∧ x = [.int .i64 i] ∧ Mod No w w1, fun x _ => (l - nI x 0).toNat, ⟨0, by omega, rfl, Mod.refl _ _⟩, ?_⟩
  rintro x w1 ⟨i, hi, rfl, hm⟩
  refine ⟨_, rfl, cond_of (fun hb => ?_) (fun hb => ?_)⟩
  · have hi : i < l := by have := of_decide_eq_true hb; omega
    have hix : i < xs.length := by omega
    have hne : ¬ iL xs = [] := fun e => by have := congrArg List.length e; simp at this; rw [this] at hix; simp at hix
    obtain ⟨b0, o0, rfl, hat0⟩ := h0.resolve_left hne
    obtain ⟨b1, o1, rfl, hat1⟩ := h1.resolve_left hne
    refine ⟨_, index_slice (k := 1) (by kernel_rfl) (by omega) (by omega), ?_⟩
    rw [add_none, show (i : Int).toNat * 1 = i by omega]
    refine ⟨_, ((hat0.keep hm id).drew).load (by kernel_rfl) (iL_get hix), _, index_slice (k := 1) (by kernel_rfl) (by omega) (by omega), ?_⟩
    rw [add_none, show (i : Int).toNat * 1 = i by omega]
    refine ⟨_, ((hat1.keep hm id).drew).load (by kernel_rfl) (iL_get hix), ff (by simp) ?_⟩
    rw [wrap64 (x := (i : Int) + 1) (by omega) (by omega)]
    exact ⟨⟨i + 1, by omega, rfl, hm.drew⟩, by simp [nI, nth]; omega⟩
  · exact h w1 hm
end Go.Proofs.Ytgcecmfjpljpcaa
