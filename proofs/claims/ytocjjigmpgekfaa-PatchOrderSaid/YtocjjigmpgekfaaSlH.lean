/- The library's slices functions that layer 10 calls: clones, what a row has; num.Diff. -/
import Derived.Test.YtocjjigmpgekfaaSlG
open Go Go.Den Go.Proofs
namespace Go.Proofs.Ytocjjigmpgekfaa
section
variable {w : World} {K : Value → World → Prop}
theorem nil_ints (l c : Nat) : Al (eqS .eql 23 (.tmp 3) (.const (.slice none 0 0)) (.slice none 0 0) (.slice none 0 0)) (.bool true) := fun _ => by kernel_rfl
theorem some_ints (a : Addr) (l c : Nat) : Al (eqS .eql 23 (.tmp 3) (.const (.slice none 0 0)) (.slice (some a) l c) (.slice none 0 0)) (.bool false) := fun _ => by kernel_rfl
theorem nil_bytes : Al (eqS .eql 32 (.tmp 3) (.const (.slice none 0 0)) (.slice none 0 0) (.slice none 0 0)) (.bool true) := fun _ => by kernel_rfl
theorem some_bytes (a : Addr) (l c : Nat) : Al (eqS .eql 32 (.tmp 3) (.const (.slice none 0 0)) (.slice (some a) l c) (.slice none 0 0)) (.bool false) := fun _ => by kernel_rfl
theorem builtI0 (w : World) : (Instr.buildSlice 23 0 #[]).run Try.prog w = .ok (.slice (some ⟨w.heap.size, 0, none⟩) 0 0) (w.alloc (.cells #[] 3)) := by kernel_rfl
theorem builtB0 (w : World) : (Instr.buildSlice 32 0 #[]).run Try.prog w = .ok (.slice (some ⟨w.heap.size, 0, none⟩) 0 0) (w.alloc (.cells #[] 5)) := by kernel_rfl
theorem own_empty {T e : TypeId} {k : Nat} (hu : Try.prog.underlying T = some (.slice e)) : Own Try.prog (w.alloc (.cells #[] e)) w.heap.size T k (some ⟨w.heap.size, 0, none⟩) 0 0 [] :=
  ⟨_, hu, by simp, .inr ⟨w.heap.size, 0, #[], rfl, Nat.le_refl _, heap_new w _, Nat.le_refl _, Nat.zero_le _, by simp, by simp⟩⟩
theorem CloneB_c {a : Option Addr} {l c : Nat} {xs : List UInt8} (hr : Row w a (u8L xs)) (hl : xs.length = l) (h0 : a = none → l = 0 ∧ c = 0) (h63 : l ≤ 1000000000)
    (hk : ∀ w' a' c', Own Try.prog w' w.heap.size 32 1 a' l c' (u8L xs) → Mod No w w' → K (.slice a' l c') w') : Cal Try.prog F_slices_Clone_byte #[.slice a l c] w K := by
  apply C_slices_Clone_byte
  unfold D_slices_Clone_byte
  cases a with
  | none =>
    obtain ⟨rfl, rfl⟩ := h0 rfl
    have hx : xs = [] := List.eq_nil_of_length_eq_zero hl
    subst hx
    exact ⟨_, nil_bytes, tt rfl (hk w none 0 (Own.nil elemZ_bytes) (Mod.refl _ _))⟩
  | some q =>
    refine ⟨_, some_bytes _ _ _, ff rfl ⟨_, _, _, _, builtB0 w, ?_⟩⟩
    have m1 : Mod No w (w.alloc (.cells #[] 5)) := (Mod.refl No w).alloc _
    have hu : Try.prog.underlying 32 = some (.slice 5) := by kernel_rfl
    obtain ⟨a', c', w2, h2, o2, m2⟩ := (own_empty (w := w) (k := 1) hu).append (ty := 32) elemZ_bytes (by omega) (a2 := some q) (m := l) (c2 := c) (ys := u8L xs) (hr.nos m1) (by simp [hl]) (fun e => by cases e) (one_u8L xs) (by omega) (by omega) (by simp)
    rw [Nat.zero_add, List.nil_append] at *
    exact ⟨_, _, _, w2, h2, hk w2 a' c' o2 (m1.up m2 (Nat.le_refl _))⟩
theorem Index_c {a : Option Addr} {l c : Nat} {xs : List Int} {n : Int} (hl : xs.length = l) (h63 : l ≤ 9223372036854775806) (hr : Row w a (iL xs))
    (hk : K (.int .i64 (idxF (fun x => n == x) xs 0)) w) : Cal Try.prog F_slices_Index_int #[.slice a l c, .int .i64 n] w K := by
  apply C_slices_Index_int
  unfold D_slices_Index_int
  refine ⟨fun x w1 => w1 = w ∧ ∃ i : Nat, i ≤ l ∧ x = [.int .i64 i] ∧ idxF (fun x => n == x) xs 0 = idxF (fun x => n == x) (xs.drop i) i, fun x _ => (l - nI x 0).toNat, ⟨rfl, 0, by omega, rfl, rfl⟩, ?_⟩
  rintro x w1 ⟨rfl, i, hi, rfl, hidx⟩
  refine ⟨_, rfl, cond_of (fun hb => ?_) (fun hb => ?_)⟩
  · have hi : i < l := by have := of_decide_eq_true hb; omega
    have hix : i < xs.length := by omega
    obtain ⟨b, o, rfl, hat⟩ := row_some hr hix
    refine ⟨_, index_slice (k := 1) (by kernel_rfl) (by omega) (by omega), ?_⟩
    rw [add_none, show (i : Int).toNat * 1 = i by omega]
    refine ⟨_, hat.load (by kernel_rfl) (iL_get hix), cond_of (fun hp => ?_) (fun hp => ?_)⟩
    · have e : idxF (fun x => n == x) xs 0 = i := by rw [hidx, drop_get hix]; simp only [idxF]; rw [if_pos hp]
      rw [← e]; exact hk
    · rw [wrap64 (x := (i : Int) + 1) (by omega) (by omega)]
      refine ⟨⟨rfl, i + 1, by omega, rfl, ?_⟩, by simp [nI, nth]; omega⟩
      rw [hidx, drop_get hix]; simp only [idxF]; rw [if_neg (by rw [hp]; simp)]
  · have hil : i = l := by have := of_decide_eq_false hb; omega
    have e : idxF (fun x => n == x) xs 0 = -1 := by rw [hidx, List.drop_eq_nil_of_le (by omega)]; rfl
    rw [← e]; exact hk
theorem Contains_c {a : Option Addr} {l c : Nat} {xs : List Int} {n : Int} (hl : xs.length = l) (h63 : l ≤ 9223372036854775806) (hr : Row w a (iL xs))
    (hk : K (.bool (decide (n ∈ xs))) w) : Cal Try.prog F_slices_Contains_int #[.slice a l c, .int .i64 n] w K := by
  apply C_slices_Contains_int
  unfold D_slices_Contains_int
  refine Index_c hl h63 hr ⟨_, rfl, ?_⟩
  have e : decide (idxF (fun x => n == x) xs 0 ≥ 0) = decide (n ∈ xs) := by
    rcases idxF_cases (fun x => n == x) xs 0 with ⟨h1, h2⟩ | ⟨j, x, h1, h2, h3, _⟩
    · have : n ∉ xs := fun h => by have := h2 n h; simp at this
      simp [h1, this]
    · have : n = x := by simpa using h3
      subst this
      have hm := List.mem_of_getElem? h2
      simp [h1, hm]
  rw [e]; exact hk
theorem Diff_c {a0 a1 : Option Addr} {l c0 c1 : Nat} {xs ys : List UInt8} (hx : xs.length = l) (hy : ys.length = l) (h63 : l ≤ 1000000000) (h0 : Row w a0 (u8L xs)) (h1 : Row w a1 (u8L ys))
    (hk : ∀ w' (f la : Int), Mod No w w' → (0 ≤ f ↔ xs ≠ ys) → K (.tuple #[.int .i64 f, .int .i64 la]) w') : Cal Try.prog F_num_Diff #[.slice a0 l c0, .slice a1 l c1] w K := by
  apply C_num_Diff
  unfold D_num_Diff
  refine ⟨fun x w1 => ∃ (i : Nat) (f la : Int) (y : Value), i ≤ l ∧ x = [.int .i64 f, .int .i64 la, .int .i64 i, y] ∧ Mod No w w1 ∧ (0 ≤ f ↔ xs.take i ≠ ys.take i), fun x _ => (l - nI x 2).toNat, ⟨0, -1, -1, _, by omega, rfl, Mod.refl _ _, by simp⟩, ?_⟩
  rintro x w1 ⟨i, f, la, y, hi, rfl, hm, hf⟩
  have hself : (if (l : Int) > (l : Int) then (l : Int) else (l : Int)) = l := by simp
  have hself2 : (if (l : Int) < (l : Int) then (l : Int) else (l : Int)) = l := by simp
  refine ⟨_, rfl, cond_of (fun hb => ?_) (fun hb => ?_)⟩
  · rw [hself] at hb
    have hi : i < l := by have := of_decide_eq_true hb; omega
    have hix : i < xs.length := by omega
    have hiy : i < ys.length := by omega
    obtain ⟨b0, o0, rfl, hat0⟩ := h0.resolve_left (by intro e; have := congrArg List.length e; simp at this; rw [this] at hix; simp at hix)
    obtain ⟨b1, o1, rfl, hat1⟩ := h1.resolve_left (by intro e; have := congrArg List.length e; simp at this; rw [this] at hiy; simp at hiy)
    have hm' : Mod No w (drew w1) := hm.drew
    have tk : (xs.take (i + 1) ≠ ys.take (i + 1)) ↔ (xs.take i ≠ ys.take i ∨ xs[i] ≠ ys[i]) := by
      rw [List.take_succ_eq_append_getElem hix, List.take_succ_eq_append_getElem hiy]
      constructor
      · intro h
        by_cases e : xs.take i = ys.take i
        · right; intro e2; exact h (by rw [e, e2])
        · exact .inl e
      · intro h e
        have := List.append_inj e (by simp; omega)
        simp at this
        rcases h with h | h
        · exact h this.1
        · exact h this.2
    refine Share.cut (fun z w3 => ∃ (f' la' : Int) (y' : Value), z = [.int .i64 f', .int .i64 la', y'] ∧ Mod No w w3 ∧ (0 ≤ f' ↔ xs.take (i + 1) ≠ ys.take (i + 1))) ?_ ?_
    · refine Share.cut (fun z w3 => z = [.bool (decide (xs[i] = ys[i]))] ∧ w3 = drew w1) (tt (by rw [hself2]; exact decide_eq_true (by omega)) ?_) ?_
      · refine ⟨_, index_slice (k := 1) (by kernel_rfl) (by omega) (by omega), ?_⟩
        rw [add_none, show (i : Int).toNat * 1 = i by omega]
        refine ⟨_, (hat0.keep hm' id).load (by kernel_rfl) (u8L_get hix), _, index_slice (k := 1) (by kernel_rfl) (by omega) (by omega), ?_⟩
        rw [add_none, show (i : Int).toNat * 1 = i by omega]
        refine ⟨_, (hat1.keep hm' id).load (by kernel_rfl) (u8L_get hiy), ?_, rfl⟩
        congr 2
        rw [Bool.eq_iff_iff]
        simp only [beq_iff_eq, decide_eq_true_eq]
        constructor
        · intro e; exact UInt8.toNat_inj.1 (by omega)
        · intro e; rw [e]
      rintro z w3 ⟨rfl, rfl⟩
      refine ⟨_, rfl, cond_of (fun hb => ?_) (fun hb => ?_)⟩
      · have he : xs[i] = ys[i] := of_decide_eq_true hb
        refine ⟨f, la, _, rfl, hm', ?_⟩
        rw [hf, tk]
        exact ⟨fun h => .inl h, fun h => h.resolve_right fun h => h he⟩
      · have he : xs[i] ≠ ys[i] := of_decide_eq_false hb
        refine ⟨_, rfl, Share.cut (fun z w4 => ∃ f' : Int, z = [.int .i64 f'] ∧ 0 ≤ f' ∧ w4 = drew w1) (cond_of (fun hb => ⟨_, rfl, by omega, rfl⟩) (fun hb => ⟨_, rfl, by have := of_decide_eq_false hb; omega, rfl⟩)) ?_⟩
        rintro z w4 ⟨f', rfl, hf', rfl⟩
        refine ⟨f', _, _, rfl, hm', ?_⟩
        rw [tk]
        exact ⟨fun _ => .inr he, fun _ => hf'⟩
    · rintro z w3 ⟨f', la', y', rfl, hm3, hf3⟩
      rw [wrap64 (x := (i : Int) + 1) (by omega) (by omega)]
      exact ⟨⟨i + 1, f', la', y', by omega, rfl, hm3, hf3⟩, by simp [nI, nth]; omega⟩
  · rw [hself] at hb
    have hil : i = l := by have := of_decide_eq_false hb; omega
    subst hil
    refine ⟨_, rfl, _, rfl, hk w1 f la hm ?_⟩
    rw [hf, List.take_of_length_le (by omega), List.take_of_length_le (by omega)]
end
end Go.Proofs.Ytocjjigmpgekfaa
