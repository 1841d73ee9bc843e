/- The library's slices functions that layer 10 calls: contracts. -/
import Derived.Test.YtocjjigmpgekfaaSlF
open Go Go.Den Go.Proofs
namespace Go.Den
/-- The first place with a mark. -/
def idxF {α : Type} (p : α → Bool) : List α → Nat → Int
  | [], _ => -1
  | x :: r, i => if p x = true then i else idxF p r (i + 1)
theorem idxF_cases {α : Type} (p : α → Bool) : ∀ (xs : List α) (i : Nat), (idxF p xs i = -1 ∧ ∀ x ∈ xs, p x = false) ∨ ∃ j x, idxF p xs i = ((i + j : Nat) : Int) ∧ xs[j]? = some x ∧ p x = true ∧ ∀ y ∈ xs.take j, p y = false
  | [], _ => .inl ⟨rfl, by simp⟩
  | x :: r, i => by
    simp only [idxF]
    by_cases hp : p x = true
    · rw [if_pos hp]
      exact .inr ⟨0, x, by simp, rfl, hp, by simp⟩
    · rw [if_neg hp]
      have hp : p x = false := by simpa using hp
      rcases idxF_cases p r (i + 1) with ⟨h1, h2⟩ | ⟨j, y, h1, h2, h3, h4⟩
      · refine .inl ⟨h1, fun y hy => ?_⟩
        rcases List.mem_cons.1 hy with rfl | hy
        · exact hp
        · exact h2 y hy
      · refine .inr ⟨j + 1, y, by rw [h1]; congr 1; omega, by simpa using h2, h3, fun z hz => ?_⟩
        rw [List.take_succ_cons] at hz
        rcases List.mem_cons.1 hz with rfl | hz
        · exact hp
        · exact h4 z hz
theorem drop_get {α : Type} {xs : List α} {i : Nat} (hi : i < xs.length) : xs.drop i = xs[i] :: xs.drop (i + 1) := List.drop_eq_getElem_cons hi
theorem row_some {w : World} {a : Option Addr} {xs : List Int} {i : Nat} (h : Row w a (iL xs)) (hi : i < xs.length) : ∃ b o, a = some ⟨b, o, none⟩ ∧ At w b o (iL xs) := by
  refine h.resolve_left fun e => ?_
  have := congrArg List.length e
  simp at this; rw [this] at hi; simp at hi
end Go.Den
namespace Go.Proofs.Ytocjjigmpgekfaa
/-- A function value that tells of each of some numbers, whatever turns in S. -/
def Tells (v : Value) (w0 : World) (S : Nat → Prop) (p : Int → Bool) (xs : List Int) : Prop :=
  ∀ w', Mod S w0 w' → ∀ x ∈ xs, ∀ K : Value → World → Prop, (∀ w'', Mod No w' w'' → K (.bool (p x)) w'') → Dyn Try.prog v #[.int .i64 x] w' K
section
variable {w : World} {K : Value → World → Prop}
theorem IndexFunc_c {a : Option Addr} {l c : Nat} {xs : List Int} {v : Value} {p : Int → Bool} {S : Nat → Prop} (hl : xs.length = l) (h63 : l ≤ 9223372036854775806) (hr : Row w a (iL xs)) (ht : Tells v w S p xs)
    (hk : ∀ w', Mod No w w' → K (.int .i64 (idxF p xs 0)) w') : Cal Try.prog F_slices_IndexFunc_int #[.slice a l c, v] w K := by
  apply C_slices_IndexFunc_int
  unfold D_slices_IndexFunc_int
  refine ⟨fun x w1 => ∃ i : Nat, i ≤ l ∧ x = [.int .i64 i] ∧ Mod No w w1 ∧ idxF p xs 0 = idxF p (xs.drop i) i, fun x _ => (l - nI x 0).toNat, ⟨0, by omega, rfl, Mod.refl _ _, rfl⟩, ?_⟩
  rintro x w1 ⟨i, hi, rfl, hm, hidx⟩
  refine ⟨_, rfl, cond_of (fun hb => ?_) (fun hb => ?_)⟩
  · have hi : i < l := by have := of_decide_eq_true hb; omega
    have hix : i < xs.length := by omega
    obtain ⟨b, o, rfl, hat⟩ := row_some hr hix
    refine ⟨_, index_slice (k := 1) (by kernel_rfl) (by omega) (by omega), ?_⟩
    rw [add_none, show (i : Int).toNat * 1 = i by omega]
    refine ⟨_, (hat.keep hm id).load (by kernel_rfl) (iL_get hix), ht w1 (hm.mono fun _ _ h => h.elim) _ (List.getElem_mem hix) _ fun w2 m2 => ⟨_, rfl, cond_of (fun hp => ?_) (fun hp => ?_)⟩⟩
    · have e : idxF p xs 0 = i := by rw [hidx, drop_get hix]; simp only [idxF]; rw [if_pos hp]
      rw [← e]; exact hk w2 (hm.no m2)
    · rw [wrap64 (x := (i : Int) + 1) (by omega) (by omega)]
      refine ⟨⟨i + 1, by omega, rfl, hm.no m2, ?_⟩, by simp [nI, nth]; omega⟩
      rw [hidx, drop_get hix]; simp only [idxF]; rw [if_neg (by rw [hp]; simp)]
  · have hil : i = l := by have := of_decide_eq_false hb; omega
    have e : idxF p xs 0 = -1 := by rw [hidx, List.drop_eq_nil_of_le (by omega)]; rfl
    rw [← e]; exact hk w1 hm

/-- The block of a row. -/
def Of (a : Option Addr) : Nat → Prop := fun x => ∃ q, a = some q ∧ x = q.block
theorem keep_step {α : Type} {p : α → Bool} {xs ys : List α} {i j : Nat} (h1 : ys.take i = (xs.take j).filter fun x => !p x) (h2 : ys.drop j = xs.drop j) (h3 : ys.length = xs.length) (hij : i < j) (hj : j < xs.length) (hp : p xs[j] = false) :
    (ys.set i xs[j]).take (i + 1) = (xs.take (j + 1)).filter (fun x => !p x) ∧ (ys.set i xs[j]).drop (j + 1) = xs.drop (j + 1) := by
  constructor
  · rw [List.take_succ_eq_append_getElem (by simp; omega), List.take_set_of_le (by omega), h1, List.take_succ_eq_append_getElem hj, List.filter_append]
    simp [hp]
  · rw [List.drop_set_of_lt (by omega), ← List.drop_drop, h2, List.drop_drop]
theorem DeleteFunc_c {base : Nat} {a : Option Addr} {l c : Nat} {xs : List Int} {v : Value} {p : Int → Bool} (h : Own Try.prog w base 23 1 a l c (iL xs)) (h63 : l ≤ 1000000000) (ht : Tells v w (Of a) p xs)
    (hk : ∀ w' l', Own Try.prog w' base 23 1 a l' c (iL (xs.filter fun x => !p x)) → l' = (xs.filter fun x => !p x).length → Mod (Of a) w w' → K (.slice a l' c) w') : Cal Try.prog F_slices_DeleteFunc_int #[.slice a l c, v] w K := by
  have hlen : xs.length = l := by have := h.len; simpa using this
  apply C_slices_DeleteFunc_int
  unfold D_slices_DeleteFunc_int
  refine IndexFunc_c hlen (by omega) h.rowU.row ht fun w1 m1 => ⟨_, rfl, ?_⟩
  rcases idxF_cases p xs 0 with ⟨e, hno⟩ | ⟨i0, x0, e, hx0, hp0, hbef⟩
  · rw [e]
    refine tt rfl ?_
    have hf : xs.filter (fun x => !p x) = xs := List.filter_eq_self.2 fun x hx => by simp [hno x hx]
    exact hk w1 l (by rw [hf]; exact h.nos m1) (by rw [hf]; exact hlen.symm) (m1.mono fun _ _ h => h.elim)
  rw [e, Nat.zero_add]
  obtain ⟨hi0, hx0'⟩ := List.getElem?_eq_some_iff.1 hx0
  have hla : 0 < l := by omega
  obtain ⟨g, rfl, hg, _⟩ := h.sm hla
  have hcap := h.cap
  refine ff (by simp <;> omega) ⟨fun x w2 => ∃ (i j : Nat) (ys : List Int), x = [.int .i64 i, .int .i64 j] ∧ i < j ∧ j ≤ l ∧ Own Try.prog w2 base 23 1 (some ⟨g, 0, none⟩) l c (iL ys) ∧ ys.take i = ((xs.take j).filter fun x => !p x) ∧ ys.drop j = xs.drop j ∧ Mod (Of (some ⟨g, 0, none⟩)) w w2,
    fun x _ => (l - nI x 1).toNat, ⟨i0, i0 + 1, xs, ?_, by omega, by omega, h.nos m1, ?_, rfl, m1.mono fun _ _ h => h.elim⟩, ?_⟩
  · rw [wrap64 (x := (i0 : Int) + 1) (by omega) (by omega)]; rfl
  · rw [List.take_succ_eq_append_getElem hi0, List.filter_append, hx0']
    have e1 : (xs.take i0).filter (fun x => !p x) = xs.take i0 := List.filter_eq_self.2 fun x hx => by simp [hbef x hx]
    rw [e1]; simp [hp0]
  rintro x w2 ⟨i, j, ys, rfl, hij, hjl, o2, h1, h2, M2⟩
  have hyl : ys.length = l := by have := o2.len; simpa using this
  refine ⟨_, rfl, cond_of (fun hb => ?_) (fun hb => ?_)⟩
  · have hj : j < l := by have := of_decide_eq_true hb; omega
    have hjx : j < xs.length := by omega
    have hjy : j < ys.length := by omega
    have hyx : ys[j] = xs[j] := by
      have e1 := (drop_get hjy).symm.trans (h2.trans (drop_get hjx))
      exact (List.cons.inj e1).1
    obtain ⟨b2, o, e2, hat⟩ := row_some o2.rowU.row hjy
    simp at e2
    obtain ⟨rfl, rfl⟩ := e2
    refine ⟨_, index_slice (k := 1) (by kernel_rfl) (by omega) (by omega), ?_⟩
    rw [add_none, show (j : Int).toNat * 1 = j by omega]
    refine ⟨_, hat.load (by kernel_rfl) (iL_get hjy), ht w2 M2 _ (by rw [hyx]; exact List.getElem_mem hjx) _ fun w3 m3 => ⟨_, rfl, ?_⟩⟩
    rw [hyx]
    refine Share.cut (fun z w4 => ∃ (i' : Nat) (ys' : List Int), z = [.int .i64 i'] ∧ i' < j + 1 ∧ Own Try.prog w4 base 23 1 (some ⟨g, 0, none⟩) l c (iL ys') ∧ ys'.take i' = ((xs.take (j + 1)).filter fun x => !p x) ∧ ys'.drop (j + 1) = xs.drop (j + 1) ∧ Mod (Of (some ⟨g, 0, none⟩)) w w4)
      (cond_of (fun hp => ?_) (fun hp => ?_)) ?_
    · have hp : p xs[j] = false := by simpa using hp
      refine ⟨_, rfl, _, index_slice (k := 1) (by kernel_rfl) (by omega) (by omega), ?_⟩
      rw [add_none, show 0 + (i : Int).toNat * 1 = i by omega]
      obtain ⟨w4, s1, s2, s3⟩ := (o2.nos m3).set (T' := 3) (i := i) (v := .int .i64 xs[j]) (by kernel_rfl) (by omega) rfl
      refine ⟨w4, s1, ?_⟩
      obtain ⟨k1, k2⟩ := keep_step h1 h2 (by omega) hij hjx hp
      rw [wrap64 (x := (i : Int) + 1) (by omega) (by omega)]
      refine ⟨i + 1, ys.set i xs[j], rfl, by omega, ?_, k1, k2, (M2.no m3).trans s3 fun x _ e => ⟨_, rfl, e⟩⟩
      have e3 : (iL ys).set i (.int .i64 xs[j]) = iL (ys.set i xs[j]) := by simp [iL, List.map_set, I]
      rw [e3] at s2; exact s2
    · have hp : p xs[j] = true := by simpa using hp
      refine ⟨i, ys, rfl, by omega, o2.nos m3, ?_, ?_, M2.no m3⟩
      · rw [h1, List.take_succ_eq_append_getElem hjx, List.filter_append]; simp [hp]
      · rw [← List.drop_drop, h2, List.drop_drop]
    · rintro z w4 ⟨i', ys', rfl, hij', o4, k1, k2, M4⟩
      rw [wrap64 (x := (j : Int) + 1) (by omega) (by omega)]
      exact ⟨⟨i', j + 1, ys', rfl, hij', by omega, o4, k1, k2, M4⟩, by simp [nI, nth]; omega⟩
  · have hjl : j = l := by have := of_decide_eq_false hb; omega
    subst hjl
    refine ⟨_, rfl, _, _, _, slice_l (k := 1) (by kernel_rfl) (by omega) (by omega), ?_⟩
    rw [Int.toNat_natCast]
    obtain ⟨w3, zs, s1, s2, s3⟩ := o2.clear (ty := 0) elemZ_ints (i := i) (by omega) rfl
    refine ⟨w3, s1, _, _, _, slice_h (k := 1) (by kernel_rfl) (by omega) (by omega), ?_⟩
    have hcut : cutA (some ⟨g, 0, none⟩) c 0 1 = some ⟨g, 0, none⟩ := by
      unfold cutA; rw [if_neg (by omega)]; simp [add_none]
    rw [hcut, Int.toNat_natCast]
    have hxall : xs.take j = xs := List.take_of_length_le (by omega)
    rw [hxall] at h1
    have hsh := s2.shrink (i := i) (by omega) (by simp)
    have e5 : ((iL ys).take i ++ zs).take i = iL (xs.filter fun x => !p x) := by
      rw [← h1]
      have : ((iL ys).take i).length = i := by simp; omega
      rw [List.take_append_of_le_length (by omega), List.take_of_length_le (by omega)]
      simp [iL, List.map_take]
    rw [e5] at hsh
    refine hk w3 i hsh ?_ (M2.trans s3 fun x _ e => ⟨_, rfl, e⟩)
    rw [← h1]; simp; omega
end
end Go.Proofs.Ytocjjigmpgekfaa
