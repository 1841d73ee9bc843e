/- Parts of the proof, in order: what the statement leans on. -/
import Derived.Test.YtocjjigmpgekfaaGreatCc
section
/- The library's functions that layer 11 calls: rows of changes, of numbers; bytes over bytes. -/
open Go Go.Den Go.Proofs
namespace Go.Den
def pV (q : Nat) : Value := .pointer (some ⟨q, 0, none⟩)
def pL (qs : List Nat) : List Value := qs.map pV
@[simp] theorem length_pL (qs : List Nat) : (pL qs).length = qs.length := by simp [pL]
theorem pL_get {qs : List Nat} {i : Nat} (hi : i < qs.length) : (pL qs)[i]? = some (.pointer (some ⟨qs[i], 0, none⟩)) := by simp [pL, hi, pV]
theorem row_someP {w : World} {a : Option Addr} {xs : List Nat} {i : Nat} (h : Row w a (pL xs)) (hi : i < xs.length) : ∃ b o, a = some ⟨b, o, none⟩ ∧ At w b o (pL xs) := by
  refine h.resolve_left fun e => ?_
  have := congrArg List.length e
  simp at this; rw [this] at hi; simp at hi
end Go.Den
namespace Go.Proofs.YtocjjigmpgekfaaGreat
theorem elemZ_chs : elemZ Tryz.prog 178 1 (.pointer none) 8 := by unfold elemZ; kernel_rfl
theorem elemZ_64 : elemZ Tryz.prog 37 1 (.int .i64 0) 8 := by unfold elemZ; kernel_rfl
/-- A function value that tells of each of some changes, whatever turns in S. -/
def TellsP (v : Value) (w0 : World) (S : Nat → Prop) (p : Nat → Bool) (xs : List Nat) : Prop :=
  ∀ w', Mod S w0 w' → ∀ x ∈ xs, ∀ K : Value → World → Prop, (∀ w'', Mod No w' w'' → K (.bool (p x)) w'') → Dyn Tryz.prog v #[.pointer (some ⟨x, 0, none⟩)] w' K
section
variable {w : World} {K : Value → World → Prop}
theorem IndexFunc64_c {a : Option Addr} {l c : Nat} {xs : List Int} {v : Value} {p : Int → Bool} {S : Nat → Prop} (hl : xs.length = l) (h63 : l ≤ 9223372036854775806) (hr : Row w a (iL xs)) (ht : Tells v w S p xs)
    (hk : ∀ w', Mod No w w' → K (.int .i64 (idxF p xs 0)) w') : Cal Tryz.prog F_slices_IndexFunc_int64 #[.slice a l c, v] w K := by
  apply C_slices_IndexFunc_int64
  unfold D_slices_IndexFunc_int64
  refine ⟨fun x w1 => ∃ i : Nat, i ≤ l ∧ x = [.int .i64 i] ∧ Mod No w w1 ∧ idxF p xs 0 = idxF p (xs.drop i) i, fun x _ => (l - nI x 0).toNat, ⟨0, by omega, rfl, Mod.refl _ _, rfl⟩, ?_⟩
  rintro x w1 ⟨i, hi, rfl, hm, hidx⟩
  refine ⟨_, rfl, cond_of (fun hb => ?_) (fun hb => ?_)⟩
  · have hi : i < l := by have := of_decide_eq_true hb; omega
    have hix : i < xs.length := by omega
    obtain ⟨b, o, rfl, hat⟩ := row_some hr hix
    refine ⟨_, index_slice (k := 1) (by kernel_rfl) (by omega) (by omega), ?_⟩
    rw [add_none, show (i : Int).toNat * 1 = i by omega]
    refine ⟨_, (hat.keep hm id).load (by kernel_rfl) (iL_get hix), ht w1 (hm.mono fun _ _ h => h.elim) _ (List.getElem_mem hix) _ fun w2 m2 => ⟨_, rfl, cond_of (fun hp => ?_) (fun hp => ?_)⟩⟩
    · have e : idxF p xs 0 = i := by rw [hidx, drop_get hix]; simp only [idxF]; rw [if_pos hp]
      rw [← e]; exact hk w2 (hm.no m2)
    · rw [wrap64 (x := (i : Int) + 1) (by omega) (by omega)]
      refine ⟨⟨i + 1, by omega, rfl, hm.no m2, ?_⟩, by simp [nI, nth]; omega⟩
      rw [hidx, drop_get hix]; simp only [idxF]; rw [if_neg (by rw [hp]; simp)]
  · have hil : i = l := by have := of_decide_eq_false hb; omega
    have e : idxF p xs 0 = -1 := by rw [hidx, List.drop_eq_nil_of_le (by omega)]; rfl
    rw [← e]; exact hk w1 hm

theorem Contains64_c {a : Option Addr} {l c : Nat} {xs : List Int} {v : Value} {p : Int → Bool} {S : Nat → Prop} (hl : xs.length = l) (h63 : l ≤ 9223372036854775806) (hr : Row w a (iL xs)) (ht : Tells v w S p xs)
    (hk : ∀ w', Mod No w w' → K (.bool (xs.any p)) w') : Cal Tryz.prog F_slices_ContainsFunc_int64 #[.slice a l c, v] w K := by
  apply C_slices_ContainsFunc_int64
  refine IndexFunc64_c hl h63 hr ht fun w' m => ⟨_, rfl, ?_⟩
  have e : decide (idxF p xs 0 ≥ 0) = xs.any p := by
    rcases idxF_cases p xs 0 with ⟨h1, h2⟩ | ⟨j, x, h1, h2, h3, _⟩
    · rw [h1]
      symm
      rw [show decide ((-1 : Int) ≥ 0) = false from rfl, List.any_eq_false]
      intro x hx; rw [h2 x hx]; simp
    · rw [h1, decide_eq_true (by omega)]
      symm
      exact List.any_eq_true.2 ⟨x, List.mem_of_getElem? h2, h3⟩
  rw [e]; exact hk w' m
theorem IndexFuncP_c {a : Option Addr} {l c : Nat} {xs : List Nat} {v : Value} {p : Nat → Bool} {S : Nat → Prop} (hl : xs.length = l) (h63 : l ≤ 9223372036854775806) (hr : Row w a (pL xs)) (ht : TellsP v w S p xs)
    (hk : ∀ w', Mod No w w' → K (.int .i64 (idxF p xs 0)) w') : Cal Tryz.prog F_slices_IndexFunc_patch_change #[.slice a l c, v] w K := by
  apply C_slices_IndexFunc_patch_change
  unfold D_slices_IndexFunc_patch_change
  refine ⟨fun x w1 => ∃ i : Nat, i ≤ l ∧ x = [.int .i64 i] ∧ Mod No w w1 ∧ idxF p xs 0 = idxF p (xs.drop i) i, fun x _ => (l - nI x 0).toNat, ⟨0, by omega, rfl, Mod.refl _ _, rfl⟩, ?_⟩
  rintro x w1 ⟨i, hi, rfl, hm, hidx⟩
  refine ⟨_, rfl, cond_of (fun hb => ?_) (fun hb => ?_)⟩
  · have hi : i < l := by have := of_decide_eq_true hb; omega
    have hix : i < xs.length := by omega
    obtain ⟨b, o, rfl, hat⟩ := row_someP hr hix
    refine ⟨_, index_slice (k := 1) (by kernel_rfl) (by omega) (by omega), ?_⟩
    rw [add_none, show (i : Int).toNat * 1 = i by omega]
    refine ⟨_, (hat.keep hm id).load (by kernel_rfl) (pL_get hix), ht w1 (hm.mono fun _ _ h => h.elim) _ (List.getElem_mem hix) _ fun w2 m2 => ⟨_, rfl, cond_of (fun hp => ?_) (fun hp => ?_)⟩⟩
    · have e : idxF p xs 0 = i := by rw [hidx, drop_get hix]; simp only [idxF]; rw [if_pos hp]
      rw [← e]; exact hk w2 (hm.no m2)
    · rw [wrap64 (x := (i : Int) + 1) (by omega) (by omega)]
      refine ⟨⟨i + 1, by omega, rfl, hm.no m2, ?_⟩, by simp [nI, nth]; omega⟩
      rw [hidx, drop_get hix]; simp only [idxF]; rw [if_neg (by rw [hp]; simp)]
  · have hil : i = l := by have := of_decide_eq_false hb; omega
    have e : idxF p xs 0 = -1 := by rw [hidx, List.drop_eq_nil_of_le (by omega)]; rfl
    rw [← e]; exact hk w1 hm

theorem DeleteFuncP_c {base : Nat} {a : Option Addr} {l c : Nat} {xs : List Nat} {v : Value} {p : Nat → Bool} (h : Own Tryz.prog w base 178 1 a l c (pL xs)) (h63 : l ≤ 1000000000) (ht : TellsP v w (Of a) p xs)
    (hk : ∀ w' l', Own Tryz.prog w' base 178 1 a l' c (pL (xs.filter fun x => !p x)) → l' = (xs.filter fun x => !p x).length → Mod (Of a) w w' → K (.slice a l' c) w') : Cal Tryz.prog F_slices_DeleteFunc_patch_change #[.slice a l c, v] w K := by
  have hlen : xs.length = l := by have := h.len; simpa using this
  apply C_slices_DeleteFunc_patch_change
  unfold D_slices_DeleteFunc_patch_change
  refine IndexFuncP_c hlen (by omega) h.rowU.row ht fun w1 m1 => ⟨_, rfl, ?_⟩
  rcases idxF_cases p xs 0 with ⟨e, hno⟩ | ⟨i0, x0, e, hx0, hp0, hbef⟩
  · rw [e]
    refine tt rfl ?_
    have hf : xs.filter (fun x => !p x) = xs := List.filter_eq_self.2 fun x hx => by simp [hno x hx]
    exact hk w1 l (by rw [hf]; exact h.nos m1) (by rw [hf]; exact hlen.symm) (m1.mono fun _ _ h => h.elim)
  rw [e, Nat.zero_add]
  obtain ⟨hi0, hx0'⟩ := List.getElem?_eq_some_iff.1 hx0
  have hla : 0 < l := by omega
  obtain ⟨g, rfl, hg, _⟩ := h.sm hla
  have hcap := h.cap
  refine ff (by simp <;> omega) ⟨fun x w2 => ∃ (i j : Nat) (ys : List Nat), x = [.int .i64 i, .int .i64 j] ∧ i < j ∧ j ≤ l ∧ Own Tryz.prog w2 base 178 1 (some ⟨g, 0, none⟩) l c (pL ys) ∧ ys.take i = ((xs.take j).filter fun x => !p x) ∧ ys.drop j = xs.drop j ∧ Mod (Of (some ⟨g, 0, none⟩)) w w2,
    fun x _ => (l - nI x 1).toNat, ⟨i0, i0 + 1, xs, ?_, by omega, by omega, h.nos m1, ?_, rfl, m1.mono fun _ _ h => h.elim⟩, ?_⟩
  · rw [wrap64 (x := (i0 : Int) + 1) (by omega) (by omega)]; rfl
  · rw [List.take_succ_eq_append_getElem hi0, List.filter_append, hx0']
    have e1 : (xs.take i0).filter (fun x => !p x) = xs.take i0 := List.filter_eq_self.2 fun x hx => by simp [hbef x hx]
    rw [e1]; simp [hp0]
  rintro x w2 ⟨i, j, ys, rfl, hij, hjl, o2, h1, h2, M2⟩
  have hyl : ys.length = l := by have := o2.len; simpa using this
  refine ⟨_, rfl, cond_of (fun hb => ?_) (fun hb => ?_)⟩
  · have hj : j < l := by have := of_decide_eq_true hb; omega
    have hjx : j < xs.length := by omega
    have hjy : j < ys.length := by omega
    have hyx : ys[j] = xs[j] := by
      have e1 := (drop_get hjy).symm.trans (h2.trans (drop_get hjx))
      exact (List.cons.inj e1).1
    obtain ⟨b2, o, e2, hat⟩ := row_someP o2.rowU.row hjy
    simp at e2
    obtain ⟨rfl, rfl⟩ := e2
    refine ⟨_, index_slice (k := 1) (by kernel_rfl) (by omega) (by omega), ?_⟩
    rw [add_none, show (j : Int).toNat * 1 = j by omega]
    refine ⟨_, hat.load (by kernel_rfl) (pL_get hjy), ht w2 M2 _ (by rw [hyx]; exact List.getElem_mem hjx) _ fun w3 m3 => ⟨_, rfl, ?_⟩⟩
    rw [hyx]
    refine Share.cut (fun z w4 => ∃ (i' : Nat) (ys' : List Nat), z = [.int .i64 i'] ∧ i' < j + 1 ∧ Own Tryz.prog w4 base 178 1 (some ⟨g, 0, none⟩) l c (pL ys') ∧ ys'.take i' = ((xs.take (j + 1)).filter fun x => !p x) ∧ ys'.drop (j + 1) = xs.drop (j + 1) ∧ Mod (Of (some ⟨g, 0, none⟩)) w w4)
      (cond_of (fun hp => ?_) (fun hp => ?_)) ?_
    · have hp : p xs[j] = false := by simpa using hp
      refine ⟨_, rfl, _, index_slice (k := 1) (by kernel_rfl) (by omega) (by omega), ?_⟩
      rw [add_none, show 0 + (i : Int).toNat * 1 = i by omega]
      obtain ⟨w4, s1, s2, s3⟩ := (o2.nos m3).set (T' := 181) (i := i) (v := .pointer (some ⟨xs[j], 0, none⟩)) (by kernel_rfl) (by omega) rfl
      refine ⟨w4, s1, ?_⟩
      obtain ⟨k1, k2⟩ := keep_step h1 h2 (by omega) hij hjx hp
      rw [wrap64 (x := (i : Int) + 1) (by omega) (by omega)]
      refine ⟨i + 1, ys.set i xs[j], rfl, by omega, ?_, k1, k2, (M2.no m3).trans s3 fun x _ e => ⟨_, rfl, e⟩⟩
      have e3 : (pL ys).set i (.pointer (some ⟨xs[j], 0, none⟩)) = pL (ys.set i xs[j]) := by simp [pL, List.map_set, pV]
      rw [e3] at s2; exact s2
    · have hp : p xs[j] = true := by simpa using hp
      refine ⟨i, ys, rfl, by omega, o2.nos m3, ?_, ?_, M2.no m3⟩
      · rw [h1, List.take_succ_eq_append_getElem hjx, List.filter_append]; simp [hp]
      · rw [← List.drop_drop, h2, List.drop_drop]
    · rintro z w4 ⟨i', ys', rfl, hij', o4, k1, k2, M4⟩
      rw [wrap64 (x := (j : Int) + 1) (by omega) (by omega)]
      exact ⟨⟨i', j + 1, ys', rfl, hij', by omega, o4, k1, k2, M4⟩, by simp [nI, nth]; omega⟩
  · have hjl : j = l := by have := of_decide_eq_false hb; omega
    subst hjl
    refine ⟨_, rfl, _, _, _, slice_l (k := 1) (by kernel_rfl) (by omega) (by omega), ?_⟩
    rw [Int.toNat_natCast]
    obtain ⟨w3, zs, s1, s2, s3⟩ := o2.clear (ty := 0) elemZ_chs (i := i) (by omega) rfl
    refine ⟨w3, s1, _, _, _, slice_h (k := 1) (by kernel_rfl) (by omega) (by omega), ?_⟩
    have hcut : cutA (some ⟨g, 0, none⟩) c 0 1 = some ⟨g, 0, none⟩ := by
      unfold cutA; rw [if_neg (by omega)]; simp [add_none]
    rw [hcut, Int.toNat_natCast]
    have hxall : xs.take j = xs := List.take_of_length_le (by omega)
    rw [hxall] at h1
    have hsh := s2.shrink (i := i) (by omega) (by simp)
    have e5 : ((pL ys).take i ++ zs).take i = pL (xs.filter fun x => !p x) := by
      rw [← h1]
      have : ((pL ys).take i).length = i := by simp; omega
      rw [List.take_append_of_le_length (by omega), List.take_of_length_le (by omega)]
      simp [pL, List.map_take]
    rw [e5] at hsh
    refine hk w3 i hsh ?_ (M2.trans s3 fun x _ e => ⟨_, rfl, e⟩)
    rw [← h1]; simp; omega
theorem ContainsP_c {a : Option Addr} {l c : Nat} {xs : List Nat} {v : Value} {p : Nat → Bool} {S : Nat → Prop} (hl : xs.length = l) (h63 : l ≤ 9223372036854775806) (hr : Row w a (pL xs)) (ht : TellsP v w S p xs)
    (hk : ∀ w', Mod No w w' → K (.bool (xs.any p)) w') : Cal Tryz.prog F_slices_ContainsFunc_patch_change #[.slice a l c, v] w K := by
  apply C_slices_ContainsFunc_patch_change
  refine IndexFuncP_c hl h63 hr ht fun w' m => ⟨_, rfl, ?_⟩
  have e : decide (idxF p xs 0 ≥ 0) = xs.any p := by
    rcases idxF_cases p xs 0 with ⟨h1, h2⟩ | ⟨j, x, h1, h2, h3, _⟩
    · rw [h1]
      symm
      rw [show decide ((-1 : Int) ≥ 0) = false from rfl, List.any_eq_false]
      intro x hx; rw [h2 x hx]; simp
    · rw [h1, decide_eq_true (by omega)]
      symm
      exact List.any_eq_true.2 ⟨x, List.mem_of_getElem? h2, h3⟩
  rw [e]; exact hk w' m
/-- Bytes over others, from a place on. -/
def overB (b : List UInt8) (i : Nat) (ys : List UInt8) : List UInt8 := b.take i ++ ys ++ b.drop (i + ys.length)
theorem overB_len {b ys : List UInt8} {i : Nat} (h : i + ys.length ≤ b.length) : (overB b i ys).length = b.length := by unfold overB; simp; omega
theorem Lay_c' {a0 a2 : Option Addr} {l0 c0 l2 c2 i : Nat} {b ys : List UInt8} (hb : b.length = l0) (hy : ys.length = l2) (hin : i + l2 ≤ l0) (h63 : l0 ≤ 1048576) (hl0 : 0 < l0) (h0 : Row w a0 (u8L b)) (h2 : Row w a2 (u8L ys))
    (hk : ∀ w', Mod No w w' → AtU w' w.heap.size 0 (u8L (overB b i ys)) → K (.tuple #[.slice (some ⟨w.heap.size, 0, none⟩) l0 l0, .int .i64 0]) w') : Cal Tryz.prog F_num_Lay #[.slice a0 l0 c0, .int .i64 i, .slice a2 l2 c2] w K := by
  apply C_num_Lay
  unfold D_num_Lay
  have hwi : ∀ {K : Value → World → Prop}, K (.bool true) w → Cal Tryz.prog F_num_within #[.slice a0 l0 c0, .int .i64 i, .int .i64 ((l2 : Nat) : Int)] w K := fun hk => by
    apply C_num_within
    refine Share.dup (tt (decide_eq_true (by omega)) (tt (decide_eq_true (by omega)) (tt (decide_eq_true (by omega)) ⟨_, rfl, ?_⟩)))
    rw [wrap64 (x := (l0 : Int) - i) (by omega) (by omega), decide_eq_true (by omega)]
    exact hk
  refine hwi ⟨_, rfl, ff rfl ?_⟩
  obtain ⟨w1, hm1, hat1, hmod1, hsz1⟩ := makeSlice_run (P := Tryz.prog) (w := w) (n := l0) elemZ_bytes (by omega) (by omega) (by omega)
  obtain ⟨w2, hc1, hc2, hc3, hc4⟩ := copy_run (P := Tryz.prog) (T := 36) (T2 := 36) (ty := 3) (k := 1) (n := l0) (c := l0) (n2 := l0) (c2 := c0) (a2 := a0) (src := u8L b) (by kernel_rfl) hat1 (by rw [List.length_replicate]) (h0.nos hmod1) (by rw [length_u8L, hb]; omega) (one_u8L b)
  have e1 : splice (List.replicate (l0 * 1) (Value.int .u8 0)) 0 ((u8L b).take (Nat.min l0 l0 * 1)) = u8L b := by
    have : (u8L b).take (Nat.min l0 l0 * 1) = u8L b := List.take_of_length_le (by rw [length_u8L, hb, Nat.mul_one]; exact Nat.le_of_eq (Nat.min_self l0).symm)
    rw [this]; exact splice_all (by rw [length_u8L, hb, List.length_replicate]; omega)
  rw [e1] at hc2
  have M2 : Mod No w w2 := hmod1.trans hc3 fun x hx e => by omega
  have h2' := h2.nos M2
  refine ⟨_, _, _, w1, hm1, _, w2, hc1, _, _, _, slice_l (k := 1) (by kernel_rfl) (by omega) (by omega), ?_⟩
  rw [Int.toNat_natCast]
  by_cases hil : i = l0
  · have hy0 : ys = [] := List.eq_nil_of_length_eq_zero (by omega)
    have hl20 : l2 = 0 := by omega
    subst hy0
    have hcut : cutA (some ⟨w.heap.size, 0, none⟩) l0 i 1 = some ⟨w.heap.size, 0, none⟩ := by unfold cutA; rw [if_pos hil.symm]
    rw [hcut]
    obtain ⟨w3, hd1, hd2, hd3, hd4⟩ := copy_in (P := Tryz.prog) (T := 36) (T2 := 36) (ty := 3) (k := 1) (i := 0) (n := l0 - i) (c := l0 - i) (n2 := l2) (c2 := c2) (a2 := a2) (src := u8L []) (by kernel_rfl) hc2 (by simp; omega) h2' (by simp [hl20]) (one_u8L [])
    refine ⟨_, w3, hd1, hk w3 (M2.trans hd3 fun x hx e => by omega) ?_⟩
    have e2 : splice (u8L b) 0 ((u8L []).take (Nat.min l2 (l0 - i) * 1)) = u8L (overB b i []) := by simp [splice, u8L, overB]
    rw [e2] at hd2; exact hd2
  · have hcut : cutA (some ⟨w.heap.size, 0, none⟩) l0 i 1 = some ⟨w.heap.size, 0 + i, none⟩ := by
      unfold cutA; rw [if_neg (by omega)]; simp [add_none]
    rw [hcut]
    obtain ⟨w3, hd1, hd2, hd3, hd4⟩ := copy_in (P := Tryz.prog) (T := 36) (T2 := 36) (ty := 3) (k := 1) (i := i) (n := l0 - i) (c := l0 - i) (n2 := l2) (c2 := c2) (a2 := a2) (src := u8L ys) (by kernel_rfl) hc2 (by simp [hb]; omega) h2' (by simp [hy]) (one_u8L ys)
    refine ⟨_, w3, hd1, hk w3 (M2.trans hd3 fun x hx e => by omega) ?_⟩
    have e2 : splice (u8L b) i ((u8L ys).take (Nat.min l2 (l0 - i) * 1)) = u8L (overB b i ys) := by
      have : (u8L ys).take (Nat.min l2 (l0 - i) * 1) = u8L ys := List.take_of_length_le (by rw [length_u8L, hy, Nat.mul_one]; exact Nat.le_of_eq (Nat.min_eq_left (by omega)).symm)
      rw [this, splice_u8L]; rfl
    rw [e2] at hd2; exact hd2
end
end Go.Proofs.YtocjjigmpgekfaaGreat

/- Layer 11, the program's store: what it is, and what it is in memory. -/
open Go Go.Den Go.Proofs
namespace Go.Proofs.YtocjjigmpgekfaaGreat
/-- A change: its number, its block, where it begins, its bytes, what it waits for, whether it was in an image that was written. -/
structure Ch where
  id : Nat
  b : Nat
  frm : Nat
  data : List UInt8
  after : List Int
  out : Bool
/-- A block with open changes: its bytes without any, and these. -/
structure On where
  b : Nat
  base : Bk
  l : List Ch
structure Ps where
  C : Ca
  last : Nat
  ons : List On
def Ps.all (P : Ps) : List Ch := P.ons.flatMap (·.l)
def Ps.opn (P : Ps) (id : Int) : Bool := P.all.any fun c => (c.id : Int) == id
def meetB (c o : Ch) : Bool := decide (c.frm < o.frm + o.data.length) && decide (o.frm < c.frm + c.data.length)
def badB (op : Int → Bool) (pre : List Ch) (ok : List Int) (c : Ch) : Bool := (c.after.any fun id => op id && !(ok.contains id)) || (pre.any fun x => meetB x c && !(ok.contains (x.id : Int)))
def mayN (op : Int → Bool) (l : List Ch) : Nat → List Int
  | 0 => []
  | n + 1 => match l[n]? with
    | some c => if badB op (l.take n) (mayN op l n) c = true then mayN op l n else mayN op l n ++ [(c.id : Int)]
    | none => mayN op l n
def mayL (op : Int → Bool) (l : List Ch) : List Int := mayN op l l.length
/-- The base, and some changes upon it. -/
def withL (base : Bk) (l : List Ch) : Bk := l.foldl (fun b c => overB b c.frm c.data) base
structure WFS (P : Ps) : Prop where
  full : P.C.D.vs.length ≤ P.C.most
  onsN : (P.ons.map (·.b)).Nodup
  onlt : ∀ o ∈ P.ons, o.b < P.C.D.vs.length
  base : ∀ o ∈ P.ons, o.base.length = 256
  llen : ∀ o ∈ P.ons, o.l.length ≤ P.last
  ids : (P.all.map (·.id)).Nodup
  idr : ∀ x ∈ P.all, 1 ≤ x.id ∧ x.id ≤ P.last
  chb : ∀ o ∈ P.ons, ∀ x ∈ o.l, x.b = o.b
  dat : ∀ x ∈ P.all, 1 ≤ x.data.length ∧ x.frm + x.data.length ≤ 256
  aft : ∀ x ∈ P.all, x.after.length ≤ 1000000
  last : P.last ≤ 1000000
/-- One that was in an image that was written: all that it meets, and that came ahead of it, were too. -/
def Cls (l : List Ch) : Prop := l.Pairwise fun x y => y.out = true → meetB x y = true → x.out = true
/-- What holds between calls: blocks with open changes are pinned, and what is read is the base with all of them; all other ones are as on the disk. -/
structure WFP (P : Ps) : Prop where
  lne : ∀ o ∈ P.ons, o.l ≠ []
  pin : ∀ o ∈ P.ons, ∃ x ∈ P.C.l, x.b = o.b ∧ x.pins = 1 ∧ x.data = withL o.base o.l
  unp : ∀ x ∈ P.C.l, (∀ o ∈ P.ons, o.b ≠ x.b) → x.pins = 0 ∧ x.data = atD P.C.D x.b
  run : P.C.D.left = -1
  acc : ∀ o ∈ P.ons, atD P.C.D o.b = withL o.base (o.l.filter (·.out))
  may : ∀ o ∈ P.ons, ∀ x ∈ o.l, x.out = true → (x.id : Int) ∈ mayL P.opn o.l
  cls : ∀ o ∈ P.ons, Cls o.l
  afl : ∀ x ∈ P.all, ∀ k ∈ x.after, k < (x.id : Int)
theorem mem_all {P : Ps} {x : Ch} : x ∈ P.all ↔ ∃ o ∈ P.ons, x ∈ o.l := by unfold Ps.all; rw [List.mem_flatMap]
/-- A change in memory. -/
def ChAt (w : World) (rl : Nat → Nat) (q : Nat) (x : Ch) : Prop :=
  ∃ gd cd aa ca, AtU w q 0 [.int .i64 x.id, .int .i64 x.b, .int .i64 x.frm, .slice (some ⟨gd, 0, none⟩) x.data.length cd, .slice aa x.after.length ca, .bool x.out] ∧ At w gd 0 (u8L x.data) ∧ rl gd = 5 ∧ Row w aa (iL x.after) ∧ ∀ q, aa = some q → rl q.block = 5
/-- A block with open changes in memory. -/
def OnAt (w0 w : World) (rl : Nat → Nat) (ca : Nat → Nat) (q : Nat) (o : On) : Prop :=
  ∃ g cc la lc, AtU w q 0 [.slice (some ⟨g, 0, none⟩) 256 cc, .slice la o.l.length lc] ∧ At w g 0 (u8L o.base) ∧ rl g = 5 ∧ Own Tryz.prog w w0.heap.size 178 1 la o.l.length lc (pL (o.l.map fun x => ca x.id)) ∧ ∀ q, la = some q → rl q.block = 9 + 3 * o.b
/-- The store's region, by what a block is: 1 the cache's, 2 the store itself, 3 and 4 its maps, 5 bytes and rows that stay, 8 + 3b, 9 + 3b a block with open changes and its row, 10 + 3i the change i. -/
structure PIn (w0 : World) (R : Nat → Prop) (rl : Nat → Nat) (w : World) (sp c d mo mm : Nat) (ca oa : Nat → Nat) (Lo Lm : List (Int × Value)) (P : Ps) : Prop where
  cx : Cx w0 (fun x => rl x = 1) w c d P.C
  cell : AtU w sp 0 [.pointer (some ⟨c, 0, none⟩), .int .i64 P.C.D.vs.length, .int .i64 P.last, .map (some mo), .map (some mm)]
  mapO : MapAt w mo Lo
  mapM : MapAt w mm Lm
  rsp : rl sp = 2
  rmo : rl mo = 3
  rmm : rl mm = 4
  chs : ∀ x ∈ P.all, lookupL Lo x.id = some (pV (ca x.id)) ∧ rl (ca x.id) = 10 + 3 * x.id ∧ ChAt w rl (ca x.id) x
  ons : ∀ o ∈ P.ons, lookupL Lm o.b = some (pV (oa o.b)) ∧ rl (oa o.b) = 8 + 3 * o.b ∧ OnAt w0 w rl ca (oa o.b) o
  keysO : ∀ p ∈ Lo, ∃ x ∈ P.all, p.1 = (x.id : Int)
  keysM : ∀ p ∈ Lm, ∃ o ∈ P.ons, p.1 = (o.b : Int)
  wf : WFS P
  reg : ∀ x, rl x ≠ 0 → R x
  lo : ∀ x, R x → w0.heap.size ≤ x ∧ x < w.heap.size
  mod : Mod No w0 w
section
variable {w0 w w' : World} {R : Nat → Prop} {rl : Nat → Nat} {sp c d mo mm : Nat} {ca oa : Nat → Nat} {Lo Lm : List (Int × Value)} {P : Ps}
theorem ChAt.keep {S : Nat → Prop} {q : Nat} {x : Ch} (h : ChAt w rl q x) (k : Mod S w w') (hq : ¬ S q) (h5 : ∀ z, rl z = 5 → ¬ S z) : ChAt w' rl q x := by
  obtain ⟨gd, cd, aa, ca, h1, h2, h3, h4, h6⟩ := h
  exact ⟨gd, cd, aa, ca, h1.keep k hq, h2.keep k (h5 _ h3), h3, h4.keep k fun q hq => h5 _ (h6 q hq), h6⟩
theorem ChAt.role {rl' : Nat → Nat} {q : Nat} {x : Ch} (h : ChAt w rl q x) (hr : ∀ z, rl z = 5 → rl' z = 5) : ChAt w rl' q x := by
  obtain ⟨gd, cd, aa, ca, h1, h2, h3, h4, h6⟩ := h
  exact ⟨gd, cd, aa, ca, h1, h2, hr _ h3, h4, fun q hq => hr _ (h6 q hq)⟩
theorem OnAt.keep {S : Nat → Prop} {q : Nat} {o : On} (h : OnAt w0 w rl ca q o) (k : Mod S w w') (hq : ¬ S q) (h5 : ∀ z, rl z = 5 → ¬ S z) (h9 : ∀ z, rl z = 9 + 3 * o.b → ¬ S z) : OnAt w0 w' rl ca q o := by
  obtain ⟨g, cc, la, lc, h1, h2, h3, h4, h6⟩ := h
  exact ⟨g, cc, la, lc, h1.keep k hq, h2.keep k (h5 _ h3), h3, h4.keep k fun q hq => h9 _ (h6 q hq), h6⟩
theorem OnAt.role {rl' : Nat → Nat} {ca' : Nat → Nat} {q : Nat} {o : On} (h : OnAt w0 w rl ca q o) (hr : ∀ z, rl z ≠ 0 → rl' z = rl z) (hc : ∀ x ∈ o.l, ca' x.id = ca x.id) : OnAt w0 w rl' ca' q o := by
  obtain ⟨g, cc, la, lc, h1, h2, h3, h4, h6⟩ := h
  refine ⟨g, cc, la, lc, h1, h2, by rw [hr g (by omega)]; exact h3, ?_, fun q hq => by rw [hr q.block (by rw [h6 q hq]; omega)]; exact h6 q hq⟩
  have e : (o.l.map fun x => ca' x.id) = o.l.map fun x => ca x.id := List.map_congr_left hc
  rw [e]; exact h4
theorem PIn.keepS {S : Nat → Prop} (h : PIn w0 R rl w sp c d mo mm ca oa Lo Lm P) (k : Mod S w w') (hsr : ∀ x, R x → ¬ S x) (hw : ∀ x, x < w0.heap.size → ¬ S x) : PIn w0 R rl w' sp c d mo mm ca oa Lo Lm P := by
  have hr : ∀ {x}, rl x ≠ 0 → ¬ S x := fun hx => hsr _ (h.reg _ hx)
  exact {
    cx := h.cx.keep k (fun x hx => hr (by have e : rl x = 1 := hx; omega)) hw
    cell := h.cell.keep k (hr (by rw [h.rsp]; omega))
    mapO := h.mapO.keep k (hr (by rw [h.rmo]; omega))
    mapM := h.mapM.keep k (hr (by rw [h.rmm]; omega))
    rsp := h.rsp
    rmo := h.rmo
    rmm := h.rmm
    chs := fun x hx => by
      obtain ⟨h1, h2, h3⟩ := h.chs x hx
      exact ⟨h1, h2, h3.keep k (hr (by omega)) fun z hz => hr (by omega)⟩
    ons := fun o ho => by
      obtain ⟨h1, h2, h3⟩ := h.ons o ho
      exact ⟨h1, h2, h3.keep k (hr (by omega)) (fun z hz => hr (by omega)) fun z hz => hr (by omega)⟩
    keysO := h.keysO
    keysM := h.keysM
    wf := h.wf
    reg := h.reg
    lo := fun x hx => by have := h.lo x hx; have := k.size; omega
    mod := h.mod.trans k fun x hx e => absurd e (hw x hx) }
theorem PIn.nos (h : PIn w0 R rl w sp c d mo mm ca oa Lo Lm P) (k : Mod No w w') : PIn w0 R rl w' sp c d mo mm ca oa Lo Lm P := h.keepS k (fun _ _ => id) fun _ _ => id
theorem PIn.drew (h : PIn w0 R rl w sp c d mo mm ca oa Lo Lm P) : PIn w0 R rl (Go.Den.drew w) sp c d mo mm ca oa Lo Lm P := h.nos (Mod.refl No w).drew
theorem PIn.widen {R' : Nat → Prop} (h : PIn w0 R rl w sp c d mo mm ca oa Lo Lm P) (h1 : ∀ x, R x → R' x) (h2 : ∀ x, R' x → w0.heap.size ≤ x ∧ x < w.heap.size) : PIn w0 R' rl w sp c d mo mm ca oa Lo Lm P :=
  { h with reg := fun x hx => h1 x (h.reg x hx), lo := h2 }
theorem PIn.gro (h : PIn w0 R rl w sp c d mo mm ca oa Lo Lm P) (k : Mod No w w') : PIn w0 (Gro R w w') rl w' sp c d mo mm ca oa Lo Lm P :=
  (h.nos k).widen (fun x hx => .inl hx) fun x hx => by
    have := k.size
    have := h.mod.size
    rcases hx with hx | hx
    · have := h.lo x hx; omega
    · omega
theorem PIn.out_of {x : Nat} (h : PIn w0 R rl w sp c d mo mm ca oa Lo Lm P) (hx : w.heap.size ≤ x) : rl x = 0 := by
  by_cases e : rl x = 0
  · exact e
  · have := h.lo x (h.reg x e); omega
/-- The cache is another one. -/
theorem PIn.cache {w1 : World} {C' : Ca} (h : PIn w0 R rl w sp c d mo mm ca oa Lo Lm P) (m1 : Mod (fun x => rl x = 1) w w1) (m2 : Mod No w1 w') (hc : Cx w0 (Gro (fun x => rl x = 1) w w1) w' c d C') (hD : C'.D.vs.length = P.C.D.vs.length) (hm : C'.most = P.C.most) :
    ∃ rl', PIn w0 (Gro R w w1) rl' w' sp c d mo mm ca oa Lo Lm { P with C := C' } ∧ (∀ x, rl x ≠ 0 → rl' x = rl x) := by
  have hold : ∀ x, rl x ≠ 0 → x < w.heap.size := fun x hx => (h.lo x (h.reg x hx)).2
  have hz1 := m1.size
  have hz2 := m2.size
  have hw0 := h.mod.size
  have hsame : ∀ x, rl x ≠ 0 → (if w.heap.size ≤ x ∧ x < w1.heap.size then 1 else rl x) = rl x := by
    intro x hx
    rw [if_neg (by have := hold x hx; omega)]
  have k : Mod (fun x => rl x = 1) w w' := m1.no m2
  have n1 : ∀ {x}, rl x ≠ 0 → rl x ≠ 1 → ¬ (rl x = 1) := fun _ h => h
  refine ⟨fun x => if w.heap.size ≤ x ∧ x < w1.heap.size then 1 else rl x, ?_, hsame⟩
  exact {
    cx := by
      have e : (fun x => (if w.heap.size ≤ x ∧ x < w1.heap.size then 1 else rl x) = 1) = Gro (fun x => rl x = 1) w w1 := by
        funext x
        unfold Gro
        apply propext
        constructor
        · intro e
          split at e
          · rename_i hn; exact .inr hn
          · exact .inl e
        · rintro (e | e)
          · rw [hsame x (by omega)]; exact e
          · rw [if_pos e]
      rw [e]; exact hc
    cell := by
      have := h.cell.keep k (by rw [h.rsp]; omega)
      show AtU w' sp 0 [_, .int .i64 C'.D.vs.length, _, _, _]
      rw [hD]; exact this
    mapO := h.mapO.keep k (by rw [h.rmo]; omega)
    mapM := h.mapM.keep k (by rw [h.rmm]; omega)
    rsp := by show (if _ then 1 else rl sp) = 2; rw [hsame sp (by rw [h.rsp]; omega)]; exact h.rsp
    rmo := by show (if _ then 1 else rl mo) = 3; rw [hsame mo (by rw [h.rmo]; omega)]; exact h.rmo
    rmm := by show (if _ then 1 else rl mm) = 4; rw [hsame mm (by rw [h.rmm]; omega)]; exact h.rmm
    chs := fun x hx => by
      obtain ⟨h1, h2, h3⟩ := h.chs x hx
      refine ⟨h1, ?_, (h3.keep k (by omega) fun z hz => by omega).role fun z hz => ?_⟩
      · show (if _ then 1 else rl (ca x.id)) = _; rw [hsame _ (by omega)]; exact h2
      · show (if _ then 1 else rl z) = 5; rw [hsame z (by omega)]; exact hz
    ons := fun o ho => by
      obtain ⟨h1, h2, h3⟩ := h.ons o ho
      refine ⟨h1, ?_, (h3.keep k (by omega) (fun z hz => by omega) fun z hz => by omega).role hsame fun _ _ => rfl⟩
      show (if _ then 1 else rl (oa o.b)) = _; rw [hsame _ (by omega)]; exact h2
    keysO := h.keysO
    keysM := h.keysM
    wf := { full := (by show C'.D.vs.length ≤ C'.most; rw [hD, hm]; exact h.wf.full), onsN := h.wf.onsN, onlt := (fun o ho => by show o.b < C'.D.vs.length; rw [hD]; exact h.wf.onlt o ho), base := h.wf.base, llen := h.wf.llen, ids := h.wf.ids, idr := h.wf.idr, chb := h.wf.chb, dat := h.wf.dat, aft := h.wf.aft, last := h.wf.last }
    reg := fun x hx => by
      by_cases hn : w.heap.size ≤ x ∧ x < w1.heap.size
      · exact .inr hn
      · simp only [if_neg hn] at hx
        exact .inl (h.reg x hx)
    lo := fun x hx => by
      rcases hx with hx | hx
      · have := h.lo x hx; omega
      · omega
    mod := h.mod.trans k fun x hx e => by
      have := h.lo x (h.reg x (by omega))
      omega }
/-- A step in memory: the parts anew. -/
theorem PIn.step {S : Nat → Prop} {rl' ca' oa' : Nat → Nat} {Lo' Lm' : List (Int × Value)} {P' : Ps} (h : PIn w0 R rl w sp c d mo mm ca oa Lo Lm P) (hC : P'.C = P.C) (k : Mod S w w') (hx : Ext w w' rl rl') (hx1 : ∀ x, rl' x = 1 → rl x = 1)
    (hS : ∀ x, x < w.heap.size → S x → rl x ≠ 0 ∧ rl x ≠ 1 ∧ rl x ≠ 5)
    (hcell : AtU w' sp 0 [.pointer (some ⟨c, 0, none⟩), .int .i64 P.C.D.vs.length, .int .i64 P'.last, .map (some mo), .map (some mm)]) (hO : MapAt w' mo Lo') (hM : MapAt w' mm Lm')
    (hch : ∀ x ∈ P'.all, (x ∈ P.all ∧ lookupL Lo' x.id = lookupL Lo x.id ∧ ca' x.id = ca x.id ∧ ∀ q, S q → rl q ≠ 10 + 3 * x.id) ∨ (lookupL Lo' x.id = some (pV (ca' x.id)) ∧ rl' (ca' x.id) = 10 + 3 * x.id ∧ ChAt w' rl' (ca' x.id) x))
    (hon : ∀ o ∈ P'.ons, (o ∈ P.ons ∧ lookupL Lm' o.b = lookupL Lm o.b ∧ oa' o.b = oa o.b ∧ (∀ x ∈ o.l, ca' x.id = ca x.id) ∧ ∀ q, S q → rl q ≠ 8 + 3 * o.b ∧ rl q ≠ 9 + 3 * o.b) ∨ (lookupL Lm' o.b = some (pV (oa' o.b)) ∧ rl' (oa' o.b) = 8 + 3 * o.b ∧ OnAt w0 w' rl' ca' (oa' o.b) o))
    (hkO : ∀ p ∈ Lo', ∃ x ∈ P'.all, p.1 = (x.id : Int)) (hkM : ∀ p ∈ Lm', ∃ o ∈ P'.ons, p.1 = (o.b : Int)) (hwf : WFS P') :
    PIn w0 (Gro R w w') rl' w' sp c d mo mm ca' oa' Lo' Lm' P' where
  cx := by
    have e : (fun x => rl' x = 1) = fun x => rl x = 1 := by
      funext x
      exact propext ⟨hx1 x, fun e => by rw [hx.old x (by omega)]; exact e⟩
    rw [e, hC]
    refine h.cx.keep k (fun x hx' e => ?_) fun x hx' e => ?_
    · have e1 : rl x = 1 := hx'
      have := hS x (h.lo x (h.reg x (by omega))).2 e
      omega
    · have := h.mod.size
      have := hS x (by omega) e
      have := h.lo x (h.reg x (by omega))
      omega
  cell := by rw [hC]; exact hcell
  mapO := hO
  mapM := hM
  rsp := by rw [hx.old sp (by rw [h.rsp]; omega)]; exact h.rsp
  rmo := by rw [hx.old mo (by rw [h.rmo]; omega)]; exact h.rmo
  rmm := by rw [hx.old mm (by rw [h.rmm]; omega)]; exact h.rmm
  chs := fun x hx' => by
    rcases hch x hx' with ⟨e1, e2, e3, e4⟩ | hn
    · obtain ⟨h1, h2, h3⟩ := h.chs x e1
      rw [e3]
      refine ⟨e2.trans h1, by rw [hx.old _ (by omega)]; exact h2, (h3.keep k (fun e => e4 _ e h2) fun z hz e => ?_).role fun z hz => by rw [hx.old z (by omega)]; exact hz⟩
      have := hS z (h.lo z (h.reg z (by omega))).2 e
      omega
    · exact hn
  ons := fun o ho => by
    rcases hon o ho with ⟨e1, e2, e3, e4, e5⟩ | hn
    · obtain ⟨h1, h2, h3⟩ := h.ons o e1
      rw [e3]
      refine ⟨e2.trans h1, by rw [hx.old _ (by omega)]; exact h2, (h3.keep k (fun e => (e5 _ e).1 h2) (fun z hz e => ?_) fun z hz e => (e5 _ e).2 hz).role hx.old e4⟩
      have := hS z (h.lo z (h.reg z (by omega))).2 e
      omega
    · exact hn
  keysO := hkO
  keysM := hkM
  wf := hwf
  reg := fun x hn => by
    by_cases e : rl x = 0
    · exact .inr (hx.new x e hn)
    · exact .inl (h.reg x e)
  lo := fun x hx => by
    have := k.size
    have := h.mod.size
    rcases hx with hx | hx
    · have := h.lo x hx; omega
    · omega
  mod := h.mod.trans k fun x hx e => by
    have := h.mod.size
    have := hS x (by omega) e
    have := h.lo x (h.reg x (by omega))
    omega
end
end Go.Proofs.YtocjjigmpgekfaaGreat

/- Layer 11, the program's store: which changes may be written, and bytes with some changes. -/
open Go Go.Den Go.Proofs
namespace Go.Proofs.YtocjjigmpgekfaaGreat
section
variable {w0 w w' : World} {R : Nat → Prop} {rl : Nat → Nat} {sp c d mo mm : Nat} {ca oa : Nat → Nat} {Lo Lm : List (Int × Value)} {P : Ps} {K : Value → World → Prop}
theorem mapOpen : mapZ Tryz.prog 154 = some (.pointer none) := by kernel_rfl
theorem mapOns : mapZ Tryz.prog 155 = some (.pointer none) := by kernel_rfl
theorem mapOk : mapZ Tryz.prog 176 = some (.bool false) := by kernel_rfl
theorem PIn.lc (h : PIn w0 R rl w sp c d mo mm ca oa Lo Lm P) : Ru (Instr.loadAt 151 (.pointer (some (Addr.add ⟨sp, 0, none⟩ 0)))) w (.pointer (some ⟨c, 0, none⟩)) w := by
  rw [add_none]; exact h.cell.at.load (by kernel_rfl) rfl
theorem PIn.llen' (h : PIn w0 R rl w sp c d mo mm ca oa Lo Lm P) : Ru (Instr.loadAt 3 (.pointer (some (Addr.add ⟨sp, 0, none⟩ 1)))) w (.int .i64 P.C.D.vs.length) w := by
  rw [add_none]; exact h.cell.at.load (by kernel_rfl) rfl
theorem PIn.llast (h : PIn w0 R rl w sp c d mo mm ca oa Lo Lm P) : Ru (Instr.loadAt 2 (.pointer (some (Addr.add ⟨sp, 0, none⟩ 2)))) w (.int .i64 P.last) w := by
  rw [add_none]; exact h.cell.at.load (by kernel_rfl) rfl
theorem PIn.lo' (h : PIn w0 R rl w sp c d mo mm ca oa Lo Lm P) : Ru (Instr.loadAt 154 (.pointer (some (Addr.add ⟨sp, 0, none⟩ 3)))) w (.map (some mo)) w := by
  rw [add_none]; exact h.cell.at.load (by kernel_rfl) rfl
theorem PIn.lm (h : PIn w0 R rl w sp c d mo mm ca oa Lo Lm P) : Ru (Instr.loadAt 155 (.pointer (some (Addr.add ⟨sp, 0, none⟩ 4)))) w (.map (some mm)) w := by
  rw [add_none]; exact h.cell.at.load (by kernel_rfl) rfl
/-- What the map of open changes tells of a number. -/
theorem PIn.lookO (h : PIn w0 R rl w sp c d mo mm ca oa Lo Lm P) (n : Int) : ∃ p : Option Addr, Ru (Instr.lookup 154 (.map (some mo)) (.int .i64 n) false) w (.pointer p) w ∧ p.isNone = !P.opn n ∧ ∀ x ∈ P.all, (x.id : Int) = n → p = some ⟨ca x.id, 0, none⟩ := by
  have hl := lookup_run (P := Tryz.prog) mapOpen h.mapO (k := n)
  cases hL : lookupL Lo n with
  | none =>
    rw [hL] at hl
    have hno : ∀ x ∈ P.all, (x.id : Int) ≠ n := fun x hx e => by
      have := (h.chs x hx).1
      rw [e, hL] at this; cases this
    refine ⟨none, hl, ?_, fun x hx e => absurd e (hno x hx)⟩
    have : P.opn n = false := by
      unfold Ps.opn
      rw [List.any_eq_false]
      intro x hx; simpa using hno x hx
    rw [this]; rfl
  | some v =>
    rw [hL] at hl
    obtain ⟨x, hx, e⟩ := h.keysO _ (look_mem hL)
    have e2 : n = (x.id : Int) := e
    have h1 := (h.chs x hx).1
    rw [← e2, hL] at h1
    have := Option.some.inj h1
    subst this
    have ho : P.opn n = true := by
      unfold Ps.opn
      rw [List.any_eq_true]
      exact ⟨x, hx, by simp [e2]⟩
    refine ⟨some ⟨ca x.id, 0, none⟩, hl, by rw [ho]; rfl, fun y hy ey => ?_⟩
    have h2 := (h.chs y hy).1
    rw [ey, hL] at h2
    have := Option.some.inj h2
    simp [pV] at this
    rw [this]
def onOf (P : Ps) (n : Int) : Option On := P.ons.find? fun o => (o.b : Int) == n
theorem onOf_some {P : Ps} {n : Int} {o : On} (h : onOf P n = some o) : o ∈ P.ons ∧ n = (o.b : Int) := by
  unfold onOf at h
  refine ⟨List.mem_of_find?_eq_some h, ?_⟩
  have := List.find?_some h
  simp at this; exact this.symm
theorem onOf_none {P : Ps} {n : Int} (h : onOf P n = none) : ∀ o ∈ P.ons, (o.b : Int) ≠ n := by
  unfold onOf at h
  intro o ho
  have := List.find?_eq_none.1 h o ho
  simpa using this
theorem PIn.lookM (h : PIn w0 R rl w sp c d mo mm ca oa Lo Lm P) (n : Int) : Ru (Instr.lookup 155 (.map (some mm)) (.int .i64 n) false) w (.pointer ((onOf P n).map fun o => ⟨oa o.b, 0, none⟩)) w := by
  have hl := lookup_run (P := Tryz.prog) mapOns h.mapM (k := n)
  cases ho : onOf P n with
  | none =>
    have hL : lookupL Lm n = none := by
      cases hL : lookupL Lm n with
      | none => rfl
      | some v =>
        obtain ⟨o, ho', e⟩ := h.keysM _ (look_mem hL)
        exact absurd (show (o.b : Int) = n from e.symm) (onOf_none ho o ho')
    rw [hL] at hl; exact hl
  | some o =>
    obtain ⟨h1, rfl⟩ := onOf_some ho
    rw [(h.ons o h1).1] at hl
    exact hl
/-- The fields of a change. -/
theorem ChAt.ld {q j : Nat} {x : Ch} (h : ChAt w rl q x) {T : TypeId} {v : Value} (hT : scal Tryz.prog T = true)
    (hj : ∀ gd cd aa cc, ([.int .i64 x.id, .int .i64 x.b, .int .i64 x.frm, .slice (some ⟨gd, 0, none⟩) x.data.length cd, .slice aa x.after.length cc, .bool x.out] : List Value)[j]? = some v) : Ru (Instr.loadAt T (.pointer (some (Addr.add ⟨q, 0, none⟩ j)))) w v w := by
  obtain ⟨gd, cd, aa, cc, h1, _⟩ := h
  have := h1.at.load (P := Tryz.prog) hT (hj gd cd aa cc)
  rw [Nat.zero_add] at this
  rw [add_none, Nat.zero_add]; exact this
theorem ChAt.ldD {q : Nat} {x : Ch} (h : ChAt w rl q x) : ∃ gd cd, Ru (Instr.loadAt 36 (.pointer (some (Addr.add ⟨q, 0, none⟩ 3)))) w (.slice (some ⟨gd, 0, none⟩) x.data.length cd) w ∧ At w gd 0 (u8L x.data) := by
  obtain ⟨gd, cd, aa, cc, h1, h2, _⟩ := h
  exact ⟨gd, cd, by rw [add_none]; exact h1.at.load (by kernel_rfl) rfl, h2⟩
theorem ChAt.ldA {q : Nat} {x : Ch} (h : ChAt w rl q x) : ∃ aa cc, Ru (Instr.loadAt 37 (.pointer (some (Addr.add ⟨q, 0, none⟩ 4)))) w (.slice aa x.after.length cc) w ∧ Row w aa (iL x.after) := by
  obtain ⟨gd, cd, aa, cc, h1, _, _, h4, _⟩ := h
  exact ⟨aa, cc, by rw [add_none]; exact h1.at.load (by kernel_rfl) rfl, h4⟩
theorem given_c (h : PIn w0 R rl w sp c d mo mm ca oa Lo Lm P) {n : Int} (hk : K (.bool (decide (1 ≤ n ∧ n ≤ P.last))) w) : Cal Tryz.prog F_patch_Store_given #[.pointer (some ⟨sp, 0, none⟩), .int .i64 n] w K := by
  apply C_patch_Store_given
  unfold D_patch_Store_given
  refine Share.cut (fun x w' => x = [.bool (decide (1 ≤ n ∧ n ≤ P.last))] ∧ w' = w) (cond_of (fun hb => ?_) (fun hb => ?_)) ?_
  · have := of_decide_eq_true hb
    refine ⟨_, rfl, _, h.llast, ?_, rfl⟩
    congr 2; rw [Bool.eq_iff_iff]; simp only [decide_eq_true_eq]; omega
  · have := of_decide_eq_false hb
    refine ⟨?_, rfl⟩
    congr 2; rw [Bool.eq_iff_iff]; simp; omega
  · rintro x w' ⟨rfl, rfl⟩
    exact ⟨_, rfl, hk⟩
set_option maxRecDepth 100000 in
theorem meets_c {q1 q2 : Nat} {x y : Ch} (h1 : ChAt w rl q1 x) (h2 : ChAt w rl q2 y) (b1 : x.frm + x.data.length ≤ 256) (b2 : y.frm + y.data.length ≤ 256) (hk : ∀ w', Mod No w w' → K (.bool (meetB x y)) w') : Cal Tryz.prog F_patch_change_meets #[.pointer (some ⟨q1, 0, none⟩), .pointer (some ⟨q2, 0, none⟩)] w K := by
  apply C_patch_change_meets
  unfold D_patch_change_meets
  have md : Mod No w (Go.Den.drew w) := (Mod.refl No w).drew
  have h1d : ChAt (Go.Den.drew w) rl q1 x := h1.keep md id fun _ _ => id
  have h2d : ChAt (Go.Den.drew w) rl q2 y := h2.keep md id fun _ _ => id
  obtain ⟨g1, c1, d1, _⟩ := h1d.ldD
  obtain ⟨g2, c2, d2, _⟩ := h2d.ldD
  refine Share.cut (fun z w' => z = [.bool (meetB x y)] ∧ w' = Go.Den.drew w) ⟨_, rfl, _, h1d.ld (j := 2) (by kernel_rfl) (fun _ _ _ _ => rfl), _, rfl, _, h2d.ld (j := 2) (by kernel_rfl) (fun _ _ _ _ => rfl), _, rfl, _, _, _, d2, ?_⟩ ?_
  · rw [wrap64 (x := (y.frm : Int) + (y.data.length : Int)) (by omega) (by omega)]
    refine cond_of (fun hb => ?_) (fun hb => ?_)
    · have hb := of_decide_eq_true hb
      refine ⟨_, rfl, _, h2d.ld (j := 2) (by kernel_rfl) (fun _ _ _ _ => rfl), _, rfl, _, h1d.ld (j := 2) (by kernel_rfl) (fun _ _ _ _ => rfl), _, rfl, _, _, _, d1, ?_, rfl⟩
      rw [wrap64 (x := (x.frm : Int) + (x.data.length : Int)) (by omega) (by omega)]
      unfold meetB
      have e1 : decide (x.frm < y.frm + y.data.length) = true := decide_eq_true (by omega)
      rw [e1, Bool.true_and]
      congr 2; rw [Bool.eq_iff_iff]; simp only [decide_eq_true_eq]; omega
    · have hb := of_decide_eq_false hb
      refine ⟨?_, rfl⟩
      unfold meetB
      have e1 : decide (x.frm < y.frm + y.data.length) = false := decide_eq_false (by omega)
      rw [e1, Bool.false_and]
  · rintro z w' ⟨rfl, rfl⟩
    exact ⟨_, rfl, hk _ md⟩
/-- The map of those that may be written. -/
def okM (l : List Int) : List (Int × Value) := l.map fun k => (k, .bool true)
theorem look_ok : ∀ (l : List Int) (k : Int), lookupL (okM l) k = if l.contains k then some (.bool true) else none
  | [], k => rfl
  | x :: r, k => by
    have ih := look_ok r k
    unfold okM at ih ⊢
    rw [List.map_cons]
    simp only [lookupL]
    by_cases h : x = k
    · subst h; simp
    · have h' : ¬ k = x := fun e => h e.symm
      rw [if_neg h, ih]
      simp [h']
set_option maxRecDepth 100000 in
theorem lookOk {m : Nat} {l : List Int} (h : MapAt w m (okM l)) (k : Int) : Ru (Instr.lookup 176 (.map (some m)) (.int .i64 k) false) w (.bool (l.contains k)) w := by
  have := lookup_run (P := Tryz.prog) mapOk h (k := k)
  rw [look_ok] at this
  by_cases hc : l.contains k = true
  · rw [if_pos hc] at this; rw [hc]; exact this
  · rw [if_neg hc] at this
    have : l.contains k = false := by simpa using hc
    rw [this]; assumption
/-- A cell that holds a map of marks; a cell that holds a pointer. -/
theorem tells_may1 {S : Nat → Prop} {q2 q5 m9 : Nat} {ok xs : List Int} (h : PIn w0 R rl w sp c d mo mm ca oa Lo Lm P) (hS : ∀ x, ¬ S x) (h2 : At w q2 0 [.pointer (some ⟨sp, 0, none⟩)]) (h5 : At w q5 0 [.map (some m9)]) (h9 : MapAt w m9 (okM ok)) :
    Tells (.func (.func F_patch_Store_may_1) #[] #[.pointer (some ⟨q2, 0, none⟩), .pointer (some ⟨q5, 0, none⟩)]) w S (fun id => P.opn id && !(ok.contains id)) xs := by
  intro w' k x _ K hK
  have k' : Mod No w w' := k.mono fun z _ e => absurd e (hS z)
  have h' := h.nos k'
  refine ⟨_, _, _, rfl, ?_⟩
  show Cal Tryz.prog F_patch_Store_may_1 #[.int .i64 x, .pointer (some ⟨q2, 0, none⟩), .pointer (some ⟨q5, 0, none⟩)] w' K
  apply C_patch_Store_may_1
  obtain ⟨p, hp, hpn, _⟩ := h'.lookO x
  refine Share.cut (fun z w2 => z = [.bool (P.opn x && !(ok.contains x))] ∧ w2 = w') ⟨_, (h2.keep k' id).load (i := 0) (by kernel_rfl) rfl, _, rfl, some mo, h'.lo', p, hp, cond_of (fun hb => ?_) (fun hb => ?_)⟩ ?_
  · have ho : P.opn x = true := by
      have : p.isNone = false := by simpa using hb
      rw [hpn] at this; simpa using this
    refine ⟨some m9, (h5.keep k' id).load (i := 0) (by kernel_rfl) rfl, _, lookOk (h9.keep k' id) x, ?_, rfl⟩
    rw [ho, Bool.true_and]
  · have ho : P.opn x = false := by
      have : p.isNone = true := by simpa using hb
      rw [hpn] at this; simpa using this
    rw [ho, Bool.false_and]; exact ⟨rfl, rfl⟩
  · rintro z w2 ⟨rfl, rfl⟩
    exact ⟨_, rfl, hK _ (Mod.refl _ _)⟩
theorem tells_may2 {S : Nat → Prop} {q7 q5 m9 : Nat} {y : Ch} {ok : List Int} {l : List Ch} (h : PIn w0 R rl w sp c d mo mm ca oa Lo Lm P) (hS : ∀ x, ¬ S x) (hl : ∀ x ∈ l, x ∈ P.all) (hy : y ∈ P.all) (h7 : At w q7 0 [.pointer (some ⟨ca y.id, 0, none⟩)]) (h5 : At w q5 0 [.map (some m9)]) (h9 : MapAt w m9 (okM ok))
    (p : Nat → Bool) (hp : ∀ x ∈ l, p (ca x.id) = (meetB x y && !(ok.contains (x.id : Int)))) :
    TellsP (.func (.func F_patch_Store_may_2) #[] #[.pointer (some ⟨q7, 0, none⟩), .pointer (some ⟨q5, 0, none⟩)]) w S p (l.map fun x => ca x.id) := by
  intro w' k qx hqx K hK
  obtain ⟨x, hx, rfl⟩ := List.mem_map.1 hqx
  have k' : Mod No w w' := k.mono fun z _ e => absurd e (hS z)
  have md : Mod No w' (Go.Den.drew w') := (Mod.refl No w').drew
  have k2 := k'.no md
  have h' := h.nos k2
  have hxa := hl x hx
  refine ⟨_, _, _, rfl, ?_⟩
  show Cal Tryz.prog F_patch_Store_may_2 #[.pointer (some ⟨ca x.id, 0, none⟩), .pointer (some ⟨q7, 0, none⟩), .pointer (some ⟨q5, 0, none⟩)] w' K
  apply C_patch_Store_may_2
  refine Share.cut (fun z w2 => z = [.bool (meetB x y && !(ok.contains (x.id : Int)))] ∧ Mod No w' w2) ⟨_, (h7.keep k2 id).load (i := 0) (by kernel_rfl) rfl, meets_c (h'.chs x hxa).2.2 (h'.chs y hy).2.2 (h.wf.dat x hxa).2 (h.wf.dat y hy).2 fun w1 m1 => ⟨_, rfl, cond_of (fun hb => ?_) (fun hb => ?_)⟩⟩ ?_
  · have h1 := h'.nos m1
    have k3 := k2.no m1
    refine ⟨some m9, (h5.keep k3 id).load (i := 0) (by kernel_rfl) rfl, _, rfl, _, (h1.chs x hxa).2.2.ld (j := 0) (by kernel_rfl) (fun _ _ _ _ => rfl), _, lookOk (h9.keep k3 id) _, ?_, md.no m1⟩
    rw [hb, Bool.true_and]
  · rw [hb, Bool.false_and]; exact ⟨rfl, md.no m1⟩
  · rintro z w2 ⟨rfl, m2⟩
    refine ⟨_, rfl, ?_⟩
    have := hK w2 m2
    rwa [hp x hx] at this
end
end Go.Proofs.YtocjjigmpgekfaaGreat

/- Layer 11, the program's store: may and with. -/
open Go Go.Den Go.Proofs
namespace Go.Proofs.YtocjjigmpgekfaaGreat
theorem sub_all {P : Ps} {o : On} (ho : o ∈ P.ons) : o.l.Sublist P.all := by
  unfold Ps.all
  rw [List.flatMap_def]
  exact List.sublist_flatten_of_mem (List.mem_map.2 ⟨o, ho, rfl⟩)
theorem ids_on {P : Ps} (h : WFS P) {o : On} (ho : o ∈ P.ons) : (o.l.map (·.id)).Nodup := ((sub_all ho).map _).nodup h.ids
theorem on_all {P : Ps} {o : On} (ho : o ∈ P.ons) {x : Ch} (hx : x ∈ o.l) : x ∈ P.all := mem_all.2 ⟨o, ho, hx⟩
theorem mayN_mem {op : Int → Bool} {l : List Ch} : ∀ (n : Nat) (k : Int), k ∈ mayN op l n → ∃ x ∈ l.take n, k = (x.id : Int)
  | 0, k, h => by simp [mayN] at h
  | n + 1, k, h => by
    unfold mayN at h
    cases hx : l[n]? with
    | none =>
      rw [hx] at h
      obtain ⟨x, h1, h2⟩ := mayN_mem n k h
      exact ⟨x, List.take_subset_take_left l (by omega) h1, h2⟩
    | some c =>
      rw [hx] at h
      obtain ⟨hn, he⟩ := List.getElem?_eq_some_iff.1 hx
      have ht : l.take (n + 1) = l.take n ++ [c] := by rw [List.take_succ_eq_append_getElem hn, he]
      rw [ht]
      have h : k ∈ (if badB op (l.take n) (mayN op l n) c = true then mayN op l n else mayN op l n ++ [(c.id : Int)]) := h
      split at h
      · obtain ⟨x, h1, h2⟩ := mayN_mem n k h
        exact ⟨x, List.mem_append.2 (.inl h1), h2⟩
      · rcases List.mem_append.1 h with h | h
        · obtain ⟨x, h1, h2⟩ := mayN_mem n k h
          exact ⟨x, List.mem_append.2 (.inl h1), h2⟩
        · simp at h; exact ⟨c, by simp, h⟩
theorem okM_snoc {l : List Int} {k : Int} (h : k ∉ l) : putL k (.bool true) (okM l) = okM (l ++ [k]) := by
  rw [putL_new]
  · simp [okM]
  · intro p hp
    unfold okM at hp
    obtain ⟨x, hx, rfl⟩ := List.mem_map.1 hp
    intro e
    exact h (by rw [← e]; exact hx)
/-- A mark of changes as a mark of where they lie. -/
def pOf (ca : Nat → Nat) (f : Ch → Bool) (l : List Ch) (q : Nat) : Bool := match l.find? fun x => ca x.id == q with | some x => f x | none => false
section
variable {w0 w w' : World} {R : Nat → Prop} {rl : Nat → Nat} {sp c d mo mm : Nat} {ca oa : Nat → Nat} {Lo Lm : List (Int × Value)} {P : Ps} {K : Value → World → Prop}
theorem PIn.inj (h : PIn w0 R rl w sp c d mo mm ca oa Lo Lm P) {x y : Ch} (hx : x ∈ P.all) (hy : y ∈ P.all) (e : ca x.id = ca y.id) : x = y := by
  have h1 := (h.chs x hx).2.1
  have h2 := (h.chs y hy).2.1
  rw [e, h2] at h1
  exact map_inj h.wf.ids hx hy (by omega)
theorem PIn.pOf (h : PIn w0 R rl w sp c d mo mm ca oa Lo Lm P) {f : Ch → Bool} {l : List Ch} (hl : ∀ x ∈ l, x ∈ P.all) {x : Ch} (hx : x ∈ l) : pOf ca f l (ca x.id) = f x := by
  unfold Go.Proofs.YtocjjigmpgekfaaGreat.pOf
  cases hf : l.find? fun y => ca y.id == ca x.id with
  | none =>
    have := List.find?_eq_none.1 hf x hx
    simp at this
  | some y =>
    have hy := List.mem_of_find?_eq_some hf
    have he := List.find?_some hf
    simp at he
    rw [h.inj (hl y hy) (hl x hx) he]
theorem any_pOf (h : PIn w0 R rl w sp c d mo mm ca oa Lo Lm P) {f : Ch → Bool} {l : List Ch} (hl : ∀ x ∈ l, x ∈ P.all) : (l.map fun x => ca x.id).any (Go.Proofs.YtocjjigmpgekfaaGreat.pOf ca f l) = l.any f := by
  rw [List.any_map]
  rw [Bool.eq_iff_iff, List.any_eq_true, List.any_eq_true]
  constructor
  · rintro ⟨x, hx, e⟩
    simp only [Function.comp] at e
    rw [h.pOf hl hx] at e
    exact ⟨x, hx, e⟩
  · rintro ⟨x, hx, e⟩
    refine ⟨x, hx, ?_⟩
    simp only [Function.comp]
    rw [h.pOf hl hx]; exact e
theorem OnAt.ldL {o : On} {q : Nat} (h : OnAt w0 w rl ca q o) : ∃ la lc, Ru (Instr.loadAt 178 (.pointer (some (Addr.add ⟨q, 0, none⟩ 1)))) w (.slice la o.l.length lc) w ∧ Row w la (pL (o.l.map fun x => ca x.id)) ∧ o.l.length ≤ lc ∧ ∀ q, la = some q → rl q.block = 9 + 3 * o.b := by
  obtain ⟨g, cc, la, lc, h1, h2, h3, h4, h5⟩ := h
  exact ⟨la, lc, by rw [add_none]; exact h1.at.load (by kernel_rfl) rfl, h4.rowU.row, h4.cap.1, h5⟩
theorem OnAt.ldB {o : On} {q : Nat} (h : OnAt w0 w rl ca q o) : ∃ g cc, Ru (Instr.loadAt 36 (.pointer (some (Addr.add ⟨q, 0, none⟩ 0)))) w (.slice (some ⟨g, 0, none⟩) 256 cc) w ∧ At w g 0 (u8L o.base) := by
  obtain ⟨g, cc, la, lc, h1, h2, h3, h4, h5⟩ := h
  exact ⟨g, cc, by rw [add_none]; exact h1.at.load (by kernel_rfl) rfl, h2⟩
theorem box_store (w : World) (p : Option Addr) : (Instr.box 30 (.pointer p)).run Tryz.prog w = .ok (.pointer (some ⟨w.heap.size, 0, none⟩)) (w.alloc (.cells ⟨[.pointer p]⟩ 30)) := rfl
theorem alloc_map (w : World) : (Instr.alloc 176 true (.tuple #[])).run Tryz.prog w = .ok (.pointer (some ⟨w.heap.size, 0, none⟩)) (w.alloc (.cells ⟨[.map none]⟩ 176)) := by kernel_rfl
theorem alloc_pch (w : World) : (Instr.alloc 181 true (.tuple #[])).run Tryz.prog w = .ok (.pointer (some ⟨w.heap.size, 0, none⟩)) (w.alloc (.cells ⟨[.pointer none]⟩ 181)) := by kernel_rfl
theorem store_one {T : TypeId} {z v : Value} {t : TypeId} (hT : scal Tryz.prog T = true) (hv : v.oneCell' = true) : RuU (Instr.storeAt T (.pointer (some ⟨w.heap.size, 0, none⟩)) v) (w.alloc (.cells ⟨[z]⟩ t)) (w.alloc (.cells ⟨[v]⟩ t)) := by
  have := store_cell (P := Tryz.prog) (w := w.alloc (.cells ⟨[z]⟩ t)) (T := T) (b := w.heap.size) (o := 0) (l := [z]) (t := t) (fz := (0, 0)) (v := v) hT (heap_new w _) (by simp) (by simp) hv
  rw [put_new] at this
  exact this
set_option maxRecDepth 100000 in
theorem may11_c (h : PIn w0 R rl w sp c d mo mm ca oa Lo Lm P) {o : On} (ho : o ∈ P.ons) (hk : ∀ w' m, Mod No w w' → w.heap.size ≤ m → MapAt w' m (okM (mayL P.opn o.l)) → K (.map (some m)) w') :
    Cal Tryz.prog F_patch_Store_may #[.pointer (some ⟨sp, 0, none⟩), .pointer (some ⟨oa o.b, 0, none⟩)] w K := by
  apply C_patch_Store_may
  unfold D_patch_Store_may
  have m1 : Mod No w (w.alloc (.cells ⟨[.pointer (some ⟨sp, 0, none⟩)]⟩ 30)) := (Mod.refl No w).alloc _
  have a2 : At (w.alloc (.cells ⟨[.pointer (some ⟨sp, 0, none⟩)]⟩ 30)) w.heap.size 0 [.pointer (some ⟨sp, 0, none⟩)] := AtU.new.at
  have s1 : (w.alloc (.cells ⟨[.pointer (some ⟨sp, 0, none⟩)]⟩ 30)).heap.size = w.heap.size + 1 := by simp
  refine ⟨_, _, box_store _ _, ?_⟩
  generalize w.alloc (.cells ⟨[.pointer (some ⟨sp, 0, none⟩)]⟩ 30) = w1 at *
  have m2 : Mod No w1 (w1.alloc (.map #[] 0)) := (Mod.refl No w1).alloc _
  have mp2 : MapAt (w1.alloc (.map #[] 0)) w1.heap.size [] := MapAt.new
  have s2 : (w1.alloc (.map #[] 0)).heap.size = w1.heap.size + 1 := by simp
  refine ⟨_, _, makeMap_run, ?_⟩
  generalize w1.alloc (.map #[] 0) = w2 at *
  have m3 : Mod No w2 (w2.alloc (.cells ⟨[.map (some w1.heap.size)]⟩ 176)) := (Mod.refl No w2).alloc _
  have a5 : At (w2.alloc (.cells ⟨[.map (some w1.heap.size)]⟩ 176)) w2.heap.size 0 [.map (some w1.heap.size)] := AtU.new.at
  have s3 : (w2.alloc (.cells ⟨[.map (some w1.heap.size)]⟩ 176)).heap.size = w2.heap.size + 1 := by simp
  refine ⟨_, _, alloc_map _, _, store_one (by kernel_rfl) rfl, _, rfl, ?_⟩
  generalize w2.alloc (.cells ⟨[.map (some w1.heap.size)]⟩ 176) = w4 at *
  have M4 := (m1.no m2).no m3
  have h4 := h.nos M4
  obtain ⟨la, lc, l1, l2, l3, l4⟩ := (h4.ons o ho).2.2.ldL
  have hll := h.wf.llen o ho
  have hlast := h.wf.last
  have hoa := fun x hx => on_all ho (x := x) hx
  refine ⟨la, _, lc, l1, ⟨fun x w5 => ∃ (i : Nat) (y : Value), i ≤ o.l.length ∧ x = [y, .int .i64 i] ∧ MapAt w5 w1.heap.size (okM (mayN P.opn o.l i)) ∧ Mod (fun z => z = w1.heap.size) w4 w5, fun x _ => (o.l.length - nI x 1).toNat, ⟨0, _, by omega, rfl, (mp2.keep m3 id), Mod.refl _ _⟩, ?_⟩⟩
  rintro x w5 ⟨i, y, hi, rfl, mp5, M5⟩
  have M5' : Mod No w w5 := M4.anys.trans M5 fun z hz e => by omega
  have h5 := h.nos M5'
  have a25 : At w5 w.heap.size 0 [.pointer (some ⟨sp, 0, none⟩)] := ((a2.keep m2 id).keep m3 id).keep M5 (by omega)
  have a55 : At w5 w2.heap.size 0 [.map (some w1.heap.size)] := a5.keep M5 (by omega)
  refine ⟨_, rfl, cond_of (fun hb => ?_) (fun hb => ?_)⟩
  · have hi : i < o.l.length := by have := of_decide_eq_true hb; omega
    have hxm := List.getElem_mem hi
    have hxa := hoa _ hxm
    have hlr : Row w5 la (pL (o.l.map fun x => ca x.id)) := l2.keep M5 fun q hq e => by
      have h9 := l4 q hq
      have h0 := h.out_of (x := w1.heap.size) (by omega)
      rw [e] at h9
      omega
    have hilm : i < (o.l.map fun x => ca x.id).length := by simp; exact hi
    obtain ⟨b3, o3, hla, hat3⟩ := row_someP hlr hilm
    subst hla
    have hld := hat3.load (P := Tryz.prog) (T := 181) (by kernel_rfl) (pL_get hilm)
    rw [List.getElem_map] at hld
    refine ⟨_, index_slice (k := 1) (by kernel_rfl) (by omega) (by omega), ?_⟩
    rw [add_none, show (i : Int).toNat * 1 = i by omega]
    refine ⟨_, hld, _, _, alloc_pch _, _, store_one (by kernel_rfl) rfl, ?_⟩
    have m7 : Mod No w5 (w5.alloc (.cells ⟨[.pointer (some ⟨ca o.l[i].id, 0, none⟩)]⟩ 181)) := (Mod.refl No w5).alloc _
    have a7 : At (w5.alloc (.cells ⟨[.pointer (some ⟨ca o.l[i].id, 0, none⟩)]⟩ 181)) w5.heap.size 0 [.pointer (some ⟨ca o.l[i].id, 0, none⟩)] := AtU.new.at
    have s7 : (w5.alloc (.cells ⟨[.pointer (some ⟨ca o.l[i].id, 0, none⟩)]⟩ 181)).heap.size = w5.heap.size + 1 := by simp
    generalize w5.alloc (.cells ⟨[.pointer (some ⟨ca o.l[i].id, 0, none⟩)]⟩ 181) = w7 at *
    have h7 := h5.nos m7
    obtain ⟨aa, ac, d1, d2⟩ := (h7.chs _ hxa).2.2.ldA
    have haf := h.wf.aft _ hxa
    refine ⟨_, a7.load (i := 0) (by kernel_rfl) rfl, _, rfl, _, _, _, d1, ?_⟩
    refine Contains64_c (S := No) rfl (by omega) d2 (tells_may1 (S := No) h7 (fun _ => id) (a25.keep m7 id) (a55.keep m7 id) (mp5.keep m7 id)) fun w8 m8 => ⟨_, rfl, ?_⟩
    have m58 := m7.no m8
    have h8 := h7.nos m8
    refine Share.cut (fun z w10 => z = [.bool (badB P.opn (o.l.take i) (mayN P.opn o.l i) o.l[i])] ∧ Mod No w5 w10 ∧ At w10 w5.heap.size 0 [.pointer (some ⟨ca o.l[i].id, 0, none⟩)]) (cond_of (fun hb => ?_) (fun hb => ?_)) ?_
    · unfold badB; rw [hb, Bool.true_or]; exact ⟨rfl, m58, a7.keep m8 id⟩
    · obtain ⟨la', lc', l1', l2', l3', _⟩ := (h8.ons o ho).2.2.ldL
      refine ⟨_, rfl, la', _, lc', l1', _, _, _, slice_h (k := 1) (by kernel_rfl) (by omega) (by omega), ?_⟩
      rw [Int.toNat_natCast]
      have hsub : ∀ x ∈ o.l.take i, x ∈ P.all := fun x hx => hoa x (List.mem_of_mem_take hx)
      have hrow' : Row w8 (cutA la' lc' 0 1) (pL ((o.l.take i).map fun x => ca x.id)) := by
        by_cases h0 : i = 0
        · subst h0; exact .inl rfl
        · obtain ⟨b4, o4, e4, hat4⟩ := row_someP (i := 0) l2' (by simp; omega)
          right
          refine ⟨b4, o4, ?_, ?_⟩
          · rw [e4]; unfold cutA; rw [if_neg (by omega)]; simp [add_none]
          · have := hat4.sub (i := 0) (m := i) (by simp; omega)
            rw [List.drop_zero, Nat.add_zero] at this
            have e5 : (pL (o.l.map fun x => ca x.id)).take i = pL ((o.l.take i).map fun x => ca x.id) := by simp [pL, List.map_take]
            rw [e5] at this; exact this
      refine ContainsP_c (S := No) (xs := (o.l.take i).map fun x => ca x.id) (by simp; omega) (by omega) hrow'
        (tells_may2 (S := No) h8 (fun _ => id) hsub hxa (a7.keep m8 id) (a55.keep m58 id) (mp5.keep m58 id) (Go.Proofs.YtocjjigmpgekfaaGreat.pOf ca (fun x => meetB x o.l[i] && !((mayN P.opn o.l i).contains (x.id : Int))) (o.l.take i)) fun x hx => h8.pOf hsub hx) fun w9 m9 => ⟨_, rfl, ?_, m58.no m9, (a7.keep m8 id).keep m9 id⟩
      rw [any_pOf h8 hsub]
      unfold badB; rw [hb, Bool.false_or]
    · rintro z w10 ⟨rfl, m10, a10⟩
      have hsucc : mayN P.opn o.l (i + 1) = if badB P.opn (o.l.take i) (mayN P.opn o.l i) o.l[i] = true then mayN P.opn o.l i else mayN P.opn o.l i ++ [(o.l[i].id : Int)] := by
        conv => lhs; unfold mayN
        rw [List.getElem?_eq_getElem hi]
      have M10 : Mod (fun z => z = w1.heap.size) w4 w10 := M5.no m10
      refine ⟨_, rfl, Share.cut (fun z w12 => MapAt w12 w1.heap.size (okM (mayN P.opn o.l (i + 1))) ∧ Mod (fun z => z = w1.heap.size) w4 w12) (cond_of (fun hb => ?_) (fun hb => ?_)) ?_⟩
      · have hbf : badB P.opn (o.l.take i) (mayN P.opn o.l i) o.l[i] = false := by simpa using hb
        have md : Mod No w10 (Go.Den.drew w10) := (Mod.refl No w10).drew
        have h10 := (h5.nos m10).nos md
        have a7d : At (Go.Den.drew w10) w5.heap.size 0 [.pointer (some ⟨ca o.l[i].id, 0, none⟩)] := a10.keep md id
        have hnew : (o.l[i].id : Int) ∉ mayN P.opn o.l i := fun hm => by
          obtain ⟨x, hx, e⟩ := mayN_mem i _ hm
          obtain ⟨j, hj, hje⟩ := List.getElem_of_mem hx
          have hji : j < i := by simp at hj; omega
          rw [List.getElem_take] at hje
          have hnd := List.pairwise_iff_getElem.1 (ids_on h.wf ho) j i (by simp; omega) (by simp; omega) hji
          simp at hnd
          rw [hje] at hnd
          omega
        obtain ⟨w11, u1, u2, u3, u4⟩ := update_run (P := Tryz.prog) (T := 176) (k := (o.l[i].id : Int)) (v := .bool true) mapOk ((mp5.keep m10 id).keep md id)
        rw [okM_snoc hnew] at u2
        refine ⟨some w1.heap.size, ((a55.keep m10 id).keep md id).load (i := 0) (by kernel_rfl) rfl, _, a7d.load (i := 0) (by kernel_rfl) rfl, _, rfl, _, (h10.chs _ hxa).2.2.ld (j := 0) (by kernel_rfl) (fun _ _ _ _ => rfl), w11, u1, ?_, (M10.no md).trans u3 fun _ _ e => e⟩
        rw [hsucc, if_neg (by rw [hbf]; simp)]; exact u2
      · have hbt : badB P.opn (o.l.take i) (mayN P.opn o.l i) o.l[i] = true := by simpa using hb
        rw [hsucc, if_pos hbt]
        exact ⟨mp5.keep m10 id, M10⟩
      · rintro z w12 ⟨mp12, M12⟩
        rw [wrap64 (x := (i : Int) + 1) (by omega) (by omega)]
        exact ⟨⟨i + 1, _, by omega, rfl, mp12, M12⟩, by simp [nI, nth]; omega⟩
  · have hil : i = o.l.length := by have := of_decide_eq_false hb; omega
    refine ⟨some w1.heap.size, a55.load (i := 0) (by kernel_rfl) rfl, hk w5 _ M5' (by omega) ?_⟩
    unfold mayL; rw [← hil]; exact mp5
end
end Go.Proofs.YtocjjigmpgekfaaGreat

/- Layer 11, the program's store: bytes with some changes; what is read, images. -/
open Go Go.Den Go.Proofs
namespace Go.Proofs.YtocjjigmpgekfaaGreat
theorem withL_snoc (base : Bk) (l : List Ch) (c : Ch) : withL base (l ++ [c]) = overB (withL base l) c.frm c.data := by unfold withL; rw [List.foldl_append]; rfl
theorem withL_len {base : Bk} (hb : base.length = 256) : ∀ l : List Ch, (∀ x ∈ l, x.frm + x.data.length ≤ 256) → (withL base l).length = 256 := by
  intro l
  induction l generalizing base with
  | nil => intro _; exact hb
  | cons c l ih =>
    intro h
    have h2 := h c (by simp)
    exact ih (base := overB base c.frm c.data) (by rw [overB_len (by omega), hb]) fun x hx => h x (by simp [hx])
section
variable {w0 w w' : World} {R : Nat → Prop} {rl : Nat → Nat} {sp c d mo mm : Nat} {ca oa : Nat → Nat} {Lo Lm : List (Int × Value)} {P : Ps} {K : Value → World → Prop}
set_option maxRecDepth 100000 in
theorem with_c (h : PIn w0 R rl w sp c d mo mm ca oa Lo Lm P) {o : On} (ho : o ∈ P.ons) {f : Ch → Bool} {v : Value} (ht : TellsP v w (fun z => w.heap.size ≤ z) (pOf ca f o.l) (o.l.map fun x => ca x.id))
    (hk : ∀ w' g cc, Mod No w w' → w.heap.size ≤ g → AtU w' g 0 (u8L (withL o.base (o.l.filter f))) → K (.slice (some ⟨g, 0, none⟩) 256 cc) w') : Cal Tryz.prog F_patch_on_with #[.pointer (some ⟨oa o.b, 0, none⟩), v] w K := by
  apply C_patch_on_with
  unfold D_patch_on_with
  obtain ⟨g0, cc0, lb, atb⟩ := (h.ons o ho).2.2.ldB
  have hbl := h.wf.base o ho
  refine ⟨_, rfl, _, _, _, lb, CloneB_c (.inr ⟨_, _, rfl, atb⟩) hbl (fun e => by cases e) (by omega) fun w1 a1 c1 o1 m1 => ⟨_, _, _, rfl, _, rfl, ?_⟩⟩
  obtain ⟨g, rfl, hg, hat⟩ := o1.sm (by omega)
  have hcap := o1.cap
  have h1 := h.nos m1
  obtain ⟨la, lc, l1, l2, l3, l4⟩ := (h1.ons o ho).2.2.ldL
  have hll := h.wf.llen o ho
  have hlast := h.wf.last
  have hoa := fun x hx => on_all ho (x := x) hx
  have hz1 := m1.size
  refine ⟨la, _, lc, l1, ⟨fun x w2 => ∃ i : Nat, i ≤ o.l.length ∧ x = [.int .i64 i] ∧ AtU w2 g 0 (u8L (withL o.base ((o.l.take i).filter f))) ∧ Mod (fun z => z = g) w1 w2, fun x _ => (o.l.length - nI x 0).toNat, ⟨0, by omega, rfl, hat, Mod.refl _ _⟩, ?_⟩⟩
  rintro x w2 ⟨i, hi, rfl, hat2, M2⟩
  have M2' : Mod No w w2 := m1.anys.trans M2 fun z hz e => by omega
  have h2 := h.nos M2'
  refine ⟨_, rfl, cond_of (fun hb => ?_) (fun hb => ?_)⟩
  · have hi : i < o.l.length := by have := of_decide_eq_true hb; omega
    have hxm := List.getElem_mem hi
    have hxa := hoa _ hxm
    have hdat := (h.wf.dat _ hxa)
    have hlr : Row w2 la (pL (o.l.map fun x => ca x.id)) := l2.keep M2 fun q hq e => by
      have h9 := l4 q hq
      have h0 := h.out_of (x := g) hg
      rw [e] at h9
      omega
    have hilm : i < (o.l.map fun x => ca x.id).length := by simp; exact hi
    obtain ⟨b3, o3, hla, hat3⟩ := row_someP hlr hilm
    subst hla
    have hld := hat3.load (P := Tryz.prog) (T := 181) (by kernel_rfl) (pL_get hilm)
    rw [List.getElem_map] at hld
    refine ⟨_, index_slice (k := 1) (by kernel_rfl) (by omega) (by omega), ?_⟩
    rw [add_none, show (i : Int).toNat * 1 = i by omega]
    refine ⟨_, hld, ht w2 (M2'.mono fun _ _ e => e.elim) _ (List.mem_map.2 ⟨_, hxm, rfl⟩) _ fun w3 m3 => ⟨_, rfl, ?_⟩⟩
    rw [h.pOf hoa hxm]
    have hfs : (o.l.take (i + 1)).filter f = (o.l.take i).filter f ++ (if f o.l[i] = true then [o.l[i]] else []) := by
      rw [List.take_succ_eq_append_getElem hi, List.filter_append]
      congr 1
      by_cases hf : f o.l[i] = true
      · rw [if_pos hf]; simp [hf]
      · rw [if_neg hf]; simp [hf]
    refine Share.cut (fun z w5 => AtU w5 g 0 (u8L (withL o.base ((o.l.take (i + 1)).filter f))) ∧ Mod (fun z => z = g) w1 w5) (cond_of (fun hf => ?_) (fun hf => ?_)) ?_
    · have md : Mod No w2 (Go.Den.drew w3) := m3.drew
      have h3 := (h2.nos md).chs _ hxa
      obtain ⟨gd, cd, d1, d2⟩ := h3.2.2.ldD
      have hwl : (withL o.base ((o.l.take i).filter f)).length = 256 := withL_len hbl _ fun x hx => (h.wf.dat x (hoa x (List.mem_of_mem_take (List.mem_filter.1 hx).1))).2
      refine ⟨_, rfl, _, h3.2.2.ld (j := 2) (by kernel_rfl) (fun _ _ _ _ => rfl), _, _, _, slice_l (k := 1) (by kernel_rfl) (by omega) (by omega), _, rfl, _, _, _, d1, ?_⟩
      rw [Int.toNat_natCast]
      have hcut : cutA (some ⟨g, 0, none⟩) c1 o.l[i].frm 1 = some ⟨g, 0 + o.l[i].frm, none⟩ := by
        unfold cutA; rw [if_neg (by omega)]; simp [add_none]
      rw [hcut]
      obtain ⟨w4, c1', c2', c3', c4'⟩ := copy_in (P := Tryz.prog) (T := 36) (T2 := 36) (ty := 3) (k := 1) (i := o.l[i].frm) (n := 256 - o.l[i].frm) (c := c1 - o.l[i].frm) (n2 := o.l[i].data.length) (c2 := cd) (a2 := some ⟨gd, 0, none⟩) (src := u8L o.l[i].data) (by kernel_rfl) (hat2.keep md id) (by rw [length_u8L, hwl]; omega) (.inr ⟨_, _, rfl, d2⟩) (by simp) (one_u8L _)
      refine ⟨_, w4, c1', ?_, (M2.no md).trans c3' fun _ _ e => e⟩
      have e2 : splice (u8L (withL o.base ((o.l.take i).filter f))) o.l[i].frm ((u8L o.l[i].data).take (Nat.min o.l[i].data.length (256 - o.l[i].frm) * 1)) = u8L (overB (withL o.base ((o.l.take i).filter f)) o.l[i].frm o.l[i].data) := by
        have : (u8L o.l[i].data).take (Nat.min o.l[i].data.length (256 - o.l[i].frm) * 1) = u8L o.l[i].data := List.take_of_length_le (by rw [length_u8L, Nat.mul_one]; exact Nat.le_of_eq (Nat.min_eq_left (by omega)).symm)
        rw [this, splice_u8L]; rfl
      rw [e2] at c2'
      rw [hfs, if_pos hf, withL_snoc]; exact c2'
    · rw [hfs, if_neg (by rw [hf]; simp), List.append_nil]
      exact ⟨hat2.keep m3 id, M2.no m3⟩
    · rintro z w5 ⟨hat5, M5⟩
      rw [wrap64 (x := (i : Int) + 1) (by omega) (by omega)]
      exact ⟨⟨i + 1, by omega, rfl, hat5, M5⟩, by simp [nI, nth]; omega⟩
  · have hil : i = o.l.length := by have := of_decide_eq_false hb; omega
    rw [hil, List.take_length] at hat2
    exact hk w2 g c1 M2' hg hat2
/-- Those that were in an image that was written. -/
theorem tells_flush {F : FuncId} {l : List Ch} (h : PIn w0 R rl w sp c d mo mm ca oa Lo Lm P) (hl : ∀ x ∈ l, x ∈ P.all)
    (hF : ∀ (p0 : Option Addr) (w : World) (K : Value → World → Prop), (∃ q4 : Addr, (.pointer p0 : Value) = .pointer (some q4) ∧ ∃ b6 : Bool, Ru (Instr.loadAt 4 (.pointer (some (Addr.add q4 5)))) w (.bool b6) w ∧ K (.bool b6) w) → Cal Tryz.prog F #[.pointer p0] w K) :
    TellsP (.func (.func F) #[] #[]) w (fun z => w.heap.size ≤ z) (pOf ca (·.out) l) (l.map fun x => ca x.id) := by
  intro w' k qx hqx K hK
  obtain ⟨x, hx, rfl⟩ := List.mem_map.1 hqx
  refine ⟨_, _, _, rfl, ?_⟩
  show Cal Tryz.prog F #[.pointer (some ⟨ca x.id, 0, none⟩)] w' K
  have h' := h.keepS k (fun z hz e => by have := (h.lo z hz).2; omega) fun z hz e => by have := h.mod.size; omega
  refine hF _ _ _ ⟨_, rfl, _, (h'.chs x (hl x hx)).2.2.ld (j := 5) (by kernel_rfl) (fun _ _ _ _ => rfl), ?_⟩
  have := hK w' (Mod.refl _ _)
  rwa [h.pOf hl hx] at this
theorem tells_image {q m9 : Nat} {ok : List Int} {l : List Ch} (h : PIn w0 R rl w sp c d mo mm ca oa Lo Lm P) (hl : ∀ x ∈ l, x ∈ P.all) (hq : At w q 0 [.map (some m9)]) (h9 : MapAt w m9 (okM ok)) :
    TellsP (.func (.func F_patch_Store_Image_1) #[] #[.pointer (some ⟨q, 0, none⟩)]) w (fun z => w.heap.size ≤ z) (pOf ca (fun x => ok.contains (x.id : Int)) l) (l.map fun x => ca x.id) := by
  intro w' k qx hqx K hK
  obtain ⟨x, hx, rfl⟩ := List.mem_map.1 hqx
  refine ⟨_, _, _, rfl, ?_⟩
  show Cal Tryz.prog F_patch_Store_Image_1 #[.pointer (some ⟨ca x.id, 0, none⟩), .pointer (some ⟨q, 0, none⟩)] w' K
  have hql := hq.lt
  have h9l := h9.lt
  have k2 := k.no ((Mod.refl No w').drew)
  have h' := h.keepS k2 (fun z hz e => by have := (h.lo z hz).2; omega) fun z hz e => by have := h.mod.size; omega
  apply C_patch_Store_Image_1
  refine ⟨some m9, (hq.keep k2 (by omega)).load (i := 0) (by kernel_rfl) rfl, _, rfl, _, (h'.chs x (hl x hx)).2.2.ld (j := 0) (by kernel_rfl) (fun _ _ _ _ => rfl), _, lookOk (h9.keep k2 (by omega)) _, ?_⟩
  have := hK _ (Mod.refl No w').drew
  rwa [h.pOf hl hx] at this
/-- A store of one's own. -/
def Px (w0 : World) (R : Nat → Prop) (w : World) (sp d : Nat) (P : Ps) : Prop := WFP P ∧ ∃ rl c mo mm ca oa Lo Lm, PIn w0 R rl w sp c d mo mm ca oa Lo Lm P
theorem Px.nos (h : Px w0 R w sp d P) (k : Mod No w w') : Px w0 R w' sp d P := by
  obtain ⟨hw, rl, c, mo, mm, ca, oa, Lo, Lm, h⟩ := h
  exact ⟨hw, rl, c, mo, mm, ca, oa, Lo, Lm, h.nos k⟩
theorem Px.gro (h : Px w0 R w sp d P) (k : Mod No w w') : Px w0 (Gro R w w') w' sp d P := by
  obtain ⟨hw, rl, c, mo, mm, ca, oa, Lo, Lm, h⟩ := h
  exact ⟨hw, rl, c, mo, mm, ca, oa, Lo, Lm, h.gro k⟩
theorem Px.wf (h : Px w0 R w sp d P) : WFP P ∧ WFS P ∧ WFC P.C ∧ WF P.C.D ∧ Mod No w0 w ∧ (∀ x, R x → w0.heap.size ≤ x ∧ x < w.heap.size) := by
  obtain ⟨hw, rl, c, mo, mm, ca, oa, Lo, Lm, h⟩ := h
  exact ⟨hw, h.wf, h.cx.wf.1, h.cx.wf.2.1, h.mod, h.lo⟩
/-- What is read of a block. -/
def cont (P : Ps) (b : Nat) : Bk := match findB P.C.l b with | some x => x.data | none => atD P.C.D b
/-- A cache as large as its disk is never full. -/
theorem ask_some {C : Ca} {b : Nat} (h : WFC C) (hf : C.D.vs.length ≤ C.most) (hb : b < C.D.vs.length) : ∃ C', askC C b = some C' := by
  unfold askC
  cases hx : findB C.l b with
  | some x => exact ⟨_, rfl⟩
  | none =>
    have hlt : C.l.length < C.most := by
      have hno := findB_none hx
      have h1 : (b :: C.l.map (·.b)).Nodup := by
        rw [List.nodup_cons]
        refine ⟨fun hm => ?_, h.nodup⟩
        obtain ⟨x, hx', e⟩ := List.mem_map.1 hm
        exact hno x hx' e
      have h2 := List.Nodup.length_le_of_subset h1 (l₂ := List.range C.D.vs.length) fun k hk => by
        rw [List.mem_range]
        rcases List.mem_cons.1 hk with rfl | hk
        · exact hb
        · obtain ⟨x, hx', rfl⟩ := List.mem_map.1 hk
          exact h.lt x hx'
      simp at h2
      omega
    have : roomC C = some C := by unfold roomC; rw [if_pos hlt]
    rw [this]
    exact ⟨_, rfl⟩
/-- Asking for a block leaves what holds between calls. -/
theorem WFP.ask {C' : Ca} {b : Nat} {l0 : List Bf} {y : Bf} (h : WFP P) (hs : WFS P) (hc : WFC P.C) (A : Asked P.C C' b l0 y) : WFP { P with C := C' } where
  lne := h.lne
  pin := fun o ho => by
    obtain ⟨x, hx, h1, h2, h3⟩ := h.pin o ho
    exact ⟨x, A.keep x hx (by simp [idleB, h2]), h1, h2, h3⟩
  unp := fun x hx hno => by
    show x.pins = 0 ∧ x.data = atD C'.D x.b
    rw [A.D]
    rcases A.from_ x hx with hx' | ⟨rfl, _⟩
    · exact h.unp x hx' hno
    · exact ⟨rfl, rfl⟩
  run := by show C'.D.left = -1; rw [A.D]; exact h.run
  acc := fun o ho => by show atD C'.D o.b = _; rw [A.D]; exact h.acc o ho
  may := h.may
  cls := h.cls
  afl := h.afl
theorem cont_ask {C' : Ca} {b : Nat} {l0 : List Bf} {y : Bf} (h : WFP P) (hc : WFC P.C) (A : Asked P.C C' b l0 y) (n : Nat) : cont { P with C := C' } n = cont P n := by
  unfold cont
  show (match findB C'.l n with | some x => x.data | none => atD C'.D n) = _
  rw [A.D]
  cases hf : findB C'.l n with
  | some x =>
    obtain ⟨hx, hxb⟩ := findB_some hf
    rcases A.from_ x hx with hx' | ⟨rfl, hno⟩
    · have := findB_mem hc.nodup hx'
      rw [hxb] at this
      rw [this]
    · have hxb : b = n := hxb
      subst hxb
      rw [hno]
  | none =>
    cases hf2 : findB P.C.l n with
    | none => rfl
    | some x =>
      obtain ⟨hx, hxb⟩ := findB_some hf2
      have hno := findB_none hf
      by_cases hi : idleB P.C.D x = true
      · have hcl : clean P.C.D x = true := by unfold idleB at hi; simp only [Bool.and_eq_true] at hi; exact hi.2
        unfold clean at hcl
        have := of_decide_eq_true hcl
        show atD P.C.D n = x.data
        rw [this, hxb]
      · exact absurd hxb (hno x (A.keep x hx (by simpa using hi)))
set_option maxRecDepth 100000 in
theorem pRead_c {n : Int} (hP : Px w0 R w sp d P) (hk0 : errOf P.C.D n ≠ 0 → ∀ w', Mod No w w' → K (.tuple #[.slice none 0 0, .int .i64 (errOf P.C.D n)]) w')
    (hk : ∀ b : Nat, n = b → b < P.C.D.vs.length → ∀ w1 w' a cc C', Mod R w w1 → Mod No w1 w' → Px w0 (Gro R w w1) w' sp d { P with C := C' } → C'.D = P.C.D → C'.most = P.C.most → (∀ m, cont { P with C := C' } m = cont P m) → Own Tryz.prog w' w1.heap.size 36 1 a 256 cc (u8L (cont P b)) → K (.tuple #[.slice a 256 cc, .int .i64 0]) w') :
    Cal Tryz.prog F_patch_Store_Read #[.pointer (some ⟨sp, 0, none⟩), .int .i64 n] w K := by
  obtain ⟨hw, rl, c, mo, mm, ca, oa, Lo, Lm, h⟩ := hP
  apply C_patch_Store_Read
  unfold D_patch_Store_Read
  have hcw := h.cx.wf
  by_cases he : errOf P.C.D n = 0
  · obtain ⟨b, rfl, hb⟩ := err_range he
    obtain ⟨C', ha⟩ := ask_some hcw.1 h.wf.full hb
    obtain ⟨l0, y, A⟩ := ask_facts hcw.1 hcw.2.1 hb ha
    have hr0 : rdX P.C b = (C', 0, lastD C'.l) := by unfold rdX; rw [if_neg (by omega), Int.toNat_natCast, ha]
    have hyl : y ∈ C'.l := by rw [A.l]; simp
    have hld : lastD C'.l = cont P b := by
      have h1 : lastD C'.l = y.data := by unfold lastD; rw [A.l]; simp
      have h2 := cont_ask hw hcw.1 A b
      unfold cont at h2
      have h3 := findB_mem A.wf.nodup hyl
      rw [A.yb] at h3
      have h4 : (match findB C'.l b with | some x => x.data | none => atD C'.D b) = cont P b := h2
      rw [h3] at h4
      rw [h1]; exact h4
    have hlen : (lastD C'.l).length = 256 := by
      have h1 : lastD C'.l = y.data := by unfold lastD; rw [A.l]; simp
      rw [h1]; exact A.wf.data y hyl
    refine ff rfl ⟨_, rfl, _, h.lc, cRead_c h.cx fun w1 w2 a2 c2 m1 m2 x2 o2 => ?_⟩
    simp only [hr0, hlen] at x2 o2 ⊢
    obtain ⟨rl', h', _⟩ := h.cache m1 m2 x2 (by rw [A.D]) A.most
    refine ⟨_, _, _, _, rfl, ?_⟩
    rw [hld] at o2
    exact hk b rfl hb w1 w2 a2 c2 C' (m1.mono fun z _ e => h.reg z (by have e1 : rl z = 1 := e; omega)) m2 ⟨hw.ask h.wf hcw.1 A, rl', c, mo, mm, ca, oa, Lo, Lm, h'⟩ A.D A.most (cont_ask hw hcw.1 A) o2
  · have hr0 : rdX P.C n = (P.C, errOf P.C.D n, []) := by unfold rdX; rw [if_pos he]
    refine ff rfl ⟨_, rfl, _, h.lc, ?_⟩
    obtain ⟨rl3, m3, sb3, mb3, sc3, lc3, la3, L3, mp3, h3⟩ := h.cx
    apply C_cache_Cache_Read
    refine cmay_c (xs := []) h3 rfl (by omega) (.inl rfl) ⟨_, rfl, ?_⟩
    have hm : mayE P.C.D n 0 [] = errOf P.C.D n := by unfold mayE; rw [if_pos he]
    rw [hm]
    exact tt (by simpa using he) ⟨_, _, _, _, rfl, hk0 he w (Mod.refl _ _)⟩
end
end Go.Proofs.YtocjjigmpgekfaaGreat

/- Layer 11, the program's store in plain terms: changes over bytes, in one order or another; what holds between calls is kept. -/
open Go Go.Den Go.Proofs
namespace Go.Proofs.YtocjjigmpgekfaaGreat
theorem overB_get {b ys : List UInt8} {i : Nat} (h : i + ys.length ≤ b.length) (k : Nat) : (overB b i ys)[k]? = if i ≤ k ∧ k < i + ys.length then ys[k - i]? else b[k]? := by
  unfold overB
  have hl : (b.take i).length = i := by simp; omega
  by_cases h1 : k < i
  · rw [if_neg (by omega), List.append_assoc, List.getElem?_append_left (by omega), List.getElem?_take_of_lt h1]
  · rw [List.append_assoc, List.getElem?_append_right (by omega), hl]
    by_cases h2 : k < i + ys.length
    · rw [if_pos (by omega), List.getElem?_append_left (by omega)]
    · rw [if_neg (by omega), List.getElem?_append_right (by omega), List.getElem?_drop]
      congr 1; omega
theorem overB_comm {b ys zs : List UInt8} {i j : Nat} (h1 : i + ys.length ≤ b.length) (h2 : j + zs.length ≤ b.length) (h : ¬ (i < j + zs.length ∧ j < i + ys.length)) : overB (overB b i ys) j zs = overB (overB b j zs) i ys := by
  apply List.ext_getElem?
  intro k
  rw [overB_get (by rw [overB_len h1]; exact h2), overB_get h1, overB_get (by rw [overB_len h2]; exact h1), overB_get h2]
  by_cases e1 : i ≤ k ∧ k < i + ys.length
  · rw [if_pos e1, if_pos e1, if_neg (by omega)]
  · rw [if_neg e1, if_neg e1]
theorem withL_over {c : Ch} : ∀ {l : List Ch} {b : Bk}, b.length = 256 → c.frm + c.data.length ≤ 256 → (∀ x ∈ l, x.frm + x.data.length ≤ 256) → (∀ x ∈ l, meetB c x = false) → withL (overB b c.frm c.data) l = overB (withL b l) c.frm c.data
  | [], _, _, _, _, _ => rfl
  | x :: r, b, hb, hc, hl, hm => by
    have hx := hl x (by simp)
    have hmx := hm x (by simp)
    have e : overB (overB b c.frm c.data) x.frm x.data = overB (overB b x.frm x.data) c.frm c.data := overB_comm (by omega) (by omega) (by
      intro ⟨h1, h2⟩
      unfold meetB at hmx
      rw [decide_eq_true h1, decide_eq_true h2] at hmx
      cases hmx)
    show withL (overB (overB b c.frm c.data) x.frm x.data) r = _
    rw [e]
    exact withL_over (by rw [overB_len (by omega), hb]) hc (fun y hy => hl y (by simp [hy])) fun y hy => hm y (by simp [hy])
/-- Those that were in an image first, then the other ones: the same bytes. -/
theorem withL_parts : ∀ {l : List Ch} {b : Bk}, b.length = 256 → (∀ x ∈ l, x.frm + x.data.length ≤ 256) → Cls l → withL (withL b (l.filter (·.out))) (l.filter fun x => !x.out) = withL b l
  | [], _, _, _, _ => rfl
  | c :: r, b, hb, hl, hc => by
    have hcl := hl c (by simp)
    have hr := fun y hy => hl y (List.mem_cons_of_mem c hy)
    unfold Cls at hc
    rw [List.pairwise_cons] at hc
    have ih := withL_parts (l := r) (b := overB b c.frm c.data) (by rw [overB_len (by omega), hb]) hr hc.2
    by_cases ho : c.out = true
    · rw [List.filter_cons_of_pos (by exact ho), List.filter_cons_of_neg (by simp [ho])]
      exact ih
    · rw [List.filter_cons_of_neg (by exact ho), List.filter_cons_of_pos (by simp [ho])]
      show withL (overB (withL b (r.filter (·.out))) c.frm c.data) _ = withL (overB b c.frm c.data) r
      rw [← ih, withL_over hb hcl (fun x hx => hr x (List.mem_filter.1 hx).1) fun x hx => ?_]
      obtain ⟨h1, h2⟩ := List.mem_filter.1 hx
      have := hc.1 x h1 (by simpa using h2)
      by_cases hm : meetB c x = true
      · exact absurd (this hm) ho
      · simpa using hm
/-- A change with another mark. -/
structure Like (f : Ch → Ch) : Prop where
  id : ∀ x, (f x).id = x.id
  b : ∀ x, (f x).b = x.b
  frm : ∀ x, (f x).frm = x.frm
  data : ∀ x, (f x).data = x.data
  after : ∀ x, (f x).after = x.after
theorem withL_map {f : Ch → Ch} (hf : Like f) : ∀ (l : List Ch) (b : Bk), withL b (l.map f) = withL b l
  | [], _ => rfl
  | x :: r, b => by
    show withL (overB b (f x).frm (f x).data) (r.map f) = withL (overB b x.frm x.data) r
    rw [hf.frm, hf.data]; exact withL_map hf r _
theorem meet_like {f : Ch → Ch} (hf : Like f) (x y : Ch) : meetB (f x) (f y) = meetB x y := by unfold meetB; rw [hf.frm, hf.data, hf.frm, hf.data]
theorem badB_map {f : Ch → Ch} (hf : Like f) (op : Int → Bool) (pre : List Ch) (ok : List Int) (c : Ch) : badB op (pre.map f) ok (f c) = badB op pre ok c := by
  unfold badB
  rw [hf.after, List.any_map]
  congr 2
  funext x
  simp only [Function.comp]
  rw [meet_like hf, hf.id]
theorem mayN_map {f : Ch → Ch} (hf : Like f) (op : Int → Bool) (l : List Ch) : ∀ n, mayN op (l.map f) n = mayN op l n
  | 0 => rfl
  | n + 1 => by
    have ih := mayN_map hf op l n
    unfold mayN
    rw [List.getElem?_map]
    cases hx : l[n]? with
    | none => exact ih
    | some c =>
      simp only [Option.map_some]
      rw [ih, ← List.map_take, badB_map hf, hf.id]
theorem mayL_map {f : Ch → Ch} (hf : Like f) (op : Int → Bool) (l : List Ch) : mayL op (l.map f) = mayL op l := by unfold mayL; rw [mayN_map hf, List.length_map]
/-- Only what a change waits for matters. -/
theorem badB_congr {op op' : Int → Bool} {pre : List Ch} {ok : List Int} {c : Ch} (h : ∀ k ∈ c.after, op k = op' k) : badB op pre ok c = badB op' pre ok c := by
  unfold badB
  congr 1
  rw [Bool.eq_iff_iff, List.any_eq_true, List.any_eq_true]
  constructor
  · rintro ⟨k, hk, e⟩; exact ⟨k, hk, by rw [← h k hk]; exact e⟩
  · rintro ⟨k, hk, e⟩; exact ⟨k, hk, by rw [h k hk]; exact e⟩
theorem mayN_congr {op op' : Int → Bool} {l : List Ch} (h : ∀ x ∈ l, ∀ k ∈ x.after, op k = op' k) : ∀ n, mayN op l n = mayN op' l n
  | 0 => rfl
  | n + 1 => by
    have ih := mayN_congr h n
    unfold mayN
    cases hx : l[n]? with
    | none => exact ih
    | some c =>
      simp only
      rw [ih, badB_congr (h c (List.mem_of_getElem? hx))]
theorem mayL_congr {op op' : Int → Bool} {l : List Ch} (h : ∀ x ∈ l, ∀ k ∈ x.after, op k = op' k) : mayL op l = mayL op' l := mayN_congr h _
theorem mayN_append {op : Int → Bool} {l r : List Ch} : ∀ n, n ≤ l.length → mayN op (l ++ r) n = mayN op l n
  | 0, _ => rfl
  | n + 1, h => by
    have ih := mayN_append (op := op) (l := l) (r := r) n (by omega)
    unfold mayN
    rw [List.getElem?_append_left (by omega), List.take_append_of_le_length (by omega), ih]
theorem mayN_mono {op : Int → Bool} {l : List Ch} {k : Int} : ∀ {n m : Nat}, n ≤ m → k ∈ mayN op l n → k ∈ mayN op l m := by
  intro n m h hk
  induction m with
  | zero => have : n = 0 := by omega
            subst this; exact hk
  | succ m ih =>
    by_cases e : n = m + 1
    · subst e; exact hk
    · have hm := ih (by omega)
      unfold mayN
      split
      · split
        · exact hm
        · exact List.mem_append.2 (.inl hm)
      · exact hm
/-- One that may be written: those that it waits for and those that it meets may too. -/
theorem mayN_good {op : Int → Bool} {l : List Ch} (hn : (l.map (·.id)).Nodup) : ∀ {n : Nat} {i : Nat} (hi : i < l.length), i < n → (l[i].id : Int) ∈ mayN op l n → badB op (l.take i) (mayN op l i) l[i] = false := by
  intro n
  induction n with
  | zero => intro i hi hin; omega
  | succ n ih =>
    intro i hi hin hk
    by_cases e : i = n
    · subst e
      unfold mayN at hk
      rw [List.getElem?_eq_getElem hi] at hk
      have hk : (l[i].id : Int) ∈ (if badB op (l.take i) (mayN op l i) l[i] = true then mayN op l i else mayN op l i ++ [(l[i].id : Int)]) := hk
      split at hk
      · exfalso
        obtain ⟨x, hx, ex⟩ := mayN_mem i _ hk
        obtain ⟨j, hj, hje⟩ := List.getElem_of_mem hx
        have hji : j < i := by simp at hj; omega
        rw [List.getElem_take] at hje
        have hnd := List.pairwise_iff_getElem.1 hn j i (by simp; omega) (by simp; omega) hji
        simp at hnd
        rw [hje] at hnd
        omega
      · rename_i hb; simpa using hb
    · have hk' : (l[i].id : Int) ∈ mayN op l n := by
        unfold mayN at hk
        split at hk
        · rename_i c hc
          split at hk
          · exact hk
          · rcases List.mem_append.1 hk with hk | hk
            · exact hk
            · exfalso
              simp at hk
              obtain ⟨hn2, hce⟩ := List.getElem?_eq_some_iff.1 hc
              have hnd := List.pairwise_iff_getElem.1 hn i n (by simp; omega) (by simp; omega) (by omega)
              simp at hnd
              rw [hce] at hnd
              omega
        · exact hk
      exact ih hi (by omega) hk'
theorem mayL_meets {op : Int → Bool} {l : List Ch} (hn : (l.map (·.id)).Nodup) : l.Pairwise fun x y => (y.id : Int) ∈ mayL op l → meetB x y = true → (x.id : Int) ∈ mayL op l := by
  rw [List.pairwise_iff_getElem]
  intro i j hi hj hij hy hm
  have hg := mayN_good hn hj hj hy
  unfold badB at hg
  rw [Bool.or_eq_false_iff] at hg
  have hx : l[i] ∈ l.take j := List.mem_take_iff_getElem.2 ⟨i, by omega, rfl⟩
  have := List.any_eq_false.1 hg.2 _ hx
  rw [hm] at this
  simp at this
  exact mayN_mono (n := j) (by omega) this
theorem mayL_waits {op : Int → Bool} {l : List Ch} (hn : (l.map (·.id)).Nodup) {x : Ch} (hx : x ∈ l) (hk : (x.id : Int) ∈ mayL op l) : ∀ k ∈ x.after, op k = true → k ∈ mayL op l := by
  obtain ⟨j, hj, rfl⟩ := List.getElem_of_mem hx
  intro k hka hop
  have hg := mayN_good hn hj hj hk
  unfold badB at hg
  rw [Bool.or_eq_false_iff] at hg
  have := List.any_eq_false.1 hg.1 k hka
  rw [hop] at this
  simp at this
  exact mayN_mono (n := j) (by omega) this
end Go.Proofs.YtocjjigmpgekfaaGreat

/- Layer 11, the program's store in plain terms: what each call makes of it. -/
open Go Go.Den Go.Proofs
namespace Go.Proofs.YtocjjigmpgekfaaGreat
def contV (V : Ps) (b : Nat) : Bk := match onOf V b with | some o => withL o.base o.l | none => atD V.C.D b
def newO (V : Ps) (b : Nat) : Ps := match onOf V b with | some _ => V | none => { V with ons := V.ons ++ [⟨b, contV V b, []⟩] }
def appO (V : Ps) (x : Ch) : Ps := { V with last := x.id, ons := V.ons.map fun o => if o.b = x.b then { o with l := o.l ++ [x] } else o }
def addX (V : Ps) (x : Ch) : Ps := appO (newO V x.b) x
def newX (V : Ps) (b frm : Nat) (data : Bk) (after : List Int) : Ch := ⟨V.last + 1, b, frm, data, after.filter V.opn, false⟩
def badA (V : Ps) (after : List Int) : Bool := after.any fun k => !decide (1 ≤ k ∧ k ≤ (V.last : Int))
def patE (V : Ps) (n frm : Int) (data : Bk) (after : List Int) : Int :=
  if errOf V.C.D n ≠ 0 then 3 else if data.length = 0 ∨ frm < 0 ∨ 256 < frm ∨ 256 - frm < data.length then 4 else if badA V after = true then 1 else 0
def patS (V : Ps) (n frm : Int) (data : Bk) (after : List Int) : Ps := if patE V n frm data after = 0 then addX V (newX V n.toNat frm.toNat data after) else V
def patN (V : Ps) (n frm : Int) (data : Bk) (after : List Int) : Int := if patE V n frm data after = 0 then (V.last + 1 : Nat) else 0
def mayB (V : Ps) (b : Nat) : List Int := match onOf V b with | some o => mayL V.opn o.l | none => []
def imgB (V : Ps) (b : Nat) : Bk := match onOf V b with | some o => withL o.base (o.l.filter fun x => (mayL V.opn o.l).contains (x.id : Int)) | none => atD V.C.D b
def markF (V : Ps) (b : Nat) (x : Ch) : Ch := if x.b = b then { x with out := x.out || (mayB V b).contains (x.id : Int) } else x
def mapX (V : Ps) (f : Ch → Ch) : List On := V.ons.map fun o => { o with l := o.l.map f }
def wrVE (V : Ps) (n : Int) : Int := if errOf V.C.D n ≠ 0 then 3 else if (onOf V n).isNone = true then 20 else 0
def wrV (V : Ps) (n : Int) : Ps := if wrVE V n = 0 then { V with C := { V.C with D := wrSt V.C.D n (imgB V n.toNat) }, ons := mapX V (markF V n.toNat) } else V
def flOn (o : On) : Option On := if (o.l.filter fun x => !x.out).isEmpty = true then none else some { o with base := withL o.base (o.l.filter (·.out)), l := o.l.filter fun x => !x.out }
def flV (V : Ps) : Ps := { V with C := { V.C with D := flSt V.C.D }, ons := V.ons.filterMap flOn }
theorem markF_like (V : Ps) (b : Nat) : Like (markF V b) where
  id := fun x => by unfold markF; split <;> rfl
  b := fun x => by unfold markF; split <;> rfl
  frm := fun x => by unfold markF; split <;> rfl
  data := fun x => by unfold markF; split <;> rfl
  after := fun x => by unfold markF; split <;> rfl
theorem on_uniq {P : Ps} (h : WFS P) {o o' : On} (ho : o ∈ P.ons) (ho' : o' ∈ P.ons) (e : o.b = o'.b) : o = o' := map_inj h.onsN ho ho' e
theorem onOf_mem {P : Ps} (h : WFS P) {o : On} (ho : o ∈ P.ons) : onOf P o.b = some o := by
  cases hf : onOf P o.b with
  | none => exact absurd rfl (onOf_none hf o ho)
  | some o' =>
    obtain ⟨h1, h2⟩ := onOf_some hf
    rw [on_uniq h ho h1 (by omega)]
theorem cont_view {P : Ps} (h : WFP P) (hs : WFS P) (hc : WFC P.C) (b : Nat) : cont P b = contV P b := by
  unfold cont contV
  cases ho : onOf P b with
  | some o =>
    obtain ⟨h1, h2⟩ := onOf_some ho
    obtain ⟨x, hx, e1, e2, e3⟩ := h.pin o h1
    have := findB_mem hc.nodup hx
    rw [show x.b = b by omega] at this
    rw [this]; exact e3
  | none =>
    cases hf : findB P.C.l b with
    | none => rfl
    | some x =>
      obtain ⟨hx, hb⟩ := findB_some hf
      have := (h.unp x hx fun o ho' e => onOf_none ho o ho' (by omega)).2
      rw [hb] at this
      exact this
theorem split_on {l : List On} (hn : (l.map (·.b)).Nodup) {o : On} (ho : o ∈ l) (f : On → On) : ∃ s t, l = s ++ o :: t ∧ (l.map fun p => if p.b = o.b then f p else p) = s ++ f o :: t ∧ ∀ p ∈ s ++ t, p.b ≠ o.b := by
  obtain ⟨s, t, rfl⟩ := List.append_of_mem ho
  have hno : ∀ p ∈ s ++ t, p.b ≠ o.b := by
    intro p hp e
    rw [List.map_append, List.map_cons] at hn
    have h1 := List.nodup_append.1 hn
    have h2 := List.nodup_cons.1 h1.2.1
    rcases List.mem_append.1 hp with hp | hp
    · exact h1.2.2 _ (List.mem_map.2 ⟨p, hp, rfl⟩) _ (by simp) e
    · exact h2.1 (List.mem_map.2 ⟨p, hp, e⟩)
  have hid : ∀ q : List On, (∀ p ∈ q, p.b ≠ o.b) → (q.map fun p => if p.b = o.b then f p else p) = q := by
    intro q hq
    conv => rhs; rw [← List.map_id q]
    apply List.map_congr_left
    intro p hp
    rw [if_neg (hq p hp)]; rfl
  refine ⟨s, t, rfl, ?_, hno⟩
  rw [List.map_append, List.map_cons, if_pos rfl, hid s fun p hp => hno p (List.mem_append.2 (.inl hp)), hid t fun p hp => hno p (List.mem_append.2 (.inr hp))]
theorem all_newO {V : Ps} {b : Nat} : (newO V b).all = V.all := by
  unfold newO
  split
  · rfl
  · unfold Ps.all; simp
theorem opn_newO {V : Ps} {b : Nat} : (newO V b).opn = V.opn := by unfold Ps.opn; rw [all_newO]
theorem newO_C {V : Ps} {b : Nat} : (newO V b).C = V.C ∧ (newO V b).last = V.last := by unfold newO; split <;> exact ⟨rfl, rfl⟩
theorem newO_on {V : Ps} {b : Nat} : ∃ o ∈ (newO V b).ons, o.b = b := by
  unfold newO
  split
  · rename_i o ho
    obtain ⟨h1, h2⟩ := onOf_some ho
    exact ⟨o, h1, by omega⟩
  · exact ⟨⟨b, contV V b, []⟩, by simp, rfl⟩
theorem WFS.newO {V : Ps} (h : WFS V) {b : Nat} (hb : b < V.C.D.vs.length) (hl : (contV V b).length = 256) : WFS (newO V b) := by
  unfold Go.Proofs.YtocjjigmpgekfaaGreat.newO
  cases ho : onOf V b with
  | some o => exact h
  | none =>
    have hno := onOf_none ho
    have hall : Ps.all { V with ons := V.ons ++ [⟨b, contV V b, []⟩] } = V.all := by unfold Ps.all; simp
    exact {
      full := h.full
      onsN := by
        rw [List.map_append]
        refine List.nodup_append.2 ⟨h.onsN, by simp, ?_⟩
        intro a ha c hc
        simp at hc; subst hc
        obtain ⟨o, ho, rfl⟩ := List.mem_map.1 ha
        have := hno o ho; omega
      onlt := fun o ho => by
        rcases List.mem_append.1 ho with ho | ho
        · exact h.onlt o ho
        · simp at ho; subst ho; exact hb
      base := fun o ho => by
        rcases List.mem_append.1 ho with ho | ho
        · exact h.base o ho
        · simp at ho; subst ho; exact hl
      llen := fun o ho => by
        rcases List.mem_append.1 ho with ho | ho
        · exact h.llen o ho
        · simp at ho; subst ho; simp
      ids := by rw [hall]; exact h.ids
      idr := by rw [hall]; exact h.idr
      chb := fun o ho => by
        rcases List.mem_append.1 ho with ho | ho
        · exact h.chb o ho
        · simp at ho; subst ho; intro x hx; cases hx
      dat := by rw [hall]; exact h.dat
      aft := by rw [hall]; exact h.aft
      last := h.last }
theorem WFS.bump {V : Ps} (h : WFS V) (hl : V.last + 1 ≤ 1000000) : WFS { V with last := V.last + 1 } where
  full := h.full
  onsN := h.onsN
  onlt := h.onlt
  base := h.base
  llen := fun o ho => by have := h.llen o ho; show o.l.length ≤ V.last + 1; omega
  ids := h.ids
  idr := fun x hx => by have := h.idr x hx; show 1 ≤ x.id ∧ x.id ≤ V.last + 1; omega
  chb := h.chb
  dat := h.dat
  aft := h.aft
  last := hl
/-- What a new change must be. -/
structure Fit (V : Ps) (x : Ch) : Prop where
  id : x.id = V.last + 1
  lt : x.b < V.C.D.vs.length
  dat : 1 ≤ x.data.length ∧ x.frm + x.data.length ≤ 256
  aft : x.after.length ≤ 1000000
  afl : ∀ k ∈ x.after, k < (x.id : Int)
  out : x.out = false
theorem appO_all {V : Ps} (h : WFS V) {x : Ch} {o : On} (ho : o ∈ V.ons) (e : o.b = x.b) : ∃ s t, V.ons = s ++ o :: t ∧ (appO V x).ons = s ++ { o with l := o.l ++ [x] } :: t ∧ (∀ p ∈ s ++ t, p.b ≠ x.b) ∧ (appO V x).all.Perm (x :: V.all) := by
  obtain ⟨s, t, h1, h2, h3⟩ := split_on h.onsN ho fun o => { o with l := o.l ++ [x] }
  rw [e] at h3
  have h2' : (appO V x).ons = s ++ { o with l := o.l ++ [x] } :: t := by
    rw [← h2]; unfold appO; rw [← e]
  refine ⟨s, t, h1, h2', h3, ?_⟩
  unfold Ps.all
  rw [h2', h1]
  simp only [List.flatMap_append, List.flatMap_cons, List.append_assoc]
  have := (List.perm_middle (a := x) (l₁ := s.flatMap (·.l) ++ o.l) (l₂ := t.flatMap (·.l)))
  simpa using this
theorem WFS.app {V : Ps} (h : WFS V) {x : Ch} {o : On} (ho : o ∈ V.ons) (e : o.b = x.b) (hx : Fit V x) (hl : x.id ≤ 1000000) : WFS (appO V x) := by
  obtain ⟨s, t, h1, h2, h3, hp⟩ := appO_all h ho e
  have hid := hx.id
  have hmem : ∀ y ∈ (appO V x).all, y = x ∨ y ∈ V.all := fun y hy => by simpa using hp.mem_iff.1 hy
  have hon : ∀ p ∈ (appO V x).ons, p ∈ V.ons ∨ p = { o with l := o.l ++ [x] } := fun p hp => by
    rw [h2] at hp
    rw [h1]
    simp only [List.mem_append, List.mem_cons] at hp ⊢
    rcases hp with hp | hp | hp
    · exact .inl (.inl hp)
    · exact .inr hp
    · exact .inl (.inr (.inr hp))
  exact {
    full := h.full
    onsN := by
      have : (appO V x).ons.map (·.b) = V.ons.map (·.b) := by rw [h2, h1]; simp
      rw [this]; exact h.onsN
    onlt := fun p hp => by
      rcases hon p hp with hp | rfl
      · exact h.onlt p hp
      · exact h.onlt o ho
    base := fun p hp => by
      rcases hon p hp with hp | rfl
      · exact h.base p hp
      · exact h.base o ho
    llen := fun p hp => by
      show p.l.length ≤ x.id
      rcases hon p hp with hp | rfl
      · have := h.llen p hp; omega
      · have := h.llen o ho; simp; omega
    ids := by
      rw [(hp.map (·.id)).nodup_iff, List.map_cons, List.nodup_cons]
      refine ⟨fun hm => ?_, h.ids⟩
      obtain ⟨y, hy, e⟩ := List.mem_map.1 hm
      have := h.idr y hy
      omega
    idr := fun y hy => by
      show 1 ≤ y.id ∧ y.id ≤ x.id
      rcases hmem y hy with rfl | hy
      · omega
      · have := h.idr y hy; omega
    chb := fun p hp => by
      rcases hon p hp with hp | rfl
      · exact h.chb p hp
      · intro y hy
        rcases List.mem_append.1 hy with hy | hy
        · exact h.chb o ho y hy
        · simp at hy; subst hy; exact e.symm
    dat := fun y hy => by
      rcases hmem y hy with rfl | hy
      · exact hx.dat
      · exact h.dat y hy
    aft := fun y hy => by
      rcases hmem y hy with rfl | hy
      · exact hx.aft
      · exact h.aft y hy
    last := hl }
theorem opn_app {V : Ps} (h : WFS V) {x : Ch} {o : On} (ho : o ∈ V.ons) (e : o.b = x.b) (k : Int) : (appO V x).opn k = (decide ((x.id : Int) = k) || V.opn k) := by
  obtain ⟨s, t, h1, h2, h3, hp⟩ := appO_all h ho e
  unfold Ps.opn
  rw [hp.any_eq, List.any_cons]
  congr 1
/-- A change is added: what holds between calls is kept. -/
theorem WFP.add {P : Ps} {C3 : Ca} {x : Ch} (h : WFP P) (hs : WFS P) (hx : Fit P x) (hbl : (contV P x.b).length = 256) (hl : x.id ≤ 1000000) (hD : C3.D = P.C.D) (ht : ∀ y, y.b ≠ x.b → (y ∈ C3.l ↔ y ∈ P.C.l)) (hn : (C3.l.map (·.b)).Nodup)
    (hy : ∃ y ∈ C3.l, y.b = x.b ∧ y.pins = 1 ∧ y.data = overB (contV P x.b) x.frm x.data) : WFP { addX P x with C := C3 } := by
  have hs1 := hs.newO hx.lt hbl
  obtain ⟨eC, eL⟩ := newO_C (V := P) (b := x.b)
  -- the store behind newO, but for pins
  have g1 : ∀ o ∈ (newO P x.b).ons, (o ∈ P.ons) ∨ (o = ⟨x.b, contV P x.b, []⟩ ∧ onOf P x.b = none) := by
    intro o ho
    unfold newO at ho
    split at ho
    · exact .inl ho
    · rename_i hno
      rcases List.mem_append.1 ho with ho | ho
      · exact .inl ho
      · simp at ho; exact .inr ⟨ho, hno⟩
  have gs : ∀ o ∈ P.ons, o ∈ (newO P x.b).ons := by
    intro o ho
    unfold newO
    split
    · exact ho
    · exact List.mem_append.2 (.inl ho)
  obtain ⟨o, ho, e⟩ := newO_on (V := P) (b := x.b)
  have hx1 : Fit (newO P x.b) x := ⟨by rw [eL]; exact hx.id, by rw [eC]; exact hx.lt, hx.dat, hx.aft, hx.afl, hx.out⟩
  obtain ⟨s, t, h1, h2, h3, hp⟩ := appO_all hs1 ho e
  have hop : ∀ k, (addX P x).opn k = (decide ((x.id : Int) = k) || P.opn k) := fun k => by
    have := opn_app hs1 ho e k
    rw [opn_newO] at this
    exact this
  have hoo : ∀ k, k < (x.id : Int) → P.opn k = (addX P x).opn k := fun k hk => by
    rw [hop, decide_eq_false (by omega), Bool.false_or]
  have hafl : ∀ y ∈ P.all, ∀ k ∈ y.after, k < (x.id : Int) := fun y hy k hk => by
    have := h.afl y hy k hk
    have := hs.idr y hy
    have := hx.id
    omega
  have hon : ∀ p ∈ (addX P x).ons, (p ∈ (newO P x.b).ons ∧ p.b ≠ x.b) ∨ p = { o with l := o.l ++ [x] } := fun p hp => by
    have hp : p ∈ (appO (newO P x.b) x).ons := hp
    rw [h2] at hp
    rw [h1]
    simp only [List.mem_append, List.mem_cons] at hp ⊢
    rcases hp with hp | hp | hp
    · exact .inl ⟨.inl hp, h3 p (by simp [hp])⟩
    · exact .inr hp
    · exact .inl ⟨.inr (.inr hp), h3 p (by simp [hp])⟩
  have hcov : ∀ p ∈ (newO P x.b).ons, ∃ p' ∈ (addX P x).ons, p'.b = p.b := fun p hp => by
    show ∃ p' ∈ (appO (newO P x.b) x).ons, p'.b = p.b
    rw [h2]
    rw [h1] at hp
    simp only [List.mem_append, List.mem_cons] at hp
    rcases hp with hp | rfl | hp
    · exact ⟨p, by simp [hp], rfl⟩
    · exact ⟨{ p with l := p.l ++ [x] }, by simp, rfl⟩
    · exact ⟨p, by simp [hp], rfl⟩
  have holdo : (newO P x.b).ons = P.ons ∨ o.l = [] := by
    rcases g1 o ho with hm | ⟨rfl, _⟩
    · left
      unfold newO
      cases hno : onOf P x.b with
      | some _ => rfl
      | none => exact absurd (by omega) (onOf_none hno o hm)
    · exact .inr rfl
  have hcb : withL o.base o.l = contV P x.b := by
    rcases g1 o ho with hm | ⟨rfl, _⟩
    · unfold contV
      have := onOf_mem hs hm
      rw [e] at this
      rw [this]
    · rfl
  have hom : ∀ y ∈ o.l, y ∈ P.all := fun y hy => by
    have : y ∈ (newO P x.b).all := mem_all.2 ⟨o, ho, hy⟩
    rwa [all_newO] at this
  exact {
    lne := fun p hp => by
      rcases hon p hp with ⟨hp, hb⟩ | rfl
      · rcases g1 p hp with hp | ⟨rfl, _⟩
        · exact h.lne p hp
        · exact absurd rfl hb
      · simp
    pin := fun p hp => by
      rcases hon p hp with ⟨hp, hb⟩ | rfl
      · rcases g1 p hp with hp | ⟨rfl, _⟩
        · obtain ⟨y, hy1, hy2, hy3, hy4⟩ := h.pin p hp
          exact ⟨y, (ht y (by rw [hy2]; exact hb)).2 hy1, hy2, hy3, hy4⟩
        · exact absurd rfl hb
      · obtain ⟨y, hy1, hy2, hy3, hy4⟩ := hy
        refine ⟨y, hy1, by rw [hy2]; exact e.symm, hy3, ?_⟩
        show y.data = withL o.base (o.l ++ [x])
        rw [withL_snoc, hcb]; exact hy4
    unp := fun y hy1 hno => by
      show y.pins = 0 ∧ y.data = atD C3.D y.b
      rw [hD]
      have hyb : y.b ≠ x.b := fun e' => by
        obtain ⟨p', hp', e2⟩ := hcov o ho
        exact hno p' hp' (by rw [e2, e, e'])
      refine h.unp y ((ht y hyb).1 hy1) fun p hp e' => ?_
      obtain ⟨p', hp', e2⟩ := hcov p (gs p hp)
      exact hno p' hp' (by rw [e2, e'])
    run := by show C3.D.left = -1; rw [hD]; exact h.run
    acc := fun p hp => by
      show atD C3.D p.b = _
      rw [hD]
      rcases hon p hp with ⟨hp, hb⟩ | rfl
      · rcases g1 p hp with hp | ⟨rfl, _⟩
        · exact h.acc p hp
        · exact absurd rfl hb
      · show atD P.C.D o.b = withL o.base ((o.l ++ [x]).filter (·.out))
        rw [List.filter_append, List.filter_cons_of_neg (by simp [hx.out]), List.filter_nil, List.append_nil]
        rcases g1 o ho with hm | ⟨rfl, hno⟩
        · exact h.acc o hm
        · show _ = contV P x.b
          unfold contV; rw [hno]
    may := fun p hp y hy1 hyo => by
      show (y.id : Int) ∈ mayL (addX P x).opn p.l
      rcases hon p hp with ⟨hp, hb⟩ | rfl
      · rcases g1 p hp with hp | ⟨rfl, _⟩
        · rw [← mayL_congr (op := P.opn) fun z hz k hk => hoo k (hafl z (mem_all.2 ⟨p, hp, hz⟩) k hk)]
          exact h.may p hp y hy1 hyo
        · exact absurd rfl hb
      · have hyl : y ∈ o.l := by
          rcases List.mem_append.1 hy1 with hy1 | hy1
          · exact hy1
          · simp at hy1; subst hy1; rw [hx.out] at hyo; cases hyo
        have hm : o ∈ P.ons := by
          rcases g1 o ho with hm | ⟨rfl, _⟩
          · exact hm
          · cases hyl
        have h5 := h.may o hm y hyl hyo
        rw [mayL_congr (op := P.opn) (op' := (addX P x).opn) fun z hz k hk => hoo k (hafl z (hom z hz) k hk)] at h5
        show (y.id : Int) ∈ mayN (addX P x).opn (o.l ++ [x]) (o.l ++ [x]).length
        refine mayN_mono (n := o.l.length) (by simp) ?_
        rw [mayN_append _ (Nat.le_refl _)]; exact h5
    cls := fun p hp => by
      rcases hon p hp with ⟨hp, hb⟩ | rfl
      · rcases g1 p hp with hp | ⟨rfl, _⟩
        · exact h.cls p hp
        · exact absurd rfl hb
      · show Cls (o.l ++ [x])
        unfold Cls
        rw [List.pairwise_append]
        refine ⟨?_, by simp, fun a ha c hc hout => ?_⟩
        · rcases g1 o ho with hm | ⟨rfl, _⟩
          · exact h.cls o hm
          · exact List.Pairwise.nil
        · simp at hc; subst hc; rw [hx.out] at hout; cases hout
    afl := fun y hy => by
      have hy : y ∈ (appO (newO P x.b) x).all := hy
      have := hp.mem_iff.1 hy
      rw [all_newO] at this
      rcases List.mem_cons.1 this with rfl | hy
      · exact hx.afl
      · exact h.afl y hy }
end Go.Proofs.YtocjjigmpgekfaaGreat

/- Layer 11, the program's store in plain terms: writing and flushing. -/
open Go Go.Den Go.Proofs
namespace Go.Proofs.YtocjjigmpgekfaaGreat
theorem wr_is {D : St} {b : Nat} {ys : Bk} (hb : b < D.vs.length) (hy : ys.length = 256) (hl : D.left = -1) : wrE D b ys = 0 ∧ wrSt D b ys = ⟨D.vs.set b (D.vs[b] ++ [ys]), -1⟩ := by
  rcases err_cases (D := D) (b : Int) with ⟨_, ho⟩ | ⟨he, j, u, hj, hu, hver⟩
  · omega
  · have : j = b := by omega
    subst this
    have hv : D.vs[j]? = some D.vs[j] := by simp [hb]
    have : u = D.vs[j] := by rw [hu] at hv; exact Option.some.inj hv
    subst this
    have hw : wrE D j ys = 0 := by unfold wrE; rw [he, if_neg (by omega), if_neg (by omega)]
    refine ⟨hw, ?_⟩
    unfold wrSt; rw [if_neg (by omega), hver, hl]; rfl
theorem ver_at {D : St} {n : Nat} (h : n < D.vs.length) : verOf D n = D.vs[n] := by
  unfold verOf
  rw [if_neg (by omega), Int.toNat_natCast, List.getElem?_eq_getElem h]; rfl
theorem atD_wrN {D : St} {b : Nat} {ys : Bk} (hb : b < D.vs.length) (hy : ys.length = 256) (hl : D.left = -1) (n : Nat) : atD (wrSt D b ys) n = if n = b then ys else atD D n := by
  obtain ⟨_, e2⟩ := wr_is hb hy hl
  rw [e2]
  by_cases hn : n < D.vs.length
  · unfold atD
    rw [ver_at (D := ⟨_, _⟩) (by simpa using hn)]
    by_cases h : n = b
    · subst h
      rw [if_pos rfl]
      simp only [List.getElem_set_self]
      unfold lastV
      rw [List.getLastD_eq_getLast?, List.getLast?_append]; simp
    · rw [if_neg h, ver_at hn]
      simp only
      rw [List.getElem_set_ne (Ne.symm h)]
  · have h : ∀ E : St, E.vs.length = D.vs.length → atD E n = [] := fun E hE => by
      unfold atD verOf
      rw [if_neg (by omega), Int.toNat_natCast, List.getElem?_eq_none (by omega)]; rfl
    rw [if_neg (by omega), h _ (by simp), h _ rfl]
theorem atD_fl {D : St} (hl : D.left = -1) (n : Nat) : atD (flSt D) n = atD D n := by
  unfold flSt
  rw [if_neg (by omega)]
  unfold atD verOf
  rw [if_neg (by omega), if_neg (by omega), Int.toNat_natCast]
  simp only [List.getElem?_map]
  cases D.vs[n]? <;> rfl
theorem fl_left {D : St} (hl : D.left = -1) : (flSt D).left = -1 := by unfold flSt; rw [if_neg (by omega), hl]; rfl
theorem fl_len (D : St) : (flSt D).vs.length = D.vs.length := by unfold flSt; split <;> simp
theorem all_mapX {V : Ps} {C : Ca} {f : Ch → Ch} : Ps.all ⟨C, V.last, mapX V f⟩ = V.all.map f := by
  unfold Ps.all mapX
  rw [List.flatMap_map, List.map_flatMap]
theorem opn_mapX {V : Ps} {C : Ca} {f : Ch → Ch} (hf : Like f) : Ps.opn ⟨C, V.last, mapX V f⟩ = V.opn := by
  funext k
  unfold Ps.opn
  rw [all_mapX, List.any_map]
  congr 1
  funext x
  simp only [Function.comp]
  rw [hf.id]
theorem WFS.mapX {V : Ps} {f : Ch → Ch} {C : Ca} (h : WFS V) (hf : Like f) (hD : C.D.vs.length = V.C.D.vs.length) (hm : C.most = V.C.most) : WFS ⟨C, V.last, Go.Proofs.YtocjjigmpgekfaaGreat.mapX V f⟩ where
  full := by show C.D.vs.length ≤ C.most; rw [hD, hm]; exact h.full
  onsN := by
    have : (Go.Proofs.YtocjjigmpgekfaaGreat.mapX V f).map (·.b) = V.ons.map (·.b) := by unfold Go.Proofs.YtocjjigmpgekfaaGreat.mapX; rw [List.map_map]; rfl
    show ((Go.Proofs.YtocjjigmpgekfaaGreat.mapX V f).map (·.b)).Nodup
    rw [this]; exact h.onsN
  onlt := fun o ho => by
    obtain ⟨p, hp, rfl⟩ := List.mem_map.1 ho
    show p.b < C.D.vs.length
    rw [hD]; exact h.onlt p hp
  base := fun o ho => by
    obtain ⟨p, hp, rfl⟩ := List.mem_map.1 ho
    exact h.base p hp
  llen := fun o ho => by
    obtain ⟨p, hp, rfl⟩ := List.mem_map.1 ho
    show (p.l.map f).length ≤ V.last
    rw [List.length_map]; exact h.llen p hp
  ids := by
    rw [all_mapX, List.map_map]
    have : ((·.id) ∘ f : Ch → Nat) = (·.id) := by funext x; exact hf.id x
    rw [this]; exact h.ids
  idr := fun x hx => by
    rw [all_mapX] at hx
    obtain ⟨y, hy, rfl⟩ := List.mem_map.1 hx
    rw [hf.id]; exact h.idr y hy
  chb := fun o ho x hx => by
    obtain ⟨p, hp, rfl⟩ := List.mem_map.1 ho
    obtain ⟨y, hy, rfl⟩ := List.mem_map.1 hx
    rw [hf.b]; exact h.chb p hp y hy
  dat := fun x hx => by
    rw [all_mapX] at hx
    obtain ⟨y, hy, rfl⟩ := List.mem_map.1 hx
    rw [hf.data, hf.frm]; exact h.dat y hy
  aft := fun x hx => by
    rw [all_mapX] at hx
    obtain ⟨y, hy, rfl⟩ := List.mem_map.1 hx
    rw [hf.after]; exact h.aft y hy
  last := h.last
theorem img_len {P : Ps} (hs : WFS P) (hD : WF P.C.D) {b : Nat} (hb : b < P.C.D.vs.length) : (imgB P b).length = 256 := by
  unfold imgB
  cases ho : onOf P b with
  | none =>
    unfold atD
    rw [ver_at hb]
    exact hD.lastLen (List.getElem?_eq_getElem hb)
  | some o =>
    obtain ⟨h1, _⟩ := onOf_some ho
    exact withL_len (hs.base o h1) _ fun x hx => (hs.dat x (on_all h1 (List.mem_filter.1 hx).1)).2
theorem cont_len {P : Ps} (hs : WFS P) (hD : WF P.C.D) {b : Nat} (hb : b < P.C.D.vs.length) : (contV P b).length = 256 := by
  unfold contV
  cases ho : onOf P b with
  | none =>
    show (atD P.C.D b).length = 256
    unfold atD
    rw [ver_at hb]
    exact hD.lastLen (List.getElem?_eq_getElem hb)
  | some o =>
    obtain ⟨h1, _⟩ := onOf_some ho
    exact withL_len (hs.base o h1) _ fun x hx => (hs.dat x (on_all h1 hx)).2
theorem markF_no {V : Ps} {b : Nat} {l : List Ch} (h : ∀ x ∈ l, x.b ≠ b) : l.map (markF V b) = l := by
  conv => rhs; rw [← List.map_id l]
  apply List.map_congr_left
  intro x hx
  unfold markF; rw [if_neg (h x hx)]; rfl
/-- A block is written. -/
theorem WFP.mark {P : Ps} {b : Nat} {o : On} (h : WFP P) (hs : WFS P) (hD : WF P.C.D) (ho : onOf P b = some o) :
    WFP ⟨{ P.C with D := wrSt P.C.D b (imgB P b) }, P.last, mapX P (markF P b)⟩ := by
  obtain ⟨hom, hob⟩ := onOf_some ho
  have hob : o.b = b := by omega
  have hb : b < P.C.D.vs.length := by rw [← hob]; exact hs.onlt o hom
  have hil := img_len hs hD hb
  have hat := atD_wrN hb hil h.run
  have hL := markF_like P b
  have hmb : mayB P b = mayL P.opn o.l := by unfold mayB; rw [ho]
  have hxb : ∀ x ∈ o.l, x.b = b := fun x hx => by rw [hs.chb o hom x hx, hob]
  have hno : ∀ p ∈ P.ons, p.b ≠ b → p.l.map (markF P b) = p.l := fun p hp e => markF_no fun x hx => by rw [hs.chb p hp x hx]; exact e
  have hmo : ∀ x ∈ o.l, (markF P b x).out = (mayL P.opn o.l).contains (x.id : Int) := fun x hx => by
    unfold markF
    rw [if_pos (hxb x hx), hmb]
    show (x.out || _) = _
    cases hxo : x.out with
    | false => rfl
    | true =>
      have := h.may o hom x hx hxo
      rw [Bool.true_or]; symm; simpa using this
  have hsame : ∀ p ∈ P.ons, p.b = b → p = o := fun p hp e => on_uniq hs hp hom (by omega)
  exact {
    lne := fun p hp => by
      obtain ⟨q, hq, rfl⟩ := List.mem_map.1 hp
      have := h.lne q hq
      simpa using this
    pin := fun p hp => by
      obtain ⟨q, hq, rfl⟩ := List.mem_map.1 hp
      obtain ⟨x, h1, h2, h3, h4⟩ := h.pin q hq
      refine ⟨x, h1, h2, h3, ?_⟩
      show x.data = withL q.base (q.l.map (markF P b))
      rw [withL_map hL]; exact h4
    unp := fun x hx hn => by
      have hn' : ∀ q ∈ P.ons, q.b ≠ x.b := fun q hq => hn { q with l := q.l.map (markF P b) } (List.mem_map.2 ⟨q, hq, rfl⟩)
      obtain ⟨h1, h2⟩ := h.unp x hx hn'
      refine ⟨h1, ?_⟩
      show x.data = atD (wrSt P.C.D b (imgB P b)) x.b
      rw [hat, if_neg (fun e => hn' o hom (by omega))]; exact h2
    run := by
      show (wrSt P.C.D b (imgB P b)).left = -1
      rw [(wr_is hb hil h.run).2]
    acc := fun p hp => by
      obtain ⟨q, hq, rfl⟩ := List.mem_map.1 hp
      show atD (wrSt P.C.D b (imgB P b)) q.b = withL q.base ((q.l.map (markF P b)).filter (·.out))
      rw [hat]
      by_cases e : q.b = b
      · have := hsame q hq e
        subst this
        rw [if_pos e, List.filter_map, withL_map hL]
        unfold imgB
        rw [ho]
        show withL q.base _ = withL q.base _
        congr 1
        apply List.filter_congr
        intro x hx
        exact (hmo x hx).symm
      · rw [if_neg e, hno q hq e]; exact h.acc q hq
    may := fun p hp x hx hxo => by
      obtain ⟨q, hq, rfl⟩ := List.mem_map.1 hp
      rw [opn_mapX hL]
      show (x.id : Int) ∈ mayL P.opn (q.l.map (markF P b))
      rw [mayL_map hL]
      obtain ⟨y, hy, rfl⟩ := List.mem_map.1 hx
      rw [hL.id]
      by_cases e : q.b = b
      · have := hsame q hq e
        subst this
        rw [hmo y hy] at hxo
        simpa using hxo
      · have : markF P b y = y := by unfold markF; rw [if_neg (by rw [hs.chb q hq y hy]; exact e)]
        rw [this] at hxo
        exact h.may q hq y hy hxo
    cls := fun p hp => by
      obtain ⟨q, hq, rfl⟩ := List.mem_map.1 hp
      show Cls (q.l.map (markF P b))
      by_cases e : q.b = b
      · have := hsame q hq e
        subst this
        unfold Cls
        rw [List.pairwise_map]
        refine (mayL_meets (op := P.opn) (ids_on hs hq)).imp_of_mem fun {x y} hx hy hh => ?_
        rw [hmo x hx, hmo y hy, meet_like hL]
        intro h1 h2
        have := hh (by simpa using h1) h2
        simpa using this
      · rw [hno q hq e]; exact h.cls q hq
    afl := fun x hx => by
      rw [all_mapX] at hx
      obtain ⟨y, hy, rfl⟩ := List.mem_map.1 hx
      rw [hL.after, hL.id]; exact h.afl y hy }
/-- The blocks of a list, flushed so far. -/
def flG (vis : Nat → Bool) (o : On) : Option On := if vis o.b = true then flOn o else some o
theorem flG_facts {vis : Nat → Bool} {o o' : On} (h : flG vis o = some o') : o'.b = o.b ∧ o'.l.Sublist o.l ∧ (o' = o ∨ (o'.base = withL o.base (o.l.filter (·.out)) ∧ o'.l = o.l.filter fun x => !x.out)) := by
  unfold flG at h
  split at h
  · unfold flOn at h
    split at h
    · cases h
    · have := Option.some.inj h
      subst this
      exact ⟨rfl, List.filter_sublist, .inr ⟨rfl, rfl⟩⟩
  · have := Option.some.inj h
    subst this
    exact ⟨rfl, List.Sublist.refl _, .inl rfl⟩
theorem flat_sub {g : On → Option On} (hg : ∀ o o', g o = some o' → o'.l.Sublist o.l) : ∀ l : List On, ((l.filterMap g).flatMap (·.l)).Sublist (l.flatMap (·.l))
  | [] => List.Sublist.refl _
  | o :: r => by
    have ih := flat_sub hg r
    rw [List.flatMap_cons]
    cases h : g o with
    | none =>
      rw [List.filterMap_cons_none h]
      exact ih.trans (List.sublist_append_right _ _)
    | some o' =>
      rw [List.filterMap_cons_some h, List.flatMap_cons]
      exact (hg o o' h).append ih
theorem b_sub {g : On → Option On} (hg : ∀ o o', g o = some o' → o'.b = o.b) : ∀ l : List On, ((l.filterMap g).map (·.b)).Sublist (l.map (·.b))
  | [] => List.Sublist.refl _
  | o :: r => by
    have ih := b_sub hg r
    rw [List.map_cons]
    cases h : g o with
    | none => rw [List.filterMap_cons_none h]; exact ih.cons _
    | some o' =>
      rw [List.filterMap_cons_some h, List.map_cons, hg o o' h]
      exact ih.cons_cons _
theorem WFS.fl {V : Ps} {C : Ca} {vis : Nat → Bool} (h : WFS V) (hD : C.D.vs.length = V.C.D.vs.length) (hm : C.most = V.C.most) : WFS ⟨C, V.last, V.ons.filterMap (flG vis)⟩ := by
  have hsub : (Ps.all ⟨C, V.last, V.ons.filterMap (flG vis)⟩).Sublist V.all := flat_sub (fun o o' e => (flG_facts e).2.1) _
  exact {
    full := by show C.D.vs.length ≤ C.most; rw [hD, hm]; exact h.full
    onsN := (b_sub (fun o o' e => (flG_facts e).1) _).nodup h.onsN
    onlt := fun o ho => by
      obtain ⟨p, hp, e⟩ := List.mem_filterMap.1 ho
      show o.b < C.D.vs.length
      rw [hD, (flG_facts e).1]; exact h.onlt p hp
    base := fun o ho => by
      obtain ⟨p, hp, e⟩ := List.mem_filterMap.1 ho
      rcases (flG_facts e).2.2 with rfl | ⟨e2, _⟩
      · exact h.base o hp
      · rw [e2]; exact withL_len (h.base p hp) _ fun x hx => (h.dat x (on_all hp (List.mem_filter.1 hx).1)).2
    llen := fun o ho => by
      obtain ⟨p, hp, e⟩ := List.mem_filterMap.1 ho
      exact Nat.le_trans (flG_facts e).2.1.length_le (h.llen p hp)
    ids := (hsub.map _).nodup h.ids
    idr := fun x hx => h.idr x (hsub.subset hx)
    chb := fun o ho x hx => by
      obtain ⟨p, hp, e⟩ := List.mem_filterMap.1 ho
      rw [(flG_facts e).1]; exact h.chb p hp x ((flG_facts e).2.1.subset hx)
    dat := fun x hx => h.dat x (hsub.subset hx)
    aft := fun x hx => h.aft x (hsub.subset hx)
    last := h.last }
def flV2 (P : Ps) : Ps := ⟨{ P.C with D := flSt P.C.D, l := P.C.l.map fun x => if (P.ons.any fun o => decide (o.b = x.b) && (flOn o).isNone) = true then { x with pins := 0 } else x }, P.last, P.ons.filterMap flOn⟩
/-- All is flushed. -/
theorem WFP.flush {P : Ps} (h : WFP P) (hs : WFS P) (hn : (P.C.l.map (·.b)).Nodup) : WFP (flV2 P) := by
  have hf : ∀ {o o' : On}, flOn o = some o' → o'.b = o.b ∧ o'.base = withL o.base (o.l.filter (·.out)) ∧ o'.l = o.l.filter (fun x => !x.out) ∧ o'.l ≠ [] := fun {o o'} e => by
    unfold flOn at e
    split at e
    · cases e
    · rename_i hne
      have := Option.some.inj e
      subst this
      refine ⟨rfl, rfl, rfl, ?_⟩
      intro h0
      apply hne
      have h0 : (o.l.filter fun x => !x.out) = [] := h0
      rw [h0]; rfl
  have hsub : (flV2 P).all.Sublist P.all := flat_sub (fun o o' e => by rw [(hf e).2.2.1]; exact List.filter_sublist) _
  have hall : ∀ x ∈ (flV2 P).all, x.out = false := fun x hx => by
    obtain ⟨o', ho', hx'⟩ := mem_all.1 hx
    obtain ⟨o, ho, e⟩ := List.mem_filterMap.1 ho'
    rw [(hf e).2.2.1] at hx'
    have := (List.mem_filter.1 hx').2
    simpa using this
  have hwl : ∀ o ∈ P.ons, ∀ x ∈ o.l, x.frm + x.data.length ≤ 256 := fun o ho x hx => (hs.dat x (on_all ho hx)).2
  exact {
    lne := fun o' ho' => by
      obtain ⟨o, ho, e⟩ := List.mem_filterMap.1 ho'
      exact (hf e).2.2.2
    pin := fun o' ho' => by
      obtain ⟨o, ho, e⟩ := List.mem_filterMap.1 ho'
      obtain ⟨h1, h2, h3, _⟩ := hf e
      obtain ⟨x, hx, k1, k2, k3⟩ := h.pin o ho
      refine ⟨x, List.mem_map.2 ⟨x, hx, ?_⟩, by rw [h1]; exact k1, k2, ?_⟩
      · rw [if_neg]
        rw [List.any_eq_true]
        rintro ⟨p, hp, hpe⟩
        simp only [Bool.and_eq_true, decide_eq_true_eq] at hpe
        have := on_uniq hs hp ho (by omega)
        subst this
        rw [e] at hpe
        cases hpe.2
      · rw [h2, h3, withL_parts (hs.base o ho) (hwl o ho) (h.cls o ho)]; exact k3
    unp := fun z hz hno => by
      obtain ⟨x, hx, rfl⟩ := List.mem_map.1 hz
      have hb : (if (P.ons.any fun o => decide (o.b = x.b) && (flOn o).isNone) = true then { x with pins := 0 } else x : Bf).b = x.b := by split <;> rfl
      have hd : (if (P.ons.any fun o => decide (o.b = x.b) && (flOn o).isNone) = true then { x with pins := 0 } else x : Bf).data = x.data := by split <;> rfl
      rw [hb] at hno ⊢
      rw [hd]
      show _ ∧ x.data = atD (flSt P.C.D) x.b
      rw [atD_fl h.run]
      by_cases hon : ∃ o ∈ P.ons, o.b = x.b
      · obtain ⟨o, ho, e⟩ := hon
        have hnone : flOn o = none := by
          cases hfo : flOn o with
          | none => rfl
          | some o' => exact absurd (by rw [(hf hfo).1]; exact e) (hno o' (List.mem_filterMap.2 ⟨o, ho, hfo⟩))
        refine ⟨?_, ?_⟩
        · rw [if_pos (List.any_eq_true.2 ⟨o, ho, by rw [hnone, decide_eq_true e]; rfl⟩)]
        · obtain ⟨y, hy, k1, k2, k3⟩ := h.pin o ho
          have hxy : ∀ w ∈ P.C.l, w.b = o.b → w.data = withL o.base o.l → w.data = atD P.C.D x.b := fun w hw _ hwd => by
            rw [← e, h.acc o ho, hwd]
            unfold flOn at hnone
            split at hnone
            · rename_i hemp
              have hall2 : ∀ z ∈ o.l, z.out = true := by
                have : (o.l.filter fun x => !x.out) = [] := List.isEmpty_iff.1 hemp
                rw [List.filter_eq_nil_iff] at this
                intro z hz
                simpa using this z hz
              rw [List.filter_eq_self.2 hall2]
            · cases hnone
          by_cases hxd : x.data = withL o.base o.l
          · exact hxy x hx e.symm hxd
          · have : x = y := map_inj hn hx hy (by omega)
            rw [this] at hxd
            exact absurd k3 hxd
      · rw [if_neg]
        · exact h.unp x hx fun o ho e => hon ⟨o, ho, e⟩
        · rw [List.any_eq_true]
          rintro ⟨o, ho, e⟩
          simp only [Bool.and_eq_true, decide_eq_true_eq] at e
          exact hon ⟨o, ho, e.1⟩
    run := fl_left h.run
    acc := fun o' ho' => by
      obtain ⟨o, ho, e⟩ := List.mem_filterMap.1 ho'
      obtain ⟨h1, h2, h3, _⟩ := hf e
      show atD (flSt P.C.D) o'.b = _
      rw [atD_fl h.run, h1, h2, h.acc o ho]
      have : o'.l.filter (·.out) = [] := by
        rw [List.filter_eq_nil_iff]
        intro x hx
        have := hall x (mem_all.2 ⟨o', ho', hx⟩)
        rw [this]; simp
      rw [this]; rfl
    may := fun o' ho' x hx hxo => by
      have := hall x (mem_all.2 ⟨o', ho', hx⟩)
      rw [this] at hxo; cases hxo
    cls := fun o' ho' => by
      show Cls o'.l
      unfold Cls
      rw [List.pairwise_iff_getElem]
      intro i j hi hj _ hy
      have := hall _ (mem_all.2 ⟨o', ho', List.getElem_mem hj⟩)
      rw [this] at hy; cases hy
    afl := fun x hx => h.afl x (hsub.subset hx) }
end Go.Proofs.YtocjjigmpgekfaaGreat
end
section
/- Layer 11, the program's store: an image, and a block that is written. -/
open Go Go.Den Go.Proofs
namespace Go.Proofs.YtocjjigmpgekfaaGreat
section
variable {w0 w w' : World} {R R' : Nat → Prop} {rl : Nat → Nat} {sp c d mo mm : Nat} {ca oa : Nat → Nat} {Lo Lm : List (Int × Value)} {P V : Ps} {K : Value → World → Prop}
theorem Px.to (h : Px w0 R w sp d P) (h1 : ∀ x, R x → R' x) (h2 : ∀ x, R' x → w0.heap.size ≤ x ∧ x < w.heap.size) : Px w0 R' w sp d P := by
  obtain ⟨hw, rl, c, mo, mm, ca, oa, Lo, Lm, h⟩ := h
  exact ⟨hw, rl, c, mo, mm, ca, oa, Lo, Lm, h.widen h1 h2⟩
theorem Px.lo (h : Px w0 R w sp d P) : ∀ x, R x → w0.heap.size ≤ x ∧ x < w.heap.size := h.wf.2.2.2.2.2
theorem Px.notin {w1 : World} (h : Px w0 R w sp d P) {g : Nat} (hz : w.heap.size ≤ w1.heap.size) (hg : w1.heap.size ≤ g) : ¬ Gro R w w1 g := by
  rintro (e | e)
  · have := (h.lo g e).2; omega
  · omega
/-- A store of one's own, whatever its cache holds. -/
def Pz (w0 : World) (R : Nat → Prop) (w : World) (sp d : Nat) (V : Ps) : Prop := ∃ C, C.D = V.C.D ∧ C.most = V.C.most ∧ Px w0 R w sp d ⟨C, V.last, V.ons⟩
theorem Pz.nos (h : Pz w0 R w sp d V) (k : Mod No w w') : Pz w0 R w' sp d V := by
  obtain ⟨C, h1, h2, h⟩ := h; exact ⟨C, h1, h2, h.nos k⟩
theorem Pz.lo (h : Pz w0 R w sp d V) : ∀ x, R x → w0.heap.size ≤ x ∧ x < w.heap.size := by
  obtain ⟨C, h1, h2, h⟩ := h; exact h.lo
theorem imgB_C {C : Ca} (e : C.D = V.C.D) (b : Nat) : imgB ⟨C, V.last, V.ons⟩ b = imgB V b := by
  unfold imgB
  show (match onOf V b with | some o => withL o.base (o.l.filter fun x => (mayL V.opn o.l).contains (x.id : Int)) | none => atD C.D b) = _
  rw [e] <;> cases onOf V b <;> rfl
theorem contV_C {C : Ca} (e : C.D = V.C.D) (b : Nat) : contV ⟨C, V.last, V.ons⟩ b = contV V b := by
  unfold contV
  show (match onOf V b with | some o => withL o.base o.l | none => atD C.D b) = _
  rw [e] <;> cases onOf V b <;> rfl
set_option maxRecDepth 100000 in
theorem pImage_c {n : Int} (hP : Px w0 R w sp d P) (hk0 : errOf P.C.D n ≠ 0 → ∀ w', Mod No w w' → K (.tuple #[.slice none 0 0, .int .i64 (errOf P.C.D n)]) w')
    (hk : ∀ b : Nat, n = b → b < P.C.D.vs.length → ∀ w1 w' g cc C', Mod R w w1 → Mod No w1 w' → Px w0 (Gro R w w1) w' sp d { P with C := C' } → C'.D = P.C.D → C'.most = P.C.most → w1.heap.size ≤ g → AtU w' g 0 (u8L (imgB P b)) → K (.tuple #[.slice (some ⟨g, 0, none⟩) 256 cc, .int .i64 0]) w') :
    Cal Tryz.prog F_patch_Store_Image #[.pointer (some ⟨sp, 0, none⟩), .int .i64 n] w K := by
  apply C_patch_Store_Image
  unfold D_patch_Store_Image
  refine pRead_c hP (fun he w1 m1 => ⟨_, _, _, _, rfl, ?_⟩) fun b hb hlt w1 w2 a cc C' m1 m2 h2 eD eM hcont o2 => ⟨_, _, _, _, rfl, ?_⟩
  · exact Share.dup (tt (by simpa using he) ⟨_, rfl, tt rfl (hk0 he w1 m1)⟩)
  · subst hb
    have hcv : cont P b = contV P b := by
      have hwf := hP.wf
      exact cont_view hwf.1 hwf.2.1 hwf.2.2.1 b
    rw [hcv] at o2
    obtain ⟨hw, rl, c, mo, mm, ca, oa, Lo, Lm, h⟩ := h2
    refine Share.dup (ff rfl ⟨_, rfl, _, h.lm, _, h.lookM b, ?_⟩)
    cases ho : onOf P b with
    | none =>
      have ho' : onOf { P with C := C' } b = none := ho
      rw [ho']
      refine ⟨_, rfl, tt rfl ?_⟩
      obtain ⟨g, rfl, hg, hat⟩ := o2.sm (by omega)
      have e : imgB P b = contV P b := by unfold imgB contV; rw [ho]
      exact hk b rfl hlt w1 w2 g cc C' m1 m2 ⟨hw, rl, c, mo, mm, ca, oa, Lo, Lm, h⟩ eD eM hg (by rw [e]; exact hat)
    | some o =>
      have ho' : onOf { P with C := C' } b = some o := ho
      obtain ⟨hom, hob⟩ := onOf_some ho
      have hobn : o.b = b := by omega
      have hlk := h.lookM (b : Int)
      rw [ho'] at hlk ⊢
      refine ⟨_, rfl, ff rfl ⟨_, rfl, _, h.lm, _, hlk, ?_⟩⟩
      refine may11_c h hom fun w3 m m3 hm hmp => ⟨_, rfl, ?_⟩
      have hA : Mod No w3 (w3.alloc (.cells ⟨[.map (some m)]⟩ 176)) := (Mod.refl No w3).alloc _
      have aA : At (w3.alloc (.cells ⟨[.map (some m)]⟩ 176)) w3.heap.size 0 [.map (some m)] := AtU.new.at
      have sA : (w3.alloc (.cells ⟨[.map (some m)]⟩ 176)).heap.size = w3.heap.size + 1 := by simp
      refine ⟨_, _, alloc_map _, _, store_one (by kernel_rfl) rfl, ?_⟩
      generalize w3.alloc (.cells ⟨[.map (some m)]⟩ 176) = w4 at *
      have M4 := m3.no hA
      have h4 := h.nos M4
      refine with_c h4 hom (tells_image h4 (fun x hx => on_all hom hx) aA (hmp.keep hA id)) fun w5 g cc5 m5 hg5 hat5 => ⟨_, _, _, rfl, ?_⟩
      have M5 := M4.no m5
      have hz2 := m2.size
      have hz4 := M4.size
      refine hk b rfl hlt w1 w5 g cc5 C' m1 (m2.no M5) ⟨hw, rl, c, mo, mm, ca, oa, Lo, Lm, h.nos M5⟩ eD eM (by omega) ?_
      have e : imgB P b = withL o.base (o.l.filter fun x => (mayL P.opn o.l).contains (x.id : Int)) := by unfold imgB; rw [ho]
      rw [e]; exact hat5
theorem ChAt.store {q : Nat} {x : Ch} (h : ChAt w rl q x) (h5 : rl q ≠ 5) (b : Bool) : ∃ w', RuU (Instr.storeAt 4 (.pointer (some (Addr.add ⟨q, 0, none⟩ 5))) (.bool b)) w w' ∧ ChAt w' rl q { x with out := b } ∧ Mod (fun z => z = q) w w' := by
  obtain ⟨gd, cd, aa, cc, h1, h2, h3, h4, h6⟩ := h
  obtain ⟨w', u1, u2, u3, u4⟩ := h1.store (P := Tryz.prog) (T := 4) (i := 5) (v := .bool b) (by kernel_rfl) (by simp) rfl
  refine ⟨w', by rw [add_none]; exact u1, ⟨gd, cd, aa, cc, by simpa using u2, h2.keep u3 (fun e => ?_), h3, h4.keep u3 fun q' hq' e => ?_, h6⟩, u3⟩
  · have e : gd = q := e
    rw [e] at h3; exact h5 h3
  · have e : q'.block = q := e
    have := h6 q' hq'
    rw [e] at this; exact h5 this
/-- The mark of the changes of a block in memory. -/
theorem mark_c {o : On} {b m : Nat} (h : PIn w0 R rl w sp c d mo mm ca oa Lo Lm P) (hom : o ∈ P.ons) (ho : onOf P b = some o) (hmp : MapAt w m (okM (mayL P.opn o.l))) (hm : ¬ R m) {la : Option Addr} {lc : Nat} (hl : Row w la (pL (o.l.map fun x => ca x.id))) (hll : o.l.length ≤ lc) (h9 : ∀ q, la = some q → rl q.block = 9 + 3 * o.b)
    (hk : ∀ w', Mod R w w' → PIn w0 (Gro R w w') rl w' sp c d mo mm ca oa Lo Lm ⟨P.C, P.last, mapX P (markF P b)⟩ → K (.int .i64 0) w') :
    LoopC (fun k_3 x_3 w6 =>
 ∃ n68 : Int, nth x_3 0 = .int .i64 n68 ∧ (bif decide (n68 < (o.l.length : Int)) then
 ∃ q70 : Addr, Al (Instr.indexAt 178 (.slice la o.l.length lc) (.int .i64 n68)) (.pointer (some q70)) ∧ ∃ p71 : Option Addr, Ru (Instr.loadAt 181 (.pointer (some q70))) w6 (.pointer p71) w6 ∧ Share (fun k_4 => ∃ q74 : Addr, (.pointer p71 : Value) = .pointer (some q74) ∧ ∃ b76 : Bool, Ru (Instr.loadAt 4 (.pointer (some (Addr.add q74 5)))) w6 (.bool b76) w6 ∧ (bif b76 then ∃ q85 : Addr, (.pointer p71 : Value) = .pointer (some q85) ∧ ∃ w7 : World, RuU (Instr.storeAt 4 (.pointer (some (Addr.add q85 5))) (.bool true)) w6 w7 ∧ k_4 [] w7 else ∃ q80 : Addr, (.pointer p71 : Value) = .pointer (some q80) ∧ ∃ n82 : Int, Ru (Instr.loadAt 2 (.pointer (some (Addr.add q80 0)))) w6 (.int .i64 n82) w6 ∧ ∃ b83 : Bool, Ru (Instr.lookup 176 (.map (some m)) (.int .i64 n82) false) w6 (.bool b83) w6 ∧ ∃ q85_2 : Addr, (.pointer p71 : Value) = .pointer (some q85_2) ∧ ∃ w8 : World, RuU (Instr.storeAt 4 (.pointer (some (Addr.add q85_2 5))) (.bool b83)) w6 w8 ∧ k_4 [] w8)) fun x_4 w9 =>
 k_3 [.int .i64 (IntKind.i64.wrap (n68 + 1))] w9
 else
 K (.int .i64 0) w6)) [.int .i64 0] w := by
  obtain ⟨_, hob⟩ := onOf_some ho
  have hob : o.b = b := by omega
  have hlast := h.wf.last
  have hlen := h.wf.llen o hom
  have hL := markF_like P b
  have hmb : mayB P b = mayL P.opn o.l := by unfold mayB; rw [ho]
  have hoa := fun x hx => on_all hom (x := x) hx
  have hinj : ∀ {i j : Nat} (hi : i < o.l.length) (hj : j < o.l.length), ca o.l[i].id = ca o.l[j].id → i = j := fun {i j} hi hj e => by
    have := h.inj (hoa _ (List.getElem_mem hi)) (hoa _ (List.getElem_mem hj)) e
    have hnd : o.l.Nodup := nodup_of_map (ids_on h.wf hom)
    exact (List.getElem_inj hnd).1 this
  have hrl : ∀ x ∈ o.l, rl (ca x.id) = 10 + 3 * x.id := fun x hx => (h.chs x (hoa x hx)).2.1
  have hSR : ∀ z, (∃ x ∈ o.l, z = ca x.id) → rl z ≠ 0 ∧ R z := fun z ⟨x, hx, e⟩ => by
    subst e
    have := hrl x hx
    exact ⟨by omega, h.reg _ (by omega)⟩
  refine ⟨fun x w6 => ∃ i : Nat, i ≤ o.l.length ∧ x = [.int .i64 i] ∧ Mod (fun z => ∃ x ∈ o.l, z = ca x.id) w w6 ∧ ∀ (j : Nat) (hj : j < o.l.length), ChAt w6 rl (ca o.l[j].id) (if j < i then markF P b o.l[j] else o.l[j]),
    fun x _ => (o.l.length - nI x 0).toNat, ⟨0, by omega, rfl, Mod.refl _ _, fun j hj => by rw [if_neg (by omega)]; exact (h.chs _ (hoa _ (List.getElem_mem hj))).2.2⟩, ?_⟩
  rintro x w6 ⟨i, hi, rfl, M6, hch⟩
  refine ⟨_, rfl, cond_of (fun hb => ?_) (fun hb => ?_)⟩
  · have hi : i < o.l.length := by have := of_decide_eq_true hb; omega
    have hxm := List.getElem_mem hi
    have hlr : Row w6 la (pL (o.l.map fun x => ca x.id)) := hl.keep M6 fun q hq ⟨x, hx, e⟩ => by
      have h1 := h9 q hq
      have h2 := hrl x hx
      rw [← e] at h2
      omega
    obtain ⟨b3, o3, hla, hat3⟩ := row_someP hlr (i := i) (by simp; exact hi)
    subst hla
    have hld := hat3.load (P := Tryz.prog) (T := 181) (by kernel_rfl) (pL_get (i := i) (by simp; exact hi))
    rw [List.getElem_map] at hld
    refine ⟨_, index_slice (k := 1) (by kernel_rfl) (by omega) (by omega), ?_⟩
    rw [add_none, show (i : Int).toNat * 1 = i by omega]
    refine ⟨_, hld, ?_⟩
    have hc := hch i hi
    rw [if_neg (by omega)] at hc
    have hr5 : rl (ca o.l[i].id) ≠ 5 := by have := hrl _ hxm; omega
    have hm6 : MapAt w6 m (okM (mayL P.opn o.l)) := hmp.keep M6 fun e => hm (hSR _ e).2
    have hmark : markF P b o.l[i] = { o.l[i] with out := o.l[i].out || (mayL P.opn o.l).contains (o.l[i].id : Int) } := by
      unfold markF; rw [if_pos (by rw [h.wf.chb o hom _ hxm]; exact hob), hmb]
    have step : ∀ (bb : Bool) (w7 : World), bb = (o.l[i].out || (mayL P.opn o.l).contains (o.l[i].id : Int)) → ChAt w7 rl (ca o.l[i].id) { o.l[i] with out := bb } → Mod (fun z => z = ca o.l[i].id) w6 w7 →
        Mod (fun z => ∃ x ∈ o.l, z = ca x.id) w w7 ∧ ∀ (j : Nat) (hj : j < o.l.length), ChAt w7 rl (ca o.l[j].id) (if j < i + 1 then markF P b o.l[j] else o.l[j]) := by
      intro bb w7 hbb hc7 m7
      refine ⟨M6.trans m7 fun z _ e => ⟨_, hxm, e⟩, fun j hj => ?_⟩
      by_cases e : j = i
      · subst e
        rw [if_pos (by omega), hmark, ← hbb]; exact hc7
      · have hk := hch j hj
        have : (if j < i + 1 then markF P b o.l[j] else o.l[j]) = if j < i then markF P b o.l[j] else o.l[j] := by
          by_cases hji : j < i
          · rw [if_pos hji, if_pos (by omega)]
          · rw [if_neg hji, if_neg (by omega)]
        rw [this]
        exact hk.keep m7 (fun e2 => e (hinj hj hi e2)) fun z hz e2 => hr5 (by rw [← e2]; exact hz)
    refine Share.cut (fun _ w7 => Mod (fun z => ∃ x ∈ o.l, z = ca x.id) w w7 ∧ ∀ (j : Nat) (hj : j < o.l.length), ChAt w7 rl (ca o.l[j].id) (if j < i + 1 then markF P b o.l[j] else o.l[j])) ⟨_, rfl, _, hc.ld (j := 5) (by kernel_rfl) (fun _ _ _ _ => rfl), cond_of (fun hout => ?_) (fun hout => ?_)⟩ ?_
    · obtain ⟨w7, u1, u2, u3⟩ := hc.store hr5 true
      exact ⟨_, rfl, w7, u1, step true w7 (by rw [hout, Bool.true_or]) u2 u3⟩
    · obtain ⟨w7, u1, u2, u3⟩ := hc.store hr5 ((mayL P.opn o.l).contains (o.l[i].id : Int))
      exact ⟨_, rfl, _, hc.ld (j := 0) (by kernel_rfl) (fun _ _ _ _ => rfl), _, lookOk hm6 _, _, rfl, w7, u1, step _ w7 (by rw [hout, Bool.false_or]) u2 u3⟩
    · rintro z w7 ⟨M7, hch7⟩
      rw [wrap64 (x := (i : Int) + 1) (by omega) (by omega)]
      exact ⟨⟨i + 1, by omega, rfl, M7, hch7⟩, by simp [nI, nth]; omega⟩
  · have hil : i = o.l.length := by have := of_decide_eq_false hb; omega
    have hch' : ∀ x ∈ o.l, ChAt w6 rl (ca x.id) (markF P b x) := fun x hx => by
      obtain ⟨j, hj, rfl⟩ := List.getElem_of_mem hx
      have := hch j hj
      rwa [if_pos (by omega)] at this
    refine hk w6 (M6.mono fun z _ e => (hSR z e).2) ?_
    have hxo : ∀ {p : On}, p ∈ P.ons → p.b ≠ b → { p with l := p.l.map (markF P b) } = p := fun {p} hp e => by
      rw [markF_no fun x hx => by rw [h.wf.chb p hp x hx]; exact e]
    refine h.step (P' := ⟨P.C, P.last, mapX P (markF P b)⟩) rfl M6 (Ext.refl _ _ _) (fun _ e => e) (fun z _ ⟨x, hx, e⟩ => by have := hrl x hx; rw [← e] at this; omega)
      (h.cell.keep M6 fun ⟨x, hx, e⟩ => by have := hrl x hx; rw [← e, h.rsp] at this; omega) (h.mapO.keep M6 fun ⟨x, hx, e⟩ => by have := hrl x hx; rw [← e, h.rmo] at this; omega) (h.mapM.keep M6 fun ⟨x, hx, e⟩ => by have := hrl x hx; rw [← e, h.rmm] at this; omega) ?_ ?_ ?_ ?_ (h.wf.mapX hL rfl rfl)
    · intro y hy
      rw [all_mapX] at hy
      obtain ⟨x, hx, rfl⟩ := List.mem_map.1 hy
      obtain ⟨p, hp, hxp⟩ := mem_all.1 hx
      by_cases e : p.b = b
      · have := on_uniq h.wf hp hom (by omega)
        subst this
        obtain ⟨k1, k2, _⟩ := h.chs x hx
        right
        rw [hL.id]
        exact ⟨k1, k2, hch' x hxp⟩
      · have hxb : x.b ≠ b := by rw [h.wf.chb p hp x hxp]; exact e
        have hid : markF P b x = x := by unfold markF; rw [if_neg hxb]
        rw [hid]
        left
        refine ⟨hx, rfl, rfl, fun q ⟨z, hz, eq⟩ hq => ?_⟩
        subst eq
        rw [hrl z hz] at hq
        have ez : z = x := map_inj h.wf.ids (hoa z hz) hx (by omega)
        exact hxb (by rw [← ez, h.wf.chb o hom z hz]; exact hob)
    · intro p' hp'
      obtain ⟨p, hp, rfl⟩ := List.mem_map.1 hp'
      by_cases e : p.b = b
      · have := on_uniq h.wf hp hom (by omega)
        subst this
        obtain ⟨k1, k2, k3⟩ := h.ons p hp
        right
        refine ⟨k1, k2, ?_⟩
        have k4 := k3.keep M6 (fun ⟨x, hx, e⟩ => by have := hrl x hx; rw [← e, k2] at this; omega) (fun z hz ⟨x, hx, e⟩ => by have := hrl x hx; rw [← e, hz] at this; omega) fun z hz ⟨x, hx, e⟩ => by have := hrl x hx; rw [← e, hz] at this; omega
        obtain ⟨g, cc, la', lc', a1, a2, a3, a4, a5⟩ := k4
        refine ⟨g, cc, la', lc', ?_, a2, a3, ?_, a5⟩
        · show AtU w6 _ 0 [_, .slice la' (p.l.map (markF P b)).length lc']
          rw [List.length_map]; exact a1
        · show Own Tryz.prog w6 w0.heap.size _ 1 la' (p.l.map (markF P b)).length lc' (pL ((p.l.map (markF P b)).map fun x => ca x.id))
          rw [List.length_map, List.map_map]
          have : ((fun x => ca x.id) ∘ markF P b) = fun x => ca x.id := by funext x; simp only [Function.comp]; rw [hL.id]
          rw [this]; exact a4
      · have := hxo hp e
        rw [this]
        left
        exact ⟨hp, rfl, rfl, fun _ _ => rfl, fun q ⟨y, hy, eq⟩ => by have := hrl y hy; rw [← eq] at this; omega⟩
    · intro p hp
      obtain ⟨x, hx, e⟩ := h.keysO p hp
      refine ⟨markF P b x, ?_, by rw [hL.id]; exact e⟩
      rw [all_mapX]; exact List.mem_map.2 ⟨x, hx, rfl⟩
    · intro p hp
      obtain ⟨q, hq, e⟩ := h.keysM p hp
      exact ⟨{ q with l := q.l.map (markF P b) }, List.mem_map.2 ⟨q, hq, rfl⟩, e⟩
theorem WFS.cache {C : Ca} (h : WFS P) (hD : C.D.vs.length = P.C.D.vs.length) (hm : C.most = P.C.most) : WFS ⟨C, P.last, P.ons⟩ where
  full := by show C.D.vs.length ≤ C.most; rw [hD, hm]; exact h.full
  onsN := h.onsN
  onlt := fun o ho => by show o.b < C.D.vs.length; rw [hD]; exact h.onlt o ho
  base := h.base
  llen := h.llen
  ids := h.ids
  idr := h.idr
  chb := h.chb
  dat := h.dat
  aft := h.aft
  last := h.last
set_option maxRecDepth 100000 in
theorem pWrite_c {n : Int} (hP : Px w0 R w sp d P) (hb9 : ∀ v ∈ P.C.D.vs, v.length ≤ 999999)
    (hk : ∀ w' C', Mod R w w' → Px w0 (Gro R w w') w' sp d ⟨C', (wrV P n).last, (wrV P n).ons⟩ → C'.D = (wrV P n).C.D → C'.most = P.C.most → K (.int .i64 (wrVE P n)) w') :
    Cal Tryz.prog F_patch_Store_Write #[.pointer (some ⟨sp, 0, none⟩), .int .i64 n] w K := by
  have hP0 := hP
  obtain ⟨hw, rl, c, mo, mm, ca, oa, Lo, Lm, h⟩ := hP
  apply C_patch_Store_Write
  unfold D_patch_Store_Write
  have hgro : Px w0 (Gro R w w) w sp d P := hP0.to (fun x hx => .inl hx) fun x hx => by
    rcases hx with hx | hx
    · exact hP0.lo x hx
    · omega
  refine ff rfl (Share.cut (fun x w1 => w = w1 ∧ x = [.bool (decide (errOf P.C.D n ≠ 0))]) (cond_of (fun hb => ?_) (fun hb => ?_)) ?_)
  · have hb := of_decide_eq_true hb
    have : errOf P.C.D n ≠ 0 := by unfold errOf; rw [if_pos (by omega)]; omega
    rw [decide_eq_true this]; exact ⟨rfl, rfl⟩
  · have hb := of_decide_eq_false hb
    refine ⟨_, rfl, _, h.llen', rfl, ?_⟩
    congr 2
    unfold errOf
    by_cases hn : (P.C.D.vs.length : Int) ≤ n
    · rw [if_pos (.inr hn), decide_eq_true hn]; rfl
    · rw [if_neg (by omega), decide_eq_false hn]; rfl
  rintro x w1 ⟨rfl, rfl⟩
  refine ⟨_, rfl, ?_⟩
  by_cases he : errOf P.C.D n ≠ 0
  · have hE : wrVE P n = 3 := by unfold wrVE; rw [if_pos he]
    have hV : wrV P n = P := by unfold wrV; rw [if_neg (by rw [hE]; omega)]
    refine tt (decide_eq_true he) ?_
    have := hk w P.C (Mod.refl _ _) (by rw [hV]; exact hgro) (by rw [hV]) rfl
    rw [hE] at this; exact this
  refine ff (decide_eq_false he) ⟨_, rfl, _, h.lm, _, h.lookM n, ?_⟩
  cases ho : onOf P n with
  | none =>
    have hE : wrVE P n = 20 := by unfold wrVE; rw [if_neg he, ho]; rfl
    have hV : wrV P n = P := by unfold wrV; rw [if_neg (by rw [hE]; omega)]
    refine tt rfl ?_
    have := hk w P.C (Mod.refl _ _) (by rw [hV]; exact hgro) (by rw [hV]) rfl
    rw [hE] at this; exact this
  | some o =>
    obtain ⟨hom, hob⟩ := onOf_some ho
    refine ff rfl (pImage_c hP0 (fun he' => absurd he' he) fun b hb hlt w1 w2 g cc C' m1 m2 h2 eD eM hg hat => ⟨_, _, _, _, rfl, ?_⟩)
    subst hb
    have hE : wrVE P (b : Int) = 0 := by unfold wrVE; rw [if_neg he, ho]; rfl
    have hV : wrV P (b : Int) = ⟨{ P.C with D := wrSt P.C.D b (imgB P b) }, P.last, mapX P (markF P b)⟩ := by unfold wrV; rw [if_pos hE, Int.toNat_natCast]
    have hnot := hP0.notin (w1 := w1) m1.size hg
    obtain ⟨hw2, rl2, c2, mo2, mm2, ca2, oa2, Lo2, Lm2, h2⟩ := h2
    have hcw := h2.cx.wf
    have hlt' : b < C'.D.vs.length := by rw [eD]; exact hlt
    obtain ⟨C2, hask⟩ := ask_some hcw.1 h2.wf.full hlt'
    obtain ⟨l0, y, A⟩ := ask_facts hcw.1 hcw.2.1 hlt' hask
    have hil : (imgB P b).length = 256 := by
      have hwf := hP0.wf
      exact img_len hwf.2.1 hwf.2.2.2.1 hlt
    have hwf2 := WFP.ask hw2 h2.wf hcw.1 A
    have hrun : C2.D.left = -1 := hwf2.run
    have hwr := wr_is (D := C2.D) (b := b) (ys := imgB P b) (by rw [A.D]; exact hlt') hil hrun
    have hwX : wrX C' b (imgB P b) = ({ C2 with D := wrSt C2.D b (imgB P b) }, 0) := by
      unfold wrX
      have he2 : errOf C'.D (b : Int) = 0 := by rw [eD]; exact Classical.not_not.1 he
      rw [if_neg (by rw [he2]; simp), if_neg (by omega), Int.toNat_natCast, hask]
      simp only
      rw [if_neg (by omega), hwr.1]
    refine Share.cut (fun x w4 => x = [.int .i64 0] ∧ Mod (fun z => rl2 z = 1) w2 w4 ∧ Cx w0 (Gro (fun z => rl2 z = 1) w2 w4) w4 c2 d { C2 with D := wrSt C2.D b (imgB P b) }) (tt rfl ⟨_, rfl, _, h2.lc, ?_⟩) ?_
    · refine cWrite_c (ys := imgB P b) h2.cx (by show ∀ v ∈ C'.D.vs, _; rw [eD]; exact hb9) hil (.inr ⟨_, _, rfl, hat.at⟩) (fun _ q hq e => ?_) fun w4 m4 x4 => ⟨_, rfl, ?_⟩
      · have : q.block = g := by cases hq; rfl
        have e1 : rl2 q.block = 1 := e
        rw [this] at e1
        exact hnot (h2.reg g (by omega))
      · have x4' : Cx w0 (Gro (fun z => rl2 z = 1) w2 w4) w4 c2 d (wrX C' b (imgB P b)).1 := x4
        rw [hwX] at x4'
        show _ ∧ _
        have e0 : (wrX C' (b : Int) (imgB P b)).2 = 0 := by rw [hwX]
        show [Value.int .i64 (wrX C' (b : Int) (imgB P b)).2] = _ ∧ _
        rw [e0]
        exact ⟨rfl, m4, x4'⟩
    · rintro x w4 ⟨rfl, m4, x4⟩
      have h4 := h2.cache (w' := w4) m4 (Mod.refl _ _) x4 (by show (wrSt C2.D b (imgB P b)).vs.length = C'.D.vs.length; rw [len_wr, A.D]) (by show C2.most = C'.most; exact A.most)
      obtain ⟨rl4, h4, hr4⟩ := h4
      have ho4 : onOf (⟨{ C2 with D := wrSt C2.D b (imgB P b) }, P.last, P.ons⟩ : Ps) b = some o := ho
      have hlk4 := h4.lookM (b : Int)
      have hlk4' : Ru (Instr.lookup 155 (.map (some mm2)) (.int .i64 b) false) w4 (.pointer (some ⟨oa2 o.b, 0, none⟩)) w4 := by
        have e : onOf ({ ({ P with C := C' } : Ps) with C := { C2 with D := wrSt C2.D b (imgB P b) } } : Ps) b = some o := ho
        rw [e] at hlk4; exact hlk4
      refine ⟨_, rfl, ff rfl ⟨_, rfl, _, h4.lm, _, hlk4', may11_c h4 hom fun w5 m m5 hm hmp => ⟨_, rfl, ?_⟩⟩⟩
      have h5 := h4.nos m5
      obtain ⟨la, lc, l1, l2, l3, l4⟩ := (h5.ons o hom).2.2.ldL
      refine ⟨_, rfl, _, h5.lm, _, ?_, _, rfl, la, _, lc, l1, ?_⟩
      · have := h5.lookM (b : Int)
        have e : onOf ({ ({ P with C := C' } : Ps) with C := { C2 with D := wrSt C2.D b (imgB P b) } } : Ps) b = some o := ho
        rw [e] at this; exact this
      refine mark_c (b := b) h5 hom ho hmp (fun e => ?_) l2 l3 l4 fun w6 m6 h6 => ?_
      · have := h4.lo m e
        omega
      have hz1 := m1.size
      have hz2 := m2.size
      have hz4 := m4.size
      have hz5 := m5.size
      have hz6 := m6.size
      have hw0 := hP0.wf.2.2.2.2.1.size
      have hreg2 : ∀ z, rl2 z = 1 → Gro R w w1 z := fun z hz => h2.reg z (by omega)
      have hR5 : ∀ z, Gro (Gro R w w1) w2 w4 z → Gro R w w6 z := fun z hz => by
        rcases hz with (hz | hz) | hz
        · exact .inl hz
        · exact .inr (by omega)
        · exact .inr (by omega)
      have hM : Mod R w w6 := by
        have k1 : Mod R w w2 := m1.no m2
        have k2 : Mod R w w4 := k1.trans m4 fun z hz e => by
          rcases hreg2 z e with e | e
          · exact e
          · omega
        have k3 : Mod R w w5 := k2.no m5
        exact k3.trans m6 fun z hz e => by
          rcases e with (e | e) | e
          · exact e
          · omega
          · omega
      have eD2 : C2.D = P.C.D := by rw [A.D]; exact eD
      have eM2 : C2.most = P.C.most := by rw [A.most]; exact eM
      have hwfS : WFS ⟨C2, P.last, P.ons⟩ := WFS.cache hP0.wf.2.1 (by rw [eD2]) eM2
      have hf := WFP.mark (P := ⟨C2, P.last, P.ons⟩) hwf2 hwfS (by show WF C2.D; rw [eD2]; exact hP0.wf.2.2.2.1) ho
      rw [imgB_C eD2] at hf
      have := hk w6 { C2 with D := wrSt C2.D b (imgB P b) } hM ?_ ?_ ?_
      · rw [hE] at this; exact this
      · rw [hV]
        refine ⟨hf, rl4, c2, mo2, mm2, ca2, oa2, Lo2, Lm2, h6.widen (fun z hz => ?_) fun z hz => ?_⟩
        · rcases hz with hz | hz
          · exact hR5 z hz
          · exact .inr (by omega)
        · rcases hz with hz | hz
          · have := hP0.lo z hz; omega
          · omega
      · rw [hV]
        show wrSt C2.D b (imgB P b) = wrSt P.C.D b (imgB P b)
        rw [eD2]
      · exact eM2
end
end Go.Proofs.YtocjjigmpgekfaaGreat

/- Layer 11, the program's store in memory: a block that gets changes, a number, a change. -/
open Go Go.Den Go.Proofs
namespace Go.Proofs.YtocjjigmpgekfaaGreat
theorem build_on (w : World) (a : Option Addr) (l cc : Nat) : (Instr.build 180 #[(0, .slice a l cc)]).run Tryz.prog w = .ok (.agg ⟨[.slice a l cc, .slice none 0 0]⟩) w := by kernel_rfl
theorem box_on (w : World) (cs : List Value) : (Instr.box 180 (.agg ⟨cs⟩)).run Tryz.prog w = .ok (.pointer (some ⟨w.heap.size, 0, none⟩)) (w.alloc (.cells ⟨cs⟩ 180)) := rfl
theorem build_ch (w : World) (i b f : Int) (a : Option Addr) (l cc : Nat) : (Instr.build 183 #[(0, .int .i64 i), (1, .int .i64 b), (2, .int .i64 f), (3, .slice a l cc)]).run Tryz.prog w = .ok (.agg ⟨[.int .i64 i, .int .i64 b, .int .i64 f, .slice a l cc, .slice none 0 0, .bool false]⟩) w := by kernel_rfl
theorem box_ch (w : World) (cs : List Value) : (Instr.box 183 (.agg ⟨cs⟩)).run Tryz.prog w = .ok (.pointer (some ⟨w.heap.size, 0, none⟩)) (w.alloc (.cells ⟨cs⟩ 183)) := rfl
theorem builtI64 (w : World) (v : Int) : (Instr.buildSlice 37 1 #[(0, .int .i64 v)]).run Tryz.prog w = .ok (.slice (some ⟨w.heap.size, 0, none⟩) 1 1) (w.alloc (.cells ⟨[.int .i64 v]⟩ 2)) := by kernel_rfl
theorem builtCh (w : World) (p : Option Addr) : (Instr.buildSlice 178 1 #[(0, .pointer p)]).run Tryz.prog w = .ok (.slice (some ⟨w.heap.size, 0, none⟩) 1 1) (w.alloc (.cells ⟨[.pointer p]⟩ 181)) := by kernel_rfl
section
variable {w0 w w' : World} {R R' : Nat → Prop} {rl : Nat → Nat} {sp c d mo mm : Nat} {ca oa : Nat → Nat} {Lo Lm : List (Int × Value)} {P V : Ps} {K : Value → World → Prop}
/-- Bytes of one's own that stay. -/
theorem PIn.take (h : PIn w0 R rl w sp c d mo mm ca oa Lo Lm P) {g : Nat} (hg : rl g = 0) (h0 : w0.heap.size ≤ g) (h1 : g < w.heap.size) : PIn w0 (fun x => R x ∨ x = g) (ro rl g 5) w sp c d mo mm ca oa Lo Lm P := by
  have hs : ∀ z, rl z ≠ 0 → ro rl g 5 z = rl z := fun z hz => ro_ne _ fun e => hz (by rw [e]; exact hg)
  exact {
    cx := by
      have e : (fun x => ro rl g 5 x = 1) = fun x => rl x = 1 := by
        funext x
        apply propext
        by_cases e : x = g
        · subst e; rw [ro_same, hg]; omega
        · rw [ro_ne _ e]
      rw [e]; exact h.cx
    cell := h.cell
    mapO := h.mapO
    mapM := h.mapM
    rsp := by rw [hs _ (by rw [h.rsp]; omega)]; exact h.rsp
    rmo := by rw [hs _ (by rw [h.rmo]; omega)]; exact h.rmo
    rmm := by rw [hs _ (by rw [h.rmm]; omega)]; exact h.rmm
    chs := fun x hx => by
      obtain ⟨h1, h2, h3⟩ := h.chs x hx
      exact ⟨h1, by rw [hs _ (by omega)]; exact h2, h3.role fun z hz => by rw [hs z (by omega)]; exact hz⟩
    ons := fun o ho => by
      obtain ⟨h1, h2, h3⟩ := h.ons o ho
      exact ⟨h1, by rw [hs _ (by omega)]; exact h2, h3.role hs fun _ _ => rfl⟩
    keysO := h.keysO
    keysM := h.keysM
    wf := h.wf
    reg := fun x hx => by
      by_cases e : x = g
      · exact .inr e
      · rw [ro_ne _ e] at hx; exact .inl (h.reg x hx)
    lo := fun x hx => by
      rcases hx with hx | rfl
      · exact h.lo x hx
      · exact ⟨h0, h1⟩
    mod := h.mod }
theorem PIn.newOn (h : PIn w0 R rl w sp c d mo mm ca oa Lo Lm P) {b g cc : Nat} (hno : onOf P b = none) (hb : b < P.C.D.vs.length) (hl : (contV P b).length = 256) (hg : rl g = 5) (hat : At w g 0 (u8L (contV P b))) :
    ∃ w7, RuU (Instr.mapUpdate 155 (.map (some mm)) (.int .i64 b) (.pointer (some ⟨w.heap.size, 0, none⟩))) (w.alloc (.cells ⟨[.slice (some ⟨g, 0, none⟩) 256 cc, .slice none 0 0]⟩ 180)) w7 ∧
      PIn w0 (Gro R w w7) (ro rl w.heap.size (8 + 3 * b)) w7 sp c d mo mm ca (fun k => if k = b then w.heap.size else oa k) Lo (putL b (pV w.heap.size) Lm) (newO P b) ∧ Mod (fun z => z = mm) w w7 := by
  have m1 : Mod No w (w.alloc (.cells ⟨[.slice (some ⟨g, 0, none⟩) 256 cc, .slice none 0 0]⟩ 180)) := (Mod.refl No w).alloc _
  have a1 : AtU (w.alloc (.cells ⟨[.slice (some ⟨g, 0, none⟩) 256 cc, .slice none 0 0]⟩ 180)) w.heap.size 0 [.slice (some ⟨g, 0, none⟩) 256 cc, .slice none 0 0] := AtU.new
  have s1 : (w.alloc (.cells ⟨[.slice (some ⟨g, 0, none⟩) 256 cc, .slice none 0 0]⟩ 180)).heap.size = w.heap.size + 1 := by simp
  generalize w.alloc (.cells ⟨[.slice (some ⟨g, 0, none⟩) 256 cc, .slice none 0 0]⟩ 180) = w1 at *
  have h1 := h.nos m1
  have hz := h.out_of (x := w.heap.size) (Nat.le_refl _)
  obtain ⟨w7, u1, u2, u3, u4⟩ := update_run (P := Tryz.prog) (T := 155) (k := (b : Int)) (v := .pointer (some ⟨w.heap.size, 0, none⟩)) mapOns h1.mapM
  have M7 : Mod (fun z => z = mm) w w7 := m1.anys.trans u3 fun _ _ e => e
  refine ⟨w7, u1, ?_, M7⟩
  have hne : ∀ {z}, rl z ≠ 4 → z ≠ mm := fun hz e => hz (by rw [e]; exact h.rmm)
  have hq : w.heap.size ≠ mm := hne (by rw [hz]; omega)
  have hno' := onOf_none hno
  have hnO : newO P b = { P with ons := P.ons ++ [⟨b, contV P b, []⟩] } := by unfold newO; rw [hno]
  have hx : Ext w w7 rl (ro rl w.heap.size (8 + 3 * b)) := (Ext.refl _ _ _).ro (.inr ⟨Nat.le_refl _, by omega, hz⟩) (by omega) (by omega)
  obtain ⟨eC, eL⟩ := newO_C (V := P) (b := b)
  refine h.step (P' := newO P b) (Lo' := Lo) (Lm' := putL b (pV w.heap.size) Lm) (ca' := ca) eC M7 hx (fun z e => ?_) (fun z _ e => by rw [show z = mm from e, h.rmm]; omega) ?_ (h.mapO.keep M7 (hne (by rw [h.rmo]; omega))) u2 ?_ ?_ ?_ ?_ (h.wf.newO hb hl)
  · by_cases e1 : z = w.heap.size
    · subst e1; rw [ro_same] at e; omega
    · rw [ro_ne _ e1] at e; exact e
  · rw [eL]; exact h.cell.keep M7 (hne (by rw [h.rsp]; omega))
  · intro x hx
    rw [all_newO] at hx
    exact .inl ⟨hx, rfl, rfl, fun q e hq => by rw [show q = mm from e, h.rmm] at hq; omega⟩
  · intro o ho
    rw [hnO] at ho
    rcases List.mem_append.1 ho with ho | ho
    · left
      have := hno' o ho
      refine ⟨ho, ?_, ?_, fun _ _ => rfl, fun q e => by rw [show q = mm from e, h.rmm]; omega⟩
      · rw [look_put, if_neg (by omega)]
      · exact if_neg (by omega)
    · simp only [List.mem_singleton] at ho
      subst ho
      right
      refine ⟨by rw [look_put, if_pos rfl]; simp, by simp [ro_same], ?_⟩
      refine ⟨g, cc, none, 0, ?_, ?_, ?_, Own.nil elemZ_chs, fun q hq => by cases hq⟩
      · have := a1.keep u3 hq
        simpa using this
      · exact (hat.keep m1 id).keep u3 (hne (by rw [hg]; omega))
      · rw [ro_ne _ (fun e => by rw [e, hz] at hg; omega)]; exact hg
  · intro p hp
    obtain ⟨x, hx, e⟩ := h.keysO p hp
    exact ⟨x, by rw [all_newO]; exact hx, e⟩
  · intro p hp
    rcases put_keys p hp with e | hp
    · exact ⟨⟨b, contV P b, []⟩, by rw [hnO]; simp, e⟩
    · obtain ⟨o, ho, e⟩ := h.keysM p hp
      exact ⟨o, by rw [hnO]; exact List.mem_append.2 (.inl ho), e⟩
theorem PIn.bump (h : PIn w0 R rl w sp c d mo mm ca oa Lo Lm P) (hl : P.last + 1 ≤ 1000000) : ∃ w', RuU (Instr.storeAt 2 (.pointer (some (Addr.add ⟨sp, 0, none⟩ 2))) (.int .i64 ((P.last + 1 : Nat) : Int))) w w' ∧
    PIn w0 (Gro R w w') rl w' sp c d mo mm ca oa Lo Lm { P with last := P.last + 1 } ∧ Mod (fun z => z = sp) w w' := by
  obtain ⟨w', u1, u2, u3, u4⟩ := h.cell.store (P := Tryz.prog) (T := 2) (i := 2) (v := .int .i64 ((P.last + 1 : Nat) : Int)) (by kernel_rfl) (by simp) rfl
  have hne : ∀ {z}, rl z ≠ 2 → z ≠ sp := fun hz e => hz (by rw [e]; exact h.rsp)
  refine ⟨w', by rw [add_none]; exact u1, ?_, u3⟩
  refine h.step (P' := { P with last := P.last + 1 }) rfl u3 (Ext.refl _ _ _) (fun _ e => e) (fun z _ e => by rw [show z = sp from e, h.rsp]; omega) (by simpa using u2) (h.mapO.keep u3 (hne (by rw [h.rmo]; omega))) (h.mapM.keep u3 (hne (by rw [h.rmm]; omega))) ?_ ?_ h.keysO h.keysM (h.wf.bump hl)
  · intro x hx
    exact .inl ⟨hx, rfl, rfl, fun q e hq => by rw [show q = sp from e, h.rsp] at hq; omega⟩
  · intro o ho
    exact .inl ⟨ho, rfl, rfl, fun _ _ => rfl, fun q e => by rw [show q = sp from e, h.rsp]; omega⟩
/-- A new change in memory. -/
theorem PIn.appX {S : Nat → Prop} {x : Ch} {o : On} {q gd cd g cc : Nat} {aa la' : Option Addr} {ac lc' : Nat} (h : PIn w0 R rl w sp c d mo mm ca oa Lo Lm P) (ho : o ∈ P.ons) (hob : o.b = x.b) (hid : P.last = x.id) (hnew : ∀ y ∈ P.all, y.id ≠ x.id) (hwf : WFS (appO P x))
    (k : Mod S w w') (hS : ∀ z, S z → z = mo ∨ z = oa x.b ∨ rl z = 9 + 3 * x.b) (hmO : MapAt w' mo (putL x.id (pV q) Lo))
    (hq : w.heap.size ≤ q ∧ q < w'.heap.size) (hgd : w.heap.size ≤ gd ∧ gd < w'.heap.size) (haa : ∀ a, aa = some a → w.heap.size ≤ a.block ∧ a.block < w'.heap.size ∧ a.block ≠ q ∧ a.block ≠ gd) (hqg : q ≠ gd)
    (hla : ∀ a, la' = some a → rl a.block = 9 + 3 * x.b ∨ (w.heap.size ≤ a.block ∧ a.block < w'.heap.size ∧ a.block ≠ q ∧ a.block ≠ gd ∧ ∀ e, aa = some e → a.block ≠ e.block))
    (c1 : AtU w' q 0 [.int .i64 x.id, .int .i64 x.b, .int .i64 x.frm, .slice (some ⟨gd, 0, none⟩) x.data.length cd, .slice aa x.after.length ac, .bool x.out]) (c2 : At w' gd 0 (u8L x.data)) (c3 : Row w' aa (iL x.after))
    (c4 : AtU w' (oa x.b) 0 [.slice (some ⟨g, 0, none⟩) 256 cc, .slice la' (o.l.length + 1) lc']) (hg : rl g = 5) (c5 : At w' g 0 (u8L o.base)) (c6 : Own Tryz.prog w' w0.heap.size 178 1 la' (o.l.length + 1) lc' (pL (o.l.map fun y => ca y.id) ++ [pV q])) :
    ∃ rl' ca', PIn w0 (Gro R w w') rl' w' sp c d mo mm ca' oa (putL x.id (pV q) Lo) Lm (appO P x) := by
  classical
  have hbig : ∀ {z}, w.heap.size ≤ z → rl z = 0 := fun hz => h.out_of hz
  have hon := h.ons o ho
  rw [hob] at hon
  have hrS : ∀ {z}, S z → rl z = 3 ∨ rl z = 8 + 3 * x.b ∨ rl z = 9 + 3 * x.b := fun {z} e => by
    rcases hS z e with e | e | e
    · left; rw [e]; exact h.rmo
    · right; left; rw [e]; exact hon.2.1
    · exact .inr (.inr e)
  -- the roles
  have hx1 : Ext w w' rl (ro rl gd 5) := (Ext.refl _ _ _).ro (.inr ⟨hgd.1, hgd.2, hbig hgd.1⟩) (by omega) (by omega)
  have e1 : ro rl gd 5 q = 0 := by rw [ro_ne _ hqg]; exact hbig hq.1
  have hx2 : Ext w w' rl (ro (ro rl gd 5) q (10 + 3 * x.id)) := hx1.ro (.inr ⟨hq.1, hq.2, e1⟩) (by omega) (by omega)
  have hx3 : ∃ r3, Ext w w' rl r3 ∧ r3 gd = 5 ∧ r3 q = 10 + 3 * x.id ∧ (∀ e, aa = some e → r3 e.block = 5) ∧ ∀ z, r3 z ≠ rl z → z = gd ∨ z = q ∨ ∃ e, aa = some e ∧ z = e.block := by
    cases haa' : aa with
    | none =>
      refine ⟨_, hx2, by rw [ro_ne _ (Ne.symm hqg), ro_same], ro_same _ _ _, (fun e he => by cases he), fun z hz => ?_⟩
      by_cases a1 : z = q
      · exact .inr (.inl a1)
      · by_cases a2 : z = gd
        · exact .inl a2
        · rw [ro_ne _ a1, ro_ne _ a2] at hz; exact absurd rfl hz
    | some a =>
      obtain ⟨b1, b2, b3, b4⟩ := haa a haa'
      have e2 : ro (ro rl gd 5) q (10 + 3 * x.id) a.block = 0 := by rw [ro_ne _ b3, ro_ne _ b4]; exact hbig b1
      refine ⟨ro (ro (ro rl gd 5) q (10 + 3 * x.id)) a.block 5, hx2.ro (.inr ⟨b1, b2, e2⟩) (by omega) (by omega), ?_, ?_, ?_, fun z hz => ?_⟩
      · rw [ro_ne _ (Ne.symm b4), ro_ne _ (Ne.symm hqg), ro_same]
      · rw [ro_ne _ (Ne.symm b3), ro_same]
      · intro e he; cases he; exact ro_same _ _ _
      · by_cases a0 : z = a.block
        · exact .inr (.inr ⟨a, rfl, a0⟩)
        · by_cases a1 : z = q
          · exact .inr (.inl a1)
          · by_cases a2 : z = gd
            · exact .inl a2
            · rw [ro_ne _ a0, ro_ne _ a1, ro_ne _ a2] at hz; exact absurd rfl hz
  obtain ⟨r3, x3, r3g, r3q, r3a, r3o⟩ := hx3
  have hx4 : ∃ r4, Ext w w' rl r4 ∧ r4 gd = 5 ∧ r4 q = 10 + 3 * x.id ∧ (∀ e, aa = some e → r4 e.block = 5) ∧ (∀ e, la' = some e → r4 e.block = 9 + 3 * x.b) ∧ ∀ z, r4 z = 1 → rl z = 1 := by
    have h31 : ∀ z, r3 z = 1 → rl z = 1 := fun z hz => by
      by_cases e : r3 z = rl z
      · omega
      · rcases r3o z e with rfl | rfl | ⟨a, ha, rfl⟩
        · omega
        · omega
        · have := r3a a ha; omega
    cases hla' : la' with
    | none => exact ⟨r3, x3, r3g, r3q, r3a, (fun e he => by cases he), h31⟩
    | some a =>
      rcases hla a hla' with hr | ⟨b1, b2, b3, b4, b5⟩
      · have : r3 a.block = 9 + 3 * x.b := by rw [x3.old _ (by omega)]; exact hr
        exact ⟨r3, x3, r3g, r3q, r3a, fun e he => by cases he; exact this, h31⟩
      · have e3 : r3 a.block = 0 := by
          by_cases e : r3 a.block = rl a.block
          · rw [e]; exact hbig b1
          · rcases r3o _ e with e | e | ⟨a2, ha2, e⟩
            · exact absurd e b4
            · exact absurd e b3
            · exact absurd e (b5 a2 ha2)
        refine ⟨ro r3 a.block (9 + 3 * x.b), x3.ro (.inr ⟨b1, b2, e3⟩) (by omega) (by omega), ?_, ?_, ?_, ?_, fun z hz => ?_⟩
        · rw [ro_ne _ (Ne.symm b4)]; exact r3g
        · rw [ro_ne _ (Ne.symm b3)]; exact r3q
        · intro e he; rw [ro_ne _ (fun e' => b5 e he e'.symm)]; exact r3a e he
        · intro e he; cases he; exact ro_same _ _ _
        · by_cases a0 : z = a.block
          · rw [a0, ro_same] at hz; omega
          · rw [ro_ne _ a0] at hz; exact h31 z hz
  obtain ⟨rl', x4, r4g, r4q, r4a, r4l, r41⟩ := hx4
  obtain ⟨s, t, d1, d2, d3, d4⟩ := appO_all h.wf ho hob
  refine ⟨rl', fun n => if n = x.id then q else ca n, ?_⟩
  refine h.step (P' := appO P x) rfl k x4 r41 (fun z _ e => by have := hrS e; omega) ?_ hmO (h.mapM.keep k fun e => by have := hrS e; rw [h.rmm] at this; omega) ?_ ?_ ?_ ?_ hwf
  · have : (appO P x).last = P.last := hid.symm
    rw [this]; exact h.cell.keep k fun e => by have := hrS e; rw [h.rsp] at this; omega
  · intro y hy
    rcases List.mem_cons.1 (d4.mem_iff.1 hy) with rfl | hy
    · right
      refine ⟨by rw [look_put, if_pos rfl, if_pos rfl], by rw [if_pos rfl]; exact r4q, ?_⟩
      rw [if_pos rfl]
      exact ⟨gd, cd, aa, ac, c1, c2, r4g, c3, r4a⟩
    · left
      have := hnew y hy
      refine ⟨hy, by rw [look_put, if_neg (by omega)], if_neg this, fun z e e2 => by have := hrS e; omega⟩
  · intro p hp
    have hp' : p ∈ s ++ { o with l := o.l ++ [x] } :: t := by rw [← d2]; exact hp
    have hca : ∀ y ∈ P.all, (if y.id = x.id then q else ca y.id) = ca y.id := fun y hy => if_neg (hnew y hy)
    have hcase : (p ∈ P.ons ∧ p.b ≠ x.b) ∨ p = { o with l := o.l ++ [x] } := by
      simp only [List.mem_append, List.mem_cons] at hp'
      rcases hp' with hp' | hp' | hp'
      · exact .inl ⟨by rw [d1]; simp [hp'], d3 p (by simp [hp'])⟩
      · exact .inr hp'
      · exact .inl ⟨by rw [d1]; simp [hp'], d3 p (by simp [hp'])⟩
    rcases hcase with ⟨hp1, hpb⟩ | rfl
    · left
      exact ⟨hp1, rfl, rfl, fun y hy => hca y (on_all hp1 hy), fun z e => by have := hrS e; omega⟩
    · right
      refine ⟨by show lookupL Lm (o.b : Int) = _; rw [hob]; exact hon.1, by show rl' (oa o.b) = 8 + 3 * o.b; rw [hob, x4.old _ (by rw [hon.2.1]; omega)]; exact hon.2.1, ?_⟩
      refine ⟨g, cc, la', lc', ?_, c5, by rw [x4.old g (by omega)]; exact hg, ?_, ?_⟩
      · show AtU w' (oa o.b) 0 [_, .slice la' (o.l ++ [x]).length lc']
        rw [hob, List.length_append]; exact c4
      · show Own Tryz.prog w' w0.heap.size _ 1 la' (o.l ++ [x]).length lc' (pL ((o.l ++ [x]).map fun y => if y.id = x.id then q else ca y.id))
        have : pL ((o.l ++ [x]).map fun y => if y.id = x.id then q else ca y.id) = pL (o.l.map fun y => ca y.id) ++ [pV q] := by
          rw [List.map_append]
          unfold pL
          rw [List.map_append]
          congr 1
          · congr 1
            exact List.map_congr_left fun y hy => hca y (on_all ho hy)
          · simp
        rw [this, List.length_append]; exact c6
      · show ∀ e, la' = some e → rl' e.block = 9 + 3 * o.b
        rw [hob]; exact r4l
  · intro p hp
    rcases put_keys p hp with e | hp
    · exact ⟨x, d4.mem_iff.2 (by simp), e⟩
    · obtain ⟨y, hy, e⟩ := h.keysO p hp
      exact ⟨y, d4.mem_iff.2 (by simp [hy]), e⟩
  · intro p hp
    obtain ⟨o', ho', e⟩ := h.keysM p hp
    rw [d1] at ho'
    simp only [List.mem_append, List.mem_cons] at ho'
    show ∃ o'' ∈ (appO P x).ons, _
    rw [d2]
    rcases ho' with ho' | rfl | ho'
    · exact ⟨o', by simp [ho'], e⟩
    · exact ⟨{ o' with l := o'.l ++ [x] }, by simp, e⟩
    · exact ⟨o', by simp [ho'], e⟩
theorem tells_given {q : Nat} {xs : List Int} (h : PIn w0 R rl w sp c d mo mm ca oa Lo Lm P) (hq : At w q 0 [.pointer (some ⟨sp, 0, none⟩)]) :
    Tells (.func (.func F_patch_Store_Patch_1) #[] #[.pointer (some ⟨q, 0, none⟩)]) w No (fun k => !decide (1 ≤ k ∧ k ≤ (P.last : Int))) xs := by
  intro w' k x _ K hK
  refine ⟨_, _, _, rfl, ?_⟩
  show Cal Tryz.prog F_patch_Store_Patch_1 #[.int .i64 x, .pointer (some ⟨q, 0, none⟩)] w' K
  apply C_patch_Store_Patch_1
  exact ⟨_, (hq.keep k id).load (i := 0) (by kernel_rfl) rfl, given_c (h.nos k) ⟨_, rfl, hK _ (Mod.refl _ _)⟩⟩
end
end Go.Proofs.YtocjjigmpgekfaaGreat

/- Layer 11, the program's store: a change. -/
open Go Go.Den Go.Proofs
namespace Go.Proofs.YtocjjigmpgekfaaGreat
theorem Row.keep2 {w w' : World} {S : Nat → Prop} {a : Option Addr} {xs : List Value} (h : Row w a xs) (m : Mod S w w') (hs : ∀ q, a = some q → q.block < w.heap.size → ¬ S q.block) : Row w' a xs := by
  rcases h with h | ⟨b, o, e, hat⟩
  · exact .inl h
  · exact .inr ⟨b, o, e, hat.keep m (hs _ e hat.lt)⟩
theorem turn_iff {l : List Bf} {z y : Bf} (h : y.b ≠ z.b) : y ∈ turn l z ↔ y ∈ l := by
  constructor
  · intro hy
    rcases mem_turn hy with rfl | ⟨hy, _⟩
    · exact absurd rfl h
    · exact hy
  · intro hy; exact turn_other hy h
theorem lay_facts {C : Ca} {b : Nat} {y : Bf} {ys : Bk} (h : WFC C) (hD : WF C.D) (hy : y ∈ C.l) (hb : y.b = b) (hl : ys.length = 256) :
    ∃ C', layX C b ys = (C', 0) ∧ C'.D = C.D ∧ C'.most = C.most ∧ (∀ z, z.b ≠ b → (z ∈ C'.l ↔ z ∈ C.l)) ∧ ∃ z ∈ C'.l, z.b = b ∧ z.pins = y.pins ∧ z.data = ys := by
  have hlt : b < C.D.vs.length := by rw [← hb]; exact h.lt y hy
  have hf : findB C.l b = some y := by rw [← hb]; exact findB_mem h.nodup hy
  have ha : askC C b = some { C with l := others C.l b ++ [y] } := by unfold askC; rw [hf]
  have he : errOf C.D (b : Int) = 0 := (rd_at C.D hlt).1
  refine ⟨{ C with l := turn (others C.l b ++ [y]) ⟨b, ys, pinsOf (others C.l b ++ [y]) b⟩ }, ?_, rfl, rfl, fun z hz => ?_, ⟨b, ys, pinsOf (others C.l b ++ [y]) b⟩, turn_mem ⟨y, by simp, hb⟩, rfl, ?_, rfl⟩
  · unfold layX
    rw [if_neg (by rw [he]; simp), if_neg (by omega), Int.toNat_natCast, ha]
  · show z ∈ turn _ _ ↔ _
    rw [turn_iff (by exact hz), List.mem_append, mem_others]
    constructor
    · rintro (hz1 | hz1)
      · exact hz1.1
      · simp at hz1; subst hz1; exact hy
    · intro hz1; exact .inl ⟨hz1, hz⟩
  · show pinsOf (others C.l b ++ [y]) b = y.pins
    have hn : ((others C.l b ++ [y]).map (·.b)).Nodup := snoc_nodup (others_nodup h.nodup _) fun z hz => by rw [hb]; exact (mem_others.1 hz).2
    have := pinsOf_mem hn (x := y) (by simp)
    rw [hb] at this; exact this
theorem pin_facts {C : Ca} {b : Nat} {y : Bf} (h : WFC C) (hy : y ∈ C.l) (hb : y.b = b) :
    ∃ C', pinX C b = (C', 0) ∧ C'.D = C.D ∧ C'.most = C.most ∧ (∀ z, z.b ≠ b → (z ∈ C'.l ↔ z ∈ C.l)) ∧ ∃ z ∈ C'.l, z.b = b ∧ z.pins = y.pins + 1 ∧ z.data = y.data := by
  have hf : findB C.l b = some y := by rw [← hb]; exact findB_mem h.nodup hy
  have hh : heldC C b = some y := by unfold heldC; rw [if_neg (by omega), Int.toNat_natCast, hf]
  refine ⟨{ C with l := turn C.l { y with pins := y.pins + 1 } }, by unfold pinX; rw [hh], rfl, rfl, fun z hz => turn_iff (by show z.b ≠ y.b; rw [hb]; exact hz), { y with pins := y.pins + 1 }, turn_mem ⟨y, hy, rfl⟩, hb, rfl, rfl⟩
theorem WFP.pins {P : Ps} (h : WFP P) (hs : WFS P) (hc : WFC P.C) : ∀ x ∈ P.C.l, x.pins ≤ 1 := by
  intro x hx
  by_cases ho : ∃ o ∈ P.ons, o.b = x.b
  · obtain ⟨o, ho, e⟩ := ho
    obtain ⟨y, hy, e1, e2, _⟩ := h.pin o ho
    have : y = x := map_inj hc.nodup hy hx (by omega)
    rw [← this, e2]; omega
  · rw [(h.unp x hx fun o ho' e => ho ⟨o, ho', e⟩).1]; omega
theorem newO_ons {P : Ps} {C : Ca} (e : C.D = P.C.D) (b : Nat) : (newO (⟨C, P.last, P.ons⟩ : Ps) b).ons = (newO P b).ons := by
  have hc := contV_C (V := P) (C := C) e b
  cases ho : onOf P b with
  | some o =>
    have ho' : onOf (⟨C, P.last, P.ons⟩ : Ps) b = some o := ho
    unfold newO; rw [ho, ho']
  | none =>
    have ho' : onOf (⟨C, P.last, P.ons⟩ : Ps) b = none := ho
    unfold newO; rw [ho, ho']
    show P.ons ++ [_] = P.ons ++ [_]
    rw [hc]
/-- The state when a block's changes are found or made. -/
def Jn (w0 : World) (R : Nat → Prop) (w : World) (sp c d mo mm : Nat) (ca : Nat → Nat) (Lo : List (Int × Value)) (P1 : Ps) (b g : Nat) (x : List Value) (w9 : World) : Prop :=
  ∃ R9 rl9 C9 oa9 Lm9, PIn w0 R9 rl9 w9 sp c d mo mm ca oa9 Lo Lm9 { newO P1 b with C := C9 } ∧ (∀ z, R9 z → Gro R w w9 z) ∧ Mod R w w9 ∧ At w9 w.heap.size 0 [.pointer (some ⟨sp, 0, none⟩)] ∧ ¬ R9 w.heap.size ∧
    At w9 g 0 (u8L (contV P1 b)) ∧ C9.D = P1.C.D ∧ C9.most = P1.C.most ∧ (∀ z, z.b ≠ b → (z ∈ C9.l ↔ z ∈ P1.C.l)) ∧ (∃ y ∈ C9.l, y.b = b ∧ y.pins = 1 ∧ y.data = contV P1 b) ∧ x = [.pointer (some ⟨oa9 b, 0, none⟩)]
section
variable {w0 w w' : World} {R R' : Nat → Prop} {rl : Nat → Nat} {sp c d mo mm : Nat} {ca oa : Nat → Nat} {Lo Lm : List (Int × Value)} {P V : Ps} {K : Value → World → Prop}
/-- A block without changes gets its place. -/
theorem new_c {w3 : World} {b g cc q5 : Nat} {kk : List Value → World → Prop} {P1 : Ps} {R3 : Nat → Prop} {rl3 : Nat → Nat}
    (hM : Mod R w w3) (hG : ∀ z, R3 z → Gro R w w3 z) (hlo : ∀ x, R x → w0.heap.size ≤ x ∧ x < w.heap.size) (h3 : PIn w0 R3 rl3 w3 sp c d mo mm ca oa Lo Lm P1) (hq5 : At w3 q5 0 [.pointer (some ⟨sp, 0, none⟩)]) (hqn : ¬ R3 q5) (hqe : q5 = w.heap.size)
    (hat : At w3 g 0 (u8L (contV P1 b))) (hl : (contV P1 b).length = 256) (hgn : ¬ R3 g) (hg0 : w0.heap.size ≤ g) (hgw : w.heap.size < g) (hb : b < P1.C.D.vs.length) (hno : onOf P1 b = none) (hw1 : WFP P1) (hy : ∃ y ∈ P1.C.l, y.b = b)
    (hk : ∀ x w9, Jn w0 R w sp c d mo mm ca Lo P1 b g x w9 → kk x w9) :
    ∃ g78 : Array Value, Al (Instr.build 180 #[(0, .slice (some ⟨g, 0, none⟩) 256 cc)]) (.agg g78) ∧ ∃ q79 : Addr, ∃ w6 : World, Ru (Instr.box 180 (.agg g78)) w3 (.pointer (some q79)) w6 ∧ ∃ p80 : Option Addr, Ru (Instr.loadAt 30 (.pointer (some ⟨q5, 0, none⟩))) w6 (.pointer p80) w6 ∧ ∃ q81 : Addr, (.pointer p80 : Value) = .pointer (some q81) ∧ ∃ m83 : Option Nat, Ru (Instr.loadAt 155 (.pointer (some (Addr.add q81 4)))) w6 (.map m83) w6 ∧ ∃ w7 : World, RuU (Instr.mapUpdate 155 (.map m83) (.int .i64 b) (.pointer (some q79))) w6 w7 ∧ ∃ p86 : Option Addr, Ru (Instr.loadAt 30 (.pointer (some ⟨q5, 0, none⟩))) w7 (.pointer p86) w7 ∧ ∃ q87 : Addr, (.pointer p86 : Value) = .pointer (some q87) ∧ ∃ p89 : Option Addr, Ru (Instr.loadAt 151 (.pointer (some (Addr.add q87 0)))) w7 (.pointer p89) w7 ∧ Cal Tryz.prog F_cache_Cache_Pin #[.pointer p89, .int .i64 b] w7 fun r91 w8 => ∃ n91 : Int, r91 = .int .i64 n91 ∧ kk [.pointer (some q79)] w8 := by
  subst hqe
  have hz0 : rl3 g = 0 := by
    by_cases e : rl3 g = 0
    · exact e
    · exact absurd (h3.reg g e) hgn
  have hq0 : rl3 w.heap.size = 0 := by
    by_cases e : rl3 w.heap.size = 0
    · exact e
    · exact absurd (h3.reg _ e) hqn
  have ht := h3.take hz0 hg0 hat.lt
  have hrg : ro rl3 g 5 g = 5 := ro_same _ _ _
  obtain ⟨w5, u1, h5, M5⟩ := ht.newOn (cc := cc) hno hb hl hrg hat
  have m4 : Mod No w3 (w3.alloc (.cells ⟨[.slice (some ⟨g, 0, none⟩) 256 cc, .slice none 0 0]⟩ 180)) := (Mod.refl No w3).alloc _
  have h4 := ht.nos m4
  refine ⟨_, fun w => build_on w _ _ _, _, _, box_on _ _, _, (hq5.keep m4 id).load (i := 0) (by kernel_rfl) rfl, _, rfl, _, h4.lm, w5, u1, ?_⟩
  have hqmm : w.heap.size ≠ mm := fun e => by have := h3.rmm; rw [← e, hq0] at this; omega
  have hq5' := hq5.keep M5 hqmm
  refine ⟨_, hq5'.load (i := 0) (by kernel_rfl) rfl, _, rfl, _, h5.lc, ?_⟩
  obtain ⟨y, hyl, hyb⟩ := hy
  have hc1 := h3.cx.wf.1
  obtain ⟨eC, eL⟩ := newO_C (V := P1) (b := b)
  obtain ⟨C9, p1, p2, p3, p4, z, z1, z2, z3, z4⟩ := pin_facts hc1 hyl hyb
  have hpins : ∀ x ∈ P1.C.l, x.pins ≤ 1 := hw1.pins h3.wf hc1
  refine cPin_c (n := (b : Int)) h5.cx (by rw [eC]; exact fun x hx => Nat.le_trans (hpins x hx) (by omega)) fun w6 m6 x6 => ⟨_, rfl, ?_⟩
  have x6 : Cx w0 (Gro (fun x => ro (ro rl3 g 5) w3.heap.size (8 + 3 * b) x = 1) w5 w6) w6 c d (pinX P1.C b).1 := by rw [← eC]; exact x6
  rw [p1] at x6
  obtain ⟨rl6, h6, hr6⟩ := h5.cache m6 (Mod.refl _ _) x6 (by show C9.D.vs.length = _; rw [p2, eC]) (by show C9.most = _; rw [p3, eC])
  have hs3 := hM.size
  have hs5 := M5.size
  have hs6 := m6.size
  have hgl := hat.lt
  have hq3 := hq5.lt
  have hsz4 : w3.heap.size < w5.heap.size := (h5.lo _ (h5.reg w3.heap.size (by rw [ro_same]; omega))).2
  refine hk _ _ ⟨_, rl6, C9, _, _, h6, fun x hx => ?_, ?_, ?_, fun hx => ?_, ?_, by rw [p2], by rw [p3], p4, ⟨z, z1, z2, ?_, ?_⟩, ?_⟩
  · rcases hx with ((hx | hx) | hx) | hx
    · rcases hG x hx with hx | hx
      · exact .inl hx
      · exact .inr (by omega)
    · exact .inr (by omega)
    · exact .inr (by omega)
    · exact .inr (by omega)
  · have k1 : Mod R w w5 := hM.trans M5 fun z hz e => by
      have : R3 z := by rw [show z = mm from e]; exact h3.reg mm (by rw [h3.rmm]; omega)
      rcases hG z this with e2 | e2
      · exact e2
      · omega
    refine k1.trans m6 fun z hz e => ?_
    have e : ro (ro rl3 g 5) w3.heap.size (8 + 3 * b) z = 1 := e
    rw [ro_ne _ (by omega), ro_ne _ (by omega)] at e
    rcases hG z (h3.reg z (by omega)) with e2 | e2
    · exact e2
    · omega
  · refine hq5'.keep m6 fun e => ?_
    have e : ro (ro rl3 g 5) w3.heap.size (8 + 3 * b) w.heap.size = 1 := e
    rw [ro_ne _ (by omega), ro_ne _ (by omega)] at e
    omega
  · rcases hx with ((hx | hx) | hx) | hx
    · exact hqn hx
    · omega
    · omega
    · omega
  · refine (hat.keep M5 fun e => by have := h3.rmm; rw [← show g = mm from e, hz0] at this; omega).keep m6 fun e => ?_
    have e : ro (ro rl3 g 5) w3.heap.size (8 + 3 * b) g = 1 := e
    rw [ro_ne _ (by omega), ro_same] at e
    omega
  · have : y.pins = 0 := by
      refine (hw1.unp y hyl fun o ho e => ?_).1
      exact onOf_none hno o ho (by omega)
    rw [z3, this]
  · rw [z4]
    have := cont_view hw1 h3.wf hc1 b
    rw [← this]
    unfold cont
    have hf := findB_mem hc1.nodup hyl
    rw [hyb] at hf
    rw [hf]
  · simp
end
end Go.Proofs.YtocjjigmpgekfaaGreat

/- Layer 11, the program's store: Patch. -/
open Go Go.Den Go.Proofs
namespace Go.Proofs.YtocjjigmpgekfaaGreat
section
variable {w0 w w' : World} {R R' : Nat → Prop} {rl : Nat → Nat} {sp c d mo mm : Nat} {ca oa : Nat → Nat} {Lo Lm : List (Int × Value)} {P V : Ps} {K : Value → World → Prop}
theorem filter_take {l : List Int} {f : Int → Bool} {i : Nat} (hi : i < l.length) : (l.take (i + 1)).filter f = (l.take i).filter f ++ (if f l[i] = true then [l[i]] else []) := by
  rw [List.take_succ_eq_append_getElem hi, List.filter_append]
  congr 1
  by_cases hf : f l[i] = true
  · rw [if_pos hf]; simp [hf]
  · rw [if_neg hf]; simp [hf]
set_option maxRecDepth 100000 in
theorem pPatch_c {n frm : Int} {a3 a4 : Option Addr} {l3 c3 l4 c4 : Nat} {data : Bk} {after : List Int} (hP : Px w0 R w sp d P) (hlast : P.last + 1 ≤ 1000000) (hd : data.length = l3) (hrd : Row w a3 (u8L data)) (hdo : data ≠ [] → ∀ q, a3 = some q → ¬ R q.block) (h63 : l3 ≤ 9223372036854775807)
    (ha : after.length = l4) (ha6 : l4 ≤ 1000000) (hra : Row w a4 (iL after)) (hao : after ≠ [] → ∀ q, a4 = some q → ¬ R q.block)
    (hk : ∀ w' C', Mod R w w' → Px w0 (Gro R w w') w' sp d ⟨C', (patS P n frm data after).last, (patS P n frm data after).ons⟩ → C'.D = P.C.D → C'.most = P.C.most → K (.tuple #[.int .i64 (patN P n frm data after), .int .i64 (patE P n frm data after)]) w') :
    Cal Tryz.prog F_patch_Store_Patch #[.pointer (some ⟨sp, 0, none⟩), .int .i64 n, .int .i64 frm, .slice a3 l3 c3, .slice a4 l4 c4] w K := by
  have hP0 := hP
  obtain ⟨hw, rl, c, mo, mm, ca, oa, Lo, Lm, h⟩ := hP
  apply C_patch_Store_Patch
  unfold D_patch_Store_Patch
  have m1 : Mod No w (w.alloc (.cells ⟨[.pointer (some ⟨sp, 0, none⟩)]⟩ 30)) := (Mod.refl No w).alloc _
  have a1 : At (w.alloc (.cells ⟨[.pointer (some ⟨sp, 0, none⟩)]⟩ 30)) w.heap.size 0 [.pointer (some ⟨sp, 0, none⟩)] := AtU.new.at
  have s1 : (w.alloc (.cells ⟨[.pointer (some ⟨sp, 0, none⟩)]⟩ 30)).heap.size = w.heap.size + 1 := by simp
  refine ⟨_, _, box_store _ _, ?_⟩
  generalize w.alloc (.cells ⟨[.pointer (some ⟨sp, 0, none⟩)]⟩ 30) = w1 at *
  have h1 := h.nos m1
  have hlo := hP0.lo
  have hw0 := h.mod.size
  -- an error: nothing has changed
  have bad : ∀ w2 e, Mod No w w2 → patE P n frm data after = e → e ≠ 0 → K (.tuple #[.int .i64 0, .int .i64 e]) w2 := fun w2 e m he hne => by
    have hS : patS P n frm data after = P := by unfold patS; rw [if_neg (by rw [he]; exact hne)]
    have hN : patN P n frm data after = 0 := by unfold patN; rw [if_neg (by rw [he]; exact hne)]
    have := hk w2 P.C m.anys (by rw [hS]; exact hP0.gro m) rfl rfl
    rw [hN, he] at this; exact this
  refine ⟨_, a1.load (i := 0) (by kernel_rfl) rfl, ff rfl (Share.cut (fun x w2 => w1 = w2 ∧ x = [.bool (decide (errOf P.C.D n ≠ 0))]) (cond_of (fun hb => ?_) (fun hb => ?_)) ?_)⟩
  · have hb := of_decide_eq_true hb
    have : errOf P.C.D n ≠ 0 := by unfold errOf; rw [if_pos (by omega)]; omega
    rw [decide_eq_true this]; exact ⟨rfl, rfl⟩
  · have hb := of_decide_eq_false hb
    refine ⟨_, a1.load (i := 0) (by kernel_rfl) rfl, _, rfl, _, h1.llen', rfl, ?_⟩
    congr 2
    unfold errOf
    by_cases hn : (P.C.D.vs.length : Int) ≤ n
    · rw [if_pos (.inr hn), decide_eq_true hn]; rfl
    · rw [if_neg (by omega), decide_eq_false hn]; rfl
  rintro x w2 ⟨rfl, rfl⟩
  refine ⟨_, rfl, ?_⟩
  by_cases he : errOf P.C.D n ≠ 0
  · exact tt (decide_eq_true he) (bad w1 3 m1 (by unfold patE; rw [if_pos he]) (by omega))
  refine ff (decide_eq_false he) ?_
  have he0 : errOf P.C.D n = 0 := Classical.not_not.1 he
  refine Share.cut (fun x w2 => w1 = w2 ∧ x = [.bool (decide (data.length = 0 ∨ frm < 0 ∨ 256 < frm ∨ 256 - frm < data.length))]) (cond_of (fun hb => ⟨rfl, ?_⟩) (fun hb => cond_of (fun hb2 => ⟨rfl, ?_⟩) (fun hb2 => cond_of (fun hb3 => ⟨rfl, ?_⟩) (fun hb3 => ⟨rfl, ?_⟩)))) ?_
  · have : (l3 : Int) = 0 := by simpa using hb
    rw [decide_eq_true (.inl (by omega))]
  · have := of_decide_eq_true hb2
    rw [decide_eq_true (.inr (.inl this))]
  · have := of_decide_eq_true hb3
    rw [decide_eq_true (.inr (.inr (.inl (by omega))))]
  · have hb : ¬ (l3 : Int) = 0 := by simpa using hb
    have hb2 := of_decide_eq_false hb2
    have hb3 := of_decide_eq_false hb3
    rw [wrap64 (x := 256 - frm) (by omega) (by omega)]
    congr 2
    rw [Bool.eq_iff_iff]
    simp only [decide_eq_true_eq]
    omega
  rintro x w2 ⟨rfl, rfl⟩
  refine ⟨_, rfl, ?_⟩
  by_cases hsz : data.length = 0 ∨ frm < 0 ∨ 256 < frm ∨ 256 - frm < data.length
  · exact tt (decide_eq_true hsz) (bad w1 4 m1 (by unfold patE; rw [if_neg he, if_pos hsz]) (by omega))
  refine ff (decide_eq_false hsz) ?_
  refine Contains64_c (S := No) ha (by omega) (hra.nos m1) (tells_given h1 a1) fun w2 m2 => ⟨_, rfl, ?_⟩
  have M2 := m1.no m2
  by_cases hbad : badA P after = true
  · exact tt hbad (bad w2 1 M2 (by unfold patE; rw [if_neg he, if_neg hsz, if_pos hbad]) (by omega))
  refine ff (by simpa [badA] using hbad) ?_
  have hE : patE P n frm data after = 0 := by unfold patE; rw [if_neg he, if_neg hsz, if_neg hbad]
  obtain ⟨b, rfl, hblt⟩ := err_range he0
  obtain ⟨f, rfl⟩ : ∃ f : Nat, frm = f := ⟨frm.toNat, by omega⟩
  have h2 := h.nos M2
  have a2 := a1.keep m2 id
  have hcw := h2.cx.wf
  -- what is read
  obtain ⟨C1, hask⟩ := ask_some hcw.1 h2.wf.full hblt
  obtain ⟨l0, y, A⟩ := ask_facts hcw.1 hcw.2.1 hblt hask
  have hr0 : rdX P.C b = (C1, 0, lastD C1.l) := by unfold rdX; rw [if_neg (by rw [he0]; simp), Int.toNat_natCast, hask]
  have hyl : y ∈ C1.l := by rw [A.l]; simp
  have hly : lastD C1.l = y.data := by unfold lastD; rw [A.l]; simp
  have hw1 : WFP ⟨C1, P.last, P.ons⟩ := hw.ask h2.wf hcw.1 A
  have hs1 : WFS ⟨C1, P.last, P.ons⟩ := WFS.cache h.wf (by rw [A.D]) A.most
  have hlen : (lastD C1.l).length = 256 := by rw [hly]; exact A.wf.data y hyl
  have hold : lastD C1.l = contV ⟨C1, P.last, P.ons⟩ b := by
    rw [← cont_view hw1 hs1 A.wf b]
    unfold cont
    have := findB_mem A.wf.nodup hyl
    rw [A.yb] at this
    show _ = (match findB C1.l b with | some x => x.data | none => atD C1.D b)
    rw [this, hly]
  refine ⟨_, a2.load (i := 0) (by kernel_rfl) rfl, _, rfl, _, h2.lc, cRead_c h2.cx fun w3a w3 ag cg m3a m3 x3 o3 => ⟨_, _, _, _, rfl, ?_⟩⟩
  simp only [hr0, hlen] at x3 o3 ⊢
  obtain ⟨rl3, h3, hr3⟩ := h2.cache m3a m3 x3 (by rw [A.D]) A.most
  obtain ⟨g, rfl, hg, hat⟩ := o3.sm (by omega)
  rw [hold] at hat
  have hz2 := M2.size
  have hz3a := m3a.size
  have hz3 := m3.size
  have hzm2 := m2.size
  have hq1 := a1.lt
  have hR1 : ∀ z, rl z = 1 → R z := fun z hz => h.reg z (by omega)
  have M3 : Mod R w w3 := (M2.anys.trans m3a fun z _ e => hR1 z e).no m3
  have hrq : ∀ z, rl z ≠ 0 → z < w.heap.size := fun z hz => (hlo z (h.reg z hz)).2
  have a3' : At w3 w.heap.size 0 [.pointer (some ⟨sp, 0, none⟩)] := (a2.keep m3a fun e => by have := hrq w.heap.size (by have e : rl w.heap.size = 1 := e; omega); omega).keep m3 id
  have hlk := h3.lookM (b : Int)
  refine ff rfl ⟨_, a3'.load (i := 0) (by kernel_rfl) rfl, _, rfl, _, h3.lm, _, hlk, ?_⟩
  have hG3 : ∀ z, Gro R w2 w3a z → Gro R w w3 z := fun z hz => by
    rcases hz with hz | hz
    · exact .inl hz
    · exact .inr (by omega)
  have hqn : ¬ Gro R w2 w3a w.heap.size := by
    rintro (e | e)
    · have := (hlo _ e).2; omega
    · omega
  have hgn : ¬ Gro R w2 w3a g := by
    rintro (e | e)
    · have := (hlo _ e).2; omega
    · omega
  have hcl : (contV ⟨C1, P.last, P.ons⟩ b).length = 256 := by rw [← hold]; exact hlen
  have hblt1 : b < C1.D.vs.length := by rw [A.D]; exact hblt
  refine Share.cut (Jn w0 R w sp c d mo mm ca Lo ⟨C1, P.last, P.ons⟩ b g) ?_ ?_
  · cases ho : onOf P b with
    | none =>
      have ho' : onOf { P with C := C1 } b = none := ho
      rw [ho']
      exact tt rfl (new_c (P1 := ⟨C1, P.last, P.ons⟩) M3 hG3 hlo h3 a3' hqn rfl hat.at hcl hgn (by omega) (by omega) hblt1 ho hw1 ⟨y, hyl, A.yb⟩ fun _ _ hj => hj)
    | some o =>
      have ho' : onOf { P with C := C1 } b = some o := ho
      rw [ho']
      obtain ⟨hom, hob⟩ := onOf_some ho
      have hob : o.b = b := by omega
      refine ff rfl ?_
      have hnO : newO ⟨C1, P.last, P.ons⟩ b = ⟨C1, P.last, P.ons⟩ := by unfold newO; rw [show onOf (⟨C1, P.last, P.ons⟩ : Ps) b = some o from ho]
      obtain ⟨y1, k1, k2, k3, k4⟩ := hw1.pin o hom
      refine ⟨_, rl3, C1, oa, Lm, by rw [hnO]; exact h3, hG3, M3, a3', hqn, hat.at, rfl, rfl, fun _ _ => Iff.rfl, ⟨y1, k1, by omega, k3, ?_⟩, ?_⟩
      · have hcv : contV ⟨C1, P.last, P.ons⟩ b = withL o.base o.l := by unfold contV; rw [show onOf (⟨C1, P.last, P.ons⟩ : Ps) b = some o from ho]
        rw [hcv]; exact k4
      · rw [← hob]; rfl
  rintro x w9 ⟨R9, rl9, C9, oa9, Lm9, h9, hG9, M9, a9, hqn9, hat9, eD9, eM9, ht9, ⟨y9, hy9, hy9b, hy9p, hy9d⟩, rfl⟩
  clear hlk
  have hz9 := M9.size
  have hq9 := a9.lt
  -- the rows of the call
  have hrow : ∀ {wz : World} {a : Option Addr} {xs : List Value}, Row w a xs → (xs ≠ [] → ∀ q, a = some q → ¬ R q.block) → Mod R w wz → Row wz a xs := fun {wz a xs} hr ho hm => by
    by_cases hx : xs = []
    · exact .inl hx
    · exact Row.keep2 hr hm fun q hq _ => ho hx q hq
  have hdo : u8L data ≠ [] → ∀ q, a3 = some q → ¬ R q.block := fun hne => hdo fun e => hne (by rw [e]; rfl)
  have hao : iL after ≠ [] → ∀ q, a4 = some q → ¬ R q.block := fun hne => hao fun e => hne (by rw [e]; rfl)
  have hd1 : 1 ≤ data.length := by omega
  have hfit : f + data.length ≤ 256 := by omega
  refine Lay_c' (b := contV ⟨C1, P.last, P.ons⟩ b) (ys := data) hcl hd (by omega) (by omega) (by omega) (.inr ⟨_, _, rfl, hat9⟩) (hrow hrd hdo M9) fun w10 m10 at10 => ⟨_, _, _, _, rfl, ?_⟩
  have h10 := h9.nos m10
  have a10 := a9.keep m10 id
  refine ⟨_, a10.load (i := 0) (by kernel_rfl) rfl, _, rfl, _, h10.lc, ?_⟩
  obtain ⟨C11, e11, eD11, eM11, ht11, y11, hy11, hy11b, hy11p, hy11d⟩ := lay_facts (ys := overB (contV ⟨C1, P.last, P.ons⟩ b) f data) h10.cx.wf.1 h10.cx.wf.2.1 hy9 hy9b (by rw [overB_len (by omega)]; exact hcl)
  have hz10 := m10.size
  have hw9 : rl9 w9.heap.size = 0 := h9.out_of (Nat.le_refl _)
  refine cLay_c (n := (b : Int)) (ys := overB (contV ⟨C1, P.last, P.ons⟩ b) f data) h10.cx (by rw [overB_len (by omega)]; exact hcl) (.inr ⟨_, _, rfl, at10.at⟩) (fun _ q hq e => by cases hq; have e : rl9 w9.heap.size = 1 := e; omega) fun w11 m11 x11 => ⟨_, rfl, ?_⟩
  have x11 : Cx w0 (Gro (fun z => rl9 z = 1) w10 w11) w11 c d (layX C9 b (overB (contV ⟨C1, P.last, P.ons⟩ b) f data)).1 := x11
  rw [e11] at x11
  obtain ⟨rl11, h11, hr11⟩ := h10.cache m11 (Mod.refl _ _) x11 (by show C11.D.vs.length = C9.D.vs.length; rw [eD11]) (by show C11.most = C9.most; exact eM11)
  have hz11 := m11.size
  have a11 : At w11 w.heap.size 0 [.pointer (some ⟨sp, 0, none⟩)] := a10.keep m11 fun e => hqn9 (h9.reg _ (by have e : rl9 w.heap.size = 1 := e; omega))
  have hqn11 : ¬ Gro R9 w10 w11 w.heap.size := by
    rintro (e | e)
    · exact hqn9 e
    · omega
  have M11 : Mod R w w11 := (M9.no m10).trans m11 fun z hz e => by
    have e : rl9 z = 1 := e
    rcases hG9 z (h9.reg z (by omega)) with e2 | e2
    · exact e2
    · omega
  have hG11 : ∀ z, Gro R9 w10 w11 z → Gro R w w11 z := fun z hz => by
    rcases hz with hz | hz
    · rcases hG9 z hz with e | e
      · exact .inl e
      · exact .inr (by omega)
    · exact .inr (by omega)
  -- the number
  have eL : (newO ⟨C1, P.last, P.ons⟩ b).last = P.last := newO_C.2
  obtain ⟨w12, u12, h12, m12⟩ := h11.bump (by show (newO ⟨C1, P.last, P.ons⟩ b).last + 1 ≤ 1000000; rw [eL]; exact hlast)
  have hll := h11.llast
  have hz12 := m12.size
  have eW : (IntKind.i64.wrap (((newO ⟨C1, P.last, P.ons⟩ b).last : Nat) + 1 : Int)) = (((newO ⟨C1, P.last, P.ons⟩ b).last + 1 : Nat) : Int) := by
    rw [eL, wrap64 (by omega) (by omega)]; omega
  refine ⟨_, a11.load (i := 0) (by kernel_rfl) rfl, _, rfl, _, hll, _, rfl, w12, ?_, ?_⟩
  · show RuU (Instr.storeAt _ _ (.int .i64 (IntKind.i64.wrap (((newO ⟨C1, P.last, P.ons⟩ b).last : Nat) + 1 : Int)))) w11 w12
    rw [eW]; exact u12
  -- the change
  have m12d : Mod No w12 (Go.Den.drew w12) := (Mod.refl No w12).drew
  have sz12d : (Go.Den.drew w12).heap.size = w12.heap.size := rfl
  have hsp : rl11 sp = 2 := h11.rsp
  have hrl11q : rl11 w.heap.size = 0 := by
    by_cases e : rl11 w.heap.size = 0
    · exact e
    · exact absurd (h11.reg _ e) hqn11
  have a12 : At (Go.Den.drew w12) w.heap.size 0 [.pointer (some ⟨sp, 0, none⟩)] := (a11.keep m12 fun e => by have e : w.heap.size = sp := e; rw [e] at hrl11q; omega).keep m12d id
  have M12 : Mod R w (Go.Den.drew w12) := (M11.trans m12 fun z hz e => by
    have e : z = sp := e
    rcases hG11 z (h11.reg z (by rw [e, hsp]; omega)) with e2 | e2
    · exact e2
    · omega).no m12d
  obtain ⟨Q, hQ⟩ : ∃ Q : Ps, Q = { ({ ({ newO ⟨C1, P.last, P.ons⟩ b with C := C9 } : Ps) with C := C11 } : Ps) with last := (newO ⟨C1, P.last, P.ons⟩ b).last + 1 } := ⟨_, rfl⟩
  have h12' : PIn w0 (Gro (Gro R9 w10 w11) w11 w12) rl11 w12 sp c d mo mm ca oa9 Lo Lm9 Q := by rw [hQ]; exact h12
  have hQo : Q.ons = (newO ⟨C1, P.last, P.ons⟩ b).ons := by rw [hQ]
  have hQl : Q.last = P.last + 1 := by rw [hQ]; show (newO ⟨C1, P.last, P.ons⟩ b).last + 1 = _; rw [eL]
  have hQC : Q.C = C11 := by rw [hQ]
  have hop : Q.opn = P.opn := by
    have := opn_newO (V := ⟨C1, P.last, P.ons⟩) (b := b)
    have e : Q.opn = (newO ⟨C1, P.last, P.ons⟩ b).opn := by unfold Ps.opn Ps.all; rw [hQo]
    rw [e, this]; rfl
  have h12d := h12'.nos m12d
  clear h12 h12' hQ
  have hll2 := h12d.llast
  rw [hQl] at hll2
  refine ⟨_, a12.load (i := 0) (by kernel_rfl) rfl, _, rfl, _, hll2, ?_⟩
  generalize Go.Den.drew w12 = w12d at *
  have hrd12 := hrow hrd hdo M12
  have ha3 : a3 ≠ none := fun e => by
    rcases hrd with hr | ⟨_, _, e2, _⟩
    · have := congrArg List.length hr
      rw [length_u8L] at this
      have e0 : ([] : List Value).length = 0 := rfl
      omega
    · rw [e] at e2; cases e2
  refine CloneB_c hrd12 hd (fun e => absurd e ha3) (by omega) fun w13 a13 c13 o13 m13 => ?_
  have h13 := h12d.nos m13
  have hll3 := h13.llast
  rw [hQl] at hll3
  have a13' := a12.keep m13 id
  obtain ⟨gd, rfl, hgd, hgat⟩ := o13.sm (by omega)
  have hgdl := hgat.lt
  refine ⟨_, _, _, rfl, a13'.load (i := 0) (by kernel_rfl) rfl, hll3, _, fun w => build_ch w _ _ _ _ _ _, _, _, box_ch _ _, ?_⟩
  have m14 : Mod No w13 (w13.alloc (.cells ⟨[.int .i64 ((P.last + 1 : Nat) : Int), .int .i64 b, .int .i64 f, .slice (some ⟨gd, 0, none⟩) l3 c13, .slice none 0 0, .bool false]⟩ 183)) := (Mod.refl No w13).alloc _
  have q14 : AtU (w13.alloc (.cells ⟨[.int .i64 ((P.last + 1 : Nat) : Int), .int .i64 b, .int .i64 f, .slice (some ⟨gd, 0, none⟩) l3 c13, .slice none 0 0, .bool false]⟩ 183)) w13.heap.size 0 [.int .i64 ((P.last + 1 : Nat) : Int), .int .i64 b, .int .i64 f, .slice (some ⟨gd, 0, none⟩) l3 c13, .slice none 0 0, .bool false] := AtU.new
  have s14 : (w13.alloc (.cells ⟨[.int .i64 ((P.last + 1 : Nat) : Int), .int .i64 b, .int .i64 f, .slice (some ⟨gd, 0, none⟩) l3 c13, .slice none 0 0, .bool false]⟩ 183)).heap.size = w13.heap.size + 1 := by simp
  generalize w13.alloc (.cells ⟨[.int .i64 ((P.last + 1 : Nat) : Int), .int .i64 b, .int .i64 f, .slice (some ⟨gd, 0, none⟩) l3 c13, .slice none 0 0, .bool false]⟩ 183) = w14 at *
  have hz13 := m13.size
  refine ⟨fun x w15 => ∃ (i k ac : Nat) (aa : Option Addr), i ≤ l4 ∧ x = [.int .i64 i] ∧ k = ((after.take i).filter P.opn).length ∧ AtU w15 w13.heap.size 0 [.int .i64 ((P.last + 1 : Nat) : Int), .int .i64 b, .int .i64 f, .slice (some ⟨gd, 0, none⟩) l3 c13, .slice aa k ac, .bool false] ∧
      Own Tryz.prog w15 w14.heap.size 37 1 aa k ac (iL ((after.take i).filter P.opn)) ∧ Mod No w13 w15 ∧ w14.heap.size ≤ w15.heap.size,
    fun x _ => (l4 - nI x 0).toNat, ⟨0, 0, 0, none, by omega, rfl, rfl, q14, Own.nil elemZ_64, m14, Nat.le_refl _⟩, ?_⟩
  rintro x w15 ⟨i, k, ac, aa, hi, rfl, hkl, q15, o15, m15, sz15⟩
  have hfl : ((after.take i).filter P.opn).length ≤ i := by
    have := List.length_filter_le P.opn (after.take i)
    simp at this; omega
  refine ⟨_, rfl, cond_of (fun hb => ?_) (fun hb => ?_)⟩
  · have hi : i < l4 := by have := of_decide_eq_true hb; omega
    have hix : i < after.length := by omega
    have hra15 := hrow hra hao ((M12.no m13).no m15)
    obtain ⟨b4, o4, rfl, hat4⟩ := row_some hra15 hix
    refine ⟨_, index_slice (k := 1) (by kernel_rfl) (by omega) (by omega), ?_⟩
    rw [add_none, show (i : Int).toNat * 1 = i by omega]
    refine ⟨_, hat4.load (by kernel_rfl) (iL_get hix), _, (a13'.keep m15 id).load (i := 0) (by kernel_rfl) rfl, _, rfl, _, (h13.nos m15).lo', ?_⟩
    obtain ⟨p, hp, hpn, _⟩ := (h13.nos m15).lookO after[i]
    rw [hop] at hpn
    have hsplit := filter_take (l := after) (f := P.opn) hix
    refine ⟨p, hp, Share.cut (fun _ w19 => ∃ (k ac : Nat) (aa : Option Addr), k = ((after.take (i + 1)).filter P.opn).length ∧ AtU w19 w13.heap.size 0 [.int .i64 ((P.last + 1 : Nat) : Int), .int .i64 b, .int .i64 f, .slice (some ⟨gd, 0, none⟩) l3 c13, .slice aa k ac, .bool false] ∧
      Own Tryz.prog w19 w14.heap.size 37 1 aa k ac (iL ((after.take (i + 1)).filter P.opn)) ∧ Mod No w13 w19 ∧ w14.heap.size ≤ w19.heap.size) (cond_of (fun hb => ?_) (fun hb => ?_)) ?_⟩
    · have hopn : P.opn after[i] = true := by
        have : p.isNone = false := by simpa using hb
        rw [hpn] at this; simpa using this
      rw [if_pos hopn] at hsplit
      have mA : Mod No w15 (w15.alloc (.cells ⟨[.int .i64 after[i]]⟩ 2)) := (Mod.refl No w15).alloc _
      have aA : At (w15.alloc (.cells ⟨[.int .i64 after[i]]⟩ 2)) w15.heap.size 0 [.int .i64 after[i]] := AtU.new.at
      have sA : (w15.alloc (.cells ⟨[.int .i64 after[i]]⟩ 2)).heap.size = w15.heap.size + 1 := by simp
      refine ⟨_, rfl, aa, k, ac, ?_, _, _, _, _, builtI64 _ _, ?_⟩
      · rw [add_none]; exact q15.at.load (by kernel_rfl) rfl
      generalize w15.alloc (.cells ⟨[.int .i64 after[i]]⟩ 2) = w16 at *
      obtain ⟨q', c', w17, t1, t2, t3, t4⟩ := (o15.nos mA).app (ty := 37) (m := 1) (c2 := 1) (ad := ⟨w15.heap.size, 0, none⟩) (ys := [.int .i64 after[i]]) elemZ_64 (by omega) (.inr ⟨_, _, rfl, aA⟩) rfl (by omega) (by simp; rfl) (by omega) (by omega) (by omega)
      have t3' : Mod (Of aa) w16 w17 := t3
      have hnq : ¬ Of aa w13.heap.size := fun ⟨q, hq, e⟩ => by have := (o15.base hq).1; omega
      have q17 := (q15.keep mA id).keep t3' hnq
      obtain ⟨w18, u1, u2, u3, u4⟩ := q17.store (P := Tryz.prog) (T := 37) (i := 4) (v := .slice (some q') (k + 1) c') (by kernel_rfl) (by simp) rfl
      refine ⟨_, _, _, w17, t1, _, rfl, w18, by rw [add_none]; exact u1, k + 1, c', some q', ?_, ?_, ?_, ?_, ?_⟩
      · rw [hsplit, List.length_append, ← hkl]; rfl
      · simpa using u2
      · have e : iL ((after.take i).filter P.opn) ++ [.int .i64 after[i]] = iL ((after.take (i + 1)).filter P.opn) := by rw [hsplit]; simp [iL, I]
        rw [← e]
        refine t2.keep u3 fun q hq e => ?_
        have := (t2.base hq).1
        have e : q.block = w13.heap.size := e
        omega
      · refine ((m15.no mA).trans t3' fun z hz ⟨q, hq, e⟩ => ?_).trans u3 fun z hz e => ?_
        · have := (o15.base hq).1
          omega
        · have e : z = w13.heap.size := e
          omega
      · have := t3'.size
        have := u3.size
        omega
    · have hopn : P.opn after[i] = false := by
        have : p.isNone = true := by simpa using hb
        rw [hpn] at this; simpa using this
      rw [if_neg (by rw [hopn]; simp), List.append_nil] at hsplit
      rw [hsplit]
      exact ⟨k, ac, aa, hkl, q15, o15, m15, sz15⟩
    · rintro z w19 ⟨k, ac, aa, e1, e2, e3, e4, e5⟩
      rw [wrap64 (x := (i : Int) + 1) (by omega) (by omega)]
      exact ⟨⟨i + 1, k, ac, aa, by omega, rfl, e1, e2, e3, e4, e5⟩, by simp [nI, nth]; omega⟩
  · have hil : i = after.length := by have := of_decide_eq_false hb; omega
    subst hil
    rw [List.take_length] at hkl o15
    have md : Mod No w15 (Go.Den.drew w15) := (Mod.refl No w15).drew
    have szd : (Go.Den.drew w15).heap.size = w15.heap.size := rfl
    have m15d := m15.no md
    have q15d := q15.keep md id
    have o15d := o15.nos md
    generalize Go.Den.drew w15 = w15d at *
    have h15 := h13.nos m15d
    refine ⟨_, (a13'.keep m15d id).load (i := 0) (by kernel_rfl) rfl, _, rfl, _, h15.lo', _, rfl, _, by rw [add_none]; exact q15d.at.load (by kernel_rfl) rfl, ?_⟩
    obtain ⟨w20, u1, u2, u3, u4⟩ := update_run (P := Tryz.prog) (T := 154) (k := ((P.last + 1 : Nat) : Int)) (v := .pointer (some ⟨w13.heap.size, 0, none⟩)) mapOpen h15.mapO
    obtain ⟨o, ho, hob⟩ := newO_on (V := ⟨C1, P.last, P.ons⟩) (b := b)
    rw [← hQo] at ho
    obtain ⟨k1, k2, g9, cc9, la, lc, c1, c2, c3, c4, c5⟩ := h15.ons o ho
    rw [hob] at k1 k2 c1 c5
    have hrmo : rl11 mo = 3 := h15.rmo
    have hnmo : ∀ {z}, rl11 z ≠ 3 → z ≠ mo := fun hz e => hz (by rw [e]; exact hrmo)
    have hout : ∀ {z}, w12d.heap.size ≤ z → rl11 z = 0 := fun hz => h12d.out_of hz
    have d1 := c1.keep u3 (hnmo (by rw [k2]; omega))
    refine ⟨w20, u1, _, rfl, _, rfl, la, _, lc, by rw [add_none]; exact d1.at.load (by kernel_rfl) rfl, _, _, _, _, builtCh _ _, ?_⟩
    have m21 : Mod No w20 (w20.alloc (.cells ⟨[.pointer (some ⟨w13.heap.size, 0, none⟩)]⟩ 181)) := (Mod.refl No w20).alloc _
    have a21 : At (w20.alloc (.cells ⟨[.pointer (some ⟨w13.heap.size, 0, none⟩)]⟩ 181)) w20.heap.size 0 [.pointer (some ⟨w13.heap.size, 0, none⟩)] := AtU.new.at
    have s21 : (w20.alloc (.cells ⟨[.pointer (some ⟨w13.heap.size, 0, none⟩)]⟩ 181)).heap.size = w20.heap.size + 1 := by simp
    generalize w20.alloc (.cells ⟨[.pointer (some ⟨w13.heap.size, 0, none⟩)]⟩ 181) = w21 at *
    have hlaS : ∀ {z}, rl11 z ≠ 9 + 3 * b → ¬ Of la z := fun hz ⟨q, hq, e⟩ => hz (by rw [e]; exact c5 q hq)
    have hlen2 := h15.wf.llen o ho
    have hlast2 := h15.wf.last
    have hw023 := h15.mod.size
    obtain ⟨q', c', w22, t1, t2, t3, t4⟩ := ((c4.keep u3 fun q hq => hnmo (by rw [c5 q hq]; omega)).nos m21).app (ty := 178) (m := 1) (c2 := 1) (ad := ⟨w20.heap.size, 0, none⟩) (ys := [.pointer (some ⟨w13.heap.size, 0, none⟩)]) elemZ_chs (by omega) (.inr ⟨_, _, rfl, a21⟩) rfl (by omega) (by simp; rfl) (by omega) (by omega) (by omega)
    have t3' : Mod (Of la) w21 w22 := t3
    have d2 := (d1.keep m21 id).keep t3' (hlaS (by rw [k2]; omega))
    obtain ⟨w23, v1, v2, v3, v4⟩ := d2.store (P := Tryz.prog) (T := 178) (i := 1) (v := .slice (some q') (o.l.length + 1) c') (by kernel_rfl) (by simp) rfl
    have hrq : rl11 w13.heap.size = 0 := hout (by omega)
    have hnoa : ∀ {z}, rl11 z ≠ 8 + 3 * b → z ≠ oa9 b := fun hz e => hz (by rw [e]; exact k2)
    have q23 := (((q15d.keep u3 (hnmo (by omega))).keep m21 id).keep t3' (hlaS (by omega))).keep v3 (hnoa (by omega))
    refine ⟨_, _, _, w22, t1, _, rfl, w23, by rw [add_none]; exact v1, _, rfl, _, by rw [add_none]; exact q23.at.load (by kernel_rfl) rfl, ?_⟩
    -- what it is now
    have hx : newX P b f data after = ⟨P.last + 1, b, f, data, after.filter P.opn, false⟩ := rfl
    have hfl2 : (after.filter P.opn).length ≤ after.length := List.length_filter_le _ _
    have hng : ∀ k ∈ after, 1 ≤ k ∧ k ≤ (P.last : Int) := fun k hk' => by
      have := List.any_eq_false.1 (by simpa [badA] using hbad : (after.any fun k => !decide (1 ≤ k ∧ k ≤ (P.last : Int))) = false) k hk'
      simpa using this
    have hF1 : Fit (⟨C1, P.last, P.ons⟩ : Ps) (newX P b f data after) := ⟨rfl, hblt1, ⟨hd1, hfit⟩, by show (after.filter P.opn).length ≤ _; omega, fun k hk' => by
      have := hng k (List.mem_filter.1 hk').1
      show k < ((P.last + 1 : Nat) : Int)
      omega, rfl⟩
    have hsN := hs1.newO hblt1 hcl
    have eD11' : C11.D = C1.D := by rw [eD11]; exact eD9
    have eM11' : C11.most = C1.most := by rw [eM11]; exact eM9
    have eN := newO_C (V := ⟨C1, P.last, P.ons⟩) (b := b)
    have hsQ : WFS (⟨C11, (newO ⟨C1, P.last, P.ons⟩ b).last, (newO ⟨C1, P.last, P.ons⟩ b).ons⟩ : Ps) := WFS.cache hsN (by rw [eD11', eN.1]) (by rw [eM11', eN.1])
    have eQ : appO Q (newX P b f data after) = appO (⟨C11, (newO ⟨C1, P.last, P.ons⟩ b).last, (newO ⟨C1, P.last, P.ons⟩ b).ons⟩ : Ps) (newX P b f data after) := by
      unfold appO; rw [hQo, hQC]
    have hwfA : WFS (appO Q (newX P b f data after)) := by
      rw [eQ]
      exact hsQ.app (by rw [← hQo]; exact ho) hob ⟨by show P.last + 1 = _; rw [eL], by show b < C11.D.vs.length; rw [eD11']; exact hblt1, hF1.dat, hF1.aft, hF1.afl, rfl⟩ hlast
    have hM23 : Mod (fun z => z = mo ∨ z = oa9 b ∨ rl11 z = 9 + 3 * b) w12d w23 := by
      have k0 : Mod No w12d w15d := m13.no m15d
      refine (((k0.anys.trans u3 fun z _ e => .inl e).no m21).trans t3' fun z _ e => ?_).trans v3 fun z _ e => .inr (.inl e)
      obtain ⟨q, hq, e⟩ := e
      exact .inr (.inr (by rw [e]; exact c5 q hq))
    have hz15 := m15d.size
    have hz20 := u3.size
    have hz22 := t3'.size
    have hz23 := v3.size
    have haaO : ∀ e, aa = some e → w14.heap.size ≤ e.block ∧ e.block < w15d.heap.size := fun e he => o15d.base he
    obtain ⟨rl', ca', hfin⟩ := h12d.appX (S := fun z => z = mo ∨ z = oa9 b ∨ rl11 z = 9 + 3 * b) (x := newX P b f data after) (o := o) (q := w13.heap.size) (gd := gd) (cd := c13) (g := g9) (cc := cc9) (aa := aa) (la' := some q') (ac := ac) (lc' := c') ho hob hQl
      (fun z hz => by
        have : z ∈ P.all := by
          have e : Q.all = (newO ⟨C1, P.last, P.ons⟩ b).all := by unfold Ps.all; rw [hQo]
          rw [e, all_newO] at hz
          exact hz
        have := h.wf.idr z this
        show z.id ≠ P.last + 1
        omega) hwfA hM23 (fun z e => e) (by
          refine ((u2.keep m21 id).keep t3' (hlaS (by rw [hrmo]; omega))).keep v3 (hnoa (by rw [hrmo]; omega))) ⟨by omega, by omega⟩ ⟨hgd, by omega⟩
      (fun e he => by have := haaO e he; exact ⟨by omega, by omega, by omega, by omega⟩) (by omega) (fun e he => by
        cases he
        have hlt := (t2.base (q := q') rfl).2
        rcases t4 with ⟨q2, hq2, e2⟩ | e2
        · left; rw [e2]; exact c5 q2 hq2
        · right
          refine ⟨by omega, by omega, by omega, by omega, fun e he => ?_⟩
          have := haaO e he
          omega)
      (by
        show AtU w23 w13.heap.size 0 [.int .i64 ((P.last + 1 : Nat) : Int), .int .i64 b, .int .i64 f, .slice (some ⟨gd, 0, none⟩) data.length c13, .slice aa (after.filter P.opn).length ac, .bool false]
        rw [hd, ← hkl]; exact q23)
      ((((((hgat.keep m15d id).keep u3 (hnmo (by rw [hout hgd]; omega))).keep m21 id).keep t3' (hlaS (by rw [hout hgd]; omega))).keep v3 (hnoa (by rw [hout hgd]; omega))).at)
      (by
        show Row w23 aa (iL (after.filter P.opn))
        have r0 := o15d.rowU.row
        have hr : ∀ e, aa = some e → rl11 e.block = 0 := fun e he => hout (by have := haaO e he; omega)
        exact (((r0.keep u3 fun e he => hnmo (by rw [hr e he]; omega)).nos m21).keep t3' fun e he => hlaS (by rw [hr e he]; omega)).keep v3 fun e he => hnoa (by rw [hr e he]; omega))
      (by show AtU w23 (oa9 b) 0 _; simpa using v2) c3 ((((c2.keep u3 (hnmo (by rw [c3]; omega))).keep m21 id).keep t3' (hlaS (by rw [c3]; omega))).keep v3 (hnoa (by rw [c3]; omega)))
      (by
        refine (t2.keep v3 fun e he => ?_)
        cases he
        rcases t4 with ⟨q2, hq2, e2⟩ | e2
        · exact hnoa (by rw [e2, c5 q2 hq2]; omega)
        · exact hnoa (by rw [hout (by omega)]; omega))
    have hS : patS P b f data after = addX P (newX P b f data after) := by unfold patS; rw [if_pos hE]; simp
    have hN : patN P b f data after = ((P.last + 1 : Nat) : Int) := by unfold patN; rw [if_pos hE]
    have hoE : (addX (⟨C1, P.last, P.ons⟩ : Ps) (newX P b f data after)).ons = (addX P (newX P b f data after)).ons := by
      show (newO ⟨C1, P.last, P.ons⟩ b).ons.map _ = (newO P b).ons.map _
      rw [newO_ons A.D]
    have hadd := hw1.add (x := newX P b f data after) (C3 := C11) hs1 hF1 hcl hlast eD11' (fun z hz => (ht11 z hz).trans (ht9 z hz)) (by
      have := h15.cx.wf.1
      rw [hQC] at this
      exact this.nodup) ⟨y11, hy11, hy11b, by rw [hy11p, hy9p], hy11d⟩
    have := hk w23 C11 ?_ ?_ (by rw [eD11']; exact A.D) (by rw [eM11']; exact A.most)
    · rw [hN, hE] at this; exact this
    · refine M12.trans hM23 fun z hz e => ?_
      have hnz : rl11 z ≠ 0 := by
        rcases e with e | e | e
        · rw [e, hrmo]; omega
        · rw [e, k2]; omega
        · omega
      rcases h12d.reg z hnz with e2 | e2
      · rcases hG11 z e2 with e3 | e3
        · exact e3
        · omega
      · omega
    · rw [hS]
      refine ⟨?_, rl', c, mo, mm, ca', oa9, putL ((newX P b f data after).id : Int) (pV w13.heap.size) Lo, Lm9, ?_⟩
      · have : (⟨C11, (addX P (newX P b f data after)).last, (addX P (newX P b f data after)).ons⟩ : Ps) = { addX (⟨C1, P.last, P.ons⟩ : Ps) (newX P b f data after) with C := C11 } := by
          rw [← hoE]; rfl
        rw [this]; exact hadd
      · have : (⟨C11, (addX P (newX P b f data after)).last, (addX P (newX P b f data after)).ons⟩ : Ps) = appO Q (newX P b f data after) := by
          rw [← hoE, eQ]; rfl
        rw [this]
        refine hfin.widen (fun z hz => ?_) fun z hz => ?_
        · rcases hz with (hz | hz) | hz
          · rcases hG11 z hz with e | e
            · exact .inl e
            · exact .inr (by omega)
          · exact .inr (by omega)
          · exact .inr (by omega)
        · rcases hz with hz | hz
          · have := hlo z hz; omega
          · omega
end
end Go.Proofs.YtocjjigmpgekfaaGreat
end
