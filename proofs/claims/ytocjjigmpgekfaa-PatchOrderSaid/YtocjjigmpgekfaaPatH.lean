/- The library's functions that layer 11 calls: rows of changes, of numbers; bytes over bytes. -/
import Derived.Test.YtocjjigmpgekfaaCacheK
import Derived.Test.YtocjjigmpgekfaaTxtA
open Go Go.Den Go.Proofs
namespace Go.Den
def pV (q : Nat) : Value := .pointer (some ⟨q, 0, none⟩)
def pL (qs : List Nat) : List Value := qs.map pV
@[simp] theorem length_pL (qs : List Nat) : (pL qs).length = qs.length := by simp [pL]
theorem pL_get {qs : List Nat} {i : Nat} (hi : i < qs.length) : (pL qs)[i]? = some (.pointer (some ⟨qs[i], 0, none⟩)) := by simp [pL, hi, pV]
theorem one_pL (qs : List Nat) : ∀ v ∈ pL qs, v.oneCell' = true := by
  intro v hv; simp [pL] at hv; obtain ⟨x, _, rfl⟩ := hv; rfl
theorem row_someP {w : World} {a : Option Addr} {xs : List Nat} {i : Nat} (h : Row w a (pL xs)) (hi : i < xs.length) : ∃ b o, a = some ⟨b, o, none⟩ ∧ At w b o (pL xs) := by
  refine h.resolve_left fun e => ?_
  have := congrArg List.length e
  simp at this; rw [this] at hi; simp at hi
end Go.Den
namespace Go.Proofs.Ytocjjigmpgekfaa
theorem elemZ_chs : elemZ Try.prog 66 1 (.pointer none) 8 := by unfold elemZ; kernel_rfl
theorem elemZ_64 : elemZ Try.prog 33 1 (.int .i64 0) 8 := by unfold elemZ; kernel_rfl
/-- A function value that tells of each of some changes, whatever turns in S. -/
def TellsP (v : Value) (w0 : World) (S : Nat → Prop) (p : Nat → Bool) (xs : List Nat) : Prop :=
  ∀ w', Mod S w0 w' → ∀ x ∈ xs, ∀ K : Value → World → Prop, (∀ w'', Mod No w' w'' → K (.bool (p x)) w'') → Dyn Try.prog v #[.pointer (some ⟨x, 0, none⟩)] w' K
section
variable {w : World} {K : Value → World → Prop}
theorem IndexFunc64_c {a : Option Addr} {l c : Nat} {xs : List Int} {v : Value} {p : Int → Bool} {S : Nat → Prop} (hl : xs.length = l) (h63 : l ≤ 9223372036854775806) (hr : Row w a (iL xs)) (ht : Tells v w S p xs)
    (hk : ∀ w', Mod No w w' → K (.int .i64 (idxF p xs 0)) w') : Cal Try.prog F_slices_IndexFunc_int64 #[.slice a l c, v] w K := by
  apply C_slices_IndexFunc_int64
  unfold D_slices_IndexFunc_int64
  refine ⟨fun x w1 => ∃ i : Nat, i ≤ l ∧ x = [.int .i64 i] ∧ Mod No w w1 ∧ idxF p xs 0 = idxF p (xs.drop i) i, fun x _ => (l - nI x 0).toNat, ⟨0, by omega, rfl, Mod.refl _ _, rfl⟩, ?_⟩
  rintro x w1 ⟨i, hi, rfl, hm, hidx⟩
  refine ⟨_, rfl, cond_of (fun hb => ?_) (fun hb => ?_)⟩
  · have hi : i < l := by have := of_decide_eq_true hb; omega
    have hix : i < xs.length := by omega
    obtain ⟨b, o, rfl, hat⟩ := row_some hr hix
    refine ⟨_, index_slice (k := 1) (by kernel_rfl) (by omega) (by omega), ?_⟩
    rw [add_none, show (i : Int).toNat * 1 = i by omega]
    refine ⟨_, (hat.keep hm id).load (by kernel_rfl) (iL_get hix), ht w1 (hm.mono fun _ _ h => h.elim) _ (List.getElem_mem hix) _ fun w2 m2 => ⟨_, rfl, cond_of (fun hp => ?_) (fun hp => ?_)⟩⟩
    · have e : idxF p xs 0 = i := by rw [hidx, drop_get hix]; simp only [idxF]; rw [if_pos hp]
      rw [← e]; exact hk w2 (hm.no m2)
    · rw [wrap64 (x := (i : Int) + 1) (by omega) (by omega)]
      refine ⟨⟨i + 1, by omega, rfl, hm.no m2, ?_⟩, by simp [nI, nth]; omega⟩
      rw [hidx, drop_get hix]; simp only [idxF]; rw [if_neg (by rw [hp]; simp)]
  · have hil : i = l := by have := of_decide_eq_false hb; omega
    have e : idxF p xs 0 = -1 := by rw [hidx, List.drop_eq_nil_of_le (by omega)]; rfl
    rw [← e]; exact hk w1 hm

theorem Contains64_c {a : Option Addr} {l c : Nat} {xs : List Int} {v : Value} {p : Int → Bool} {S : Nat → Prop} (hl : xs.length = l) (h63 : l ≤ 9223372036854775806) (hr : Row w a (iL xs)) (ht : Tells v w S p xs)
    (hk : ∀ w', Mod No w w' → K (.bool (xs.any p)) w') : Cal Try.prog F_slices_ContainsFunc_int64 #[.slice a l c, v] w K := by
  apply C_slices_ContainsFunc_int64
  refine IndexFunc64_c hl h63 hr ht fun w' m => ⟨_, rfl, ?_⟩
  have e : decide (idxF p xs 0 ≥ 0) = xs.any p := by
    rcases idxF_cases p xs 0 with ⟨h1, h2⟩ | ⟨j, x, h1, h2, h3, _⟩
    · rw [h1]
      symm
      rw [show decide ((-1 : Int) ≥ 0) = false from rfl, List.any_eq_false]
      intro x hx; rw [h2 x hx]; simp
    · rw [h1, decide_eq_true (by omega)]
      symm
      exact List.any_eq_true.2 ⟨x, List.mem_of_getElem? h2, h3⟩
  rw [e]; exact hk w' m
theorem IndexFuncP_c {a : Option Addr} {l c : Nat} {xs : List Nat} {v : Value} {p : Nat → Bool} {S : Nat → Prop} (hl : xs.length = l) (h63 : l ≤ 9223372036854775806) (hr : Row w a (pL xs)) (ht : TellsP v w S p xs)
    (hk : ∀ w', Mod No w w' → K (.int .i64 (idxF p xs 0)) w') : Cal Try.prog F_slices_IndexFunc_patch_change #[.slice a l c, v] w K := by
  apply C_slices_IndexFunc_patch_change
  unfold D_slices_IndexFunc_patch_change
  refine ⟨fun x w1 => ∃ i : Nat, i ≤ l ∧ x = [.int .i64 i] ∧ Mod No w w1 ∧ idxF p xs 0 = idxF p (xs.drop i) i, fun x _ => (l - nI x 0).toNat, ⟨0, by omega, rfl, Mod.refl _ _, rfl⟩, ?_⟩
  rintro x w1 ⟨i, hi, rfl, hm, hidx⟩
  refine ⟨_, rfl, cond_of (fun hb => ?_) (fun hb => ?_)⟩
  · have hi : i < l := by have := of_decide_eq_true hb; omega
    have hix : i < xs.length := by omega
    obtain ⟨b, o, rfl, hat⟩ := row_someP hr hix
    refine ⟨_, index_slice (k := 1) (by kernel_rfl) (by omega) (by omega), ?_⟩
    rw [add_none, show (i : Int).toNat * 1 = i by omega]
    refine ⟨_, (hat.keep hm id).load (by kernel_rfl) (pL_get hix), ht w1 (hm.mono fun _ _ h => h.elim) _ (List.getElem_mem hix) _ fun w2 m2 => ⟨_, rfl, cond_of (fun hp => ?_) (fun hp => ?_)⟩⟩
    · have e : idxF p xs 0 = i := by rw [hidx, drop_get hix]; simp only [idxF]; rw [if_pos hp]
      rw [← e]; exact hk w2 (hm.no m2)
    · rw [wrap64 (x := (i : Int) + 1) (by omega) (by omega)]
      refine ⟨⟨i + 1, by omega, rfl, hm.no m2, ?_⟩, by simp [nI, nth]; omega⟩
      rw [hidx, drop_get hix]; simp only [idxF]; rw [if_neg (by rw [hp]; simp)]
  · have hil : i = l := by have := of_decide_eq_false hb; omega
    have e : idxF p xs 0 = -1 := by rw [hidx, List.drop_eq_nil_of_le (by omega)]; rfl
    rw [← e]; exact hk w1 hm

theorem DeleteFuncP_c {base : Nat} {a : Option Addr} {l c : Nat} {xs : List Nat} {v : Value} {p : Nat → Bool} (h : Own Try.prog w base 66 1 a l c (pL xs)) (h63 : l ≤ 1000000000) (ht : TellsP v w (Of a) p xs)
    (hk : ∀ w' l', Own Try.prog w' base 66 1 a l' c (pL (xs.filter fun x => !p x)) → l' = (xs.filter fun x => !p x).length → Mod (Of a) w w' → K (.slice a l' c) w') : Cal Try.prog F_slices_DeleteFunc_patch_change #[.slice a l c, v] w K := by
  have hlen : xs.length = l := by have := h.len; simpa using this
  apply C_slices_DeleteFunc_patch_change
  unfold D_slices_DeleteFunc_patch_change
  refine IndexFuncP_c hlen (by omega) h.rowU.row ht fun w1 m1 => ⟨_, rfl, ?_⟩
  rcases idxF_cases p xs 0 with ⟨e, hno⟩ | ⟨i0, x0, e, hx0, hp0, hbef⟩
  · rw [e]
    refine tt rfl ?_
    have hf : xs.filter (fun x => !p x) = xs := List.filter_eq_self.2 fun x hx => by simp [hno x hx]
    exact hk w1 l (by rw [hf]; exact h.nos m1) (by rw [hf]; exact hlen.symm) (m1.mono fun _ _ h => h.elim)
  rw [e, Nat.zero_add]
  obtain ⟨hi0, hx0'⟩ := List.getElem?_eq_some_iff.1 hx0
  have hla : 0 < l := by omega
  obtain ⟨g, rfl, hg, _⟩ := h.sm hla
  have hcap := h.cap
  refine ff (by simp <;> omega) ⟨fun x w2 => ∃ (i j : Nat) (ys : List Nat), x = [.int .i64 i, .int .i64 j] ∧ i < j ∧ j ≤ l ∧ Own Try.prog w2 base 66 1 (some ⟨g, 0, none⟩) l c (pL ys) ∧ ys.take i = ((xs.take j).filter fun x => !p x) ∧ ys.drop j = xs.drop j ∧ Mod (Of (some ⟨g, 0, none⟩)) w w2,
    fun x _ => (l - nI x 1).toNat, ⟨i0, i0 + 1, xs, ?_, by omega, by omega, h.nos m1, ?_, rfl, m1.mono fun _ _ h => h.elim⟩, ?_⟩
  · rw [wrap64 (x := (i0 : Int) + 1) (by omega) (by omega)]; rfl
  · rw [List.take_succ_eq_append_getElem hi0, List.filter_append, hx0']
    have e1 : (xs.take i0).filter (fun x => !p x) = xs.take i0 := List.filter_eq_self.2 fun x hx => by simp [hbef x hx]
    rw [e1]; simp [hp0]
  rintro x w2 ⟨i, j, ys, rfl, hij, hjl, o2, h1, h2, M2⟩
  have hyl : ys.length = l := by have := o2.len; simpa using this
  refine ⟨_, rfl, cond_of (fun hb => ?_) (fun hb => ?_)⟩
  · have hj : j < l := by have := of_decide_eq_true hb; omega
    have hjx : j < xs.length := by omega
    have hjy : j < ys.length := by omega
    have hyx : ys[j] = xs[j] := by
      have e1 := (drop_get hjy).symm.trans (h2.trans (drop_get hjx))
      exact (List.cons.inj e1).1
    obtain ⟨b2, o, e2, hat⟩ := row_someP o2.rowU.row hjy
    simp at e2
    obtain ⟨rfl, rfl⟩ := e2
    refine ⟨_, index_slice (k := 1) (by kernel_rfl) (by omega) (by omega), ?_⟩
    rw [add_none, show (j : Int).toNat * 1 = j by omega]
    refine ⟨_, hat.load (by kernel_rfl) (pL_get hjy), ht w2 M2 _ (by rw [hyx]; exact List.getElem_mem hjx) _ fun w3 m3 => ⟨_, rfl, ?_⟩⟩
    rw [hyx]
    refine Share.cut (fun z w4 => ∃ (i' : Nat) (ys' : List Nat), z = [.int .i64 i'] ∧ i' < j + 1 ∧ Own Try.prog w4 base 66 1 (some ⟨g, 0, none⟩) l c (pL ys') ∧ ys'.take i' = ((xs.take (j + 1)).filter fun x => !p x) ∧ ys'.drop (j + 1) = xs.drop (j + 1) ∧ Mod (Of (some ⟨g, 0, none⟩)) w w4)
      (cond_of (fun hp => ?_) (fun hp => ?_)) ?_
    · have hp : p xs[j] = false := by simpa using hp
      refine ⟨_, rfl, _, index_slice (k := 1) (by kernel_rfl) (by omega) (by omega), ?_⟩
      rw [add_none, show 0 + (i : Int).toNat * 1 = i by omega]
      obtain ⟨w4, s1, s2, s3⟩ := (o2.nos m3).set (T' := 69) (i := i) (v := .pointer (some ⟨xs[j], 0, none⟩)) (by kernel_rfl) (by omega) rfl
      refine ⟨w4, s1, ?_⟩
      obtain ⟨k1, k2⟩ := keep_step h1 h2 (by omega) hij hjx hp
      rw [wrap64 (x := (i : Int) + 1) (by omega) (by omega)]
      refine ⟨i + 1, ys.set i xs[j], rfl, by omega, ?_, k1, k2, (M2.no m3).trans s3 fun x _ e => ⟨_, rfl, e⟩⟩
      have e3 : (pL ys).set i (.pointer (some ⟨xs[j], 0, none⟩)) = pL (ys.set i xs[j]) := by simp [pL, List.map_set, pV]
      rw [e3] at s2; exact s2
    · have hp : p xs[j] = true := by simpa using hp
      refine ⟨i, ys, rfl, by omega, o2.nos m3, ?_, ?_, M2.no m3⟩
      · rw [h1, List.take_succ_eq_append_getElem hjx, List.filter_append]; simp [hp]
      · rw [← List.drop_drop, h2, List.drop_drop]
    · rintro z w4 ⟨i', ys', rfl, hij', o4, k1, k2, M4⟩
      rw [wrap64 (x := (j : Int) + 1) (by omega) (by omega)]
      exact ⟨⟨i', j + 1, ys', rfl, hij', by omega, o4, k1, k2, M4⟩, by simp [nI, nth]; omega⟩
  · have hjl : j = l := by have := of_decide_eq_false hb; omega
    subst hjl
    refine ⟨_, rfl, _, _, _, slice_l (k := 1) (by kernel_rfl) (by omega) (by omega), ?_⟩
    rw [Int.toNat_natCast]
    obtain ⟨w3, zs, s1, s2, s3⟩ := o2.clear (ty := 0) elemZ_chs (i := i) (by omega) rfl
    refine ⟨w3, s1, _, _, _, slice_h (k := 1) (by kernel_rfl) (by omega) (by omega), ?_⟩
    have hcut : cutA (some ⟨g, 0, none⟩) c 0 1 = some ⟨g, 0, none⟩ := by
      unfold cutA; rw [if_neg (by omega)]; simp [add_none]
    rw [hcut, Int.toNat_natCast]
    have hxall : xs.take j = xs := List.take_of_length_le (by omega)
    rw [hxall] at h1
    have hsh := s2.shrink (i := i) (by omega) (by simp)
    have e5 : ((pL ys).take i ++ zs).take i = pL (xs.filter fun x => !p x) := by
      rw [← h1]
      have : ((pL ys).take i).length = i := by simp; omega
      rw [List.take_append_of_le_length (by omega), List.take_of_length_le (by omega)]
      simp [pL, List.map_take]
    rw [e5] at hsh
    refine hk w3 i hsh ?_ (M2.trans s3 fun x _ e => ⟨_, rfl, e⟩)
    rw [← h1]; simp; omega
theorem ContainsP_c {a : Option Addr} {l c : Nat} {xs : List Nat} {v : Value} {p : Nat → Bool} {S : Nat → Prop} (hl : xs.length = l) (h63 : l ≤ 9223372036854775806) (hr : Row w a (pL xs)) (ht : TellsP v w S p xs)
    (hk : ∀ w', Mod No w w' → K (.bool (xs.any p)) w') : Cal Try.prog F_slices_ContainsFunc_patch_change #[.slice a l c, v] w K := by
  apply C_slices_ContainsFunc_patch_change
  refine IndexFuncP_c hl h63 hr ht fun w' m => ⟨_, rfl, ?_⟩
  have e : decide (idxF p xs 0 ≥ 0) = xs.any p := by
    rcases idxF_cases p xs 0 with ⟨h1, h2⟩ | ⟨j, x, h1, h2, h3, _⟩
    · rw [h1]
      symm
      rw [show decide ((-1 : Int) ≥ 0) = false from rfl, List.any_eq_false]
      intro x hx; rw [h2 x hx]; simp
    · rw [h1, decide_eq_true (by omega)]
      symm
      exact List.any_eq_true.2 ⟨x, List.mem_of_getElem? h2, h3⟩
  rw [e]; exact hk w' m
/-- Bytes over others, from a place on. -/
def overB (b : List UInt8) (i : Nat) (ys : List UInt8) : List UInt8 := b.take i ++ ys ++ b.drop (i + ys.length)
theorem overB_len {b ys : List UInt8} {i : Nat} (h : i + ys.length ≤ b.length) : (overB b i ys).length = b.length := by unfold overB; simp; omega
theorem Lay_c' {a0 a2 : Option Addr} {l0 c0 l2 c2 i : Nat} {b ys : List UInt8} (hb : b.length = l0) (hy : ys.length = l2) (hin : i + l2 ≤ l0) (h63 : l0 ≤ 1048576) (hl0 : 0 < l0) (h0 : Row w a0 (u8L b)) (h2 : Row w a2 (u8L ys))
    (hk : ∀ w', Mod No w w' → AtU w' w.heap.size 0 (u8L (overB b i ys)) → K (.tuple #[.slice (some ⟨w.heap.size, 0, none⟩) l0 l0, .int .i64 0]) w') : Cal Try.prog F_num_Lay #[.slice a0 l0 c0, .int .i64 i, .slice a2 l2 c2] w K := by
  apply C_num_Lay
  unfold D_num_Lay
  have hwi : ∀ {K : Value → World → Prop}, K (.bool true) w → Cal Try.prog F_num_within #[.slice a0 l0 c0, .int .i64 i, .int .i64 ((l2 : Nat) : Int)] w K := fun hk => by
    apply C_num_within
    refine Share.dup (tt (decide_eq_true (by omega)) (tt (decide_eq_true (by omega)) (tt (decide_eq_true (by omega)) ⟨_, rfl, ?_⟩)))
    rw [wrap64 (x := (l0 : Int) - i) (by omega) (by omega), decide_eq_true (by omega)]
    exact hk
  refine hwi ⟨_, rfl, ff rfl ?_⟩
  obtain ⟨w1, hm1, hat1, hmod1, hsz1⟩ := makeSlice_run (P := Try.prog) (w := w) (n := l0) elemZ_bytes (by omega) (by omega) (by omega)
  obtain ⟨w2, hc1, hc2, hc3, hc4⟩ := copy_run (P := Try.prog) (T := 32) (T2 := 32) (ty := 3) (k := 1) (n := l0) (c := l0) (n2 := l0) (c2 := c0) (a2 := a0) (src := u8L b) (by kernel_rfl) hat1 (by rw [List.length_replicate]) (h0.nos hmod1) (by rw [length_u8L, hb]; omega) (one_u8L b)
  have e1 : splice (List.replicate (l0 * 1) (Value.int .u8 0)) 0 ((u8L b).take (Nat.min l0 l0 * 1)) = u8L b := by
    have : (u8L b).take (Nat.min l0 l0 * 1) = u8L b := List.take_of_length_le (by rw [length_u8L, hb, Nat.mul_one]; exact Nat.le_of_eq (Nat.min_self l0).symm)
    rw [this]; exact splice_all (by rw [length_u8L, hb, List.length_replicate]; omega)
  rw [e1] at hc2
  have M2 : Mod No w w2 := hmod1.trans hc3 fun x hx e => by omega
  have h2' := h2.nos M2
  refine ⟨_, _, _, w1, hm1, _, w2, hc1, _, _, _, slice_l (k := 1) (by kernel_rfl) (by omega) (by omega), ?_⟩
  rw [Int.toNat_natCast]
  by_cases hil : i = l0
  · have hy0 : ys = [] := List.eq_nil_of_length_eq_zero (by omega)
    have hl20 : l2 = 0 := by omega
    subst hy0
    have hcut : cutA (some ⟨w.heap.size, 0, none⟩) l0 i 1 = some ⟨w.heap.size, 0, none⟩ := by unfold cutA; rw [if_pos hil.symm]
    rw [hcut]
    obtain ⟨w3, hd1, hd2, hd3, hd4⟩ := copy_in (P := Try.prog) (T := 32) (T2 := 32) (ty := 3) (k := 1) (i := 0) (n := l0 - i) (c := l0 - i) (n2 := l2) (c2 := c2) (a2 := a2) (src := u8L []) (by kernel_rfl) hc2 (by simp; omega) h2' (by simp [hl20]) (one_u8L [])
    refine ⟨_, w3, hd1, hk w3 (M2.trans hd3 fun x hx e => by omega) ?_⟩
    have e2 : splice (u8L b) 0 ((u8L []).take (Nat.min l2 (l0 - i) * 1)) = u8L (overB b i []) := by simp [splice, u8L, overB]
    rw [e2] at hd2; exact hd2
  · have hcut : cutA (some ⟨w.heap.size, 0, none⟩) l0 i 1 = some ⟨w.heap.size, 0 + i, none⟩ := by
      unfold cutA; rw [if_neg (by omega)]; simp [add_none]
    rw [hcut]
    obtain ⟨w3, hd1, hd2, hd3, hd4⟩ := copy_in (P := Try.prog) (T := 32) (T2 := 32) (ty := 3) (k := 1) (i := i) (n := l0 - i) (c := l0 - i) (n2 := l2) (c2 := c2) (a2 := a2) (src := u8L ys) (by kernel_rfl) hc2 (by simp [hb]; omega) h2' (by simp [hy]) (one_u8L ys)
    refine ⟨_, w3, hd1, hk w3 (M2.trans hd3 fun x hx e => by omega) ?_⟩
    have e2 : splice (u8L b) i ((u8L ys).take (Nat.min l2 (l0 - i) * 1)) = u8L (overB b i ys) := by
      have : (u8L ys).take (Nat.min l2 (l0 - i) * 1) = u8L ys := List.take_of_length_le (by rw [length_u8L, hy, Nat.mul_one]; exact Nat.le_of_eq (Nat.min_eq_left (by omega)).symm)
      rw [this, splice_u8L]; rfl
    rw [e2] at hd2; exact hd2
end
end Go.Proofs.Ytocjjigmpgekfaa

/- Layer 11, the program's store: what it is, and what it is in memory. -/
open Go Go.Den Go.Proofs
namespace Go.Proofs.Ytocjjigmpgekfaa
/-- A change: its number, its block, where it begins, its bytes, what it waits for, whether it was in an image that was written. -/
structure Ch where
  id : Nat
  b : Nat
  frm : Nat
  data : List UInt8
  after : List Int
  out : Bool
/-- A block with open changes: its bytes without any, and these. -/
structure On where
  b : Nat
  base : Bk
  l : List Ch
structure Ps where
  C : Ca
  last : Nat
  ons : List On
def Ps.all (P : Ps) : List Ch := P.ons.flatMap (·.l)
def Ps.opn (P : Ps) (id : Int) : Bool := P.all.any fun c => (c.id : Int) == id
def meetB (c o : Ch) : Bool := decide (c.frm < o.frm + o.data.length) && decide (o.frm < c.frm + c.data.length)
def badB (op : Int → Bool) (pre : List Ch) (ok : List Int) (c : Ch) : Bool := (c.after.any fun id => op id && !(ok.contains id)) || (pre.any fun x => meetB x c && !(ok.contains (x.id : Int)))
def mayN (op : Int → Bool) (l : List Ch) : Nat → List Int
  | 0 => []
  | n + 1 => match l[n]? with
    | some c => if badB op (l.take n) (mayN op l n) c = true then mayN op l n else mayN op l n ++ [(c.id : Int)]
    | none => mayN op l n
def mayL (op : Int → Bool) (l : List Ch) : List Int := mayN op l l.length
/-- The base, and some changes upon it. -/
def withL (base : Bk) (l : List Ch) : Bk := l.foldl (fun b c => overB b c.frm c.data) base
structure WFS (P : Ps) : Prop where
  full : P.C.D.vs.length ≤ P.C.most
  onsN : (P.ons.map (·.b)).Nodup
  onlt : ∀ o ∈ P.ons, o.b < P.C.D.vs.length
  base : ∀ o ∈ P.ons, o.base.length = 256
  llen : ∀ o ∈ P.ons, o.l.length ≤ P.last
  ids : (P.all.map (·.id)).Nodup
  idr : ∀ x ∈ P.all, 1 ≤ x.id ∧ x.id ≤ P.last
  chb : ∀ o ∈ P.ons, ∀ x ∈ o.l, x.b = o.b
  dat : ∀ x ∈ P.all, 1 ≤ x.data.length ∧ x.frm + x.data.length ≤ 256
  aft : ∀ x ∈ P.all, x.after.length ≤ 1000000
  last : P.last ≤ 1000000
/-- One that was in an image that was written: all that it meets, and that came ahead of it, were too. -/
def Cls (l : List Ch) : Prop := l.Pairwise fun x y => y.out = true → meetB x y = true → x.out = true
/-- What holds between calls: blocks with open changes are pinned, and what is read is the base with all of them; all other ones are as on the disk. -/
structure WFP (P : Ps) : Prop where
  lne : ∀ o ∈ P.ons, o.l ≠ []
  pin : ∀ o ∈ P.ons, ∃ x ∈ P.C.l, x.b = o.b ∧ x.pins = 1 ∧ x.data = withL o.base o.l
  unp : ∀ x ∈ P.C.l, (∀ o ∈ P.ons, o.b ≠ x.b) → x.pins = 0 ∧ x.data = atD P.C.D x.b
  run : P.C.D.left = -1
  acc : ∀ o ∈ P.ons, atD P.C.D o.b = withL o.base (o.l.filter (·.out))
  may : ∀ o ∈ P.ons, ∀ x ∈ o.l, x.out = true → (x.id : Int) ∈ mayL P.opn o.l
  cls : ∀ o ∈ P.ons, Cls o.l
  afl : ∀ x ∈ P.all, ∀ k ∈ x.after, k < (x.id : Int)
theorem mem_all {P : Ps} {x : Ch} : x ∈ P.all ↔ ∃ o ∈ P.ons, x ∈ o.l := by unfold Ps.all; rw [List.mem_flatMap]
/-- A change in memory. -/
def ChAt (w : World) (rl : Nat → Nat) (q : Nat) (x : Ch) : Prop :=
  ∃ gd cd aa ca, AtU w q 0 [.int .i64 x.id, .int .i64 x.b, .int .i64 x.frm, .slice (some ⟨gd, 0, none⟩) x.data.length cd, .slice aa x.after.length ca, .bool x.out] ∧ At w gd 0 (u8L x.data) ∧ rl gd = 5 ∧ Row w aa (iL x.after) ∧ ∀ q, aa = some q → rl q.block = 5
/-- A block with open changes in memory. -/
def OnAt (w0 w : World) (rl : Nat → Nat) (ca : Nat → Nat) (q : Nat) (o : On) : Prop :=
  ∃ g cc la lc, AtU w q 0 [.slice (some ⟨g, 0, none⟩) 256 cc, .slice la o.l.length lc] ∧ At w g 0 (u8L o.base) ∧ rl g = 5 ∧ Own Try.prog w w0.heap.size 66 1 la o.l.length lc (pL (o.l.map fun x => ca x.id)) ∧ ∀ q, la = some q → rl q.block = 9 + 3 * o.b
/-- The store's region, by what a block is: 1 the cache's, 2 the store itself, 3 and 4 its maps, 5 bytes and rows that stay, 8 + 3b, 9 + 3b a block with open changes and its row, 10 + 3i the change i. -/
structure PIn (w0 : World) (R : Nat → Prop) (rl : Nat → Nat) (w : World) (sp c d mo mm : Nat) (ca oa : Nat → Nat) (Lo Lm : List (Int × Value)) (P : Ps) : Prop where
  cx : Cx w0 (fun x => rl x = 1) w c d P.C
  cell : AtU w sp 0 [.pointer (some ⟨c, 0, none⟩), .int .i64 P.C.D.vs.length, .int .i64 P.last, .map (some mo), .map (some mm)]
  mapO : MapAt w mo Lo
  mapM : MapAt w mm Lm
  rsp : rl sp = 2
  rmo : rl mo = 3
  rmm : rl mm = 4
  chs : ∀ x ∈ P.all, lookupL Lo x.id = some (pV (ca x.id)) ∧ rl (ca x.id) = 10 + 3 * x.id ∧ ChAt w rl (ca x.id) x
  ons : ∀ o ∈ P.ons, lookupL Lm o.b = some (pV (oa o.b)) ∧ rl (oa o.b) = 8 + 3 * o.b ∧ OnAt w0 w rl ca (oa o.b) o
  keysO : ∀ p ∈ Lo, ∃ x ∈ P.all, p.1 = (x.id : Int)
  keysM : ∀ p ∈ Lm, ∃ o ∈ P.ons, p.1 = (o.b : Int)
  wf : WFS P
  reg : ∀ x, rl x ≠ 0 → R x
  lo : ∀ x, R x → w0.heap.size ≤ x ∧ x < w.heap.size
  mod : Mod No w0 w
section
variable {w0 w w' : World} {R : Nat → Prop} {rl : Nat → Nat} {sp c d mo mm : Nat} {ca oa : Nat → Nat} {Lo Lm : List (Int × Value)} {P : Ps}
theorem ChAt.keep {S : Nat → Prop} {q : Nat} {x : Ch} (h : ChAt w rl q x) (k : Mod S w w') (hq : ¬ S q) (h5 : ∀ z, rl z = 5 → ¬ S z) : ChAt w' rl q x := by
  obtain ⟨gd, cd, aa, ca, h1, h2, h3, h4, h6⟩ := h
  exact ⟨gd, cd, aa, ca, h1.keep k hq, h2.keep k (h5 _ h3), h3, h4.keep k fun q hq => h5 _ (h6 q hq), h6⟩
theorem ChAt.role {rl' : Nat → Nat} {q : Nat} {x : Ch} (h : ChAt w rl q x) (hr : ∀ z, rl z = 5 → rl' z = 5) : ChAt w rl' q x := by
  obtain ⟨gd, cd, aa, ca, h1, h2, h3, h4, h6⟩ := h
  exact ⟨gd, cd, aa, ca, h1, h2, hr _ h3, h4, fun q hq => hr _ (h6 q hq)⟩
theorem OnAt.keep {S : Nat → Prop} {q : Nat} {o : On} (h : OnAt w0 w rl ca q o) (k : Mod S w w') (hq : ¬ S q) (h5 : ∀ z, rl z = 5 → ¬ S z) (h9 : ∀ z, rl z = 9 + 3 * o.b → ¬ S z) : OnAt w0 w' rl ca q o := by
  obtain ⟨g, cc, la, lc, h1, h2, h3, h4, h6⟩ := h
  exact ⟨g, cc, la, lc, h1.keep k hq, h2.keep k (h5 _ h3), h3, h4.keep k fun q hq => h9 _ (h6 q hq), h6⟩
theorem OnAt.role {rl' : Nat → Nat} {ca' : Nat → Nat} {q : Nat} {o : On} (h : OnAt w0 w rl ca q o) (hr : ∀ z, rl z ≠ 0 → rl' z = rl z) (hc : ∀ x ∈ o.l, ca' x.id = ca x.id) : OnAt w0 w rl' ca' q o := by
  obtain ⟨g, cc, la, lc, h1, h2, h3, h4, h6⟩ := h
  refine ⟨g, cc, la, lc, h1, h2, by rw [hr g (by omega)]; exact h3, ?_, fun q hq => by rw [hr q.block (by rw [h6 q hq]; omega)]; exact h6 q hq⟩
  have e : (o.l.map fun x => ca' x.id) = o.l.map fun x => ca x.id := List.map_congr_left hc
  rw [e]; exact h4
theorem PIn.keepS {S : Nat → Prop} (h : PIn w0 R rl w sp c d mo mm ca oa Lo Lm P) (k : Mod S w w') (hsr : ∀ x, R x → ¬ S x) (hw : ∀ x, x < w0.heap.size → ¬ S x) : PIn w0 R rl w' sp c d mo mm ca oa Lo Lm P := by
  have hr : ∀ {x}, rl x ≠ 0 → ¬ S x := fun hx => hsr _ (h.reg _ hx)
  exact {
    cx := h.cx.keep k (fun x hx => hr (by have e : rl x = 1 := hx; omega)) hw
    cell := h.cell.keep k (hr (by rw [h.rsp]; omega))
    mapO := h.mapO.keep k (hr (by rw [h.rmo]; omega))
    mapM := h.mapM.keep k (hr (by rw [h.rmm]; omega))
    rsp := h.rsp
    rmo := h.rmo
    rmm := h.rmm
    chs := fun x hx => by
      obtain ⟨h1, h2, h3⟩ := h.chs x hx
      exact ⟨h1, h2, h3.keep k (hr (by omega)) fun z hz => hr (by omega)⟩
    ons := fun o ho => by
      obtain ⟨h1, h2, h3⟩ := h.ons o ho
      exact ⟨h1, h2, h3.keep k (hr (by omega)) (fun z hz => hr (by omega)) fun z hz => hr (by omega)⟩
    keysO := h.keysO
    keysM := h.keysM
    wf := h.wf
    reg := h.reg
    lo := fun x hx => by have := h.lo x hx; have := k.size; omega
    mod := h.mod.trans k fun x hx e => absurd e (hw x hx) }
theorem PIn.nos (h : PIn w0 R rl w sp c d mo mm ca oa Lo Lm P) (k : Mod No w w') : PIn w0 R rl w' sp c d mo mm ca oa Lo Lm P := h.keepS k (fun _ _ => id) fun _ _ => id
theorem PIn.drew (h : PIn w0 R rl w sp c d mo mm ca oa Lo Lm P) : PIn w0 R rl (Go.Den.drew w) sp c d mo mm ca oa Lo Lm P := h.nos (Mod.refl No w).drew
theorem PIn.widen {R' : Nat → Prop} (h : PIn w0 R rl w sp c d mo mm ca oa Lo Lm P) (h1 : ∀ x, R x → R' x) (h2 : ∀ x, R' x → w0.heap.size ≤ x ∧ x < w.heap.size) : PIn w0 R' rl w sp c d mo mm ca oa Lo Lm P :=
  { h with reg := fun x hx => h1 x (h.reg x hx), lo := h2 }
theorem PIn.gro (h : PIn w0 R rl w sp c d mo mm ca oa Lo Lm P) (k : Mod No w w') : PIn w0 (Gro R w w') rl w' sp c d mo mm ca oa Lo Lm P :=
  (h.nos k).widen (fun x hx => .inl hx) fun x hx => by
    have := k.size
    have := h.mod.size
    rcases hx with hx | hx
    · have := h.lo x hx; omega
    · omega
theorem PIn.out_of {x : Nat} (h : PIn w0 R rl w sp c d mo mm ca oa Lo Lm P) (hx : w.heap.size ≤ x) : rl x = 0 := by
  by_cases e : rl x = 0
  · exact e
  · have := h.lo x (h.reg x e); omega
/-- The cache is another one. -/
theorem PIn.cache {w1 : World} {C' : Ca} (h : PIn w0 R rl w sp c d mo mm ca oa Lo Lm P) (m1 : Mod (fun x => rl x = 1) w w1) (m2 : Mod No w1 w') (hc : Cx w0 (Gro (fun x => rl x = 1) w w1) w' c d C') (hD : C'.D.vs.length = P.C.D.vs.length) (hm : C'.most = P.C.most) :
    ∃ rl', PIn w0 (Gro R w w1) rl' w' sp c d mo mm ca oa Lo Lm { P with C := C' } ∧ (∀ x, rl x ≠ 0 → rl' x = rl x) := by
  have hold : ∀ x, rl x ≠ 0 → x < w.heap.size := fun x hx => (h.lo x (h.reg x hx)).2
  have hz1 := m1.size
  have hz2 := m2.size
  have hw0 := h.mod.size
  have hsame : ∀ x, rl x ≠ 0 → (if w.heap.size ≤ x ∧ x < w1.heap.size then 1 else rl x) = rl x := by
    intro x hx
    rw [if_neg (by have := hold x hx; omega)]
  have k : Mod (fun x => rl x = 1) w w' := m1.no m2
  have n1 : ∀ {x}, rl x ≠ 0 → rl x ≠ 1 → ¬ (rl x = 1) := fun _ h => h
  refine ⟨fun x => if w.heap.size ≤ x ∧ x < w1.heap.size then 1 else rl x, ?_, hsame⟩
  exact {
    cx := by
      have e : (fun x => (if w.heap.size ≤ x ∧ x < w1.heap.size then 1 else rl x) = 1) = Gro (fun x => rl x = 1) w w1 := by
        funext x
        unfold Gro
        apply propext
        constructor
        · intro e
          split at e
          · rename_i hn; exact .inr hn
          · exact .inl e
        · rintro (e | e)
          · rw [hsame x (by omega)]; exact e
          · rw [if_pos e]
      rw [e]; exact hc
    cell := by
      have := h.cell.keep k (by rw [h.rsp]; omega)
      show AtU w' sp 0 [_, .int .i64 C'.D.vs.length, _, _, _]
      rw [hD]; exact this
    mapO := h.mapO.keep k (by rw [h.rmo]; omega)
    mapM := h.mapM.keep k (by rw [h.rmm]; omega)
    rsp := by show (if _ then 1 else rl sp) = 2; rw [hsame sp (by rw [h.rsp]; omega)]; exact h.rsp
    rmo := by show (if _ then 1 else rl mo) = 3; rw [hsame mo (by rw [h.rmo]; omega)]; exact h.rmo
    rmm := by show (if _ then 1 else rl mm) = 4; rw [hsame mm (by rw [h.rmm]; omega)]; exact h.rmm
    chs := fun x hx => by
      obtain ⟨h1, h2, h3⟩ := h.chs x hx
      refine ⟨h1, ?_, (h3.keep k (by omega) fun z hz => by omega).role fun z hz => ?_⟩
      · show (if _ then 1 else rl (ca x.id)) = _; rw [hsame _ (by omega)]; exact h2
      · show (if _ then 1 else rl z) = 5; rw [hsame z (by omega)]; exact hz
    ons := fun o ho => by
      obtain ⟨h1, h2, h3⟩ := h.ons o ho
      refine ⟨h1, ?_, (h3.keep k (by omega) (fun z hz => by omega) fun z hz => by omega).role hsame fun _ _ => rfl⟩
      show (if _ then 1 else rl (oa o.b)) = _; rw [hsame _ (by omega)]; exact h2
    keysO := h.keysO
    keysM := h.keysM
    wf := { full := (by show C'.D.vs.length ≤ C'.most; rw [hD, hm]; exact h.wf.full), onsN := h.wf.onsN, onlt := (fun o ho => by show o.b < C'.D.vs.length; rw [hD]; exact h.wf.onlt o ho), base := h.wf.base, llen := h.wf.llen, ids := h.wf.ids, idr := h.wf.idr, chb := h.wf.chb, dat := h.wf.dat, aft := h.wf.aft, last := h.wf.last }
    reg := fun x hx => by
      by_cases hn : w.heap.size ≤ x ∧ x < w1.heap.size
      · exact .inr hn
      · simp only [if_neg hn] at hx
        exact .inl (h.reg x hx)
    lo := fun x hx => by
      rcases hx with hx | hx
      · have := h.lo x hx; omega
      · omega
    mod := h.mod.trans k fun x hx e => by
      have := h.lo x (h.reg x (by omega))
      omega }
/-- A step in memory: the parts anew. -/
theorem PIn.step {S : Nat → Prop} {rl' ca' oa' : Nat → Nat} {Lo' Lm' : List (Int × Value)} {P' : Ps} (h : PIn w0 R rl w sp c d mo mm ca oa Lo Lm P) (hC : P'.C = P.C) (k : Mod S w w') (hx : Ext w w' rl rl') (hx1 : ∀ x, rl' x = 1 → rl x = 1)
    (hS : ∀ x, x < w.heap.size → S x → rl x ≠ 0 ∧ rl x ≠ 1 ∧ rl x ≠ 5)
    (hcell : AtU w' sp 0 [.pointer (some ⟨c, 0, none⟩), .int .i64 P.C.D.vs.length, .int .i64 P'.last, .map (some mo), .map (some mm)]) (hO : MapAt w' mo Lo') (hM : MapAt w' mm Lm')
    (hch : ∀ x ∈ P'.all, (x ∈ P.all ∧ lookupL Lo' x.id = lookupL Lo x.id ∧ ca' x.id = ca x.id ∧ ∀ q, S q → rl q ≠ 10 + 3 * x.id) ∨ (lookupL Lo' x.id = some (pV (ca' x.id)) ∧ rl' (ca' x.id) = 10 + 3 * x.id ∧ ChAt w' rl' (ca' x.id) x))
    (hon : ∀ o ∈ P'.ons, (o ∈ P.ons ∧ lookupL Lm' o.b = lookupL Lm o.b ∧ oa' o.b = oa o.b ∧ (∀ x ∈ o.l, ca' x.id = ca x.id) ∧ ∀ q, S q → rl q ≠ 8 + 3 * o.b ∧ rl q ≠ 9 + 3 * o.b) ∨ (lookupL Lm' o.b = some (pV (oa' o.b)) ∧ rl' (oa' o.b) = 8 + 3 * o.b ∧ OnAt w0 w' rl' ca' (oa' o.b) o))
    (hkO : ∀ p ∈ Lo', ∃ x ∈ P'.all, p.1 = (x.id : Int)) (hkM : ∀ p ∈ Lm', ∃ o ∈ P'.ons, p.1 = (o.b : Int)) (hwf : WFS P') :
    PIn w0 (Gro R w w') rl' w' sp c d mo mm ca' oa' Lo' Lm' P' where
  cx := by
    have e : (fun x => rl' x = 1) = fun x => rl x = 1 := by
      funext x
      exact propext ⟨hx1 x, fun e => by rw [hx.old x (by omega)]; exact e⟩
    rw [e, hC]
    refine h.cx.keep k (fun x hx' e => ?_) fun x hx' e => ?_
    · have e1 : rl x = 1 := hx'
      have := hS x (h.lo x (h.reg x (by omega))).2 e
      omega
    · have := h.mod.size
      have := hS x (by omega) e
      have := h.lo x (h.reg x (by omega))
      omega
  cell := by rw [hC]; exact hcell
  mapO := hO
  mapM := hM
  rsp := by rw [hx.old sp (by rw [h.rsp]; omega)]; exact h.rsp
  rmo := by rw [hx.old mo (by rw [h.rmo]; omega)]; exact h.rmo
  rmm := by rw [hx.old mm (by rw [h.rmm]; omega)]; exact h.rmm
  chs := fun x hx' => by
    rcases hch x hx' with ⟨e1, e2, e3, e4⟩ | hn
    · obtain ⟨h1, h2, h3⟩ := h.chs x e1
      rw [e3]
      refine ⟨e2.trans h1, by rw [hx.old _ (by omega)]; exact h2, (h3.keep k (fun e => e4 _ e h2) fun z hz e => ?_).role fun z hz => by rw [hx.old z (by omega)]; exact hz⟩
      have := hS z (h.lo z (h.reg z (by omega))).2 e
      omega
    · exact hn
  ons := fun o ho => by
    rcases hon o ho with ⟨e1, e2, e3, e4, e5⟩ | hn
    · obtain ⟨h1, h2, h3⟩ := h.ons o e1
      rw [e3]
      refine ⟨e2.trans h1, by rw [hx.old _ (by omega)]; exact h2, (h3.keep k (fun e => (e5 _ e).1 h2) (fun z hz e => ?_) fun z hz e => (e5 _ e).2 hz).role hx.old e4⟩
      have := hS z (h.lo z (h.reg z (by omega))).2 e
      omega
    · exact hn
  keysO := hkO
  keysM := hkM
  wf := hwf
  reg := fun x hn => by
    by_cases e : rl x = 0
    · exact .inr (hx.new x e hn)
    · exact .inl (h.reg x e)
  lo := fun x hx => by
    have := k.size
    have := h.mod.size
    rcases hx with hx | hx
    · have := h.lo x hx; omega
    · omega
  mod := h.mod.trans k fun x hx e => by
    have := h.mod.size
    have := hS x (by omega) e
    have := h.lo x (h.reg x (by omega))
    omega
end
end Go.Proofs.Ytocjjigmpgekfaa

/- Layer 11, the program's store: which changes may be written, and bytes with some changes. -/
open Go Go.Den Go.Proofs
namespace Go.Proofs.Ytocjjigmpgekfaa
section
variable {w0 w w' : World} {R : Nat → Prop} {rl : Nat → Nat} {sp c d mo mm : Nat} {ca oa : Nat → Nat} {Lo Lm : List (Int × Value)} {P : Ps} {K : Value → World → Prop}
theorem mapOpen : mapZ Try.prog 58 = some (.pointer none) := by kernel_rfl
theorem mapOns : mapZ Try.prog 59 = some (.pointer none) := by kernel_rfl
theorem mapOk : mapZ Try.prog 64 = some (.bool false) := by kernel_rfl
theorem PIn.lc (h : PIn w0 R rl w sp c d mo mm ca oa Lo Lm P) : Ru (Instr.loadAt 54 (.pointer (some (Addr.add ⟨sp, 0, none⟩ 0)))) w (.pointer (some ⟨c, 0, none⟩)) w := by
  rw [add_none]; exact h.cell.at.load (by kernel_rfl) rfl
theorem PIn.llen' (h : PIn w0 R rl w sp c d mo mm ca oa Lo Lm P) : Ru (Instr.loadAt 3 (.pointer (some (Addr.add ⟨sp, 0, none⟩ 1)))) w (.int .i64 P.C.D.vs.length) w := by
  rw [add_none]; exact h.cell.at.load (by kernel_rfl) rfl
theorem PIn.llast (h : PIn w0 R rl w sp c d mo mm ca oa Lo Lm P) : Ru (Instr.loadAt 2 (.pointer (some (Addr.add ⟨sp, 0, none⟩ 2)))) w (.int .i64 P.last) w := by
  rw [add_none]; exact h.cell.at.load (by kernel_rfl) rfl
theorem PIn.lo' (h : PIn w0 R rl w sp c d mo mm ca oa Lo Lm P) : Ru (Instr.loadAt 58 (.pointer (some (Addr.add ⟨sp, 0, none⟩ 3)))) w (.map (some mo)) w := by
  rw [add_none]; exact h.cell.at.load (by kernel_rfl) rfl
theorem PIn.lm (h : PIn w0 R rl w sp c d mo mm ca oa Lo Lm P) : Ru (Instr.loadAt 59 (.pointer (some (Addr.add ⟨sp, 0, none⟩ 4)))) w (.map (some mm)) w := by
  rw [add_none]; exact h.cell.at.load (by kernel_rfl) rfl
/-- What the map of open changes tells of a number. -/
theorem PIn.lookO (h : PIn w0 R rl w sp c d mo mm ca oa Lo Lm P) (n : Int) : ∃ p : Option Addr, Ru (Instr.lookup 58 (.map (some mo)) (.int .i64 n) false) w (.pointer p) w ∧ p.isNone = !P.opn n ∧ ∀ x ∈ P.all, (x.id : Int) = n → p = some ⟨ca x.id, 0, none⟩ := by
  have hl := lookup_run (P := Try.prog) mapOpen h.mapO (k := n)
  cases hL : lookupL Lo n with
  | none =>
    rw [hL] at hl
    have hno : ∀ x ∈ P.all, (x.id : Int) ≠ n := fun x hx e => by
      have := (h.chs x hx).1
      rw [e, hL] at this; cases this
    refine ⟨none, hl, ?_, fun x hx e => absurd e (hno x hx)⟩
    have : P.opn n = false := by
      unfold Ps.opn
      rw [List.any_eq_false]
      intro x hx; simpa using hno x hx
    rw [this]; rfl
  | some v =>
    rw [hL] at hl
    obtain ⟨x, hx, e⟩ := h.keysO _ (look_mem hL)
    have e2 : n = (x.id : Int) := e
    have h1 := (h.chs x hx).1
    rw [← e2, hL] at h1
    have := Option.some.inj h1
    subst this
    have ho : P.opn n = true := by
      unfold Ps.opn
      rw [List.any_eq_true]
      exact ⟨x, hx, by simp [e2]⟩
    refine ⟨some ⟨ca x.id, 0, none⟩, hl, by rw [ho]; rfl, fun y hy ey => ?_⟩
    have h2 := (h.chs y hy).1
    rw [ey, hL] at h2
    have := Option.some.inj h2
    simp [pV] at this
    rw [this]
def onOf (P : Ps) (n : Int) : Option On := P.ons.find? fun o => (o.b : Int) == n
theorem onOf_some {P : Ps} {n : Int} {o : On} (h : onOf P n = some o) : o ∈ P.ons ∧ n = (o.b : Int) := by
  unfold onOf at h
  refine ⟨List.mem_of_find?_eq_some h, ?_⟩
  have := List.find?_some h
  simp at this; exact this.symm
theorem onOf_none {P : Ps} {n : Int} (h : onOf P n = none) : ∀ o ∈ P.ons, (o.b : Int) ≠ n := by
  unfold onOf at h
  intro o ho
  have := List.find?_eq_none.1 h o ho
  simpa using this
theorem PIn.lookM (h : PIn w0 R rl w sp c d mo mm ca oa Lo Lm P) (n : Int) : Ru (Instr.lookup 59 (.map (some mm)) (.int .i64 n) false) w (.pointer ((onOf P n).map fun o => ⟨oa o.b, 0, none⟩)) w := by
  have hl := lookup_run (P := Try.prog) mapOns h.mapM (k := n)
  cases ho : onOf P n with
  | none =>
    have hL : lookupL Lm n = none := by
      cases hL : lookupL Lm n with
      | none => rfl
      | some v =>
        obtain ⟨o, ho', e⟩ := h.keysM _ (look_mem hL)
        exact absurd (show (o.b : Int) = n from e.symm) (onOf_none ho o ho')
    rw [hL] at hl; exact hl
  | some o =>
    obtain ⟨h1, rfl⟩ := onOf_some ho
    rw [(h.ons o h1).1] at hl
    exact hl
/-- The fields of a change. -/
theorem ChAt.ld {q j : Nat} {x : Ch} (h : ChAt w rl q x) {T : TypeId} {v : Value} (hT : scal Try.prog T = true)
    (hj : ∀ gd cd aa cc, ([.int .i64 x.id, .int .i64 x.b, .int .i64 x.frm, .slice (some ⟨gd, 0, none⟩) x.data.length cd, .slice aa x.after.length cc, .bool x.out] : List Value)[j]? = some v) : Ru (Instr.loadAt T (.pointer (some (Addr.add ⟨q, 0, none⟩ j)))) w v w := by
  obtain ⟨gd, cd, aa, cc, h1, _⟩ := h
  have := h1.at.load (P := Try.prog) hT (hj gd cd aa cc)
  rw [Nat.zero_add] at this
  rw [add_none, Nat.zero_add]; exact this
theorem ChAt.ldD {q : Nat} {x : Ch} (h : ChAt w rl q x) : ∃ gd cd, Ru (Instr.loadAt 32 (.pointer (some (Addr.add ⟨q, 0, none⟩ 3)))) w (.slice (some ⟨gd, 0, none⟩) x.data.length cd) w ∧ At w gd 0 (u8L x.data) := by
  obtain ⟨gd, cd, aa, cc, h1, h2, _⟩ := h
  exact ⟨gd, cd, by rw [add_none]; exact h1.at.load (by kernel_rfl) rfl, h2⟩
theorem ChAt.ldA {q : Nat} {x : Ch} (h : ChAt w rl q x) : ∃ aa cc, Ru (Instr.loadAt 33 (.pointer (some (Addr.add ⟨q, 0, none⟩ 4)))) w (.slice aa x.after.length cc) w ∧ Row w aa (iL x.after) := by
  obtain ⟨gd, cd, aa, cc, h1, _, _, h4, _⟩ := h
  exact ⟨aa, cc, by rw [add_none]; exact h1.at.load (by kernel_rfl) rfl, h4⟩
theorem given_c (h : PIn w0 R rl w sp c d mo mm ca oa Lo Lm P) {n : Int} (hk : K (.bool (decide (1 ≤ n ∧ n ≤ P.last))) w) : Cal Try.prog F_patch_Store_given #[.pointer (some ⟨sp, 0, none⟩), .int .i64 n] w K := by
  apply C_patch_Store_given
  unfold D_patch_Store_given
  refine Share.cut (fun x w' => x = [.bool (decide (1 ≤ n ∧ n ≤ P.last))] ∧ w' = w) (cond_of (fun hb => ?_) (fun hb => ?_)) ?_
  · have := of_decide_eq_true hb
    refine ⟨_, rfl, _, h.llast, ?_, rfl⟩
    congr 2; rw [Bool.eq_iff_iff]; simp only [decide_eq_true_eq]; omega
  · have := of_decide_eq_false hb
    refine ⟨?_, rfl⟩
    congr 2; rw [Bool.eq_iff_iff]; simp; omega
  · rintro x w' ⟨rfl, rfl⟩
    exact ⟨_, rfl, hk⟩
set_option maxRecDepth 100000 in
theorem meets_c {q1 q2 : Nat} {x y : Ch} (h1 : ChAt w rl q1 x) (h2 : ChAt w rl q2 y) (b1 : x.frm + x.data.length ≤ 256) (b2 : y.frm + y.data.length ≤ 256) (hk : ∀ w', Mod No w w' → K (.bool (meetB x y)) w') : Cal Try.prog F_patch_change_meets #[.pointer (some ⟨q1, 0, none⟩), .pointer (some ⟨q2, 0, none⟩)] w K := by
  apply C_patch_change_meets
  unfold D_patch_change_meets
  have md : Mod No w (Go.Den.drew w) := (Mod.refl No w).drew
  have h1d : ChAt (Go.Den.drew w) rl q1 x := h1.keep md id fun _ _ => id
  have h2d : ChAt (Go.Den.drew w) rl q2 y := h2.keep md id fun _ _ => id
  obtain ⟨g1, c1, d1, _⟩ := h1d.ldD
  obtain ⟨g2, c2, d2, _⟩ := h2d.ldD
  refine Share.cut (fun z w' => z = [.bool (meetB x y)] ∧ w' = Go.Den.drew w) ⟨_, rfl, _, h1d.ld (j := 2) (by kernel_rfl) (fun _ _ _ _ => rfl), _, rfl, _, h2d.ld (j := 2) (by kernel_rfl) (fun _ _ _ _ => rfl), _, rfl, _, _, _, d2, ?_⟩ ?_
  · rw [wrap64 (x := (y.frm : Int) + (y.data.length : Int)) (by omega) (by omega)]
    refine cond_of (fun hb => ?_) (fun hb => ?_)
    · have hb := of_decide_eq_true hb
      refine ⟨_, rfl, _, h2d.ld (j := 2) (by kernel_rfl) (fun _ _ _ _ => rfl), _, rfl, _, h1d.ld (j := 2) (by kernel_rfl) (fun _ _ _ _ => rfl), _, rfl, _, _, _, d1, ?_, rfl⟩
      rw [wrap64 (x := (x.frm : Int) + (x.data.length : Int)) (by omega) (by omega)]
      unfold meetB
      have e1 : decide (x.frm < y.frm + y.data.length) = true := decide_eq_true (by omega)
      rw [e1, Bool.true_and]
      congr 2; rw [Bool.eq_iff_iff]; simp only [decide_eq_true_eq]; omega
    · have hb := of_decide_eq_false hb
      refine ⟨?_, rfl⟩
      unfold meetB
      have e1 : decide (x.frm < y.frm + y.data.length) = false := decide_eq_false (by omega)
      rw [e1, Bool.false_and]
  · rintro z w' ⟨rfl, rfl⟩
    exact ⟨_, rfl, hk _ md⟩
/-- The map of those that may be written. -/
def okM (l : List Int) : List (Int × Value) := l.map fun k => (k, .bool true)
theorem look_ok : ∀ (l : List Int) (k : Int), lookupL (okM l) k = if l.contains k then some (.bool true) else none
  | [], k => rfl
  | x :: r, k => by
    have ih := look_ok r k
    unfold okM at ih ⊢
    rw [List.map_cons]
    simp only [lookupL]
    by_cases h : x = k
    · subst h; simp
    · have h' : ¬ k = x := fun e => h e.symm
      rw [if_neg h, ih]
      simp [h']
set_option maxRecDepth 100000 in
theorem lookOk {m : Nat} {l : List Int} (h : MapAt w m (okM l)) (k : Int) : Ru (Instr.lookup 64 (.map (some m)) (.int .i64 k) false) w (.bool (l.contains k)) w := by
  have := lookup_run (P := Try.prog) mapOk h (k := k)
  rw [look_ok] at this
  by_cases hc : l.contains k = true
  · rw [if_pos hc] at this; rw [hc]; exact this
  · rw [if_neg hc] at this
    have : l.contains k = false := by simpa using hc
    rw [this]; assumption
/-- A cell that holds a map of marks; a cell that holds a pointer. -/
theorem tells_may1 {S : Nat → Prop} {q2 q5 m9 : Nat} {ok xs : List Int} (h : PIn w0 R rl w sp c d mo mm ca oa Lo Lm P) (hS : ∀ x, ¬ S x) (h2 : At w q2 0 [.pointer (some ⟨sp, 0, none⟩)]) (h5 : At w q5 0 [.map (some m9)]) (h9 : MapAt w m9 (okM ok)) :
    Tells (.func (.func F_patch_Store_may_1) #[] #[.pointer (some ⟨q2, 0, none⟩), .pointer (some ⟨q5, 0, none⟩)]) w S (fun id => P.opn id && !(ok.contains id)) xs := by
  intro w' k x _ K hK
  have k' : Mod No w w' := k.mono fun z _ e => absurd e (hS z)
  have h' := h.nos k'
  refine ⟨_, _, _, rfl, ?_⟩
  show Cal Try.prog F_patch_Store_may_1 #[.int .i64 x, .pointer (some ⟨q2, 0, none⟩), .pointer (some ⟨q5, 0, none⟩)] w' K
  apply C_patch_Store_may_1
  obtain ⟨p, hp, hpn, _⟩ := h'.lookO x
  refine Share.cut (fun z w2 => z = [.bool (P.opn x && !(ok.contains x))] ∧ w2 = w') ⟨_, (h2.keep k' id).load (i := 0) (by kernel_rfl) rfl, _, rfl, some mo, h'.lo', p, hp, cond_of (fun hb => ?_) (fun hb => ?_)⟩ ?_
  · have ho : P.opn x = true := by
      have : p.isNone = false := by simpa using hb
      rw [hpn] at this; simpa using this
    refine ⟨some m9, (h5.keep k' id).load (i := 0) (by kernel_rfl) rfl, _, lookOk (h9.keep k' id) x, ?_, rfl⟩
    rw [ho, Bool.true_and]
  · have ho : P.opn x = false := by
      have : p.isNone = true := by simpa using hb
      rw [hpn] at this; simpa using this
    rw [ho, Bool.false_and]; exact ⟨rfl, rfl⟩
  · rintro z w2 ⟨rfl, rfl⟩
    exact ⟨_, rfl, hK _ (Mod.refl _ _)⟩
theorem tells_may2 {S : Nat → Prop} {q7 q5 m9 : Nat} {y : Ch} {ok : List Int} {l : List Ch} (h : PIn w0 R rl w sp c d mo mm ca oa Lo Lm P) (hS : ∀ x, ¬ S x) (hl : ∀ x ∈ l, x ∈ P.all) (hy : y ∈ P.all) (h7 : At w q7 0 [.pointer (some ⟨ca y.id, 0, none⟩)]) (h5 : At w q5 0 [.map (some m9)]) (h9 : MapAt w m9 (okM ok))
    (p : Nat → Bool) (hp : ∀ x ∈ l, p (ca x.id) = (meetB x y && !(ok.contains (x.id : Int)))) :
    TellsP (.func (.func F_patch_Store_may_2) #[] #[.pointer (some ⟨q7, 0, none⟩), .pointer (some ⟨q5, 0, none⟩)]) w S p (l.map fun x => ca x.id) := by
  intro w' k qx hqx K hK
  obtain ⟨x, hx, rfl⟩ := List.mem_map.1 hqx
  have k' : Mod No w w' := k.mono fun z _ e => absurd e (hS z)
  have md : Mod No w' (Go.Den.drew w') := (Mod.refl No w').drew
  have k2 := k'.no md
  have h' := h.nos k2
  have hxa := hl x hx
  refine ⟨_, _, _, rfl, ?_⟩
  show Cal Try.prog F_patch_Store_may_2 #[.pointer (some ⟨ca x.id, 0, none⟩), .pointer (some ⟨q7, 0, none⟩), .pointer (some ⟨q5, 0, none⟩)] w' K
  apply C_patch_Store_may_2
  refine Share.cut (fun z w2 => z = [.bool (meetB x y && !(ok.contains (x.id : Int)))] ∧ Mod No w' w2) ⟨_, (h7.keep k2 id).load (i := 0) (by kernel_rfl) rfl, meets_c (h'.chs x hxa).2.2 (h'.chs y hy).2.2 (h.wf.dat x hxa).2 (h.wf.dat y hy).2 fun w1 m1 => ⟨_, rfl, cond_of (fun hb => ?_) (fun hb => ?_)⟩⟩ ?_
  · have h1 := h'.nos m1
    have k3 := k2.no m1
    refine ⟨some m9, (h5.keep k3 id).load (i := 0) (by kernel_rfl) rfl, _, rfl, _, (h1.chs x hxa).2.2.ld (j := 0) (by kernel_rfl) (fun _ _ _ _ => rfl), _, lookOk (h9.keep k3 id) _, ?_, md.no m1⟩
    rw [hb, Bool.true_and]
  · rw [hb, Bool.false_and]; exact ⟨rfl, md.no m1⟩
  · rintro z w2 ⟨rfl, m2⟩
    refine ⟨_, rfl, ?_⟩
    have := hK w2 m2
    rwa [hp x hx] at this
end
end Go.Proofs.Ytocjjigmpgekfaa

/- Layer 11, the program's store: may and with. -/
open Go Go.Den Go.Proofs
namespace Go.Proofs.Ytocjjigmpgekfaa
theorem sub_all {P : Ps} {o : On} (ho : o ∈ P.ons) : o.l.Sublist P.all := by
  unfold Ps.all
  rw [List.flatMap_def]
  exact List.sublist_flatten_of_mem (List.mem_map.2 ⟨o, ho, rfl⟩)
theorem ids_on {P : Ps} (h : WFS P) {o : On} (ho : o ∈ P.ons) : (o.l.map (·.id)).Nodup := ((sub_all ho).map _).nodup h.ids
theorem on_all {P : Ps} {o : On} (ho : o ∈ P.ons) {x : Ch} (hx : x ∈ o.l) : x ∈ P.all := mem_all.2 ⟨o, ho, hx⟩
theorem mayN_mem {op : Int → Bool} {l : List Ch} : ∀ (n : Nat) (k : Int), k ∈ mayN op l n → ∃ x ∈ l.take n, k = (x.id : Int)
  | 0, k, h => by simp [mayN] at h
  | n + 1, k, h => by
    unfold mayN at h
    cases hx : l[n]? with
    | none =>
      rw [hx] at h
      obtain ⟨x, h1, h2⟩ := mayN_mem n k h
      exact ⟨x, List.take_subset_take_left l (by omega) h1, h2⟩
    | some c =>
      rw [hx] at h
      obtain ⟨hn, he⟩ := List.getElem?_eq_some_iff.1 hx
      have ht : l.take (n + 1) = l.take n ++ [c] := by rw [List.take_succ_eq_append_getElem hn, he]
      rw [ht]
      have h : k ∈ (if badB op (l.take n) (mayN op l n) c = true then mayN op l n else mayN op l n ++ [(c.id : Int)]) := h
      split at h
      · obtain ⟨x, h1, h2⟩ := mayN_mem n k h
        exact ⟨x, List.mem_append.2 (.inl h1), h2⟩
      · rcases List.mem_append.1 h with h | h
        · obtain ⟨x, h1, h2⟩ := mayN_mem n k h
          exact ⟨x, List.mem_append.2 (.inl h1), h2⟩
        · simp at h; exact ⟨c, by simp, h⟩
theorem okM_snoc {l : List Int} {k : Int} (h : k ∉ l) : putL k (.bool true) (okM l) = okM (l ++ [k]) := by
  rw [putL_new]
  · simp [okM]
  · intro p hp
    unfold okM at hp
    obtain ⟨x, hx, rfl⟩ := List.mem_map.1 hp
    intro e
    exact h (by rw [← e]; exact hx)
/-- A mark of changes as a mark of where they lie. -/
def pOf (ca : Nat → Nat) (f : Ch → Bool) (l : List Ch) (q : Nat) : Bool := match l.find? fun x => ca x.id == q with | some x => f x | none => false
section
variable {w0 w w' : World} {R : Nat → Prop} {rl : Nat → Nat} {sp c d mo mm : Nat} {ca oa : Nat → Nat} {Lo Lm : List (Int × Value)} {P : Ps} {K : Value → World → Prop}
theorem PIn.inj (h : PIn w0 R rl w sp c d mo mm ca oa Lo Lm P) {x y : Ch} (hx : x ∈ P.all) (hy : y ∈ P.all) (e : ca x.id = ca y.id) : x = y := by
  have h1 := (h.chs x hx).2.1
  have h2 := (h.chs y hy).2.1
  rw [e, h2] at h1
  exact map_inj h.wf.ids hx hy (by omega)
theorem PIn.pOf (h : PIn w0 R rl w sp c d mo mm ca oa Lo Lm P) {f : Ch → Bool} {l : List Ch} (hl : ∀ x ∈ l, x ∈ P.all) {x : Ch} (hx : x ∈ l) : pOf ca f l (ca x.id) = f x := by
  unfold Go.Proofs.Ytocjjigmpgekfaa.pOf
  cases hf : l.find? fun y => ca y.id == ca x.id with
  | none =>
    have := List.find?_eq_none.1 hf x hx
    simp at this
  | some y =>
    have hy := List.mem_of_find?_eq_some hf
    have he := List.find?_some hf
    simp at he
    rw [h.inj (hl y hy) (hl x hx) he]
theorem any_pOf (h : PIn w0 R rl w sp c d mo mm ca oa Lo Lm P) {f : Ch → Bool} {l : List Ch} (hl : ∀ x ∈ l, x ∈ P.all) : (l.map fun x => ca x.id).any (Go.Proofs.Ytocjjigmpgekfaa.pOf ca f l) = l.any f := by
  rw [List.any_map]
  rw [Bool.eq_iff_iff, List.any_eq_true, List.any_eq_true]
  constructor
  · rintro ⟨x, hx, e⟩
    simp only [Function.comp] at e
    rw [h.pOf hl hx] at e
    exact ⟨x, hx, e⟩
  · rintro ⟨x, hx, e⟩
    refine ⟨x, hx, ?_⟩
    simp only [Function.comp]
    rw [h.pOf hl hx]; exact e
theorem OnAt.ldL {o : On} {q : Nat} (h : OnAt w0 w rl ca q o) : ∃ la lc, Ru (Instr.loadAt 66 (.pointer (some (Addr.add ⟨q, 0, none⟩ 1)))) w (.slice la o.l.length lc) w ∧ Row w la (pL (o.l.map fun x => ca x.id)) ∧ o.l.length ≤ lc ∧ ∀ q, la = some q → rl q.block = 9 + 3 * o.b := by
  obtain ⟨g, cc, la, lc, h1, h2, h3, h4, h5⟩ := h
  exact ⟨la, lc, by rw [add_none]; exact h1.at.load (by kernel_rfl) rfl, h4.rowU.row, h4.cap.1, h5⟩
theorem OnAt.ldB {o : On} {q : Nat} (h : OnAt w0 w rl ca q o) : ∃ g cc, Ru (Instr.loadAt 32 (.pointer (some (Addr.add ⟨q, 0, none⟩ 0)))) w (.slice (some ⟨g, 0, none⟩) 256 cc) w ∧ At w g 0 (u8L o.base) := by
  obtain ⟨g, cc, la, lc, h1, h2, h3, h4, h5⟩ := h
  exact ⟨g, cc, by rw [add_none]; exact h1.at.load (by kernel_rfl) rfl, h2⟩
theorem box_store (w : World) (p : Option Addr) : (Instr.box 28 (.pointer p)).run Try.prog w = .ok (.pointer (some ⟨w.heap.size, 0, none⟩)) (w.alloc (.cells ⟨[.pointer p]⟩ 28)) := rfl
theorem alloc_map (w : World) : (Instr.alloc 64 true (.tuple #[])).run Try.prog w = .ok (.pointer (some ⟨w.heap.size, 0, none⟩)) (w.alloc (.cells ⟨[.map none]⟩ 64)) := by kernel_rfl
theorem alloc_pch (w : World) : (Instr.alloc 69 true (.tuple #[])).run Try.prog w = .ok (.pointer (some ⟨w.heap.size, 0, none⟩)) (w.alloc (.cells ⟨[.pointer none]⟩ 69)) := by kernel_rfl
theorem store_one {T : TypeId} {z v : Value} {t : TypeId} (hT : scal Try.prog T = true) (hv : v.oneCell' = true) : RuU (Instr.storeAt T (.pointer (some ⟨w.heap.size, 0, none⟩)) v) (w.alloc (.cells ⟨[z]⟩ t)) (w.alloc (.cells ⟨[v]⟩ t)) := by
  have := store_cell (P := Try.prog) (w := w.alloc (.cells ⟨[z]⟩ t)) (T := T) (b := w.heap.size) (o := 0) (l := [z]) (t := t) (fz := (0, 0)) (v := v) hT (heap_new w _) (by simp) (by simp) hv
  rw [put_new] at this
  exact this
theorem idx_ch {g n c i : Nat} (hi : i < n) : Al (Instr.indexAt 66 (.slice (some ⟨g, 0, none⟩) n c) (.int .i64 i)) (.pointer (some ⟨g, i, none⟩)) := by
  intro w'
  have := index_slice (P := Try.prog) (T := 66) (k := 1) (a := ⟨g, 0, none⟩) (n := n) (c := c) (kk := .i64) (i := i) (by kernel_rfl) (by omega) (by omega) w'
  rw [Int.toNat_natCast, add_none, Nat.zero_add, Nat.mul_one] at this
  exact this
set_option maxRecDepth 100000 in
theorem may11_c (h : PIn w0 R rl w sp c d mo mm ca oa Lo Lm P) {o : On} (ho : o ∈ P.ons) (hk : ∀ w' m, Mod No w w' → w.heap.size ≤ m → MapAt w' m (okM (mayL P.opn o.l)) → K (.map (some m)) w') :
    Cal Try.prog F_patch_Store_may #[.pointer (some ⟨sp, 0, none⟩), .pointer (some ⟨oa o.b, 0, none⟩)] w K := by
  apply C_patch_Store_may
  unfold D_patch_Store_may
  have m1 : Mod No w (w.alloc (.cells ⟨[.pointer (some ⟨sp, 0, none⟩)]⟩ 28)) := (Mod.refl No w).alloc _
  have a2 : At (w.alloc (.cells ⟨[.pointer (some ⟨sp, 0, none⟩)]⟩ 28)) w.heap.size 0 [.pointer (some ⟨sp, 0, none⟩)] := AtU.new.at
  have s1 : (w.alloc (.cells ⟨[.pointer (some ⟨sp, 0, none⟩)]⟩ 28)).heap.size = w.heap.size + 1 := by simp
  refine ⟨_, _, box_store _ _, ?_⟩
  generalize w.alloc (.cells ⟨[.pointer (some ⟨sp, 0, none⟩)]⟩ 28) = w1 at *
  have m2 : Mod No w1 (w1.alloc (.map #[] 0)) := (Mod.refl No w1).alloc _
  have mp2 : MapAt (w1.alloc (.map #[] 0)) w1.heap.size [] := MapAt.new
  have s2 : (w1.alloc (.map #[] 0)).heap.size = w1.heap.size + 1 := by simp
  refine ⟨_, _, makeMap_run, ?_⟩
  generalize w1.alloc (.map #[] 0) = w2 at *
  have m3 : Mod No w2 (w2.alloc (.cells ⟨[.map (some w1.heap.size)]⟩ 64)) := (Mod.refl No w2).alloc _
  have a5 : At (w2.alloc (.cells ⟨[.map (some w1.heap.size)]⟩ 64)) w2.heap.size 0 [.map (some w1.heap.size)] := AtU.new.at
  have s3 : (w2.alloc (.cells ⟨[.map (some w1.heap.size)]⟩ 64)).heap.size = w2.heap.size + 1 := by simp
  refine ⟨_, _, alloc_map _, _, store_one (by kernel_rfl) rfl, _, rfl, ?_⟩
  generalize w2.alloc (.cells ⟨[.map (some w1.heap.size)]⟩ 64) = w4 at *
  have M4 := (m1.no m2).no m3
  have h4 := h.nos M4
  obtain ⟨la, lc, l1, l2, l3, l4⟩ := (h4.ons o ho).2.2.ldL
  have hll := h.wf.llen o ho
  have hlast := h.wf.last
  have hoa := fun x hx => on_all ho (x := x) hx
  refine ⟨la, _, lc, l1, ⟨fun x w5 => ∃ (i : Nat) (y : Value), i ≤ o.l.length ∧ x = [y, .int .i64 i] ∧ MapAt w5 w1.heap.size (okM (mayN P.opn o.l i)) ∧ Mod (fun z => z = w1.heap.size) w4 w5, fun x _ => (o.l.length - nI x 1).toNat, ⟨0, _, by omega, rfl, (mp2.keep m3 id), Mod.refl _ _⟩, ?_⟩⟩
  rintro x w5 ⟨i, y, hi, rfl, mp5, M5⟩
  have M5' : Mod No w w5 := M4.anys.trans M5 fun z hz e => by omega
  have h5 := h.nos M5'
  have a25 : At w5 w.heap.size 0 [.pointer (some ⟨sp, 0, none⟩)] := ((a2.keep m2 id).keep m3 id).keep M5 (by omega)
  have a55 : At w5 w2.heap.size 0 [.map (some w1.heap.size)] := a5.keep M5 (by omega)
  refine ⟨_, rfl, cond_of (fun hb => ?_) (fun hb => ?_)⟩
  · have hi : i < o.l.length := by have := of_decide_eq_true hb; omega
    have hxm := List.getElem_mem hi
    have hxa := hoa _ hxm
    have hlr : Row w5 la (pL (o.l.map fun x => ca x.id)) := l2.keep M5 fun q hq e => by
      have h9 := l4 q hq
      have h0 := h.out_of (x := w1.heap.size) (by omega)
      rw [e] at h9
      omega
    have hilm : i < (o.l.map fun x => ca x.id).length := by simp; exact hi
    obtain ⟨b3, o3, hla, hat3⟩ := row_someP hlr hilm
    subst hla
    have hld := hat3.load (P := Try.prog) (T := 69) (by kernel_rfl) (pL_get hilm)
    rw [List.getElem_map] at hld
    refine ⟨_, index_slice (k := 1) (by kernel_rfl) (by omega) (by omega), ?_⟩
    rw [add_none, show (i : Int).toNat * 1 = i by omega]
    refine ⟨_, hld, _, _, alloc_pch _, _, store_one (by kernel_rfl) rfl, ?_⟩
    have m7 : Mod No w5 (w5.alloc (.cells ⟨[.pointer (some ⟨ca o.l[i].id, 0, none⟩)]⟩ 69)) := (Mod.refl No w5).alloc _
    have a7 : At (w5.alloc (.cells ⟨[.pointer (some ⟨ca o.l[i].id, 0, none⟩)]⟩ 69)) w5.heap.size 0 [.pointer (some ⟨ca o.l[i].id, 0, none⟩)] := AtU.new.at
    have s7 : (w5.alloc (.cells ⟨[.pointer (some ⟨ca o.l[i].id, 0, none⟩)]⟩ 69)).heap.size = w5.heap.size + 1 := by simp
    generalize w5.alloc (.cells ⟨[.pointer (some ⟨ca o.l[i].id, 0, none⟩)]⟩ 69) = w7 at *
    have h7 := h5.nos m7
    obtain ⟨aa, ac, d1, d2⟩ := (h7.chs _ hxa).2.2.ldA
    have haf := h.wf.aft _ hxa
    refine ⟨_, a7.load (i := 0) (by kernel_rfl) rfl, _, rfl, _, _, _, d1, ?_⟩
    refine Contains64_c (S := No) rfl (by omega) d2 (tells_may1 (S := No) h7 (fun _ => id) (a25.keep m7 id) (a55.keep m7 id) (mp5.keep m7 id)) fun w8 m8 => ⟨_, rfl, ?_⟩
    have m58 := m7.no m8
    have h8 := h7.nos m8
    refine Share.cut (fun z w10 => z = [.bool (badB P.opn (o.l.take i) (mayN P.opn o.l i) o.l[i])] ∧ Mod No w5 w10 ∧ At w10 w5.heap.size 0 [.pointer (some ⟨ca o.l[i].id, 0, none⟩)]) (cond_of (fun hb => ?_) (fun hb => ?_)) ?_
    · unfold badB; rw [hb, Bool.true_or]; exact ⟨rfl, m58, a7.keep m8 id⟩
    · obtain ⟨la', lc', l1', l2', l3', _⟩ := (h8.ons o ho).2.2.ldL
      refine ⟨_, rfl, la', _, lc', l1', _, _, _, slice_h (k := 1) (by kernel_rfl) (by omega) (by omega), ?_⟩
      rw [Int.toNat_natCast]
      have hsub : ∀ x ∈ o.l.take i, x ∈ P.all := fun x hx => hoa x (List.mem_of_mem_take hx)
      have hrow' : Row w8 (cutA la' lc' 0 1) (pL ((o.l.take i).map fun x => ca x.id)) := by
        by_cases h0 : i = 0
        · subst h0; exact .inl rfl
        · obtain ⟨b4, o4, e4, hat4⟩ := row_someP (i := 0) l2' (by simp; omega)
          right
          refine ⟨b4, o4, ?_, ?_⟩
          · rw [e4]; unfold cutA; rw [if_neg (by omega)]; simp [add_none]
          · have := hat4.sub (i := 0) (m := i) (by simp; omega)
            rw [List.drop_zero, Nat.add_zero] at this
            have e5 : (pL (o.l.map fun x => ca x.id)).take i = pL ((o.l.take i).map fun x => ca x.id) := by simp [pL, List.map_take]
            rw [e5] at this; exact this
      refine ContainsP_c (S := No) (xs := (o.l.take i).map fun x => ca x.id) (by simp; omega) (by omega) hrow'
        (tells_may2 (S := No) h8 (fun _ => id) hsub hxa (a7.keep m8 id) (a55.keep m58 id) (mp5.keep m58 id) (Go.Proofs.Ytocjjigmpgekfaa.pOf ca (fun x => meetB x o.l[i] && !((mayN P.opn o.l i).contains (x.id : Int))) (o.l.take i)) fun x hx => h8.pOf hsub hx) fun w9 m9 => ⟨_, rfl, ?_, m58.no m9, (a7.keep m8 id).keep m9 id⟩
      rw [any_pOf h8 hsub]
      unfold badB; rw [hb, Bool.false_or]
    · rintro z w10 ⟨rfl, m10, a10⟩
      have hsucc : mayN P.opn o.l (i + 1) = if badB P.opn (o.l.take i) (mayN P.opn o.l i) o.l[i] = true then mayN P.opn o.l i else mayN P.opn o.l i ++ [(o.l[i].id : Int)] := by
        conv => lhs; unfold mayN
        rw [List.getElem?_eq_getElem hi]
      have M10 : Mod (fun z => z = w1.heap.size) w4 w10 := M5.no m10
      refine ⟨_, rfl, Share.cut (fun z w12 => MapAt w12 w1.heap.size (okM (mayN P.opn o.l (i + 1))) ∧ Mod (fun z => z = w1.heap.size) w4 w12) (cond_of (fun hb => ?_) (fun hb => ?_)) ?_⟩
      · have hbf : badB P.opn (o.l.take i) (mayN P.opn o.l i) o.l[i] = false := by simpa using hb
        have md : Mod No w10 (Go.Den.drew w10) := (Mod.refl No w10).drew
        have h10 := (h5.nos m10).nos md
        have a7d : At (Go.Den.drew w10) w5.heap.size 0 [.pointer (some ⟨ca o.l[i].id, 0, none⟩)] := a10.keep md id
        have hnew : (o.l[i].id : Int) ∉ mayN P.opn o.l i := fun hm => by
          obtain ⟨x, hx, e⟩ := mayN_mem i _ hm
          obtain ⟨j, hj, hje⟩ := List.getElem_of_mem hx
          have hji : j < i := by simp at hj; omega
          rw [List.getElem_take] at hje
          have hnd := List.pairwise_iff_getElem.1 (ids_on h.wf ho) j i (by simp; omega) (by simp; omega) hji
          simp at hnd
          rw [hje] at hnd
          omega
        obtain ⟨w11, u1, u2, u3, u4⟩ := update_run (P := Try.prog) (T := 64) (k := (o.l[i].id : Int)) (v := .bool true) mapOk ((mp5.keep m10 id).keep md id)
        rw [okM_snoc hnew] at u2
        refine ⟨some w1.heap.size, ((a55.keep m10 id).keep md id).load (i := 0) (by kernel_rfl) rfl, _, a7d.load (i := 0) (by kernel_rfl) rfl, _, rfl, _, (h10.chs _ hxa).2.2.ld (j := 0) (by kernel_rfl) (fun _ _ _ _ => rfl), w11, u1, ?_, (M10.no md).trans u3 fun _ _ e => e⟩
        rw [hsucc, if_neg (by rw [hbf]; simp)]; exact u2
      · have hbt : badB P.opn (o.l.take i) (mayN P.opn o.l i) o.l[i] = true := by simpa using hb
        rw [hsucc, if_pos hbt]
        exact ⟨mp5.keep m10 id, M10⟩
      · rintro z w12 ⟨mp12, M12⟩
        rw [wrap64 (x := (i : Int) + 1) (by omega) (by omega)]
        exact ⟨⟨i + 1, _, by omega, rfl, mp12, M12⟩, by simp [nI, nth]; omega⟩
  · have hil : i = o.l.length := by have := of_decide_eq_false hb; omega
    refine ⟨some w1.heap.size, a55.load (i := 0) (by kernel_rfl) rfl, hk w5 _ M5' (by omega) ?_⟩
    unfold mayL; rw [← hil]; exact mp5
end
end Go.Proofs.Ytocjjigmpgekfaa

/- Layer 11, the program's store: bytes with some changes; what is read, images. -/
open Go Go.Den Go.Proofs
namespace Go.Proofs.Ytocjjigmpgekfaa
theorem withL_snoc (base : Bk) (l : List Ch) (c : Ch) : withL base (l ++ [c]) = overB (withL base l) c.frm c.data := by unfold withL; rw [List.foldl_append]; rfl
theorem withL_len {base : Bk} (hb : base.length = 256) : ∀ l : List Ch, (∀ x ∈ l, x.frm + x.data.length ≤ 256) → (withL base l).length = 256 := by
  intro l
  induction l generalizing base with
  | nil => intro _; exact hb
  | cons c l ih =>
    intro h
    have h2 := h c (by simp)
    exact ih (base := overB base c.frm c.data) (by rw [overB_len (by omega), hb]) fun x hx => h x (by simp [hx])
section
variable {w0 w w' : World} {R : Nat → Prop} {rl : Nat → Nat} {sp c d mo mm : Nat} {ca oa : Nat → Nat} {Lo Lm : List (Int × Value)} {P : Ps} {K : Value → World → Prop}
set_option maxRecDepth 100000 in
theorem with_c (h : PIn w0 R rl w sp c d mo mm ca oa Lo Lm P) {o : On} (ho : o ∈ P.ons) {f : Ch → Bool} {v : Value} (ht : TellsP v w (fun z => w.heap.size ≤ z) (pOf ca f o.l) (o.l.map fun x => ca x.id))
    (hk : ∀ w' g cc, Mod No w w' → w.heap.size ≤ g → AtU w' g 0 (u8L (withL o.base (o.l.filter f))) → K (.slice (some ⟨g, 0, none⟩) 256 cc) w') : Cal Try.prog F_patch_on_with #[.pointer (some ⟨oa o.b, 0, none⟩), v] w K := by
  apply C_patch_on_with
  unfold D_patch_on_with
  obtain ⟨g0, cc0, lb, atb⟩ := (h.ons o ho).2.2.ldB
  have hbl := h.wf.base o ho
  refine ⟨_, rfl, _, _, _, lb, CloneB_c (.inr ⟨_, _, rfl, atb⟩) hbl (fun e => by cases e) (by omega) fun w1 a1 c1 o1 m1 => ⟨_, _, _, rfl, _, rfl, ?_⟩⟩
  obtain ⟨g, rfl, hg, hat⟩ := o1.sm (by omega)
  have hcap := o1.cap
  have h1 := h.nos m1
  obtain ⟨la, lc, l1, l2, l3, l4⟩ := (h1.ons o ho).2.2.ldL
  have hll := h.wf.llen o ho
  have hlast := h.wf.last
  have hoa := fun x hx => on_all ho (x := x) hx
  have hz1 := m1.size
  refine ⟨la, _, lc, l1, ⟨fun x w2 => ∃ i : Nat, i ≤ o.l.length ∧ x = [.int .i64 i] ∧ AtU w2 g 0 (u8L (withL o.base ((o.l.take i).filter f))) ∧ Mod (fun z => z = g) w1 w2, fun x _ => (o.l.length - nI x 0).toNat, ⟨0, by omega, rfl, hat, Mod.refl _ _⟩, ?_⟩⟩
  rintro x w2 ⟨i, hi, rfl, hat2, M2⟩
  have M2' : Mod No w w2 := m1.anys.trans M2 fun z hz e => by omega
  have h2 := h.nos M2'
  refine ⟨_, rfl, cond_of (fun hb => ?_) (fun hb => ?_)⟩
  · have hi : i < o.l.length := by have := of_decide_eq_true hb; omega
    have hxm := List.getElem_mem hi
    have hxa := hoa _ hxm
    have hdat := (h.wf.dat _ hxa)
    have hlr : Row w2 la (pL (o.l.map fun x => ca x.id)) := l2.keep M2 fun q hq e => by
      have h9 := l4 q hq
      have h0 := h.out_of (x := g) hg
      rw [e] at h9
      omega
    have hilm : i < (o.l.map fun x => ca x.id).length := by simp; exact hi
    obtain ⟨b3, o3, hla, hat3⟩ := row_someP hlr hilm
    subst hla
    have hld := hat3.load (P := Try.prog) (T := 69) (by kernel_rfl) (pL_get hilm)
    rw [List.getElem_map] at hld
    refine ⟨_, index_slice (k := 1) (by kernel_rfl) (by omega) (by omega), ?_⟩
    rw [add_none, show (i : Int).toNat * 1 = i by omega]
    refine ⟨_, hld, ht w2 (M2'.mono fun _ _ e => e.elim) _ (List.mem_map.2 ⟨_, hxm, rfl⟩) _ fun w3 m3 => ⟨_, rfl, ?_⟩⟩
    rw [h.pOf hoa hxm]
    have hfs : (o.l.take (i + 1)).filter f = (o.l.take i).filter f ++ (if f o.l[i] = true then [o.l[i]] else []) := by
      rw [List.take_succ_eq_append_getElem hi, List.filter_append]
      congr 1
      by_cases hf : f o.l[i] = true
      · rw [if_pos hf]; simp [hf]
      · rw [if_neg hf]; simp [hf]
    refine Share.cut (fun z w5 => AtU w5 g 0 (u8L (withL o.base ((o.l.take (i + 1)).filter f))) ∧ Mod (fun z => z = g) w1 w5) (cond_of (fun hf => ?_) (fun hf => ?_)) ?_
    · have md : Mod No w2 (Go.Den.drew w3) := m3.drew
      have h3 := (h2.nos md).chs _ hxa
      obtain ⟨gd, cd, d1, d2⟩ := h3.2.2.ldD
      have hwl : (withL o.base ((o.l.take i).filter f)).length = 256 := withL_len hbl _ fun x hx => (h.wf.dat x (hoa x (List.mem_of_mem_take (List.mem_filter.1 hx).1))).2
      refine ⟨_, rfl, _, h3.2.2.ld (j := 2) (by kernel_rfl) (fun _ _ _ _ => rfl), _, _, _, slice_l (k := 1) (by kernel_rfl) (by omega) (by omega), _, rfl, _, _, _, d1, ?_⟩
      rw [Int.toNat_natCast]
      have hcut : cutA (some ⟨g, 0, none⟩) c1 o.l[i].frm 1 = some ⟨g, 0 + o.l[i].frm, none⟩ := by
        unfold cutA; rw [if_neg (by omega)]; simp [add_none]
      rw [hcut]
      obtain ⟨w4, c1', c2', c3', c4'⟩ := copy_in (P := Try.prog) (T := 32) (T2 := 32) (ty := 3) (k := 1) (i := o.l[i].frm) (n := 256 - o.l[i].frm) (c := c1 - o.l[i].frm) (n2 := o.l[i].data.length) (c2 := cd) (a2 := some ⟨gd, 0, none⟩) (src := u8L o.l[i].data) (by kernel_rfl) (hat2.keep md id) (by rw [length_u8L, hwl]; omega) (.inr ⟨_, _, rfl, d2⟩) (by simp) (one_u8L _)
      refine ⟨_, w4, c1', ?_, (M2.no md).trans c3' fun _ _ e => e⟩
      have e2 : splice (u8L (withL o.base ((o.l.take i).filter f))) o.l[i].frm ((u8L o.l[i].data).take (Nat.min o.l[i].data.length (256 - o.l[i].frm) * 1)) = u8L (overB (withL o.base ((o.l.take i).filter f)) o.l[i].frm o.l[i].data) := by
        have : (u8L o.l[i].data).take (Nat.min o.l[i].data.length (256 - o.l[i].frm) * 1) = u8L o.l[i].data := List.take_of_length_le (by rw [length_u8L, Nat.mul_one]; exact Nat.le_of_eq (Nat.min_eq_left (by omega)).symm)
        rw [this, splice_u8L]; rfl
      rw [e2] at c2'
      rw [hfs, if_pos hf, withL_snoc]; exact c2'
    · rw [hfs, if_neg (by rw [hf]; simp), List.append_nil]
      exact ⟨hat2.keep m3 id, M2.no m3⟩
    · rintro z w5 ⟨hat5, M5⟩
      rw [wrap64 (x := (i : Int) + 1) (by omega) (by omega)]
      exact ⟨⟨i + 1, by omega, rfl, hat5, M5⟩, by simp [nI, nth]; omega⟩
  · have hil : i = o.l.length := by have := of_decide_eq_false hb; omega
    rw [hil, List.take_length] at hat2
    exact hk w2 g c1 M2' hg hat2
/-- Those that were in an image that was written. -/
theorem tells_flush {F : FuncId} {l : List Ch} (h : PIn w0 R rl w sp c d mo mm ca oa Lo Lm P) (hl : ∀ x ∈ l, x ∈ P.all)
    (hF : ∀ (p0 : Option Addr) (w : World) (K : Value → World → Prop), (∃ q4 : Addr, (.pointer p0 : Value) = .pointer (some q4) ∧ ∃ b6 : Bool, Ru (Instr.loadAt 4 (.pointer (some (Addr.add q4 5)))) w (.bool b6) w ∧ K (.bool b6) w) → Cal Try.prog F #[.pointer p0] w K) :
    TellsP (.func (.func F) #[] #[]) w (fun z => w.heap.size ≤ z) (pOf ca (·.out) l) (l.map fun x => ca x.id) := by
  intro w' k qx hqx K hK
  obtain ⟨x, hx, rfl⟩ := List.mem_map.1 hqx
  refine ⟨_, _, _, rfl, ?_⟩
  show Cal Try.prog F #[.pointer (some ⟨ca x.id, 0, none⟩)] w' K
  have h' := h.keepS k (fun z hz e => by have := (h.lo z hz).2; omega) fun z hz e => by have := h.mod.size; omega
  refine hF _ _ _ ⟨_, rfl, _, (h'.chs x (hl x hx)).2.2.ld (j := 5) (by kernel_rfl) (fun _ _ _ _ => rfl), ?_⟩
  have := hK w' (Mod.refl _ _)
  rwa [h.pOf hl hx] at this
theorem tells_image {q m9 : Nat} {ok : List Int} {l : List Ch} (h : PIn w0 R rl w sp c d mo mm ca oa Lo Lm P) (hl : ∀ x ∈ l, x ∈ P.all) (hq : At w q 0 [.map (some m9)]) (h9 : MapAt w m9 (okM ok)) :
    TellsP (.func (.func F_patch_Store_Image_1) #[] #[.pointer (some ⟨q, 0, none⟩)]) w (fun z => w.heap.size ≤ z) (pOf ca (fun x => ok.contains (x.id : Int)) l) (l.map fun x => ca x.id) := by
  intro w' k qx hqx K hK
  obtain ⟨x, hx, rfl⟩ := List.mem_map.1 hqx
  refine ⟨_, _, _, rfl, ?_⟩
  show Cal Try.prog F_patch_Store_Image_1 #[.pointer (some ⟨ca x.id, 0, none⟩), .pointer (some ⟨q, 0, none⟩)] w' K
  have hql := hq.lt
  have h9l := h9.lt
  have k2 := k.no ((Mod.refl No w').drew)
  have h' := h.keepS k2 (fun z hz e => by have := (h.lo z hz).2; omega) fun z hz e => by have := h.mod.size; omega
  apply C_patch_Store_Image_1
  refine ⟨some m9, (hq.keep k2 (by omega)).load (i := 0) (by kernel_rfl) rfl, _, rfl, _, (h'.chs x (hl x hx)).2.2.ld (j := 0) (by kernel_rfl) (fun _ _ _ _ => rfl), _, lookOk (h9.keep k2 (by omega)) _, ?_⟩
  have := hK _ (Mod.refl No w').drew
  rwa [h.pOf hl hx] at this
/-- A store of one's own. -/
def Px (w0 : World) (R : Nat → Prop) (w : World) (sp d : Nat) (P : Ps) : Prop := WFP P ∧ ∃ rl c mo mm ca oa Lo Lm, PIn w0 R rl w sp c d mo mm ca oa Lo Lm P
theorem Px.nos (h : Px w0 R w sp d P) (k : Mod No w w') : Px w0 R w' sp d P := by
  obtain ⟨hw, rl, c, mo, mm, ca, oa, Lo, Lm, h⟩ := h
  exact ⟨hw, rl, c, mo, mm, ca, oa, Lo, Lm, h.nos k⟩
theorem Px.gro (h : Px w0 R w sp d P) (k : Mod No w w') : Px w0 (Gro R w w') w' sp d P := by
  obtain ⟨hw, rl, c, mo, mm, ca, oa, Lo, Lm, h⟩ := h
  exact ⟨hw, rl, c, mo, mm, ca, oa, Lo, Lm, h.gro k⟩
theorem Px.wf (h : Px w0 R w sp d P) : WFP P ∧ WFS P ∧ WFC P.C ∧ WF P.C.D ∧ Mod No w0 w ∧ (∀ x, R x → w0.heap.size ≤ x ∧ x < w.heap.size) := by
  obtain ⟨hw, rl, c, mo, mm, ca, oa, Lo, Lm, h⟩ := h
  exact ⟨hw, h.wf, h.cx.wf.1, h.cx.wf.2.1, h.mod, h.lo⟩
/-- What is read of a block. -/
def cont (P : Ps) (b : Nat) : Bk := match findB P.C.l b with | some x => x.data | none => atD P.C.D b
/-- A cache as large as its disk is never full. -/
theorem ask_some {C : Ca} {b : Nat} (h : WFC C) (hf : C.D.vs.length ≤ C.most) (hb : b < C.D.vs.length) : ∃ C', askC C b = some C' := by
  unfold askC
  cases hx : findB C.l b with
  | some x => exact ⟨_, rfl⟩
  | none =>
    have hlt : C.l.length < C.most := by
      have hno := findB_none hx
      have h1 : (b :: C.l.map (·.b)).Nodup := by
        rw [List.nodup_cons]
        refine ⟨fun hm => ?_, h.nodup⟩
        obtain ⟨x, hx', e⟩ := List.mem_map.1 hm
        exact hno x hx' e
      have h2 := List.Nodup.length_le_of_subset h1 (l₂ := List.range C.D.vs.length) fun k hk => by
        rw [List.mem_range]
        rcases List.mem_cons.1 hk with rfl | hk
        · exact hb
        · obtain ⟨x, hx', rfl⟩ := List.mem_map.1 hk
          exact h.lt x hx'
      simp at h2
      omega
    have : roomC C = some C := by unfold roomC; rw [if_pos hlt]
    rw [this]
    exact ⟨_, rfl⟩
/-- Asking for a block leaves what holds between calls. -/
theorem WFP.ask {C' : Ca} {b : Nat} {l0 : List Bf} {y : Bf} (h : WFP P) (hs : WFS P) (hc : WFC P.C) (A : Asked P.C C' b l0 y) : WFP { P with C := C' } where
  lne := h.lne
  pin := fun o ho => by
    obtain ⟨x, hx, h1, h2, h3⟩ := h.pin o ho
    exact ⟨x, A.keep x hx (by simp [idleB, h2]), h1, h2, h3⟩
  unp := fun x hx hno => by
    show x.pins = 0 ∧ x.data = atD C'.D x.b
    rw [A.D]
    rcases A.from_ x hx with hx' | ⟨rfl, _⟩
    · exact h.unp x hx' hno
    · exact ⟨rfl, rfl⟩
  run := by show C'.D.left = -1; rw [A.D]; exact h.run
  acc := fun o ho => by show atD C'.D o.b = _; rw [A.D]; exact h.acc o ho
  may := h.may
  cls := h.cls
  afl := h.afl
theorem cont_ask {C' : Ca} {b : Nat} {l0 : List Bf} {y : Bf} (h : WFP P) (hc : WFC P.C) (A : Asked P.C C' b l0 y) (n : Nat) : cont { P with C := C' } n = cont P n := by
  unfold cont
  show (match findB C'.l n with | some x => x.data | none => atD C'.D n) = _
  rw [A.D]
  cases hf : findB C'.l n with
  | some x =>
    obtain ⟨hx, hxb⟩ := findB_some hf
    rcases A.from_ x hx with hx' | ⟨rfl, hno⟩
    · have := findB_mem hc.nodup hx'
      rw [hxb] at this
      rw [this]
    · have hxb : b = n := hxb
      subst hxb
      rw [hno]
  | none =>
    cases hf2 : findB P.C.l n with
    | none => rfl
    | some x =>
      obtain ⟨hx, hxb⟩ := findB_some hf2
      have hno := findB_none hf
      by_cases hi : idleB P.C.D x = true
      · have hcl : clean P.C.D x = true := by unfold idleB at hi; simp only [Bool.and_eq_true] at hi; exact hi.2
        unfold clean at hcl
        have := of_decide_eq_true hcl
        show atD P.C.D n = x.data
        rw [this, hxb]
      · exact absurd hxb (hno x (A.keep x hx (by simpa using hi)))
theorem opn_C {C' : Ca} : ({ P with C := C' } : Ps).opn = P.opn := rfl
set_option maxRecDepth 100000 in
theorem pRead_c {n : Int} (hP : Px w0 R w sp d P) (hk0 : errOf P.C.D n ≠ 0 → ∀ w', Mod No w w' → K (.tuple #[.slice none 0 0, .int .i64 (errOf P.C.D n)]) w')
    (hk : ∀ b : Nat, n = b → b < P.C.D.vs.length → ∀ w1 w' a cc C', Mod R w w1 → Mod No w1 w' → Px w0 (Gro R w w1) w' sp d { P with C := C' } → C'.D = P.C.D → C'.most = P.C.most → (∀ m, cont { P with C := C' } m = cont P m) → Own Try.prog w' w1.heap.size 32 1 a 256 cc (u8L (cont P b)) → K (.tuple #[.slice a 256 cc, .int .i64 0]) w') :
    Cal Try.prog F_patch_Store_Read #[.pointer (some ⟨sp, 0, none⟩), .int .i64 n] w K := by
  obtain ⟨hw, rl, c, mo, mm, ca, oa, Lo, Lm, h⟩ := hP
  apply C_patch_Store_Read
  unfold D_patch_Store_Read
  have hcw := h.cx.wf
  by_cases he : errOf P.C.D n = 0
  · obtain ⟨b, rfl, hb⟩ := err_range he
    obtain ⟨C', ha⟩ := ask_some hcw.1 h.wf.full hb
    obtain ⟨l0, y, A⟩ := ask_facts hcw.1 hcw.2.1 hb ha
    have hr0 : rdX P.C b = (C', 0, lastD C'.l) := by unfold rdX; rw [if_neg (by omega), Int.toNat_natCast, ha]
    have hyl : y ∈ C'.l := by rw [A.l]; simp
    have hld : lastD C'.l = cont P b := by
      have h1 : lastD C'.l = y.data := by unfold lastD; rw [A.l]; simp
      have h2 := cont_ask hw hcw.1 A b
      unfold cont at h2
      have h3 := findB_mem A.wf.nodup hyl
      rw [A.yb] at h3
      have h4 : (match findB C'.l b with | some x => x.data | none => atD C'.D b) = cont P b := h2
      rw [h3] at h4
      rw [h1]; exact h4
    have hlen : (lastD C'.l).length = 256 := by
      have h1 : lastD C'.l = y.data := by unfold lastD; rw [A.l]; simp
      rw [h1]; exact A.wf.data y hyl
    refine ff rfl ⟨_, rfl, _, h.lc, cRead_c h.cx fun w1 w2 a2 c2 m1 m2 x2 o2 => ?_⟩
    simp only [hr0, hlen] at x2 o2 ⊢
    obtain ⟨rl', h', _⟩ := h.cache m1 m2 x2 (by rw [A.D]) A.most
    refine ⟨_, _, _, _, rfl, ?_⟩
    rw [hld] at o2
    exact hk b rfl hb w1 w2 a2 c2 C' (m1.mono fun z _ e => h.reg z (by have e1 : rl z = 1 := e; omega)) m2 ⟨hw.ask h.wf hcw.1 A, rl', c, mo, mm, ca, oa, Lo, Lm, h'⟩ A.D A.most (cont_ask hw hcw.1 A) o2
  · have hr0 : rdX P.C n = (P.C, errOf P.C.D n, []) := by unfold rdX; rw [if_pos he]
    refine ff rfl ⟨_, rfl, _, h.lc, ?_⟩
    obtain ⟨rl3, m3, sb3, mb3, sc3, lc3, la3, L3, mp3, h3⟩ := h.cx
    apply C_cache_Cache_Read
    refine cmay_c (xs := []) h3 rfl (by omega) (.inl rfl) ⟨_, rfl, ?_⟩
    have hm : mayE P.C.D n 0 [] = errOf P.C.D n := by unfold mayE; rw [if_pos he]
    rw [hm]
    exact tt (by simpa using he) ⟨_, _, _, _, rfl, hk0 he w (Mod.refl _ _)⟩
end
end Go.Proofs.Ytocjjigmpgekfaa

/- Layer 11, the program's store in plain terms: changes over bytes, in one order or another; what holds between calls is kept. -/
open Go Go.Den Go.Proofs
namespace Go.Proofs.Ytocjjigmpgekfaa
theorem overB_get {b ys : List UInt8} {i : Nat} (h : i + ys.length ≤ b.length) (k : Nat) : (overB b i ys)[k]? = if i ≤ k ∧ k < i + ys.length then ys[k - i]? else b[k]? := by
  unfold overB
  have hl : (b.take i).length = i := by simp; omega
  by_cases h1 : k < i
  · rw [if_neg (by omega), List.append_assoc, List.getElem?_append_left (by omega), List.getElem?_take_of_lt h1]
  · rw [List.append_assoc, List.getElem?_append_right (by omega), hl]
    by_cases h2 : k < i + ys.length
    · rw [if_pos (by omega), List.getElem?_append_left (by omega)]
    · rw [if_neg (by omega), List.getElem?_append_right (by omega), List.getElem?_drop]
      congr 1; omega
theorem overB_comm {b ys zs : List UInt8} {i j : Nat} (h1 : i + ys.length ≤ b.length) (h2 : j + zs.length ≤ b.length) (h : ¬ (i < j + zs.length ∧ j < i + ys.length)) : overB (overB b i ys) j zs = overB (overB b j zs) i ys := by
  apply List.ext_getElem?
  intro k
  rw [overB_get (by rw [overB_len h1]; exact h2), overB_get h1, overB_get (by rw [overB_len h2]; exact h1), overB_get h2]
  by_cases e1 : i ≤ k ∧ k < i + ys.length
  · rw [if_pos e1, if_pos e1, if_neg (by omega)]
  · rw [if_neg e1, if_neg e1]
theorem withL_over {c : Ch} : ∀ {l : List Ch} {b : Bk}, b.length = 256 → c.frm + c.data.length ≤ 256 → (∀ x ∈ l, x.frm + x.data.length ≤ 256) → (∀ x ∈ l, meetB c x = false) → withL (overB b c.frm c.data) l = overB (withL b l) c.frm c.data
  | [], _, _, _, _, _ => rfl
  | x :: r, b, hb, hc, hl, hm => by
    have hx := hl x (by simp)
    have hmx := hm x (by simp)
    have e : overB (overB b c.frm c.data) x.frm x.data = overB (overB b x.frm x.data) c.frm c.data := overB_comm (by omega) (by omega) (by
      intro ⟨h1, h2⟩
      unfold meetB at hmx
      rw [decide_eq_true h1, decide_eq_true h2] at hmx
      cases hmx)
    show withL (overB (overB b c.frm c.data) x.frm x.data) r = _
    rw [e]
    exact withL_over (by rw [overB_len (by omega), hb]) hc (fun y hy => hl y (by simp [hy])) fun y hy => hm y (by simp [hy])
/-- Those that were in an image first, then the other ones: the same bytes. -/
theorem withL_parts : ∀ {l : List Ch} {b : Bk}, b.length = 256 → (∀ x ∈ l, x.frm + x.data.length ≤ 256) → Cls l → withL (withL b (l.filter (·.out))) (l.filter fun x => !x.out) = withL b l
  | [], _, _, _, _ => rfl
  | c :: r, b, hb, hl, hc => by
    have hcl := hl c (by simp)
    have hr := fun y hy => hl y (List.mem_cons_of_mem c hy)
    unfold Cls at hc
    rw [List.pairwise_cons] at hc
    have ih := withL_parts (l := r) (b := overB b c.frm c.data) (by rw [overB_len (by omega), hb]) hr hc.2
    by_cases ho : c.out = true
    · rw [List.filter_cons_of_pos (by exact ho), List.filter_cons_of_neg (by simp [ho])]
      exact ih
    · rw [List.filter_cons_of_neg (by exact ho), List.filter_cons_of_pos (by simp [ho])]
      show withL (overB (withL b (r.filter (·.out))) c.frm c.data) _ = withL (overB b c.frm c.data) r
      rw [← ih, withL_over hb hcl (fun x hx => hr x (List.mem_filter.1 hx).1) fun x hx => ?_]
      obtain ⟨h1, h2⟩ := List.mem_filter.1 hx
      have := hc.1 x h1 (by simpa using h2)
      by_cases hm : meetB c x = true
      · exact absurd (this hm) ho
      · simpa using hm
/-- A change with another mark. -/
structure Like (f : Ch → Ch) : Prop where
  id : ∀ x, (f x).id = x.id
  b : ∀ x, (f x).b = x.b
  frm : ∀ x, (f x).frm = x.frm
  data : ∀ x, (f x).data = x.data
  after : ∀ x, (f x).after = x.after
theorem withL_map {f : Ch → Ch} (hf : Like f) : ∀ (l : List Ch) (b : Bk), withL b (l.map f) = withL b l
  | [], _ => rfl
  | x :: r, b => by
    show withL (overB b (f x).frm (f x).data) (r.map f) = withL (overB b x.frm x.data) r
    rw [hf.frm, hf.data]; exact withL_map hf r _
theorem meet_like {f : Ch → Ch} (hf : Like f) (x y : Ch) : meetB (f x) (f y) = meetB x y := by unfold meetB; rw [hf.frm, hf.data, hf.frm, hf.data]
theorem badB_map {f : Ch → Ch} (hf : Like f) (op : Int → Bool) (pre : List Ch) (ok : List Int) (c : Ch) : badB op (pre.map f) ok (f c) = badB op pre ok c := by
  unfold badB
  rw [hf.after, List.any_map]
  congr 2
  funext x
  simp only [Function.comp]
  rw [meet_like hf, hf.id]
theorem mayN_map {f : Ch → Ch} (hf : Like f) (op : Int → Bool) (l : List Ch) : ∀ n, mayN op (l.map f) n = mayN op l n
  | 0 => rfl
  | n + 1 => by
    have ih := mayN_map hf op l n
    unfold mayN
    rw [List.getElem?_map]
    cases hx : l[n]? with
    | none => exact ih
    | some c =>
      simp only [Option.map_some]
      rw [ih, ← List.map_take, badB_map hf, hf.id]
theorem mayL_map {f : Ch → Ch} (hf : Like f) (op : Int → Bool) (l : List Ch) : mayL op (l.map f) = mayL op l := by unfold mayL; rw [mayN_map hf, List.length_map]
/-- Only what a change waits for matters. -/
theorem badB_congr {op op' : Int → Bool} {pre : List Ch} {ok : List Int} {c : Ch} (h : ∀ k ∈ c.after, op k = op' k) : badB op pre ok c = badB op' pre ok c := by
  unfold badB
  congr 1
  rw [Bool.eq_iff_iff, List.any_eq_true, List.any_eq_true]
  constructor
  · rintro ⟨k, hk, e⟩; exact ⟨k, hk, by rw [← h k hk]; exact e⟩
  · rintro ⟨k, hk, e⟩; exact ⟨k, hk, by rw [h k hk]; exact e⟩
theorem mayN_congr {op op' : Int → Bool} {l : List Ch} (h : ∀ x ∈ l, ∀ k ∈ x.after, op k = op' k) : ∀ n, mayN op l n = mayN op' l n
  | 0 => rfl
  | n + 1 => by
    have ih := mayN_congr h n
    unfold mayN
    cases hx : l[n]? with
    | none => exact ih
    | some c =>
      simp only
      rw [ih, badB_congr (h c (List.mem_of_getElem? hx))]
theorem mayL_congr {op op' : Int → Bool} {l : List Ch} (h : ∀ x ∈ l, ∀ k ∈ x.after, op k = op' k) : mayL op l = mayL op' l := mayN_congr h _
theorem mayN_append {op : Int → Bool} {l r : List Ch} : ∀ n, n ≤ l.length → mayN op (l ++ r) n = mayN op l n
  | 0, _ => rfl
  | n + 1, h => by
    have ih := mayN_append (op := op) (l := l) (r := r) n (by omega)
    unfold mayN
    rw [List.getElem?_append_left (by omega), List.take_append_of_le_length (by omega), ih]
theorem mayN_mono {op : Int → Bool} {l : List Ch} {k : Int} : ∀ {n m : Nat}, n ≤ m → k ∈ mayN op l n → k ∈ mayN op l m := by
  intro n m h hk
  induction m with
  | zero => have : n = 0 := by omega
            subst this; exact hk
  | succ m ih =>
    by_cases e : n = m + 1
    · subst e; exact hk
    · have hm := ih (by omega)
      unfold mayN
      split
      · split
        · exact hm
        · exact List.mem_append.2 (.inl hm)
      · exact hm
/-- One that may be written: those that it waits for and those that it meets may too. -/
theorem mayN_good {op : Int → Bool} {l : List Ch} (hn : (l.map (·.id)).Nodup) : ∀ {n : Nat} {i : Nat} (hi : i < l.length), i < n → (l[i].id : Int) ∈ mayN op l n → badB op (l.take i) (mayN op l i) l[i] = false := by
  intro n
  induction n with
  | zero => intro i hi hin; omega
  | succ n ih =>
    intro i hi hin hk
    by_cases e : i = n
    · subst e
      unfold mayN at hk
      rw [List.getElem?_eq_getElem hi] at hk
      have hk : (l[i].id : Int) ∈ (if badB op (l.take i) (mayN op l i) l[i] = true then mayN op l i else mayN op l i ++ [(l[i].id : Int)]) := hk
      split at hk
      · exfalso
        obtain ⟨x, hx, ex⟩ := mayN_mem i _ hk
        obtain ⟨j, hj, hje⟩ := List.getElem_of_mem hx
        have hji : j < i := by simp at hj; omega
        rw [List.getElem_take] at hje
        have hnd := List.pairwise_iff_getElem.1 hn j i (by simp; omega) (by simp; omega) hji
        simp at hnd
        rw [hje] at hnd
        omega
      · rename_i hb; simpa using hb
    · have hk' : (l[i].id : Int) ∈ mayN op l n := by
        unfold mayN at hk
        split at hk
        · rename_i c hc
          split at hk
          · exact hk
          · rcases List.mem_append.1 hk with hk | hk
            · exact hk
            · exfalso
              simp at hk
              obtain ⟨hn2, hce⟩ := List.getElem?_eq_some_iff.1 hc
              have hnd := List.pairwise_iff_getElem.1 hn i n (by simp; omega) (by simp; omega) (by omega)
              simp at hnd
              rw [hce] at hnd
              omega
        · exact hk
      exact ih hi (by omega) hk'
theorem mayL_meets {op : Int → Bool} {l : List Ch} (hn : (l.map (·.id)).Nodup) : l.Pairwise fun x y => (y.id : Int) ∈ mayL op l → meetB x y = true → (x.id : Int) ∈ mayL op l := by
  rw [List.pairwise_iff_getElem]
  intro i j hi hj hij hy hm
  have hg := mayN_good hn hj hj hy
  unfold badB at hg
  rw [Bool.or_eq_false_iff] at hg
  have hx : l[i] ∈ l.take j := List.mem_take_iff_getElem.2 ⟨i, by omega, rfl⟩
  have := List.any_eq_false.1 hg.2 _ hx
  rw [hm] at this
  simp at this
  exact mayN_mono (n := j) (by omega) this
theorem mayL_waits {op : Int → Bool} {l : List Ch} (hn : (l.map (·.id)).Nodup) {x : Ch} (hx : x ∈ l) (hk : (x.id : Int) ∈ mayL op l) : ∀ k ∈ x.after, op k = true → k ∈ mayL op l := by
  obtain ⟨j, hj, rfl⟩ := List.getElem_of_mem hx
  intro k hka hop
  have hg := mayN_good hn hj hj hk
  unfold badB at hg
  rw [Bool.or_eq_false_iff] at hg
  have := List.any_eq_false.1 hg.1 k hka
  rw [hop] at this
  simp at this
  exact mayN_mono (n := j) (by omega) this
end Go.Proofs.Ytocjjigmpgekfaa

/- Layer 11, the program's store in plain terms: what each call makes of it. -/
open Go Go.Den Go.Proofs
namespace Go.Proofs.Ytocjjigmpgekfaa
def contV (V : Ps) (b : Nat) : Bk := match onOf V b with | some o => withL o.base o.l | none => atD V.C.D b
def newO (V : Ps) (b : Nat) : Ps := match onOf V b with | some _ => V | none => { V with ons := V.ons ++ [⟨b, contV V b, []⟩] }
def appO (V : Ps) (x : Ch) : Ps := { V with last := x.id, ons := V.ons.map fun o => if o.b = x.b then { o with l := o.l ++ [x] } else o }
def addX (V : Ps) (x : Ch) : Ps := appO (newO V x.b) x
def newX (V : Ps) (b frm : Nat) (data : Bk) (after : List Int) : Ch := ⟨V.last + 1, b, frm, data, after.filter V.opn, false⟩
def badA (V : Ps) (after : List Int) : Bool := after.any fun k => !decide (1 ≤ k ∧ k ≤ (V.last : Int))
def patE (V : Ps) (n frm : Int) (data : Bk) (after : List Int) : Int :=
  if errOf V.C.D n ≠ 0 then 3 else if data.length = 0 ∨ frm < 0 ∨ 256 < frm ∨ 256 - frm < data.length then 4 else if badA V after = true then 1 else 0
def patS (V : Ps) (n frm : Int) (data : Bk) (after : List Int) : Ps := if patE V n frm data after = 0 then addX V (newX V n.toNat frm.toNat data after) else V
def patN (V : Ps) (n frm : Int) (data : Bk) (after : List Int) : Int := if patE V n frm data after = 0 then (V.last + 1 : Nat) else 0
def mayB (V : Ps) (b : Nat) : List Int := match onOf V b with | some o => mayL V.opn o.l | none => []
def imgB (V : Ps) (b : Nat) : Bk := match onOf V b with | some o => withL o.base (o.l.filter fun x => (mayL V.opn o.l).contains (x.id : Int)) | none => atD V.C.D b
def markF (V : Ps) (b : Nat) (x : Ch) : Ch := if x.b = b then { x with out := x.out || (mayB V b).contains (x.id : Int) } else x
def mapX (V : Ps) (f : Ch → Ch) : List On := V.ons.map fun o => { o with l := o.l.map f }
def wrVE (V : Ps) (n : Int) : Int := if errOf V.C.D n ≠ 0 then 3 else if (onOf V n).isNone = true then 20 else 0
def wrV (V : Ps) (n : Int) : Ps := if wrVE V n = 0 then { V with C := { V.C with D := wrSt V.C.D n (imgB V n.toNat) }, ons := mapX V (markF V n.toNat) } else V
def flOn (o : On) : Option On := if (o.l.filter fun x => !x.out).isEmpty = true then none else some { o with base := withL o.base (o.l.filter (·.out)), l := o.l.filter fun x => !x.out }
def flV (V : Ps) : Ps := { V with C := { V.C with D := flSt V.C.D }, ons := V.ons.filterMap flOn }
theorem markF_like (V : Ps) (b : Nat) : Like (markF V b) where
  id := fun x => by unfold markF; split <;> rfl
  b := fun x => by unfold markF; split <;> rfl
  frm := fun x => by unfold markF; split <;> rfl
  data := fun x => by unfold markF; split <;> rfl
  after := fun x => by unfold markF; split <;> rfl
theorem on_uniq {P : Ps} (h : WFS P) {o o' : On} (ho : o ∈ P.ons) (ho' : o' ∈ P.ons) (e : o.b = o'.b) : o = o' := map_inj h.onsN ho ho' e
theorem onOf_mem {P : Ps} (h : WFS P) {o : On} (ho : o ∈ P.ons) : onOf P o.b = some o := by
  cases hf : onOf P o.b with
  | none => exact absurd rfl (onOf_none hf o ho)
  | some o' =>
    obtain ⟨h1, h2⟩ := onOf_some hf
    rw [on_uniq h ho h1 (by omega)]
theorem cont_view {P : Ps} (h : WFP P) (hs : WFS P) (hc : WFC P.C) (b : Nat) : cont P b = contV P b := by
  unfold cont contV
  cases ho : onOf P b with
  | some o =>
    obtain ⟨h1, h2⟩ := onOf_some ho
    obtain ⟨x, hx, e1, e2, e3⟩ := h.pin o h1
    have := findB_mem hc.nodup hx
    rw [show x.b = b by omega] at this
    rw [this]; exact e3
  | none =>
    cases hf : findB P.C.l b with
    | none => rfl
    | some x =>
      obtain ⟨hx, hb⟩ := findB_some hf
      have := (h.unp x hx fun o ho' e => onOf_none ho o ho' (by omega)).2
      rw [hb] at this
      exact this
theorem split_on {l : List On} (hn : (l.map (·.b)).Nodup) {o : On} (ho : o ∈ l) (f : On → On) : ∃ s t, l = s ++ o :: t ∧ (l.map fun p => if p.b = o.b then f p else p) = s ++ f o :: t ∧ ∀ p ∈ s ++ t, p.b ≠ o.b := by
  obtain ⟨s, t, rfl⟩ := List.append_of_mem ho
  have hno : ∀ p ∈ s ++ t, p.b ≠ o.b := by
    intro p hp e
    rw [List.map_append, List.map_cons] at hn
    have h1 := List.nodup_append.1 hn
    have h2 := List.nodup_cons.1 h1.2.1
    rcases List.mem_append.1 hp with hp | hp
    · exact h1.2.2 _ (List.mem_map.2 ⟨p, hp, rfl⟩) _ (by simp) e
    · exact h2.1 (List.mem_map.2 ⟨p, hp, e⟩)
  have hid : ∀ q : List On, (∀ p ∈ q, p.b ≠ o.b) → (q.map fun p => if p.b = o.b then f p else p) = q := by
    intro q hq
    conv => rhs; rw [← List.map_id q]
    apply List.map_congr_left
    intro p hp
    rw [if_neg (hq p hp)]; rfl
  refine ⟨s, t, rfl, ?_, hno⟩
  rw [List.map_append, List.map_cons, if_pos rfl, hid s fun p hp => hno p (List.mem_append.2 (.inl hp)), hid t fun p hp => hno p (List.mem_append.2 (.inr hp))]
theorem all_newO {V : Ps} {b : Nat} : (newO V b).all = V.all := by
  unfold newO
  split
  · rfl
  · unfold Ps.all; simp
theorem opn_newO {V : Ps} {b : Nat} : (newO V b).opn = V.opn := by unfold Ps.opn; rw [all_newO]
theorem newO_C {V : Ps} {b : Nat} : (newO V b).C = V.C ∧ (newO V b).last = V.last := by unfold newO; split <;> exact ⟨rfl, rfl⟩
theorem newO_on {V : Ps} {b : Nat} : ∃ o ∈ (newO V b).ons, o.b = b := by
  unfold newO
  split
  · rename_i o ho
    obtain ⟨h1, h2⟩ := onOf_some ho
    exact ⟨o, h1, by omega⟩
  · exact ⟨⟨b, contV V b, []⟩, by simp, rfl⟩
theorem WFS.newO {V : Ps} (h : WFS V) {b : Nat} (hb : b < V.C.D.vs.length) (hl : (contV V b).length = 256) : WFS (newO V b) := by
  unfold Go.Proofs.Ytocjjigmpgekfaa.newO
  cases ho : onOf V b with
  | some o => exact h
  | none =>
    have hno := onOf_none ho
    have hall : Ps.all { V with ons := V.ons ++ [⟨b, contV V b, []⟩] } = V.all := by unfold Ps.all; simp
    exact {
      full := h.full
      onsN := by
        rw [List.map_append]
        refine List.nodup_append.2 ⟨h.onsN, by simp, ?_⟩
        intro a ha c hc
        simp at hc; subst hc
        obtain ⟨o, ho, rfl⟩ := List.mem_map.1 ha
        have := hno o ho; omega
      onlt := fun o ho => by
        rcases List.mem_append.1 ho with ho | ho
        · exact h.onlt o ho
        · simp at ho; subst ho; exact hb
      base := fun o ho => by
        rcases List.mem_append.1 ho with ho | ho
        · exact h.base o ho
        · simp at ho; subst ho; exact hl
      llen := fun o ho => by
        rcases List.mem_append.1 ho with ho | ho
        · exact h.llen o ho
        · simp at ho; subst ho; simp
      ids := by rw [hall]; exact h.ids
      idr := by rw [hall]; exact h.idr
      chb := fun o ho => by
        rcases List.mem_append.1 ho with ho | ho
        · exact h.chb o ho
        · simp at ho; subst ho; intro x hx; cases hx
      dat := by rw [hall]; exact h.dat
      aft := by rw [hall]; exact h.aft
      last := h.last }
theorem WFS.bump {V : Ps} (h : WFS V) (hl : V.last + 1 ≤ 1000000) : WFS { V with last := V.last + 1 } where
  full := h.full
  onsN := h.onsN
  onlt := h.onlt
  base := h.base
  llen := fun o ho => by have := h.llen o ho; show o.l.length ≤ V.last + 1; omega
  ids := h.ids
  idr := fun x hx => by have := h.idr x hx; show 1 ≤ x.id ∧ x.id ≤ V.last + 1; omega
  chb := h.chb
  dat := h.dat
  aft := h.aft
  last := hl
/-- What a new change must be. -/
structure Fit (V : Ps) (x : Ch) : Prop where
  id : x.id = V.last + 1
  lt : x.b < V.C.D.vs.length
  dat : 1 ≤ x.data.length ∧ x.frm + x.data.length ≤ 256
  aft : x.after.length ≤ 1000000
  afl : ∀ k ∈ x.after, k < (x.id : Int)
  out : x.out = false
theorem appO_all {V : Ps} (h : WFS V) {x : Ch} {o : On} (ho : o ∈ V.ons) (e : o.b = x.b) : ∃ s t, V.ons = s ++ o :: t ∧ (appO V x).ons = s ++ { o with l := o.l ++ [x] } :: t ∧ (∀ p ∈ s ++ t, p.b ≠ x.b) ∧ (appO V x).all.Perm (x :: V.all) := by
  obtain ⟨s, t, h1, h2, h3⟩ := split_on h.onsN ho fun o => { o with l := o.l ++ [x] }
  rw [e] at h3
  have h2' : (appO V x).ons = s ++ { o with l := o.l ++ [x] } :: t := by
    rw [← h2]; unfold appO; rw [← e]
  refine ⟨s, t, h1, h2', h3, ?_⟩
  unfold Ps.all
  rw [h2', h1]
  simp only [List.flatMap_append, List.flatMap_cons, List.append_assoc]
  have := (List.perm_middle (a := x) (l₁ := s.flatMap (·.l) ++ o.l) (l₂ := t.flatMap (·.l)))
  simpa using this
theorem WFS.app {V : Ps} (h : WFS V) {x : Ch} {o : On} (ho : o ∈ V.ons) (e : o.b = x.b) (hx : Fit V x) (hl : x.id ≤ 1000000) : WFS (appO V x) := by
  obtain ⟨s, t, h1, h2, h3, hp⟩ := appO_all h ho e
  have hid := hx.id
  have hmem : ∀ y ∈ (appO V x).all, y = x ∨ y ∈ V.all := fun y hy => by simpa using hp.mem_iff.1 hy
  have hon : ∀ p ∈ (appO V x).ons, p ∈ V.ons ∨ p = { o with l := o.l ++ [x] } := fun p hp => by
    rw [h2] at hp
    rw [h1]
    simp only [List.mem_append, List.mem_cons] at hp ⊢
    rcases hp with hp | hp | hp
    · exact .inl (.inl hp)
    · exact .inr hp
    · exact .inl (.inr (.inr hp))
  exact {
    full := h.full
    onsN := by
      have : (appO V x).ons.map (·.b) = V.ons.map (·.b) := by rw [h2, h1]; simp
      rw [this]; exact h.onsN
    onlt := fun p hp => by
      rcases hon p hp with hp | rfl
      · exact h.onlt p hp
      · exact h.onlt o ho
    base := fun p hp => by
      rcases hon p hp with hp | rfl
      · exact h.base p hp
      · exact h.base o ho
    llen := fun p hp => by
      show p.l.length ≤ x.id
      rcases hon p hp with hp | rfl
      · have := h.llen p hp; omega
      · have := h.llen o ho; simp; omega
    ids := by
      rw [(hp.map (·.id)).nodup_iff, List.map_cons, List.nodup_cons]
      refine ⟨fun hm => ?_, h.ids⟩
      obtain ⟨y, hy, e⟩ := List.mem_map.1 hm
      have := h.idr y hy
      omega
    idr := fun y hy => by
      show 1 ≤ y.id ∧ y.id ≤ x.id
      rcases hmem y hy with rfl | hy
      · omega
      · have := h.idr y hy; omega
    chb := fun p hp => by
      rcases hon p hp with hp | rfl
      · exact h.chb p hp
      · intro y hy
        rcases List.mem_append.1 hy with hy | hy
        · exact h.chb o ho y hy
        · simp at hy; subst hy; exact e.symm
    dat := fun y hy => by
      rcases hmem y hy with rfl | hy
      · exact hx.dat
      · exact h.dat y hy
    aft := fun y hy => by
      rcases hmem y hy with rfl | hy
      · exact hx.aft
      · exact h.aft y hy
    last := hl }
theorem opn_app {V : Ps} (h : WFS V) {x : Ch} {o : On} (ho : o ∈ V.ons) (e : o.b = x.b) (k : Int) : (appO V x).opn k = (decide ((x.id : Int) = k) || V.opn k) := by
  obtain ⟨s, t, h1, h2, h3, hp⟩ := appO_all h ho e
  unfold Ps.opn
  rw [hp.any_eq, List.any_cons]
  congr 1
/-- A change is added: what holds between calls is kept. -/
theorem WFP.add {P : Ps} {C3 : Ca} {x : Ch} (h : WFP P) (hs : WFS P) (hx : Fit P x) (hbl : (contV P x.b).length = 256) (hl : x.id ≤ 1000000) (hD : C3.D = P.C.D) (ht : ∀ y, y.b ≠ x.b → (y ∈ C3.l ↔ y ∈ P.C.l)) (hn : (C3.l.map (·.b)).Nodup)
    (hy : ∃ y ∈ C3.l, y.b = x.b ∧ y.pins = 1 ∧ y.data = overB (contV P x.b) x.frm x.data) : WFP { addX P x with C := C3 } := by
  have hs1 := hs.newO hx.lt hbl
  obtain ⟨eC, eL⟩ := newO_C (V := P) (b := x.b)
  -- the store behind newO, but for pins
  have g1 : ∀ o ∈ (newO P x.b).ons, (o ∈ P.ons) ∨ (o = ⟨x.b, contV P x.b, []⟩ ∧ onOf P x.b = none) := by
    intro o ho
    unfold newO at ho
    split at ho
    · exact .inl ho
    · rename_i hno
      rcases List.mem_append.1 ho with ho | ho
      · exact .inl ho
      · simp at ho; exact .inr ⟨ho, hno⟩
  have gs : ∀ o ∈ P.ons, o ∈ (newO P x.b).ons := by
    intro o ho
    unfold newO
    split
    · exact ho
    · exact List.mem_append.2 (.inl ho)
  obtain ⟨o, ho, e⟩ := newO_on (V := P) (b := x.b)
  have hx1 : Fit (newO P x.b) x := ⟨by rw [eL]; exact hx.id, by rw [eC]; exact hx.lt, hx.dat, hx.aft, hx.afl, hx.out⟩
  obtain ⟨s, t, h1, h2, h3, hp⟩ := appO_all hs1 ho e
  have hop : ∀ k, (addX P x).opn k = (decide ((x.id : Int) = k) || P.opn k) := fun k => by
    have := opn_app hs1 ho e k
    rw [opn_newO] at this
    exact this
  have hoo : ∀ k, k < (x.id : Int) → P.opn k = (addX P x).opn k := fun k hk => by
    rw [hop, decide_eq_false (by omega), Bool.false_or]
  have hafl : ∀ y ∈ P.all, ∀ k ∈ y.after, k < (x.id : Int) := fun y hy k hk => by
    have := h.afl y hy k hk
    have := hs.idr y hy
    have := hx.id
    omega
  have hon : ∀ p ∈ (addX P x).ons, (p ∈ (newO P x.b).ons ∧ p.b ≠ x.b) ∨ p = { o with l := o.l ++ [x] } := fun p hp => by
    have hp : p ∈ (appO (newO P x.b) x).ons := hp
    rw [h2] at hp
    rw [h1]
    simp only [List.mem_append, List.mem_cons] at hp ⊢
    rcases hp with hp | hp | hp
    · exact .inl ⟨.inl hp, h3 p (by simp [hp])⟩
    · exact .inr hp
    · exact .inl ⟨.inr (.inr hp), h3 p (by simp [hp])⟩
  have hcov : ∀ p ∈ (newO P x.b).ons, ∃ p' ∈ (addX P x).ons, p'.b = p.b := fun p hp => by
    show ∃ p' ∈ (appO (newO P x.b) x).ons, p'.b = p.b
    rw [h2]
    rw [h1] at hp
    simp only [List.mem_append, List.mem_cons] at hp
    rcases hp with hp | rfl | hp
    · exact ⟨p, by simp [hp], rfl⟩
    · exact ⟨{ p with l := p.l ++ [x] }, by simp, rfl⟩
    · exact ⟨p, by simp [hp], rfl⟩
  have holdo : (newO P x.b).ons = P.ons ∨ o.l = [] := by
    rcases g1 o ho with hm | ⟨rfl, _⟩
    · left
      unfold newO
      cases hno : onOf P x.b with
      | some _ => rfl
      | none => exact absurd (by omega) (onOf_none hno o hm)
    · exact .inr rfl
  have hcb : withL o.base o.l = contV P x.b := by
    rcases g1 o ho with hm | ⟨rfl, _⟩
    · unfold contV
      have := onOf_mem hs hm
      rw [e] at this
      rw [this]
    · rfl
  have hom : ∀ y ∈ o.l, y ∈ P.all := fun y hy => by
    have : y ∈ (newO P x.b).all := mem_all.2 ⟨o, ho, hy⟩
    rwa [all_newO] at this
  exact {
    lne := fun p hp => by
      rcases hon p hp with ⟨hp, hb⟩ | rfl
      · rcases g1 p hp with hp | ⟨rfl, _⟩
        · exact h.lne p hp
        · exact absurd rfl hb
      · simp
    pin := fun p hp => by
      rcases hon p hp with ⟨hp, hb⟩ | rfl
      · rcases g1 p hp with hp | ⟨rfl, _⟩
        · obtain ⟨y, hy1, hy2, hy3, hy4⟩ := h.pin p hp
          exact ⟨y, (ht y (by rw [hy2]; exact hb)).2 hy1, hy2, hy3, hy4⟩
        · exact absurd rfl hb
      · obtain ⟨y, hy1, hy2, hy3, hy4⟩ := hy
        refine ⟨y, hy1, by rw [hy2]; exact e.symm, hy3, ?_⟩
        show y.data = withL o.base (o.l ++ [x])
        rw [withL_snoc, hcb]; exact hy4
    unp := fun y hy1 hno => by
      show y.pins = 0 ∧ y.data = atD C3.D y.b
      rw [hD]
      have hyb : y.b ≠ x.b := fun e' => by
        obtain ⟨p', hp', e2⟩ := hcov o ho
        exact hno p' hp' (by rw [e2, e, e'])
      refine h.unp y ((ht y hyb).1 hy1) fun p hp e' => ?_
      obtain ⟨p', hp', e2⟩ := hcov p (gs p hp)
      exact hno p' hp' (by rw [e2, e'])
    run := by show C3.D.left = -1; rw [hD]; exact h.run
    acc := fun p hp => by
      show atD C3.D p.b = _
      rw [hD]
      rcases hon p hp with ⟨hp, hb⟩ | rfl
      · rcases g1 p hp with hp | ⟨rfl, _⟩
        · exact h.acc p hp
        · exact absurd rfl hb
      · show atD P.C.D o.b = withL o.base ((o.l ++ [x]).filter (·.out))
        rw [List.filter_append, List.filter_cons_of_neg (by simp [hx.out]), List.filter_nil, List.append_nil]
        rcases g1 o ho with hm | ⟨rfl, hno⟩
        · exact h.acc o hm
        · show _ = contV P x.b
          unfold contV; rw [hno]
    may := fun p hp y hy1 hyo => by
      show (y.id : Int) ∈ mayL (addX P x).opn p.l
      rcases hon p hp with ⟨hp, hb⟩ | rfl
      · rcases g1 p hp with hp | ⟨rfl, _⟩
        · rw [← mayL_congr (op := P.opn) fun z hz k hk => hoo k (hafl z (mem_all.2 ⟨p, hp, hz⟩) k hk)]
          exact h.may p hp y hy1 hyo
        · exact absurd rfl hb
      · have hyl : y ∈ o.l := by
          rcases List.mem_append.1 hy1 with hy1 | hy1
          · exact hy1
          · simp at hy1; subst hy1; rw [hx.out] at hyo; cases hyo
        have hm : o ∈ P.ons := by
          rcases g1 o ho with hm | ⟨rfl, _⟩
          · exact hm
          · cases hyl
        have h5 := h.may o hm y hyl hyo
        rw [mayL_congr (op := P.opn) (op' := (addX P x).opn) fun z hz k hk => hoo k (hafl z (hom z hz) k hk)] at h5
        show (y.id : Int) ∈ mayN (addX P x).opn (o.l ++ [x]) (o.l ++ [x]).length
        refine mayN_mono (n := o.l.length) (by simp) ?_
        rw [mayN_append _ (Nat.le_refl _)]; exact h5
    cls := fun p hp => by
      rcases hon p hp with ⟨hp, hb⟩ | rfl
      · rcases g1 p hp with hp | ⟨rfl, _⟩
        · exact h.cls p hp
        · exact absurd rfl hb
      · show Cls (o.l ++ [x])
        unfold Cls
        rw [List.pairwise_append]
        refine ⟨?_, by simp, fun a ha c hc hout => ?_⟩
        · rcases g1 o ho with hm | ⟨rfl, _⟩
          · exact h.cls o hm
          · exact List.Pairwise.nil
        · simp at hc; subst hc; rw [hx.out] at hout; cases hout
    afl := fun y hy => by
      have hy : y ∈ (appO (newO P x.b) x).all := hy
      have := hp.mem_iff.1 hy
      rw [all_newO] at this
      rcases List.mem_cons.1 this with rfl | hy
      · exact hx.afl
      · exact h.afl y hy }
end Go.Proofs.Ytocjjigmpgekfaa

/- Layer 11, the program's store in plain terms: writing and flushing. -/
open Go Go.Den Go.Proofs
namespace Go.Proofs.Ytocjjigmpgekfaa
theorem wr_is {D : St} {b : Nat} {ys : Bk} (hb : b < D.vs.length) (hy : ys.length = 256) (hl : D.left = -1) : wrE D b ys = 0 ∧ wrSt D b ys = ⟨D.vs.set b (D.vs[b] ++ [ys]), -1⟩ := by
  rcases err_cases (D := D) (b : Int) with ⟨_, ho⟩ | ⟨he, j, u, hj, hu, hver⟩
  · omega
  · have : j = b := by omega
    subst this
    have hv : D.vs[j]? = some D.vs[j] := by simp [hb]
    have : u = D.vs[j] := by rw [hu] at hv; exact Option.some.inj hv
    subst this
    have hw : wrE D j ys = 0 := by unfold wrE; rw [he, if_neg (by omega), if_neg (by omega)]
    refine ⟨hw, ?_⟩
    unfold wrSt; rw [if_neg (by omega), hver, hl]; rfl
theorem ver_at {D : St} {n : Nat} (h : n < D.vs.length) : verOf D n = D.vs[n] := by
  unfold verOf
  rw [if_neg (by omega), Int.toNat_natCast, List.getElem?_eq_getElem h]; rfl
theorem atD_wrN {D : St} {b : Nat} {ys : Bk} (hb : b < D.vs.length) (hy : ys.length = 256) (hl : D.left = -1) (n : Nat) : atD (wrSt D b ys) n = if n = b then ys else atD D n := by
  obtain ⟨_, e2⟩ := wr_is hb hy hl
  rw [e2]
  by_cases hn : n < D.vs.length
  · unfold atD
    rw [ver_at (D := ⟨_, _⟩) (by simpa using hn)]
    by_cases h : n = b
    · subst h
      rw [if_pos rfl]
      simp only [List.getElem_set_self]
      unfold lastV
      rw [List.getLastD_eq_getLast?, List.getLast?_append]; simp
    · rw [if_neg h, ver_at hn]
      simp only
      rw [List.getElem_set_ne (Ne.symm h)]
  · have h : ∀ E : St, E.vs.length = D.vs.length → atD E n = [] := fun E hE => by
      unfold atD verOf
      rw [if_neg (by omega), Int.toNat_natCast, List.getElem?_eq_none (by omega)]; rfl
    rw [if_neg (by omega), h _ (by simp), h _ rfl]
theorem atD_fl {D : St} (hl : D.left = -1) (n : Nat) : atD (flSt D) n = atD D n := by
  unfold flSt
  rw [if_neg (by omega)]
  unfold atD verOf
  rw [if_neg (by omega), if_neg (by omega), Int.toNat_natCast]
  simp only [List.getElem?_map]
  cases D.vs[n]? <;> rfl
theorem fl_left {D : St} (hl : D.left = -1) : (flSt D).left = -1 := by unfold flSt; rw [if_neg (by omega), hl]; rfl
theorem fl_len (D : St) : (flSt D).vs.length = D.vs.length := by unfold flSt; split <;> simp
theorem all_mapX {V : Ps} {C : Ca} {f : Ch → Ch} : Ps.all ⟨C, V.last, mapX V f⟩ = V.all.map f := by
  unfold Ps.all mapX
  rw [List.flatMap_map, List.map_flatMap]
theorem opn_mapX {V : Ps} {C : Ca} {f : Ch → Ch} (hf : Like f) : Ps.opn ⟨C, V.last, mapX V f⟩ = V.opn := by
  funext k
  unfold Ps.opn
  rw [all_mapX, List.any_map]
  congr 1
  funext x
  simp only [Function.comp]
  rw [hf.id]
theorem WFS.mapX {V : Ps} {f : Ch → Ch} {C : Ca} (h : WFS V) (hf : Like f) (hD : C.D.vs.length = V.C.D.vs.length) (hm : C.most = V.C.most) : WFS ⟨C, V.last, Go.Proofs.Ytocjjigmpgekfaa.mapX V f⟩ where
  full := by show C.D.vs.length ≤ C.most; rw [hD, hm]; exact h.full
  onsN := by
    have : (Go.Proofs.Ytocjjigmpgekfaa.mapX V f).map (·.b) = V.ons.map (·.b) := by unfold Go.Proofs.Ytocjjigmpgekfaa.mapX; rw [List.map_map]; rfl
    show ((Go.Proofs.Ytocjjigmpgekfaa.mapX V f).map (·.b)).Nodup
    rw [this]; exact h.onsN
  onlt := fun o ho => by
    obtain ⟨p, hp, rfl⟩ := List.mem_map.1 ho
    show p.b < C.D.vs.length
    rw [hD]; exact h.onlt p hp
  base := fun o ho => by
    obtain ⟨p, hp, rfl⟩ := List.mem_map.1 ho
    exact h.base p hp
  llen := fun o ho => by
    obtain ⟨p, hp, rfl⟩ := List.mem_map.1 ho
    show (p.l.map f).length ≤ V.last
    rw [List.length_map]; exact h.llen p hp
  ids := by
    rw [all_mapX, List.map_map]
    have : ((·.id) ∘ f : Ch → Nat) = (·.id) := by funext x; exact hf.id x
    rw [this]; exact h.ids
  idr := fun x hx => by
    rw [all_mapX] at hx
    obtain ⟨y, hy, rfl⟩ := List.mem_map.1 hx
    rw [hf.id]; exact h.idr y hy
  chb := fun o ho x hx => by
    obtain ⟨p, hp, rfl⟩ := List.mem_map.1 ho
    obtain ⟨y, hy, rfl⟩ := List.mem_map.1 hx
    rw [hf.b]; exact h.chb p hp y hy
  dat := fun x hx => by
    rw [all_mapX] at hx
    obtain ⟨y, hy, rfl⟩ := List.mem_map.1 hx
    rw [hf.data, hf.frm]; exact h.dat y hy
  aft := fun x hx => by
    rw [all_mapX] at hx
    obtain ⟨y, hy, rfl⟩ := List.mem_map.1 hx
    rw [hf.after]; exact h.aft y hy
  last := h.last
theorem img_len {P : Ps} (hs : WFS P) (hD : WF P.C.D) {b : Nat} (hb : b < P.C.D.vs.length) : (imgB P b).length = 256 := by
  unfold imgB
  cases ho : onOf P b with
  | none =>
    unfold atD
    rw [ver_at hb]
    exact hD.lastLen (List.getElem?_eq_getElem hb)
  | some o =>
    obtain ⟨h1, _⟩ := onOf_some ho
    exact withL_len (hs.base o h1) _ fun x hx => (hs.dat x (on_all h1 (List.mem_filter.1 hx).1)).2
theorem cont_len {P : Ps} (hs : WFS P) (hD : WF P.C.D) {b : Nat} (hb : b < P.C.D.vs.length) : (contV P b).length = 256 := by
  unfold contV
  cases ho : onOf P b with
  | none =>
    show (atD P.C.D b).length = 256
    unfold atD
    rw [ver_at hb]
    exact hD.lastLen (List.getElem?_eq_getElem hb)
  | some o =>
    obtain ⟨h1, _⟩ := onOf_some ho
    exact withL_len (hs.base o h1) _ fun x hx => (hs.dat x (on_all h1 hx)).2
theorem markF_no {V : Ps} {b : Nat} {l : List Ch} (h : ∀ x ∈ l, x.b ≠ b) : l.map (markF V b) = l := by
  conv => rhs; rw [← List.map_id l]
  apply List.map_congr_left
  intro x hx
  unfold markF; rw [if_neg (h x hx)]; rfl
/-- A block is written. -/
theorem WFP.mark {P : Ps} {b : Nat} {o : On} (h : WFP P) (hs : WFS P) (hD : WF P.C.D) (ho : onOf P b = some o) :
    WFP ⟨{ P.C with D := wrSt P.C.D b (imgB P b) }, P.last, mapX P (markF P b)⟩ := by
  obtain ⟨hom, hob⟩ := onOf_some ho
  have hob : o.b = b := by omega
  have hb : b < P.C.D.vs.length := by rw [← hob]; exact hs.onlt o hom
  have hil := img_len hs hD hb
  have hat := atD_wrN hb hil h.run
  have hL := markF_like P b
  have hmb : mayB P b = mayL P.opn o.l := by unfold mayB; rw [ho]
  have hxb : ∀ x ∈ o.l, x.b = b := fun x hx => by rw [hs.chb o hom x hx, hob]
  have hno : ∀ p ∈ P.ons, p.b ≠ b → p.l.map (markF P b) = p.l := fun p hp e => markF_no fun x hx => by rw [hs.chb p hp x hx]; exact e
  have hmo : ∀ x ∈ o.l, (markF P b x).out = (mayL P.opn o.l).contains (x.id : Int) := fun x hx => by
    unfold markF
    rw [if_pos (hxb x hx), hmb]
    show (x.out || _) = _
    cases hxo : x.out with
    | false => rfl
    | true =>
      have := h.may o hom x hx hxo
      rw [Bool.true_or]; symm; simpa using this
  have hsame : ∀ p ∈ P.ons, p.b = b → p = o := fun p hp e => on_uniq hs hp hom (by omega)
  exact {
    lne := fun p hp => by
      obtain ⟨q, hq, rfl⟩ := List.mem_map.1 hp
      have := h.lne q hq
      simpa using this
    pin := fun p hp => by
      obtain ⟨q, hq, rfl⟩ := List.mem_map.1 hp
      obtain ⟨x, h1, h2, h3, h4⟩ := h.pin q hq
      refine ⟨x, h1, h2, h3, ?_⟩
      show x.data = withL q.base (q.l.map (markF P b))
      rw [withL_map hL]; exact h4
    unp := fun x hx hn => by
      have hn' : ∀ q ∈ P.ons, q.b ≠ x.b := fun q hq => hn { q with l := q.l.map (markF P b) } (List.mem_map.2 ⟨q, hq, rfl⟩)
      obtain ⟨h1, h2⟩ := h.unp x hx hn'
      refine ⟨h1, ?_⟩
      show x.data = atD (wrSt P.C.D b (imgB P b)) x.b
      rw [hat, if_neg (fun e => hn' o hom (by omega))]; exact h2
    run := by
      show (wrSt P.C.D b (imgB P b)).left = -1
      rw [(wr_is hb hil h.run).2]
    acc := fun p hp => by
      obtain ⟨q, hq, rfl⟩ := List.mem_map.1 hp
      show atD (wrSt P.C.D b (imgB P b)) q.b = withL q.base ((q.l.map (markF P b)).filter (·.out))
      rw [hat]
      by_cases e : q.b = b
      · have := hsame q hq e
        subst this
        rw [if_pos e, List.filter_map, withL_map hL]
        unfold imgB
        rw [ho]
        show withL q.base _ = withL q.base _
        congr 1
        apply List.filter_congr
        intro x hx
        exact (hmo x hx).symm
      · rw [if_neg e, hno q hq e]; exact h.acc q hq
    may := fun p hp x hx hxo => by
      obtain ⟨q, hq, rfl⟩ := List.mem_map.1 hp
      rw [opn_mapX hL]
      show (x.id : Int) ∈ mayL P.opn (q.l.map (markF P b))
      rw [mayL_map hL]
      obtain ⟨y, hy, rfl⟩ := List.mem_map.1 hx
      rw [hL.id]
      by_cases e : q.b = b
      · have := hsame q hq e
        subst this
        rw [hmo y hy] at hxo
        simpa using hxo
      · have : markF P b y = y := by unfold markF; rw [if_neg (by rw [hs.chb q hq y hy]; exact e)]
        rw [this] at hxo
        exact h.may q hq y hy hxo
    cls := fun p hp => by
      obtain ⟨q, hq, rfl⟩ := List.mem_map.1 hp
      show Cls (q.l.map (markF P b))
      by_cases e : q.b = b
      · have := hsame q hq e
        subst this
        unfold Cls
        rw [List.pairwise_map]
        refine (mayL_meets (op := P.opn) (ids_on hs hq)).imp_of_mem fun {x y} hx hy hh => ?_
        rw [hmo x hx, hmo y hy, meet_like hL]
        intro h1 h2
        have := hh (by simpa using h1) h2
        simpa using this
      · rw [hno q hq e]; exact h.cls q hq
    afl := fun x hx => by
      rw [all_mapX] at hx
      obtain ⟨y, hy, rfl⟩ := List.mem_map.1 hx
      rw [hL.after, hL.id]; exact h.afl y hy }
/-- The blocks of a list, flushed so far. -/
def flG (vis : Nat → Bool) (o : On) : Option On := if vis o.b = true then flOn o else some o
theorem flG_facts {vis : Nat → Bool} {o o' : On} (h : flG vis o = some o') : o'.b = o.b ∧ o'.l.Sublist o.l ∧ (o' = o ∨ (o'.base = withL o.base (o.l.filter (·.out)) ∧ o'.l = o.l.filter fun x => !x.out)) := by
  unfold flG at h
  split at h
  · unfold flOn at h
    split at h
    · cases h
    · have := Option.some.inj h
      subst this
      exact ⟨rfl, List.filter_sublist, .inr ⟨rfl, rfl⟩⟩
  · have := Option.some.inj h
    subst this
    exact ⟨rfl, List.Sublist.refl _, .inl rfl⟩
theorem flat_sub {g : On → Option On} (hg : ∀ o o', g o = some o' → o'.l.Sublist o.l) : ∀ l : List On, ((l.filterMap g).flatMap (·.l)).Sublist (l.flatMap (·.l))
  | [] => List.Sublist.refl _
  | o :: r => by
    have ih := flat_sub hg r
    rw [List.flatMap_cons]
    cases h : g o with
    | none =>
      rw [List.filterMap_cons_none h]
      exact ih.trans (List.sublist_append_right _ _)
    | some o' =>
      rw [List.filterMap_cons_some h, List.flatMap_cons]
      exact (hg o o' h).append ih
theorem b_sub {g : On → Option On} (hg : ∀ o o', g o = some o' → o'.b = o.b) : ∀ l : List On, ((l.filterMap g).map (·.b)).Sublist (l.map (·.b))
  | [] => List.Sublist.refl _
  | o :: r => by
    have ih := b_sub hg r
    rw [List.map_cons]
    cases h : g o with
    | none => rw [List.filterMap_cons_none h]; exact ih.cons _
    | some o' =>
      rw [List.filterMap_cons_some h, List.map_cons, hg o o' h]
      exact ih.cons_cons _
theorem WFS.fl {V : Ps} {C : Ca} {vis : Nat → Bool} (h : WFS V) (hD : C.D.vs.length = V.C.D.vs.length) (hm : C.most = V.C.most) : WFS ⟨C, V.last, V.ons.filterMap (flG vis)⟩ := by
  have hsub : (Ps.all ⟨C, V.last, V.ons.filterMap (flG vis)⟩).Sublist V.all := flat_sub (fun o o' e => (flG_facts e).2.1) _
  exact {
    full := by show C.D.vs.length ≤ C.most; rw [hD, hm]; exact h.full
    onsN := (b_sub (fun o o' e => (flG_facts e).1) _).nodup h.onsN
    onlt := fun o ho => by
      obtain ⟨p, hp, e⟩ := List.mem_filterMap.1 ho
      show o.b < C.D.vs.length
      rw [hD, (flG_facts e).1]; exact h.onlt p hp
    base := fun o ho => by
      obtain ⟨p, hp, e⟩ := List.mem_filterMap.1 ho
      rcases (flG_facts e).2.2 with rfl | ⟨e2, _⟩
      · exact h.base o hp
      · rw [e2]; exact withL_len (h.base p hp) _ fun x hx => (h.dat x (on_all hp (List.mem_filter.1 hx).1)).2
    llen := fun o ho => by
      obtain ⟨p, hp, e⟩ := List.mem_filterMap.1 ho
      exact Nat.le_trans (flG_facts e).2.1.length_le (h.llen p hp)
    ids := (hsub.map _).nodup h.ids
    idr := fun x hx => h.idr x (hsub.subset hx)
    chb := fun o ho x hx => by
      obtain ⟨p, hp, e⟩ := List.mem_filterMap.1 ho
      rw [(flG_facts e).1]; exact h.chb p hp x ((flG_facts e).2.1.subset hx)
    dat := fun x hx => h.dat x (hsub.subset hx)
    aft := fun x hx => h.aft x (hsub.subset hx)
    last := h.last }
def flV2 (P : Ps) : Ps := ⟨{ P.C with D := flSt P.C.D, l := P.C.l.map fun x => if (P.ons.any fun o => decide (o.b = x.b) && (flOn o).isNone) = true then { x with pins := 0 } else x }, P.last, P.ons.filterMap flOn⟩
/-- All is flushed. -/
theorem WFP.flush {P : Ps} (h : WFP P) (hs : WFS P) (hn : (P.C.l.map (·.b)).Nodup) : WFP (flV2 P) := by
  have hf : ∀ {o o' : On}, flOn o = some o' → o'.b = o.b ∧ o'.base = withL o.base (o.l.filter (·.out)) ∧ o'.l = o.l.filter (fun x => !x.out) ∧ o'.l ≠ [] := fun {o o'} e => by
    unfold flOn at e
    split at e
    · cases e
    · rename_i hne
      have := Option.some.inj e
      subst this
      refine ⟨rfl, rfl, rfl, ?_⟩
      intro h0
      apply hne
      have h0 : (o.l.filter fun x => !x.out) = [] := h0
      rw [h0]; rfl
  have hsub : (flV2 P).all.Sublist P.all := flat_sub (fun o o' e => by rw [(hf e).2.2.1]; exact List.filter_sublist) _
  have hall : ∀ x ∈ (flV2 P).all, x.out = false := fun x hx => by
    obtain ⟨o', ho', hx'⟩ := mem_all.1 hx
    obtain ⟨o, ho, e⟩ := List.mem_filterMap.1 ho'
    rw [(hf e).2.2.1] at hx'
    have := (List.mem_filter.1 hx').2
    simpa using this
  have hwl : ∀ o ∈ P.ons, ∀ x ∈ o.l, x.frm + x.data.length ≤ 256 := fun o ho x hx => (hs.dat x (on_all ho hx)).2
  exact {
    lne := fun o' ho' => by
      obtain ⟨o, ho, e⟩ := List.mem_filterMap.1 ho'
      exact (hf e).2.2.2
    pin := fun o' ho' => by
      obtain ⟨o, ho, e⟩ := List.mem_filterMap.1 ho'
      obtain ⟨h1, h2, h3, _⟩ := hf e
      obtain ⟨x, hx, k1, k2, k3⟩ := h.pin o ho
      refine ⟨x, List.mem_map.2 ⟨x, hx, ?_⟩, by rw [h1]; exact k1, k2, ?_⟩
      · rw [if_neg]
        rw [List.any_eq_true]
        rintro ⟨p, hp, hpe⟩
        simp only [Bool.and_eq_true, decide_eq_true_eq] at hpe
        have := on_uniq hs hp ho (by omega)
        subst this
        rw [e] at hpe
        cases hpe.2
      · rw [h2, h3, withL_parts (hs.base o ho) (hwl o ho) (h.cls o ho)]; exact k3
    unp := fun z hz hno => by
      obtain ⟨x, hx, rfl⟩ := List.mem_map.1 hz
      have hb : (if (P.ons.any fun o => decide (o.b = x.b) && (flOn o).isNone) = true then { x with pins := 0 } else x : Bf).b = x.b := by split <;> rfl
      have hd : (if (P.ons.any fun o => decide (o.b = x.b) && (flOn o).isNone) = true then { x with pins := 0 } else x : Bf).data = x.data := by split <;> rfl
      rw [hb] at hno ⊢
      rw [hd]
      show _ ∧ x.data = atD (flSt P.C.D) x.b
      rw [atD_fl h.run]
      by_cases hon : ∃ o ∈ P.ons, o.b = x.b
      · obtain ⟨o, ho, e⟩ := hon
        have hnone : flOn o = none := by
          cases hfo : flOn o with
          | none => rfl
          | some o' => exact absurd (by rw [(hf hfo).1]; exact e) (hno o' (List.mem_filterMap.2 ⟨o, ho, hfo⟩))
        refine ⟨?_, ?_⟩
        · rw [if_pos (List.any_eq_true.2 ⟨o, ho, by rw [hnone, decide_eq_true e]; rfl⟩)]
        · obtain ⟨y, hy, k1, k2, k3⟩ := h.pin o ho
          have hxy : ∀ w ∈ P.C.l, w.b = o.b → w.data = withL o.base o.l → w.data = atD P.C.D x.b := fun w hw _ hwd => by
            rw [← e, h.acc o ho, hwd]
            unfold flOn at hnone
            split at hnone
            · rename_i hemp
              have hall2 : ∀ z ∈ o.l, z.out = true := by
                have : (o.l.filter fun x => !x.out) = [] := List.isEmpty_iff.1 hemp
                rw [List.filter_eq_nil_iff] at this
                intro z hz
                simpa using this z hz
              rw [List.filter_eq_self.2 hall2]
            · cases hnone
          by_cases hxd : x.data = withL o.base o.l
          · exact hxy x hx e.symm hxd
          · have : x = y := map_inj hn hx hy (by omega)
            rw [this] at hxd
            exact absurd k3 hxd
      · rw [if_neg]
        · exact h.unp x hx fun o ho e => hon ⟨o, ho, e⟩
        · rw [List.any_eq_true]
          rintro ⟨o, ho, e⟩
          simp only [Bool.and_eq_true, decide_eq_true_eq] at e
          exact hon ⟨o, ho, e.1⟩
    run := fl_left h.run
    acc := fun o' ho' => by
      obtain ⟨o, ho, e⟩ := List.mem_filterMap.1 ho'
      obtain ⟨h1, h2, h3, _⟩ := hf e
      show atD (flSt P.C.D) o'.b = _
      rw [atD_fl h.run, h1, h2, h.acc o ho]
      have : o'.l.filter (·.out) = [] := by
        rw [List.filter_eq_nil_iff]
        intro x hx
        have := hall x (mem_all.2 ⟨o', ho', hx⟩)
        rw [this]; simp
      rw [this]; rfl
    may := fun o' ho' x hx hxo => by
      have := hall x (mem_all.2 ⟨o', ho', hx⟩)
      rw [this] at hxo; cases hxo
    cls := fun o' ho' => by
      show Cls o'.l
      unfold Cls
      rw [List.pairwise_iff_getElem]
      intro i j hi hj _ hy
      have := hall _ (mem_all.2 ⟨o', ho', List.getElem_mem hj⟩)
      rw [this] at hy; cases hy
    afl := fun x hx => h.afl x (hsub.subset hx) }
end Go.Proofs.Ytocjjigmpgekfaa
