/- The library's functions that layer 11 calls: rows of changes, of numbers; bytes over bytes. -/
import Derived.Test.YtgcecmfjpljpcaaCacheK
import Derived.Test.YtgcecmfjpljpcaaTxtPa
open Go Go.Den Go.Proofs
namespace Go.Den
def pV (q : Nat) : Value := .pointer (some ⟨q, 0, none⟩)
def pL (qs : List Nat) : List Value := qs.map pV
@[simp] theorem length_pL (qs : List Nat) : (pL qs).length = qs.length := by simp [pL]
theorem pL_get {qs : List Nat} {i : Nat} (hi : i < qs.length) : (pL qs)[i]? = some (.pointer (some ⟨qs[i], 0, none⟩)) := by simp [pL, hi, pV]
theorem one_pL (qs : List Nat) : ∀ v ∈ pL qs, v.oneCell' = true := by
  intro v hv; simp [pL] at hv; obtain ⟨x, _, rfl⟩ := hv; rfl
theorem row_someP {w : World} {a : Option Addr} {xs : List Nat} {i : Nat} (h : Row w a (pL xs)) (hi : i < xs.length) : ∃ b o, a = some ⟨b, o, none⟩ ∧ At w b o (pL xs) := by
  refine h.resolve_left fun e => ?_
  have := congrArg List.length e
  simp at this; rw [this] at hi; simp at hi
end Go.Den
namespace Go.Proofs.Ytgcecmfjpljpcaa
theorem elemZ_chs : elemZ Try.prog 125 1 (.pointer none) 8 := by unfold elemZ; kernel_rfl
theorem elemZ_64 : elemZ Try.prog 64 1 (.int .i64 0) 8 := by unfold elemZ; kernel_rfl
/-- A function value that tells of each of some changes, whatever turns in S. -/
def TellsP (v : Value) (w0 : World) (S : Nat → Prop) (p : Nat → Bool) (xs : List Nat) : Prop :=
  ∀ w', Mod S w0 w' → ∀ x ∈ xs, ∀ K : Value → World → Prop, (∀ w'', Mod No w' w'' → K (.bool (p x)) w'') → Dyn Try.prog v #[.pointer (some ⟨x, 0, none⟩)] w' K
section
variable {w : World} {K : Value → World → Prop}
theorem IndexFunc64_c {a : Option Addr} {l c : Nat} {xs : List Int} {v : Value} {p : Int → Bool} {S : Nat → Prop} (hl : xs.length = l) (h63 : l ≤ 9223372036854775806) (hr : Row w a (iL xs)) (ht : Tells v w S p xs)
    (hk : ∀ w', Mod No w w' → K (.int .i64 (idxF p xs 0)) w') : Cal Try.prog F_slices_IndexFunc_int64 #[.slice a l c, v] w K := by
  apply C_slices_IndexFunc_int64
  unfold D_slices_IndexFunc_int64
  refine ⟨fun x w1 => ∃ i : Nat, i ≤ l ∧ x = [.int .i64 i] ∧ Mod No w w1 ∧ idxF p xs 0 = idxF p (xs.drop i) i, fun x _ => (l - nI x 0).toNat, ⟨0, by omega, rfl, Mod.refl _ _, rfl⟩, ?_⟩
  rintro x w1 ⟨i, hi, rfl, hm, hidx⟩
  refine ⟨_, rfl, cond_of (fun hb => ?_) (fun hb => ?_)⟩
  · have hi : i < l := by have := of_decide_eq_true hb; omega
    have hix : i < xs.length := by omega
    obtain ⟨b, o, rfl, hat⟩ := row_some hr hix
    refine ⟨_, index_slice (k := 1) (by kernel_rfl) (by omega) (by omega), ?_⟩
    rw [add_none, show (i : Int).toNat * 1 = i by omega]
    refine ⟨_, (hat.keep hm id).load (by kernel_rfl) (iL_get hix), ht w1 (hm.mono fun _ _ h => h.elim) _ (List.getElem_mem hix) _ fun w2 m2 => ⟨_, rfl, cond_of (fun hp => ?_) (fun hp => ?_)⟩⟩
    · have e : idxF p xs 0 = i := by rw [hidx, drop_get hix]; simp only [idxF]; rw [if_pos hp]
      rw [← e]; exact hk w2 (hm.no m2)
    · rw [wrap64 (x := (i : Int) + 1) (by omega) (by omega)]
      refine ⟨⟨i + 1, by omega, rfl, hm.no m2, ?_⟩, by simp [nI, nth]; omega⟩
      rw [hidx, drop_get hix]; simp only [idxF]; rw [if_neg (by rw [hp]; simp)]
  · have hil : i = l := by have := of_decide_eq_false hb; omega
    have e : idxF p xs 0 = -1 := by rw [hidx, List.drop_eq_nil_of_le (by omega)]; rfl
    rw [← e]; exact hk w1 hm

theorem Contains64_c {a : Option Addr} {l c : Nat} {xs : List Int} {v : Value} {p : Int → Bool} {S : Nat → Prop} (hl : xs.length = l) (h63 : l ≤ 9223372036854775806) (hr : Row w a (iL xs)) (ht : Tells v w S p xs)
    (hk : ∀ w', Mod No w w' → K (.bool (xs.any p)) w') : Cal Try.prog F_slices_ContainsFunc_int64 #[.slice a l c, v] w K := by
  apply C_slices_ContainsFunc_int64
  refine IndexFunc64_c hl h63 hr ht fun w' m => ⟨_, rfl, ?_⟩
  have e : decide (idxF p xs 0 ≥ 0) = xs.any p := by
    rcases idxF_cases p xs 0 with ⟨h1, h2⟩ | ⟨j, x, h1, h2, h3, _⟩
    · rw [h1]
      symm
      rw [show decide ((-1 : Int) ≥ 0) = false from rfl, List.any_eq_false]
      intro x hx; rw [h2 x hx]; simp
    · rw [h1, decide_eq_true (by omega)]
      symm
      exact List.any_eq_true.2 ⟨x, List.mem_of_getElem? h2, h3⟩
  rw [e]; exact hk w' m
theorem IndexFuncP_c {a : Option Addr} {l c : Nat} {xs : List Nat} {v : Value} {p : Nat → Bool} {S : Nat → Prop} (hl : xs.length = l) (h63 : l ≤ 9223372036854775806) (hr : Row w a (pL xs)) (ht : TellsP v w S p xs)
    (hk : ∀ w', Mod No w w' → K (.int .i64 (idxF p xs 0)) w') : Cal Try.prog F_slices_IndexFunc_patch_change #[.slice a l c, v] w K := by
  apply C_slices_IndexFunc_patch_change
  unfold D_slices_IndexFunc_patch_change
  refine ⟨fun x w1 => ∃ i : Nat, i ≤ l ∧ x = [.int .i64 i] ∧ Mod No w w1 ∧ idxF p xs 0 = idxF p (xs.drop i) i, fun x _ => (l - nI x 0).toNat, ⟨0, by omega, rfl, Mod.refl _ _, rfl⟩, ?_⟩
  rintro x w1 ⟨i, hi, rfl, hm, hidx⟩
  refine ⟨_, rfl, cond_of (fun hb => ?_) (fun hb => ?_)⟩
  · have hi : i < l := by have := of_decide_eq_true hb; omega
    have hix : i < xs.length := by omega
    obtain ⟨b, o, rfl, hat⟩ := row_someP hr hix
    refine ⟨_, index_slice (k := 1) (by kernel_rfl) (by omega) (by omega), ?_⟩
    rw [add_none, show (i : Int).toNat * 1 = i by omega]
    refine ⟨_, (hat.keep hm id).load (by kernel_rfl) (pL_get hix), ht w1 (hm.mono fun _ _ h => h.elim) _ (List.getElem_mem hix) _ fun w2 m2 => ⟨_, rfl, cond_of (fun hp => ?_) (fun hp => ?_)⟩⟩
    · have e : idxF p xs 0 = i := by rw [hidx, drop_get hix]; simp only [idxF]; rw [if_pos hp]
      rw [← e]; exact hk w2 (hm.no m2)
    · rw [wrap64 (x := (i : Int) + 1) (by omega) (by omega)]
      refine ⟨⟨i + 1, by omega, rfl, hm.no m2, ?_⟩, by simp [nI, nth]; omega⟩
      rw [hidx, drop_get hix]; simp only [idxF]; rw [if_neg (by rw [hp]; simp)]
  · have hil : i = l := by have := of_decide_eq_false hb; omega
    have e : idxF p xs 0 = -1 := by rw [hidx, List.drop_eq_nil_of_le (by omega)]; rfl
    rw [← e]; exact hk w1 hm

theorem DeleteFuncP_c {base : Nat} {a : Option Addr} {l c : Nat} {xs : List Nat} {v : Value} {p : Nat → Bool} (h : Own Try.prog w base 125 1 a l c (pL xs)) (h63 : l ≤ 1000000000) (ht : TellsP v w (Of a) p xs)
    (hk : ∀ w' l', Own Try.prog w' base 125 1 a l' c (pL (xs.filter fun x => !p x)) → l' = (xs.filter fun x => !p x).length → Mod (Of a) w w' → K (.slice a l' c) w') : Cal Try.prog F_slices_DeleteFunc_patch_change #[.slice a l c, v] w K := by
  have hlen : xs.length = l := by have := h.len; simpa using this
  apply C_slices_DeleteFunc_patch_change
  unfold D_slices_DeleteFunc_patch_change
  refine IndexFuncP_c hlen (by omega) h.rowU.row ht fun w1 m1 => ⟨_, rfl, ?_⟩
  rcases idxF_cases p xs 0 with ⟨e, hno⟩ | ⟨i0, x0, e, hx0, hp0, hbef⟩
  · rw [e]
    refine tt rfl ?_
    have hf : xs.filter (fun x => !p x) = xs := List.filter_eq_self.2 fun x hx => by simp [hno x hx]
    exact hk w1 l (by rw [hf]; exact h.nos m1) (by rw [hf]; exact hlen.symm) (m1.mono fun _ _ h => h.elim)
  rw [e, Nat.zero_add]
  obtain ⟨hi0, hx0'⟩ := List.getElem?_eq_some_iff.1 hx0
  have hla : 0 < l := by omega
  obtain ⟨g, rfl, hg, _⟩ := h.sm hla
  have hcap := h.cap
  refine ff (by simp <;> omega) ⟨fun x w2 => ∃ (i j : Nat) (ys : List Nat), x = [.int .i64 i, .int .i64 j] ∧ i < j ∧ j ≤ l ∧ Own Try.prog w2 base 125 1 (some ⟨g, 0, none⟩) l c (pL ys) ∧ ys.take i = ((xs.take j).filter fun x => !p x) ∧ ys.drop j = xs.drop j ∧ Mod (Of (some ⟨g, 0, none⟩)) w w2,
    fun x _ => (l - nI x 1).toNat, ⟨i0, i0 + 1, xs, ?_, by omega, by omega, h.nos m1, ?_, rfl, m1.mono fun _ _ h => h.elim⟩, ?_⟩
  · rw [wrap64 (x := (i0 : Int) + 1) (by omega) (by omega)]; rfl
  · rw [List.take_succ_eq_append_getElem hi0, List.filter_append, hx0']
    have e1 : (xs.take i0).filter (fun x => !p x) = xs.take i0 := List.filter_eq_self.2 fun x hx => by simp [hbef x hx]
    rw [e1]; simp [hp0]
  rintro x w2 ⟨i, j, ys, rfl, hij, hjl, o2, h1, h2, M2⟩
  have hyl : ys.length = l := by have := o2.len; simpa using this
  refine ⟨_, rfl, cond_of (fun hb => ?_) (fun hb => ?_)⟩
  · have hj : j < l := by have := of_decide_eq_true hb; omega
    have hjx : j < xs.length := by omega
    have hjy : j < ys.length := by omega
    have hyx : ys[j] = xs[j] := by
      have e1 := (drop_get hjy).symm.trans (h2.trans (drop_get hjx))
      exact (List.cons.inj e1).1
    obtain ⟨b2, o, e2, hat⟩ := row_someP o2.rowU.row hjy
    simp at e2
    obtain ⟨rfl, rfl⟩ := e2
    refine ⟨_, index_slice (k := 1) (by kernel_rfl) (by omega) (by omega), ?_⟩
    rw [add_none, show (j : Int).toNat * 1 = j by omega]
    refine ⟨_, hat.load (by kernel_rfl) (pL_get hjy), ht w2 M2 _ (by rw [hyx]; exact List.getElem_mem hjx) _ fun w3 m3 => ⟨_, rfl, ?_⟩⟩
    rw [hyx]
    refine Share.cut (fun z w4 => ∃ (i' : Nat) (ys' : List Nat), z = [.int .i64 i'] ∧ i' < j + 1 ∧ Own Try.prog w4 base 125 1 (some ⟨g, 0, none⟩) l c (pL ys') ∧ ys'.take i' = ((xs.take (j + 1)).filter fun x => !p x) ∧ ys'.drop (j + 1) = xs.drop (j + 1) ∧ Mod (Of (some ⟨g, 0, none⟩)) w w4)
      (cond_of (fun hp => ?_) (fun hp => ?_)) ?_
    · have hp : p xs[j] = false := by simpa using hp
      refine ⟨_, rfl, _, index_slice (k := 1) (by kernel_rfl) (by omega) (by omega), ?_⟩
      rw [add_none, show 0 + (i : Int).toNat * 1 = i by omega]
      obtain ⟨w4, s1, s2, s3⟩ := (o2.nos m3).set (T' := 128) (i := i) (v := .pointer (some ⟨xs[j], 0, none⟩)) (by kernel_rfl) (by omega) rfl
      refine ⟨w4, s1, ?_⟩
      obtain ⟨k1, k2⟩ := keep_step h1 h2 (by omega) hij hjx hp
      rw [wrap64 (x := (i : Int) + 1) (by omega) (by omega)]
      refine ⟨i + 1, ys.set i xs[j], rfl, by omega, ?_, k1, k2, (M2.no m3).trans s3 fun x _ e => ⟨_, rfl, e⟩⟩
      have e3 : (pL ys).set i (.pointer (some ⟨xs[j], 0, none⟩)) = pL (ys.set i xs[j]) := by simp [pL, List.map_set, pV]
      rw [e3] at s2; exact s2
    · have hp : p xs[j] = true := by simpa using hp
      refine ⟨i, ys, rfl, by omega, o2.nos m3, ?_, ?_, M2.no m3⟩
      · rw [h1, List.take_succ_eq_append_getElem hjx, List.filter_append]; simp [hp]
      · rw [← List.drop_drop, h2, List.drop_drop]
    · rintro z w4 ⟨i', ys', rfl, hij', o4, k1, k2, M4⟩
      rw [wrap64 (x := (j : Int) + 1) (by omega) (by omega)]
      exact ⟨⟨i', j + 1, ys', rfl, hij', by omega, o4, k1, k2, M4⟩, by simp [nI, nth]; omega⟩
  · have hjl : j = l := by have := of_decide_eq_false hb; omega
    subst hjl
    refine ⟨_, rfl, _, _, _, slice_l (k := 1) (by kernel_rfl) (by omega) (by omega), ?_⟩
    rw [Int.toNat_natCast]
    obtain ⟨w3, zs, s1, s2, s3⟩ := o2.clear (ty := 0) elemZ_chs (i := i) (by omega) rfl
    refine ⟨w3, s1, _, _, _, slice_h (k := 1) (by kernel_rfl) (by omega) (by omega), ?_⟩
    have hcut : cutA (some ⟨g, 0, none⟩) c 0 1 = some ⟨g, 0, none⟩ := by
      unfold cutA; rw [if_neg (by omega)]; simp [add_none]
    rw [hcut, Int.toNat_natCast]
    have hxall : xs.take j = xs := List.take_of_length_le (by omega)
    rw [hxall] at h1
    have hsh := s2.shrink (i := i) (by omega) (by simp)
    have e5 : ((pL ys).take i ++ zs).take i = pL (xs.filter fun x => !p x) := by
      rw [← h1]
      have : ((pL ys).take i).length = i := by simp; omega
      rw [List.take_append_of_le_length (by omega), List.take_of_length_le (by omega)]
      simp [pL, List.map_take]
    rw [e5] at hsh
    refine hk w3 i hsh ?_ (M2.trans s3 fun x _ e => ⟨_, rfl, e⟩)
    rw [← h1]; simp; omega
theorem ContainsP_c {a : Option Addr} {l c : Nat} {xs : List Nat} {v : Value} {p : Nat → Bool} {S : Nat → Prop} (hl : xs.length = l) (h63 : l ≤ 9223372036854775806) (hr : Row w a (pL xs)) (ht : TellsP v w S p xs)
    (hk : ∀ w', Mod No w w' → K (.bool (xs.any p)) w') : Cal Try.prog F_slices_ContainsFunc_patch_change #[.slice a l c, v] w K := by
  apply C_slices_ContainsFunc_patch_change
  refine IndexFuncP_c hl h63 hr ht fun w' m => ⟨_, rfl, ?_⟩
  have e : decide (idxF p xs 0 ≥ 0) = xs.any p := by
    rcases idxF_cases p xs 0 with ⟨h1, h2⟩ | ⟨j, x, h1, h2, h3, _⟩
    · rw [h1]
      symm
      rw [show decide ((-1 : Int) ≥ 0) = false from rfl, List.any_eq_false]
      intro x hx; rw [h2 x hx]; simp
    · rw [h1, decide_eq_true (by omega)]
      symm
      exact List.any_eq_true.2 ⟨x, List.mem_of_getElem? h2, h3⟩
  rw [e]; exact hk w' m
/-- Bytes over others, from a place on. -/
def overB (b : List UInt8) (i : Nat) (ys : List UInt8) : List UInt8 := b.take i ++ ys ++ b.drop (i + ys.length)
theorem overB_len {b ys : List UInt8} {i : Nat} (h : i + ys.length ≤ b.length) : (overB b i ys).length = b.length := by unfold overB; simp; omega
theorem Lay_c' {a0 a2 : Option Addr} {l0 c0 l2 c2 i : Nat} {b ys : List UInt8} (hb : b.length = l0) (hy : ys.length = l2) (hin : i + l2 ≤ l0) (h63 : l0 ≤ 1048576) (hl0 : 0 < l0) (h0 : Row w a0 (u8L b)) (h2 : Row w a2 (u8L ys))
    (hk : ∀ w', Mod No w w' → AtU w' w.heap.size 0 (u8L (overB b i ys)) → K (.tuple #[.slice (some ⟨w.heap.size, 0, none⟩) l0 l0, .int .i64 0]) w') : Cal Try.prog F_num_Lay #[.slice a0 l0 c0, .int .i64 i, .slice a2 l2 c2] w K := by
  apply C_num_Lay
  unfold D_num_Lay
  have hwi : ∀ {K : Value → World → Prop}, K (.bool true) w → Cal Try.prog F_num_within #[.slice a0 l0 c0, .int .i64 i, .int .i64 ((l2 : Nat) : Int)] w K := fun hk => by
    apply C_num_within
    refine Share.dup (tt (decide_eq_true (by omega)) (tt (decide_eq_true (by omega)) (tt (decide_eq_true (by omega)) ⟨_, rfl, ?_⟩)))
    rw [wrap64 (x := (l0 : Int) - i) (by omega) (by omega), decide_eq_true (by omega)]
    exact hk
  refine hwi ⟨_, rfl, ff rfl ?_⟩
  obtain ⟨w1, hm1, hat1, hmod1, hsz1⟩ := makeSlice_run (P := Try.prog) (w := w) (n := l0) elemZ_bytes (by omega) (by omega) (by omega)
  obtain ⟨w2, hc1, hc2, hc3, hc4⟩ := copy_run (P := Try.prog) (T := 32) (T2 := 32) (ty := 3) (k := 1) (n := l0) (c := l0) (n2 := l0) (c2 := c0) (a2 := a0) (src := u8L b) (by kernel_rfl) hat1 (by rw [List.length_replicate]) (h0.nos hmod1) (by rw [length_u8L, hb]; omega) (one_u8L b)
  have e1 : splice (List.replicate (l0 * 1) (Value.int .u8 0)) 0 ((u8L b).take (Nat.min l0 l0 * 1)) = u8L b := by
    have : (u8L b).take (Nat.min l0 l0 * 1) = u8L b := List.take_of_length_le (by rw [length_u8L, hb, Nat.mul_one]; exact Nat.le_of_eq (Nat.min_self l0).symm)
    rw [this]; exact splice_all (by rw [length_u8L, hb, List.length_replicate]; omega)
  rw [e1] at hc2
  have M2 : Mod No w w2 := hmod1.trans hc3 fun x hx e => by omega
  have h2' := h2.nos M2
  refine ⟨_, _, _, w1, hm1, _, w2, hc1, _, _, _, slice_l (k := 1) (by kernel_rfl) (by omega) (by omega), ?_⟩
  rw [Int.toNat_natCast]
  by_cases hil : i = l0
  · have hy0 : ys = [] := List.eq_nil_of_length_eq_zero (by omega)
    have hl20 : l2 = 0 := by omega
    subst hy0
    have hcut : cutA (some ⟨w.heap.size, 0, none⟩) l0 i 1 = some ⟨w.heap.size, 0, none⟩ := by unfold cutA; rw [if_pos hil.symm]
    rw [hcut]
    obtain ⟨w3, hd1, hd2, hd3, hd4⟩ := copy_in (P := Try.prog) (T := 32) (T2 := 32) (ty := 3) (k := 1) (i := 0) (n := l0 - i) (c := l0 - i) (n2 := l2) (c2 := c2) (a2 := a2) (src := u8L []) (by kernel_rfl) hc2 (by simp; omega) h2' (by simp [hl20]) (one_u8L [])
    refine ⟨_, w3, hd1, hk w3 (M2.trans hd3 fun x hx e => by omega) ?_⟩
    have e2 : splice (u8L b) 0 ((u8L []).take (Nat.min l2 (l0 - i) * 1)) = u8L (overB b i []) := by simp [splice, u8L, overB]
    rw [e2] at hd2; exact hd2
  · have hcut : cutA (some ⟨w.heap.size, 0, none⟩) l0 i 1 = some ⟨w.heap.size, 0 + i, none⟩ := by
      unfold cutA; rw [if_neg (by omega)]; simp [add_none]
    rw [hcut]
    obtain ⟨w3, hd1, hd2, hd3, hd4⟩ := copy_in (P := Try.prog) (T := 32) (T2 := 32) (ty := 3) (k := 1) (i := i) (n := l0 - i) (c := l0 - i) (n2 := l2) (c2 := c2) (a2 := a2) (src := u8L ys) (by kernel_rfl) hc2 (by simp [hb]; omega) h2' (by simp [hy]) (one_u8L ys)
    refine ⟨_, w3, hd1, hk w3 (M2.trans hd3 fun x hx e => by omega) ?_⟩
    have e2 : splice (u8L b) i ((u8L ys).take (Nat.min l2 (l0 - i) * 1)) = u8L (overB b i ys) := by
      have : (u8L ys).take (Nat.min l2 (l0 - i) * 1) = u8L ys := List.take_of_length_le (by rw [length_u8L, hy, Nat.mul_one]; exact Nat.le_of_eq (Nat.min_eq_left (by omega)).symm)
      rw [this, splice_u8L]; rfl
    rw [e2] at hd2; exact hd2
end
end Go.Proofs.Ytgcecmfjpljpcaa
