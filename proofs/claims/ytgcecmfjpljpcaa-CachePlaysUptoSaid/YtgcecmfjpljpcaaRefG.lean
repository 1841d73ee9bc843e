/- Layer 2, the document's disk: a flush, a crash. -/
import Derived.Test.YtgcecmfjpljpcaaRefF
open Go Go.Den Go.Proofs
namespace Go.Proofs.Ytgcecmfjpljpcaa
/-- Some blocks with one version. -/
def updR (D : St) (ks : List Nat) (f : Nat → List Bk → Bk) : St := ⟨D.vs.mapIdx fun i v => if i ∈ ks then [f i v] else v, D.left⟩
section
variable {w : World} {R : Nat → Prop} {b vb vc : Nat} {hs : List (Nat × Nat)} {D : St} {K : Value → World → Prop}
theorem St_ext {A B : St} (h1 : A.vs = B.vs) (h2 : A.left = B.left) : A = B := by
  cases A; cases B; simp only at h1 h2; rw [h1, h2]
theorem updR_get {ks : List Nat} {f : Nat → List Bk → Bk} {i : Nat} {v : List Bk} (hv : D.vs[i]? = some v) : (updR D ks f).vs[i]? = some (if i ∈ ks then [f i v] else v) := by
  simp [updR, List.getElem?_mapIdx, hv]
theorem updR_step {ks : List Nat} {f : Nat → List Bk → Bk} {i : Nat} {v : List Bk} (hv : D.vs[i]? = some v) : (updR D ks f).vs.set i [f i v] = (updR D (ks ++ [i]) f).vs := by
  apply List.ext_getElem?
  intro j
  by_cases hj : i = j
  · subst hj
    have hlt : i < (updR D ks f).vs.length := by simp [updR]; exact (List.getElem?_eq_some_iff.1 hv).1
    rw [List.getElem?_set_self hlt, updR_get hv, if_pos (by simp)]
  · rw [List.getElem?_set_ne hj]
    cases hw : D.vs[j]? with
    | none => simp [updR, List.getElem?_mapIdx, hw]
    | some u =>
      rw [updR_get hw, updR_get hw]
      have : (j ∈ ks ++ [i]) ↔ j ∈ ks := by simp; intro e; exact absurd e.symm hj
      simp only [this]
theorem updR_nil (D : St) (f : Nat → List Bk → Bk) : updR D [] f = D := by
  have : (D.vs.mapIdx fun i v => if i ∈ ([] : List Nat) then [f i v] else v) = D.vs := by
    apply List.ext_getElem?
    intro i
    rw [List.getElem?_mapIdx]
    cases D.vs[i]? <;> simp
  unfold updR; rw [this]
theorem updR_all {ks : List Nat} {f : Nat → List Bk → Bk} (h : ∀ i v, D.vs[i]? = some v → i ∉ ks → v = [f i v]) : (updR D ks f).vs = (put1 D f).vs := by
  unfold updR put1
  apply List.ext_getElem?
  intro i
  rw [List.getElem?_mapIdx, List.getElem?_mapIdx]
  cases hv : D.vs[i]? with
  | none => rfl
  | some v =>
    simp only [Option.map_some]
    by_cases hi : i ∈ ks
    · rw [if_pos hi]
    · rw [if_neg hi, ← h i v hv hi]
theorem Gro_mono {w0 w1 w2 : World} (h : w1.heap.size ≤ w2.heap.size) : ∀ x, Gro R w0 w1 x → Gro R w0 w2 x := fun x hx => by
  rcases hx with hx | hx
  · exact .inl hx
  · exact .inr ⟨hx.1, by omega⟩
theorem _root_.Go.Den.RefIn.widen {R' : Nat → Prop} (h : RefIn w R b vb vc hs D) (h1 : ∀ x, R x → R' x) (h2 : ∀ x, R' x → x < w.heap.size) : RefIn w R' b vb vc hs D where
  cell := h.cell
  vec := h.vec
  cap := h.cap
  hl := h.hl
  row := fun i v hv => by obtain ⟨q, c, r1, r2, r3, r4, r5⟩ := h.row i v hv; exact ⟨q, c, r1, r2, r3, h1 _ r4, r5⟩
  rb := h1 _ h.rb
  rv := h1 _ h.rv
  ne := h.ne
  wf := h.wf
  lt := h2

/-- A block gets one version: a new row of one string, and its header. -/
theorem one_row {w0 : World} (hR : ∀ x, R x → x < w0.heap.size) (hrb : R b) (hrv : R vb) (h : RefIn w (Gro R w0 w) b vb vc hs D) (hz : w0.heap.size ≤ w.heap.size) {i : Nat} {v : List Bk} {x : Bk} (hv : D.vs[i]? = some v) (hx : x.length = 256) :
    RefIn (w.alloc (.cells ⟨[.string ⟨x.toArray⟩]⟩ 9)) (Gro R w0 (w.alloc (.cells ⟨[.string ⟨x.toArray⟩]⟩ 9))) b vb vc hs D ∧
    ∃ w', RuU (Instr.storeAt 44 (.pointer (some (Addr.add (Addr.add ⟨vb, 0, none⟩ i) 0))) (.slice (some ⟨w.heap.size, 0, none⟩) 1 1)) (w.alloc (.cells ⟨[.string ⟨x.toArray⟩]⟩ 9)) w' ∧
      RefIn w' (Gro R w0 w') b vb vc (hs.set i (w.heap.size, 1)) ⟨D.vs.set i [x], D.left⟩ ∧ Mod R w w' := by
  have m1 : Mod No w (w.alloc (.cells ⟨[.string ⟨x.toArray⟩]⟩ 9)) := (Mod.refl No w).alloc _
  have hat : At (w.alloc (.cells ⟨[.string ⟨x.toArray⟩]⟩ 9)) w.heap.size 0 ([x].map strV) := AtU.new.at
  have hs1 : (w.alloc (.cells ⟨[.string ⟨x.toArray⟩]⟩ 9)).heap.size = w.heap.size + 1 := by simp
  generalize w.alloc (.cells ⟨[.string ⟨x.toArray⟩]⟩ 9) = w1 at *
  have h1 := (h.nos m1).widen (R' := Gro R w0 w1) (Gro_mono (by omega)) (gro_lt hR (by omega))
  refine ⟨h1, ?_⟩
  have hb := hR b hrb
  have hvb := hR vb hrv
  obtain ⟨w2, s1, s2, s3⟩ := RefIn_set h1 (R' := Gro R w0 w1) (q' := w.heap.size) (c' := 1) (v' := [x]) hv (fun _ h => h) (.inr ⟨by omega, by omega⟩) h1.lt hat (by omega) (by omega) (by simp) (fun y hy => by simp at hy; subst hy; exact hx) (by simp)
  have hz2 := s3.size
  exact ⟨w2, s1, s2.widen (Gro_mono (by omega)) (gro_lt hR (by omega)), (m1.mono fun _ _ h => h.elim).trans s3 fun y _ e => by subst e; exact hrv⟩

theorem refFlush_c (h : RefIn w R b vb vc hs D) (hsm : Small D) (hk : ∀ w' hs', Mod R w w' → RefIn w' (Gro R w w') b vb vc hs' (flSt D) → K (.int .i64 0) w') : Cal Try.prog F_leveeref02_Disk_Flush #[.pointer (some ⟨b, 0, none⟩)] w K := by
  apply C_leveeref02_Disk_Flush
  unfold D_leveeref02_Disk_Flush
  refine refGoes_c h (fun hz => ⟨_, rfl, tt rfl ?_⟩) fun hnz w2 h2 m2 => ⟨_, rfl, ff rfl ?_⟩
  · have e : flSt D = D := by unfold flSt; rw [if_pos hz]
    exact hk w hs (Mod.refl _ _) (by rw [e]; exact h.widen (fun x hx => .inl hx) (gro_lt h.lt (Nat.le_refl _)))
  have eF : flSt D = ⟨D.vs.map fun v => [lastV v], dec D.left⟩ := by unfold flSt; rw [if_neg hnz]
  rw [eF] at hk
  have hhi := h.wf.hi
  have hz2 := m2.size
  have M2 : Mod R w w2 := m2.mono fun x _ e => by subst e; exact h.rb
  generalize hD2 : (⟨D.vs, dec D.left⟩ : St) = D2 at *
  have hvs : D2.vs = D.vs := by rw [← hD2]
  have hn2 : D2.vs.length = D.vs.length := by rw [hvs]
  have hlt2 : D2.left = dec D.left := by rw [← hD2]
  refine ⟨fun x w3 => ∃ (i : Nat) (hs' : List (Nat × Nat)), i ≤ D2.vs.length ∧ x = [.int .i64 i] ∧ RefIn w3 (Gro R w w3) b vb vc hs' (updR D2 (List.range i) fun _ v => lastV v) ∧ Mod R w w3 ∧ w.heap.size ≤ w3.heap.size, fun x _ => (D2.vs.length - nI x 0).toNat,
    ⟨0, hs, by omega, rfl, by rw [List.range_zero, updR_nil]; exact h2.widen (fun x hx => .inl hx) (gro_lt h.lt hz2), M2, hz2⟩, ?_⟩
  rintro x w3 ⟨i, hs', hi, rfl, h3, M3, hz3⟩
  have hn3 : (updR D2 (List.range i) fun _ v => lastV v).vs.length = D2.vs.length := by simp [updR]
  have hrv3 := rv h3
  rw [hn3] at hrv3
  refine ⟨_, rfl, _, rfl, _, _, _, hrv3, cond_of (fun hb => ?_) (fun hb => ?_)⟩
  · have hi : i < D2.vs.length := by have := of_decide_eq_true hb; omega
    have hv : D2.vs[i]? = some D2.vs[i] := by simp [hi]
    have hv3 : (updR D2 (List.range i) fun _ v => lastV v).vs[i]? = some D2.vs[i] := by rw [updR_get hv, if_neg (by simp)]
    have hvm : D2.vs[i] ∈ D.vs := by rw [← hvs]; exact List.getElem_mem hi
    have hvne := (h.wf.ver _ hvm).1
    have hvp := List.length_pos_iff.2 hvne
    have hvl := hsm _ hvm
    have hll : (lastV D2.vs[i]).length = 256 := h2.wf.lastLen hv
    obtain ⟨q, cq, hrow, hcq, hat, _⟩ := rrow h3 hv3
    refine ⟨_, rfl, _, _, _, hrv3, _, idx_blk hi, _, _, _, hrow, _, rfl, ?_⟩
    have h3d := h3.drew
    have hrv3d := rv h3d
    rw [hn3] at hrv3d
    refine ⟨_, _, _, hrv3d, ?_⟩
    rw [wrap64 (x := (D2.vs[i].length : Int) - 1) (by omega) (by omega), show (D2.vs[i].length : Int) - 1 = ((D2.vs[i].length - 1 : Nat) : Int) by omega]
    refine ⟨_, idx_str (by omega), _, strV_get (show At (drew w3) q 0 _ from hat) (last_get hvne), _, _, _, _, built_str _ _, ?_⟩
    have h3g : RefIn (drew w3) (Gro R w (drew w3)) b vb vc hs' (updR D2 (List.range i) fun _ v => lastV v) := h3d
    obtain ⟨h4, w5, s1, s2, s3⟩ := one_row (w0 := w) h.lt h.rb h.rv h3g hz3 hv3 hll
    have hrv4 := rv h4
    rw [hn3] at hrv4
    refine ⟨hrv4, _, idx_blk hi, w5, s1, ?_⟩
    rw [wrap64 (x := (i : Int) + 1) (by omega) (by omega)]
    have M5 : Mod R w w5 := (M3.no (Mod.refl No w3).drew).trans s3 fun _ _ h => h
    refine ⟨⟨i + 1, hs'.set i ((drew w3).heap.size, 1), by omega, rfl, ?_, M5, M5.size⟩, by simp [nI, nth]; omega⟩
    have e := updR_step (ks := List.range i) (f := fun _ v => lastV v) hv
    rw [← List.range_succ] at e
    rw [e] at s2
    exact s2
  · have hik : i = D2.vs.length := by have := of_decide_eq_false hb; omega
    subst hik
    refine hk w3 hs' M3 ?_
    have e : updR D2 (List.range D2.vs.length) (fun _ v => lastV v) = ⟨D.vs.map fun v => [lastV v], dec D.left⟩ := by
      have h1 := updR_all (D := D2) (ks := List.range D2.vs.length) (f := fun _ v => lastV v) (fun i v hv hi => by
        have := (List.getElem?_eq_some_iff.1 hv).1
        simp at hi; omega)
      rw [put1_const] at h1
      exact St_ext (by rw [h1, ← hvs]) hlt2
    rw [e] at h3
    exact h3

theorem kOf_ref (pick : List Int) (j m : Nat) (k0 : Int) (hk0 : k0 = if j < pick.length ∧ pick.getD j 0 > 0 then pick.getD j 0 else 0) : (if k0 > (m : Int) then (m : Int) else k0) = kOf pick j m := by
  rw [hk0]; clear hk0
  unfold kOf
  generalize pick.getD j 0 = x
  by_cases h1 : j < pick.length
  · simp only [h1, true_and, if_true]
    by_cases h2 : x > 0
    · simp only [h2, if_true, if_neg (show ¬ 0 > x by omega)]
      first | done | (split <;> split <;> omega)
    · simp only [h2, if_false]
      by_cases h3 : 0 > x
      · simp only [h3, if_true]
        first | done | (split <;> split <;> omega)
      · simp only [h3, if_false]
        first | done | (split <;> split <;> omega)
  · simp only [h1, false_and, if_false]
    split <;> omega

end
end Go.Proofs.Ytgcecmfjpljpcaa
