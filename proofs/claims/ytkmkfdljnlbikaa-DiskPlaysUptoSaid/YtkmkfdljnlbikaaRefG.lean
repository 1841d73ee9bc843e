/- Layer 2, the document's disk: a flush, a crash. -/
import Derived.Test.YtkmkfdljnlbikaaRefF
open Go Go.Den Go.Proofs
namespace Go.Proofs.Ytkmkfdljnlbikaa
/-- Some blocks with one version. -/
def updR (D : St) (ks : List Nat) (f : Nat → List Bk → Bk) : St := ⟨D.vs.mapIdx fun i v => if i ∈ ks then [f i v] else v, D.left⟩
section
variable {w : World} {R : Nat → Prop} {b vb vc : Nat} {hs : List (Nat × Nat)} {D : St} {K : Value → World → Prop}
theorem St_ext {A B : St} (h1 : A.vs = B.vs) (h2 : A.left = B.left) : A = B := by
  cases A; cases B; simp only at h1 h2; rw [h1, h2]
theorem updR_get {ks : List Nat} {f : Nat → List Bk → Bk} {i : Nat} {v : List Bk} (hv : D.vs[i]? = some v) : (updR D ks f).vs[i]? = some (if i ∈ ks then [f i v] else v) := by
  simp [updR, List.getElem?_mapIdx, hv]
theorem updR_step {ks : List Nat} {f : Nat → List Bk → Bk} {i : Nat} {v : List Bk} (hv : D.vs[i]? = some v) : (updR D ks f).vs.set i [f i v] = (updR D (ks ++ [i]) f).vs := by
  apply List.ext_getElem?
  intro j
  by_cases hj : i = j
  · subst hj
    have hlt : i < (updR D ks f).vs.length := by simp [updR]; exact (List.getElem?_eq_some_iff.1 hv).1
    rw [List.getElem?_set_self hlt, updR_get hv, if_pos (by simp)]
  · rw [List.getElem?_set_ne hj]
    cases hw : D.vs[j]? with
    | none => simp [updR, List.getElem?_mapIdx, hw]
    | some u =>
      rw [updR_get hw, updR_get hw]
      have : (j ∈ ks ++ [i]) ↔ j ∈ ks := by simp; intro e; exact absurd e.symm hj
      simp only [this]
theorem updR_nil (D : St) (f : Nat → List Bk → Bk) : updR D [] f = D := by
  have : (D.vs.mapIdx fun i v => if i ∈ ([] : List Nat) then [f i v] else v) = D.vs := by
    apply List.ext_getElem?
    intro i
    rw [List.getElem?_mapIdx]
    cases D.vs[i]? <;> simp
  unfold updR; rw [this]
theorem updR_all {ks : List Nat} {f : Nat → List Bk → Bk} (h : ∀ i v, D.vs[i]? = some v → i ∉ ks → v = [f i v]) : (updR D ks f).vs = (put1 D f).vs := by
  unfold updR put1
  apply List.ext_getElem?
  intro i
  rw [List.getElem?_mapIdx, List.getElem?_mapIdx]
  cases hv : D.vs[i]? with
  | none => rfl
  | some v =>
    simp only [Option.map_some]
    by_cases hi : i ∈ ks
    · rw [if_pos hi]
    · rw [if_neg hi, ← h i v hv hi]
theorem Gro_mono {w0 w1 w2 : World} (h : w1.heap.size ≤ w2.heap.size) : ∀ x, Gro R w0 w1 x → Gro R w0 w2 x := fun x hx => by
  rcases hx with hx | hx
  · exact .inl hx
  · exact .inr ⟨hx.1, by omega⟩
theorem _root_.Go.Den.RefIn.widen {R' : Nat → Prop} (h : RefIn w R b vb vc hs D) (h1 : ∀ x, R x → R' x) (h2 : ∀ x, R' x → x < w.heap.size) : RefIn w R' b vb vc hs D where
  cell := h.cell
  vec := h.vec
  cap := h.cap
  hl := h.hl
  row := fun i v hv => by obtain ⟨q, c, r1, r2, r3, r4, r5⟩ := h.row i v hv; exact ⟨q, c, r1, r2, r3, h1 _ r4, r5⟩
  rb := h1 _ h.rb
  rv := h1 _ h.rv
  ne := h.ne
  wf := h.wf
  lt := h2

/-- A block gets one version: a new row of one string, and its header. -/
theorem one_row {w0 : World} (hR : ∀ x, R x → x < w0.heap.size) (hrb : R b) (hrv : R vb) (h : RefIn w (Gro R w0 w) b vb vc hs D) (hz : w0.heap.size ≤ w.heap.size) {i : Nat} {v : List Bk} {x : Bk} (hv : D.vs[i]? = some v) (hx : x.length = 256) :
    RefIn (w.alloc (.cells ⟨[.string ⟨x.toArray⟩]⟩ 9)) (Gro R w0 (w.alloc (.cells ⟨[.string ⟨x.toArray⟩]⟩ 9))) b vb vc hs D ∧
    ∃ w', RuU (Instr.storeAt 95 (.pointer (some (Addr.add (Addr.add ⟨vb, 0, none⟩ i) 0))) (.slice (some ⟨w.heap.size, 0, none⟩) 1 1)) (w.alloc (.cells ⟨[.string ⟨x.toArray⟩]⟩ 9)) w' ∧
      RefIn w' (Gro R w0 w') b vb vc (hs.set i (w.heap.size, 1)) ⟨D.vs.set i [x], D.left⟩ ∧ Mod R w w' := by
  have m1 : Mod No w (w.alloc (.cells ⟨[.string ⟨x.toArray⟩]⟩ 9)) := (Mod.refl No w).alloc _
  have hat : At (w.alloc (.cells ⟨[.string ⟨x.toArray⟩]⟩ 9)) w.heap.size 0 ([x].map strV) := AtU.new.at
  have hs1 : (w.alloc (.cells ⟨[.string ⟨x.toArray⟩]⟩ 9)).heap.size = w.heap.size + 1 := by simp
  generalize w.alloc (.cells ⟨[.string ⟨x.toArray⟩]⟩ 9) = w1 at *
  have h1 := (h.nos m1).widen (R' := Gro R w0 w1) (Gro_mono (by omega)) (gro_lt hR (by omega))
  refine ⟨h1, ?_⟩
  have hb := hR b hrb
  have hvb := hR vb hrv
  obtain ⟨w2, s1, s2, s3⟩ := RefIn_set h1 (R' := Gro R w0 w1) (q' := w.heap.size) (c' := 1) (v' := [x]) hv (fun _ h => h) (.inr ⟨by omega, by omega⟩) h1.lt hat (by omega) (by omega) (by simp) (fun y hy => by simp at hy; subst hy; exact hx) (by simp)
  have hz2 := s3.size
  exact ⟨w2, s1, s2.widen (Gro_mono (by omega)) (gro_lt hR (by omega)), (m1.mono fun _ _ h => h.elim).trans s3 fun y _ e => by subst e; exact hrv⟩

theorem refFlush_c (h : RefIn w R b vb vc hs D) (hsm : Small D) (hk : ∀ w' hs', Mod R w w' → RefIn w' (Gro R w w') b vb vc hs' (flSt D) → K (.int .i64 0) w') : Cal Try.prog F_leveeref02_Disk_Flush #[.pointer (some ⟨b, 0, none⟩)] w K := by
  apply C_leveeref02_Disk_Flush
  unfold D_leveeref02_Disk_Flush
  refine refGoes_c h (fun hz => ⟨_, rfl, tt rfl ?_⟩) fun hnz w2 h2 m2 => ⟨_, rfl, ff rfl ?_⟩
  · have e : flSt D = D := by unfold flSt; rw [if_pos hz]
    exact hk w hs (Mod.refl _ _) (by rw [e]; exact h.widen (fun x hx => .inl hx) (gro_lt h.lt (Nat.le_refl _)))
  have eF : flSt D = ⟨D.vs.map fun v => [lastV v], dec D.left⟩ := by unfold flSt; rw [if_neg hnz]
  rw [eF] at hk
  have hhi := h.wf.hi
  have hz2 := m2.size
  have M2 : Mod R w w2 := m2.mono fun x _ e => by subst e; exact h.rb
  generalize hD2 : (⟨D.vs, dec D.left⟩ : St) = D2 at *
  have hvs : D2.vs = D.vs := by rw [← hD2]
  have hn2 : D2.vs.length = D.vs.length := by rw [hvs]
  have hlt2 : D2.left = dec D.left := by rw [← hD2]
  refine ⟨fun x w3 => ∃ (i : Nat) (hs' : List (Nat × Nat)), i ≤ D2.vs.length ∧ x = [.int .i64 i] ∧ RefIn w3 (Gro R w w3) b vb vc hs' (updR D2 (List.range i) fun _ v => lastV v) ∧ Mod R w w3 ∧ w.heap.size ≤ w3.heap.size, fun x _ => (D2.vs.length - nI x 0).toNat,
    ⟨0, hs, by omega, rfl, by rw [List.range_zero, updR_nil]; exact h2.widen (fun x hx => .inl hx) (gro_lt h.lt hz2), M2, hz2⟩, ?_⟩
  rintro x w3 ⟨i, hs', hi, rfl, h3, M3, hz3⟩
  have hn3 : (updR D2 (List.range i) fun _ v => lastV v).vs.length = D2.vs.length := by simp [updR]
  have hrv3 := rv h3
  rw [hn3] at hrv3
  refine ⟨_, rfl, _, rfl, _, _, _, hrv3, cond_of (fun hb => ?_) (fun hb => ?_)⟩
  · have hi : i < D2.vs.length := by have := of_decide_eq_true hb; omega
    have hv : D2.vs[i]? = some D2.vs[i] := by simp [hi]
    have hv3 : (updR D2 (List.range i) fun _ v => lastV v).vs[i]? = some D2.vs[i] := by rw [updR_get hv, if_neg (by simp)]
    have hvm : D2.vs[i] ∈ D.vs := by rw [← hvs]; exact List.getElem_mem hi
    have hvne := (h.wf.ver _ hvm).1
    have hvp := List.length_pos_iff.2 hvne
    have hvl := hsm _ hvm
    have hll : (lastV D2.vs[i]).length = 256 := h2.wf.lastLen hv
    obtain ⟨q, cq, hrow, hcq, hat, _⟩ := rrow h3 hv3
    refine ⟨_, rfl, _, _, _, hrv3, _, idx_blk hi, _, _, _, hrow, _, rfl, ?_⟩
    have h3d := h3.drew
    have hrv3d := rv h3d
    rw [hn3] at hrv3d
    refine ⟨_, _, _, hrv3d, ?_⟩
    rw [wrap64 (x := (D2.vs[i].length : Int) - 1) (by omega) (by omega), show (D2.vs[i].length : Int) - 1 = ((D2.vs[i].length - 1 : Nat) : Int) by omega]
    refine ⟨_, idx_str (by omega), _, strV_get (show At (drew w3) q 0 _ from hat) (last_get hvne), _, _, _, _, built_str _ _, ?_⟩
    have h3g : RefIn (drew w3) (Gro R w (drew w3)) b vb vc hs' (updR D2 (List.range i) fun _ v => lastV v) := h3d
    obtain ⟨h4, w5, s1, s2, s3⟩ := one_row (w0 := w) h.lt h.rb h.rv h3g hz3 hv3 hll
    have hrv4 := rv h4
    rw [hn3] at hrv4
    refine ⟨hrv4, _, idx_blk hi, w5, s1, ?_⟩
    rw [wrap64 (x := (i : Int) + 1) (by omega) (by omega)]
    have M5 : Mod R w w5 := (M3.no (Mod.refl No w3).drew).trans s3 fun _ _ h => h
    refine ⟨⟨i + 1, hs'.set i ((drew w3).heap.size, 1), by omega, rfl, ?_, M5, M5.size⟩, by simp [nI, nth]; omega⟩
    have e := updR_step (ks := List.range i) (f := fun _ v => lastV v) hv
    rw [← List.range_succ] at e
    rw [e] at s2
    exact s2
  · have hik : i = D2.vs.length := by have := of_decide_eq_false hb; omega
    subst hik
    refine hk w3 hs' M3 ?_
    have e : updR D2 (List.range D2.vs.length) (fun _ v => lastV v) = ⟨D.vs.map fun v => [lastV v], dec D.left⟩ := by
      have h1 := updR_all (D := D2) (ks := List.range D2.vs.length) (f := fun _ v => lastV v) (fun i v hv hi => by
        have := (List.getElem?_eq_some_iff.1 hv).1
        simp at hi; omega)
      rw [put1_const] at h1
      exact St_ext (by rw [h1, ← hvs]) hlt2
    rw [e] at h3
    exact h3

theorem kOf_ref (pick : List Int) (j m : Nat) (k0 : Int) (hk0 : k0 = if j < pick.length ∧ pick.getD j 0 > 0 then pick.getD j 0 else 0) : (if k0 > (m : Int) then (m : Int) else k0) = kOf pick j m := by
  rw [hk0]; clear hk0
  unfold kOf
  generalize pick.getD j 0 = x
  by_cases h1 : j < pick.length
  · simp only [h1, true_and, if_true]
    by_cases h2 : x > 0
    · simp only [h2, if_true, if_neg (show ¬ 0 > x by omega)]
      first | done | (split <;> split <;> omega)
    · simp only [h2, if_false]
      by_cases h3 : 0 > x
      · simp only [h3, if_true]
        first | done | (split <;> split <;> omega)
      · simp only [h3, if_false]
        first | done | (split <;> split <;> omega)
  · simp only [h1, false_and, if_false]
    split <;> omega

set_option maxRecDepth 100000 in
theorem refCrash_c (h : RefIn w R b vb vc hs D) (hsm : Small D) {a1 : Option Addr} {l1 c1 : Nat} {pick : List Int} (hpl : pick.length = l1) (hpr : Row w a1 (iL pick)) (hdis : pick ≠ [] → ∀ q, a1 = some q → ¬ R q.block) (h63 : l1 ≤ 9223372036854775807)
    (hk : ∀ w' hs', Mod R w w' → RefIn w' (Gro R w w') b vb vc hs' (crSt D pick) → K (.tuple #[]) w') : Cal Try.prog F_leveeref02_Disk_Crash #[.pointer (some ⟨b, 0, none⟩), .slice a1 l1 c1] w K := by
  apply C_leveeref02_Disk_Crash
  unfold D_leveeref02_Disk_Crash
  refine refOpen_c h hsm fun w3 a l c m3 o3 => ⟨_, _, _, rfl, ?_⟩
  have hl : (openN D).length = l := by have := o3.len; simpa [openS] using this
  have hlb := openN_len (D := D)
  have hhi := h.wf.hi
  have hz3 := m3.size
  refine ⟨fun x w4 => ∃ (j : Nat) (y z : Value) (hs' : List (Nat × Nat)), j ≤ l ∧ x = [.int .i64 j, y, z] ∧ RefIn w4 (Gro R w w4) b vb vc hs' (updR D ((openN D).take j) (pickV D pick)) ∧ Own Try.prog w4 w.heap.size 42 1 a l c (iL (openS D)) ∧ Mod R w w4 ∧ w.heap.size ≤ w4.heap.size, fun x _ => (l - nI x 0).toNat,
    ⟨0, _, _, hs, by omega, rfl, by rw [List.take_zero, updR_nil]; exact (h.nos m3).widen (fun x hx => .inl hx) (gro_lt h.lt hz3), o3, m3.mono fun _ _ h => h.elim, hz3⟩, ?_⟩
  rintro x w4 ⟨j, y, z, hs', hj, rfl, h4, o4, M4, hz4⟩
  have hn4 : (updR D ((openN D).take j) (pickV D pick)).vs.length = D.vs.length := by simp [updR]
  refine ⟨_, rfl, cond_of (fun hb => ?_) (fun hb => ?_)⟩
  · have hj : j < l := by have := of_decide_eq_true hb; omega
    obtain ⟨g, rfl, hg, hrow⟩ := o4.sm (by omega)
    have hjo : j < (openN D).length := by omega
    have hget : (openN D)[j]? = some (openN D)[j] := by simp [hjo]
    obtain ⟨v, hv, hvt⟩ := openN_lt (List.getElem_mem hjo)
    have hnt := not_taken (openN_nodup D) hget
    have hv4 : (updR D ((openN D).take j) (pickV D pick)).vs[(openN D)[j]]? = some v := by rw [updR_get hv, if_neg hnt]
    have hix := idxOf_get (openN_nodup D) hjo
    have hvm := List.mem_of_getElem? hv
    have hvsm := hsm v hvm
    have hvne := (h.wf.ver v hvm).1
    have htl : v.tail.length = v.length - 1 := List.length_tail
    have hvp := List.length_pos_iff.2 hvne
    have hkin := kOf_in pick j v.tail.length
    have hlt : (openN D)[j] < D.vs.length := (List.getElem?_eq_some_iff.1 hv).1
    have hver4 : verOf (updR D ((openN D).take j) (pickV D pick)) ((openN D)[j] : Nat) = v := verOf_get hv4
    have hsm4 : Small (updR D ((openN D).take j) (pickV D pick)) := by
      intro u hu
      obtain ⟨i, hi, he⟩ := List.getElem_of_mem hu
      have hi' : i < D.vs.length := by rw [hn4] at hi; exact hi
      have hg := updR_get (D := D) (ks := (openN D).take j) (f := pickV D pick) (i := i) (v := D.vs[i]) (by simp [hi'])
      rw [List.getElem?_eq_getElem hi, he] at hg
      have := Option.some.inj hg
      rw [this]
      split
      · simp
      · exact hsm _ (List.getElem_mem hi')
    have idxO : Al (Instr.indexAt 42 (.slice (some ⟨g, 0, none⟩) l c) (.int .i64 j)) (.pointer (some ⟨g, 0 + j, none⟩)) := by
      intro w'
      have := index_slice (P := Try.prog) (T := 42) (k := 1) (a := ⟨g, 0, none⟩) (n := l) (c := c) (kk := .i64) (i := j) (by kernel_rfl) (by omega) (by omega) w'
      rwa [add_none, Int.toNat_natCast, Nat.mul_one] at this
    have ldO : ∀ w', Mod No w4 w' → Ru (Instr.loadAt 3 (.pointer (some ⟨g, 0 + j, none⟩))) w' (.int .i64 ((openN D)[j] : Nat)) w' := fun w' m => (hrow.at.keep m id).load (by kernel_rfl) (openS_get hjo)
    -- the pick
    have idxP : ∀ b1 o1, a1 = some ⟨b1, o1, none⟩ → j < l1 → Al (Instr.indexAt 42 (.slice a1 l1 c1) (.int .i64 j)) (.pointer (some ⟨b1, o1 + j, none⟩)) := by
      intro b1 o1 e hjl w'
      rw [e]
      have := index_slice (P := Try.prog) (T := 42) (k := 1) (a := ⟨b1, o1, none⟩) (n := l1) (c := c1) (kk := .i64) (i := j) (by kernel_rfl) (by omega) (by omega) w'
      rwa [add_none, Int.toNat_natCast, Nat.mul_one] at this
    have rowP : j < l1 → ∃ b1 o1, a1 = some ⟨b1, o1, none⟩ ∧ Ru (Instr.loadAt 3 (.pointer (some ⟨b1, o1 + j, none⟩))) w4 (.int .i64 (pick.getD j 0)) w4 := by
      intro hjl
      have hpne : ¬ iL pick = [] := fun e => by have := congrArg List.length e; simp at this; rw [this] at hpl; simp at hpl; omega
      obtain ⟨b1, o1, rfl, hat1⟩ := hpr.resolve_left hpne
      have hat1' := hat1.keep M4 (hdis (fun e => hpne (by rw [e]; rfl)) _ rfl)
      refine ⟨b1, o1, rfl, ?_⟩
      have e : pick.getD j 0 = pick[j]'(by omega) := by rw [List.getD_eq_getElem?_getD, List.getElem?_eq_getElem (by omega)]; rfl
      rw [e]
      exact hat1'.load (by kernel_rfl) (iL_get (by omega))
    refine Share.cut (fun zz w' => zz = [.bool (decide (j < pick.length ∧ pick.getD j 0 > 0))] ∧ w' = w4) (cond_of (fun hb => ?_) (fun hb => ?_)) ?_
    · have hjl : j < l1 := by have := of_decide_eq_true hb; omega
      obtain ⟨b1, o1, e, hld⟩ := rowP hjl
      refine ⟨_, idxP b1 o1 e hjl, _, hld, ?_, rfl⟩
      congr 2; rw [Bool.eq_iff_iff]; simp only [decide_eq_true_eq]; omega
    · have hjl : ¬ j < l1 := by have := of_decide_eq_false hb; omega
      refine ⟨?_, rfl⟩
      congr 2; rw [Bool.eq_iff_iff]; simp only [decide_eq_true_eq]; simp; omega
    rintro zz w5 ⟨rfl, rfl⟩
    refine ⟨_, rfl, Share.cut (fun zz w' => zz = [.int .i64 (if j < pick.length ∧ pick.getD j 0 > 0 then pick.getD j 0 else 0)] ∧ w' = w5) (cond_of (fun hb => ?_) (fun hb => ?_)) ?_⟩
    · have hc := of_decide_eq_true hb
      obtain ⟨b1, o1, e, hld⟩ := rowP (by omega)
      refine ⟨_, idxP b1 o1 e (by omega), _, hld, ?_, rfl⟩
      rw [if_pos hc]
    · have hc := of_decide_eq_false hb
      refine ⟨?_, rfl⟩
      rw [if_neg hc]
    rintro zz w6 ⟨rfl, rfl⟩
    refine ⟨_, rfl, _, idxO, _, ldO _ (Mod.refl _ _), refWrites_c h4 hsm4 ⟨_, rfl, ?_⟩⟩
    rw [hver4]
    refine Share.cut (fun zz w' => zz = [.int .i64 (kOf pick j v.tail.length)] ∧ w' = w6) (cond_of (fun hb => ?_) (fun hb => ?_)) ?_
    · have hc := of_decide_eq_true hb
      refine ⟨_, idxO, _, ldO _ (Mod.refl _ _), refWrites_c h4 hsm4 ⟨_, rfl, ?_, rfl⟩⟩
      rw [hver4, ← kOf_ref pick j v.tail.length _ rfl, if_pos hc]
    · have hc := of_decide_eq_false hb
      refine ⟨?_, rfl⟩
      rw [← kOf_ref pick j v.tail.length _ rfl, if_neg hc]
    rintro zz w7 ⟨rfl, rfl⟩
    have h4d : RefIn (drew w7) (Gro R w (drew w7)) b vb vc hs' (updR D ((openN D).take j) (pickV D pick)) := h4.drew
    have md := (Mod.refl No w7).drew
    have hrvd := rv h4d
    rw [hn4] at hrvd
    obtain ⟨q, cq, hrw, hcq, hat, _⟩ := rrow h4d hv4
    have hpv : pickV D pick (openN D)[j] v = v.getD (kOf pick j v.tail.length).toNat [] := by unfold pickV; rw [hix]
    have hkn : kOf pick j v.tail.length = (((kOf pick j v.tail.length).toNat : Nat) : Int) := by omega
    have hklt : (kOf pick j v.tail.length).toNat < v.length := by omega
    have hvk : v[(kOf pick j v.tail.length).toNat]? = some (pickV D pick (openN D)[j] v) := by
      rw [hpv, List.getD_eq_getElem?_getD, List.getElem?_eq_getElem hklt]; rfl
    have hplen : (pickV D pick (openN D)[j] v).length = 256 := (h.wf.ver v hvm).2 _ (List.mem_of_getElem? hvk)
    obtain ⟨h5, w8, s1, s2, s3⟩ := one_row (w0 := w) h.lt h.rb h.rv h4d hz4 hv4 hplen
    have hrv5 := rv h5
    rw [hn4] at hrv5
    refine ⟨_, rfl, _, _, _, hrvd, _, idxO, _, ldO _ md, _, rfl, _, _, _, hrvd, _, idxO, _, ldO _ md, _, idx_blk hlt, _, _, _, hrw, _, rfl, ?_⟩
    rw [hkn]
    refine ⟨_, idx_str hklt, _, strV_get hat hvk, _, _, _, _, built_str _ _, hrv5, ldO _ (md.no ((Mod.refl No _).alloc _)), _, idx_blk hlt, w8, s1, ?_⟩
    rw [wrap64 (x := (j : Int) + 1) (by omega) (by omega)]
    have M8 : Mod R w w8 := (M4.no md).trans s3 fun _ _ h => h
    refine ⟨⟨j + 1, _, _, hs'.set (openN D)[j] ((drew w7).heap.size, 1), by omega, rfl, ?_, (o4.nos md).keep s3 fun q hq e => ?_, M8, M8.size⟩, by simp [nI, nth]; omega⟩
    · rw [take_snoc hjo]
      rw [updR_step (ks := (openN D).take j) (f := pickV D pick) hv] at s2
      exact s2
    · have := (o4.base hq).1
      have := h.lt _ e
      omega
  · have hjl : j = l := by have := of_decide_eq_false hb; omega
    subst hjl
    have e1 : (openN D).take j = openN D := List.take_of_length_le (by omega)
    rw [e1] at h4
    obtain ⟨w5, s1, s2, s3, s4⟩ := h4.cell.store (P := Try.prog) (T := 4) (i := 1) (v := .bool false) (by kernel_rfl) (by simp) rfl
    obtain ⟨w6, t1, t2, t3, t4⟩ := s2.store (P := Try.prog) (T := 3) (i := 2) (v := .int .i64 0) (by kernel_rfl) (by simp) rfl
    refine ⟨_, rfl, w5, by rw [add_none]; exact s1, _, rfl, w6, by rw [add_none]; exact t1, ?_⟩
    have M6 := s3.trans t3 fun _ _ h => h
    have hz6 := M6.size
    refine hk w6 hs' (M4.trans M6 fun x _ e => by subst e; exact h.rb) ?_
    have hL := RefIn_lft h4 (left := -1) (by simpa [heldB, leftB] using t2) M6 (by omega) (by omega)
    have e : (⟨(updR D (openN D) (pickV D pick)).vs, -1⟩ : St) = crSt D pick := by
      unfold crSt
      rw [updR_all (fun i v hv hi => ?_)]
      have ht : v.tail = [] := by
        unfold openN at hi
        rw [List.mem_filter] at hi
        have hlt := (List.getElem?_eq_some_iff.1 hv).1
        simp only [List.mem_range, hlt, true_and, isOpen, hv, Option.getD_some] at hi
        simpa [List.isEmpty_iff] using hi
      rw [pickV_one ht]
      have hne := (h.wf.ver v (List.mem_of_getElem? hv)).1
      cases v with
      | nil => exact absurd rfl hne
      | cons p r => simp only [List.tail_cons] at ht; subst ht; rfl
    rw [e] at hL
    exact hL.widen (Gro_mono hz6) (gro_lt h.lt (by omega))
end
end Go.Proofs.Ytkmkfdljnlbikaa
