/- Layer 2, the document's disk: its writes. -/
import Derived.Test.YtgcecmfjpljpcaaRefE
open Go Go.Den Go.Proofs
namespace Go.Proofs.Ytgcecmfjpljpcaa
section
variable {w : World} {R : Nat → Prop} {b vb vc : Nat} {hs : List (Nat × Nat)} {D : St} {K : Value → World → Prop}
theorem RefIn_lft (h : RefIn w R b vb vc hs D) {w' : World} {left : Int} (hc : AtU w' b 0 [.slice (some ⟨vb, 0, none⟩) D.vs.length vc, .bool (heldB ⟨D.vs, left⟩), .int .i64 (leftB ⟨D.vs, left⟩)]) (m : Mod (fun x => x = b) w w') (h0 : -1 ≤ left) (h1 : left ≤ 9223372036854775807) :
    RefIn w' R b vb vc hs ⟨D.vs, left⟩ where
  cell := hc
  vec := h.vec.keep m h.ne.symm
  cap := h.cap
  hl := h.hl
  row := fun i v hv => by
    obtain ⟨q, c, r1, r2, r3, r4, r5, r6⟩ := h.row i v hv
    exact ⟨q, c, r1, r2, r3.keep m r5, r4, r5, r6⟩
  rb := h.rb
  rv := h.rv
  ne := h.ne
  wf := { ver := h.wf.ver, lo := h.wf.lo, hi := h.wf.hi, l0 := h0, l1 := h1 }
  lt := fun x hx => Nat.lt_of_lt_of_le (h.lt x hx) m.size
theorem RefIn_set (h : RefIn w R b vb vc hs D) {R' : Nat → Prop} {i q' c' : Nat} {v v' : List Bk} (hv : D.vs[i]? = some v) (hR : ∀ x, R x → R' x) (hq : R' q') (hlt : ∀ x, R' x → x < w.heap.size)
    (hat : At w q' 0 (v'.map strV)) (hqb : q' ≠ b) (hqv : q' ≠ vb) (hne : v' ≠ []) (hx : ∀ x ∈ v', x.length = 256) (hc : v'.length ≤ c') :
    ∃ w', RuU (Instr.storeAt 44 (.pointer (some (Addr.add (Addr.add ⟨vb, 0, none⟩ i) 0))) (.slice (some ⟨q', 0, none⟩) v'.length c')) w w' ∧ RefIn w' R' b vb vc (hs.set i (q', c')) ⟨D.vs.set i v', D.left⟩ ∧ Mod (fun x => x = vb) w w' := by
  have hilt := (List.getElem?_eq_some_iff.1 hv).1
  have hhl := h.hl
  have hlen : (hdrs hs D.vs).length = D.vs.length := by simp [hdrs, h.hl]
  obtain ⟨w', s1, s2, s3, s4⟩ := h.vec.store (P := Try.prog) (T := 44) (i := i) (v := .slice (some ⟨q', 0, none⟩) v'.length c') (by kernel_rfl) (by omega) rfl
  refine ⟨w', ?_, ?_, s3⟩
  · rw [add_none, add_none, Nat.add_zero]; exact s1
  have hset : (hdrs hs D.vs).set i (.slice (some ⟨q', 0, none⟩) v'.length c') = hdrs (hs.set i (q', c')) (D.vs.set i v') := by
    apply List.ext_getElem?
    intro j
    by_cases hj : i = j
    · subst hj
      rw [List.getElem?_set_self (by omega), hdrs_get (List.getElem?_set_self (by omega)) (List.getElem?_set_self hilt)]
    · rw [List.getElem?_set_ne hj]
      simp [hdrs, List.getElem?_zipWith, List.getElem?_set_ne hj]
  rw [hset] at s2
  exact { cell := by have := h.cell.keep s3 h.ne; simpa [heldB, leftB] using this
          vec := s2
          cap := by simpa using h.cap
          hl := by simpa using h.hl
          row := fun j u hu => by
            by_cases hj : i = j
            · subst hj
              rw [List.getElem?_set_self hilt] at hu
              have := Option.some.inj hu
              subst this
              exact ⟨q', c', List.getElem?_set_self (by omega), hc, hat.keep s3 hqv, hq, hqb, hqv⟩
            · rw [List.getElem?_set_ne hj] at hu
              obtain ⟨q, c, r1, r2, r3, r4, r5, r6⟩ := h.row j u hu
              exact ⟨q, c, by rw [List.getElem?_set_ne hj]; exact r1, r2, r3.keep s3 r6, hR _ r4, r5, r6⟩
          rb := hR _ h.rb
          rv := hR _ h.rv
          ne := h.ne
          wf := { ver := fun y hy => by
                    rcases List.mem_or_eq_of_mem_set hy with hy | rfl
                    · exact h.wf.ver y hy
                    · exact ⟨hne, hx⟩
                  lo := by simpa using h.wf.lo
                  hi := by simpa using h.wf.hi
                  l0 := h.wf.l0
                  l1 := h.wf.l1 }
          lt := fun x hx => Nat.lt_of_lt_of_le (hlt x hx) s3.size }

theorem refGoes_c (h : RefIn w R b vb vc hs D) (h0 : D.left = 0 → K (.bool false) w)
    (h1 : D.left ≠ 0 → ∀ w', RefIn w' R b vb vc hs ⟨D.vs, dec D.left⟩ → Mod (fun x => x = b) w w' → K (.bool true) w') : Cal Try.prog F_leveeref02_Disk_goes #[.pointer (some ⟨b, 0, none⟩)] w K := by
  apply C_leveeref02_Disk_goes
  unfold D_leveeref02_Disk_goes
  refine refStopped_c h ⟨_, rfl, cond_of (fun hb => ?_) (fun hb => ?_)⟩
  · exact h0 (of_decide_eq_true hb)
  have hnz := of_decide_eq_false hb
  have hl0 := h.wf.l0
  have hl1 := h.wf.l1
  refine ⟨_, rfl, _, rh h, Share.dup (cond_of (fun hb => ?_) (fun hb => ?_))⟩
  · have hb : D.left ≠ -1 := by unfold heldB at hb; exact of_decide_eq_true hb
    have hlB : leftB D = D.left := by unfold leftB; rw [if_neg hb]
    have hd : dec D.left = D.left - 1 := by unfold dec; rw [if_neg (by omega)]
    obtain ⟨w', s1, s2, s3, s4⟩ := h.cell.store (P := Try.prog) (T := 3) (i := 2) (v := .int .i64 (D.left - 1)) (by kernel_rfl) (by simp) rfl
    refine ⟨_, rfl, _, rl h, _, rfl, w', ?_, ?_⟩
    · rw [hlB, wrap64 (by omega) (by omega), add_none]; exact s1
    refine h1 hnz w' (RefIn_lft h ?_ s3 (by rw [hd]; omega) (by rw [hd]; omega)) s3
    have e1 : heldB D = heldB ⟨D.vs, dec D.left⟩ := by unfold heldB; rw [hd]; simp only; rw [Bool.eq_iff_iff]; simp only [decide_eq_true_eq]; omega
    have e2 : leftB ⟨D.vs, dec D.left⟩ = D.left - 1 := by unfold leftB; rw [hd]; simp only; rw [if_neg (by omega)]
    rw [e2, ← e1]; simpa using s2
  · have hb : D.left = -1 := by unfold heldB at hb; simpa using of_decide_eq_false hb
    have hd : dec D.left = D.left := by rw [hb]; rfl
    refine h1 hnz w ?_ (Mod.refl _ _)
    rw [hd]; exact h

def stSt (D : St) (n : Int) : St := ⟨D.vs, if 0 > n then 0 else n⟩
theorem gro_lt {R : Nat → Prop} {w0 w' : World} (hR : ∀ x, R x → x < w0.heap.size) (hs : w0.heap.size ≤ w'.heap.size) : ∀ x, Gro R w0 w' x → x < w'.heap.size := fun x hx => by
  rcases hx with hx | hx
  · have := hR x hx; omega
  · exact hx.2

theorem refWrite_c (h : RefIn w R b vb vc hs D) (hsm : ∀ v ∈ D.vs, v.length ≤ 999999) {n : Int} {a : Option Addr} {l c : Nat} {ys : List UInt8} (hl : ys.length = l) (hr : Row w a (u8L ys)) (hdis : ys ≠ [] → ∀ q, a = some q → ¬ R q.block)
    (hk : ∀ w' hs', Mod R w w' → RefIn w' (Gro R w w') b vb vc hs' (wrSt D n ys) → K (.int .i64 (wrE D n ys)) w') : Cal Try.prog F_leveeref02_Disk_Write #[.pointer (some ⟨b, 0, none⟩), .int .i64 n, .slice a l c] w K := by
  apply C_leveeref02_Disk_Write
  unfold D_leveeref02_Disk_Write
  have gro : ∀ {w' : World} {hs' : List (Nat × Nat)} {D' : St}, RefIn w' R b vb vc hs' D' → RefIn w' (Gro R w w') b vb vc hs' D' := fun h' =>
    { cell := h'.cell, vec := h'.vec, cap := h'.cap, hl := h'.hl,
      row := fun i v hv => by obtain ⟨q, c, r1, r2, r3, r4, r5⟩ := h'.row i v hv; exact ⟨q, c, r1, r2, r3, .inl r4, r5⟩
      rb := .inl h'.rb, rv := .inl h'.rv, ne := h'.ne, wf := h'.wf
      lt := fun x hx => by
        rcases hx with hx | hx
        · exact h'.lt x hx
        · exact hx.2 }
  refine there_c h ⟨_, rfl, ?_⟩
  rcases err_cases (D := D) n with ⟨he, ho⟩ | ⟨he, i, v, rfl, hv, hver⟩
  · have hw : wrE D n ys = 3 := by unfold wrE; rw [he, if_pos (by omega)]
    have hS : wrSt D n ys = D := by unfold wrSt; rw [if_pos (.inl (by omega))]
    refine tt (by rw [he]; rfl) ?_
    have := hk w hs (Mod.refl _ _) (by rw [hS]; exact gro h)
    rw [hw] at this; exact this
  refine ff (by rw [he]; rfl) (cond_of (fun hb => ?_) (fun hb => ?_))
  · have hne : ys.length ≠ 256 := by simp at hb; omega
    have hw : wrE D i ys = 4 := by unfold wrE; rw [he, if_neg (by omega), if_pos hne]
    have hS : wrSt D i ys = D := by unfold wrSt; rw [if_pos (.inl (by omega))]
    have := hk w hs (Mod.refl _ _) (by rw [hS]; exact gro h)
    rw [hw] at this; exact this
  have hl2 : l = 256 := by simp at hb; omega
  subst hl2
  have hw : wrE D i ys = 0 := by unfold wrE; rw [he, if_neg (by omega), if_neg (by omega)]
  rw [hw] at hk
  refine refGoes_c h (fun hz => ⟨_, rfl, tt rfl ?_⟩) fun hnz w2 h2 m2 => ⟨_, rfl, ff rfl ?_⟩
  · have hS : wrSt D i ys = D := by unfold wrSt; rw [if_pos (.inr hz)]
    exact hk w hs (Mod.refl _ _) (by rw [hS]; exact gro h)
  have hS : wrSt D i ys = ⟨D.vs.set i (v ++ [ys]), dec D.left⟩ := by unfold wrSt; rw [if_neg (by omega), hver]; rfl
  rw [hS] at hk
  have hilt := (List.getElem?_eq_some_iff.1 hv).1
  have hvne := (h.wf.ver v (List.mem_of_getElem? hv)).1
  have hvlen := hsm v (List.mem_of_getElem? hv)
  obtain ⟨q, cq, hrow, hcq, hat, hRq, hqb, hqv, _⟩ := rrow h2 (D := ⟨D.vs, dec D.left⟩) hv
  refine ⟨_, rfl, _, _, _, rv h2, _, idx_blk hilt, _, _, _, hrow, ?_⟩
  have one : ∀ (u : List Bk), ∀ y ∈ u.map strV, y.oneCell' = true := fun u y hy => by
    obtain ⟨z, _, rfl⟩ := List.mem_map.1 hy; rfl
  obtain ⟨a3, c3, w3, h3, o3, m3⟩ := (Own.nil (P := Try.prog) (w := w2) (base := w2.heap.size) elemZ_strs).append (ty := 44) elemZ_strs (by omega) (a2 := some ⟨q, 0, none⟩) (m := v.length) (c2 := cq) (ys := v.map strV) (.inr ⟨_, _, rfl, hat⟩) (by simp) (fun e => by cases e) (one v) (by omega) (by omega) (Nat.le_refl _)
  simp only [Nat.zero_add, List.nil_append] at h3 o3
  have m3' : Mod No w2 w3 := (Mod.refl No w2).up m3 (Nat.le_refl _)
  have hyne : ys ≠ [] := fun e => by rw [e] at hl; simp at hl
  have hb2 : ∀ q', a = some q' → q'.block ≠ b := fun q' hq' e => hdis hyne q' hq' (by rw [e]; exact h.rb)
  have hr3 : Row (drew w3) a (u8L ys) := ((hr.keep m2 fun q' hq' => hb2 q' hq').nos m3').nos (Mod.refl No w3).drew
  have h3R := (h2.nos m3').drew
  refine ⟨_, _, _, w3, h3, _, rfl, _, _, _, rv h3R, _, str_run (by kernel_rfl) hr3 hl, _, _, _, _, built_str _ _, ?_⟩
  have m4 : Mod No (drew w3) ((drew w3).alloc (.cells ⟨[.string ⟨ys.toArray⟩]⟩ 9)) := (Mod.refl No _).alloc _
  refine ⟨rv (h3R.nos m4), ?_⟩
  have hs4 : ((drew w3).alloc (.cells ⟨[.string ⟨ys.toArray⟩]⟩ 9)).heap.size = w3.heap.size + 1 := by simp
  have aty : At ((drew w3).alloc (.cells ⟨[.string ⟨ys.toArray⟩]⟩ 9)) (drew w3).heap.size 0 ([ys].map strV) := AtU.new.at
  have h4R := h3R.nos m4
  have o4 := (o3.nos (Mod.refl No w3).drew).nos m4
  generalize (drew w3).alloc (.cells ⟨[.string ⟨ys.toArray⟩]⟩ 9) = w4 at *
  have hz2 := m2.size
  have hz3 := m3'.size
  obtain ⟨a5, c5, w5, h5, o5, m5⟩ := o4.append (ty := 44) elemZ_strs (by omega) (a2 := some ⟨(drew w3).heap.size, 0, none⟩) (m := 1) (c2 := 1) (ys := [ys].map strV) (.inr ⟨_, _, rfl, aty⟩) (by simp) (fun e => by cases e) (one [ys]) (by omega) (by omega) (by omega)
  have hlt2 : ∀ x, R x → x < w2.heap.size := h2.lt
  have h5R := h4R.keep m5 fun x hx e => by have := hlt2 x hx; omega
  obtain ⟨g, rfl, hg, hgat⟩ := o5.sm (by omega)
  have hz5 := m5.size
  have hglt := hgat.lt
  have hgat' : At w5 g 0 ((v ++ [ys]).map strV) := by rw [List.map_append]; exact hgat.at
  have hcap5 := o5.cap
  refine ⟨_, _, _, w5, h5, rv h5R, _, idx_blk hilt, ?_⟩
  have hrb := hlt2 b h.rb
  have hrvb := hlt2 vb h.rv
  obtain ⟨w6, t1, t2, t3⟩ := RefIn_set h5R (D := ⟨D.vs, dec D.left⟩) (R' := Gro R w w5) (q' := g) (c' := c5) (v' := v ++ [ys]) hv (fun x hx => .inl hx) (.inr ⟨by omega, hglt⟩) (gro_lt h.lt (by omega)) hgat' (by omega) (by omega) (by simp)
    (fun x hx => by
      rcases List.mem_append.1 hx with hx | hx
      · exact (h.wf.ver v (List.mem_of_getElem? hv)).2 x hx
      · simp at hx; subst hx; omega) (by simp; omega)
  have hlv : (v ++ [ys]).length = v.length + 1 := by simp
  rw [hlv] at t1
  refine ⟨w6, t1, ?_⟩
  have M2 : Mod R w w2 := m2.mono fun x _ e => by subst e; exact h.rb
  have M5 : Mod R w w5 := (((M2.no m3').no (Mod.refl No w3).drew).no m4).trans m5 fun x hx e => by omega
  have hz6 := t3.size
  refine hk w6 (hs.set i (g, c5)) (M5.trans t3 fun x _ e => by subst e; exact h.rv) ?_
  exact { cell := t2.cell, vec := t2.vec, cap := t2.cap, hl := t2.hl
          row := fun j u hu => by
            obtain ⟨q, cc, r1, r2, r3, r4, r5⟩ := t2.row j u hu
            exact ⟨q, cc, r1, r2, r3, by rcases r4 with r4 | r4
                                         · exact .inl r4
                                         · exact .inr ⟨r4.1, by omega⟩, r5⟩
          rb := .inl h.rb, rv := .inl h.rv, ne := h.ne, wf := t2.wf
          lt := gro_lt h.lt (by omega) }
end
end Go.Proofs.Ytgcecmfjpljpcaa
