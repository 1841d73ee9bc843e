/- Arguments that came in: a row of calls of layer 11. -/
import Derived.Test.YtocjjigmpgekfaaSaidActs3
import Derived.Test.YtocjjigmpgekfaaPatU
open Go Go.Den
namespace Go.Proofs.Ytocjjigmpgekfaa
open Go.ChangeShapes Go.WideShapes Go.RowKit Go.Joins
section
variable {H : Type} {enc : TypeId × Value → H} {w : World} {base : Nat} {held : Bool}
theorem trod_st6 {P : Program} {spare : Nat → Bool} {t : TypeId} {f0 f1 f2 f3 f4 f5 : Field} {fuel : Nat} {cs : List Value} {x : DataW H × List MemPlace} (ht : P.underlying t = some (.struct #[f0, f1, f2, f3, f4, f5])) (h : DataW.trod enc P w base spare held fuel t cs = some x) :
    ∃ y0 y1 y2 y3 y4 y5 n, x.1 = .agg [y0.1, y1.1, y2.1, y3.1, y4.1, y5.1] ∧ cs.length = P.cellsOf t ∧ DataW.trod enc P w base spare held n f0.type ((cs.drop f0.offset).take (P.cellsOf f0.type)) = some y0 ∧
      DataW.trod enc P w base spare held n f1.type ((cs.drop f1.offset).take (P.cellsOf f1.type)) = some y1 ∧ DataW.trod enc P w base spare held n f2.type ((cs.drop f2.offset).take (P.cellsOf f2.type)) = some y2 ∧
      DataW.trod enc P w base spare held n f3.type ((cs.drop f3.offset).take (P.cellsOf f3.type)) = some y3 ∧ DataW.trod enc P w base spare held n f4.type ((cs.drop f4.offset).take (P.cellsOf f4.type)) = some y4 ∧ DataW.trod enc P w base spare held n f5.type ((cs.drop f5.offset).take (P.cellsOf f5.type)) = some y5 := by
  obtain ⟨xs, n, _, rfl, hl, hlen, hf⟩ := DataW.trod_struct ht h
  match xs, hlen with
  | [y0, y1, y2, y3, y4, y5], _ => exact ⟨y0, y1, y2, y3, y4, y5, n, by simp, hl, by simpa using hf 0 f0 rfl, by simpa using hf 1 f1 rfl, by simpa using hf 2 f2 rfl, by simpa using hf 3 f3 rfl, by simpa using hf 4 f4 rfl, by simpa using hf 5 f5 rfl⟩
theorem ints_of_trod6 {fuel : Nat} {v : Value} {y : DataW H × List MemPlace} (h : DataW.trod enc Try.prog w base (fun _ => true) held fuel 33 [v] = some y) :
    ∃ a l c xs, v = .slice a l c ∧ xs.length = l ∧ Row w a (iL xs) ∧ (l ≤ Rows.uptoBulk y.1) ∧ l ≤ 9223372036854775807 := by
  rcases open_ints Try.underlying33 Try.underlying2 (by kernel_rfl) h with ⟨h1, h2⟩ | ⟨a', l', c', zs, h1, _, hlc, hm, hz, hx, hcell, hwf⟩
  · simp at h1; subst h1
    exact ⟨none, 0, 0, [], rfl, rfl, .inl rfl, Nat.zero_le _, by omega⟩
  · simp at h1; subst h1
    rw [if_pos rfl] at hz
    refine ⟨some a', l', c', zs.take l', rfl, by simp; omega, ?_, ?_, by simp [maxLen] at hm; omega⟩
    · by_cases h0 : l' = 0
      · left; subst h0; simp [iL]
      · right
        obtain ⟨b, off, rfl, hcell'⟩ := Go.ints_at hcell (by omega)
        refine ⟨b, off, rfl, At.of_cells (by simp; omega) fun j hj => ?_⟩
        have hj' : j < zs.length := by simp at hj; omega
        rw [hcell' j hj']
        have e1 : zs.getD j 0 = zs[j] := by simp [hj']
        rw [e1]
        simp [iL, I]
    · rw [hx]
      have := bulks.slice_le (H := H) (lits .i64 (zs.take l')) (lits .i64 (zs.drop l'))
      simp [lits] at this ⊢
      omega
theorem open_act6 {n : Nat} {cs : List Value} {y : DataW H × List MemPlace} (hl : cs.length = 6) (h : DataW.trod enc Try.prog w base (fun _ => true) held n 35 cs = some y) :
    ∃ x : A6, x.fit w cs ∧ x.xs.length ≤ Rows.uptoBulk y.1 := by
  match cs, hl with
  | [c0, c1, c2, c3, c4, c5], _ =>
    obtain ⟨y0, y1, y2, y3, y4, y5, n', hx, _, h0, h1, h2, h3, h4, h5⟩ := trod_st6 Try.underlying35 h
    have k0 : Try.prog.cellsOf 3 = 1 := by kernel_rfl
    have k1 : Try.prog.cellsOf 32 = 1 := by kernel_rfl
    have k2 : Try.prog.cellsOf 33 = 1 := by kernel_rfl
    have k3 : Try.prog.cellsOf 4 = 1 := by kernel_rfl
    simp only [k0, k1, k2, k3] at h0 h1 h2 h3 h4 h5
    have h0 : DataW.trod enc Try.prog w base (fun _ => true) held n' 3 [c0] = some y0 := h0
    have h1 : DataW.trod enc Try.prog w base (fun _ => true) held n' 3 [c1] = some y1 := h1
    have h2 : DataW.trod enc Try.prog w base (fun _ => true) held n' 3 [c2] = some y2 := h2
    have h3 : DataW.trod enc Try.prog w base (fun _ => true) held n' 32 [c3] = some y3 := h3
    have h4 : DataW.trod enc Try.prog w base (fun _ => true) held n' 33 [c4] = some y4 := h4
    have h5 : DataW.trod enc Try.prog w base (fun _ => true) held n' 4 [c5] = some y5 := h5
    obtain ⟨m0, e0, _, u0⟩ := DataW.trod_int Try.underlying3 h0
    obtain ⟨m1, e1, _, u1⟩ := DataW.trod_int Try.underlying3 h1
    obtain ⟨m2, e2, _, u2⟩ := DataW.trod_int Try.underlying3 h2
    obtain ⟨b5, e5, _⟩ := DataW.trod_bool Try.underlying4 h5
    have e0 : c0 = .int .i64 m0 := by simpa using e0
    have e1 : c1 = .int .i64 m1 := by simpa using e1
    have e2 : c2 = .int .i64 m2 := by simpa using e2
    have e5 : c5 = .bool b5 := by simpa using e5
    obtain ⟨ad, ld, cd, xs, rfl, hxl, hxr, hxn, hxb, hxm⟩ := bytes_of_trod3 h3
    obtain ⟨aa, la, ca, af, rfl, hal, har, hab, ham⟩ := ints_of_trod6 h4
    subst e0 e1 e2 e5 hxl hal
    refine ⟨⟨m0, m1, m2, xs, af, b5⟩, ⟨ad, cd, aa, ca, rfl, hxr, hxn, hxm, har, ham⟩, ?_⟩
    rw [hx]
    have := bulks.part_le (d := y3.1) (l := [y0.1, y1.1, y2.1, y3.1, y4.1, y5.1]) (by simp)
    simp only [Rows.uptoBulk]
    have e : (⟨m0, m1, m2, xs, af, b5⟩ : A6).xs.length = xs.length := rfl
    omega

set_option maxRecDepth 100000 in
theorem open_acts6 {r : Reach} {b0 : Nat} {v : Value} {d : DataW H} {ps : List MemPlace} (hval : Value.okWide Try.prog w r b0 22 v) (hd : DataW.Trod enc Try.prog w base (fun _ => true) held 22 v d ps) :
    ∃ a l c acts, v = .slice a l c ∧ acts.length = l ∧ Acts6 w a acts ∧ l ≤ 9223372036854775807 ∧ (Rows.uptoBulk d ≤ 1048576 → ∀ x ∈ acts, x.xs.length ≤ 1048576) := by
  obtain ⟨fuel, hf⟩ := hd
  obtain ⟨a, l, c, rfl⟩ := okWide_slice Try.underlying22 hval
  rcases Go.Deep.open_slice Try.underlying22 hf with ⟨h1, h2⟩ | ⟨a', l', c', m, n, DD, Pl, h1, _, hlc, hm, hmm, hx, hel⟩
  · simp [Value.cells] at h1
    obtain ⟨rfl, rfl, rfl⟩ := h1
    exact ⟨none, 0, 0, [], rfl, rfl, .inl rfl, by omega, fun _ x hx => by cases hx⟩
  · simp [Value.cells] at h1
    obtain ⟨rfl, rfl, rfl⟩ := h1
    rw [if_pos rfl] at hmm
    subst hmm
    have hl63 : l ≤ 9223372036854775807 := by simp [maxLen] at hm; omega
    have k3 : Try.prog.cellsOf 35 = 6 := by kernel_rfl
    rw [k3] at hel
    by_cases h0 : l = 0
    · exact ⟨some a', l, m, [], rfl, by simp [h0], .inl rfl, hl63, fun _ x hx => by cases hx⟩
    obtain ⟨b, off, spot⟩ := a'
    have hspot : spot = none := by
      obtain ⟨cs', hc, ht⟩ := hel 0 (by omega)
      obtain ⟨_, hcl, hcc⟩ := World.cells?_some hc
      obtain ⟨x, ⟨ad, cd, aa, ca, rfl, _⟩, _⟩ := open_act6 hcl ht
      have h00 := hcc 0 (by omega)
      have := World.cell?_spot (h00.trans rfl)
      simpa [Addr.add] using this
    subst hspot
    have each : ∀ i ∈ List.range l, ∃ x : A6 × List Value, x.2.length = 6 ∧ (∀ (j : Nat) (v : Value), x.2[j]? = some v → w.cell? ⟨b, off + (i * 6 + j), none⟩ = some v) ∧ x.1.fit w x.2 ∧ (Rows.uptoBulk d ≤ 1048576 → x.1.xs.length ≤ 1048576) := by
      intro i hi
      have hi := List.mem_range.1 hi
      obtain ⟨cs', hc, ht⟩ := hel i (by omega)
      obtain ⟨_, hcl, hcc⟩ := World.cells?_some hc
      obtain ⟨x, hfit, hbx⟩ := open_act6 hcl ht
      refine ⟨(x, cs'), hcl, fun j v hj => ?_, hfit, fun hb => ?_⟩
      · have hj4 := (List.getElem?_eq_some_iff.1 hj).1
        have hj4' : j < cs'.length := hj4
        have := hcc j (by omega)
        rw [add_none, add_none, Nat.add_assoc] at this
        rw [this, hj]
      · have hxd : d = .slice ((List.range l).map DD) ((List.range (m - l)).map fun j => DD (l + j)) := congrArg Prod.fst hx
        have h1 := bulks.slice_elems (H := H) ((List.range l).map DD) ((List.range (m - l)).map fun j => DD (l + j))
        have h2 := bulks.part_le (d := DD i) (l := (List.range l).map DD) (List.mem_map.2 ⟨i, List.mem_range.2 hi, rfl⟩)
        rw [← hxd] at h1
        have q3' : x.xs.length ≤ Rows.uptoBulk (DD i) := hbx
        show x.xs.length ≤ 1048576
        omega
    obtain ⟨ys, hyl, hys⟩ := list_choose3 (p := fun (i : Nat) (x : A6 × List Value) => x.2.length = 6 ∧ (∀ (j : Nat) (v : Value), x.2[j]? = some v → w.cell? ⟨b, off + (i * 6 + j), none⟩ = some v) ∧ x.1.fit w x.2 ∧ (Rows.uptoBulk d ≤ 1048576 → x.1.xs.length ≤ 1048576)) (List.range l) each
    rw [List.length_range] at hyl
    have hy3 : ∀ z ∈ ys, z.2.length = 6 := fun z hz => by
      obtain ⟨i, hi, e⟩ := List.getElem_of_mem hz
      exact (hys i i z (by rw [List.getElem?_range (by omega)]) (by rw [List.getElem?_eq_getElem hi, e])).1
    have flat3 : ∀ (zs : List (A6 × List Value)), (∀ z ∈ zs, z.2.length = 6) → ∀ (i : Nat) (z : A6 × List Value), zs[i]? = some z → ((zs.flatMap (·.2)).drop (i * 6)).take 6 = z.2 := by
      intro zs
      induction zs with
      | nil => intro _ i z h; simp at h
      | cons u r ih =>
        intro hz i z h
        have hu := hz u (by simp)
        cases i with
        | zero => simp at h; subst h; rw [Nat.zero_mul, List.drop_zero, List.flatMap_cons, List.take_append_of_le_length (by omega), List.take_of_length_le (by omega)]
        | succ i =>
          have := ih (fun z hz' => hz z (by simp [hz'])) i z (by simpa using h)
          rw [List.flatMap_cons, List.drop_append, List.drop_eq_nil_of_le (by omega), List.nil_append]
          have e : (i + 1) * 6 - u.2.length = i * 6 := by omega
          rw [e]; exact this
    have flen : ∀ zs : List (A6 × List Value), (∀ z ∈ zs, z.2.length = 6) → (zs.flatMap (·.2)).length = zs.length * 6 := by
      intro zs
      induction zs with
      | nil => intro _; rfl
      | cons u r ih =>
        intro hz
        have hu := hz u (by simp)
        rw [List.flatMap_cons, List.length_append, ih fun z hz' => hz z (by simp [hz']), List.length_cons]; omega
    have hfl := flen ys hy3
    refine ⟨some ⟨b, off, none⟩, l, m, ys.map (·.1), rfl, by simp [hyl], .inr ⟨b, off, ys.flatMap (·.2), rfl, At.of_cells (by rw [hfl]; omega) fun j hj => ?_, by rw [hfl]; simp, fun r x hx => ?_⟩, hl63, fun hb x hx => ?_⟩
    · have hj' : j < l * 6 := by rw [hfl, hyl] at hj; exact hj
      have hi : j / 6 < l := by omega
      have hyi : ys[j / 6]? = some ys[j / 6] := by simp [hyl, hi]
      have hp := hys (j / 6) (j / 6) ys[j / 6] (by simp [hi]) hyi
      have h4 := flat3 ys hy3 (j / 6) _ hyi
      have hget : (ys[j / 6]).2[j % 6]? = some ((ys.flatMap (·.2))[j]) := by
        rw [← h4, List.getElem?_take, if_pos (by omega), List.getElem?_drop, show j / 6 * 6 + j % 6 = j by omega]
        exact List.getElem?_eq_getElem _
      have := hp.2.1 (j % 6) _ hget
      rw [show j / 6 * 6 + j % 6 = j by omega] at this
      exact this
    · rw [List.getElem?_map] at hx
      cases hy : ys[r]? with
      | none => rw [hy] at hx; cases hx
      | some z =>
        rw [hy] at hx
        have := Option.some.inj hx
        subst this
        have hr : r < l := by have := (List.getElem?_eq_some_iff.1 hy).1; omega
        have hq := (hys r r z (by simp [hr]) hy).2.2.1
        rw [flat3 ys hy3 r z hy]
        exact hq
    · obtain ⟨z, hz, rfl⟩ := List.mem_map.1 hx
      obtain ⟨i, hi, e⟩ := List.getElem_of_mem hz
      exact (hys i i z (by rw [List.getElem?_range (by omega)]) (by rw [List.getElem?_eq_getElem hi, e])).2.2.2 hb
end
end Go.Proofs.Ytocjjigmpgekfaa
