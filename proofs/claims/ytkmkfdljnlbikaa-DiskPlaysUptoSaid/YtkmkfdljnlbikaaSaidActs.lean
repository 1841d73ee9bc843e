/- Arguments that came in: a row of calls. -/
import Derived.Test.YtkmkfdljnlbikaaSaidRows
import Derived.Test.YtkmkfdljnlbikaaDiskT
import Derived.Lib.SmallJoins
import Derived.Deep.Slices
open Go Go.Den
namespace Go.Proofs.Ytkmkfdljnlbikaa
open Go.ChangeShapes Go.WideShapes Go.RowKit Go.Joins
section
variable {H : Type} {enc : TypeId × Value → H} {w : World} {base : Nat} {held : Bool}
theorem bytes_of_trod {fuel : Nat} {v : Value} {y : DataW H × List MemPlace} (h : DataW.trod enc Try.prog w base (fun _ => true) held fuel 40 [v] = some y) :
    ∃ a l c xs, v = .slice a l c ∧ xs.length = l ∧ Row w a (u8L xs) ∧ (a = none → l = 0 ∧ c = 0) ∧ (l ≤ Rows.uptoBulk y.1) := by
  rcases open_ints Try.underlying40 Try.underlying5 (by kernel_rfl) h with ⟨h1, h2⟩ | ⟨a', l', c', zs, h1, _, hlc, _, hz, hx, hcell, hwf⟩
  · simp at h1; subst h1
    exact ⟨none, 0, 0, [], rfl, rfl, .inl rfl, fun _ => ⟨rfl, rfl⟩, Nat.zero_le _⟩
  · simp at h1; subst h1
    rw [if_pos rfl] at hz
    refine ⟨some a', l', c', zB (zs.take l'), rfl, by simp [zB]; omega, row_bytes (by omega) hcell hwf, (fun h => by cases h), ?_⟩
    rw [hx]
    have := bulks.slice_le (H := H) (lits .u8 (zs.take l')) (lits .u8 (zs.drop l'))
    simp [lits] at this ⊢
    omega
theorem nums_of_trod {fuel : Nat} {v : Value} {y : DataW H × List MemPlace} (h : DataW.trod enc Try.prog w base (fun _ => true) held fuel 42 [v] = some y) :
    ∃ a l c xs, v = .slice a l c ∧ xs.length = l ∧ Row w a (iL xs) ∧ l ≤ 9223372036854775807 := by
  rcases open_ints Try.underlying42 Try.underlying3 (by kernel_rfl) h with ⟨h1, h2⟩ | ⟨a', l', c', zs, h1, _, hlc, hm, hz, hx, hcell, hwf⟩
  · simp at h1; subst h1
    exact ⟨none, 0, 0, [], rfl, rfl, .inl rfl, by omega⟩
  · simp at h1; subst h1
    rw [if_pos rfl] at hz
    refine ⟨some a', l', c', zs.take l', rfl, by simp; omega, ?_, by simp [maxLen] at hm; omega⟩
    by_cases h0 : l' = 0
    · left; subst h0; simp [iL]
    · right
      obtain ⟨b, off, rfl, hcell'⟩ := Go.ints_at hcell (by omega)
      refine ⟨b, off, rfl, At.of_cells (by simp; omega) fun j hj => ?_⟩
      have hj' : j < zs.length := by simp at hj; omega
      rw [hcell' j hj']
      have e1 : zs.getD j 0 = zs[j] := by simp [hj']
      rw [e1]
      simp [iL, I]

theorem open_act {n : Nat} {cs : List Value} {y : DataW H × List MemPlace} (hl : cs.length = 4) (h : DataW.trod enc Try.prog w base (fun _ => true) held n 71 cs = some y) :
    ∃ (x : AI) (ad ap : Option Addr) (cd cp : Nat), cs = [.int .i64 x.k, .int .i64 x.n, .slice ad x.xs.length cd, .slice ap x.pick.length cp] ∧
      Row w ad (u8L x.xs) ∧ (ad = none → x.xs.length = 0 ∧ cd = 0) ∧ x.xs.length ≤ Rows.uptoBulk y.1 ∧ Row w ap (iL x.pick) ∧ x.pick.length ≤ 9223372036854775807 ∧ x.n ≤ 9223372036854775807 := by
  match cs, hl with
  | [c0, c1, c2, c3], _ =>
    obtain ⟨y0, y1, y2, y3, n', hx, _, h0, h1, h2, h3⟩ := trod_struct4 Try.underlying71 h
    have k0 : Try.prog.cellsOf 3 = 1 := by kernel_rfl
    have k1 : Try.prog.cellsOf 40 = 1 := by kernel_rfl
    have k2 : Try.prog.cellsOf 42 = 1 := by kernel_rfl
    simp only [k0, k1, k2] at h0 h1 h2 h3
    have h0 : DataW.trod enc Try.prog w base (fun _ => true) held n' 3 [c0] = some y0 := h0
    have h1 : DataW.trod enc Try.prog w base (fun _ => true) held n' 3 [c1] = some y1 := h1
    have h2 : DataW.trod enc Try.prog w base (fun _ => true) held n' 40 [c2] = some y2 := h2
    have h3 : DataW.trod enc Try.prog w base (fun _ => true) held n' 42 [c3] = some y3 := h3
    obtain ⟨m0, e0, _, u0⟩ := DataW.trod_int Try.underlying3 h0
    obtain ⟨m1, e1, _, u1⟩ := DataW.trod_int Try.underlying3 h1
    have e0 : c0 = .int .i64 m0 := by simpa using e0
    have e1 : c1 = .int .i64 m1 := by simpa using e1
    obtain ⟨ad, ld, cd, xs, rfl, hxl, hxr, hxn, hxb⟩ := bytes_of_trod h2
    obtain ⟨ap, lp, cp, ps, rfl, hpl, hpr, hpm⟩ := nums_of_trod h3
    subst e0 e1 hxl hpl
    refine ⟨⟨m0, m1, xs, ps⟩, ad, ap, cd, cp, rfl, hxr, hxn, ?_, hpr, hpm, (i64_bounds u1).2⟩
    rw [hx]
    have := bulks.part_le (d := y2.1) (l := [y0.1, y1.1, y2.1, y3.1]) (by simp)
    simp only [Rows.uptoBulk]
    have e : (⟨m0, m1, xs, ps⟩ : AI).xs.length = xs.length := rfl
    omega

theorem list_choose {α β : Type} {p : β → α → Prop} : ∀ (xs : List β), (∀ x ∈ xs, ∃ y, p x y) → ∃ ys : List α, ys.length = xs.length ∧ ∀ (i : Nat) (x : β) (y : α), xs[i]? = some x → ys[i]? = some y → p x y
  | [], _ => ⟨[], rfl, fun i x y h => by simp at h⟩
  | x :: r, h => by
    obtain ⟨y, hy⟩ := h x (by simp)
    obtain ⟨ys, hl, hys⟩ := list_choose r fun z hz => h z (by simp [hz])
    refine ⟨y :: ys, by simp [hl], fun i a b ha hb => ?_⟩
    cases i with
    | zero => simp at ha hb; subst ha hb; exact hy
    | succ i => exact hys i a b (by simpa using ha) (by simpa using hb)

set_option maxRecDepth 100000 in
theorem open_acts {r : Reach} {b0 : Nat} {v : Value} {d : DataW H} {ps : List MemPlace} (hval : Value.okWide Try.prog w r b0 68 v) (hd : DataW.Trod enc Try.prog w base (fun _ => true) held 68 v d ps) (hb : Rows.uptoBulk d ≤ 1048576) :
    ∃ a l c acts, v = .slice a l c ∧ acts.length = l ∧ ActsAt w a acts := by
  obtain ⟨fuel, hf⟩ := hd
  obtain ⟨a, l, c, rfl⟩ := okWide_slice Try.underlying68 hval
  rcases Go.Deep.open_slice Try.underlying68 hf with ⟨h1, h2⟩ | ⟨a', l', c', m, n, DD, Pl, h1, _, hlc, hm, hmm, hx, hel⟩
  · simp [Value.cells] at h1
    obtain ⟨rfl, rfl, rfl⟩ := h1
    exact ⟨none, 0, 0, [], rfl, rfl, .inl rfl⟩
  · simp [Value.cells] at h1
    obtain ⟨rfl, rfl, rfl⟩ := h1
    rw [if_pos rfl] at hmm
    subst hmm
    have k4 : Try.prog.cellsOf 71 = 4 := by kernel_rfl
    rw [k4] at hel
    by_cases h0 : l = 0
    · exact ⟨some a', l, m, [], rfl, by simp [h0], .inl rfl⟩
    obtain ⟨b, off, spot⟩ := a'
    have hspot : spot = none := by
      obtain ⟨cs', hc, ht⟩ := hel 0 (by omega)
      obtain ⟨_, hcl, hcc⟩ := World.cells?_some hc
      obtain ⟨x, ad, ap, cd, cp, rfl, _⟩ := open_act hcl ht
      have h00 := hcc 0 (by omega)
      have := World.cell?_spot (h00.trans rfl)
      simpa [Addr.add] using this
    subst hspot
    have each : ∀ i ∈ List.range l, ∃ x : AI × Option Addr × Option Addr × Nat × Nat, (∀ j v, ([.int .i64 x.1.k, .int .i64 x.1.n, .slice x.2.1 x.1.xs.length x.2.2.2.1, .slice x.2.2.1 x.1.pick.length x.2.2.2.2] : List Value)[j]? = some v → w.cell? ⟨b, off + (i * 4 + j), none⟩ = some v) ∧
        Row w x.2.1 (u8L x.1.xs) ∧ (x.2.1 = none → x.1.xs.length = 0 ∧ x.2.2.2.1 = 0) ∧ x.1.xs.length ≤ 1048576 ∧ Row w x.2.2.1 (iL x.1.pick) ∧ x.1.pick.length ≤ 9223372036854775807 ∧ x.1.n ≤ 9223372036854775807 := by
      intro i hi
      have hi := List.mem_range.1 hi
      obtain ⟨cs', hc, ht⟩ := hel i (by omega)
      obtain ⟨_, hcl, hcc⟩ := World.cells?_some hc
      obtain ⟨x, ad, ap, cd, cp, rfl, q1, q2, q3, q4, q5, q6⟩ := open_act hcl ht
      refine ⟨(x, ad, ap, cd, cp), fun j v hj => ?_, q1, q2, ?_, q4, q5, q6⟩
      · have hj4 := (List.getElem?_eq_some_iff.1 hj).1
        have := hcc j (by simpa using hj4)
        rw [add_none, add_none, Nat.add_assoc] at this
        rw [this, hj]
      · have hxd : d = .slice ((List.range l).map DD) ((List.range (m - l)).map fun j => DD (l + j)) := congrArg Prod.fst hx
        have h1 := bulks.slice_elems (H := H) ((List.range l).map DD) ((List.range (m - l)).map fun j => DD (l + j))
        have h2 := bulks.part_le (d := DD i) (l := (List.range l).map DD) (List.mem_map.2 ⟨i, List.mem_range.2 hi, rfl⟩)
        rw [← hxd] at h1
        have q3' : x.xs.length ≤ Rows.uptoBulk (DD i) := q3
        show x.xs.length ≤ 1048576
        omega
    obtain ⟨ys, hyl, hys⟩ := list_choose (p := fun (i : Nat) (x : AI × Option Addr × Option Addr × Nat × Nat) => (∀ j v, ([.int .i64 x.1.k, .int .i64 x.1.n, .slice x.2.1 x.1.xs.length x.2.2.2.1, .slice x.2.2.1 x.1.pick.length x.2.2.2.2] : List Value)[j]? = some v → w.cell? ⟨b, off + (i * 4 + j), none⟩ = some v) ∧
        Row w x.2.1 (u8L x.1.xs) ∧ (x.2.1 = none → x.1.xs.length = 0 ∧ x.2.2.2.1 = 0) ∧ x.1.xs.length ≤ 1048576 ∧ Row w x.2.2.1 (iL x.1.pick) ∧ x.1.pick.length ≤ 9223372036854775807 ∧ x.1.n ≤ 9223372036854775807) (List.range l) each
    rw [List.length_range] at hyl
    let fl : AI × Option Addr × Option Addr × Nat × Nat → List Value := fun x => [.int .i64 x.1.k, .int .i64 x.1.n, .slice x.2.1 x.1.xs.length x.2.2.2.1, .slice x.2.2.1 x.1.pick.length x.2.2.2.2]
    have flat4 : ∀ (zs : List (AI × Option Addr × Option Addr × Nat × Nat)) (i : Nat) (z : AI × Option Addr × Option Addr × Nat × Nat), zs[i]? = some z → ((zs.flatMap fl).drop (i * 4)).take 4 = fl z := by
      intro zs
      induction zs with
      | nil => intro i z h; simp at h
      | cons u r ih =>
        intro i z h
        cases i with
        | zero => simp at h; subst h; simp [fl]
        | succ i =>
          have := ih i z (by simpa using h)
          rw [List.flatMap_cons, List.drop_append, List.drop_eq_nil_of_le (by simp [fl]; omega), List.nil_append]
          have e : (i + 1) * 4 - (fl u).length = i * 4 := by simp [fl]; omega
          rw [e]; exact this
    have flen : ∀ zs : List (AI × Option Addr × Option Addr × Nat × Nat), (zs.flatMap fl).length = zs.length * 4 := by
      intro zs
      induction zs with
      | nil => rfl
      | cons u r ih => rw [List.flatMap_cons, List.length_append, ih, List.length_cons]; simp [fl]; omega
    refine ⟨some ⟨b, off, none⟩, l, m, ys.map (·.1), rfl, by simp [hyl], .inr ⟨b, off, ys.flatMap fl, rfl, At.of_cells (by rw [flen]; omega) fun j hj => ?_, by rw [flen]; simp, fun r x hx => ?_⟩⟩
    · rw [flen, hyl] at hj
      have hi : j / 4 < l := by omega
      have hyi : ys[j / 4]? = some ys[j / 4] := by simp [hyl, hi]
      have hp := hys (j / 4) (j / 4) ys[j / 4] (by simp [hi]) hyi
      have h4 := flat4 ys (j / 4) _ hyi
      have hget : (fl ys[j / 4])[j % 4]? = some ((ys.flatMap fl)[j]'(by rw [flen, hyl]; exact hj)) := by
        rw [← h4, List.getElem?_take, if_pos (by omega), List.getElem?_drop, show j / 4 * 4 + j % 4 = j by omega]
        exact List.getElem?_eq_getElem _
      have := hp.1 (j % 4) _ hget
      rw [show j / 4 * 4 + j % 4 = j by omega] at this
      exact this
    · rw [List.getElem?_map] at hx
      cases hy : ys[r]? with
      | none => rw [hy] at hx; cases hx
      | some z =>
        rw [hy] at hx
        have := Option.some.inj hx
        subst this
        have hr : r < l := by have := (List.getElem?_eq_some_iff.1 hy).1; omega
        obtain ⟨p1, p2, p3, p4, p5, p6, p7⟩ := hys r r z (by simp [hr]) hy
        exact ⟨z.2.1, z.2.2.1, z.2.2.2.1, z.2.2.2.2, flat4 ys r z hy, p2, p3, p4, p5, p6, p7⟩
end
end Go.Proofs.Ytkmkfdljnlbikaa
