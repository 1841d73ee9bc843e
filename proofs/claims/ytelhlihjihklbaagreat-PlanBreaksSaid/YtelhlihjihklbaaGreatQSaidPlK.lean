/- The statement PlanBreaks of this seat: for every shape, row of acts and every number the law returns true. No condition. -/
import Derived.Test.YtelhlihjihklbaaGreatRows
import Derived.Test.YtelhlihjihklbaaGreatBf
open Go Go.Den
namespace Go.Proofs.YtelhlihjihklbaaGreat
open Go.ChangeShapes Go.WideShapes Go.ChangeAt Go.RowKit Go.Joins

set_option maxRecDepth 100000 in
theorem PlanBreaks_lifted (os : Os) (started : os.Started) (H : Type) (enc : TypeId × Value → H) :
    ReturnsInHanded {} Tryz.checked os 4 .any (Rows.planBreaksSpec.pre6 enc Tryz.prog Tryz.f4 Rows.planBreaksRow.domain false) (Rows.planBreaksSpec.post enc Tryz.prog Tryz.f4 false true false false) := by
  refine returnsInHanded_of_change (C := Tryz.checked) own_none started (by kernel_rfl) Tryz.func4
    (ChangeSpec.witness6 (enc := enc) (C := Tryz.checked) false ⟨#[], #[.agg #[.int .i64 0, .int .i64 0, .int .i64 0], .slice none 0 0, .int .i64 0], []⟩ 8 (by kernel_rfl) (by kernel_rfl) (by kernel_rfl) (by kernel_rfl)) ?_
  intro W base args ds gs before hval0 hW hcnd _
  have hval : ∀ (j : Nat) t v, Tryz.f4.params[j]? = some t → args[j]? = some v → Value.okWide Tryz.prog W .any base t v := hval0
  have hW' := hW
  obtain ⟨p, q, hA0, hV, rfl, hfz, hnd⟩ := hW
  have hA : DataW.TrodAll enc Tryz.prog W 0 (fun _ => true) true Tryz.f4.params.toList args.toList ds p := hA0
  rw [Tryz.params4] at hA hval
  obtain ⟨v0, v1, v2, d0, d1, d2, p0, p1, p2, rfl, rfl, rfl, h0, h1, h2⟩ := trodAll_three hA
  obtain ⟨rfl, rfl⟩ := trodVars_none hV
  obtain ⟨c0, c1, c2, y0, y1, y2, m, rfl, rfl, rfl, hy0, hy1, hy2⟩ := open_agg3 Tryz.underlying40 (by kernel_rfl) (by kernel_rfl) (hval 0 40 v0 rfl rfl) h0
  obtain ⟨a1, l1, cc, acts, rfl, hl, hr, h63⟩ := open_acts7 (hval 1 41 v1 rfl rfl) h1
  obtain ⟨a, rfl, rfl, rfl, wa⟩ := open_int Tryz.underlying3 (hval 2 3 v2 rfl rfl) h2
  obtain ⟨n0, e0, _, u0⟩ := DataW.trod_int Tryz.underlying3 hy0
  obtain ⟨n1, e1, _, u1⟩ := DataW.trod_int Tryz.underlying3 hy1
  obtain ⟨n2, e2, _, u2⟩ := DataW.trod_int Tryz.underlying3 hy2
  have e0 : c0 = .int .i64 n0 := by simpa using e0
  have e1 : c1 = .int .i64 n1 := by simpa using e1
  have e2 : c2 = .int .i64 n2 := by simpa using e2
  subst e0 e1 e2
  refine cal_calls (PlanBreaks_c (g := ⟨n0, n1, n2⟩) (i64_bounds wa).2 hr hl h63) fun v W' h => ⟨v, rfl, ?_⟩
  obtain ⟨rfl, hm⟩ := h
  exact law_post laid_out hW' rfl (by kernel_rfl) rfl Tryz.underlying4 rfl (hm.below fun _ h => h)

theorem PlanBreaks_proved : Rows.PlanBreaksSaid :=
  OpenClaim.holds_of_wide 4 Tryz.f4 rfl rfl rfl rfl rfl rfl rfl ⟨rfl, rfl, rfl, rfl, rfl⟩ rfl rfl rfl rfl rfl (by kernel_rfl) Tryz.func4 (by kernel_rfl)
    (of_decide_eq_true (by kernel_rfl)) (by unfold Func.isWrapper; first | (rw [if_pos (by decide +kernel)]; kernel_rfl) | (rw [if_neg (by decide +kernel)]; exact ⟨rfl, rfl⟩))
    (fun os started H enc _ => PlanBreaks_lifted os started H enc)
end Go.Proofs.YtelhlihjihklbaaGreat
