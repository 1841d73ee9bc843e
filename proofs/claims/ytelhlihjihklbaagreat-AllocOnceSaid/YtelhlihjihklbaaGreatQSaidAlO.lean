/- The statement AllocOnce of this seat: for every shape, row of acts the law returns true. No condition. -/
import Derived.Test.YtelhlihjihklbaaGreatRows
import Derived.Test.YtelhlihjihklbaaGreatBh
open Go Go.Den
open Go.Z
namespace Go.Proofs.YtelhlihjihklbaaGreat
open Go.ChangeShapes Go.WideShapes Go.ChangeAt Go.RowKit Go.Joins

set_option maxRecDepth 100000 in
theorem AllocOnce_lifted (os : Os) (started : os.Started) (H : Type) (enc : TypeId × Value → H) :
    ReturnsInHanded {} Tryz.checked os 9 .any (Rows.allocOnceSpec.pre6 enc Tryz.prog Tryz.f9 Rows.allocOnceRow.domain false) (Rows.allocOnceSpec.post enc Tryz.prog Tryz.f9 false true false false) := by
  refine returnsInHanded_of_change (C := Tryz.checked) uM started (by kernel_rfl) Tryz.func9
    (ChangeSpec.witness6 (enc := enc) (C := Tryz.checked) false ⟨#[], #[.agg #[.int .i64 0, .int .i64 0, .int .i64 0], .slice none 0 0], []⟩ 8 (by kernel_rfl) (by kernel_rfl) (by kernel_rfl) (by kernel_rfl)) ?_
  intro W base args ds gs before hval0 hW hcnd _
  have hval : ∀ (j : Nat) t v, Tryz.f9.params[j]? = some t → args[j]? = some v → Value.okWide Tryz.prog W .any base t v := hval0
  have hW' := hW
  obtain ⟨p, q, hA0, hV, rfl, hfz, hnd⟩ := hW
  have hA : DataW.TrodAll enc Tryz.prog W 0 (fun _ => true) true Tryz.f9.params.toList args.toList ds p := hA0
  rw [Tryz.params9] at hA hval
  obtain ⟨v0, v1, d0, d1, p0, p1, rfl, rfl, rfl, h0, h1⟩ := trodAll_two hA
  obtain ⟨rfl, rfl⟩ := trodVars_none hV
  obtain ⟨c0, c1, c2, y0, y1, y2, m, rfl, rfl, rfl, hy0, hy1, hy2⟩ := open_agg3 Tryz.underlying40 (by kernel_rfl) (by kernel_rfl) (hval 0 40 v0 rfl rfl) h0
  obtain ⟨a1, l1, cc, acts, rfl, hl, hr, h63⟩ := gW (hval 1 70 v1 rfl rfl) h1
  obtain ⟨n0, e0, _, u0⟩ := DataW.trod_int Tryz.underlying3 hy0
  obtain ⟨n1, e1, _, u1⟩ := DataW.trod_int Tryz.underlying3 hy1
  obtain ⟨n2, e2, _, u2⟩ := DataW.trod_int Tryz.underlying3 hy2
  have e0 : c0 = .int .i64 n0 := by simpa using e0
  have e1 : c1 = .int .i64 n1 := by simpa using e1
  have e2 : c2 = .int .i64 n2 := by simpa using e2
  subst e0 e1 e2
  refine nH (Zt (g := ⟨n0, n1, n2⟩) hr hl h63) fun v W' h => ⟨v, rfl, ?_⟩
  obtain ⟨rfl, hm⟩ := h
  exact tQ tP hW' rfl (by kernel_rfl) rfl Tryz.underlying4 rfl (hm.below fun _ h => h)

theorem AllocOnce_proved : Rows.AllocOnceSaid :=
  OpenClaim.holds_of_wide 9 Tryz.f9 rfl rfl rfl rfl rfl rfl rfl ⟨rfl, rfl, rfl, rfl, rfl⟩ rfl rfl rfl rfl rfl (by kernel_rfl) Tryz.func9 (by kernel_rfl)
    (of_decide_eq_true (by kernel_rfl)) (by unfold Func.isWrapper; first | (rw [if_pos (by decide +kernel)]; kernel_rfl) | (rw [if_neg (by decide +kernel)]; exact ⟨rfl, rfl⟩))
    (fun os started H enc _ => AllocOnce_lifted os started H enc)
end Go.Proofs.YtelhlihjihklbaaGreat
