/- The statement PtrWays of this seat: for every number, way, offset and length the law returns true. No condition. -/
import Derived.Test.YtnlpnfophnipeaaRows
import Derived.Test.YtnlpnfophnipeaaPtrF
import Derived.Test.YtnlpnfophnipeaaSaidKit
import Derived.Lib.SmallJoins
open Go Go.Den
namespace Go.Proofs.Ytnlpnfophnipeaa
open Go.ChangeShapes Go.WideShapes Go.ChangeAt Go.RowKit Go.Joins

set_option maxRecDepth 100000 in
theorem PtrWays_lifted (os : Os) (started : os.Started) (H : Type) (enc : TypeId × Value → H) :
    ReturnsInHanded {} Try.checked os 3 .any (Rows.ptrWaysSpec.pre6 enc Try.prog Try.f3 Rows.ptrWaysRow.domain false) (Rows.ptrWaysSpec.post enc Try.prog Try.f3 false true false false) := by
  refine returnsInHanded_of_change (C := Try.checked) own_none started (by kernel_rfl) Try.func3
    (ChangeSpec.witness6 (enc := enc) (C := Try.checked) false ⟨#[], #[.int .i64 0, .agg #[.int .i64 0, .int .i64 0, .int .i64 0, .int .i64 0], .int .i64 0, .int .i64 0], []⟩ 8 (by kernel_rfl) (by kernel_rfl) (by kernel_rfl) (by kernel_rfl)) ?_
  intro W base args ds gs before hval0 hW hcnd _
  have hval : ∀ (j : Nat) t v, Try.f3.params[j]? = some t → args[j]? = some v → Value.okWide Try.prog W .any base t v := hval0
  have hW' := hW
  obtain ⟨p, q, hA0, hV, rfl, hfz, hnd⟩ := hW
  have hA : DataW.TrodAll enc Try.prog W 0 (fun _ => true) true Try.f3.params.toList args.toList ds p := hA0
  rw [Try.params3] at hA hval
  obtain ⟨v0, v1, v2, v3, d0, d1, d2, d3, p0, p1, p2, p3, rfl, rfl, rfl, h0, h1, h2, h3⟩ := trodAll_four hA
  obtain ⟨rfl, rfl⟩ := trodVars_none hV
  obtain ⟨a, rfl, rfl, rfl, wa⟩ := open_int Try.underlying3 (hval 0 3 v0 rfl rfl) h0
  obtain ⟨b, rfl, rfl, rfl, wb⟩ := open_int Try.underlying2 (hval 2 2 v2 rfl rfl) h2
  obtain ⟨c, rfl, rfl, rfl, wc⟩ := open_int Try.underlying3 (hval 3 3 v3 rfl rfl) h3
  obtain ⟨c0, c1, c2, c3, y0, y1, y2, y3, m, rfl, rfl, rfl, hy0, hy1, hy2, hy3⟩ := open_agg4 Try.underlying23 (by kernel_rfl) (by kernel_rfl) (hval 1 23 v1 rfl rfl) h1
  have ha := i64_bounds wa
  have hb := i64_bounds wb
  have hc := i64_bounds wc
  obtain ⟨n0, e0, _, u0⟩ := DataW.trod_int Try.underlying3 hy0
  obtain ⟨n1, e1, _, u1⟩ := DataW.trod_int Try.underlying3 hy1
  obtain ⟨n2, e2, _, u2⟩ := DataW.trod_int Try.underlying3 hy2
  obtain ⟨n3, e3, _, u3⟩ := DataW.trod_int Try.underlying3 hy3
  have e0 : c0 = .int .i64 n0 := by simpa using e0
  have e1 : c1 = .int .i64 n1 := by simpa using e1
  have e2 : c2 = .int .i64 n2 := by simpa using e2
  have e3 : c3 = .int .i64 n3 := by simpa using e3
  subst e0 e1 e2 e3
  have h1b := i64_bounds u1
  refine cal_calls (PtrWays_c (x := ⟨n0, n1, n2, n3⟩) ha.1 ha.2 h1b.1 h1b.2 W) fun v W' h => ⟨v, rfl, ?_⟩
  obtain ⟨rfl, hm⟩ := h
  exact law_post laid_out hW' rfl (by kernel_rfl) rfl Try.underlying4 rfl (hm.below fun _ h => h)

theorem PtrWays_proved : Rows.PtrWaysSaid :=
  OpenClaim.holds_of_wide 3 Try.f3 rfl rfl rfl rfl rfl rfl rfl ⟨rfl, rfl, rfl, rfl, rfl⟩ rfl rfl rfl rfl rfl (by kernel_rfl) Try.func3 (by kernel_rfl)
    (of_decide_eq_true (by kernel_rfl)) (by unfold Func.isWrapper; first | (rw [if_pos (by decide +kernel)]; kernel_rfl) | (rw [if_neg (by decide +kernel)]; exact ⟨rfl, rfl⟩))
    (fun os started H enc _ => PtrWays_lifted os started H enc)
end Go.Proofs.Ytnlpnfophnipeaa
#print axioms Go.Proofs.Ytnlpnfophnipeaa.PtrWays_proved
