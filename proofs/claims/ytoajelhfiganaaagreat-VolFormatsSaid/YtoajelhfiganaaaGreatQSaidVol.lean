/- The statement VolFormats of this seat: for every shape, number of blocks, place and row of bytes the law returns true. No condition. -/
import Derived.Test.YtoajelhfiganaaaGreatRows
import Derived.Test.YtoajelhfiganaaaGreatBg
open Go Go.Den
namespace Go.Proofs.YtoajelhfiganaaaGreat
open Go.ChangeShapes Go.WideShapes Go.ChangeAt Go.RowKit Go.Joins

set_option maxRecDepth 100000 in
theorem VolFormats_lifted (os : Os) (started : os.Started) (H : Type) (enc : TypeId × Value → H) :
    ReturnsInHanded {} Tryz.checked os 3 .any (Rows.volFormatsSpec.pre6 enc Tryz.prog Tryz.f3 Rows.volFormatsRow.domain false) (Rows.volFormatsSpec.post enc Tryz.prog Tryz.f3 false true false false) := by
  refine returnsInHanded_of_change (C := Tryz.checked) own_none started (by kernel_rfl) Tryz.func3
    (ChangeSpec.witness6 (enc := enc) (C := Tryz.checked) false ⟨#[], #[.agg #[.int .i64 0, .int .i64 0, .int .i64 0], .int .i64 0, .int .i64 0, .slice none 0 0], []⟩ 8 (by kernel_rfl) (by kernel_rfl) (by kernel_rfl) (by kernel_rfl)) ?_
  intro W base args ds gs before hval0 hW hcnd _
  have hval : ∀ (j : Nat) t v, Tryz.f3.params[j]? = some t → args[j]? = some v → Value.okWide Tryz.prog W .any base t v := hval0
  have hW' := hW
  obtain ⟨p, q, hA0, hV, rfl, hfz, hnd⟩ := hW
  have hA : DataW.TrodAll enc Tryz.prog W 0 (fun _ => true) true Tryz.f3.params.toList args.toList ds p := hA0
  rw [Tryz.params3] at hA hval
  obtain ⟨v0, v1, v2, v3, d0, d1, d2, d3, p0, p1, p2, p3, rfl, rfl, rfl, h0, h1, h2, h3⟩ := trodAll_four hA
  obtain ⟨rfl, rfl⟩ := trodVars_none hV
  obtain ⟨a, rfl, rfl, rfl, wa⟩ := open_int Tryz.underlying3 (hval 1 3 v1 rfl rfl) h1
  obtain ⟨b, rfl, rfl, rfl, wb⟩ := open_int Tryz.underlying3 (hval 2 3 v2 rfl rfl) h2
  obtain ⟨c0, c1, c2, y0, y1, y2, m, rfl, rfl, rfl, hy0, hy1, hy2⟩ := open_agg3 Tryz.underlying23 (by kernel_rfl) (by kernel_rfl) (hval 0 23 v0 rfl rfl) h0
  obtain ⟨a3, l3, cc, xs, rfl, hl, hr, hn, hlc, hd⟩ := open_bytes Tryz.underlying24 Tryz.underlying5 (by kernel_rfl) (hval 3 24 v3 rfl rfl) h3
  have ha := i64_bounds wa
  have hl63 : l3 ≤ 9223372036854775807 := bytes_max Tryz.underlying24 h3
  obtain ⟨n0, e0, _, u0⟩ := DataW.trod_int Tryz.underlying3 hy0
  obtain ⟨n1, e1, _, u1⟩ := DataW.trod_int Tryz.underlying3 hy1
  obtain ⟨n2, e2, _, u2⟩ := DataW.trod_int Tryz.underlying3 hy2
  have e0 : c0 = .int .i64 n0 := by simpa using e0
  have e1 : c1 = .int .i64 n1 := by simpa using e1
  have e2 : c2 = .int .i64 n2 := by simpa using e2
  subst e0 e1 e2
  refine cal_calls (VolFormats_c (g := ⟨n0, n1, n2⟩) ha.1 ha.2 hl hr hl63) fun v W' h => ⟨v, rfl, ?_⟩
  obtain ⟨rfl, hm⟩ := h
  exact law_post laid_out hW' rfl (by kernel_rfl) rfl Tryz.underlying4 rfl (hm.below fun _ h => h)

theorem VolFormats_proved : Rows.VolFormatsSaid :=
  OpenClaim.holds_of_wide 3 Tryz.f3 rfl rfl rfl rfl rfl rfl rfl ⟨rfl, rfl, rfl, rfl, rfl⟩ rfl rfl rfl rfl rfl (by kernel_rfl) Tryz.func3 (by kernel_rfl)
    (of_decide_eq_true (by kernel_rfl)) (by unfold Func.isWrapper; first | (rw [if_pos (by decide +kernel)]; kernel_rfl) | (rw [if_neg (by decide +kernel)]; exact ⟨rfl, rfl⟩))
    (fun os started H enc _ => VolFormats_lifted os started H enc)
end Go.Proofs.YtoajelhfiganaaaGreat
#print axioms Go.Proofs.YtoajelhfiganaaaGreat.VolFormats_proved
