/- The statement DiskLoads of this seat: for every row of bytes and every number the law returns true. No condition. -/
import Derived.Test.YtnlpnfophnipeaaRows
import Derived.Test.YtnlpnfophnipeaaDiskL
import Derived.Test.YtnlpnfophnipeaaSaidArgs
open Go Go.Den
namespace Go.Proofs.Ytnlpnfophnipeaa
open Go.ChangeShapes Go.WideShapes Go.ChangeAt Go.RowKit

set_option maxRecDepth 100000 in
theorem DiskLoads_lifted (os : Os) (started : os.Started) (H : Type) (enc : TypeId × Value → H) :
    ReturnsInHanded {} Try.checked os 7 .any (Rows.diskLoadsSpec.pre6 enc Try.prog Try.f7 Rows.diskLoadsRow.domain false) (Rows.diskLoadsSpec.post enc Try.prog Try.f7 false true false false) := by
  refine returnsInHanded_of_change (C := Try.checked) own_none started (by kernel_rfl) Try.func7
    (ChangeSpec.witness6 (enc := enc) (C := Try.checked) false ⟨#[], #[.slice none 0 0, .int .i64 0], []⟩ 8 (by kernel_rfl) (by kernel_rfl) (by kernel_rfl) (by kernel_rfl)) ?_
  intro W base args ds gs before hval0 hW hcnd _
  have hval : ∀ (j : Nat) t v, Try.f7.params[j]? = some t → args[j]? = some v → Value.okWide Try.prog W .any base t v := hval0
  have hW' := hW
  obtain ⟨p, q, hA0, hV, rfl, hfz, hnd⟩ := hW
  have hA : DataW.TrodAll enc Try.prog W 0 (fun _ => true) true Try.f7.params.toList args.toList ds p := hA0
  rw [Try.params7] at hA hval
  obtain ⟨v0, v1, d0, d1, p0, p1, rfl, rfl, rfl, h0, h1⟩ := trodAll_two hA
  obtain ⟨rfl, rfl⟩ := trodVars_none hV
  obtain ⟨b, rfl, rfl, rfl, wb⟩ := open_int Try.underlying3 (hval 1 3 v1 rfl rfl) h1
  obtain ⟨a0, l0, c0, xs, rfl, hl, hr, hn, hlc, hd⟩ := open_bytes Try.underlying40 Try.underlying5 (by kernel_rfl) (hval 0 40 v0 rfl rfl) h0
  refine cal_calls (DiskLoads_c hl hr hn hlc) fun v W' h => ⟨v, rfl, ?_⟩
  obtain ⟨rfl, hm⟩ := h
  exact law_post laid_out hW' rfl (by kernel_rfl) rfl Try.underlying4 rfl (hm.below fun _ h => h)

theorem DiskLoads_proved : Rows.DiskLoadsSaid :=
  OpenClaim.holds_of_wide 7 Try.f7 rfl rfl rfl rfl rfl rfl rfl ⟨rfl, rfl, rfl, rfl, rfl⟩ rfl rfl rfl rfl rfl (by kernel_rfl) Try.func7 (by kernel_rfl)
    (of_decide_eq_true (by kernel_rfl)) (by unfold Func.isWrapper; first | (rw [if_pos (by decide +kernel)]; kernel_rfl) | (rw [if_neg (by decide +kernel)]; exact ⟨rfl, rfl⟩))
    (fun os started H enc _ => DiskLoads_lifted os started H enc)
end Go.Proofs.Ytnlpnfophnipeaa
#print axioms Go.Proofs.Ytnlpnfophnipeaa.DiskLoads_proved
