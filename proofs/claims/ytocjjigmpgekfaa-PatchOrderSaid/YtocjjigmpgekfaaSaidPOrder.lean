/- The statement PatchOrder of this seat: for every row of calls, and every choice behind the crash, the law returns true. No condition. -/
import Derived.Test.YtocjjigmpgekfaaRows
import Derived.Test.YtocjjigmpgekfaaPatX
import Derived.Test.YtocjjigmpgekfaaSaidActs6
open Go Go.Den
namespace Go.Proofs.Ytocjjigmpgekfaa
open Go.ChangeShapes Go.WideShapes Go.ChangeAt Go.RowKit

set_option maxRecDepth 100000 in
theorem PatchOrder_lifted (os : Os) (started : os.Started) (H : Type) (enc : TypeId × Value → H) :
    ReturnsInHanded {} Try.checked os 3 .any (Rows.patchOrderSpec.pre6 enc Try.prog Try.f3 Rows.patchOrderRow.domain false) (Rows.patchOrderSpec.post enc Try.prog Try.f3 false true false false) := by
  refine returnsInHanded_of_change (C := Try.checked) own_none started (by kernel_rfl) Try.func3
    (ChangeSpec.witness6 (enc := enc) (C := Try.checked) false ⟨#[], #[.slice none 0 0, .slice none 0 0], []⟩ 8 (by kernel_rfl) (by kernel_rfl) (by kernel_rfl) (by kernel_rfl)) ?_
  intro W base args ds gs before hval0 hW hcnd _
  have hval : ∀ (j : Nat) t v, Try.f3.params[j]? = some t → args[j]? = some v → Value.okWide Try.prog W .any base t v := hval0
  have hW' := hW
  obtain ⟨p, q, hA0, hV, rfl, hfz, hnd⟩ := hW
  have hA : DataW.TrodAll enc Try.prog W 0 (fun _ => true) true Try.f3.params.toList args.toList ds p := hA0
  rw [Try.params3] at hA hval
  obtain ⟨v0, v1, d0, d1, p0, p1, rfl, rfl, rfl, h0, h1⟩ := trodAll_two hA
  obtain ⟨rfl, rfl⟩ := trodVars_none hV
  obtain ⟨a1, l1, c1, acts, rfl, hl, ha, _⟩ := open_acts6 (hval 0 22 v0 rfl rfl) h0
  obtain ⟨a2, l2, c2, pick, rfl, hl2, hr2, hn2, hlc2, hm2, hw2, hd2⟩ := open_nums Try.underlying23 Try.underlying3 (by kernel_rfl) (hval 1 23 v1 rfl rfl) h1
  have hm2' : l2 ≤ 9223372036854775807 := by simp [maxLen] at hm2; omega
  refine cal_calls (PatchOrder_c hl ha hl2 hr2 hm2') fun v W' h => ⟨v, rfl, ?_⟩
  obtain ⟨rfl, hm⟩ := h
  exact law_post laid_out hW' rfl (by kernel_rfl) rfl Try.underlying4 rfl (hm.below fun _ h => h)

theorem PatchOrder_proved : Rows.PatchOrderSaid :=
  OpenClaim.holds_of_wide 3 Try.f3 rfl rfl rfl rfl rfl rfl rfl ⟨rfl, rfl, rfl, rfl, rfl⟩ rfl rfl rfl rfl rfl (by kernel_rfl) Try.func3 (by kernel_rfl)
    (of_decide_eq_true (by kernel_rfl)) (by unfold Func.isWrapper; first | (rw [if_pos (by decide +kernel)]; kernel_rfl) | (rw [if_neg (by decide +kernel)]; exact ⟨rfl, rfl⟩))
    (fun os started H enc _ => PatchOrder_lifted os started H enc)
end Go.Proofs.Ytocjjigmpgekfaa
#print axioms Go.Proofs.Ytocjjigmpgekfaa.PatchOrder_proved
