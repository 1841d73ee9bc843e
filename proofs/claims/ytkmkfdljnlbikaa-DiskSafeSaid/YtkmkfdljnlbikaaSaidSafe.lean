/- The statement DiskSafe of this seat: for every bytes, rows of bytes and numbers the law returns true. No condition. -/
import Derived.Test.YtkmkfdljnlbikaaRows
import Derived.Test.YtkmkfdljnlbikaaDiskS
import Derived.Test.YtkmkfdljnlbikaaSaidRows
open Go Go.Den
namespace Go.Proofs.Ytkmkfdljnlbikaa
open Go.ChangeShapes Go.WideShapes Go.ChangeAt Go.RowKit

set_option maxRecDepth 100000 in
theorem DiskSafe_lifted (os : Os) (started : os.Started) (H : Type) (enc : TypeId × Value → H) :
    ReturnsInHanded {} Try.checked os 6 .any (Rows.diskSafeSpec.pre6 enc Try.prog Try.f6 Rows.diskSafeRow.domain false) (Rows.diskSafeSpec.post enc Try.prog Try.f6 false true false false) := by
  refine returnsInHanded_of_change (C := Try.checked) own_none started (by kernel_rfl) Try.func6
    (ChangeSpec.witness6 (enc := enc) (C := Try.checked) false ⟨#[], #[.slice none 0 0, .slice none 0 0, .slice none 0 0], []⟩ 8 (by kernel_rfl) (by kernel_rfl) (by kernel_rfl) (by kernel_rfl)) ?_
  intro W base args ds gs before hval0 hW hcnd _
  have hval : ∀ (j : Nat) t v, Try.f6.params[j]? = some t → args[j]? = some v → Value.okWide Try.prog W .any base t v := hval0
  have hW' := hW
  obtain ⟨p, q, hA0, hV, rfl, hfz, hnd⟩ := hW
  have hA : DataW.TrodAll enc Try.prog W 0 (fun _ => true) true Try.f6.params.toList args.toList ds p := hA0
  rw [Try.params6] at hA hval
  obtain ⟨v0, v1, v2, d0, d1, d2, p0, p1, p2, rfl, rfl, rfl, h0, h1, h2⟩ := trodAll_three hA
  obtain ⟨rfl, rfl⟩ := trodVars_none hV
  obtain ⟨a0, l0, c0, xs, rfl, hl0, hr0, hn0, hlc0, hd0⟩ := open_bytes Try.underlying40 Try.underlying5 (by kernel_rfl) (hval 0 40 v0 rfl rfl) h0
  obtain ⟨a1, l1, c1, xss, rfl, hl1, hr1, hlc1, hm1⟩ := open_rows2 Try.underlying52 Try.underlying40 Try.underlying5 (by kernel_rfl) (by kernel_rfl) (hval 1 52 v1 rfl rfl) h1
  obtain ⟨a2, l2, c2, pick, rfl, hl2, hr2, hn2, hlc2, hm2, hw2, hd2⟩ := open_nums Try.underlying42 Try.underlying3 (by kernel_rfl) (hval 2 42 v2 rfl rfl) h2
  have hm0 : l0 ≤ 9223372036854775807 := bytes_max Try.underlying40 h0
  have hm2' : l2 ≤ 9223372036854775807 := by simp [maxLen] at hm2; omega
  refine cal_calls (DiskSafe_c hl0 hr0 hm0 hl1 hr1 hl2 hr2 hm2') fun v W' h => ⟨v, rfl, ?_⟩
  obtain ⟨rfl, hm⟩ := h
  exact law_post laid_out hW' rfl (by kernel_rfl) rfl Try.underlying4 rfl (hm.below fun _ h => h)

theorem DiskSafe_proved : Rows.DiskSafeSaid :=
  OpenClaim.holds_of_wide 6 Try.f6 rfl rfl rfl rfl rfl rfl rfl ⟨rfl, rfl, rfl, rfl, rfl⟩ rfl rfl rfl rfl rfl (by kernel_rfl) Try.func6 (by kernel_rfl)
    (of_decide_eq_true (by kernel_rfl)) (by unfold Func.isWrapper; first | (rw [if_pos (by decide +kernel)]; kernel_rfl) | (rw [if_neg (by decide +kernel)]; exact ⟨rfl, rfl⟩))
    (fun os started H enc _ => DiskSafe_lifted os started H enc)
end Go.Proofs.Ytkmkfdljnlbikaa
#print axioms Go.Proofs.Ytkmkfdljnlbikaa.DiskSafe_proved
