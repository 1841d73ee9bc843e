/- The statement PtrNames of this seat in its second form: for every row of bytes and every two numbers, where what is read is of bulk at most 1048576, the law returns true. -/
import Derived.Test.YtkmkfdljnlbikaaRows
import Derived.Test.YtkmkfdljnlbikaaPtrG
import Derived.Test.YtkmkfdljnlbikaaSaidArgs
open Go Go.Den
namespace Go.Proofs.Ytkmkfdljnlbikaa
open Go.ChangeShapes Go.WideShapes Go.ChangeAt Go.RowKit

set_option maxRecDepth 100000 in
theorem PtrNames_lifted (os : Os) (started : os.Started) (H : Type) (enc : TypeId × Value → H) (F : Stop.Interp) :
    ReturnsInHanded {} Try.checked os 4 .any ((Rows.OpenSpec.upto Rows.ptrNamesSpec).pre6 enc Try.prog Try.f4 Rows.ptrNamesUptoRow.domain false) (((Rows.OpenSpec.upto Rows.ptrNamesSpec).at F).post enc Try.prog Try.f4 false true false false) := by
  refine returnsInHanded_of_cond (C := Try.checked) (s := Rows.OpenSpec.upto Rows.ptrNamesSpec) (k := Rows.uptoSmall) rfl own_none started (by kernel_rfl) Try.func4
    (OpenSpec.witness (enc := enc) (C := Try.checked) (s := Rows.OpenSpec.upto Rows.ptrNamesSpec) (k := Rows.uptoSmall) rfl false ⟨#[], #[.slice none 0 0, .int .i64 0, .int .i64 0], []⟩ 8 (by kernel_rfl) (by kernel_rfl) (by kernel_rfl)
      (x := ([.nil, .lit (.int .i64 0), .lit (.int .i64 0)], [], [])) (by kernel_rfl) rfl (by kernel_rfl)) ?_
  intro W base args ds gs before hval0 hW hcnd hk _
  have hval : ∀ (j : Nat) t v, Try.f4.params[j]? = some t → args[j]? = some v → Value.okWide Try.prog W .any base t v := hval0
  have hW' := hW
  obtain ⟨p, q, hA0, hV, rfl, hfz, hnd⟩ := hW
  have hA : DataW.TrodAll enc Try.prog W 0 (fun _ => true) true Try.f4.params.toList args.toList ds p := hA0
  rw [Try.params4] at hA hval
  obtain ⟨v0, v1, v2, d0, d1, d2, p0, p1, p2, rfl, rfl, rfl, h0, h1, h2⟩ := trodAll_three hA
  obtain ⟨rfl, rfl⟩ := trodVars_none hV
  obtain ⟨b, rfl, rfl, rfl, wb⟩ := open_int Try.underlying3 (hval 1 3 v1 rfl rfl) h1
  obtain ⟨c, rfl, rfl, rfl, wc⟩ := open_int Try.underlying3 (hval 2 3 v2 rfl rfl) h2
  obtain ⟨a0, l0, c0, xs, rfl, hl, hr, hn, hlc, hd⟩ := open_bytes Try.underlying40 Try.underlying5 (by kernel_rfl) (hval 0 40 v0 rfl rfl) h0
  have hbulk := bulks.bound hk
  have hsm : l0 ≤ 1048576 := by
    rcases hd with ⟨_, hc⟩ | ⟨e1, e2, rfl, hc⟩
    · omega
    · have h1 := bulks.slice_le e1 e2
      have h2 := bulks.part_le (d := DataW.slice e1 e2) (l := [DataW.slice e1 e2, .lit (.int .i64 b), .lit (.int .i64 c)] ++ []) (by simp)
      omega
  refine cal_calls (PtrNames_c hl hr hn hlc hsm) fun v W' h => ⟨v, rfl, ?_⟩
  obtain ⟨rfl, hm⟩ := h
  exact law_post (s := Rows.ptrNamesSpec) laid_out hW' rfl (by kernel_rfl) rfl Try.underlying4 rfl (hm.below fun _ h => h)

theorem PtrNames_proved : Rows.PtrNamesUptoSaid :=
  OpenClaim.holds_of_cond 4 Try.f4 rfl rfl rfl rfl rfl rfl rfl ⟨rfl, rfl, rfl, rfl, rfl⟩ rfl rfl rfl rfl rfl (by kernel_rfl) Try.func4 (by kernel_rfl)
    (of_decide_eq_true (by kernel_rfl)) (by unfold Func.isWrapper; first | (rw [if_pos (by decide +kernel)]; kernel_rfl) | (rw [if_neg (by decide +kernel)]; exact ⟨rfl, rfl⟩))
    (fun os started H enc _ F => PtrNames_lifted os started H enc F)
end Go.Proofs.Ytkmkfdljnlbikaa
#print axioms Go.Proofs.Ytkmkfdljnlbikaa.PtrNames_proved
