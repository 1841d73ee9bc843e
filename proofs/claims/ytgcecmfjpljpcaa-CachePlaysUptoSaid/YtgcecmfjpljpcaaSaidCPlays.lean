/- The statement CachePlays of this seat in its second form: for every two numbers and every row of calls, where what is read is of bulk at most 1048576, the law returns true. -/
import Derived.Test.YtgcecmfjpljpcaaRows
import Derived.Test.YtgcecmfjpljpcaaRcG
import Derived.Test.YtgcecmfjpljpcaaSaidActs3
open Go Go.Den
namespace Go.Proofs.Ytgcecmfjpljpcaa
open Go.ChangeShapes Go.WideShapes Go.ChangeAt Go.RowKit

set_option maxRecDepth 100000 in
theorem CachePlays_lifted (os : Os) (started : os.Started) (H : Type) (enc : TypeId × Value → H) (F : Stop.Interp) :
    ReturnsInHanded {} Try.checked os 6 .any ((Rows.OpenSpec.upto Rows.cachePlaysSpec).pre6 enc Try.prog Try.f6 Rows.cachePlaysUptoRow.domain false) (((Rows.OpenSpec.upto Rows.cachePlaysSpec).at F).post enc Try.prog Try.f6 false true false false) := by
  refine returnsInHanded_of_cond (C := Try.checked) (s := Rows.OpenSpec.upto Rows.cachePlaysSpec) (k := Rows.uptoSmall) rfl own_none started (by kernel_rfl) Try.func6
    (OpenSpec.witness (enc := enc) (C := Try.checked) (s := Rows.OpenSpec.upto Rows.cachePlaysSpec) (k := Rows.uptoSmall) rfl false ⟨#[], #[.int .i64 0, .int .i64 0, .slice none 0 0], []⟩ 8 (by kernel_rfl) (by kernel_rfl) (by kernel_rfl)
      (x := ([.lit (.int .i64 0), .lit (.int .i64 0), .nil], [], [])) (by kernel_rfl) rfl (by kernel_rfl)) ?_
  intro W base args ds gs before hval0 hW hcnd hk _
  have hval : ∀ (j : Nat) t v, Try.f6.params[j]? = some t → args[j]? = some v → Value.okWide Try.prog W .any base t v := hval0
  have hW' := hW
  obtain ⟨p, q, hA0, hV, rfl, hfz, hnd⟩ := hW
  have hA : DataW.TrodAll enc Try.prog W 0 (fun _ => true) true Try.f6.params.toList args.toList ds p := hA0
  rw [Try.params6] at hA hval
  obtain ⟨v0, v1, v2, d0, d1, d2, p0, p1, p2, rfl, rfl, rfl, h0, h1, h2⟩ := trodAll_three hA
  obtain ⟨rfl, rfl⟩ := trodVars_none hV
  have hbulk := bulks.bound hk
  have hpart := bulks.part_le (d := d2) (l := [d0, d1, d2] ++ []) (by simp)
  obtain ⟨n, rfl, rfl, rfl, wn⟩ := open_int Try.underlying3 (hval 0 3 v0 rfl rfl) h0
  obtain ⟨n1, rfl, rfl, rfl, wn1⟩ := open_int Try.underlying3 (hval 1 3 v1 rfl rfl) h1
  obtain ⟨a1, l1, c1, acts, rfl, hl, ha, _, hx⟩ := open_acts3 (hval 2 22 v2 rfl rfl) h2
  refine cal_calls (CachePlays_c hl ha (hx (by omega))) fun v W' h => ⟨v, rfl, ?_⟩
  obtain ⟨rfl, hm⟩ := h
  exact law_post (s := Rows.cachePlaysSpec) laid_out hW' rfl (by kernel_rfl) rfl Try.underlying4 rfl (hm.below fun _ h => h)

theorem CachePlays_proved : Rows.CachePlaysUptoSaid :=
  OpenClaim.holds_of_cond 6 Try.f6 rfl rfl rfl rfl rfl rfl rfl ⟨rfl, rfl, rfl, rfl, rfl⟩ rfl rfl rfl rfl rfl (by kernel_rfl) Try.func6 (by kernel_rfl)
    (of_decide_eq_true (by kernel_rfl)) (by unfold Func.isWrapper; first | (rw [if_pos (by decide +kernel)]; kernel_rfl) | (rw [if_neg (by decide +kernel)]; exact ⟨rfl, rfl⟩))
    (fun os started H enc _ F => CachePlays_lifted os started H enc F)
end Go.Proofs.Ytgcecmfjpljpcaa
#print axioms Go.Proofs.Ytgcecmfjpljpcaa.CachePlays_proved
