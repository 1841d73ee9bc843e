/- The statement DiffMore of this seat: the law returns true for every list and every two texts; the card. -/
import Derived.Test.YtiahkkekcmgkfaaDoorCards
import Derived.Test.YtiahkkekcmgkfaaDoorTie
import Derived.Test.YtiahkkekcmgkfaaDoorRows
import Derived.Test.YtiahkkekcmgkfaaDoorBd
open Go Go.Den
namespace Go.Proofs.YtiahkkekcmgkfaaDoor
open Go.ChangeShapes Go.WideShapes Go.ChangeAt Go.RowKit
open Go.ChangeMaps (open_string)

set_option maxRecDepth 100000 in
theorem DiffMore_lifted (os : Os) (started : os.Started) (H : Type) (enc : TypeId × Value → H) :
    ReturnsInHanded {} Tryd.checked os 6 .any (fun w args => (Rows.diffMoreSpec.pre enc Tryd.prog Tryd.f6 Rows.diffMoreRow.domain false w args ∧ laidMetH Tryd.prog Rows.diffMoreRow.laid w) ∧ sizedMet enc Tryd.prog Tryd.f6 (OpenSpec.ofChange Rows.diffMoreSpec) false w args)
      (Rows.diffMoreSpec.post enc Tryd.prog Tryd.f6 false true false false) := by
  refine handed_shaped (C := Tryd.checked) (X := fun w _ => laidMetH Tryd.prog Rows.diffMoreRow.laid w) own_none started (by kernel_rfl) Tryd.func6
    (ChangeSpec.witness_shaped (enc := enc) (C := Tryd.checked) (os := os) (X := fun w _ => laidMetH Tryd.prog Rows.diffMoreRow.laid w) false (World.laidAll Tryd.prog os Rows.diffMoreRow.laid) #[.slice none 0 0, .string ByteArray.empty, .string ByteArray.empty] 8 (World.laidAll_os _ _ _)
      (World.shaped_of_ZipB (by kernel_rfl) (by kernel_rfl)) (by kernel_rfl) (by kernel_rfl) (by kernel_rfl)
      (by rw [MakeChecks.laidMetH_plain _ _ _ (by kernel_rfl)]; exact laidMet_laidAll _ (by kernel_rfl) (by kernel_rfl))) ?_
  intro W base args ds gs before hval0 hW hsz hsh
  have hval : ∀ (j : Nat) t v, Tryd.f6.params[j]? = some t → args[j]? = some v → Value.okWide Tryd.prog W .any base t v := hval0
  have hW' := hW
  obtain ⟨p, q, hA0, hV, rfl, hfz, hnd⟩ := hW
  have hA : DataW.TrodAll enc Tryd.prog W 0 (fun _ => true) true Tryd.f6.params.toList args.toList ds p := hA0
  have hsz : (DataW.weightsEach Tryd.prog (Tryd.f6.params.toList ++ []) (ds ++ gs)).all (· ≤ reachBytes) = true := hsz
  rw [Tryd.params6] at hA hval hsz
  obtain ⟨v0, v1, v2, d0, d1, d2, p0, p1, p2, rfl, rfl, rfl, h0, h1, h2⟩ := trodAll_three hA
  obtain ⟨rfl, rfl⟩ := trodVars_none hV
  obtain ⟨s1, rfl, rfl, rfl, _⟩ := open_string Tryd.underlying9 (hval 1 9 v1 rfl rfl) h1
  obtain ⟨s2, rfl, rfl, rfl, _⟩ := open_string Tryd.underlying9 (hval 2 9 v2 rfl rfl) h2
  have hall : ∀ n ∈ (DataW.weights Tryd.prog 22 (d0 : DataW H)) ++ (DataW.weights Tryd.prog 9 ((.lit (.string s1.data.toList)) : DataW H)) ++ (DataW.weights Tryd.prog 9 ((.lit (.string s2.data.toList)) : DataW H)), n ≤ reachBytes := by
    intro n hn
    have := List.all_eq_true.1 hsz n (by simp only [List.cons_append, List.nil_append, List.append_nil, DataW.weightsEach]; simpa [List.mem_append, or_assoc] using hn)
    exact of_decide_eq_true this
  obtain ⟨a0, c0, l0, rfl, r0, b0⟩ := open_ents (hval 0 22 v0 rfl rfl) h0 fun n hn => hall n (by simp only [List.mem_append]; exact Or.inl (Or.inl hn))
  have g1 : s1.data.toList.length ≤ reachBytes := hall _ (by simp only [List.mem_append]; exact Or.inl (Or.inr (by rw [weights_text (P := Tryd.prog) (t := 9) s1]; exact List.mem_singleton.2 rfl)))
  have g2 : s2.data.toList.length ≤ reachBytes := hall _ (by simp only [List.mem_append]; exact Or.inr (by rw [weights_text (P := Tryd.prog) (t := 9) s2]; exact List.mem_singleton.2 rfl))
  have hc := DiffMore_l (c := c0) (x := s1.data.toList) (d := s2.data.toList) r0 b0 (Nat.le_trans g1 (by decide)) (Nat.le_trans g2 (by decide)) (gl_of hsh)
  rw [← sB_of, ← sB_of] at hc
  refine cal_calls hc fun v W' h => ⟨v, rfl, ?_⟩
  obtain ⟨rfl, hm⟩ := h
  exact law_post laid_out hW' rfl (by kernel_rfl) rfl Tryd.underlying4 rfl (hm.below fun _ h => h)

theorem DiffMore_row : Rows.DiffMoreSaid :=
  OpenClaim.holds_of_wide 6 Tryd.f6 rfl rfl rfl rfl rfl rfl rfl ⟨rfl, rfl, rfl, rfl, rfl⟩ rfl rfl rfl rfl rfl (by kernel_rfl) Tryd.func6 (by kernel_rfl)
    (of_decide_eq_true (by kernel_rfl)) (by unfold Func.isWrapper; first | (rw [if_pos (by decide +kernel)]; kernel_rfl) | (rw [if_neg (by decide +kernel)]; exact ⟨rfl, rfl⟩))
    (fun os started H enc _ => DiffMore_lifted os started H enc)

theorem DiffMore_proved : Rows.DiffMoreCardSaid :=
  Claim7.holds_tied_plain_at .later [] [.data, .pinned] true (true, "00d81ddc6f8cbcfb03d4e8a15d6c41fde1c43f78c7324bd454775d665312ec65") false DiffMore_row (fun _ h => by cases h) (by kernel_rfl) (fun _ h => by cases h) diffMore_row_tie rfl ⟨rfl, rfl⟩ (by kernel_rfl) rfl
    (fun f fn hf hfn => by
      obtain rfl : f = 6 := Option.some.inj ((show Tryd.prog.funcNamed "levee/leveelaw34.DiffMore" = some 6 by kernel_rfl).symm.trans hf) |>.symm
      obtain rfl : fn = Tryd.f6 := (Option.some.inj (Tryd.func6.symm.trans hfn)).symm
      exact ⟨by kernel_rfl, fun j t ht => by
        rw [Tryd.params6] at ht
        have hm : t ∈ [22, 9] := by have h := Array.mem_of_getElem? ht; simp at h; simp; omega
        have hall : ([22, 9].all fun u => !Tryd.prog.wantsStandIn u) = true := by kernel_rfl
        exact (show Tryd.prog.wantsStandIn t = false by simpa using List.all_eq_true.1 hall t hm)⟩)
    (by kernel_rfl)
end Go.Proofs.YtiahkkekcmgkfaaDoor
#print axioms Go.Proofs.YtiahkkekcmgkfaaDoor.DiffMore_proved
