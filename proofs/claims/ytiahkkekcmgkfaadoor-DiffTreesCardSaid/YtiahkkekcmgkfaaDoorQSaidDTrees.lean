/- The statement DiffTrees of this seat: the law returns true for every two lists; the card. -/
import Derived.Test.YtiahkkekcmgkfaaDoorCards
import Derived.Test.YtiahkkekcmgkfaaDoorTie
import Derived.Test.YtiahkkekcmgkfaaDoorRows
import Derived.Test.YtiahkkekcmgkfaaDoorBd
open Go Go.Den
namespace Go.Proofs.YtiahkkekcmgkfaaDoor
open Go.ChangeShapes Go.WideShapes Go.ChangeAt Go.RowKit
open Go.ChangeMaps (open_string)

set_option maxRecDepth 100000 in
theorem DiffTrees_lifted (os : Os) (started : os.Started) (H : Type) (enc : TypeId × Value → H) :
    ReturnsInHanded {} Tryd.checked os 3 .any (fun w args => (Rows.diffTreesSpec.pre enc Tryd.prog Tryd.f3 Rows.diffTreesRow.domain false w args ∧ laidMetH Tryd.prog Rows.diffTreesRow.laid w) ∧ sizedMet enc Tryd.prog Tryd.f3 (OpenSpec.ofChange Rows.diffTreesSpec) false w args)
      (Rows.diffTreesSpec.post enc Tryd.prog Tryd.f3 false true false false) := by
  refine handed_shaped (C := Tryd.checked) (X := fun w _ => laidMetH Tryd.prog Rows.diffTreesRow.laid w) own_none started (by kernel_rfl) Tryd.func3
    (ChangeSpec.witness_shaped (enc := enc) (C := Tryd.checked) (os := os) (X := fun w _ => laidMetH Tryd.prog Rows.diffTreesRow.laid w) false (World.laidAll Tryd.prog os Rows.diffTreesRow.laid) #[.slice none 0 0, .slice none 0 0] 8 (World.laidAll_os _ _ _)
      (World.shaped_of_ZipB (by kernel_rfl) (by kernel_rfl)) (by kernel_rfl) (by kernel_rfl) (by kernel_rfl)
      (by rw [MakeChecks.laidMetH_plain _ _ _ (by kernel_rfl)]; exact laidMet_laidAll _ (by kernel_rfl) (by kernel_rfl))) ?_
  intro W base args ds gs before hval0 hW hsz hsh
  have hval : ∀ (j : Nat) t v, Tryd.f3.params[j]? = some t → args[j]? = some v → Value.okWide Tryd.prog W .any base t v := hval0
  have hW' := hW
  obtain ⟨p, q, hA0, hV, rfl, hfz, hnd⟩ := hW
  have hA : DataW.TrodAll enc Tryd.prog W 0 (fun _ => true) true Tryd.f3.params.toList args.toList ds p := hA0
  have hsz : (DataW.weightsEach Tryd.prog (Tryd.f3.params.toList ++ []) (ds ++ gs)).all (· ≤ reachBytes) = true := hsz
  rw [Tryd.params3] at hA hval hsz
  obtain ⟨v0, v1, d0, d1, p0, p1, rfl, rfl, rfl, h0, h1⟩ := trodAll_two hA
  obtain ⟨rfl, rfl⟩ := trodVars_none hV
  have hall : ∀ n ∈ (DataW.weights Tryd.prog 22 (d0 : DataW H)) ++ (DataW.weights Tryd.prog 22 (d1 : DataW H)), n ≤ reachBytes := by
    intro n hn
    have := List.all_eq_true.1 hsz n (by simp only [List.cons_append, List.nil_append, List.append_nil, DataW.weightsEach]; simpa [List.mem_append, or_assoc] using hn)
    exact of_decide_eq_true this
  obtain ⟨a0, c0, l0, rfl, r0, b0⟩ := open_ents (hval 0 22 v0 rfl rfl) h0 fun n hn => hall n (by simp only [List.mem_append]; exact Or.inl hn)
  obtain ⟨a1, c1, l1, rfl, r1, b1⟩ := open_ents (hval 1 22 v1 rfl rfl) h1 fun n hn => hall n (by simp only [List.mem_append]; exact Or.inr hn)
  have hc := DiffTrees_l (ca := c0) (cb := c1) r0 r1 b0 b1 (gl_of hsh)
  refine cal_calls hc fun v W' h => ⟨v, rfl, ?_⟩
  obtain ⟨rfl, hm⟩ := h
  exact law_post laid_out hW' rfl (by kernel_rfl) rfl Tryd.underlying4 rfl (hm.below fun _ h => h)

theorem DiffTrees_row : Rows.DiffTreesSaid :=
  OpenClaim.holds_of_wide 3 Tryd.f3 rfl rfl rfl rfl rfl rfl rfl ⟨rfl, rfl, rfl, rfl, rfl⟩ rfl rfl rfl rfl rfl (by kernel_rfl) Tryd.func3 (by kernel_rfl)
    (of_decide_eq_true (by kernel_rfl)) (by unfold Func.isWrapper; first | (rw [if_pos (by decide +kernel)]; kernel_rfl) | (rw [if_neg (by decide +kernel)]; exact ⟨rfl, rfl⟩))
    (fun os started H enc _ => DiffTrees_lifted os started H enc)

theorem DiffTrees_proved : Rows.DiffTreesCardSaid :=
  Claim7.holds_tied_plain_at .later [] [.data, .pinned] true (true, "00d81ddc6f8cbcfb03d4e8a15d6c41fde1c43f78c7324bd454775d665312ec65") false DiffTrees_row (fun _ h => by cases h) (by kernel_rfl) (fun _ h => by cases h) diffTrees_row_tie rfl ⟨rfl, rfl⟩ (by kernel_rfl) rfl
    (fun f fn hf hfn => by
      obtain rfl : f = 3 := Option.some.inj ((show Tryd.prog.funcNamed "levee/leveelaw34.DiffTrees" = some 3 by kernel_rfl).symm.trans hf) |>.symm
      obtain rfl : fn = Tryd.f3 := (Option.some.inj (Tryd.func3.symm.trans hfn)).symm
      exact ⟨by kernel_rfl, fun j t ht => by
        rw [Tryd.params3] at ht
        have hm : t ∈ [22] := by have h := Array.mem_of_getElem? ht; simp at h; simp; omega
        have hall : ([22].all fun u => !Tryd.prog.wantsStandIn u) = true := by kernel_rfl
        exact (show Tryd.prog.wantsStandIn t = false by simpa using List.all_eq_true.1 hall t hm)⟩)
    (by kernel_rfl)
end Go.Proofs.YtiahkkekcmgkfaaDoor
#print axioms Go.Proofs.YtiahkkekcmgkfaaDoor.DiffTrees_proved
