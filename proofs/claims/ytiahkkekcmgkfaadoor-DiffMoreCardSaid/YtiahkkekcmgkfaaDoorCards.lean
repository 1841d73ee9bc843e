/-
  DERIVED. GIVEN WITH THE SEED: THE CARDS: each row of YtiahkkekcmgkfaaDoorRows.lean that lists a variable, with what it lists TIED to the program's text (the seventh form; the later family's looks); each row that meets fmt, with fmt's text TOLD by the authors' own Lean function (tested against real Go, not proved from fmt's source: count such statements apart). THE CARD IS WHAT COUNTS. Prove the row's statement (the work); the ties are given (YtiahkkekcmgkfaaDoorTie.lean); close each card by the builder's one call (the guide's Derived/Test/ToyasCard.lean, 'card_holds'). Laid BY PROGRAM, IN A SANDBOX (cutbox-door.mjs). By AI agents, Wed Nov 11 2026. No macro, syntax, notation, axiom, sorry.
-/
import Derived.Test.YtiahkkekcmgkfaaDoorRows
import GoSem.ClaimSeven
namespace Go.Proofs.YtiahkkekcmgkfaaDoor
namespace Rows

/-- THE TIED CARD OF 'leveelaw34.DiffTrees'. -/
def diffTreesCard : Claim7 := { stood := { row := diffTreesRow, standIns := [], harness := (true, "00d81ddc6f8cbcfb03d4e8a15d6c41fde1c43f78c7324bd454775d665312ec65"), looks := false }, kinds := [], alts := [], laidByText := true, laidKinds := [.data, .pinned], laidTests := true, laidLooks := .later }
def DiffTreesCardSaid : Prop := Claim7.holds Tryd.pinned (.plain (OpenSpec.ofChange diffTreesSpec)) diffTreesCard

/-- THE TIED CARD OF 'leveelaw34.DiffSums'. -/
def diffSumsCard : Claim7 := { stood := { row := diffSumsRow, standIns := [], harness := (true, "00d81ddc6f8cbcfb03d4e8a15d6c41fde1c43f78c7324bd454775d665312ec65"), looks := false }, kinds := [], alts := [], laidByText := true, laidKinds := [.data, .pinned], laidTests := true, laidLooks := .later }
def DiffSumsCardSaid : Prop := Claim7.holds Tryd.pinned (.plain (OpenSpec.ofChange diffSumsSpec)) diffSumsCard

/-- THE TIED CARD OF 'leveelaw34.DiffFinds'. -/
def diffFindsCard : Claim7 := { stood := { row := diffFindsRow, standIns := [], harness := (true, "00d81ddc6f8cbcfb03d4e8a15d6c41fde1c43f78c7324bd454775d665312ec65"), looks := false }, kinds := [], alts := [], laidByText := true, laidKinds := [.data, .pinned], laidTests := true, laidLooks := .later }
def DiffFindsCardSaid : Prop := Claim7.holds Tryd.pinned (.plain (OpenSpec.ofChange diffFindsSpec)) diffFindsCard

/-- THE TIED CARD OF 'leveelaw34.DiffMore'. -/
def diffMoreCard : Claim7 := { stood := { row := diffMoreRow, standIns := [], harness := (true, "00d81ddc6f8cbcfb03d4e8a15d6c41fde1c43f78c7324bd454775d665312ec65"), looks := false }, kinds := [], alts := [], laidByText := true, laidKinds := [.data, .pinned], laidTests := true, laidLooks := .later }
def DiffMoreCardSaid : Prop := Claim7.holds Tryd.pinned (.plain (OpenSpec.ofChange diffMoreSpec)) diffMoreCard

/-- THE TIED CARD OF 'leveelaw34.DiffNone'. -/
def diffNoneCard : Claim7 := { stood := { row := diffNoneRow, standIns := [], harness := (true, "00d81ddc6f8cbcfb03d4e8a15d6c41fde1c43f78c7324bd454775d665312ec65"), looks := false }, kinds := [], alts := [], laidByText := true, laidKinds := [.data, .pinned], laidTests := true, laidLooks := .later }
def DiffNoneCardSaid : Prop := Claim7.holds Tryd.pinned (.plain (OpenSpec.ofChange diffNoneSpec)) diffNoneCard

/-- THE SECOND FORM's CARD OF 'leveelaw34.DiffTrees'. -/
def diffTreesUptoCard : Claim7 := { stood := { row := diffTreesUptoRow, standIns := [], harness := (true, "00d81ddc6f8cbcfb03d4e8a15d6c41fde1c43f78c7324bd454775d665312ec65"), looks := false }, kinds := [], alts := [], laidByText := true, laidKinds := [.data, .pinned], laidTests := true, laidLooks := .later }
def DiffTreesUptoCardSaid : Prop := Claim7.holds Tryd.pinned (.plain (OpenSpec.upto diffTreesSpec)) diffTreesUptoCard

/-- THE SECOND FORM's CARD OF 'leveelaw34.DiffSums'. -/
def diffSumsUptoCard : Claim7 := { stood := { row := diffSumsUptoRow, standIns := [], harness := (true, "00d81ddc6f8cbcfb03d4e8a15d6c41fde1c43f78c7324bd454775d665312ec65"), looks := false }, kinds := [], alts := [], laidByText := true, laidKinds := [.data, .pinned], laidTests := true, laidLooks := .later }
def DiffSumsUptoCardSaid : Prop := Claim7.holds Tryd.pinned (.plain (OpenSpec.upto diffSumsSpec)) diffSumsUptoCard

/-- THE SECOND FORM's CARD OF 'leveelaw34.DiffFinds'. -/
def diffFindsUptoCard : Claim7 := { stood := { row := diffFindsUptoRow, standIns := [], harness := (true, "00d81ddc6f8cbcfb03d4e8a15d6c41fde1c43f78c7324bd454775d665312ec65"), looks := false }, kinds := [], alts := [], laidByText := true, laidKinds := [.data, .pinned], laidTests := true, laidLooks := .later }
def DiffFindsUptoCardSaid : Prop := Claim7.holds Tryd.pinned (.plain (OpenSpec.upto diffFindsSpec)) diffFindsUptoCard

/-- THE SECOND FORM's CARD OF 'leveelaw34.DiffMore'. -/
def diffMoreUptoCard : Claim7 := { stood := { row := diffMoreUptoRow, standIns := [], harness := (true, "00d81ddc6f8cbcfb03d4e8a15d6c41fde1c43f78c7324bd454775d665312ec65"), looks := false }, kinds := [], alts := [], laidByText := true, laidKinds := [.data, .pinned], laidTests := true, laidLooks := .later }
def DiffMoreUptoCardSaid : Prop := Claim7.holds Tryd.pinned (.plain (OpenSpec.upto diffMoreSpec)) diffMoreUptoCard

/-- THE SECOND FORM's CARD OF 'leveelaw34.DiffNone'. -/
def diffNoneUptoCard : Claim7 := { stood := { row := diffNoneUptoRow, standIns := [], harness := (true, "00d81ddc6f8cbcfb03d4e8a15d6c41fde1c43f78c7324bd454775d665312ec65"), looks := false }, kinds := [], alts := [], laidByText := true, laidKinds := [.data, .pinned], laidTests := true, laidLooks := .later }
def DiffNoneUptoCardSaid : Prop := Claim7.holds Tryd.pinned (.plain (OpenSpec.upto diffNoneSpec)) diffNoneUptoCard
end Rows
end Go.Proofs.YtiahkkekcmgkfaaDoor
