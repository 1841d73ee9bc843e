/-
  No cell of these rows narrows 'for every input' (looked for: loops, veiled, ifaces, maps, wideKeys, modest, calm, conditions, laid).
  DERIVED. THE GIVEN ROWS OF THIS SEAT. 7 by the template 'for every input the law returns true; each argument reads behind the call as it read before'; 0 by the template 'total and deterministic' (their statements: YtgcecmfjpljpcaaTotals.lean).
  GIVEN WITH THE SEED: the statements are not yours to turn. If you find one false, say at which input.
  Laid BY PROGRAM, IN A SANDBOX (cutbox-rows.mjs): the forced cells as the released guide's own fill.sh prints them over the translation dd0810aeac343013… (all of the seat's roots in one cut). By AI agents, Wed Nov 11 2026. No macro, syntax, notation, axiom, sorry.
-/
import Derived.Test.YtgcecmfjpljpcaaChecked
import GoSem.Claim
import GoSem.ClaimJoined
import GoSem.ClaimMapViews
import Derived.JoinedTies
import Derived.KernelRfl
namespace Go.Proofs.Ytgcecmfjpljpcaa
/- THE CELL 'sum', in the pinned program and in every row, IS THE sha256 OF THE DUMP (.gsa) THAT YtgcecmfjpljpcaaProg.lean LOADS. Nothing in Lean hashes anything: it is a label: what it is worth is what the hold of that sum in a sandbox is worth. -/
noncomputable def Try.pinned : Pinned := { name := "ytgcecmfjpljpcaa", sum := "dd0810aeac34301317a16176ed364761bf389865ea467d4552ae9acf86cba5d9", checked := Try.checked }
namespace Rows
def none {H : Type} : Left H := { results := [], args := [] }

/-- 'leveelaw10.CacheStays': WHATEVER THE INPUT: true; the input reads as it did. -/
def cacheStaysSpec : ChangeSpec := { name := "cacheStays", fn := fun _ => fun
  | [d1, d2] => { results := [.lit (.bool true)], args := [d1, d2] }
  | _ => none }
def cacheStaysRow : OpenClaim := { program := "ytgcecmfjpljpcaa", sum := "dd0810aeac34301317a16176ed364761bf389865ea467d4552ae9acf86cba5d9", func := "levee/leveelaw10.CacheStays", spec := "cacheStays", unfollowed := true, recurses := true, apart := false }
def CacheStaysSaid : Prop := cacheStaysRow.holds Try.pinned (OpenSpec.ofChange cacheStaysSpec)

/-- ITS FALSE NEIGHBOUR: 'it returns false'. Refute it at one input. -/
def cacheStaysWrong : ChangeSpec := { name := "cacheStays", fn := fun _ => fun
  | [d1, d2] => { results := [.lit (.bool false)], args := [d1, d2] }
  | _ => none }
def CacheStaysWrongFalsely : Prop := cacheStaysRow.holds Try.pinned (OpenSpec.ofChange cacheStaysWrong)

/-- 'leveelaw10.CacheReads': WHATEVER THE INPUT: true; the input reads as it did. -/
def cacheReadsSpec : ChangeSpec := { name := "cacheReads", fn := fun _ => fun
  | [d1, d2] => { results := [.lit (.bool true)], args := [d1, d2] }
  | _ => none }
def cacheReadsRow : OpenClaim := { program := "ytgcecmfjpljpcaa", sum := "dd0810aeac34301317a16176ed364761bf389865ea467d4552ae9acf86cba5d9", func := "levee/leveelaw10.CacheReads", spec := "cacheReads", unfollowed := true, recurses := true, apart := false }
def CacheReadsSaid : Prop := cacheReadsRow.holds Try.pinned (OpenSpec.ofChange cacheReadsSpec)

/-- ITS FALSE NEIGHBOUR: 'it returns false'. Refute it at one input. -/
def cacheReadsWrong : ChangeSpec := { name := "cacheReads", fn := fun _ => fun
  | [d1, d2] => { results := [.lit (.bool false)], args := [d1, d2] }
  | _ => none }
def CacheReadsWrongFalsely : Prop := cacheReadsRow.holds Try.pinned (OpenSpec.ofChange cacheReadsWrong)

/-- 'leveelaw10.CacheNil': WHATEVER THE INPUT: true; the input reads as it did. -/
def cacheNilSpec : ChangeSpec := { name := "cacheNil", fn := fun _ => fun
  | [d1, d2] => { results := [.lit (.bool true)], args := [d1, d2] }
  | _ => none }
def cacheNilRow : OpenClaim := { program := "ytgcecmfjpljpcaa", sum := "dd0810aeac34301317a16176ed364761bf389865ea467d4552ae9acf86cba5d9", func := "levee/leveelaw10.CacheNil", spec := "cacheNil", unfollowed := true, recurses := true, apart := false }
def CacheNilSaid : Prop := cacheNilRow.holds Try.pinned (OpenSpec.ofChange cacheNilSpec)

/-- ITS FALSE NEIGHBOUR: 'it returns false'. Refute it at one input. -/
def cacheNilWrong : ChangeSpec := { name := "cacheNil", fn := fun _ => fun
  | [d1, d2] => { results := [.lit (.bool false)], args := [d1, d2] }
  | _ => none }
def CacheNilWrongFalsely : Prop := cacheNilRow.holds Try.pinned (OpenSpec.ofChange cacheNilWrong)

/-- 'leveelaw10.CachePlays': WHATEVER THE INPUT: true; the input reads as it did. -/
def cachePlaysSpec : ChangeSpec := { name := "cachePlays", fn := fun _ => fun
  | [d1, d2, d3] => { results := [.lit (.bool true)], args := [d1, d2, d3] }
  | _ => none }
def cachePlaysRow : OpenClaim := { program := "ytgcecmfjpljpcaa", sum := "dd0810aeac34301317a16176ed364761bf389865ea467d4552ae9acf86cba5d9", func := "levee/leveelaw10.CachePlays", spec := "cachePlays", unfollowed := true, recurses := true, apart := false }
def CachePlaysSaid : Prop := cachePlaysRow.holds Try.pinned (OpenSpec.ofChange cachePlaysSpec)

/-- ITS FALSE NEIGHBOUR: 'it returns false'. Refute it at one input. -/
def cachePlaysWrong : ChangeSpec := { name := "cachePlays", fn := fun _ => fun
  | [d1, d2, d3] => { results := [.lit (.bool false)], args := [d1, d2, d3] }
  | _ => none }
def CachePlaysWrongFalsely : Prop := cachePlaysRow.holds Try.pinned (OpenSpec.ofChange cachePlaysWrong)

/-- 'leveelaw11.PatchOrder': WHATEVER THE INPUT: true; the input reads as it did. -/
def patchOrderSpec : ChangeSpec := { name := "patchOrder", fn := fun _ => fun
  | [d1, d2] => { results := [.lit (.bool true)], args := [d1, d2] }
  | _ => none }
def patchOrderRow : OpenClaim := { program := "ytgcecmfjpljpcaa", sum := "dd0810aeac34301317a16176ed364761bf389865ea467d4552ae9acf86cba5d9", func := "levee/leveelaw11.PatchOrder", spec := "patchOrder", unfollowed := true, recurses := true, apart := false }
def PatchOrderSaid : Prop := patchOrderRow.holds Try.pinned (OpenSpec.ofChange patchOrderSpec)

/-- ITS FALSE NEIGHBOUR: 'it returns false'. Refute it at one input. -/
def patchOrderWrong : ChangeSpec := { name := "patchOrder", fn := fun _ => fun
  | [d1, d2] => { results := [.lit (.bool false)], args := [d1, d2] }
  | _ => none }
def PatchOrderWrongFalsely : Prop := patchOrderRow.holds Try.pinned (OpenSpec.ofChange patchOrderWrong)

/-- 'leveelaw11.PatchGoes': WHATEVER THE INPUT: true; the input reads as it did. -/
def patchGoesSpec : ChangeSpec := { name := "patchGoes", fn := fun _ => fun
  | [d] => { results := [.lit (.bool true)], args := [d] }
  | _ => none }
def patchGoesRow : OpenClaim := { program := "ytgcecmfjpljpcaa", sum := "dd0810aeac34301317a16176ed364761bf389865ea467d4552ae9acf86cba5d9", func := "levee/leveelaw11.PatchGoes", spec := "patchGoes", unfollowed := true, recurses := true, apart := false }
def PatchGoesSaid : Prop := patchGoesRow.holds Try.pinned (OpenSpec.ofChange patchGoesSpec)

/-- ITS FALSE NEIGHBOUR: 'it returns false'. Refute it at one input. -/
def patchGoesWrong : ChangeSpec := { name := "patchGoes", fn := fun _ => fun
  | [d] => { results := [.lit (.bool false)], args := [d] }
  | _ => none }
def PatchGoesWrongFalsely : Prop := patchGoesRow.holds Try.pinned (OpenSpec.ofChange patchGoesWrong)

/-- 'leveelaw11.PatchNil': WHATEVER THE INPUT: true; the input reads as it did. -/
def patchNilSpec : ChangeSpec := { name := "patchNil", fn := fun _ => fun
  | [d1, d2] => { results := [.lit (.bool true)], args := [d1, d2] }
  | _ => none }
def patchNilRow : OpenClaim := { program := "ytgcecmfjpljpcaa", sum := "dd0810aeac34301317a16176ed364761bf389865ea467d4552ae9acf86cba5d9", func := "levee/leveelaw11.PatchNil", spec := "patchNil", unfollowed := true, recurses := true, apart := false }
def PatchNilSaid : Prop := patchNilRow.holds Try.pinned (OpenSpec.ofChange patchNilSpec)

/-- ITS FALSE NEIGHBOUR: 'it returns false'. Refute it at one input. -/
def patchNilWrong : ChangeSpec := { name := "patchNil", fn := fun _ => fun
  | [d1, d2] => { results := [.lit (.bool false)], args := [d1, d2] }
  | _ => none }
def PatchNilWrongFalsely : Prop := patchNilRow.holds Try.pinned (OpenSpec.ofChange patchNilWrong)

/- THE SECOND FORM. 'bulk': how many values and letters a reading holds, each counted each time it is reached (what is shared counts as often as it is met; a slice's spare places count too). A statement '..UptoSaid' is the law's where the arguments, and the package variables that the reading takes, are together of bulk at most 1048576: NARROWER than '..Said'. Prove '..Said' where nothing that the law and all that it calls make is longer than what came in: it says more and counts as full. Else prove '..UptoSaid'. A law counts once. -/
mutual
def uptoBulk {H : Type} : DataW H → Nat
  | .lit (.string bytes) => bytes.length + 1
  | .lit _ => 1
  | .nil => 1
  | .ptr d => uptoBulk d + 1
  | .slice elems spare => uptoBulkAll elems + uptoBulkAll spare + 1
  | .agg parts => uptoBulkAll parts + 1
  | .iface _ d => uptoBulk d + 1
  | .map entries => uptoBulkEntries entries + 1
  | .held _ => 1
def uptoBulkAll {H : Type} : List (DataW H) → Nat
  | [] => 0
  | d :: r => uptoBulk d + uptoBulkAll r
def uptoBulkEntries {H : Type} : List (Lit × DataW H) → Nat
  | [] => 0
  | x :: r => uptoBulkEntry x + uptoBulkEntries r
def uptoBulkEntry {H : Type} : Lit × DataW H → Nat
  | (.string bytes, d) => bytes.length + uptoBulk d + 1
  | (_, d) => uptoBulk d + 1
 end
def uptoSmall : (H : Type) → List (DataW H) → Bool := fun _ ds => decide (uptoBulkAll ds ≤ 1048576)
def OpenSpec.upto (s : _root_.Go.ChangeSpec) : _root_.Go.OpenSpec := { _root_.Go.OpenSpec.ofChange s with cond := some uptoSmall }

/-- 'leveelaw10.CacheStays', WHERE WHAT IT READS IS OF BULK AT MOST 1048576: true; the input reads as it did. -/
def cacheStaysUptoRow : OpenClaim := { program := "ytgcecmfjpljpcaa", sum := "dd0810aeac34301317a16176ed364761bf389865ea467d4552ae9acf86cba5d9", func := "levee/leveelaw10.CacheStays", spec := "cacheStays", unfollowed := true, recurses := true, apart := false, narrowed := true }
def CacheStaysUptoSaid : Prop := cacheStaysUptoRow.holds Try.pinned (OpenSpec.upto cacheStaysSpec)

/-- 'leveelaw10.CacheReads', WHERE WHAT IT READS IS OF BULK AT MOST 1048576: true; the input reads as it did. -/
def cacheReadsUptoRow : OpenClaim := { program := "ytgcecmfjpljpcaa", sum := "dd0810aeac34301317a16176ed364761bf389865ea467d4552ae9acf86cba5d9", func := "levee/leveelaw10.CacheReads", spec := "cacheReads", unfollowed := true, recurses := true, apart := false, narrowed := true }
def CacheReadsUptoSaid : Prop := cacheReadsUptoRow.holds Try.pinned (OpenSpec.upto cacheReadsSpec)

/-- 'leveelaw10.CacheNil', WHERE WHAT IT READS IS OF BULK AT MOST 1048576: true; the input reads as it did. -/
def cacheNilUptoRow : OpenClaim := { program := "ytgcecmfjpljpcaa", sum := "dd0810aeac34301317a16176ed364761bf389865ea467d4552ae9acf86cba5d9", func := "levee/leveelaw10.CacheNil", spec := "cacheNil", unfollowed := true, recurses := true, apart := false, narrowed := true }
def CacheNilUptoSaid : Prop := cacheNilUptoRow.holds Try.pinned (OpenSpec.upto cacheNilSpec)

/-- 'leveelaw10.CachePlays', WHERE WHAT IT READS IS OF BULK AT MOST 1048576: true; the input reads as it did. -/
def cachePlaysUptoRow : OpenClaim := { program := "ytgcecmfjpljpcaa", sum := "dd0810aeac34301317a16176ed364761bf389865ea467d4552ae9acf86cba5d9", func := "levee/leveelaw10.CachePlays", spec := "cachePlays", unfollowed := true, recurses := true, apart := false, narrowed := true }
def CachePlaysUptoSaid : Prop := cachePlaysUptoRow.holds Try.pinned (OpenSpec.upto cachePlaysSpec)

/-- 'leveelaw11.PatchOrder', WHERE WHAT IT READS IS OF BULK AT MOST 1048576: true; the input reads as it did. -/
def patchOrderUptoRow : OpenClaim := { program := "ytgcecmfjpljpcaa", sum := "dd0810aeac34301317a16176ed364761bf389865ea467d4552ae9acf86cba5d9", func := "levee/leveelaw11.PatchOrder", spec := "patchOrder", unfollowed := true, recurses := true, apart := false, narrowed := true }
def PatchOrderUptoSaid : Prop := patchOrderUptoRow.holds Try.pinned (OpenSpec.upto patchOrderSpec)

/-- 'leveelaw11.PatchGoes', WHERE WHAT IT READS IS OF BULK AT MOST 1048576: true; the input reads as it did. -/
def patchGoesUptoRow : OpenClaim := { program := "ytgcecmfjpljpcaa", sum := "dd0810aeac34301317a16176ed364761bf389865ea467d4552ae9acf86cba5d9", func := "levee/leveelaw11.PatchGoes", spec := "patchGoes", unfollowed := true, recurses := true, apart := false, narrowed := true }
def PatchGoesUptoSaid : Prop := patchGoesUptoRow.holds Try.pinned (OpenSpec.upto patchGoesSpec)

/-- 'leveelaw11.PatchNil', WHERE WHAT IT READS IS OF BULK AT MOST 1048576: true; the input reads as it did. -/
def patchNilUptoRow : OpenClaim := { program := "ytgcecmfjpljpcaa", sum := "dd0810aeac34301317a16176ed364761bf389865ea467d4552ae9acf86cba5d9", func := "levee/leveelaw11.PatchNil", spec := "patchNil", unfollowed := true, recurses := true, apart := false, narrowed := true }
def PatchNilUptoSaid : Prop := patchNilUptoRow.holds Try.pinned (OpenSpec.upto patchNilSpec)

end Rows
end Go.Proofs.Ytgcecmfjpljpcaa
