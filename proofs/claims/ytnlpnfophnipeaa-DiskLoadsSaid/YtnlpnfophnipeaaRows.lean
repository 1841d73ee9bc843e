/-
  No cell of these rows narrows 'for every input' (looked for: loops, veiled, ifaces, maps, wideKeys, modest, calm, conditions, laid).
  DERIVED. THE GIVEN ROWS OF THIS SEAT. 14 by the template 'for every input the law returns true; each argument reads behind the call as it read before'; 0 by the template 'total and deterministic' (their statements: YtnlpnfophnipeaaTotals.lean).
  GIVEN WITH THE SEED: the statements are not yours to turn. If you find one false, say at which input.
  Laid BY PROGRAM, IN A SANDBOX (cutbox-rows.mjs): the forced cells as the released guide's own fill.sh prints them over the translation c6c313e0b9b43f1d… (all of the seat's roots in one cut). By AI agents, Wed Nov 11 2026. No macro, syntax, notation, axiom, sorry.
-/
import Derived.Test.YtnlpnfophnipeaaChecked
import GoSem.Claim
import GoSem.ClaimJoined
import GoSem.ClaimMapViews
import Derived.JoinedTies
import Derived.KernelRfl
namespace Go.Proofs.Ytnlpnfophnipeaa
/- THE CELL 'sum', in the pinned program and in every row, IS THE sha256 OF THE DUMP (.gsa) THAT YtnlpnfophnipeaaProg.lean LOADS. Nothing in Lean hashes anything: it is a label: what it is worth is what the hold of that sum in a sandbox is worth. -/
noncomputable def Try.pinned : Pinned := { name := "ytnlpnfophnipeaa", sum := "c6c313e0b9b43f1d80b43a618c21e7a6e3d693060465401200c1ebdd5d27256c", checked := Try.checked }
namespace Rows
def none {H : Type} : Left H := { results := [], args := [] }

/-- 'leveelaw09.PtrWays': WHATEVER THE INPUT: true; the input reads as it did. -/
def ptrWaysSpec : ChangeSpec := { name := "ptrWays", fn := fun _ => fun
  | [d1, d2, d3, d4] => { results := [.lit (.bool true)], args := [d1, d2, d3, d4] }
  | _ => none }
def ptrWaysRow : OpenClaim := { program := "ytnlpnfophnipeaa", sum := "c6c313e0b9b43f1d80b43a618c21e7a6e3d693060465401200c1ebdd5d27256c", func := "levee/leveelaw09.PtrWays", spec := "ptrWays", apart := false }
def PtrWaysSaid : Prop := ptrWaysRow.holds Try.pinned (OpenSpec.ofChange ptrWaysSpec)

/-- ITS FALSE NEIGHBOUR: 'it returns false'. Refute it at one input. -/
def ptrWaysWrong : ChangeSpec := { name := "ptrWays", fn := fun _ => fun
  | [d1, d2, d3, d4] => { results := [.lit (.bool false)], args := [d1, d2, d3, d4] }
  | _ => none }
def PtrWaysWrongFalsely : Prop := ptrWaysRow.holds Try.pinned (OpenSpec.ofChange ptrWaysWrong)

/-- 'leveelaw09.PtrNames': WHATEVER THE INPUT: true; the input reads as it did. -/
def ptrNamesSpec : ChangeSpec := { name := "ptrNames", fn := fun _ => fun
  | [d1, d2, d3] => { results := [.lit (.bool true)], args := [d1, d2, d3] }
  | _ => none }
def ptrNamesRow : OpenClaim := { program := "ytnlpnfophnipeaa", sum := "c6c313e0b9b43f1d80b43a618c21e7a6e3d693060465401200c1ebdd5d27256c", func := "levee/leveelaw09.PtrNames", spec := "ptrNames", apart := false }
def PtrNamesSaid : Prop := ptrNamesRow.holds Try.pinned (OpenSpec.ofChange ptrNamesSpec)

/-- ITS FALSE NEIGHBOUR: 'it returns false'. Refute it at one input. -/
def ptrNamesWrong : ChangeSpec := { name := "ptrNames", fn := fun _ => fun
  | [d1, d2, d3] => { results := [.lit (.bool false)], args := [d1, d2, d3] }
  | _ => none }
def PtrNamesWrongFalsely : Prop := ptrNamesRow.holds Try.pinned (OpenSpec.ofChange ptrNamesWrong)

/-- 'leveelaw09.PtrBack': WHATEVER THE INPUT: true; the input reads as it did. -/
def ptrBackSpec : ChangeSpec := { name := "ptrBack", fn := fun _ => fun
  | [d1, d2] => { results := [.lit (.bool true)], args := [d1, d2] }
  | _ => none }
def ptrBackRow : OpenClaim := { program := "ytnlpnfophnipeaa", sum := "c6c313e0b9b43f1d80b43a618c21e7a6e3d693060465401200c1ebdd5d27256c", func := "levee/leveelaw09.PtrBack", spec := "ptrBack", apart := false }
def PtrBackSaid : Prop := ptrBackRow.holds Try.pinned (OpenSpec.ofChange ptrBackSpec)

/-- ITS FALSE NEIGHBOUR: 'it returns false'. Refute it at one input. -/
def ptrBackWrong : ChangeSpec := { name := "ptrBack", fn := fun _ => fun
  | [d1, d2] => { results := [.lit (.bool false)], args := [d1, d2] }
  | _ => none }
def PtrBackWrongFalsely : Prop := ptrBackRow.holds Try.pinned (OpenSpec.ofChange ptrBackWrong)

/-- 'leveelaw02.DiskSafe': WHATEVER THE INPUT: true; the input reads as it did. -/
def diskSafeSpec : ChangeSpec := { name := "diskSafe", fn := fun _ => fun
  | [d1, d2, d3] => { results := [.lit (.bool true)], args := [d1, d2, d3] }
  | _ => none }
def diskSafeRow : OpenClaim := { program := "ytnlpnfophnipeaa", sum := "c6c313e0b9b43f1d80b43a618c21e7a6e3d693060465401200c1ebdd5d27256c", func := "levee/leveelaw02.DiskSafe", spec := "diskSafe", recurses := true, apart := false }
def DiskSafeSaid : Prop := diskSafeRow.holds Try.pinned (OpenSpec.ofChange diskSafeSpec)

/-- ITS FALSE NEIGHBOUR: 'it returns false'. Refute it at one input. -/
def diskSafeWrong : ChangeSpec := { name := "diskSafe", fn := fun _ => fun
  | [d1, d2, d3] => { results := [.lit (.bool false)], args := [d1, d2, d3] }
  | _ => none }
def DiskSafeWrongFalsely : Prop := diskSafeRow.holds Try.pinned (OpenSpec.ofChange diskSafeWrong)

/-- 'leveelaw02.DiskLoads': WHATEVER THE INPUT: true; the input reads as it did. -/
def diskLoadsSpec : ChangeSpec := { name := "diskLoads", fn := fun _ => fun
  | [d1, d2] => { results := [.lit (.bool true)], args := [d1, d2] }
  | _ => none }
def diskLoadsRow : OpenClaim := { program := "ytnlpnfophnipeaa", sum := "c6c313e0b9b43f1d80b43a618c21e7a6e3d693060465401200c1ebdd5d27256c", func := "levee/leveelaw02.DiskLoads", spec := "diskLoads", recurses := true, apart := false }
def DiskLoadsSaid : Prop := diskLoadsRow.holds Try.pinned (OpenSpec.ofChange diskLoadsSpec)

/-- ITS FALSE NEIGHBOUR: 'it returns false'. Refute it at one input. -/
def diskLoadsWrong : ChangeSpec := { name := "diskLoads", fn := fun _ => fun
  | [d1, d2] => { results := [.lit (.bool false)], args := [d1, d2] }
  | _ => none }
def DiskLoadsWrongFalsely : Prop := diskLoadsRow.holds Try.pinned (OpenSpec.ofChange diskLoadsWrong)

/-- 'leveelaw02.DiskPlays': WHATEVER THE INPUT: true; the input reads as it did. -/
def diskPlaysSpec : ChangeSpec := { name := "diskPlays", fn := fun _ => fun
  | [d1, d2] => { results := [.lit (.bool true)], args := [d1, d2] }
  | _ => none }
def diskPlaysRow : OpenClaim := { program := "ytnlpnfophnipeaa", sum := "c6c313e0b9b43f1d80b43a618c21e7a6e3d693060465401200c1ebdd5d27256c", func := "levee/leveelaw02.DiskPlays", spec := "diskPlays", recurses := true, apart := false }
def DiskPlaysSaid : Prop := diskPlaysRow.holds Try.pinned (OpenSpec.ofChange diskPlaysSpec)

/-- ITS FALSE NEIGHBOUR: 'it returns false'. Refute it at one input. -/
def diskPlaysWrong : ChangeSpec := { name := "diskPlays", fn := fun _ => fun
  | [d1, d2] => { results := [.lit (.bool false)], args := [d1, d2] }
  | _ => none }
def DiskPlaysWrongFalsely : Prop := diskPlaysRow.holds Try.pinned (OpenSpec.ofChange diskPlaysWrong)

/-- 'leveelaw02.DiskNil': WHATEVER THE INPUT: true; the input reads as it did. -/
def diskNilSpec : ChangeSpec := { name := "diskNil", fn := fun _ => fun
  | [d1, d2] => { results := [.lit (.bool true)], args := [d1, d2] }
  | _ => none }
def diskNilRow : OpenClaim := { program := "ytnlpnfophnipeaa", sum := "c6c313e0b9b43f1d80b43a618c21e7a6e3d693060465401200c1ebdd5d27256c", func := "levee/leveelaw02.DiskNil", spec := "diskNil", recurses := true, apart := false }
def DiskNilSaid : Prop := diskNilRow.holds Try.pinned (OpenSpec.ofChange diskNilSpec)

/-- ITS FALSE NEIGHBOUR: 'it returns false'. Refute it at one input. -/
def diskNilWrong : ChangeSpec := { name := "diskNil", fn := fun _ => fun
  | [d1, d2] => { results := [.lit (.bool false)], args := [d1, d2] }
  | _ => none }
def DiskNilWrongFalsely : Prop := diskNilRow.holds Try.pinned (OpenSpec.ofChange diskNilWrong)

/-- 'leveelaw10.CacheStays': WHATEVER THE INPUT: true; the input reads as it did. -/
def cacheStaysSpec : ChangeSpec := { name := "cacheStays", fn := fun _ => fun
  | [d1, d2] => { results := [.lit (.bool true)], args := [d1, d2] }
  | _ => none }
def cacheStaysRow : OpenClaim := { program := "ytnlpnfophnipeaa", sum := "c6c313e0b9b43f1d80b43a618c21e7a6e3d693060465401200c1ebdd5d27256c", func := "levee/leveelaw10.CacheStays", spec := "cacheStays", unfollowed := true, recurses := true, apart := false }
def CacheStaysSaid : Prop := cacheStaysRow.holds Try.pinned (OpenSpec.ofChange cacheStaysSpec)

/-- ITS FALSE NEIGHBOUR: 'it returns false'. Refute it at one input. -/
def cacheStaysWrong : ChangeSpec := { name := "cacheStays", fn := fun _ => fun
  | [d1, d2] => { results := [.lit (.bool false)], args := [d1, d2] }
  | _ => none }
def CacheStaysWrongFalsely : Prop := cacheStaysRow.holds Try.pinned (OpenSpec.ofChange cacheStaysWrong)

/-- 'leveelaw10.CacheReads': WHATEVER THE INPUT: true; the input reads as it did. -/
def cacheReadsSpec : ChangeSpec := { name := "cacheReads", fn := fun _ => fun
  | [d1, d2] => { results := [.lit (.bool true)], args := [d1, d2] }
  | _ => none }
def cacheReadsRow : OpenClaim := { program := "ytnlpnfophnipeaa", sum := "c6c313e0b9b43f1d80b43a618c21e7a6e3d693060465401200c1ebdd5d27256c", func := "levee/leveelaw10.CacheReads", spec := "cacheReads", unfollowed := true, recurses := true, apart := false }
def CacheReadsSaid : Prop := cacheReadsRow.holds Try.pinned (OpenSpec.ofChange cacheReadsSpec)

/-- ITS FALSE NEIGHBOUR: 'it returns false'. Refute it at one input. -/
def cacheReadsWrong : ChangeSpec := { name := "cacheReads", fn := fun _ => fun
  | [d1, d2] => { results := [.lit (.bool false)], args := [d1, d2] }
  | _ => none }
def CacheReadsWrongFalsely : Prop := cacheReadsRow.holds Try.pinned (OpenSpec.ofChange cacheReadsWrong)

/-- 'leveelaw10.CacheNil': WHATEVER THE INPUT: true; the input reads as it did. -/
def cacheNilSpec : ChangeSpec := { name := "cacheNil", fn := fun _ => fun
  | [d1, d2] => { results := [.lit (.bool true)], args := [d1, d2] }
  | _ => none }
def cacheNilRow : OpenClaim := { program := "ytnlpnfophnipeaa", sum := "c6c313e0b9b43f1d80b43a618c21e7a6e3d693060465401200c1ebdd5d27256c", func := "levee/leveelaw10.CacheNil", spec := "cacheNil", unfollowed := true, recurses := true, apart := false }
def CacheNilSaid : Prop := cacheNilRow.holds Try.pinned (OpenSpec.ofChange cacheNilSpec)

/-- ITS FALSE NEIGHBOUR: 'it returns false'. Refute it at one input. -/
def cacheNilWrong : ChangeSpec := { name := "cacheNil", fn := fun _ => fun
  | [d1, d2] => { results := [.lit (.bool false)], args := [d1, d2] }
  | _ => none }
def CacheNilWrongFalsely : Prop := cacheNilRow.holds Try.pinned (OpenSpec.ofChange cacheNilWrong)

/-- 'leveelaw10.CachePlays': WHATEVER THE INPUT: true; the input reads as it did. -/
def cachePlaysSpec : ChangeSpec := { name := "cachePlays", fn := fun _ => fun
  | [d1, d2, d3] => { results := [.lit (.bool true)], args := [d1, d2, d3] }
  | _ => none }
def cachePlaysRow : OpenClaim := { program := "ytnlpnfophnipeaa", sum := "c6c313e0b9b43f1d80b43a618c21e7a6e3d693060465401200c1ebdd5d27256c", func := "levee/leveelaw10.CachePlays", spec := "cachePlays", unfollowed := true, recurses := true, apart := false }
def CachePlaysSaid : Prop := cachePlaysRow.holds Try.pinned (OpenSpec.ofChange cachePlaysSpec)

/-- ITS FALSE NEIGHBOUR: 'it returns false'. Refute it at one input. -/
def cachePlaysWrong : ChangeSpec := { name := "cachePlays", fn := fun _ => fun
  | [d1, d2, d3] => { results := [.lit (.bool false)], args := [d1, d2, d3] }
  | _ => none }
def CachePlaysWrongFalsely : Prop := cachePlaysRow.holds Try.pinned (OpenSpec.ofChange cachePlaysWrong)

/-- 'leveelaw11.PatchOrder': WHATEVER THE INPUT: true; the input reads as it did. -/
def patchOrderSpec : ChangeSpec := { name := "patchOrder", fn := fun _ => fun
  | [d1, d2] => { results := [.lit (.bool true)], args := [d1, d2] }
  | _ => none }
def patchOrderRow : OpenClaim := { program := "ytnlpnfophnipeaa", sum := "c6c313e0b9b43f1d80b43a618c21e7a6e3d693060465401200c1ebdd5d27256c", func := "levee/leveelaw11.PatchOrder", spec := "patchOrder", unfollowed := true, recurses := true, apart := false }
def PatchOrderSaid : Prop := patchOrderRow.holds Try.pinned (OpenSpec.ofChange patchOrderSpec)

/-- ITS FALSE NEIGHBOUR: 'it returns false'. Refute it at one input. -/
def patchOrderWrong : ChangeSpec := { name := "patchOrder", fn := fun _ => fun
  | [d1, d2] => { results := [.lit (.bool false)], args := [d1, d2] }
  | _ => none }
def PatchOrderWrongFalsely : Prop := patchOrderRow.holds Try.pinned (OpenSpec.ofChange patchOrderWrong)

/-- 'leveelaw11.PatchGoes': WHATEVER THE INPUT: true; the input reads as it did. -/
def patchGoesSpec : ChangeSpec := { name := "patchGoes", fn := fun _ => fun
  | [d] => { results := [.lit (.bool true)], args := [d] }
  | _ => none }
def patchGoesRow : OpenClaim := { program := "ytnlpnfophnipeaa", sum := "c6c313e0b9b43f1d80b43a618c21e7a6e3d693060465401200c1ebdd5d27256c", func := "levee/leveelaw11.PatchGoes", spec := "patchGoes", unfollowed := true, recurses := true, apart := false }
def PatchGoesSaid : Prop := patchGoesRow.holds Try.pinned (OpenSpec.ofChange patchGoesSpec)

/-- ITS FALSE NEIGHBOUR: 'it returns false'. Refute it at one input. -/
def patchGoesWrong : ChangeSpec := { name := "patchGoes", fn := fun _ => fun
  | [d] => { results := [.lit (.bool false)], args := [d] }
  | _ => none }
def PatchGoesWrongFalsely : Prop := patchGoesRow.holds Try.pinned (OpenSpec.ofChange patchGoesWrong)

/-- 'leveelaw11.PatchNil': WHATEVER THE INPUT: true; the input reads as it did. -/
def patchNilSpec : ChangeSpec := { name := "patchNil", fn := fun _ => fun
  | [d1, d2] => { results := [.lit (.bool true)], args := [d1, d2] }
  | _ => none }
def patchNilRow : OpenClaim := { program := "ytnlpnfophnipeaa", sum := "c6c313e0b9b43f1d80b43a618c21e7a6e3d693060465401200c1ebdd5d27256c", func := "levee/leveelaw11.PatchNil", spec := "patchNil", unfollowed := true, recurses := true, apart := false }
def PatchNilSaid : Prop := patchNilRow.holds Try.pinned (OpenSpec.ofChange patchNilSpec)

/-- ITS FALSE NEIGHBOUR: 'it returns false'. Refute it at one input. -/
def patchNilWrong : ChangeSpec := { name := "patchNil", fn := fun _ => fun
  | [d1, d2] => { results := [.lit (.bool false)], args := [d1, d2] }
  | _ => none }
def PatchNilWrongFalsely : Prop := patchNilRow.holds Try.pinned (OpenSpec.ofChange patchNilWrong)

/- THE SECOND FORM. 'bulk': how many values and letters a reading holds, each counted each time it is reached (what is shared counts as often as it is met; a slice's spare places count too). A statement '..UptoSaid' is the law's where the arguments, and the package variables that the reading takes, are together of bulk at most 1048576: NARROWER than '..Said'. Prove '..Said' where nothing that the law and all that it calls make is longer than what came in: it says more and counts as full. Else prove '..UptoSaid'. A law counts once. -/
mutual
def uptoBulk {H : Type} : DataW H → Nat
  | .lit (.string bytes) => bytes.length + 1
  | .lit _ => 1
  | .nil => 1
  | .ptr d => uptoBulk d + 1
  | .slice elems spare => uptoBulkAll elems + uptoBulkAll spare + 1
  | .agg parts => uptoBulkAll parts + 1
  | .iface _ d => uptoBulk d + 1
  | .map entries => uptoBulkEntries entries + 1
  | .held _ => 1
def uptoBulkAll {H : Type} : List (DataW H) → Nat
  | [] => 0
  | d :: r => uptoBulk d + uptoBulkAll r
def uptoBulkEntries {H : Type} : List (Lit × DataW H) → Nat
  | [] => 0
  | x :: r => uptoBulkEntry x + uptoBulkEntries r
def uptoBulkEntry {H : Type} : Lit × DataW H → Nat
  | (.string bytes, d) => bytes.length + uptoBulk d + 1
  | (_, d) => uptoBulk d + 1
 end
def uptoSmall : (H : Type) → List (DataW H) → Bool := fun _ ds => decide (uptoBulkAll ds ≤ 1048576)
def OpenSpec.upto (s : _root_.Go.ChangeSpec) : _root_.Go.OpenSpec := { _root_.Go.OpenSpec.ofChange s with cond := some uptoSmall }

/-- 'leveelaw09.PtrWays', WHERE WHAT IT READS IS OF BULK AT MOST 1048576: true; the input reads as it did. -/
def ptrWaysUptoRow : OpenClaim := { program := "ytnlpnfophnipeaa", sum := "c6c313e0b9b43f1d80b43a618c21e7a6e3d693060465401200c1ebdd5d27256c", func := "levee/leveelaw09.PtrWays", spec := "ptrWays", apart := false, narrowed := true }
def PtrWaysUptoSaid : Prop := ptrWaysUptoRow.holds Try.pinned (OpenSpec.upto ptrWaysSpec)

/-- 'leveelaw09.PtrNames', WHERE WHAT IT READS IS OF BULK AT MOST 1048576: true; the input reads as it did. -/
def ptrNamesUptoRow : OpenClaim := { program := "ytnlpnfophnipeaa", sum := "c6c313e0b9b43f1d80b43a618c21e7a6e3d693060465401200c1ebdd5d27256c", func := "levee/leveelaw09.PtrNames", spec := "ptrNames", apart := false, narrowed := true }
def PtrNamesUptoSaid : Prop := ptrNamesUptoRow.holds Try.pinned (OpenSpec.upto ptrNamesSpec)

/-- 'leveelaw09.PtrBack', WHERE WHAT IT READS IS OF BULK AT MOST 1048576: true; the input reads as it did. -/
def ptrBackUptoRow : OpenClaim := { program := "ytnlpnfophnipeaa", sum := "c6c313e0b9b43f1d80b43a618c21e7a6e3d693060465401200c1ebdd5d27256c", func := "levee/leveelaw09.PtrBack", spec := "ptrBack", apart := false, narrowed := true }
def PtrBackUptoSaid : Prop := ptrBackUptoRow.holds Try.pinned (OpenSpec.upto ptrBackSpec)

/-- 'leveelaw02.DiskSafe', WHERE WHAT IT READS IS OF BULK AT MOST 1048576: true; the input reads as it did. -/
def diskSafeUptoRow : OpenClaim := { program := "ytnlpnfophnipeaa", sum := "c6c313e0b9b43f1d80b43a618c21e7a6e3d693060465401200c1ebdd5d27256c", func := "levee/leveelaw02.DiskSafe", spec := "diskSafe", recurses := true, apart := false, narrowed := true }
def DiskSafeUptoSaid : Prop := diskSafeUptoRow.holds Try.pinned (OpenSpec.upto diskSafeSpec)

/-- 'leveelaw02.DiskLoads', WHERE WHAT IT READS IS OF BULK AT MOST 1048576: true; the input reads as it did. -/
def diskLoadsUptoRow : OpenClaim := { program := "ytnlpnfophnipeaa", sum := "c6c313e0b9b43f1d80b43a618c21e7a6e3d693060465401200c1ebdd5d27256c", func := "levee/leveelaw02.DiskLoads", spec := "diskLoads", recurses := true, apart := false, narrowed := true }
def DiskLoadsUptoSaid : Prop := diskLoadsUptoRow.holds Try.pinned (OpenSpec.upto diskLoadsSpec)

/-- 'leveelaw02.DiskPlays', WHERE WHAT IT READS IS OF BULK AT MOST 1048576: true; the input reads as it did. -/
def diskPlaysUptoRow : OpenClaim := { program := "ytnlpnfophnipeaa", sum := "c6c313e0b9b43f1d80b43a618c21e7a6e3d693060465401200c1ebdd5d27256c", func := "levee/leveelaw02.DiskPlays", spec := "diskPlays", recurses := true, apart := false, narrowed := true }
def DiskPlaysUptoSaid : Prop := diskPlaysUptoRow.holds Try.pinned (OpenSpec.upto diskPlaysSpec)

/-- 'leveelaw02.DiskNil', WHERE WHAT IT READS IS OF BULK AT MOST 1048576: true; the input reads as it did. -/
def diskNilUptoRow : OpenClaim := { program := "ytnlpnfophnipeaa", sum := "c6c313e0b9b43f1d80b43a618c21e7a6e3d693060465401200c1ebdd5d27256c", func := "levee/leveelaw02.DiskNil", spec := "diskNil", recurses := true, apart := false, narrowed := true }
def DiskNilUptoSaid : Prop := diskNilUptoRow.holds Try.pinned (OpenSpec.upto diskNilSpec)

/-- 'leveelaw10.CacheStays', WHERE WHAT IT READS IS OF BULK AT MOST 1048576: true; the input reads as it did. -/
def cacheStaysUptoRow : OpenClaim := { program := "ytnlpnfophnipeaa", sum := "c6c313e0b9b43f1d80b43a618c21e7a6e3d693060465401200c1ebdd5d27256c", func := "levee/leveelaw10.CacheStays", spec := "cacheStays", unfollowed := true, recurses := true, apart := false, narrowed := true }
def CacheStaysUptoSaid : Prop := cacheStaysUptoRow.holds Try.pinned (OpenSpec.upto cacheStaysSpec)

/-- 'leveelaw10.CacheReads', WHERE WHAT IT READS IS OF BULK AT MOST 1048576: true; the input reads as it did. -/
def cacheReadsUptoRow : OpenClaim := { program := "ytnlpnfophnipeaa", sum := "c6c313e0b9b43f1d80b43a618c21e7a6e3d693060465401200c1ebdd5d27256c", func := "levee/leveelaw10.CacheReads", spec := "cacheReads", unfollowed := true, recurses := true, apart := false, narrowed := true }
def CacheReadsUptoSaid : Prop := cacheReadsUptoRow.holds Try.pinned (OpenSpec.upto cacheReadsSpec)

/-- 'leveelaw10.CacheNil', WHERE WHAT IT READS IS OF BULK AT MOST 1048576: true; the input reads as it did. -/
def cacheNilUptoRow : OpenClaim := { program := "ytnlpnfophnipeaa", sum := "c6c313e0b9b43f1d80b43a618c21e7a6e3d693060465401200c1ebdd5d27256c", func := "levee/leveelaw10.CacheNil", spec := "cacheNil", unfollowed := true, recurses := true, apart := false, narrowed := true }
def CacheNilUptoSaid : Prop := cacheNilUptoRow.holds Try.pinned (OpenSpec.upto cacheNilSpec)

/-- 'leveelaw10.CachePlays', WHERE WHAT IT READS IS OF BULK AT MOST 1048576: true; the input reads as it did. -/
def cachePlaysUptoRow : OpenClaim := { program := "ytnlpnfophnipeaa", sum := "c6c313e0b9b43f1d80b43a618c21e7a6e3d693060465401200c1ebdd5d27256c", func := "levee/leveelaw10.CachePlays", spec := "cachePlays", unfollowed := true, recurses := true, apart := false, narrowed := true }
def CachePlaysUptoSaid : Prop := cachePlaysUptoRow.holds Try.pinned (OpenSpec.upto cachePlaysSpec)

/-- 'leveelaw11.PatchOrder', WHERE WHAT IT READS IS OF BULK AT MOST 1048576: true; the input reads as it did. -/
def patchOrderUptoRow : OpenClaim := { program := "ytnlpnfophnipeaa", sum := "c6c313e0b9b43f1d80b43a618c21e7a6e3d693060465401200c1ebdd5d27256c", func := "levee/leveelaw11.PatchOrder", spec := "patchOrder", unfollowed := true, recurses := true, apart := false, narrowed := true }
def PatchOrderUptoSaid : Prop := patchOrderUptoRow.holds Try.pinned (OpenSpec.upto patchOrderSpec)

/-- 'leveelaw11.PatchGoes', WHERE WHAT IT READS IS OF BULK AT MOST 1048576: true; the input reads as it did. -/
def patchGoesUptoRow : OpenClaim := { program := "ytnlpnfophnipeaa", sum := "c6c313e0b9b43f1d80b43a618c21e7a6e3d693060465401200c1ebdd5d27256c", func := "levee/leveelaw11.PatchGoes", spec := "patchGoes", unfollowed := true, recurses := true, apart := false, narrowed := true }
def PatchGoesUptoSaid : Prop := patchGoesUptoRow.holds Try.pinned (OpenSpec.upto patchGoesSpec)

/-- 'leveelaw11.PatchNil', WHERE WHAT IT READS IS OF BULK AT MOST 1048576: true; the input reads as it did. -/
def patchNilUptoRow : OpenClaim := { program := "ytnlpnfophnipeaa", sum := "c6c313e0b9b43f1d80b43a618c21e7a6e3d693060465401200c1ebdd5d27256c", func := "levee/leveelaw11.PatchNil", spec := "patchNil", unfollowed := true, recurses := true, apart := false, narrowed := true }
def PatchNilUptoSaid : Prop := patchNilUptoRow.holds Try.pinned (OpenSpec.upto patchNilSpec)

end Rows
end Go.Proofs.Ytnlpnfophnipeaa
