/-
  No cell of these rows narrows 'for every input' (looked for: loops, veiled, ifaces, maps, wideKeys, modest, calm, conditions, laid).
  DERIVED. THE GIVEN ROWS OF THIS SEAT. 7 by the template 'for every input the law returns true; each argument reads behind the call as it read before'; 0 by the template 'total and deterministic' (their statements: YtocjjigmpgekfaaGreatTotals.lean).
  GIVEN WITH THE SEED: the statements are not yours to turn. If you find one false, say at which input.
  Laid BY PROGRAM, IN A SANDBOX (cutbox-rows.mjs): the forced cells as the released guide's own fill.sh prints them over the translation 3f55dc63dfd8198a… (all of the seat's roots in one cut). By AI agents, Wed Nov 11 2026. No macro, syntax, notation, axiom, sorry.
-/
import Derived.Test.YtocjjigmpgekfaaGreatChecked
import GoSem.Claim
import GoSem.ClaimJoined
import GoSem.ClaimMapViews
import Derived.JoinedTies
import Derived.KernelRfl
namespace Go.Proofs.YtocjjigmpgekfaaGreat
/- THE CELL 'sum', in the pinned program and in every row, IS THE sha256 OF THE DUMP (.gsa) THAT YtocjjigmpgekfaaGreatProg.lean LOADS. Nothing in Lean hashes anything: it is a label: what it is worth is what the hold of that sum in a sandbox is worth. -/
noncomputable def Tryz.pinned : Pinned := { name := "ytocjjigmpgekfaagreat", sum := "3f55dc63dfd8198a880d5cb9ccebb1907dce47c6bb283aacfe0cd463a0de61e9", checked := Tryz.checked }
namespace Rows
def none {H : Type} : Left H := { results := [], args := [] }

/-- 'leveelaw11.PatchPlays': WHATEVER THE INPUT: true; the input reads as it did. -/
def patchPlaysSpec : ChangeSpec := { name := "patchPlays", fn := fun _ => fun
  | [d] => { results := [.lit (.bool true)], args := [d] }
  | _ => none }
def patchPlaysRow : OpenClaim := { program := "ytocjjigmpgekfaagreat", sum := "3f55dc63dfd8198a880d5cb9ccebb1907dce47c6bb283aacfe0cd463a0de61e9", func := "levee/leveelaw11.PatchPlays", spec := "patchPlays", unfollowed := true, recurses := true, apart := false }
def PatchPlaysSaid : Prop := patchPlaysRow.holds Tryz.pinned (OpenSpec.ofChange patchPlaysSpec)

/-- ITS FALSE NEIGHBOUR: 'it returns false'. Refute it at one input. -/
def patchPlaysWrong : ChangeSpec := { name := "patchPlays", fn := fun _ => fun
  | [d] => { results := [.lit (.bool false)], args := [d] }
  | _ => none }
def PatchPlaysWrongFalsely : Prop := patchPlaysRow.holds Tryz.pinned (OpenSpec.ofChange patchPlaysWrong)

/-- 'leveelaw12.PushWork': WHATEVER THE INPUT: true; the input reads as it did. -/
def pushWorkSpec : ChangeSpec := { name := "pushWork", fn := fun _ => fun
  | [d1, d2] => { results := [.lit (.bool true)], args := [d1, d2] }
  | _ => none }
def pushWorkRow : OpenClaim := { program := "ytocjjigmpgekfaagreat", sum := "3f55dc63dfd8198a880d5cb9ccebb1907dce47c6bb283aacfe0cd463a0de61e9", func := "levee/leveelaw12.PushWork", spec := "pushWork", unfollowed := true, recurses := true, apart := false }
def PushWorkSaid : Prop := pushWorkRow.holds Tryz.pinned (OpenSpec.ofChange pushWorkSpec)

/-- ITS FALSE NEIGHBOUR: 'it returns false'. Refute it at one input. -/
def pushWorkWrong : ChangeSpec := { name := "pushWork", fn := fun _ => fun
  | [d1, d2] => { results := [.lit (.bool false)], args := [d1, d2] }
  | _ => none }
def PushWorkWrongFalsely : Prop := pushWorkRow.holds Tryz.pinned (OpenSpec.ofChange pushWorkWrong)

/-- 'leveelaw12.PushNil': WHATEVER THE INPUT: true; the input reads as it did. -/
def pushNilSpec : ChangeSpec := { name := "pushNil", fn := fun _ => fun
  | [d1, d2] => { results := [.lit (.bool true)], args := [d1, d2] }
  | _ => none }
def pushNilRow : OpenClaim := { program := "ytocjjigmpgekfaagreat", sum := "3f55dc63dfd8198a880d5cb9ccebb1907dce47c6bb283aacfe0cd463a0de61e9", func := "levee/leveelaw12.PushNil", spec := "pushNil", unfollowed := true, recurses := true, apart := false }
def PushNilSaid : Prop := pushNilRow.holds Tryz.pinned (OpenSpec.ofChange pushNilSpec)

/-- ITS FALSE NEIGHBOUR: 'it returns false'. Refute it at one input. -/
def pushNilWrong : ChangeSpec := { name := "pushNil", fn := fun _ => fun
  | [d1, d2] => { results := [.lit (.bool false)], args := [d1, d2] }
  | _ => none }
def PushNilWrongFalsely : Prop := pushNilRow.holds Tryz.pinned (OpenSpec.ofChange pushNilWrong)

/-- 'leveelaw12.PushSafe': WHATEVER THE INPUT: true; the input reads as it did. -/
def pushSafeSpec : ChangeSpec := { name := "pushSafe", fn := fun _ => fun
  | [d1, d2] => { results := [.lit (.bool true)], args := [d1, d2] }
  | _ => none }
def pushSafeRow : OpenClaim := { program := "ytocjjigmpgekfaagreat", sum := "3f55dc63dfd8198a880d5cb9ccebb1907dce47c6bb283aacfe0cd463a0de61e9", func := "levee/leveelaw12.PushSafe", spec := "pushSafe", unfollowed := true, recurses := true, apart := false }
def PushSafeSaid : Prop := pushSafeRow.holds Tryz.pinned (OpenSpec.ofChange pushSafeSpec)

/-- ITS FALSE NEIGHBOUR: 'it returns false'. Refute it at one input. -/
def pushSafeWrong : ChangeSpec := { name := "pushSafe", fn := fun _ => fun
  | [d1, d2] => { results := [.lit (.bool false)], args := [d1, d2] }
  | _ => none }
def PushSafeWrongFalsely : Prop := pushSafeRow.holds Tryz.pinned (OpenSpec.ofChange pushSafeWrong)

/-- 'leveelaw12.PushOnes': WHATEVER THE INPUT: true; the input reads as it did. -/
def pushOnesSpec : ChangeSpec := { name := "pushOnes", fn := fun _ => fun
  | [d1, d2, d3, d4] => { results := [.lit (.bool true)], args := [d1, d2, d3, d4] }
  | _ => none }
def pushOnesRow : OpenClaim := { program := "ytocjjigmpgekfaagreat", sum := "3f55dc63dfd8198a880d5cb9ccebb1907dce47c6bb283aacfe0cd463a0de61e9", func := "levee/leveelaw12.PushOnes", spec := "pushOnes", unfollowed := true, recurses := true, apart := false }
def PushOnesSaid : Prop := pushOnesRow.holds Tryz.pinned (OpenSpec.ofChange pushOnesSpec)

/-- ITS FALSE NEIGHBOUR: 'it returns false'. Refute it at one input. -/
def pushOnesWrong : ChangeSpec := { name := "pushOnes", fn := fun _ => fun
  | [d1, d2, d3, d4] => { results := [.lit (.bool false)], args := [d1, d2, d3, d4] }
  | _ => none }
def PushOnesWrongFalsely : Prop := pushOnesRow.holds Tryz.pinned (OpenSpec.ofChange pushOnesWrong)

/-- 'leveelaw13.VolFormats': WHATEVER THE INPUT: true; the input reads as it did. -/
def volFormatsSpec : ChangeSpec := { name := "volFormats", fn := fun _ => fun
  | [d1, d2, d3, d4] => { results := [.lit (.bool true)], args := [d1, d2, d3, d4] }
  | _ => none }
def volFormatsRow : OpenClaim := { program := "ytocjjigmpgekfaagreat", sum := "3f55dc63dfd8198a880d5cb9ccebb1907dce47c6bb283aacfe0cd463a0de61e9", func := "levee/leveelaw13.VolFormats", spec := "volFormats", unfollowed := true, recurses := true, apart := false }
def VolFormatsSaid : Prop := volFormatsRow.holds Tryz.pinned (OpenSpec.ofChange volFormatsSpec)

/-- ITS FALSE NEIGHBOUR: 'it returns false'. Refute it at one input. -/
def volFormatsWrong : ChangeSpec := { name := "volFormats", fn := fun _ => fun
  | [d1, d2, d3, d4] => { results := [.lit (.bool false)], args := [d1, d2, d3, d4] }
  | _ => none }
def VolFormatsWrongFalsely : Prop := volFormatsRow.holds Tryz.pinned (OpenSpec.ofChange volFormatsWrong)

/-- 'leveelaw13.VolNil': WHATEVER THE INPUT: true; the input reads as it did. -/
def volNilSpec : ChangeSpec := { name := "volNil", fn := fun _ => fun
  | [d1, d2] => { results := [.lit (.bool true)], args := [d1, d2] }
  | _ => none }
def volNilRow : OpenClaim := { program := "ytocjjigmpgekfaagreat", sum := "3f55dc63dfd8198a880d5cb9ccebb1907dce47c6bb283aacfe0cd463a0de61e9", func := "levee/leveelaw13.VolNil", spec := "volNil", unfollowed := true, recurses := true, apart := false }
def VolNilSaid : Prop := volNilRow.holds Tryz.pinned (OpenSpec.ofChange volNilSpec)

/-- ITS FALSE NEIGHBOUR: 'it returns false'. Refute it at one input. -/
def volNilWrong : ChangeSpec := { name := "volNil", fn := fun _ => fun
  | [d1, d2] => { results := [.lit (.bool false)], args := [d1, d2] }
  | _ => none }
def VolNilWrongFalsely : Prop := volNilRow.holds Tryz.pinned (OpenSpec.ofChange volNilWrong)

/- THE SECOND FORM. 'bulk': how many values and letters a reading holds, each counted each time it is reached (what is shared counts as often as it is met; a slice's spare places count too). A statement '..UptoSaid' is the law's where the arguments, and the package variables that the reading takes, are together of bulk at most 1048576: NARROWER than '..Said'. Prove '..Said' where nothing that the law and all that it calls make is longer than what came in: it says more and counts as full. Else prove '..UptoSaid'. A law counts once. -/
mutual
def uptoBulk {H : Type} : DataW H → Nat
  | .lit (.string bytes) => bytes.length + 1
  | .lit _ => 1
  | .nil => 1
  | .ptr d => uptoBulk d + 1
  | .slice elems spare => uptoBulkAll elems + uptoBulkAll spare + 1
  | .agg parts => uptoBulkAll parts + 1
  | .iface _ d => uptoBulk d + 1
  | .map entries => uptoBulkEntries entries + 1
  | .held _ => 1
def uptoBulkAll {H : Type} : List (DataW H) → Nat
  | [] => 0
  | d :: r => uptoBulk d + uptoBulkAll r
def uptoBulkEntries {H : Type} : List (Lit × DataW H) → Nat
  | [] => 0
  | x :: r => uptoBulkEntry x + uptoBulkEntries r
def uptoBulkEntry {H : Type} : Lit × DataW H → Nat
  | (.string bytes, d) => bytes.length + uptoBulk d + 1
  | (_, d) => uptoBulk d + 1
 end
def uptoSmall : (H : Type) → List (DataW H) → Bool := fun _ ds => decide (uptoBulkAll ds ≤ 1048576)
def OpenSpec.upto (s : _root_.Go.ChangeSpec) : _root_.Go.OpenSpec := { _root_.Go.OpenSpec.ofChange s with cond := some uptoSmall }

/-- 'leveelaw11.PatchPlays', WHERE WHAT IT READS IS OF BULK AT MOST 1048576: true; the input reads as it did. -/
def patchPlaysUptoRow : OpenClaim := { program := "ytocjjigmpgekfaagreat", sum := "3f55dc63dfd8198a880d5cb9ccebb1907dce47c6bb283aacfe0cd463a0de61e9", func := "levee/leveelaw11.PatchPlays", spec := "patchPlays", unfollowed := true, recurses := true, apart := false, narrowed := true }
def PatchPlaysUptoSaid : Prop := patchPlaysUptoRow.holds Tryz.pinned (OpenSpec.upto patchPlaysSpec)

/-- 'leveelaw12.PushWork', WHERE WHAT IT READS IS OF BULK AT MOST 1048576: true; the input reads as it did. -/
def pushWorkUptoRow : OpenClaim := { program := "ytocjjigmpgekfaagreat", sum := "3f55dc63dfd8198a880d5cb9ccebb1907dce47c6bb283aacfe0cd463a0de61e9", func := "levee/leveelaw12.PushWork", spec := "pushWork", unfollowed := true, recurses := true, apart := false, narrowed := true }
def PushWorkUptoSaid : Prop := pushWorkUptoRow.holds Tryz.pinned (OpenSpec.upto pushWorkSpec)

/-- 'leveelaw12.PushNil', WHERE WHAT IT READS IS OF BULK AT MOST 1048576: true; the input reads as it did. -/
def pushNilUptoRow : OpenClaim := { program := "ytocjjigmpgekfaagreat", sum := "3f55dc63dfd8198a880d5cb9ccebb1907dce47c6bb283aacfe0cd463a0de61e9", func := "levee/leveelaw12.PushNil", spec := "pushNil", unfollowed := true, recurses := true, apart := false, narrowed := true }
def PushNilUptoSaid : Prop := pushNilUptoRow.holds Tryz.pinned (OpenSpec.upto pushNilSpec)

/-- 'leveelaw12.PushSafe', WHERE WHAT IT READS IS OF BULK AT MOST 1048576: true; the input reads as it did. -/
def pushSafeUptoRow : OpenClaim := { program := "ytocjjigmpgekfaagreat", sum := "3f55dc63dfd8198a880d5cb9ccebb1907dce47c6bb283aacfe0cd463a0de61e9", func := "levee/leveelaw12.PushSafe", spec := "pushSafe", unfollowed := true, recurses := true, apart := false, narrowed := true }
def PushSafeUptoSaid : Prop := pushSafeUptoRow.holds Tryz.pinned (OpenSpec.upto pushSafeSpec)

/-- 'leveelaw12.PushOnes', WHERE WHAT IT READS IS OF BULK AT MOST 1048576: true; the input reads as it did. -/
def pushOnesUptoRow : OpenClaim := { program := "ytocjjigmpgekfaagreat", sum := "3f55dc63dfd8198a880d5cb9ccebb1907dce47c6bb283aacfe0cd463a0de61e9", func := "levee/leveelaw12.PushOnes", spec := "pushOnes", unfollowed := true, recurses := true, apart := false, narrowed := true }
def PushOnesUptoSaid : Prop := pushOnesUptoRow.holds Tryz.pinned (OpenSpec.upto pushOnesSpec)

/-- 'leveelaw13.VolFormats', WHERE WHAT IT READS IS OF BULK AT MOST 1048576: true; the input reads as it did. -/
def volFormatsUptoRow : OpenClaim := { program := "ytocjjigmpgekfaagreat", sum := "3f55dc63dfd8198a880d5cb9ccebb1907dce47c6bb283aacfe0cd463a0de61e9", func := "levee/leveelaw13.VolFormats", spec := "volFormats", unfollowed := true, recurses := true, apart := false, narrowed := true }
def VolFormatsUptoSaid : Prop := volFormatsUptoRow.holds Tryz.pinned (OpenSpec.upto volFormatsSpec)

/-- 'leveelaw13.VolNil', WHERE WHAT IT READS IS OF BULK AT MOST 1048576: true; the input reads as it did. -/
def volNilUptoRow : OpenClaim := { program := "ytocjjigmpgekfaagreat", sum := "3f55dc63dfd8198a880d5cb9ccebb1907dce47c6bb283aacfe0cd463a0de61e9", func := "levee/leveelaw13.VolNil", spec := "volNil", unfollowed := true, recurses := true, apart := false, narrowed := true }
def VolNilUptoSaid : Prop := volNilUptoRow.holds Tryz.pinned (OpenSpec.upto volNilSpec)

end Rows
end Go.Proofs.YtocjjigmpgekfaaGreat
