/-
  No cell of these rows narrows 'for every input' (looked for: loops, veiled, ifaces, maps, wideKeys, modest, calm, conditions, laid).
  DERIVED. THE GIVEN ROWS OF THIS SEAT. 8 by the template 'for every input the law returns true; each argument reads behind the call as it read before'; 0 by the template 'total and deterministic' (their statements: YtelhlihjihklbaaGreatTotals.lean).
  GIVEN WITH THE SEED: the statements are not yours to turn. If you find one false, say at which input.
  Laid BY PROGRAM, IN A SANDBOX (cutbox-rows.mjs): the forced cells as the released guide's own fill.sh prints them over the translation 54a094d09f32fe6d… (all of the seat's roots in one cut). By AI agents, Wed Nov 11 2026. No macro, syntax, notation, axiom, sorry.
-/
import Derived.Test.YtelhlihjihklbaaGreatChecked
import GoSem.Claim
import GoSem.ClaimJoined
import GoSem.ClaimMapViews
import Derived.JoinedTies
import Derived.KernelRfl
namespace Go.Proofs.YtelhlihjihklbaaGreat
/- THE CELL 'sum', in the pinned program and in every row, IS THE sha256 OF THE DUMP (.gsa) THAT YtelhlihjihklbaaGreatProg.lean LOADS. Nothing in Lean hashes anything: it is a label: what it is worth is what the hold of that sum in a sandbox is worth. -/
noncomputable def Tryz.pinned : Pinned := { name := "ytelhlihjihklbaagreat", sum := "54a094d09f32fe6da997f01f9ba411f836ba70ab78d2e584e86b4932962d2fc0", checked := Tryz.checked }
namespace Rows
def none {H : Type} : Left H := { results := [], args := [] }

/-- 'leveelaw14.AllocNil': WHATEVER THE INPUT: true; the input reads as it did. -/
def allocNilSpec : ChangeSpec := { name := "allocNil", fn := fun _ => fun
  | [d1, d2] => { results := [.lit (.bool true)], args := [d1, d2] }
  | _ => none }
def allocNilRow : OpenClaim := { program := "ytelhlihjihklbaagreat", sum := "54a094d09f32fe6da997f01f9ba411f836ba70ab78d2e584e86b4932962d2fc0", func := "levee/leveelaw14.AllocNil", spec := "allocNil", unfollowed := true, recurses := true, apart := false }
def AllocNilSaid : Prop := allocNilRow.holds Tryz.pinned (OpenSpec.ofChange allocNilSpec)

/-- ITS FALSE NEIGHBOUR: 'it returns false'. Refute it at one input. -/
def allocNilWrong : ChangeSpec := { name := "allocNil", fn := fun _ => fun
  | [d1, d2] => { results := [.lit (.bool false)], args := [d1, d2] }
  | _ => none }
def AllocNilWrongFalsely : Prop := allocNilRow.holds Tryz.pinned (OpenSpec.ofChange allocNilWrong)

/-- 'leveelaw31.PlanBreaks': WHATEVER THE INPUT: true; the input reads as it did. -/
def planBreaksSpec : ChangeSpec := { name := "planBreaks", fn := fun _ => fun
  | [d1, d2, d3] => { results := [.lit (.bool true)], args := [d1, d2, d3] }
  | _ => none }
def planBreaksRow : OpenClaim := { program := "ytelhlihjihklbaagreat", sum := "54a094d09f32fe6da997f01f9ba411f836ba70ab78d2e584e86b4932962d2fc0", func := "levee/leveelaw31.PlanBreaks", spec := "planBreaks", unfollowed := true, recurses := true, apart := false }
def PlanBreaksSaid : Prop := planBreaksRow.holds Tryz.pinned (OpenSpec.ofChange planBreaksSpec)

/-- ITS FALSE NEIGHBOUR: 'it returns false'. Refute it at one input. -/
def planBreaksWrong : ChangeSpec := { name := "planBreaks", fn := fun _ => fun
  | [d1, d2, d3] => { results := [.lit (.bool false)], args := [d1, d2, d3] }
  | _ => none }
def PlanBreaksWrongFalsely : Prop := planBreaksRow.holds Tryz.pinned (OpenSpec.ofChange planBreaksWrong)

/-- 'leveelaw31.PlanRuns': WHATEVER THE INPUT: true; the input reads as it did. -/
def planRunsSpec : ChangeSpec := { name := "planRuns", fn := fun _ => fun
  | [d1, d2, d3, d4] => { results := [.lit (.bool true)], args := [d1, d2, d3, d4] }
  | _ => none }
def planRunsRow : OpenClaim := { program := "ytelhlihjihklbaagreat", sum := "54a094d09f32fe6da997f01f9ba411f836ba70ab78d2e584e86b4932962d2fc0", func := "levee/leveelaw31.PlanRuns", spec := "planRuns", unfollowed := true, recurses := true, apart := false }
def PlanRunsSaid : Prop := planRunsRow.holds Tryz.pinned (OpenSpec.ofChange planRunsSpec)

/-- ITS FALSE NEIGHBOUR: 'it returns false'. Refute it at one input. -/
def planRunsWrong : ChangeSpec := { name := "planRuns", fn := fun _ => fun
  | [d1, d2, d3, d4] => { results := [.lit (.bool false)], args := [d1, d2, d3, d4] }
  | _ => none }
def PlanRunsWrongFalsely : Prop := planRunsRow.holds Tryz.pinned (OpenSpec.ofChange planRunsWrong)

/-- 'leveelaw31.PlanBest': WHATEVER THE INPUT: true; the input reads as it did. -/
def planBestSpec : ChangeSpec := { name := "planBest", fn := fun _ => fun
  | [d1, d2, d3] => { results := [.lit (.bool true)], args := [d1, d2, d3] }
  | _ => none }
def planBestRow : OpenClaim := { program := "ytelhlihjihklbaagreat", sum := "54a094d09f32fe6da997f01f9ba411f836ba70ab78d2e584e86b4932962d2fc0", func := "levee/leveelaw31.PlanBest", spec := "planBest", unfollowed := true, recurses := true, apart := false }
def PlanBestSaid : Prop := planBestRow.holds Tryz.pinned (OpenSpec.ofChange planBestSpec)

/-- ITS FALSE NEIGHBOUR: 'it returns false'. Refute it at one input. -/
def planBestWrong : ChangeSpec := { name := "planBest", fn := fun _ => fun
  | [d1, d2, d3] => { results := [.lit (.bool false)], args := [d1, d2, d3] }
  | _ => none }
def PlanBestWrongFalsely : Prop := planBestRow.holds Tryz.pinned (OpenSpec.ofChange planBestWrong)

/-- 'leveelaw31.PlanNil': WHATEVER THE INPUT: true; the input reads as it did. -/
def planNilSpec : ChangeSpec := { name := "planNil", fn := fun _ => fun
  | [d] => { results := [.lit (.bool true)], args := [d] }
  | _ => none }
def planNilRow : OpenClaim := { program := "ytelhlihjihklbaagreat", sum := "54a094d09f32fe6da997f01f9ba411f836ba70ab78d2e584e86b4932962d2fc0", func := "levee/leveelaw31.PlanNil", spec := "planNil", unfollowed := true, recurses := true, apart := false }
def PlanNilSaid : Prop := planNilRow.holds Tryz.pinned (OpenSpec.ofChange planNilSpec)

/-- ITS FALSE NEIGHBOUR: 'it returns false'. Refute it at one input. -/
def planNilWrong : ChangeSpec := { name := "planNil", fn := fun _ => fun
  | [d] => { results := [.lit (.bool false)], args := [d] }
  | _ => none }
def PlanNilWrongFalsely : Prop := planNilRow.holds Tryz.pinned (OpenSpec.ofChange planNilWrong)

/-- 'leveelaw31.PlanCounts': WHATEVER THE INPUT: true; the input reads as it did. -/
def planCountsSpec : ChangeSpec := { name := "planCounts", fn := fun _ => fun
  | [d1, d2, d3] => { results := [.lit (.bool true)], args := [d1, d2, d3] }
  | _ => none }
def planCountsRow : OpenClaim := { program := "ytelhlihjihklbaagreat", sum := "54a094d09f32fe6da997f01f9ba411f836ba70ab78d2e584e86b4932962d2fc0", func := "levee/leveelaw31.PlanCounts", spec := "planCounts", unfollowed := true, recurses := true, apart := false }
def PlanCountsSaid : Prop := planCountsRow.holds Tryz.pinned (OpenSpec.ofChange planCountsSpec)

/-- ITS FALSE NEIGHBOUR: 'it returns false'. Refute it at one input. -/
def planCountsWrong : ChangeSpec := { name := "planCounts", fn := fun _ => fun
  | [d1, d2, d3] => { results := [.lit (.bool false)], args := [d1, d2, d3] }
  | _ => none }
def PlanCountsWrongFalsely : Prop := planCountsRow.holds Tryz.pinned (OpenSpec.ofChange planCountsWrong)

/-- 'leveelaw14.AllocOnce': WHATEVER THE INPUT: true; the input reads as it did. -/
def allocOnceSpec : ChangeSpec := { name := "allocOnce", fn := fun _ => fun
  | [d1, d2] => { results := [.lit (.bool true)], args := [d1, d2] }
  | _ => none }
def allocOnceRow : OpenClaim := { program := "ytelhlihjihklbaagreat", sum := "54a094d09f32fe6da997f01f9ba411f836ba70ab78d2e584e86b4932962d2fc0", func := "levee/leveelaw14.AllocOnce", spec := "allocOnce", unfollowed := true, recurses := true, apart := false }
def AllocOnceSaid : Prop := allocOnceRow.holds Tryz.pinned (OpenSpec.ofChange allocOnceSpec)

/-- ITS FALSE NEIGHBOUR: 'it returns false'. Refute it at one input. -/
def allocOnceWrong : ChangeSpec := { name := "allocOnce", fn := fun _ => fun
  | [d1, d2] => { results := [.lit (.bool false)], args := [d1, d2] }
  | _ => none }
def AllocOnceWrongFalsely : Prop := allocOnceRow.holds Tryz.pinned (OpenSpec.ofChange allocOnceWrong)

/-- 'leveelaw14.AllocPlays': WHATEVER THE INPUT: true; the input reads as it did. -/
def allocPlaysSpec : ChangeSpec := { name := "allocPlays", fn := fun _ => fun
  | [d1, d2] => { results := [.lit (.bool true)], args := [d1, d2] }
  | _ => none }
def allocPlaysRow : OpenClaim := { program := "ytelhlihjihklbaagreat", sum := "54a094d09f32fe6da997f01f9ba411f836ba70ab78d2e584e86b4932962d2fc0", func := "levee/leveelaw14.AllocPlays", spec := "allocPlays", unfollowed := true, recurses := true, apart := false }
def AllocPlaysSaid : Prop := allocPlaysRow.holds Tryz.pinned (OpenSpec.ofChange allocPlaysSpec)

/-- ITS FALSE NEIGHBOUR: 'it returns false'. Refute it at one input. -/
def allocPlaysWrong : ChangeSpec := { name := "allocPlays", fn := fun _ => fun
  | [d1, d2] => { results := [.lit (.bool false)], args := [d1, d2] }
  | _ => none }
def AllocPlaysWrongFalsely : Prop := allocPlaysRow.holds Tryz.pinned (OpenSpec.ofChange allocPlaysWrong)

/- THE SECOND FORM. 'bulk': how many values and letters a reading holds, each counted each time it is reached (what is shared counts as often as it is met; a slice's spare places count too). A statement '..UptoSaid' is the law's where the arguments, and the package variables that the reading takes, are together of bulk at most 1048576: NARROWER than '..Said'. Prove '..Said' where nothing that the law and all that it calls make is longer than what came in: it says more and counts as full. Else prove '..UptoSaid'. A law counts once. -/
mutual
def uptoBulk {H : Type} : DataW H → Nat
  | .lit (.string bytes) => bytes.length + 1
  | .lit _ => 1
  | .nil => 1
  | .ptr d => uptoBulk d + 1
  | .slice elems spare => uptoBulkAll elems + uptoBulkAll spare + 1
  | .agg parts => uptoBulkAll parts + 1
  | .iface _ d => uptoBulk d + 1
  | .map entries => uptoBulkEntries entries + 1
  | .held _ => 1
def uptoBulkAll {H : Type} : List (DataW H) → Nat
  | [] => 0
  | d :: r => uptoBulk d + uptoBulkAll r
def uptoBulkEntries {H : Type} : List (Lit × DataW H) → Nat
  | [] => 0
  | x :: r => uptoBulkEntry x + uptoBulkEntries r
def uptoBulkEntry {H : Type} : Lit × DataW H → Nat
  | (.string bytes, d) => bytes.length + uptoBulk d + 1
  | (_, d) => uptoBulk d + 1
 end
def uptoSmall : (H : Type) → List (DataW H) → Bool := fun _ ds => decide (uptoBulkAll ds ≤ 1048576)
def OpenSpec.upto (s : _root_.Go.ChangeSpec) : _root_.Go.OpenSpec := { _root_.Go.OpenSpec.ofChange s with cond := some uptoSmall }

/-- 'leveelaw14.AllocNil', WHERE WHAT IT READS IS OF BULK AT MOST 1048576: true; the input reads as it did. -/
def allocNilUptoRow : OpenClaim := { program := "ytelhlihjihklbaagreat", sum := "54a094d09f32fe6da997f01f9ba411f836ba70ab78d2e584e86b4932962d2fc0", func := "levee/leveelaw14.AllocNil", spec := "allocNil", unfollowed := true, recurses := true, apart := false, narrowed := true }
def AllocNilUptoSaid : Prop := allocNilUptoRow.holds Tryz.pinned (OpenSpec.upto allocNilSpec)

/-- 'leveelaw31.PlanBreaks', WHERE WHAT IT READS IS OF BULK AT MOST 1048576: true; the input reads as it did. -/
def planBreaksUptoRow : OpenClaim := { program := "ytelhlihjihklbaagreat", sum := "54a094d09f32fe6da997f01f9ba411f836ba70ab78d2e584e86b4932962d2fc0", func := "levee/leveelaw31.PlanBreaks", spec := "planBreaks", unfollowed := true, recurses := true, apart := false, narrowed := true }
def PlanBreaksUptoSaid : Prop := planBreaksUptoRow.holds Tryz.pinned (OpenSpec.upto planBreaksSpec)

/-- 'leveelaw31.PlanRuns', WHERE WHAT IT READS IS OF BULK AT MOST 1048576: true; the input reads as it did. -/
def planRunsUptoRow : OpenClaim := { program := "ytelhlihjihklbaagreat", sum := "54a094d09f32fe6da997f01f9ba411f836ba70ab78d2e584e86b4932962d2fc0", func := "levee/leveelaw31.PlanRuns", spec := "planRuns", unfollowed := true, recurses := true, apart := false, narrowed := true }
def PlanRunsUptoSaid : Prop := planRunsUptoRow.holds Tryz.pinned (OpenSpec.upto planRunsSpec)

/-- 'leveelaw31.PlanBest', WHERE WHAT IT READS IS OF BULK AT MOST 1048576: true; the input reads as it did. -/
def planBestUptoRow : OpenClaim := { program := "ytelhlihjihklbaagreat", sum := "54a094d09f32fe6da997f01f9ba411f836ba70ab78d2e584e86b4932962d2fc0", func := "levee/leveelaw31.PlanBest", spec := "planBest", unfollowed := true, recurses := true, apart := false, narrowed := true }
def PlanBestUptoSaid : Prop := planBestUptoRow.holds Tryz.pinned (OpenSpec.upto planBestSpec)

/-- 'leveelaw31.PlanNil', WHERE WHAT IT READS IS OF BULK AT MOST 1048576: true; the input reads as it did. -/
def planNilUptoRow : OpenClaim := { program := "ytelhlihjihklbaagreat", sum := "54a094d09f32fe6da997f01f9ba411f836ba70ab78d2e584e86b4932962d2fc0", func := "levee/leveelaw31.PlanNil", spec := "planNil", unfollowed := true, recurses := true, apart := false, narrowed := true }
def PlanNilUptoSaid : Prop := planNilUptoRow.holds Tryz.pinned (OpenSpec.upto planNilSpec)

/-- 'leveelaw31.PlanCounts', WHERE WHAT IT READS IS OF BULK AT MOST 1048576: true; the input reads as it did. -/
def planCountsUptoRow : OpenClaim := { program := "ytelhlihjihklbaagreat", sum := "54a094d09f32fe6da997f01f9ba411f836ba70ab78d2e584e86b4932962d2fc0", func := "levee/leveelaw31.PlanCounts", spec := "planCounts", unfollowed := true, recurses := true, apart := false, narrowed := true }
def PlanCountsUptoSaid : Prop := planCountsUptoRow.holds Tryz.pinned (OpenSpec.upto planCountsSpec)

/-- 'leveelaw14.AllocOnce', WHERE WHAT IT READS IS OF BULK AT MOST 1048576: true; the input reads as it did. -/
def allocOnceUptoRow : OpenClaim := { program := "ytelhlihjihklbaagreat", sum := "54a094d09f32fe6da997f01f9ba411f836ba70ab78d2e584e86b4932962d2fc0", func := "levee/leveelaw14.AllocOnce", spec := "allocOnce", unfollowed := true, recurses := true, apart := false, narrowed := true }
def AllocOnceUptoSaid : Prop := allocOnceUptoRow.holds Tryz.pinned (OpenSpec.upto allocOnceSpec)

/-- 'leveelaw14.AllocPlays', WHERE WHAT IT READS IS OF BULK AT MOST 1048576: true; the input reads as it did. -/
def allocPlaysUptoRow : OpenClaim := { program := "ytelhlihjihklbaagreat", sum := "54a094d09f32fe6da997f01f9ba411f836ba70ab78d2e584e86b4932962d2fc0", func := "levee/leveelaw14.AllocPlays", spec := "allocPlays", unfollowed := true, recurses := true, apart := false, narrowed := true }
def AllocPlaysUptoSaid : Prop := allocPlaysUptoRow.holds Tryz.pinned (OpenSpec.upto allocPlaysSpec)

end Rows
end Go.Proofs.YtelhlihjihklbaaGreat
