/-
  NARROWER THAN 'FOR EVERY INPUT', by the rows' own cells (each row's printed sentence says how): DiffTrees: laid · DiffSums: laid · DiffFinds: laid · DiffMore: laid · DiffNone: laid.
  DERIVED. THE GIVEN ROWS OF THIS SEAT. 5 by the template 'for every input the law returns true; each argument reads behind the call as it read before'; 0 by the template 'total and deterministic' (their statements: YtiahkkekcmgkfaaDoorTotals.lean).
  GIVEN WITH THE SEED: the statements are not yours to turn. If you find one false, say at which input.
  Laid BY PROGRAM, IN A SANDBOX (cutbox-rows.mjs): the forced cells as the released guide's own fill.sh prints them over the translation 6bd5ee7af330dc50… (all of the seat's roots in one cut). By AI agents, Wed Nov 11 2026. No macro, syntax, notation, axiom, sorry.
-/
import Derived.Test.YtiahkkekcmgkfaaDoorChecked
import GoSem.PinnedTables
import GoSem.Claim
import GoSem.ClaimJoined
import GoSem.ClaimMapViews
import Derived.JoinedTies
import Derived.KernelRfl
namespace Go.Proofs.YtiahkkekcmgkfaaDoor
/- THE CELL 'sum', in the pinned program and in every row, IS THE sha256 OF THE DUMP (.gsa) THAT YtiahkkekcmgkfaaDoorProg.lean LOADS. Nothing in Lean hashes anything: it is a label: what it is worth is what the hold of that sum in a sandbox is worth. -/
noncomputable def Tryd.pinned : Pinned := { name := "ytiahkkekcmgkfaadoor", sum := "6bd5ee7af330dc500658cc718d445e367457c25e9a79eee8572102c37bbf9593", checked := Tryd.checked }
namespace Rows
def none {H : Type} : Left H := { results := [], args := [] }

/- WHAT THE LISTED PACKAGE-LEVEL VARIABLES READ AS WHEN THE CALL BEGINS. Each datum BY PROGRAM (the guide's laid-datum.mjs) off the statement by which the dump's own 'gosem.cut.vars' lays the variable. In a bare row this is a premise. The card (YtiahkkekcmgkfaaDoorCards.lean) ties it to the program's text. -/
def laid_unicode_utf8_acceptRanges {H : Type} : DataW H := .agg [.agg [.lit (.int .u8 128), .lit (.int .u8 191)], .agg [.lit (.int .u8 160), .lit (.int .u8 191)], .agg [.lit (.int .u8 128), .lit (.int .u8 159)], .agg [.lit (.int .u8 144), .lit (.int .u8 191)], .agg [.lit (.int .u8 128), .lit (.int .u8 143)], .agg [.lit (.int .u8 0), .lit (.int .u8 0)], .agg [.lit (.int .u8 0), .lit (.int .u8 0)], .agg [.lit (.int .u8 0), .lit (.int .u8 0)], .agg [.lit (.int .u8 0), .lit (.int .u8 0)], .agg [.lit (.int .u8 0), .lit (.int .u8 0)], .agg [.lit (.int .u8 0), .lit (.int .u8 0)], .agg [.lit (.int .u8 0), .lit (.int .u8 0)], .agg [.lit (.int .u8 0), .lit (.int .u8 0)], .agg [.lit (.int .u8 0), .lit (.int .u8 0)], .agg [.lit (.int .u8 0), .lit (.int .u8 0)], .agg [.lit (.int .u8 0), .lit (.int .u8 0)]]
/-- One of Go's own tables, pinned by name: the form's constant. -/
def laid_unicode_utf8_first : DataW Unit := Go.Pinned.utf8First

/-- 'leveelaw34.DiffTrees': WHATEVER THE INPUT: true; the input reads as it did. -/
def diffTreesSpec : ChangeSpec := { name := "diffTrees", fn := fun _ => fun
  | [d1, d2] => { results := [.lit (.bool true)], args := [d1, d2] }
  | _ => none }
def diffTreesRow : OpenClaim := { program := "ytiahkkekcmgkfaadoor", sum := "6bd5ee7af330dc500658cc718d445e367457c25e9a79eee8572102c37bbf9593", func := "levee/leveelaw34.DiffTrees", spec := "diffTrees", inPlace := ["internal/bytealg.CountString", "internal/bytealg.IndexByteString", "internal/bytealg.IndexString"], unfollowed := true, recurses := true, named := ["unicode/utf8.first", "unicode/utf8.acceptRanges", "internal/bytealg.MaxLen"], apart := false, laid := [("unicode/utf8.acceptRanges", laid_unicode_utf8_acceptRanges), ("unicode/utf8.first", laid_unicode_utf8_first)] }
def DiffTreesSaid : Prop := diffTreesRow.holds Tryd.pinned (OpenSpec.ofChange diffTreesSpec)

/-- ITS FALSE NEIGHBOUR: 'it returns false'. Refute it at one input. -/
def diffTreesWrong : ChangeSpec := { name := "diffTrees", fn := fun _ => fun
  | [d1, d2] => { results := [.lit (.bool false)], args := [d1, d2] }
  | _ => none }
def DiffTreesWrongFalsely : Prop := diffTreesRow.holds Tryd.pinned (OpenSpec.ofChange diffTreesWrong)

/-- 'leveelaw34.DiffSums': WHATEVER THE INPUT: true; the input reads as it did. -/
def diffSumsSpec : ChangeSpec := { name := "diffSums", fn := fun _ => fun
  | [d1, d2] => { results := [.lit (.bool true)], args := [d1, d2] }
  | _ => none }
def diffSumsRow : OpenClaim := { program := "ytiahkkekcmgkfaadoor", sum := "6bd5ee7af330dc500658cc718d445e367457c25e9a79eee8572102c37bbf9593", func := "levee/leveelaw34.DiffSums", spec := "diffSums", inPlace := ["internal/bytealg.CountString", "internal/bytealg.IndexByteString", "internal/bytealg.IndexString"], unfollowed := true, recurses := true, named := ["unicode/utf8.first", "unicode/utf8.acceptRanges", "internal/bytealg.MaxLen"], apart := false, laid := [("unicode/utf8.acceptRanges", laid_unicode_utf8_acceptRanges), ("unicode/utf8.first", laid_unicode_utf8_first)] }
def DiffSumsSaid : Prop := diffSumsRow.holds Tryd.pinned (OpenSpec.ofChange diffSumsSpec)

/-- ITS FALSE NEIGHBOUR: 'it returns false'. Refute it at one input. -/
def diffSumsWrong : ChangeSpec := { name := "diffSums", fn := fun _ => fun
  | [d1, d2] => { results := [.lit (.bool false)], args := [d1, d2] }
  | _ => none }
def DiffSumsWrongFalsely : Prop := diffSumsRow.holds Tryd.pinned (OpenSpec.ofChange diffSumsWrong)

/-- 'leveelaw34.DiffFinds': WHATEVER THE INPUT: true; the input reads as it did. -/
def diffFindsSpec : ChangeSpec := { name := "diffFinds", fn := fun _ => fun
  | [d1, d2] => { results := [.lit (.bool true)], args := [d1, d2] }
  | _ => none }
def diffFindsRow : OpenClaim := { program := "ytiahkkekcmgkfaadoor", sum := "6bd5ee7af330dc500658cc718d445e367457c25e9a79eee8572102c37bbf9593", func := "levee/leveelaw34.DiffFinds", spec := "diffFinds", inPlace := ["internal/bytealg.CountString", "internal/bytealg.IndexByteString", "internal/bytealg.IndexString"], unfollowed := true, recurses := true, named := ["unicode/utf8.first", "unicode/utf8.acceptRanges", "internal/bytealg.MaxLen"], apart := false, laid := [("unicode/utf8.acceptRanges", laid_unicode_utf8_acceptRanges), ("unicode/utf8.first", laid_unicode_utf8_first)] }
def DiffFindsSaid : Prop := diffFindsRow.holds Tryd.pinned (OpenSpec.ofChange diffFindsSpec)

/-- ITS FALSE NEIGHBOUR: 'it returns false'. Refute it at one input. -/
def diffFindsWrong : ChangeSpec := { name := "diffFinds", fn := fun _ => fun
  | [d1, d2] => { results := [.lit (.bool false)], args := [d1, d2] }
  | _ => none }
def DiffFindsWrongFalsely : Prop := diffFindsRow.holds Tryd.pinned (OpenSpec.ofChange diffFindsWrong)

/-- 'leveelaw34.DiffMore': WHATEVER THE INPUT: true; the input reads as it did. -/
def diffMoreSpec : ChangeSpec := { name := "diffMore", fn := fun _ => fun
  | [d1, d2, d3] => { results := [.lit (.bool true)], args := [d1, d2, d3] }
  | _ => none }
def diffMoreRow : OpenClaim := { program := "ytiahkkekcmgkfaadoor", sum := "6bd5ee7af330dc500658cc718d445e367457c25e9a79eee8572102c37bbf9593", func := "levee/leveelaw34.DiffMore", spec := "diffMore", inPlace := ["internal/bytealg.CountString", "internal/bytealg.IndexByteString", "internal/bytealg.IndexString"], unfollowed := true, recurses := true, named := ["unicode/utf8.first", "unicode/utf8.acceptRanges", "internal/bytealg.MaxLen"], apart := false, laid := [("unicode/utf8.acceptRanges", laid_unicode_utf8_acceptRanges), ("unicode/utf8.first", laid_unicode_utf8_first)] }
def DiffMoreSaid : Prop := diffMoreRow.holds Tryd.pinned (OpenSpec.ofChange diffMoreSpec)

/-- ITS FALSE NEIGHBOUR: 'it returns false'. Refute it at one input. -/
def diffMoreWrong : ChangeSpec := { name := "diffMore", fn := fun _ => fun
  | [d1, d2, d3] => { results := [.lit (.bool false)], args := [d1, d2, d3] }
  | _ => none }
def DiffMoreWrongFalsely : Prop := diffMoreRow.holds Tryd.pinned (OpenSpec.ofChange diffMoreWrong)

/-- 'leveelaw34.DiffNone': WHATEVER THE INPUT: true; the input reads as it did. -/
def diffNoneSpec : ChangeSpec := { name := "diffNone", fn := fun _ => fun
  | [d] => { results := [.lit (.bool true)], args := [d] }
  | _ => none }
def diffNoneRow : OpenClaim := { program := "ytiahkkekcmgkfaadoor", sum := "6bd5ee7af330dc500658cc718d445e367457c25e9a79eee8572102c37bbf9593", func := "levee/leveelaw34.DiffNone", spec := "diffNone", inPlace := ["internal/bytealg.CountString", "internal/bytealg.IndexByteString", "internal/bytealg.IndexString"], unfollowed := true, recurses := true, named := ["unicode/utf8.first", "unicode/utf8.acceptRanges", "internal/bytealg.MaxLen"], apart := false, laid := [("unicode/utf8.acceptRanges", laid_unicode_utf8_acceptRanges), ("unicode/utf8.first", laid_unicode_utf8_first)] }
def DiffNoneSaid : Prop := diffNoneRow.holds Tryd.pinned (OpenSpec.ofChange diffNoneSpec)

/-- ITS FALSE NEIGHBOUR: 'it returns false'. Refute it at one input. -/
def diffNoneWrong : ChangeSpec := { name := "diffNone", fn := fun _ => fun
  | [d] => { results := [.lit (.bool false)], args := [d] }
  | _ => none }
def DiffNoneWrongFalsely : Prop := diffNoneRow.holds Tryd.pinned (OpenSpec.ofChange diffNoneWrong)

/- THE SECOND FORM. 'bulk': how many values and letters a reading holds, each counted each time it is reached (what is shared counts as often as it is met; a slice's spare places count too). A statement '..UptoSaid' is the law's where the arguments, and the package variables that the reading takes, are together of bulk at most 1048576: NARROWER than '..Said'. Prove '..Said' where nothing that the law and all that it calls make is longer than what came in: it says more and counts as full. Else prove '..UptoSaid'. A law counts once. -/
mutual
def uptoBulk {H : Type} : DataW H → Nat
  | .lit (.string bytes) => bytes.length + 1
  | .lit _ => 1
  | .nil => 1
  | .ptr d => uptoBulk d + 1
  | .slice elems spare => uptoBulkAll elems + uptoBulkAll spare + 1
  | .agg parts => uptoBulkAll parts + 1
  | .iface _ d => uptoBulk d + 1
  | .map entries => uptoBulkEntries entries + 1
  | .held _ => 1
def uptoBulkAll {H : Type} : List (DataW H) → Nat
  | [] => 0
  | d :: r => uptoBulk d + uptoBulkAll r
def uptoBulkEntries {H : Type} : List (Lit × DataW H) → Nat
  | [] => 0
  | x :: r => uptoBulkEntry x + uptoBulkEntries r
def uptoBulkEntry {H : Type} : Lit × DataW H → Nat
  | (.string bytes, d) => bytes.length + uptoBulk d + 1
  | (_, d) => uptoBulk d + 1
 end
def uptoSmall : (H : Type) → List (DataW H) → Bool := fun _ ds => decide (uptoBulkAll ds ≤ 1048576)
def OpenSpec.upto (s : _root_.Go.ChangeSpec) : _root_.Go.OpenSpec := { _root_.Go.OpenSpec.ofChange s with cond := some uptoSmall }

/-- 'leveelaw34.DiffTrees', WHERE WHAT IT READS IS OF BULK AT MOST 1048576: true; the input reads as it did. -/
def diffTreesUptoRow : OpenClaim := { program := "ytiahkkekcmgkfaadoor", sum := "6bd5ee7af330dc500658cc718d445e367457c25e9a79eee8572102c37bbf9593", func := "levee/leveelaw34.DiffTrees", spec := "diffTrees", inPlace := ["internal/bytealg.CountString", "internal/bytealg.IndexByteString", "internal/bytealg.IndexString"], unfollowed := true, recurses := true, named := ["unicode/utf8.first", "unicode/utf8.acceptRanges", "internal/bytealg.MaxLen"], apart := false, laid := [("unicode/utf8.acceptRanges", laid_unicode_utf8_acceptRanges), ("unicode/utf8.first", laid_unicode_utf8_first)], narrowed := true }
def DiffTreesUptoSaid : Prop := diffTreesUptoRow.holds Tryd.pinned (OpenSpec.upto diffTreesSpec)

/-- 'leveelaw34.DiffSums', WHERE WHAT IT READS IS OF BULK AT MOST 1048576: true; the input reads as it did. -/
def diffSumsUptoRow : OpenClaim := { program := "ytiahkkekcmgkfaadoor", sum := "6bd5ee7af330dc500658cc718d445e367457c25e9a79eee8572102c37bbf9593", func := "levee/leveelaw34.DiffSums", spec := "diffSums", inPlace := ["internal/bytealg.CountString", "internal/bytealg.IndexByteString", "internal/bytealg.IndexString"], unfollowed := true, recurses := true, named := ["unicode/utf8.first", "unicode/utf8.acceptRanges", "internal/bytealg.MaxLen"], apart := false, laid := [("unicode/utf8.acceptRanges", laid_unicode_utf8_acceptRanges), ("unicode/utf8.first", laid_unicode_utf8_first)], narrowed := true }
def DiffSumsUptoSaid : Prop := diffSumsUptoRow.holds Tryd.pinned (OpenSpec.upto diffSumsSpec)

/-- 'leveelaw34.DiffFinds', WHERE WHAT IT READS IS OF BULK AT MOST 1048576: true; the input reads as it did. -/
def diffFindsUptoRow : OpenClaim := { program := "ytiahkkekcmgkfaadoor", sum := "6bd5ee7af330dc500658cc718d445e367457c25e9a79eee8572102c37bbf9593", func := "levee/leveelaw34.DiffFinds", spec := "diffFinds", inPlace := ["internal/bytealg.CountString", "internal/bytealg.IndexByteString", "internal/bytealg.IndexString"], unfollowed := true, recurses := true, named := ["unicode/utf8.first", "unicode/utf8.acceptRanges", "internal/bytealg.MaxLen"], apart := false, laid := [("unicode/utf8.acceptRanges", laid_unicode_utf8_acceptRanges), ("unicode/utf8.first", laid_unicode_utf8_first)], narrowed := true }
def DiffFindsUptoSaid : Prop := diffFindsUptoRow.holds Tryd.pinned (OpenSpec.upto diffFindsSpec)

/-- 'leveelaw34.DiffMore', WHERE WHAT IT READS IS OF BULK AT MOST 1048576: true; the input reads as it did. -/
def diffMoreUptoRow : OpenClaim := { program := "ytiahkkekcmgkfaadoor", sum := "6bd5ee7af330dc500658cc718d445e367457c25e9a79eee8572102c37bbf9593", func := "levee/leveelaw34.DiffMore", spec := "diffMore", inPlace := ["internal/bytealg.CountString", "internal/bytealg.IndexByteString", "internal/bytealg.IndexString"], unfollowed := true, recurses := true, named := ["unicode/utf8.first", "unicode/utf8.acceptRanges", "internal/bytealg.MaxLen"], apart := false, laid := [("unicode/utf8.acceptRanges", laid_unicode_utf8_acceptRanges), ("unicode/utf8.first", laid_unicode_utf8_first)], narrowed := true }
def DiffMoreUptoSaid : Prop := diffMoreUptoRow.holds Tryd.pinned (OpenSpec.upto diffMoreSpec)

/-- 'leveelaw34.DiffNone', WHERE WHAT IT READS IS OF BULK AT MOST 1048576: true; the input reads as it did. -/
def diffNoneUptoRow : OpenClaim := { program := "ytiahkkekcmgkfaadoor", sum := "6bd5ee7af330dc500658cc718d445e367457c25e9a79eee8572102c37bbf9593", func := "levee/leveelaw34.DiffNone", spec := "diffNone", inPlace := ["internal/bytealg.CountString", "internal/bytealg.IndexByteString", "internal/bytealg.IndexString"], unfollowed := true, recurses := true, named := ["unicode/utf8.first", "unicode/utf8.acceptRanges", "internal/bytealg.MaxLen"], apart := false, laid := [("unicode/utf8.acceptRanges", laid_unicode_utf8_acceptRanges), ("unicode/utf8.first", laid_unicode_utf8_first)], narrowed := true }
def DiffNoneUptoSaid : Prop := diffNoneUptoRow.holds Tryd.pinned (OpenSpec.upto diffNoneSpec)

end Rows
end Go.Proofs.YtiahkkekcmgkfaaDoor
