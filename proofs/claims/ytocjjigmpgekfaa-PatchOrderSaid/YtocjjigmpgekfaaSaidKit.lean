/- Small laws for the last step of a statement. -/
import Derived.Test.YtocjjigmpgekfaaRows
import Derived.Test.YtocjjigmpgekfaaIds
import Derived.Test.YtocjjigmpgekfaaLawEnd
open Go Go.Den
namespace Go.Proofs.Ytocjjigmpgekfaa
open Go.ChangeShapes Go.WideShapes Go.ChangeAt Go.RowKit

theorem i64_bounds {n : Int} (h : (Lit.int .i64 n).wf = true) : -9223372036854775808 ≤ n ∧ n ≤ 9223372036854775807 := by
  simpa [Lit.wf, IntKind.min, IntKind.max, IntKind.signed, IntKind.bits] using h
theorem own_none : ownKnob Try.prog.godebug = none := by kernel_rfl
theorem laid_out : laidOutB Try.prog = true := by kernel_rfl

theorem cal_calls {f : FuncId} {args : Array Value} {w : World} {K : Value → World → Prop} {R : Ending → World → Prop} (h : Cal Try.prog f args w K) (hk : ∀ v w', K v w' → R (.returned v) w') : Calls Try.prog f args w R :=
  h.2.mono fun e w' he => by cases e <;> first | exact hk _ _ he | exact he.elim

end Go.Proofs.Ytocjjigmpgekfaa
