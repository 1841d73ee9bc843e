/- The ways of layer 9: contracts of the small functions. -/
import Derived.Test.YtocjjigmpgekfaaWords
import Derived.Test.YtocjjigmpgekfaaTxtA
open Go Go.Den Go.Proofs
namespace Go.Proofs.Ytocjjigmpgekfaa

/-- A way: its four numbers. -/
structure Wy where
  d : Int
  a : Int
  b : Int
  c : Int
  deriving DecidableEq
def Wy.l (x : Wy) : List Value := [.int .i64 x.d, .int .i64 x.a, .int .i64 x.b, .int .i64 x.c]
def ofS (n : Int) : Wy × Int :=
  if n < 0 ∨ n ≥ 4166 then (⟨0, 0, 0, 0⟩, 28) else if n < 6 then (⟨0, n, 0, 0⟩, 0) else if n < 70 then (⟨1, 0, n - 6, 0⟩, 0) else (⟨2, 0, (n - 70) / 64, (n - 70) % 64⟩, 0)

theorem one_Wy (x : Wy) : ∀ v ∈ x.l, v.oneCell' = true := by
  intro v hv
  simp [Wy.l] at hv
  rcases hv with rfl | rfl | rfl | rfl <;> rfl

theorem leaf (T : TypeId) (hT : aggN Try.prog T = some 4) {t : TypeId} (x z : Wy) (e : Int) (s : Sem Value) (hs : Al s (.agg ⟨x.l⟩)) {w : World} {K : Value → World → Prop} (hk : K (.tuple #[.agg ⟨x.l⟩, .int .i64 e]) (w.alloc (.cells ⟨x.l⟩ t))) :
    ∃ g : Array Value, Al s (.agg g) ∧ ∃ w3 : World, RuU (Instr.storeAt T (.pointer (some ⟨w.heap.size, 0, none⟩)) (.agg g)) (w.alloc (.cells ⟨z.l⟩ t)) w3 ∧
      ∃ gR : Array Value, Ru (Instr.loadAt T (.pointer (some ⟨w.heap.size, 0, none⟩))) w3 (.agg gR) w3 ∧ K (.tuple #[.agg gR, .int .i64 e]) w3 :=
  ⟨⟨x.l⟩, hs, _, store_new hT rfl rfl (one_Wy x), _, load_new hT rfl, hk⟩

end Go.Proofs.Ytocjjigmpgekfaa
