/- Arguments that came in: a row of calls of layer 10. -/
import Derived.Test.YtocjjigmpgekfaaSaidRows
import Derived.Test.YtocjjigmpgekfaaCacheL
import Derived.Lib.SmallJoins
import Derived.Deep.Slices
open Go Go.Den
namespace Go.Proofs.Ytocjjigmpgekfaa
open Go.ChangeShapes Go.WideShapes Go.RowKit Go.Joins
section
variable {H : Type} {enc : TypeId × Value → H} {w : World} {base : Nat} {held : Bool}
theorem trod_st3 {P : Program} {spare : Nat → Bool} {t : TypeId} {f0 f1 f2 : Field} {fuel : Nat} {cs : List Value} {x : DataW H × List MemPlace} (ht : P.underlying t = some (.struct #[f0, f1, f2])) (h : DataW.trod enc P w base spare held fuel t cs = some x) :
    ∃ y0 y1 y2 n, x = (.agg [y0.1, y1.1, y2.1], y0.2 ++ (y1.2 ++ y2.2)) ∧ cs.length = P.cellsOf t ∧ DataW.trod enc P w base spare held n f0.type ((cs.drop f0.offset).take (P.cellsOf f0.type)) = some y0 ∧
      DataW.trod enc P w base spare held n f1.type ((cs.drop f1.offset).take (P.cellsOf f1.type)) = some y1 ∧ DataW.trod enc P w base spare held n f2.type ((cs.drop f2.offset).take (P.cellsOf f2.type)) = some y2 := by
  obtain ⟨xs, n, _, rfl, hl, hlen, hf⟩ := DataW.trod_struct ht h
  match xs, hlen with
  | [y0, y1, y2], _ => exact ⟨y0, y1, y2, n, by simp, hl, by simpa using hf 0 f0 rfl, by simpa using hf 1 f1 rfl, by simpa using hf 2 f2 rfl⟩
theorem bytes_of_trod3 {fuel : Nat} {v : Value} {y : DataW H × List MemPlace} (h : DataW.trod enc Try.prog w base (fun _ => true) held fuel 32 [v] = some y) :
    ∃ a l c xs, v = .slice a l c ∧ xs.length = l ∧ Row w a (u8L xs) ∧ (a = none → l = 0 ∧ c = 0) ∧ (l ≤ Rows.uptoBulk y.1) ∧ l ≤ 9223372036854775807 := by
  rcases open_ints Try.underlying32 Try.underlying5 (by kernel_rfl) h with ⟨h1, h2⟩ | ⟨a', l', c', zs, h1, _, hlc, hm, hz, hx, hcell, hwf⟩
  · simp at h1; subst h1
    exact ⟨none, 0, 0, [], rfl, rfl, .inl rfl, fun _ => ⟨rfl, rfl⟩, Nat.zero_le _, by omega⟩
  · simp at h1; subst h1
    rw [if_pos rfl] at hz
    refine ⟨some a', l', c', zB (zs.take l'), rfl, by simp [zB]; omega, row_bytes (by omega) hcell hwf, (fun h => by cases h), ?_, by simp [maxLen] at hm; omega⟩
    rw [hx]
    have := bulks.slice_le (H := H) (lits .u8 (zs.take l')) (lits .u8 (zs.drop l'))
    simp [lits] at this ⊢
    omega
theorem list_choose3 {α β : Type} {p : β → α → Prop} : ∀ (xs : List β), (∀ x ∈ xs, ∃ y, p x y) → ∃ ys : List α, ys.length = xs.length ∧ ∀ (i : Nat) (x : β) (y : α), xs[i]? = some x → ys[i]? = some y → p x y
  | [], _ => ⟨[], rfl, fun i x y h => by simp at h⟩
  | x :: r, h => by
    obtain ⟨y, hy⟩ := h x (by simp)
    obtain ⟨ys, hl, hys⟩ := list_choose3 r fun z hz => h z (by simp [hz])
    refine ⟨y :: ys, by simp [hl], fun i a b ha hb => ?_⟩
    cases i with
    | zero => simp at ha hb; subst ha hb; exact hy
    | succ i => exact hys i a b (by simpa using ha) (by simpa using hb)

end
end Go.Proofs.Ytocjjigmpgekfaa
