/- The ways of layer 9: blocks of names, spans, and back. -/
import Derived.Test.YtocjjigmpgekfaaPtrA
import Derived.Test.YtocjjigmpgekfaaNums
open Go Go.Den Go.Proofs
namespace Go.Den
def I (n : Int) : Value := .int .i64 n
def iL (ns : List Int) : List Value := ns.map I
@[simp] theorem length_iL (ns : List Int) : (iL ns).length = ns.length := by simp [iL]
theorem iL_get {ns : List Int} {i : Nat} (hi : i < ns.length) : (iL ns)[i]? = some (.int .i64 ns[i]) := by simp [iL, hi, I]
theorem one_u8L (xs : List UInt8) : ∀ v ∈ u8L xs, v.oneCell' = true := by
  intro v hv; simp [u8L] at hv; obtain ⟨x, _, rfl⟩ := hv; rfl
theorem one_iL (xs : List Int) : ∀ v ∈ iL xs, v.oneCell' = true := by
  intro v hv; simp [iL] at hv; obtain ⟨x, _, rfl⟩ := hv; rfl
theorem u8L_sub (xs : List UInt8) (i m : Nat) : ((u8L xs).drop i).take m = u8L ((xs.drop i).take m) := by simp [u8L, List.map_drop, List.map_take]
theorem Row.sub {w : World} {a : Option Addr} {c i m : Nat} {xs : List UInt8} (h : Row w a (u8L xs)) (him : i + m ≤ xs.length) (hc : xs.length ≤ c) (hm : 0 < m) : Row w (cutA a c i 1) (u8L ((xs.drop i).take m)) := by
  rcases h with h | ⟨b, o, rfl, hat⟩
  · have := congrArg List.length h; simp at this; rw [this] at him; simp at him; omega
  · refine .inr ⟨b, o + i, ?_, ?_⟩
    · unfold cutA; rw [if_neg (by omega)]; simp [add_none]
    · rw [← u8L_sub]; exact hat.sub (by simpa using him)
theorem splice_u8L (xs ys : List UInt8) (i : Nat) : splice (u8L xs) i (u8L ys) = u8L (xs.take i ++ ys ++ xs.drop (i + ys.length)) := by
  simp [splice, u8L, List.map_take, List.map_drop]
end Go.Den

namespace Go.Proofs.Ytocjjigmpgekfaa
/-- The names of a block. -/
def nameAt (xs : List UInt8) (i : Nat) : Int := ((leN ((xs.drop (4 * i)).take 4) % 2147483648 : Nat) : Int)
def namesS (xs : List UInt8) : List Int := (List.range 64).map (nameAt xs)

theorem elemZ_ints : elemZ Try.prog 23 1 (.int .i64 0) 8 := by unfold elemZ; kernel_rfl
theorem elemZ_bytes : elemZ Try.prog 32 1 (.int .u8 0) 1 := by unfold elemZ; kernel_rfl

/-- A block with another name at a place. -/
def layN (xs : List UInt8) (i name : Nat) : List UInt8 := xs.take (4 * i) ++ toLe 4 name ++ xs.drop (4 * i + 4)

end Go.Proofs.Ytocjjigmpgekfaa
