/- slices.Sort on a row of one's own: its contract, off the shelf, as a proof over the denotation takes it. -/
import Derived.Test.YtocjjigmpgekfaaGrow
import Derived.Test.YtocjjigmpgekfaaShelf
import Derived.Sort.OwnSortedInts
open Go Go.Den Go.Proofs
namespace Go.Proofs.Ytocjjigmpgekfaa
def sorted (zs : List Int) : List Int := zs.mergeSort fun x y => decide (x ≤ y)
theorem Sort_c {base l c : Nat} {a : Option Addr} {zs : List Int} {w : World} {K : Value → World → Prop} (h : Own Try.prog w base 23 1 a l c (iL zs))
    (hk : ∀ w', Own Try.prog w' base 23 1 a l c (iL (sorted zs)) → Mod (fun x => base ≤ x) w w' → K (.tuple #[]) w') (hl62 : zs.length < 4611686018427387904) :
    Cal Try.prog F_slices_Sort_int #[.slice a l c] w K := by
  refine ⟨⟨_, Try.func52, by kernel_rfl, by kernel_rfl⟩, ?_⟩
  have hlen : zs.length = l := by have := h.len; simpa using this
  obtain ⟨e, he, h1, h2⟩ := h
  rcases h2 with ⟨hv, hz⟩ | ⟨g, cap, cur, hv, hb, hg, hle, hm, hsz, ht⟩
  · subst hz
    simp at hv
    obtain ⟨rfl, rfl⟩ := hv
    have hzs : zs = [] := List.eq_nil_of_length_eq_zero hlen
    subst hzs
    refine (Try.slices_Sort_int_none none 0 w).mono fun e' w' he' => ?_
    obtain ⟨rfl, rfl⟩ := he'
    exact hk w' ⟨e, he, by simp [sorted, iL], .inl ⟨rfl, rfl⟩⟩ (Mod.refl _ _)
  · simp at hv
    obtain ⟨rfl, rfl⟩ := hv
    subst hlen
    have hmap : iL zs = zs.map (Value.int .i64) := rfl
    rw [Nat.mul_one, hmap] at ht
    have hH := holds_of_blockI hg ht
    refine (Try.slices_Sort_int g 0 c zs w hH (lt_of_heap hg) hl62).mono fun e' w' he' => ?_
    obtain ⟨rfl, n, os, rfl⟩ := he'
    refine hk _ ⟨e, he, ?_⟩ ((Mod.grown (grownBy_sortedI _)).mono fun x _ e => by cases e; exact hb)
    exact ownsRow_sortedI (ts := sorted zs) (by simp [sorted]) hb hg hle hm hsz
end Go.Proofs.Ytocjjigmpgekfaa
