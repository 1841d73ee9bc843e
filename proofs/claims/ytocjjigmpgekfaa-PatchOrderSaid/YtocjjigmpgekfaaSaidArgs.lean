/- Arguments that came in: rows of bytes, as a proof over the denotation takes them; the last step of a statement of the second form. -/
import Derived.Test.YtocjjigmpgekfaaRows
import Derived.Test.YtocjjigmpgekfaaBulk
import Derived.Test.YtocjjigmpgekfaaSaidKit
import Derived.Test.YtocjjigmpgekfaaRef1
import Derived.OpenShut
import Derived.JoinedCond
open Go Go.Den
namespace Go.Den
open Go.ChangeShapes Go.WideShapes Go.RowKit
section
variable {H : Type} {enc : TypeId × Value → H} {P : Program} {w : World} {base : Nat} {spare : Nat → Bool} {held : Bool}
theorem At.of_cells {b o : Nat} {cs : List Value} (h0 : 0 < cs.length) (h : ∀ j (hj : j < cs.length), w.cell? ⟨b, o + j, none⟩ = some cs[j]) : At w b o cs := by
  have hb : ∃ l t fz, w.heap[b]? = some (.cells ⟨l⟩ t fz) := by
    have := h 0 h0
    unfold World.cell? at this
    split at this
    · rename_i c t fz hc; exact ⟨c.toList, t, fz, hc⟩
    · cases this
  obtain ⟨l, t, fz, hb⟩ := hb
  have hget : ∀ j (hj : j < cs.length), l[o + j]? = some cs[j] := fun j hj => by rw [← cell_of hb]; exact h j hj
  have hlen : o + cs.length ≤ l.length := by
    have := (List.getElem?_eq_some_iff.1 (hget (cs.length - 1) (by omega))).1
    omega
  refine ⟨l, t, fz, hb, hlen, ?_⟩
  apply List.ext_getElem?
  intro i
  by_cases hi : i < cs.length
  · rw [List.getElem?_take, if_pos hi, List.getElem?_drop, hget i hi]; simp [hi]
  · rw [List.getElem?_eq_none (by simp; omega), List.getElem?_eq_none (by omega)]

theorem open_bytes {r : Reach} {b0 : Nat} {t e : TypeId} {v : Value} {d : DataW H} {ps : List MemPlace} (ht : P.underlying t = some (.slice e)) (he : P.underlying e = some (.int .u8)) (hc : P.cellsOf e = 1)
    (hval : Value.okWide P w r b0 t v) (hd : DataW.Trod enc P w base (fun _ => true) held t v d ps) :
    ∃ a l c xs, v = .slice a l c ∧ xs.length = l ∧ Row w a (u8L xs) ∧ (a = none → l = 0 ∧ c = 0) ∧ l ≤ c ∧ ((d = .nil ∧ c = 0) ∨ ∃ e1 e2, d = .slice e1 e2 ∧ e1.length + e2.length = c) := by
  obtain ⟨fuel, hf⟩ := hd
  obtain ⟨a, l, c, rfl⟩ := okWide_slice ht hval
  rcases open_ints ht he hc hf with ⟨h1, h2⟩ | ⟨a', l', c', zs, h1, _, hlc, _, hz, hx, hcell, hwf⟩
  · simp [Value.cells] at h1
    obtain ⟨rfl, rfl, rfl⟩ := h1
    simp at h2
    exact ⟨none, 0, 0, [], rfl, rfl, .inl rfl, fun _ => ⟨rfl, rfl⟩, Nat.le_refl _, .inl ⟨h2.1, rfl⟩⟩
  · simp [Value.cells] at h1
    obtain ⟨rfl, rfl, rfl⟩ := h1
    rw [if_pos rfl] at hz
    simp only [Prod.mk.injEq] at hx
    refine ⟨some a', l, c, (zs.take l).map fun z => UInt8.ofNat z.toNat, rfl, by simp; omega, ?_, (fun h => by cases h), hlc, .inr ⟨_, _, hx.1, by simp [lits]; omega⟩⟩
    by_cases h0 : l = 0
    · left; subst h0; simp [u8L]
    · right
      obtain ⟨b, off, rfl, hcell'⟩ := Go.ints_at hcell (by omega)
      refine ⟨b, off, rfl, At.of_cells (by simp; omega) fun j hj => ?_⟩
      have hj' : j < zs.length := by simp at hj; omega
      rw [hcell' j hj']
      have hw : (Lit.int .u8 zs[j]).wf = true := hwf _ (List.getElem_mem hj')
      have hb : 0 ≤ zs[j] ∧ zs[j] ≤ 255 := by simpa [Lit.wf, IntKind.min, IntKind.max, IntKind.signed, IntKind.bits] using hw
      have e1 : zs.getD j 0 = zs[j] := by simp [hj']
      rw [e1]
      simp only [u8L, u8, List.map_map, List.getElem_map, List.getElem_take, Function.comp]
      have : (UInt8.ofNat zs[j].toNat).toNat = zs[j].toNat := by rw [UInt8.toNat_ofNat']; omega
      rw [this]; congr 2; omega
end
end Go.Den
