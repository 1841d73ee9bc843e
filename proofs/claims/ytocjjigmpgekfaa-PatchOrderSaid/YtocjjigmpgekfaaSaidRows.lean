/- Arguments that came in: rows of ints, rows of rows of bytes. -/
import Derived.Test.YtocjjigmpgekfaaSaidArgs
import Derived.Test.YtocjjigmpgekfaaDiskS
import Derived.Deep.Matrix
open Go Go.Den
namespace Go.Den
open Go.ChangeShapes Go.WideShapes Go.RowKit
section
variable {H : Type} {enc : TypeId × Value → H} {P : Program} {w : World} {base : Nat} {held : Bool}
theorem open_nums {r : Reach} {b0 : Nat} {t e : TypeId} {v : Value} {d : DataW H} {ps : List MemPlace} (ht : P.underlying t = some (.slice e)) (he : P.underlying e = some (.int .i64)) (hc : P.cellsOf e = 1)
    (hval : Value.okWide P w r b0 t v) (hd : DataW.Trod enc P w base (fun _ => true) held t v d ps) :
    ∃ a l c xs, v = .slice a l c ∧ xs.length = l ∧ Row w a (iL xs) ∧ (a = none → l = 0 ∧ c = 0) ∧ l ≤ c ∧ c ≤ maxLen ∧ (∀ x ∈ xs, (Lit.int .i64 x).wf = true) ∧ ((d = .nil ∧ c = 0) ∨ ∃ e1 e2, d = .slice e1 e2 ∧ e1.length + e2.length = c) := by
  obtain ⟨fuel, hf⟩ := hd
  obtain ⟨a, l, c, rfl⟩ := okWide_slice ht hval
  rcases open_ints ht he hc hf with ⟨h1, h2⟩ | ⟨a', l', c', zs, h1, _, hlc, hm, hz, hx, hcell, hwf⟩
  · simp [Value.cells] at h1
    obtain ⟨rfl, rfl, rfl⟩ := h1
    simp at h2
    exact ⟨none, 0, 0, [], rfl, rfl, .inl rfl, fun _ => ⟨rfl, rfl⟩, Nat.le_refl _, Nat.zero_le _, by simp, .inl ⟨h2.1, rfl⟩⟩
  · simp [Value.cells] at h1
    obtain ⟨rfl, rfl, rfl⟩ := h1
    rw [if_pos rfl] at hz
    simp only [Prod.mk.injEq] at hx
    refine ⟨some a', l, c, zs.take l, rfl, by simp; omega, ?_, (fun h => by cases h), hlc, hm, fun x hx => hwf x (List.mem_of_mem_take hx), .inr ⟨_, _, hx.1, by simp [lits]; omega⟩⟩
    by_cases h0 : l = 0
    · left; subst h0; simp [iL]
    · right
      obtain ⟨b, off, rfl, hcell'⟩ := Go.ints_at hcell (by omega)
      refine ⟨b, off, rfl, At.of_cells (by simp; omega) fun j hj => ?_⟩
      have hj' : j < zs.length := by simp at hj; omega
      rw [hcell' j hj']
      have e1 : zs.getD j 0 = zs[j] := by simp [hj']
      rw [e1]
      simp [iL, I]

theorem bytes_max {t e : TypeId} {a : Option Addr} {l c : Nat} {d : DataW H} {ps : List MemPlace} (ht : P.underlying t = some (.slice e)) (hd : DataW.Trod enc P w base (fun _ => true) held t (.slice a l c) d ps) : l ≤ 9223372036854775807 := by
  obtain ⟨fuel, hf⟩ := hd
  rcases DataW.trod_slice ht hf with ⟨h1, _⟩ | ⟨a', l', c', _, _, _, _, h1, _, _, hlc, hm, _⟩
  · simp [Value.cells] at h1; omega
  · simp [Value.cells] at h1; simp [maxLen] at hm; omega

def zB (zs : List Int) : List UInt8 := zs.map fun z => UInt8.ofNat z.toNat
theorem u8_of_wf {z : Int} (h : (Lit.int .u8 z).wf = true) : u8 (UInt8.ofNat z.toNat) = .int .u8 z := by
  have hb : 0 ≤ z ∧ z ≤ 255 := by simpa [Lit.wf, IntKind.min, IntKind.max, IntKind.signed, IntKind.bits] using h
  have : (UInt8.ofNat z.toNat).toNat = z.toNat := by rw [UInt8.toNat_ofNat']; omega
  unfold u8; rw [this]; congr 1; omega
theorem row_bytes {a : Addr} {zs : List Int} {l : Nat} (hl : l ≤ zs.length) (hcell : ∀ c, c < zs.length → w.cell? (a.add c) = some (.int .u8 (zs.getD c 0))) (hwf : ∀ n ∈ zs, (Lit.int .u8 n).wf = true) : Row w (some a) (u8L (zB (zs.take l))) := by
  by_cases h0 : l = 0
  · left; subst h0; simp [u8L, zB]
  · right
    obtain ⟨b, off, rfl, hcell'⟩ := Go.ints_at hcell (by omega)
    refine ⟨b, off, rfl, At.of_cells (by simp [zB]; omega) fun j hj => ?_⟩
    have hj' : j < zs.length := by simp [zB] at hj; omega
    rw [hcell' j hj']
    have e1 : zs.getD j 0 = zs[j] := by simp [hj']
    rw [e1, ← u8_of_wf (hwf _ (List.getElem_mem hj'))]
    simp [u8L, zB]

theorem open_rows2 {r : Reach} {b0 : Nat} {t e q : TypeId} {v : Value} {d : DataW H} {ps : List MemPlace} (ht : P.underlying t = some (.slice e)) (he : P.underlying e = some (.slice q)) (hq : P.underlying q = some (.int .u8)) (ce : P.cellsOf e = 1) (cq : P.cellsOf q = 1)
    (hval : Value.okWide P w r b0 t v) (hd : DataW.Trod enc P w base (fun _ => true) held t v d ps) :
    ∃ a l c xss, v = .slice a l c ∧ xss.length = l ∧ Rows2 w a xss ∧ l ≤ c ∧ c ≤ maxLen := by
  obtain ⟨fuel, hf⟩ := hd
  obtain ⟨a, l, c, rfl⟩ := okWide_slice ht hval
  rcases Go.Deep.open_int_rows ht he hq ce cq hf with ⟨h1, h2⟩ | ⟨a', l', c', A, L, C, Z, h1, _, hlc, hm, hx, hrow⟩
  · simp [Value.cells] at h1
    obtain ⟨rfl, rfl, rfl⟩ := h1
    exact ⟨none, 0, 0, [], rfl, rfl, .inl rfl, Nat.le_refl _, Nat.zero_le _⟩
  · simp [Value.cells] at h1
    obtain ⟨rfl, rfl, rfl⟩ := h1
    refine ⟨some a', l, c, (List.range l).map fun r => zB ((Z r).take (L r)), rfl, by simp, ?_, hlc, hm⟩
    by_cases h0 : l = 0
    · left; subst h0; rfl
    · right
      obtain ⟨b, off, spot⟩ := a'
      have hspot : spot = none := by simpa [Addr.add] using World.cell?_spot (hrow 0 (by omega)).1
      subst hspot
      refine ⟨b, off, (List.range l).map fun r => .slice (A r) (L r) (C r), rfl, At.of_cells (by simp; omega) fun j hj => ?_, by simp, fun r x hx => ?_⟩
      · have hj' : j < l := by simpa using hj
        have := (hrow j (by omega)).1
        rw [add_none] at this
        rw [this]; simp
      · have hr : r < l := by
          have := (List.getElem?_eq_some_iff.1 hx).1
          simpa using this
        have hx' : x = zB ((Z r).take (L r)) := by
          simp [hr] at hx; exact hx.symm
        obtain ⟨h1, h2, h3, h4, h5, h6, h7⟩ := hrow r (by omega)
        have hlen : x.length = L r := by rw [hx']; simp [zB]; omega
        refine ⟨A r, C r, by rw [hlen]; simp [hr], ?_, by rw [hlen]; have := h3; simp [maxLen] at this; omega⟩
        rw [hx']
        cases hA : A r with
        | none =>
          have h0 := h6 hA
          have : (Z r).take (L r) = [] := List.eq_nil_of_length_eq_zero (by simp; omega)
          rw [this]; exact .inl rfl
        | some a2 =>
          exact row_bytes (by omega) (fun c hc => (h7 a2 hA).2 c (by omega)) h5
end
end Go.Den
