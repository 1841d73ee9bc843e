/- Layer 10, the program's cache: what it is, and what it is in memory. -/
import Derived.Test.YtocjjigmpgekfaaSlG
import Derived.Test.YtocjjigmpgekfaaLookM
import Derived.Test.YtocjjigmpgekfaaMapsK
open Go Go.Den Go.Proofs
namespace Go.Proofs.Ytocjjigmpgekfaa
/-- A block in memory: its number, its bytes, how often it is pinned. -/
structure Bf where
  b : Nat
  data : Bk
  pins : Nat
deriving DecidableEq
/-- A cache: a disk, how many there may be, those that there are (the one asked last at the end). -/
structure Ca where
  D : St
  most : Nat
  l : List Bf
def nums (l : List Bf) : List Int := l.map fun x => (x.b : Int)
def atD (D : St) (b : Nat) : Bk := lastV (verOf D b)
def clean (D : St) (x : Bf) : Bool := decide (x.data = atD D x.b)
def others (l : List Bf) (b : Nat) : List Bf := l.filter fun x => !decide (x.b = b)
def findB (l : List Bf) (b : Nat) : Option Bf := l.find? fun x => decide (x.b = b)
def idleB (D : St) (x : Bf) : Bool := decide (x.pins = 0) && clean D x
def roomC (C : Ca) : Option Ca := if C.l.length < C.most then some C else (C.l.find? (idleB C.D)).map fun x => { C with l := others C.l x.b }
def askC (C : Ca) (b : Nat) : Option Ca :=
  match findB C.l b with
  | some x => some { C with l := others C.l b ++ [x] }
  | none => (roomC C).map fun C' => { C' with l := C'.l ++ [⟨b, atD C.D b, 0⟩] }
structure WFC (C : Ca) : Prop where
  small : Small C.D
  most0 : 1 ≤ C.most
  most1 : C.most ≤ 4096
  len : C.l.length ≤ C.most
  nodup : (C.l.map (·.b)).Nodup
  lt : ∀ x ∈ C.l, x.b < C.D.vs.length
  data : ∀ x ∈ C.l, x.data.length = 256
  pins : ∀ x ∈ C.l, x.pins ≤ 1000000

theorem findB_some {l : List Bf} {b : Nat} {x : Bf} (h : findB l b = some x) : x ∈ l ∧ x.b = b := by
  unfold findB at h
  exact ⟨List.mem_of_find?_eq_some h, by simpa using List.find?_some h⟩
theorem findB_none {l : List Bf} {b : Nat} (h : findB l b = none) : ∀ x ∈ l, x.b ≠ b := by
  unfold findB at h
  intro x hx
  have := List.find?_eq_none.1 h x hx
  simpa using this
theorem findB_mem {l : List Bf} (hn : (l.map (·.b)).Nodup) {x : Bf} (hx : x ∈ l) : findB l x.b = some x := by
  cases h : findB l x.b with
  | none => exact absurd rfl (findB_none h x hx)
  | some y =>
    obtain ⟨hy, e⟩ := findB_some h
    rw [map_inj hn hy hx e]
theorem mem_others {l : List Bf} {b : Nat} {x : Bf} : x ∈ others l b ↔ x ∈ l ∧ x.b ≠ b := by
  unfold others; rw [List.mem_filter]; simp
theorem nums_others (l : List Bf) (b : Nat) : nums (others l b) = (nums l).filter fun k => !decide (k = (b : Int)) := by
  unfold nums others
  rw [List.filter_map]
  congr 1
  apply List.filter_congr
  intro x _
  simp only [Function.comp]
  congr 2
  rw [eq_iff_iff]; omega
theorem others_nodup {l : List Bf} (hn : (l.map (·.b)).Nodup) (b : Nat) : ((others l b).map (·.b)).Nodup := (List.filter_sublist.map _).nodup hn
theorem others_len (l : List Bf) (b : Nat) : (others l b).length ≤ l.length := List.length_filter_le _ _
theorem others_lt {l : List Bf} {x : Bf} (hx : x ∈ l) : (others l x.b).length < l.length := by
  unfold others
  rw [List.length_filter_lt_length_iff_exists]
  exact ⟨x, hx, by simp⟩
theorem snoc_nodup {l : List Bf} (hn : (l.map (·.b)).Nodup) {x : Bf} (hx : ∀ y ∈ l, y.b ≠ x.b) : ((l ++ [x]).map (·.b)).Nodup := by
  rw [List.map_append]
  refine List.nodup_append.2 ⟨hn, by simp, ?_⟩
  intro a ha b hb
  simp at hb; subst hb
  obtain ⟨y, hy, rfl⟩ := List.mem_map.1 ha
  exact hx y hy

theorem WFC.move {C : Ca} (h : WFC C) {x : Bf} (hx : x ∈ C.l) : WFC { C with l := others C.l x.b ++ [x] } where
  small := h.small
  most0 := h.most0
  most1 := h.most1
  len := by have := others_lt hx; have := h.len; simp; omega
  nodup := snoc_nodup (others_nodup h.nodup _) fun y hy => (mem_others.1 hy).2
  lt := fun y hy => by
    rcases List.mem_append.1 hy with hy | hy
    · exact h.lt y (mem_others.1 hy).1
    · simp at hy; subst hy; exact h.lt _ hx
  data := fun y hy => by
    rcases List.mem_append.1 hy with hy | hy
    · exact h.data y (mem_others.1 hy).1
    · simp at hy; subst hy; exact h.data _ hx
  pins := fun y hy => by
    rcases List.mem_append.1 hy with hy | hy
    · exact h.pins y (mem_others.1 hy).1
    · simp at hy; subst hy; exact h.pins _ hx
theorem WFC.out {C : Ca} (h : WFC C) (b : Nat) : WFC { C with l := others C.l b } where
  small := h.small
  most0 := h.most0
  most1 := h.most1
  len := Nat.le_trans (others_len _ _) h.len
  nodup := others_nodup h.nodup _
  lt := fun y hy => h.lt y (mem_others.1 hy).1
  data := fun y hy => h.data y (mem_others.1 hy).1
  pins := fun y hy => h.pins y (mem_others.1 hy).1
theorem WFC.add {C : Ca} (h : WFC C) {x : Bf} (hr : C.l.length < C.most) (hx : ∀ y ∈ C.l, y.b ≠ x.b) (h1 : x.b < C.D.vs.length) (h2 : x.data.length = 256) (h3 : x.pins ≤ 1000000) : WFC { C with l := C.l ++ [x] } where
  small := h.small
  most0 := h.most0
  most1 := h.most1
  len := by simp; omega
  nodup := snoc_nodup h.nodup hx
  lt := fun y hy => by
    rcases List.mem_append.1 hy with hy | hy
    · exact h.lt y hy
    · simp at hy; subst hy; exact h1
  data := fun y hy => by
    rcases List.mem_append.1 hy with hy | hy
    · exact h.data y hy
    · simp at hy; subst hy; exact h2
  pins := fun y hy => by
    rcases List.mem_append.1 hy with hy | hy
    · exact h.pins y hy
    · simp at hy; subst hy; exact h3
/-- One block's bytes and pins turned. -/
def turn (l : List Bf) (y : Bf) : List Bf := l.map fun x => if x.b = y.b then y else x
theorem turn_b (l : List Bf) (y : Bf) : (turn l y).map (·.b) = l.map (·.b) := by
  unfold turn
  rw [List.map_map]
  apply List.map_congr_left
  intro x _
  simp only [Function.comp]
  split
  · rename_i h; exact h.symm
  · rfl
theorem turn_nums (l : List Bf) (y : Bf) : nums (turn l y) = nums l := by
  have := turn_b l y
  unfold nums
  have e : ∀ l : List Bf, (l.map fun x => (x.b : Int)) = (l.map (·.b)).map fun n : Nat => (n : Int) := fun l => by rw [List.map_map]; rfl
  rw [e, e, this]
theorem mem_turn {l : List Bf} {y z : Bf} (h : z ∈ turn l y) : z = y ∨ (z ∈ l ∧ z.b ≠ y.b) := by
  unfold turn at h
  obtain ⟨x, hx, e⟩ := List.mem_map.1 h
  split at e
  · exact .inl e.symm
  · rename_i hne; subst e; exact .inr ⟨hx, hne⟩
theorem WFC.turn {C : Ca} (h : WFC C) {y : Bf} (h1 : y.b < C.D.vs.length) (h2 : y.data.length = 256) (h3 : y.pins ≤ 1000000) : WFC { C with l := turn C.l y } where
  small := h.small
  most0 := h.most0
  most1 := h.most1
  len := by have := h.len; simpa [Go.Proofs.Ytocjjigmpgekfaa.turn] using this
  nodup := by rw [turn_b]; exact h.nodup
  lt := fun z hz => by
    rcases mem_turn hz with rfl | ⟨hz, _⟩
    · exact h1
    · exact h.lt z hz
  data := fun z hz => by
    rcases mem_turn hz with rfl | ⟨hz, _⟩
    · exact h2
    · exact h.data z hz
  pins := fun z hz => by
    rcases mem_turn hz with rfl | ⟨hz, _⟩
    · exact h3
    · exact h.pins z hz
end Go.Proofs.Ytocjjigmpgekfaa
