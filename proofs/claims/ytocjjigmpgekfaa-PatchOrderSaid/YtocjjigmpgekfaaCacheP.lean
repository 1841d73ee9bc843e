/- Layer 10: what a cache does, in plain terms: what stays, what is read. -/
import Derived.Test.YtocjjigmpgekfaaCacheA
open Go Go.Den Go.Proofs
namespace Go.Proofs.Ytocjjigmpgekfaa
/-- What asking for a block does. -/
structure Asked (C C' : Ca) (b : Nat) (l0 : List Bf) (y : Bf) : Prop where
  l : C'.l = l0 ++ [y]
  yb : y.b = b
  D : C'.D = C.D
  most : C'.most = C.most
  wf : WFC C'
  from_ : ∀ x ∈ C'.l, x ∈ C.l ∨ (x = ⟨b, atD C.D b, 0⟩ ∧ findB C.l b = none)
  keep : ∀ x ∈ C.l, idleB C.D x = false → x ∈ C'.l
  here : ∀ x ∈ C.l, x.b = b → x ∈ C'.l
  l0 : ∀ x ∈ l0, x ∈ C.l ∧ x.b ≠ b
theorem atD_len {C : Ca} (h : WF C.D) {b : Nat} (hb : b < C.D.vs.length) : (atD C.D b).length = 256 := by
  have hv : C.D.vs[b]? = some C.D.vs[b] := by simp [hb]
  have e : verOf C.D b = C.D.vs[b] := by
    unfold verOf
    rw [if_neg (by omega), Int.toNat_natCast, hv]; rfl
  unfold atD
  rw [e]
  exact h.lastLen hv
theorem room_facts {C C' : Ca} (h : WFC C) (ha : roomC C = some C') : C'.D = C.D ∧ C'.most = C.most ∧ WFC C' ∧ C'.l.length < C'.most ∧ (∀ x ∈ C'.l, x ∈ C.l) ∧ ∀ x ∈ C.l, idleB C.D x = false → x ∈ C'.l := by
  unfold roomC at ha
  split at ha
  · rename_i hl
    have := Option.some.inj ha
    subst this
    exact ⟨rfl, rfl, h, hl, fun x hx => hx, fun x hx _ => hx⟩
  · cases hf : C.l.find? (idleB C.D) with
    | none => rw [hf] at ha; cases ha
    | some z =>
      rw [hf] at ha
      have := Option.some.inj ha
      subst this
      have hz := List.mem_of_find?_eq_some hf
      have hi : idleB C.D z = true := List.find?_some hf
      refine ⟨rfl, rfl, h.out _, ?_, fun x hx => (mem_others.1 hx).1, fun x hx hn => mem_others.2 ⟨hx, fun e => ?_⟩⟩
      · have := others_lt hz; have := h.len
        show (others C.l z.b).length < C.most
        omega
      · rw [map_inj h.nodup hx hz e, hi] at hn; cases hn
theorem ask_facts {C C' : Ca} {b : Nat} (h : WFC C) (hD : WF C.D) (hb : b < C.D.vs.length) (ha : askC C b = some C') : ∃ l0 y, Asked C C' b l0 y := by
  unfold askC at ha
  split at ha
  · rename_i x hx
    have := Option.some.inj ha
    subst this
    obtain ⟨h1, h2⟩ := findB_some hx
    subst h2
    exact ⟨others C.l x.b, x, {
      l := rfl, yb := rfl, D := rfl, most := rfl, wf := h.move h1
      from_ := fun z hz => by
        rcases List.mem_append.1 hz with hz | hz
        · exact .inl (mem_others.1 hz).1
        · simp at hz; subst hz; exact .inl h1
      keep := fun z hz _ => by
        by_cases e : z.b = x.b
        · rw [map_inj h.nodup hz h1 e]; simp
        · exact List.mem_append.2 (.inl (mem_others.2 ⟨hz, e⟩))
      here := fun z hz e => by rw [map_inj h.nodup hz h1 e]; simp
      l0 := fun z hz => mem_others.1 hz }⟩
  · rename_i hx
    cases hr : roomC C with
    | none => rw [hr] at ha; cases ha
    | some C1 =>
      rw [hr] at ha
      have := Option.some.inj ha
      subst this
      obtain ⟨r1, r2, r3, r4, r5, r6⟩ := room_facts h hr
      have hno := findB_none hx
      exact ⟨C1.l, ⟨b, atD C.D b, 0⟩, {
        l := rfl, yb := rfl, D := r1, most := r2
        wf := r3.add r4 (fun y hy => hno y (r5 y hy)) (by rw [r1]; exact hb) (atD_len hD hb) (by simp)
        from_ := fun z hz => by
          rcases List.mem_append.1 hz with hz | hz
          · exact .inl (r5 z hz)
          · simp at hz; subst hz; exact .inr ⟨rfl, hx⟩
        keep := fun z hz hi => List.mem_append.2 (.inl (r6 z hz hi))
        here := fun z hz e => absurd e (hno z hz)
        l0 := fun z hz => ⟨r5 z hz, hno z (r5 z hz)⟩ }⟩
/-- How often a block is pinned. -/
def pinsOf (l : List Bf) (n : Nat) : Nat := match findB l n with | some x => x.pins | none => 0
theorem pinsOf_mem {l : List Bf} (hn : (l.map (·.b)).Nodup) {x : Bf} (hx : x ∈ l) : pinsOf l x.b = x.pins := by
  unfold pinsOf; rw [findB_mem hn hx]
theorem pinsOf_no {l : List Bf} {n : Nat} (h : ∀ x ∈ l, x.b ≠ n) : pinsOf l n = 0 := by
  unfold pinsOf
  cases hf : findB l n with
  | none => rfl
  | some x => exact absurd (findB_some hf).2 (h x (findB_some hf).1)
theorem ask_pins {C C' : Ca} {b : Nat} {l0 : List Bf} {y : Bf} (h : WFC C) (ha : Asked C C' b l0 y) (n : Nat) : pinsOf C'.l n = pinsOf C.l n := by
  by_cases h1 : ∃ x ∈ C'.l, x.b = n
  · obtain ⟨x, hx, rfl⟩ := h1
    rw [pinsOf_mem ha.wf.nodup hx]
    rcases ha.from_ x hx with hx' | ⟨rfl, hno⟩
    · rw [pinsOf_mem h.nodup hx']
    · exact (pinsOf_no (findB_none hno)).symm
  · rw [pinsOf_no fun x hx e => h1 ⟨x, hx, e⟩]
    by_cases h2 : ∃ x ∈ C.l, x.b = n
    · obtain ⟨x, hx, rfl⟩ := h2
      rw [pinsOf_mem h.nodup hx]
      by_cases hp : x.pins = 0
      · exact hp.symm
      · exact absurd ⟨x, ha.keep x hx (by simp [idleB, hp]), rfl⟩ h1
    · exact (pinsOf_no fun x hx e => h2 ⟨x, hx, e⟩).symm
theorem ask_dirty {C C' : Ca} {b : Nat} {l0 : List Bf} {y : Bf} (ha : Asked C C' b l0 y) {x : Bf} (hx : x ∈ C.l) (hc : clean C.D x = false) : x ∈ C'.l := ha.keep x hx (by simp [idleB, hc])
/-- The last one has other bytes. -/
def layL (l0 : List Bf) (y : Bf) (ys : Bk) : List Bf := l0 ++ [{ y with data := ys }]
theorem turn_snoc {l0 : List Bf} {y z : Bf} (h : ∀ x ∈ l0, x.b ≠ z.b) (e : y.b = z.b) : turn (l0 ++ [y]) z = l0 ++ [z] := by
  unfold turn
  rw [List.map_append]
  have : (l0.map fun x => if x.b = z.b then z else x) = l0 := by
    conv => rhs; rw [← List.map_id l0]
    apply List.map_congr_left
    intro x hx
    rw [if_neg (h x hx)]; rfl
  rw [this]
  simp [e]
theorem turn_mem {l : List Bf} {y : Bf} (h : ∃ x ∈ l, x.b = y.b) : y ∈ turn l y := by
  obtain ⟨x, hx, e⟩ := h
  exact List.mem_map.2 ⟨x, hx, by rw [if_pos e]⟩
theorem turn_other {l : List Bf} {y x : Bf} (hx : x ∈ l) (e : x.b ≠ y.b) : x ∈ turn l y := List.mem_map.2 ⟨x, hx, by rw [if_neg e]⟩
theorem pins_turn {l : List Bf} (hn : (l.map (·.b)).Nodup) {x y : Bf} (hx : x ∈ l) (e : x.b = y.b) (n : Nat) : pinsOf (turn l y) n = if n = y.b then y.pins else pinsOf l n := by
  have hn' : ((turn l y).map (·.b)).Nodup := by rw [turn_b]; exact hn
  by_cases h : n = y.b
  · subst h
    rw [if_pos rfl, pinsOf_mem hn' (turn_mem ⟨x, hx, e⟩)]
  · rw [if_neg h]
    by_cases h2 : ∃ z ∈ l, z.b = n
    · obtain ⟨z, hz, rfl⟩ := h2
      rw [pinsOf_mem hn hz, pinsOf_mem hn' (turn_other hz h)]
    · rw [pinsOf_no fun z hz e => h2 ⟨z, hz, e⟩]
      refine pinsOf_no fun z hz ez => ?_
      rcases mem_turn hz with rfl | ⟨hz, _⟩
      · exact h ez.symm
      · exact h2 ⟨z, hz, ez⟩
end Go.Proofs.Ytocjjigmpgekfaa
