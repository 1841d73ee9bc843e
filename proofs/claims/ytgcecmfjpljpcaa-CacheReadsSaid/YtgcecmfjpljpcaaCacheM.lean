/- The statement CacheStays: what must stay. -/
import Derived.Test.YtgcecmfjpljpcaaCacheL
open Go Go.Den Go.Proofs
namespace Go.Proofs.Ytgcecmfjpljpcaa
/-- What a call does that turns no pins. -/
structure Steady (C C' : Ca) : Prop where
  D : C'.D = C.D
  most : C'.most = C.most
  dirty : ∀ x ∈ C.l, clean C.D x = false → ∃ y ∈ C'.l, y.b = x.b
  pins : ∀ n, pinsOf C'.l n = pinsOf C.l n
  bound : ∀ m, (∀ x ∈ C.l, x.pins ≤ m) → ∀ x ∈ C'.l, x.pins ≤ m
theorem Steady.refl (C : Ca) : Steady C C := ⟨rfl, rfl, fun x hx _ => ⟨x, hx, rfl⟩, fun _ => rfl, fun _ h => h⟩
theorem Steady.ask {C C' : Ca} {b : Nat} {l0 : List Bf} {y : Bf} (h : WFC C) (A : Asked C C' b l0 y) : Steady C C' where
  D := A.D
  most := A.most
  dirty := fun x hx hc => ⟨x, ask_dirty A hx hc, rfl⟩
  pins := ask_pins h A
  bound := fun m hm x hx => by
    rcases A.from_ x hx with hx | ⟨rfl, _⟩
    · exact hm x hx
    · exact Nat.zero_le _
theorem Steady.rd {C : Ca} (h : WFC C) (hD : WF C.D) {b : Nat} (hb : b < C.D.vs.length) : Steady C (rdX C b).1 := by
  unfold rdX
  rw [if_neg (by rw [(rd_at C.D hb).1]; simp), Int.toNat_natCast]
  cases ha : askC C b with
  | none => exact Steady.refl C
  | some C' =>
    obtain ⟨l0, y, A⟩ := ask_facts h hD hb ha
    exact Steady.ask h A
theorem Steady.turn {C C' : Ca} {x y : Bf} (hS : Steady C C') (hn : (C'.l.map (·.b)).Nodup) (hx : x ∈ C'.l) (hb : x.b = y.b) (hp : y.pins = x.pins) : Steady C { C' with l := Go.Proofs.Ytgcecmfjpljpcaa.turn C'.l y } where
  D := hS.D
  most := hS.most
  dirty := fun z hz hc => by
    obtain ⟨u, hu, e⟩ := hS.dirty z hz hc
    by_cases huy : u.b = y.b
    · exact ⟨y, turn_mem ⟨x, hx, hb⟩, by rw [← huy, e]⟩
    · exact ⟨u, turn_other hu huy, e⟩
  pins := fun n => by
    show pinsOf (Go.Proofs.Ytgcecmfjpljpcaa.turn C'.l y) n = _
    rw [pins_turn hn hx hb, ← hS.pins]
    split
    · rename_i e
      rw [hp, e, ← hb, pinsOf_mem hn hx]
    · rfl
  bound := fun m hm z hz => by
    rcases mem_turn hz with rfl | ⟨hz, _⟩
    · rw [hp]; exact hS.bound m hm x hx
    · exact hS.bound m hm z hz
theorem Steady.lay {C : Ca} (h : WFC C) (hD : WF C.D) {b : Nat} (hb : b < C.D.vs.length) (ys : Bk) : Steady C (layX C b ys).1 := by
  unfold layX
  rw [if_neg (by rw [(rd_at C.D hb).1]; simp), Int.toNat_natCast]
  split
  · exact Steady.refl C
  · cases ha : askC C b with
    | none => exact Steady.refl C
    | some C' =>
      obtain ⟨l0, y, A⟩ := ask_facts h hD hb ha
      have hy : y ∈ C'.l := by rw [A.l]; simp
      refine (Steady.ask h A).turn A.wf.nodup hy A.yb ?_
      show pinsOf C'.l b = y.pins
      rw [← A.yb, pinsOf_mem A.wf.nodup hy]
def pinRow (l : List Bf) : List Int := (List.range 6).map fun b => (pinsOf l b : Int)
theorem Steady.row {C C' : Ca} (h : Steady C C') : pinRow C'.l = pinRow C.l := by
  unfold pinRow
  apply List.map_congr_left
  intro b _
  rw [h.pins]
theorem pinRow_len (l : List Bf) : (pinRow l).length = 6 := by simp [pinRow]
theorem pinRow_get {l : List Bf} {b : Nat} (hb : b < 6) : (pinRow l)[b]? = some (pinsOf l b : Int) := by
  unfold pinRow
  rw [List.getElem?_map, List.getElem?_range hb]; rfl
theorem pinRow_turn {l : List Bf} (hn : (l.map (·.b)).Nodup) {x y : Bf} (hx : x ∈ l) (e : x.b = y.b) : pinRow (turn l y) = (pinRow l).set y.b (y.pins : Int) := by
  apply List.ext_getElem?
  intro j
  by_cases hj : j < 6
  · rw [pinRow_get hj, pins_turn hn hx e, List.getElem?_set]
    by_cases h : y.b = j
    · subst h
      rw [if_pos rfl, if_pos rfl, if_pos (by rw [pinRow_len]; exact hj)]
    · rw [if_neg (fun h' => h h'.symm), if_neg h, pinRow_get hj]
  · rw [List.getElem?_eq_none (by rw [pinRow_len]; omega), List.getElem?_eq_none (by rw [List.length_set, pinRow_len]; omega)]
section
variable {w0 w w' : World} {R : Nat → Prop} {c d p k i : Nat} {C : Ca}
/-- The law's state: the cache, and the pins that it counts. -/
def StI (w0 : World) (p k i c d : Nat) (w : World) : Prop :=
  ∃ R C, Cx w0 R w c d C ∧ C.most = k ∧ C.D.vs.length = 6 ∧ ¬ R p ∧ w0.heap.size ≤ p ∧ AtU w p 0 (iL (pinRow C.l)) ∧ ∀ x ∈ C.l, x.pins ≤ i
/-- And what was dirty is held. -/
def StJ (w0 : World) (p k i c d : Nat) (a : Option Addr) (dl : List Int) (w : World) : Prop :=
  ∃ R C, Cx w0 R w c d C ∧ C.most = k ∧ C.D.vs.length = 6 ∧ ¬ R p ∧ w0.heap.size ≤ p ∧ AtU w p 0 (iL (pinRow C.l)) ∧ (∀ x ∈ C.l, x.pins ≤ i) ∧ Row w a (iL dl) ∧ ∀ n ∈ dl, n ∈ nums C.l
theorem StJ.of {C' : Ca} {w1 : World} {a : Option Addr} (h : Cx w0 R w c d C) (h1 : C.most = k) (h2 : C.D.vs.length = 6) (h3 : ¬ R p) (h4 : w0.heap.size ≤ p) (h5 : AtU w p 0 (iL (pinRow C.l))) (h6 : ∀ x ∈ C.l, x.pins ≤ i)
    (hr : Row w a (iL (drt C))) (ha : ∀ q, a = some q → ¬ R q.block) (m1 : Mod R w w1) (m2 : Mod No w1 w') (h' : Cx w0 (Gro R w w1) w' c d C') (hS : Steady C C') : StJ w0 p k (i + 1) c d a (drt C) w' := by
  refine ⟨_, C', h', by rw [hS.most, h1], by rw [hS.D, h2], ?_, h4, ?_, ?_, ?_, ?_⟩
  · rintro (e | e)
    · exact h3 e
    · have := h5.lt; omega
  · rw [hS.row]; exact (h5.keep m1 h3).keep m2 id
  · intro x hx
    have := hS.bound i h6 x hx
    omega
  · exact (hr.keep m1 ha).nos m2
  · intro n hn
    obtain ⟨x, hx, rfl, hc⟩ := drt_mem h.wf.1 hn
    obtain ⟨y, hy, e⟩ := hS.dirty x hx hc
    exact List.mem_map.2 ⟨y, hy, by rw [e]⟩
theorem load_pin {w : World} {l : List Bf} {b : Nat} (h : AtU w p 0 (iL (pinRow l))) (hb : b < 6) : Ru (Instr.loadAt 3 (.pointer (some (Addr.add ⟨p, 0, none⟩ b)))) w (.int .i64 (pinsOf l b)) w := by
  rw [add_none]
  refine h.at.load (by kernel_rfl) ?_
  unfold iL
  rw [List.getElem?_map, pinRow_get hb]; rfl
end
end Go.Proofs.Ytgcecmfjpljpcaa
