/- Layer 10: what is read, in plain terms. -/
import Derived.Test.YtgcecmfjpljpcaaCacheM
import Derived.Test.YtgcecmfjpljpcaaDiskS
import Derived.Test.YtgcecmfjpljpcaaRefB
open Go Go.Den Go.Proofs
namespace Go.Proofs.Ytgcecmfjpljpcaa
theorem atD_wr {D : St} {b : Nat} {ys : Bk} (hb : b < D.vs.length) (hy : ys.length = 256) (hl : D.left = -1) :
    (wrSt D b ys).left = -1 ∧ (wrSt D b ys).vs.length = D.vs.length ∧ wrE D b ys = 0 ∧ ∀ n, n < D.vs.length → atD (wrSt D b ys) n = if n = b then ys else atD D n := by
  have hv : D.vs[b]? = some D.vs[b] := by simp [hb]
  obtain ⟨e1, e2⟩ := wr_ok hv hy (by omega)
  rw [e2]
  refine ⟨by simp [dec, hl], by simp, e1, fun n hn => ?_⟩
  have hver : ∀ (E : St) (m : Nat) (v : List Bk), E.vs[m]? = some v → atD E m = lastV v := fun E m v h => by
    unfold atD verOf
    rw [if_neg (by omega), Int.toNat_natCast, h]; rfl
  by_cases h : n = b
  · subst h
    rw [if_pos rfl, hver _ n (D.vs[n] ++ [ys]) (by simp [hb])]
    unfold lastV
    rw [List.getLastD_eq_getLast?, List.getLast?_append]; simp
  · rw [if_neg h, hver _ n D.vs[n] (by show (D.vs.set b _)[n]? = _; rw [List.getElem?_set_ne (Ne.symm h)]; simp [hn]), hver D n D.vs[n] (by simp [hn])]
/-- The law's state in plain terms. -/
structure RdI (acts : List A3) (i : Nat) (C : Ca) (laid : List Bk) : Prop where
  n : laid.length = 4
  left : C.D.left = -1
  len : C.D.vs.length = 4
  ver : Bnd C.D (i + 1)
  fill : ∀ (b : Nat) (s : Bk), laid[b]? = some s → s = [] ∨ s.length = 256
  A : ∀ (b : Nat) (s : Bk), laid[b]? = some s → s ≠ [] → (∀ x ∈ C.l, x.b = b → x.data = s) ∧ ((∀ x ∈ C.l, x.b ≠ b) → atD C.D b = s)
  B : ∀ (b : Nat), laid[b]? = some [] → ∀ x ∈ C.l, x.b = b → x.data = atD C.D b ∨ wroteB acts i (b : Int) = true
section
variable {acts : List A3} {i b : Nat} {C C' : Ca} {laid : List Bk} {l0 : List Bf} {y : Bf}
theorem RdI.ask (h : RdI acts i C laid) (hw : WFC C) (A : Asked C C' b l0 y) : RdI acts i C' laid where
  n := h.n
  left := by rw [A.D]; exact h.left
  len := by rw [A.D]; exact h.len
  ver := by rw [A.D]; exact h.ver
  fill := h.fill
  A := fun m s hs hne => by
    obtain ⟨h1, h2⟩ := h.A m s hs hne
    rw [A.D]
    constructor
    · intro x hx hxm
      rcases A.from_ x hx with hx | ⟨rfl, hno⟩
      · exact h1 x hx hxm
      · subst hxm
        exact h2 (findB_none hno)
    · intro hno
      by_cases he : ∃ x ∈ C.l, x.b = m
      · obtain ⟨x, hx, hxm⟩ := he
        have hd := h1 x hx hxm
        by_cases hi : idleB C.D x = true
        · unfold idleB at hi
          simp only [Bool.and_eq_true] at hi
          have hc := hi.2
          unfold clean at hc
          have := of_decide_eq_true hc
          rw [← hd, this, hxm]
        · exact absurd hxm (hno x (A.keep x hx (by simpa using hi)))
      · exact h2 fun x hx e => he ⟨x, hx, e⟩
  B := fun m hs x hx hxm => by
    rw [A.D]
    rcases A.from_ x hx with hx | ⟨rfl, hno⟩
    · exact h.B m hs x hx hxm
    · subst hxm; exact .inl rfl
theorem wroteB_mono {acts : List A3} {i j : Nat} {b : Int} (h : wroteB acts i b = true) (hij : i ≤ j) : wroteB acts j b = true := by
  unfold wroteB at h ⊢
  rw [List.any_eq_true] at h ⊢
  obtain ⟨z, hz, hz2⟩ := h
  exact ⟨z, (List.take_subset_take_left acts hij) hz, hz2⟩
theorem RdI.next (h : RdI acts i C laid) : RdI acts (i + 1) C laid where
  n := h.n
  left := h.left
  len := h.len
  ver := h.ver.mono (by omega)
  fill := h.fill
  A := h.A
  B := fun m hs x hx hxm => (h.B m hs x hx hxm).imp id fun e => wroteB_mono e (by omega)
theorem RdI.rd (h : RdI acts i C laid) (hw : WFC C) (hD : WF C.D) (hb : b < 4) : RdI acts i (rdX C b).1 laid ∧ (rdX C b).1.D = C.D ∧ ((rdX C b).2.1 = 0 → ∃ y ∈ (rdX C b).1.l, y.b = b ∧ (rdX C b).2.2 = y.data) := by
  have hbl : b < C.D.vs.length := by rw [h.len]; exact hb
  unfold rdX
  rw [if_neg (by rw [(rd_at C.D hbl).1]; simp), Int.toNat_natCast]
  cases ha : askC C b with
  | none => exact ⟨h, rfl, fun e => by simp at e⟩
  | some C' =>
    obtain ⟨l0, y, A⟩ := ask_facts hw hD hbl ha
    refine ⟨h.ask hw A, A.D, fun _ => ⟨y, by rw [A.l]; simp, A.yb, ?_⟩⟩
    show lastD C'.l = _
    unfold lastD; rw [A.l]; simp
theorem RdI.lay (h : RdI acts i C laid) (hw : WFC C) (hD : WF C.D) (hb : b < 4) {ys : Bk} (hy : ys.length = 256) : (layX C b ys).1.D = C.D ∧ ((layX C b ys).2 = 0 → RdI acts i (layX C b ys).1 (laid.set b ys)) ∧ ((layX C b ys).2 ≠ 0 → RdI acts i (layX C b ys).1 laid) := by
  have hbl : b < C.D.vs.length := by rw [h.len]; exact hb
  unfold layX
  rw [if_neg (by rw [(rd_at C.D hbl).1]; simp), if_neg (by omega), Int.toNat_natCast]
  cases ha : askC C b with
  | none => exact ⟨rfl, fun e => by simp at e, fun _ => h⟩
  | some C' =>
    obtain ⟨l0, y, A⟩ := ask_facts hw hD hbl ha
    have h' := h.ask hw A
    have hyl : y ∈ C'.l := by rw [A.l]; simp
    refine ⟨A.D, fun _ => ?_, fun e => absurd rfl e⟩
    have hne : ys ≠ [] := fun e => by rw [e] at hy; simp at hy
    have get : ∀ (m : Nat) (s : Bk), (laid.set b ys)[m]? = some s → (m = b ∧ s = ys) ∨ (m ≠ b ∧ laid[m]? = some s) := fun m s hs => by
      by_cases hm : b = m
      · subst hm
        rw [List.getElem?_set_self (by rw [h.n]; exact hb)] at hs
        exact .inl ⟨rfl, (Option.some.inj hs).symm⟩
      · rw [List.getElem?_set_ne hm] at hs
        exact .inr ⟨fun e => hm e.symm, hs⟩
    exact {
      n := by rw [List.length_set]; exact h.n
      left := h'.left
      len := h'.len
      ver := h'.ver
      fill := fun m s hs => by
        rcases get m s hs with ⟨_, rfl⟩ | ⟨_, hs⟩
        · exact .inr hy
        · exact h.fill m s hs
      A := fun m s hs hs0 => by
        rcases get m s hs with ⟨rfl, rfl⟩ | ⟨hm, hs⟩
        · constructor
          · intro x hx hxm
            rcases mem_turn hx with rfl | ⟨_, hne'⟩
            · rfl
            · exact absurd hxm hne'
          · intro hno
            exact absurd rfl (hno _ (turn_mem ⟨y, hyl, A.yb⟩))
        · obtain ⟨h1, h2⟩ := h'.A m s hs hs0
          constructor
          · intro x hx hxm
            rcases mem_turn hx with rfl | ⟨hx, _⟩
            · exact absurd hxm.symm hm
            · exact h1 x hx hxm
          · intro hno
            refine h2 fun x hx e => ?_
            exact hno x (turn_other hx (by show x.b ≠ b; omega)) e
      B := fun m hs x hx hxm => by
        rcases get m [] hs with ⟨_, e⟩ | ⟨hm, hs⟩
        · exact absurd e.symm hne
        · rcases mem_turn hx with rfl | ⟨hx, _⟩
          · exact absurd hxm.symm hm
          · exact h'.B m hs x hx hxm }
theorem RdI.wr (h : RdI acts i C laid) (hw : WFC C) (hD : WF C.D) (hb : b < 4) {ys : Bk} (hy : ys.length = 0 ∨ (ys.length = 256 ∧ wroteB acts (i + 1) (b : Int) = true)) : RdI acts (i + 1) (wrX C b ys).1 laid := by
  have hbl : b < C.D.vs.length := by rw [h.len]; exact hb
  unfold wrX
  rw [if_neg (by rw [(rd_at C.D hbl).1]; simp), if_neg (by omega), Int.toNat_natCast]
  cases ha : askC C b with
  | none => exact h.next
  | some C' =>
    obtain ⟨l0, y, A⟩ := ask_facts hw hD hbl ha
    have h' := h.ask hw A
    have hyl : y ∈ C'.l := by rw [A.l]; simp
    have hld : lastD C'.l = y.data := by unfold lastD; rw [A.l]; simp
    have hyd := A.wf.data y hyl
    have himg : (if ys.length = 0 then lastD C'.l else ys).length = 256 := by
      split
      · rw [hld]; exact hyd
      · rcases hy with hy | hy
        · omega
        · exact hy.1
    have hbl' : b < C'.D.vs.length := by rw [A.D]; exact hbl
    obtain ⟨a1, a2, a3, a4⟩ := atD_wr hbl' himg h'.left
    show RdI acts (i + 1) { C' with D := wrSt C'.D b (if ys.length = 0 then lastD C'.l else ys) } laid
    have hx4 : ∀ x ∈ C'.l, x.b < C'.D.vs.length := A.wf.lt
    exact {
      n := h.n
      left := a1
      len := by show (wrSt C'.D b _).vs.length = 4; rw [a2]; exact h'.len
      ver := Bnd_wr h'.ver _ _
      fill := h.fill
      A := fun m s hs hs0 => by
        obtain ⟨h1, h2⟩ := h'.A m s hs hs0
        refine ⟨h1, fun hno => ?_⟩
        show atD (wrSt C'.D b _) m = s
        have hm : m ≠ b := fun e => hno y hyl (by rw [e]; exact A.yb)
        have hml : m < 4 := by have := (List.getElem?_eq_some_iff.1 hs).1; rw [h.n] at this; exact this
        rw [a4 m (by rw [h'.len]; exact hml), if_neg hm]
        exact h2 hno
      B := fun m hs x hx hxm => by
        show x.data = atD (wrSt C'.D b _) m ∨ _
        have hml : m < C'.D.vs.length := by rw [← hxm]; exact hx4 x hx
        rw [a4 m hml]
        by_cases hm : m = b
        · rw [if_pos hm]
          rcases hy with hy | hy
          · rw [if_pos hy]
            left
            have : x = y := map_inj A.wf.nodup hx hyl (by rw [hxm, hm, A.yb])
            rw [this, hld]
          · right; rw [hm]; exact hy.2
        · rw [if_neg hm]
          exact (h'.B m hs x hx hxm).imp id fun e => wroteB_mono e (by omega) }
theorem RdI.drop (h : RdI acts i C laid) (hb : b < 4) : (dropX C b).1.D = C.D ∧ ((dropX C b).2 = 0 → RdI acts i (dropX C b).1 (laid.set b [])) ∧ ((dropX C b).2 ≠ 0 → RdI acts i (dropX C b).1 laid) := by
  unfold dropX
  cases hf : heldC C (b : Int) with
  | none => exact ⟨rfl, fun e => by simp at e, fun _ => h⟩
  | some x =>
    by_cases hp : x.pins > 0
    · have e : (if x.pins > 0 then (C, (32 : Int)) else ({ C with l := others C.l (b : Int).toNat }, 0)) = (C, 32) := if_pos hp
      simp only [e]
      exact ⟨trivial, fun e => by simp at e, fun _ => h⟩
    · have e : (if x.pins > 0 then (C, (32 : Int)) else ({ C with l := others C.l (b : Int).toNat }, 0)) = ({ C with l := others C.l b }, 0) := by rw [if_neg hp, Int.toNat_natCast]
      simp only [e]
      refine ⟨trivial, fun _ => ?_, fun e => absurd rfl e⟩
      have get : ∀ (m : Nat) (s : Bk), (laid.set b [])[m]? = some s → (m = b ∧ s = []) ∨ (m ≠ b ∧ laid[m]? = some s) := fun m s hs => by
        by_cases hm : b = m
        · subst hm
          rw [List.getElem?_set_self (by rw [h.n]; exact hb)] at hs
          exact .inl ⟨rfl, (Option.some.inj hs).symm⟩
        · rw [List.getElem?_set_ne hm] at hs
          exact .inr ⟨fun e => hm e.symm, hs⟩
      exact {
        n := by rw [List.length_set]; exact h.n
        left := h.left
        len := h.len
        ver := h.ver
        fill := fun m s hs => by
          rcases get m s hs with ⟨_, rfl⟩ | ⟨_, hs⟩
          · exact .inl rfl
          · exact h.fill m s hs
        A := fun m s hs hs0 => by
          rcases get m s hs with ⟨_, rfl⟩ | ⟨hm, hs⟩
          · exact absurd rfl hs0
          · obtain ⟨h1, h2⟩ := h.A m s hs hs0
            refine ⟨fun x hx hxm => h1 x (mem_others.1 hx).1 hxm, fun hno => h2 fun x hx e => ?_⟩
            exact hno x (mem_others.2 ⟨hx, by omega⟩) e
        B := fun m hs x hx hxm => by
          rcases get m [] hs with ⟨e, _⟩ | ⟨hm, hs⟩
          · have := (mem_others.1 hx).2; omega
          · exact h.B m hs x (mem_others.1 hx).1 hxm }
end
end Go.Proofs.Ytgcecmfjpljpcaa
