/- Layer 10, the program's cache: its calls. -/
import Derived.Test.YtocjjigmpgekfaaCacheE
import Derived.Test.YtocjjigmpgekfaaCacheP
open Go Go.Den Go.Proofs
namespace Go.Proofs.Ytocjjigmpgekfaa
def lastD (l : List Bf) : Bk := match l.getLast? with | some x => x.data | none => []
/-- What calls answer, and the cache behind them. -/
def rdX (C : Ca) (n : Int) : Ca × Int × Bk :=
  if errOf C.D n ≠ 0 then (C, errOf C.D n, []) else match askC C n.toNat with | none => (C, 5, []) | some C' => (C', 0, lastD C'.l)
def layX (C : Ca) (n : Int) (ys : Bk) : Ca × Int :=
  if errOf C.D n ≠ 0 then (C, errOf C.D n) else if ys.length ≠ 256 then (C, 4) else match askC C n.toNat with | none => (C, 5) | some C' => ({ C' with l := turn C'.l ⟨n.toNat, ys, pinsOf C'.l n.toNat⟩ }, 0)
def wrX (C : Ca) (n : Int) (ys : Bk) : Ca × Int :=
  if errOf C.D n ≠ 0 then (C, errOf C.D n) else if ys.length ≠ 0 ∧ ys.length ≠ 256 then (C, 4) else match askC C n.toNat with
    | none => (C, 5)
    | some C' => ({ C' with D := wrSt C'.D n (if ys.length = 0 then lastD C'.l else ys) }, wrE C'.D n (if ys.length = 0 then lastD C'.l else ys))
def heldC (C : Ca) (n : Int) : Option Bf := if n < 0 then none else findB C.l n.toNat
def pinX (C : Ca) (n : Int) : Ca × Int := match heldC C n with | none => (C, 20) | some x => ({ C with l := turn C.l { x with pins := x.pins + 1 } }, 0)
def unpinX (C : Ca) (n : Int) : Ca × Int := match heldC C n with | none => (C, 20) | some x => if x.pins = 0 then (C, 6) else ({ C with l := turn C.l { x with pins := x.pins - 1 } }, 0)
def dropX (C : Ca) (n : Int) : Ca × Int := match heldC C n with | none => (C, 20) | some x => if x.pins > 0 then (C, 32) else ({ C with l := others C.l n.toNat }, 0)
def drt (C : Ca) : List Int := sorted ((nums C.l).filter fun k => !(match findB C.l k.toNat with | some x => clean C.D x | none => true))
theorem heldC_some {C : Ca} {n : Int} {x : Bf} (h : heldC C n = some x) : x ∈ C.l ∧ n = (x.b : Int) := by
  unfold heldC at h
  split at h
  · cases h
  · have := findB_some h; exact ⟨this.1, by omega⟩
section
variable {w0 w w' : World} {R : Nat → Prop} {rl : Nat → Nat} {c d m sb mb sc lc : Nat} {la : Option Addr} {L mp : List (Int × Value)} {C : Ca} {K : Value → World → Prop}
theorem held_lookup (h : CIn w0 R rl w c d m sb mb sc lc la L mp C) (n : Int) : (heldC C n = none ∧ lookupL mp n = none) ∨ ∃ x q, heldC C n = some x ∧ lookupL mp n = some (.pointer (some ⟨q, 0, none⟩)) := by
  unfold heldC
  by_cases hn : n < 0
  · rw [if_pos hn]
    refine .inl ⟨rfl, ?_⟩
    cases hl : lookupL mp n with
    | none => rfl
    | some v =>
      obtain ⟨x, _, e⟩ := h.keys _ (look_mem hl)
      have e' : n = x.b := e
      omega
  · rw [if_neg hn]
    obtain ⟨b, rfl⟩ := Int.eq_ofNat_of_zero_le (show 0 ≤ n by omega)
    rw [Int.toNat_natCast]
    cases hf : findB C.l b with
    | none => exact .inl ⟨rfl, h.noKey hf⟩
    | some x =>
      obtain ⟨hx, e⟩ := findB_some hf
      obtain ⟨q, g, cc, b1, _⟩ := h.bufs x hx
      rw [e] at b1
      exact .inr ⟨x, q, rfl, b1⟩
def mayE (D : St) (n : Int) (l : Nat) (xs : List Int) : Int := if errOf D n ≠ 0 then errOf D n else if xs ≠ [] ∧ (l : Int) ∉ xs then 4 else 0
theorem cmay_c {a2 a3 : Option Addr} {l2 c2 l3 c3 : Nat} {xs : List Int} {n : Int} (h : CIn w0 R rl w c d m sb mb sc lc la L mp C) (hl : xs.length = l3) (h63 : l3 ≤ 1000) (hr : Row w a3 (iL xs))
    (hk : K (.int .i64 (mayE C.D n l2 xs)) w) : Cal Try.prog F_cache_Cache_may #[.pointer (some ⟨c, 0, none⟩), .int .i64 n, .slice a2 l2 c2, .slice a3 l3 c3] w K := by
  apply C_cache_Cache_may
  unfold D_cache_Cache_may
  refine ff rfl (Share.cut (fun x w' => x = [.bool (decide (n < 0 ∨ C.D.vs.length ≤ n))] ∧ w' = w) (cond_of (fun hb => ?_) (fun hb => ?_)) ?_)
  · have := of_decide_eq_true hb
    exact ⟨by simp [this], rfl⟩
  · have := of_decide_eq_false hb
    refine ⟨_, rfl, _, h.ld, Len_c h.disk ⟨_, rfl, ?_, rfl⟩⟩
    congr 2; rw [Bool.eq_iff_iff]; simp only [decide_eq_true_eq]; omega
  rintro x w' ⟨rfl, rfl⟩
  refine ⟨_, rfl, cond_of (fun hb => ?_) (fun hb => ?_)⟩
  · have := of_decide_eq_true hb
    have e : errOf C.D n = 3 := by unfold errOf; rw [if_pos this]
    unfold mayE at hk
    rw [e] at hk; exact hk
  · have := of_decide_eq_false hb
    have e : errOf C.D n = 0 := by unfold errOf; rw [if_neg this]
    unfold mayE at hk
    rw [e, if_neg (by omega)] at hk
    refine Share.cut (fun x w2 => x = [.bool (decide (xs ≠ [] ∧ (l2 : Int) ∉ xs))] ∧ w2 = w') (cond_of (fun hb => ?_) (fun hb => ?_)) ?_
    · have hl3 : 0 < l3 := by have := of_decide_eq_true hb; omega
      have hne : xs ≠ [] := fun e => by subst e; simp at hl; omega
      refine Contains_c hl (by omega) hr ⟨_, rfl, ?_, rfl⟩
      simp [hne]
    · have hl3 : l3 = 0 := by have := of_decide_eq_false hb; omega
      have hne : xs = [] := List.eq_nil_of_length_eq_zero (by omega)
      exact ⟨by simp [hne], rfl⟩
    · rintro x w2 ⟨rfl, rfl⟩
      refine ⟨_, rfl, cond_of (fun hb => ?_) (fun hb => ?_)⟩
      · rw [if_pos (of_decide_eq_true hb)] at hk; exact hk
      · rw [if_neg (of_decide_eq_false hb)] at hk; exact hk
theorem Cx.nos (h : Cx w0 R w c d C) (k : Mod No w w') : Cx w0 R w' c d C := by
  obtain ⟨rl, m, sb, mb, sc, lc, la, L, mp, h⟩ := h
  exact ⟨rl, m, sb, mb, sc, lc, la, L, mp, h.nos k⟩
theorem Cx.gro (h : Cx w0 R w c d C) (k : Mod No w w') : Cx w0 (Gro R w w') w' c d C := by
  obtain ⟨rl, m, sb, mb, sc, lc, la, L, mp, h⟩ := h
  exact ⟨rl, m, sb, mb, sc, lc, la, L, mp, h.gro k⟩
theorem Cx.wf (h : Cx w0 R w c d C) : WFC C ∧ WF C.D ∧ Mod No w0 w ∧ (∀ x, R x → w0.heap.size ≤ x ∧ x < w.heap.size) := by
  obtain ⟨rl, m, sb, mb, sc, lc, la, L, mp, h⟩ := h
  exact ⟨h.wf, h.disk.wf, h.mod, h.lo⟩
theorem Cq.x {b q : Nat} (h : Cq w0 R w c d b q C) : Cx w0 R w c d C := by
  obtain ⟨rl, m, sb, mb, sc, lc, la, L, mp, h, _⟩ := h
  exact ⟨rl, m, sb, mb, sc, lc, la, L, mp, h⟩
theorem Cx.keep {S : Nat → Prop} (h : Cx w0 R w c d C) (k : Mod S w w') (hs : ∀ x, R x → ¬ S x) (hw : ∀ x, x < w0.heap.size → ¬ S x) : Cx w0 R w' c d C := by
  obtain ⟨rl, m, sb, mb, sc, lc, la, L, mp, h⟩ := h
  have hr : ∀ {x}, rl x ≠ 0 → ¬ S x := fun hx => hs _ (h.reg _ hx)
  exact ⟨rl, m, sb, mb, sc, lc, la, L, mp, {
    disk := h.disk.keep k fun x hx => hr (by omega)
    cell := h.cell.keep k (hr (by rw [h.rc]; omega))
    map := h.map.keep k (hr (by rw [h.rm]; omega))
    row := h.row.keep k fun q hq => hr (by rw [h.rrow q hq]; omega)
    rc := h.rc
    rm := h.rm
    rrow := h.rrow
    bufs := fun x hx => by
      obtain ⟨q, g, cc, h1, h2, h3, h4, h6⟩ := h.bufs x hx
      exact ⟨q, g, cc, h1, h2, h3, h4.keep k (hr (by omega)), h6.keep k (hr (by omega))⟩
    keys := h.keys
    wf := h.wf
    reg := h.reg
    lo := fun x hx => by have := h.lo x hx; have := k.size; omega
    mod := h.mod.trans k fun x hx e => absurd e (hw x hx) }⟩
theorem lastD_ask {C' : Ca} {b : Nat} (h : WFC C) (hD : WF C.D) (hb : b < C.D.vs.length) (ha : askC C b = some C') : ∃ x ∈ C'.l, x.b = b ∧ lastD C'.l = x.data ∧ findB C'.l b = some x ∧ WFC C' ∧ C'.D = C.D := by
  obtain ⟨l0, y, A⟩ := ask_facts h hD hb ha
  refine ⟨y, by rw [A.l]; simp, A.yb, by unfold lastD; rw [A.l]; simp, ?_, A.wf, A.D⟩
  have := findB_mem A.wf.nodup (x := y) (by rw [A.l]; simp)
  rwa [A.yb] at this
theorem err_range {D : St} {n : Int} (h : errOf D n = 0) : ∃ b : Nat, n = b ∧ b < D.vs.length := by
  rcases err_cases (D := D) n with ⟨e, _⟩ | ⟨_, i, v, rfl, hv, _⟩
  · omega
  · exact ⟨i, rfl, (List.getElem?_eq_some_iff.1 hv).1⟩
theorem err_or (D : St) (n : Int) : errOf D n = 0 ∨ errOf D n = 3 := by
  unfold errOf; split
  · exact .inr rfl
  · exact .inl rfl

theorem cRead_c {n : Int} (hC : Cx w0 R w c d C)
    (hk : ∀ w1 w' a cc, Mod R w w1 → Mod No w1 w' → Cx w0 (Gro R w w1) w' c d (rdX C n).1 → Own Try.prog w' w1.heap.size 32 1 a (rdX C n).2.2.length cc (u8L (rdX C n).2.2) → K (.tuple #[.slice a (rdX C n).2.2.length cc, .int .i64 (rdX C n).2.1]) w') :
    Cal Try.prog F_cache_Cache_Read #[.pointer (some ⟨c, 0, none⟩), .int .i64 n] w K := by
  have hX := hC
  obtain ⟨rl, m, sb, mb, sc, lc, la, L, mp, h⟩ := hC
  apply C_cache_Cache_Read
  unfold D_cache_Cache_Read
  refine cmay_c (xs := []) h rfl (by omega) (.inl rfl) ⟨_, rfl, ?_⟩
  have hm : mayE C.D n 0 [] = errOf C.D n := by
    unfold mayE; split
    · rfl
    · rename_i e; simp at e ⊢; exact e.symm
  rw [hm]
  by_cases he : errOf C.D n = 0
  · rw [he]
    refine ff rfl ?_
    obtain ⟨b, rfl, hb⟩ := err_range he
    have hr0 : rdX C b = match askC C b with | none => (C, 5, []) | some C' => (C', 0, lastD C'.l) := by unfold rdX; rw [if_neg (by omega), Int.toNat_natCast]
    rw [hr0] at hk
    refine ask_c h hb (fun C' ha w1 q hq m1 => ⟨_, _, rfl, ff rfl ⟨_, rfl, ?_⟩⟩) fun ha w1 m1 => ⟨_, _, rfl, tt rfl ?_⟩
    · rw [ha] at hk
      obtain ⟨x, hx, hxb, hxd, hxf, hwf, hD⟩ := lastD_ask h.wf h.disk.wf hb ha
      have hxl := hwf.data x hx
      have hqx := hq.x
      obtain ⟨rl', m', sb', mb', sc', lc', la', L', mp', h', hl'⟩ := hq
      obtain ⟨q2, g, cc, b1, b2, b3, b4, b6⟩ := h'.bufs x hx
      rw [hxb, hl'] at b1
      simp only [Option.some.injEq, Value.pointer.injEq, Addr.mk.injEq, and_true] at b1
      subst b1
      refine ⟨_, _, _, lbytes b4, CloneB_c (.inr ⟨_, _, rfl, b6⟩) hxl (fun e => by cases e) (by omega) fun w2 a2 c2 o2 m2 => ⟨_, _, _, rfl, ?_⟩⟩
      have := hk w1 w2 a2 c2 m1 m2 (hqx.nos m2)
      simp only [hxd, hxl] at this
      exact this o2
    · rw [ha] at hk
      exact hk w1 w1 none 0 m1.anys (Mod.refl _ _) (hX.gro m1) (Own.nil elemZ_bytes)
  · have hr0 : rdX C n = (C, errOf C.D n, []) := by unfold rdX; rw [if_pos he]
    rw [hr0] at hk
    refine tt (by simpa using he) ?_
    exact hk w w none 0 (Mod.refl _ _) (Mod.refl _ _) (hX.gro (Mod.refl _ _)) (Own.nil elemZ_bytes)
end
end Go.Proofs.Ytocjjigmpgekfaa
