/- Layer 10, the program's cache: pins, drops, what is held and dirty, a new one. -/
import Derived.Test.YtocjjigmpgekfaaCacheG
open Go Go.Den Go.Proofs
namespace Go.Proofs.Ytocjjigmpgekfaa
section
variable {w0 w w' : World} {R : Nat → Prop} {rl : Nat → Nat} {c d m sb mb sc lc : Nat} {la : Option Addr} {L mp : List (Int × Value)} {C : Ca} {K : Value → World → Prop}
theorem CIn.keepS {S : Nat → Prop} (h : CIn w0 R rl w c d m sb mb sc lc la L mp C) (k : Mod S w w') (hs : ∀ x, R x → ¬ S x) (hw : ∀ x, x < w0.heap.size → ¬ S x) : CIn w0 R rl w' c d m sb mb sc lc la L mp C := by
  have hr : ∀ {x}, rl x ≠ 0 → ¬ S x := fun hx => hs _ (h.reg _ hx)
  exact {
    disk := h.disk.keep k fun x hx => hr (by omega)
    cell := h.cell.keep k (hr (by rw [h.rc]; omega))
    map := h.map.keep k (hr (by rw [h.rm]; omega))
    row := h.row.keep k fun q hq => hr (by rw [h.rrow q hq]; omega)
    rc := h.rc
    rm := h.rm
    rrow := h.rrow
    bufs := fun x hx => by
      obtain ⟨q, g, cc, h1, h2, h3, h4, h6⟩ := h.bufs x hx
      exact ⟨q, g, cc, h1, h2, h3, h4.keep k (hr (by omega)), h6.keep k (hr (by omega))⟩
    keys := h.keys
    wf := h.wf
    reg := h.reg
    lo := fun x hx => by have := h.lo x hx; have := k.size; omega
    mod := h.mod.trans k fun x hx e => absurd e (hw x hx) }
theorem held_c {n : Int} (h : CIn w0 R rl w c d m sb mb sc lc la L mp C) (hk1 : heldC C n = none → K (.tuple #[.pointer none, .int .i64 20]) w)
    (hk2 : ∀ x q, heldC C n = some x → lookupL mp n = some (.pointer (some ⟨q, 0, none⟩)) → K (.tuple #[.pointer (some ⟨q, 0, none⟩), .int .i64 0]) w) : Cal Try.prog F_cache_Cache_held #[.pointer (some ⟨c, 0, none⟩), .int .i64 n] w K := by
  apply C_cache_Cache_held
  unfold D_cache_Cache_held
  have hlk := look2_run (P := Try.prog) mapCache h.map (k := n)
  refine ff rfl ⟨_, rfl, some m, h.lm, ?_⟩
  rcases held_lookup h n with ⟨e1, e2⟩ | ⟨x, q, e1, e2⟩
  · rw [e2] at hlk
    exact ⟨none, false, hlk, tt rfl (hk1 e1)⟩
  · rw [e2] at hlk
    exact ⟨some ⟨q, 0, none⟩, true, hlk, ff rfl (hk2 x q e1 e2)⟩
/-- A buffer's pins are turned. -/
theorem pins_store {x : Bf} {q p : Nat} (h : CIn w0 R rl w c d m sb mb sc lc la L mp C) (hx : x ∈ C.l) (hq : lookupL mp (x.b : Int) = some (.pointer (some ⟨q, 0, none⟩))) (hp : p ≤ 1000000) :
    ∃ w', RuU (Instr.storeAt 3 (.pointer (some (Addr.add ⟨q, 0, none⟩ 1))) (.int .i64 p)) w w' ∧ Mod R w w' ∧ Cx w0 (Gro R w w') w' c d { C with l := turn C.l { x with pins := p } } := by
  obtain ⟨q2, g, cc, b1, b2, b3, b4, b6⟩ := h.bufs x hx
  rw [hq] at b1
  simp only [Option.some.injEq, Value.pointer.injEq, Addr.mk.injEq, and_true] at b1
  subst b1
  obtain ⟨w1, t1, t2, t3, t4⟩ := b4.store (P := Try.prog) (T := 3) (i := 1) (v := .int .i64 p) (by kernel_rfl) (by simp) rfl
  refine ⟨w1, by rw [add_none]; exact t1, t3.mono fun z _ e => h.reg z (by rw [e, b2]; omega), ?_⟩
  obtain ⟨rl', h'⟩ := h.turn (y := { x with pins := p }) (q := q) (g := g) (cc := cc) t3 (fun z e => by rw [e]; exact b2) ⟨x, hx, rfl⟩ hq b2 (.inl b3) (by simpa using t2) (b6.keep t3 fun e => by rw [e] at b3; omega)
    (h.wf.turn (h.wf.lt x hx) (h.wf.data x hx) hp)
  exact ⟨rl', m, sb, mb, sc, lc, la, L, mp, h'⟩
theorem cPin_c {n : Int} (hC : Cx w0 R w c d C) (hp : ∀ x ∈ C.l, x.pins ≤ 999999) (hk : ∀ w', Mod R w w' → Cx w0 (Gro R w w') w' c d (pinX C n).1 → K (.int .i64 (pinX C n).2) w') : Cal Try.prog F_cache_Cache_Pin #[.pointer (some ⟨c, 0, none⟩), .int .i64 n] w K := by
  have hX := hC
  obtain ⟨rl, m, sb, mb, sc, lc, la, L, mp, h⟩ := hC
  apply C_cache_Cache_Pin
  unfold D_cache_Cache_Pin
  unfold pinX at hk
  refine held_c h (fun e => ⟨_, _, rfl, Share.dup (ff rfl ?_)⟩) fun x q e hq => ⟨_, _, rfl, Share.dup (tt rfl ?_)⟩
  · rw [e] at hk
    exact hk w (Mod.refl _ _) (hX.gro (Mod.refl _ _))
  · rw [e] at hk
    obtain ⟨hx, rfl⟩ := heldC_some e
    obtain ⟨q2, g, cc, b1, b2, b3, b4, b6⟩ := h.bufs x hx
    have hpx := hp x hx
    have hq' := hq
    rw [hq] at b1
    simp only [Option.some.injEq, Value.pointer.injEq, Addr.mk.injEq, and_true] at b1
    subst b1
    obtain ⟨w1, t1, t2, t3⟩ := pins_store (p := x.pins + 1) h hx hq' (by omega)
    refine ⟨_, rfl, _, lpins b4, _, rfl, w1, ?_, hk w1 t2 t3⟩
    rw [wrap64 (x := (x.pins : Int) + 1) (by omega) (by omega)]
    exact t1
theorem cUnpin_c {n : Int} (hC : Cx w0 R w c d C) (hk : ∀ w', Mod R w w' → Cx w0 (Gro R w w') w' c d (unpinX C n).1 → K (.int .i64 (unpinX C n).2) w') : Cal Try.prog F_cache_Cache_Unpin #[.pointer (some ⟨c, 0, none⟩), .int .i64 n] w K := by
  have hX := hC
  obtain ⟨rl, m, sb, mb, sc, lc, la, L, mp, h⟩ := hC
  apply C_cache_Cache_Unpin
  unfold D_cache_Cache_Unpin
  unfold unpinX at hk
  refine held_c h (fun e => ⟨_, _, rfl, tt rfl ?_⟩) fun x q e hq => ⟨_, _, rfl, ff rfl ?_⟩
  · rw [e] at hk
    exact hk w (Mod.refl _ _) (hX.gro (Mod.refl _ _))
  · rw [e] at hk
    obtain ⟨hx, rfl⟩ := heldC_some e
    obtain ⟨q2, g, cc, b1, b2, b3, b4, b6⟩ := h.bufs x hx
    have hpx := h.wf.pins x hx
    have hq' := hq
    rw [hq] at b1
    simp only [Option.some.injEq, Value.pointer.injEq, Addr.mk.injEq, and_true] at b1
    subst b1
    refine ⟨_, rfl, _, lpins b4, cond_of (fun hb => ?_) (fun hb => ?_)⟩
    · have h0 : x.pins = 0 := by simpa using hb
      simp only [h0, if_pos] at hk
      exact hk w (Mod.refl _ _) (hX.gro (Mod.refl _ _))
    · have h0 : ¬ x.pins = 0 := by simpa using hb
      simp only [h0, if_neg, not_false_eq_true] at hk
      obtain ⟨w1, t1, t2, t3⟩ := pins_store (p := x.pins - 1) h hx hq' (by omega)
      refine ⟨_, rfl, _, lpins b4, _, rfl, w1, ?_, hk w1 t2 t3⟩
      rw [wrap64 (x := (x.pins : Int) - 1) (by omega) (by omega), show (x.pins : Int) - 1 = ((x.pins - 1 : Nat) : Int) by omega]
      exact t1
theorem cFlush_c (hC : Cx w0 R w c d C) (hk : ∀ w', Mod R w w' → Cx w0 (Gro R w w') w' c d { C with D := flSt C.D } → K (.int .i64 0) w') : Cal Try.prog F_cache_Cache_Flush #[.pointer (some ⟨c, 0, none⟩)] w K := by
  obtain ⟨rl, m, sb, mb, sc, lc, la, L, mp, h⟩ := hC
  apply C_cache_Cache_Flush
  unfold D_cache_Cache_Flush
  refine ff rfl ⟨_, rfl, _, h.ld, Flush_c h.disk h.wf.small fun w1 L1 m1 h1 => ⟨_, rfl, ?_⟩⟩
  have hsm : Small (flSt C.D) := by
    unfold flSt; split
    · exact h.wf.small
    · intro v hv; simp at hv; obtain ⟨u, _, rfl⟩ := hv; simp
  obtain ⟨rl', h'⟩ := h.dsk m1 (fun _ e => e) (h1.gro w) hsm (by unfold flSt; split <;> simp)
  exact hk w1 (m1.mono fun z _ e => h.reg z (by have e4 : rl z = 4 := e; omega)) ⟨rl', m, sb, mb, sc, lc, la, L1, mp, h'⟩
theorem CIn.rowNil (h : CIn w0 R rl w c d m sb mb sc lc la L mp C) (e : la = none) : C.l.length = 0 ∧ lc = 0 := by subst e; exact h.row.zero
def cl1 (C : Ca) (k : Int) : Bool := match findB C.l k.toNat with | some x => clean C.D x | none => true
theorem build_cache (w : World) (p : Option Addr) (n : Int) (mm : Option Nat) : (Instr.build 85 #[(0, .pointer p), (1, .int .i64 n), (2, .map mm)]).run Try.prog w = .ok (.agg ⟨[.pointer p, .int .i64 n, .map mm, .slice none 0 0]⟩) w := by kernel_rfl
theorem cNew_c {D : St} {n : Int} (hd : DiskIn w R d sb mb sc L D) (hsm : Small D) (hlo : ∀ x, R x → w0.heap.size ≤ x ∧ x < w.heap.size) (hm : Mod No w0 w)
    (hk1 : n < 1 ∨ 4096 < n → K (.tuple #[.pointer none, .int .i64 1]) w)
    (hk2 : ∀ k : Nat, n = k → 1 ≤ k → k ≤ 4096 → ∀ w' c, Mod No w w' → Cx w0 (Gro R w w') w' c d ⟨D, k, []⟩ → K (.tuple #[.pointer (some ⟨c, 0, none⟩), .int .i64 0]) w') : Cal Try.prog F_cache_New #[.pointer (some ⟨d, 0, none⟩), .int .i64 n] w K := by
  classical
  apply C_cache_New
  unfold D_cache_New
  refine ff rfl (Share.or ⟨_, rfl, cond_of (fun hb => ?_) (fun hb => ?_)⟩)
  · exact hk1 (by simpa using hb)
  have hn : ¬ (n < 1 ∨ 4096 < n) := by simpa using hb
  obtain ⟨k, rfl⟩ := Int.eq_ofNat_of_zero_le (show 0 ≤ n by omega)
  refine ⟨_, _, makeMap_run, _, fun w => build_cache w _ _ _, _, _, box_run, ?_⟩
  have m1 : Mod No w (w.alloc (.map #[] 0)) := (Mod.refl No w).alloc _
  have m2 : Mod No (w.alloc (.map #[] 0)) ((w.alloc (.map #[] 0)).alloc (.cells ⟨[.pointer (some ⟨d, 0, none⟩), .int .i64 k, .map (some w.heap.size), .slice none 0 0]⟩ 85)) := (Mod.refl No _).alloc _
  have hs1 : (w.alloc (.map #[] 0)).heap.size = w.heap.size + 1 := by simp
  have hs2 : ((w.alloc (.map #[] 0)).alloc (.cells ⟨[.pointer (some ⟨d, 0, none⟩), .int .i64 k, .map (some w.heap.size), .slice none 0 0]⟩ 85)).heap.size = w.heap.size + 2 := by simp
  refine hk2 k rfl (by omega) (by omega) ((w.alloc (.map #[] 0)).alloc (.cells ⟨[.pointer (some ⟨d, 0, none⟩), .int .i64 k, .map (some w.heap.size), .slice none 0 0]⟩ 85)) _ (m1.no m2) ?_
  have hw0 := hm.size
  have hR : ∀ x, R x → x ≠ w.heap.size ∧ x ≠ w.heap.size + 1 := fun x hx => by have := hlo x hx; omega
  refine ⟨fun x => if x = w.heap.size + 1 then 1 else if x = w.heap.size then 2 else if R x then 4 else 0, w.heap.size, sb, mb, sc, 0, none, L, [], ?_⟩
  have e4 : (fun x => (if x = w.heap.size + 1 then 1 else if x = w.heap.size then 2 else if R x then 4 else 0) = 4) = R := by
    funext x
    apply propext
    constructor
    · intro e
      split at e
      · omega
      · split at e
        · omega
        · split at e
          · assumption
          · omega
    · intro hx
      rw [if_neg (hR x hx).2, if_neg (hR x hx).1, if_pos hx]
  exact {
    disk := by rw [e4]; exact (hd.nos m1).nos m2
    cell := by rw [hs1]; rw [← hs1]; exact AtU.new
    map := MapAt.new.keep m2 id
    row := Own.nil elemZ_ints
    rc := by rw [hs1]; simp
    rm := by simp
    rrow := fun q hq => by cases hq
    bufs := fun x hx => by cases hx
    keys := fun p hp => by cases hp
    wf := { small := hsm, most0 := by show 1 ≤ k; omega, most1 := by show k ≤ 4096; omega, len := Nat.zero_le _, nodup := by simp, lt := fun x hx => (by cases hx), data := fun x hx => (by cases hx), pins := fun x hx => (by cases hx) }
    reg := fun x hx => by
      by_cases hRx : R x
      · exact .inl hRx
      · right
        by_cases e1 : x = w.heap.size + 1
        · omega
        · by_cases e2 : x = w.heap.size
          · omega
          · simp [e1, e2, hRx] at hx
    lo := fun x hx => by
      rcases hx with hx | hx
      · have := hlo x hx; omega
      · omega
    mod := (hm.no m1).no m2 }
end
end Go.Proofs.Ytocjjigmpgekfaa
