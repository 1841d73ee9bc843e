/- The statement CacheStays: the law's text. -/
import Derived.Test.YtgcecmfjpljpcaaCacheM
open Go Go.Den Go.Proofs
namespace Go.Proofs.Ytgcecmfjpljpcaa
section
variable {w0 w w' : World} {R : Nat → Prop} {c d p k i : Nat} {C : Ca} {K : Value → World → Prop}
theorem heldC_nat (C : Ca) (b : Nat) : heldC C (b : Int) = findB C.l b := by unfold heldC; rw [if_neg (by omega), Int.toNat_natCast]
theorem pin_row {w1 : World} {x y : Bf} (h5 : AtU w1 p 0 (iL (pinRow C.l))) (hn : (C.l.map (·.b)).Nodup) (hx : x ∈ C.l) (hb : x.b = y.b) (h6 : x.b < 6) :
    ∃ w2, RuU (Instr.storeAt 3 (.pointer (some (Addr.add ⟨p, 0, none⟩ y.b))) (.int .i64 y.pins)) w1 w2 ∧ AtU w2 p 0 (iL (pinRow (turn C.l y))) ∧ Mod (fun z => z = p) w1 w2 := by
  obtain ⟨w2, t1, t2, t3, t4⟩ := h5.store (P := Try.prog) (T := 3) (i := y.b) (v := .int .i64 y.pins) (by kernel_rfl) (by simp [pinRow_len]; omega) rfl
  refine ⟨w2, by rw [add_none]; exact t1, ?_, t3⟩
  rw [pinRow_turn hn hx hb]
  have e : (iL (pinRow C.l)).set y.b (.int .i64 y.pins) = iL ((pinRow C.l).set y.b (y.pins : Int)) := by simp [iL, List.map_set, I]
  rw [e] at t2; exact t2
/-- Pins are turned, in the cache and in the law's own row. -/
theorem pin_turned {a : Option Addr} {x y : Bf} {w1 : World} (h : Cx w0 R w c d C) (h1 : C.most = k) (h2 : C.D.vs.length = 6) (h3 : ¬ R p) (h4 : w0.heap.size ≤ p) (h5 : AtU w p 0 (iL (pinRow C.l))) (h6 : ∀ x ∈ C.l, x.pins ≤ i)
    (hr : Row w a (iL (drt C))) (ha : ∀ q, a = some q → ¬ R q.block) (hap : ∀ q, a = some q → q.block ≠ p) (hx : x ∈ C.l) (hb : x.b = y.b) (hy : y.pins ≤ i + 1) (m1 : Mod R w w1) (h' : Cx w0 (Gro R w w1) w1 c d { C with l := turn C.l y }) :
    ∃ w2, RuU (Instr.storeAt 3 (.pointer (some (Addr.add ⟨p, 0, none⟩ y.b))) (.int .i64 y.pins)) w1 w2 ∧ StJ w0 p k (i + 1) c d a (drt C) w2 := by
  have hxl : x.b < 6 := by have := h.wf.1.lt x hx; omega
  obtain ⟨w2, t1, t2, t3⟩ := pin_row (h5.keep m1 h3) h.wf.1.nodup hx hb hxl
  have hpl := h5.lt
  have hG : ∀ z, Gro R w w1 z → z ≠ p := fun z hz e => by
    subst e
    rcases hz with hz | hz
    · exact h3 hz
    · omega
  refine ⟨w2, t1, Gro R w w1, _, h'.keep t3 hG (fun z hz e => by omega), h1, h2, fun e => hG p e rfl, h4, t2, fun z hz => ?_, (hr.keep m1 ha).keep t3 hap, fun n hn => ?_⟩
  · rcases mem_turn hz with rfl | ⟨hz, _⟩
    · exact hy
    · have := h6 z hz; omega
  · obtain ⟨u, hu, rfl, hc⟩ := drt_mem h.wf.1 hn
    show (u.b : Int) ∈ nums (turn C.l y)
    rw [turn_nums]
    exact List.mem_map.2 ⟨u, hu, rfl⟩
set_option maxRecDepth 100000 in
theorem CacheStays_c {n0 : Int} {a1 : Option Addr} {l1 c1 : Nat} {acts : List A3} (hl : acts.length = l1) (ha : Acts3 w a1 acts) :
    Cal Try.prog F_leveelaw10_CacheStays #[.int .i64 n0, .slice a1 l1 c1] w (fun v w' => v = .bool true ∧ Mod No w w') := by
  apply C_leveelaw10_CacheStays
  unfold D_leveelaw10_CacheStays
  refine New_c (n := 6) (by omega) (by omega) (fun h => by omega) fun k hk' _ _ w1 d sb mb m1 h1 => ⟨_, _, rfl, ?_⟩
  have : k = 6 := by omega
  subst this
  have hsm : Small (newSt 6) := Small.one (sm _ (by decide +kernel))
  refine Count_c (n := 4) (by omega) (by omega) ⟨_, rfl, ?_⟩
  obtain ⟨kk, hkk⟩ := Int.eq_ofNat_of_zero_le (Int.emod_nonneg n0 (show (4 : Int) ≠ 0 by omega))
  have hk4 : kk < 4 := by have := Int.emod_lt_of_pos n0 (show (0 : Int) < 4 by omega); omega
  rw [hkk, wrap64 (x := 1 + (kk : Int)) (by omega) (by omega)]
  refine cNew_c (w0 := w) h1 hsm (fun x hx => hx) m1 (fun h => by omega) fun k2 hk2 _ _ w2 c m2 x2 => ⟨_, _, rfl, ff rfl ?_⟩
  have : k2 = 1 + kk := by omega
  subst this
  obtain ⟨w3, hm3, hat3, hmod3, hsz3⟩ := makeSlice_run (P := Try.prog) (w := w2) (n := 6) elemZ_ints (by omega) (by omega) (by omega)
  refine ⟨_, _, _, w3, hm3, ?_⟩
  have hww := x2.wf.2.2.1.size
  have hRp : ∀ z, Gro (fun x => w.heap.size ≤ x ∧ x < w1.heap.size) w1 w2 z → z < w2.heap.size := fun z hz => (x2.wf.2.2.2 z hz).2
  generalize hp : w2.heap.size = p at *
  refine ⟨fun x w5 => ∃ (i : Nat) (y1 y2 y3 y4 y5 y6 : Value), x = [.int .i64 i, y1, y2, y3, y4, y5, y6] ∧ i ≤ 60 ∧ StI w p (1 + kk) i c d w5, fun x _ => (60 - nI x 0).toNat, ⟨0, _, _, _, _, _, _, rfl, by omega, ?_⟩, ?_⟩
  · refine ⟨_, _, x2.nos hmod3, rfl, by simp [newSt], fun e => ?_, by omega, ?_, fun x hx => by cases hx⟩
    · have := hRp _ e; omega
    · exact hat3
  rintro x w5 ⟨i, y1, y2, y3, y4, y5, y6, rfl, hi60, hSt⟩
  refine Share.cut (fun z w6 => w6 = w5 ∧ z = [.bool (decide (i < l1 ∧ i < 60))]) ⟨_, rfl, cond_of (fun hb => ⟨rfl, ?_⟩) (fun hb => ⟨rfl, ?_⟩)⟩ ?_
  · have := of_decide_eq_true hb
    congr 2; rw [Bool.eq_iff_iff]; simp only [decide_eq_true_eq]; omega
  · have := of_decide_eq_false hb
    congr 2; rw [Bool.eq_iff_iff]; simp; omega
  rintro z w6 ⟨rfl, rfl⟩
  refine ⟨_, rfl, cond_of (fun hb => ?_) (fun hb => ?_)⟩
  · obtain ⟨hil, hi6⟩ := of_decide_eq_true hb
    obtain ⟨R, C, hC, e1, e2, e3, e4, e5, e6⟩ := hSt
    have hM := hC.wf.2.2.1
    have hia : i < acts.length := by omega
    obtain ⟨q, hidx, cs, hfit, hload, _⟩ := (ha.nos hM).get (i := i) (c := c1) hl (List.getElem?_eq_getElem hia)
    have hst := store_act hfit
    refine Share.cut (fun z w31 => StI w p (1 + kk) (i + 1) c d w31 ∧ ∃ z0 z1 z2 z3 z4, z = [z0, z1, z2, z3, z4]) ⟨_, rfl, q, hidx, ⟨cs⟩, hload, _, _, alloc_act _, _, hst, ?_⟩ ?_
    · obtain ⟨ad, cd, rfl, had, hn, h63⟩ := hfit
      have m8 : Mod No w6 (w6.alloc (.cells ⟨[.int .i64 acts[i].k, .int .i64 acts[i].n, .slice ad acts[i].xs.length cd]⟩ 34)) := (Mod.refl No w6).alloc _
      have hA : At (w6.alloc (.cells ⟨[.int .i64 acts[i].k, .int .i64 acts[i].n, .slice ad acts[i].xs.length cd]⟩ 34)) w6.heap.size 0 [.int .i64 acts[i].k, .int .i64 acts[i].n, .slice ad acts[i].xs.length cd] := AtU.new.at
      generalize w6.alloc (.cells ⟨[.int .i64 acts[i].k, .int .i64 acts[i].n, .slice ad acts[i].xs.length cd]⟩ 34) = w8 at *
      generalize acts[i] = A at *
      have l1' : ∀ {w2 : World}, Mod No w8 w2 → ∀ (j : Nat) (v : Value) (T : TypeId), scal Try.prog T = true → ([.int .i64 A.k, .int .i64 A.n, .slice ad A.xs.length cd] : List Value)[j]? = some v → Ru (Instr.loadAt T (.pointer (some (Addr.add ⟨w6.heap.size, 0, none⟩ j)))) w2 v w2 := by
        intro w2 k j v T hT hj
        rw [add_none]; exact (hA.keep k id).load hT hj
      refine ⟨_, l1' (Mod.refl _ _) 1 _ _ (by kernel_rfl) rfl, Count_c (n := 6) (by omega) (by omega) ⟨_, rfl, ?_⟩⟩
      obtain ⟨b, hb6⟩ := Int.eq_ofNat_of_zero_le (Int.emod_nonneg A.n (show (6 : Int) ≠ 0 by omega))
      have hb6' : b < 6 := by have := Int.emod_lt_of_pos A.n (show (0 : Int) < 6 by omega); omega
      rw [hb6]
      have hC8 := hC.nos m8
      refine cDirty_c hC8 fun w10 a52 c52 m10 o10 => ⟨_, _, _, rfl, _, l1' m10 0 _ _ (by kernel_rfl) rfl, ?_⟩
      have hC10 := hC8.nos m10
      have e5' := (e5.keep m8 id).keep m10 id
      have hr10 := o10.rowU.row
      have hz8 := m8.size
      have ha10 : ∀ q, a52 = some q → ¬ R q.block := fun q hq hR => by
        have := (o10.base hq).1
        have := (hC.wf.2.2.2 _ hR).2
        omega
      have hap : ∀ q, a52 = some q → q.block ≠ p := fun q hq e => by
        have := (o10.base hq).1
        have := e5.lt
        omega
      have hb' : b < C.D.vs.length := by omega
      have had10 := (had.nos m8).nos m10
      refine Share.cut (fun z w11 => w11 = w10 ∧ z = [.bool (decide (A.k = 0 ∨ A.k = 1))]) (cond_of (fun hb => ⟨rfl, ?_⟩) (fun hb => ⟨rfl, ?_⟩)) ?_
      · have : A.k = 0 := by simpa using hb
        simp [this]
      · have : ¬ A.k = 0 := by simpa using hb
        simp [this]; rfl
      rintro z w11 ⟨rfl, rfl⟩
      refine ⟨_, rfl, Share.cut (fun z w24 => StJ w p (1 + kk) (i + 1) c d a52 (drt C) w24 ∧ ∃ z0, z = [z0]) (cond_of (fun hb => ?_) (fun hb => ?_)) ?_⟩
      · refine cRead_c hC10 fun w12' w12 a12 c12 n12 m12 x12 o12 => ⟨_, _, _, _, rfl, StJ.of hC10 e1 e2 e3 e4 e5' e6 hr10 ha10 n12 m12 x12 (Steady.rd hC10.wf.1 hC10.wf.2.1 hb'), _, rfl⟩
      · refine Share.cut (fun z w13 => w13 = w11 ∧ z = [.bool (decide (A.k = 2 ∨ A.k = 3))]) (cond_of (fun hb => ⟨rfl, ?_⟩) (fun hb => ⟨rfl, ?_⟩)) ?_
        · have : A.k = 2 := by simpa using hb
          simp [this]
        · have : ¬ A.k = 2 := by simpa using hb
          simp [this]; rfl
        rintro z w13 ⟨rfl, rfl⟩
        refine ⟨_, rfl, Share.cut (fun z w23 => StJ w p (1 + kk) (i + 1) c d a52 (drt C) w23) (cond_of (fun hb => ?_) (fun hb => ?_)) fun z w23 hz => ⟨hz, _, rfl⟩⟩
        · refine ⟨_, _, _, l1' m10 2 _ _ (by kernel_rfl) rfl, Fill_c rfl had10 h63 fun w14 q14 hq14 m14 at14 => ⟨_, _, _, rfl, ?_⟩⟩
          have hC14 := hC10.nos m14
          refine cLay_c (ys := fillB A.xs) hC14 (length_fillB _) (.inr ⟨_, _, rfl, at14.at⟩) (fun _ q hq hR => ?_) fun w15 m15 x15 => ⟨_, rfl, ?_⟩
          · have := Option.some.inj hq
            subst this
            have := (hC10.wf.2.2.2 _ hR).2
            simp only at this
            omega
          · refine StJ.of (w1 := w15) hC14 e1 e2 e3 e4 (e5'.keep m14 id) e6 (hr10.nos m14) ha10 m15 (Mod.refl _ _) x15 (Steady.lay hC14.wf.1 hC14.wf.2.1 hb' _)
        · refine Share.cut (fun z w22 => StJ w p (1 + kk) (i + 1) c d a52 (drt C) w22) (cond_of (fun hb => ?_) (fun hb => cond_of (fun hb => ?_) (fun hb => ?_))) fun z w22 hz => hz
          · refine cPin_c hC10 (fun x hx => by have := e6 x hx; omega) fun w16 m16 x16 => ⟨_, rfl, Share.cut (fun z w18 => StJ w p (1 + kk) (i + 1) c d a52 (drt C) w18) (cond_of (fun hb => ?_) (fun hb => ?_)) fun z w18 hz => hz⟩
            · unfold pinX at hb x16
              rw [heldC_nat] at hb x16
              cases hf : findB C.l b with
              | none => rw [hf] at hb; simp at hb
              | some x =>
                rw [hf] at x16
                obtain ⟨hx, hxb⟩ := findB_some hf
                subst hxb
                have hp5 := e5'.keep m16 e3
                have hpx := e6 x hx
                have hpo : pinsOf C.l x.b = x.pins := pinsOf_mem hC10.wf.1.nodup hx
                obtain ⟨w17, t1, t2⟩ := pin_turned (y := { x with pins := x.pins + 1 }) hC10 e1 e2 e3 e4 e5' e6 hr10 ha10 hap hx rfl (by show x.pins + 1 ≤ i + 1; omega) m16 x16
                refine ⟨_, index_slice (k := 1) (by kernel_rfl) (by omega) (by omega), ?_⟩
                rw [Int.toNat_natCast, Nat.mul_one]
                refine ⟨_, load_pin hp5 hb6', _, index_slice (k := 1) (by kernel_rfl) (by omega) (by omega), w17, ?_, t2⟩
                rw [hpo, wrap64 (x := (x.pins : Int) + 1) (by omega) (by omega), Int.toNat_natCast, Nat.mul_one]
                exact t1
            · have hS : Steady C (pinX C b).1 := by
                unfold pinX at hb ⊢
                cases hf : heldC C b with
                | none => exact Steady.refl C
                | some x => rw [hf] at hb; simp at hb
              exact StJ.of hC10 e1 e2 e3 e4 e5' e6 hr10 ha10 m16 (Mod.refl _ _) x16 hS
          · refine cUnpin_c hC10 fun w16 m16 x16 => ⟨_, rfl, Share.cut (fun z w18 => StJ w p (1 + kk) (i + 1) c d a52 (drt C) w18) (cond_of (fun hb => ?_) (fun hb => ?_)) fun z w18 hz => hz⟩
            · unfold unpinX at hb x16
              rw [heldC_nat] at hb x16
              cases hf : findB C.l b with
              | none => rw [hf] at hb; simp at hb
              | some x =>
                rw [hf] at hb x16
                by_cases h0 : x.pins = 0
                · simp [h0] at hb
                simp only [h0, if_neg, not_false_eq_true] at x16
                obtain ⟨hx, hxb⟩ := findB_some hf
                subst hxb
                have hp5 := e5'.keep m16 e3
                have hpx := e6 x hx
                have hpo : pinsOf C.l x.b = x.pins := pinsOf_mem hC10.wf.1.nodup hx
                obtain ⟨w17, t1, t2⟩ := pin_turned (y := { x with pins := x.pins - 1 }) hC10 e1 e2 e3 e4 e5' e6 hr10 ha10 hap hx rfl (by show x.pins - 1 ≤ i + 1; omega) m16 x16
                refine ⟨_, index_slice (k := 1) (by kernel_rfl) (by omega) (by omega), ?_⟩
                rw [Int.toNat_natCast, Nat.mul_one]
                refine ⟨_, load_pin hp5 hb6', _, index_slice (k := 1) (by kernel_rfl) (by omega) (by omega), w17, ?_, t2⟩
                rw [hpo, wrap64 (x := (x.pins : Int) - 1) (by omega) (by omega), Int.toNat_natCast, Nat.mul_one, show (x.pins : Int) - 1 = ((x.pins - 1 : Nat) : Int) by omega]
                exact t1
            · have hS : Steady C (unpinX C b).1 := by
                unfold unpinX at hb ⊢
                cases hf : heldC C b with
                | none => exact Steady.refl C
                | some x =>
                  rw [hf] at hb
                  by_cases h0 : x.pins = 0
                  · simp only [h0, if_pos]; exact Steady.refl C
                  · simp [h0] at hb
              exact StJ.of hC10 e1 e2 e3 e4 e5' e6 hr10 ha10 m16 (Mod.refl _ _) x16 hS
          · exact ⟨⟨R, C, hC10, e1, e2, e3, e4, e5', fun x hx => by have := e6 x hx; omega⟩, _, _, _, _, _, rfl⟩
      rintro z w24 ⟨⟨R2, C2, hC2, f1, f2, f3, f4, f5, f6, f7, f8⟩, z0, rfl⟩
      have hl2 := hC2.wf.1.len
      have hm2 := hC2.wf.1.most1
      refine cHeld_c hC2 fun w25 a95 c95 m25 o25 => ⟨_, _, _, rfl, ff (decide_eq_false (by omega)) ?_⟩
      have hr95 := o25.rowU.row
      have hdl : (drt C).length ≤ 4096 := by
        have h1 : (drt C).length ≤ C.l.length := by
          rw [drt_eq]; unfold sorted
          rw [List.length_mergeSort]
          have := List.length_filter_le (fun k => !cl1 C k) (nums C.l)
          rw [nums_len] at this; exact this
        have := hC.wf.1.len
        have := hC.wf.1.most1
        omega
      refine ⟨fun x w26 => ∃ (j : Nat), x = [.int .i64 j] ∧ j ≤ (drt C).length ∧ Mod No w25 w26, fun x _ => ((drt C).length - nI x 0).toNat, ⟨0, rfl, by omega, Mod.refl _ _⟩, ?_⟩
      rintro x w26 ⟨j, rfl, hj, m26⟩
      refine ⟨_, rfl, cond_of (fun hb => ?_) (fun hb => ?_)⟩
      · have hj : j < (drt C).length := by have := of_decide_eq_true hb; omega
        have hrd := (f7.nos m25).nos m26
        obtain ⟨b2, o2, hae, hat⟩ := row_some hrd hj
        rw [hae]
        refine ⟨_, index_slice (k := 1) (by kernel_rfl) (by omega) (by omega), ?_⟩
        rw [add_none, show (j : Int).toNat * 1 = j by omega]
        refine ⟨_, hat.load (by kernel_rfl) (iL_get hj), among_c (nums_len _) (by omega) (hr95.nos m26) ⟨_, rfl, ff ?_ ?_⟩⟩
        · have := f8 _ (List.getElem_mem hj)
          simp [this]
        · rw [wrap64 (x := (j : Int) + 1) (by omega) (by omega)]
          exact ⟨⟨j + 1, rfl, by omega, m26⟩, by simp [nI, nth]; omega⟩
      · refine ⟨fun x w28 => ∃ (n : Nat) (y : Value), x = [.int .i64 n, y] ∧ n ≤ 6 ∧ Mod No w25 w28, fun x _ => (6 - nI x 0).toNat, ⟨0, _, rfl, by omega, m26⟩, ?_⟩
        rintro x w28 ⟨n, y', rfl, hn6, m28⟩
        refine ⟨_, rfl, cond_of (fun hb => ?_) (fun hb => ?_)⟩
        · have hn6 : n < 6 := by have := of_decide_eq_true hb; omega
          have hp28 := (f5.keep m25 id).keep m28 id
          have ldn := load_pin hp28 hn6
          refine Share.cut (fun z w30 => z = [.bool false] ∧ w30 = w28) ⟨_, index_slice (k := 1) (by kernel_rfl) (by omega) (by omega), ?_⟩ ?_
          · rw [Int.toNat_natCast, Nat.mul_one]
            refine ⟨_, ldn, ff (decide_eq_false (by omega)) ⟨_, index_slice (k := 1) (by kernel_rfl) (by omega) (by omega), ?_⟩⟩
            rw [Int.toNat_natCast, Nat.mul_one]
            refine ⟨_, ldn, cond_of (fun hb => ?_) (fun hb => ⟨rfl, rfl⟩)⟩
            have hpos : 0 < pinsOf C2.l n := by have := of_decide_eq_true hb; omega
            refine among_c (nums_len _) (by omega) (hr95.nos m28) ⟨_, rfl, ?_, rfl⟩
            have hmem : (n : Int) ∈ nums C2.l := by
              unfold pinsOf at hpos
              cases hf : findB C2.l n with
              | none => rw [hf] at hpos; simp at hpos
              | some x =>
                obtain ⟨hx, e⟩ := findB_some hf
                exact List.mem_map.2 ⟨x, hx, by rw [e]⟩
            simp [hmem]
          · rintro z w30 ⟨rfl, rfl⟩
            refine ⟨_, rfl, ff rfl ?_⟩
            rw [wrap64 (x := (n : Int) + 1) (by omega) (by omega)]
            exact ⟨⟨n + 1, _, rfl, by omega, m28⟩, by simp [nI, nth]; omega⟩
        · exact ⟨⟨R2, C2, (hC2.nos m25).nos m28, f1, f2, f3, f4, (f5.keep m25 id).keep m28 id, f6⟩, _, _, _, _, _, rfl⟩
    · rintro z w31 ⟨hSt', z0, z1, z2, z3, z4, rfl⟩
      refine ⟨_, rfl, ?_⟩
      rw [wrap64 (x := (i : Int) + 1) (by omega) (by omega)]
      exact ⟨⟨i + 1, _, _, _, _, _, _, rfl, by omega, hSt'⟩, by simp [nI, nth]; omega⟩
  · obtain ⟨R, C, hC, _⟩ := hSt
    exact known10_c fun w7 m7 => ⟨_, rfl, rfl, hC.wf.2.2.1.no m7⟩
end
end Go.Proofs.Ytgcecmfjpljpcaa
