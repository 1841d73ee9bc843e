/- Layer 10, the program's cache: its other calls. -/
import Derived.Test.YtocjjigmpgekfaaCacheF
open Go Go.Den Go.Proofs
namespace Go.Proofs.Ytocjjigmpgekfaa
section
variable {w0 w w' : World} {R : Nat → Prop} {rl : Nat → Nat} {c d m sb mb sc lc : Nat} {la : Option Addr} {L mp : List (Int × Value)} {C : Ca} {K : Value → World → Prop}
theorem turn_len (l : List Bf) (y : Bf) : (turn l y).length = l.length := by simp [turn]
theorem CIn.turn {S : Nat → Prop} {y : Bf} {q g cc : Nat} (h : CIn w0 R rl w c d m sb mb sc lc la L mp C) (k : Mod S w w') (hS : ∀ z, S z → rl z = 6 + y.b) (hm : ∃ x ∈ C.l, x.b = y.b)
    (hq : lookupL mp (y.b : Int) = some (.pointer (some ⟨q, 0, none⟩))) (hrq : rl q = 6 + y.b) (hg : rl g = 5 ∨ (w.heap.size ≤ g ∧ g < w'.heap.size)) (h4 : AtU w' q 0 [.slice (some ⟨g, 0, none⟩) 256 cc, .int .i64 y.pins]) (h6 : At w' g 0 (u8L y.data))
    (hwf : WFC { C with l := turn C.l y }) : ∃ rl', CIn w0 (Gro R w w') rl' w' c d m sb mb sc lc la L mp { C with l := Go.Proofs.Ytocjjigmpgekfaa.turn C.l y } := by
  have hrc := h.rc
  have hrm := h.rm
  have hg' : rl g = 5 ∨ (w.heap.size ≤ g ∧ g < w'.heap.size ∧ rl g = 0) := by
    rcases hg with hg | hg
    · exact .inl hg
    · exact .inr ⟨hg.1, hg.2, h.out_of hg.1⟩
  have hqg : q ≠ g := fun e => by
    rcases hg' with hg' | ⟨_, _, hg'⟩
    · rw [← e] at hg'; omega
    · rw [← e] at hg'; omega
  refine ⟨ro rl g 5, h.step k ((Ext.refl _ _ _).ro hg' (by omega) (by omega)) (fun x _ e => by have := hS x e; omega) ?_ (h.map.keep k fun e => by have := hS _ e; omega) ?_ (fun q2 hq2 => ?_) (fun z hz => ?_) (fun p hp => ?_) hwf⟩
  · rw [turn_len]; exact h.cell.keep k fun e => by have := hS _ e; omega
  · rw [turn_len, turn_nums]; exact h.row.keep k fun q2 hq2 e => by have := hS _ e; have := h.rrow q2 hq2; omega
  · have hr := h.rrow q2 hq2
    have : q2.block ≠ g := fun e => by
      rcases hg' with hg' | ⟨_, _, hg'⟩
      · rw [← e] at hg'; omega
      · rw [← e] at hg'; omega
    rw [ro_ne _ this]; exact hr
  · rcases mem_turn hz with rfl | ⟨hz, hne⟩
    · exact .inr ⟨q, g, cc, hq, by rw [ro_ne _ hqg]; exact hrq, ro_same _ _ _, h4, h6⟩
    · exact .inl ⟨hz, rfl, fun q2 e e' => by have := hS q2 e; omega⟩
  · obtain ⟨x, hx, e⟩ := h.keys p hp
    obtain ⟨x2, hx2, e2⟩ := hm
    by_cases hxy : x.b = y.b
    · exact ⟨y, turn_mem ⟨x2, hx2, e2⟩, by rw [e, hxy]⟩
    · exact ⟨x, turn_other hx hxy, e⟩
theorem Cx.up {w1 : World} (h : Cx w0 (Gro R w1 w') w' c d C) (hlo : ∀ x, R x → w0.heap.size ≤ x ∧ x < w.heap.size) (hw : w0.heap.size ≤ w.heap.size) (h1 : w.heap.size ≤ w1.heap.size) (h2 : w.heap.size ≤ w'.heap.size) : Cx w0 (Gro R w w') w' c d C := by
  obtain ⟨rl, m, sb, mb, sc, lc, la, L, mp, h⟩ := h
  refine ⟨rl, m, sb, mb, sc, lc, la, L, mp, h.widen (fun x hx => ?_) fun x hx => ?_⟩
  · rcases hx with hx | hx
    · exact .inl hx
    · exact .inr (by omega)
  · rcases hx with hx | hx
    · have := hlo x hx; omega
    · omega
theorem _root_.Go.Den.Row.region {a : Option Addr} {xs : List Value} (h : Row w a xs) (m : Mod R w w') (hd : xs ≠ [] → ∀ q, a = some q → ¬ R q.block) : Row w' a xs := by
  by_cases e : xs = []
  · exact .inl e
  · exact h.keep m (hd e)
theorem cLay_c {n : Int} {a2 : Option Addr} {l2 c2 : Nat} {ys : Bk} (hC : Cx w0 R w c d C) (hl : ys.length = l2) (hr : Row w a2 (u8L ys)) (hd : ys ≠ [] → ∀ q, a2 = some q → ¬ R q.block)
    (hk : ∀ w', Mod R w w' → Cx w0 (Gro R w w') w' c d (layX C n ys).1 → K (.int .i64 (layX C n ys).2) w') : Cal Try.prog F_cache_Cache_Lay #[.pointer (some ⟨c, 0, none⟩), .int .i64 n, .slice a2 l2 c2] w K := by
  have hX := hC
  obtain ⟨rl, m, sb, mb, sc, lc, la, L, mp, h⟩ := hC
  apply C_cache_Cache_Lay
  unfold D_cache_Cache_Lay
  have m1 : Mod No w (w.alloc (.cells ⟨[.int .i64 256]⟩ 3)) := (Mod.refl No w).alloc _
  have hrow : Row (w.alloc (.cells ⟨[.int .i64 256]⟩ 3)) (some ⟨w.heap.size, 0, none⟩) (iL [256]) := .inr ⟨_, _, rfl, AtU.new.at⟩
  refine ⟨_, _, _, _, builtI _ _, cmay_c (xs := [256]) (h.nos m1) rfl (by omega) hrow ⟨_, rfl, ?_⟩⟩
  generalize hW : w.alloc (.cells ⟨[.int .i64 256]⟩ 3) = w1 at *
  have hs1 := m1.size
  have hw0 := h.mod.size
  by_cases he : errOf C.D n = 0
  · by_cases h256 : ys.length = 256
    · have hm : mayE C.D n l2 [256] = 0 := by unfold mayE; rw [if_neg (by omega), if_neg (by simp; omega)]
      rw [hm]
      refine ff rfl ?_
      obtain ⟨b, rfl, hb⟩ := err_range he
      have hr0 : layX C b ys = match askC C b with | none => (C, 5) | some C' => ({ C' with l := turn C'.l ⟨b, ys, pinsOf C'.l b⟩ }, 0) := by unfold layX; rw [if_neg (by omega), if_neg (by omega), Int.toNat_natCast]; rfl
      rw [hr0] at hk
      refine ask_c (h.nos m1) hb (fun C' ha w3 q hq m3 => ⟨_, _, rfl, Share.dup (tt rfl ?_)⟩) fun ha w3 m3 => ⟨_, _, rfl, Share.dup (ff rfl ?_)⟩
      · rw [ha] at hk
        obtain ⟨x, hx, hxb, hxd, hxf, hwf, hD⟩ := lastD_ask h.wf h.disk.wf hb ha
        obtain ⟨rl', m', sb', mb', sc', lc', la', L', mp', h', hl'⟩ := hq
        obtain ⟨q2, g, cc, b1, b2, b3, b4, b6⟩ := h'.bufs x hx
        rw [hxb, hl'] at b1
        simp only [Option.some.injEq, Value.pointer.injEq, Addr.mk.injEq, and_true] at b1
        subst b1
        have hune : u8L ys ≠ [] := fun e => by have := congrArg List.length e; simp at this; rw [this] at h256; simp at h256
        have hyne : ys ≠ [] := fun e => by rw [e] at h256; simp at h256
        have hr3 := Row.region (hr.nos m1) m3 fun _ => hd hyne
        have h0 : a2 ≠ none := fun e => by
          rcases hr with hr | ⟨_, _, e2, _⟩
          · exact hune hr
          · rw [e] at e2; cases e2
        refine CloneB_c hr3 hl (fun e => absurd e h0) (by omega) fun w4 a4 c4 o4 m4 => ⟨_, _, _, rfl, _, rfl, ?_⟩
        subst hl
        obtain ⟨g4, rfl, hg4, hat4⟩ := o4.sm (by omega)
        obtain ⟨w5, t1, t2, t3, t4⟩ := (b4.keep m4 id).store (P := Try.prog) (T := 32) (i := 0) (v := .slice (some ⟨g4, 0, none⟩) ys.length c4) (by kernel_rfl) (by simp) rfl
        refine ⟨w5, by rw [add_none, add_none]; exact t1, ?_⟩
        have hp : pinsOf C'.l b = x.pins := by unfold pinsOf; rw [hxf]
        simp only [hp] at hk
        have hx' : (⟨b, ys, x.pins⟩ : Bf).b = x.b := hxb.symm
        have hg4l := hat4.lt
        have hs5 := t3.size
        have hs4 := m4.size
        have hs3 := m3.size
        have hgq : g4 ≠ q := fun e => by have := h'.out_of (x := g4) (by omega); rw [e] at this; omega
        have M : Mod (fun z => z = q) w3 w5 := (m4.anys.trans t3 fun _ _ e => e)
        obtain ⟨rl5, h5⟩ := h'.turn (y := ⟨b, ys, x.pins⟩) (q := q) (g := g4) (cc := c4) M (fun z e => by rw [e]; rw [b2, hxb]) ⟨x, hx, hxb⟩ hl' (by rw [b2, hxb]) (.inr ⟨by omega, by omega⟩) (by simpa [h256] using t2) (hat4.at.keep t3 hgq)
          (hwf.turn (by show b < C'.D.vs.length; rw [hD]; exact hb) h256 (hwf.pins x hx))
        have hgg := gro_gro (R := R) (w := w1) (w1 := w3) (w2 := w5) (by omega) (by omega)
        rw [hgg] at h5
        refine hk w5 ((m1.anys.trans m3 fun _ _ e => e).trans M fun z hz e => ?_) (Cx.up ⟨rl5, m', sb', mb', sc', lc', la', L', mp', h5⟩ h.lo hw0 hs1 (by omega))
        have := h'.reg z (by rw [e, b2]; omega)
        rcases this with this | this
        · exact this
        · omega
      · rw [ha] at hk
        exact hk w3 (m1.no m3).anys (hX.gro (m1.no m3))
    · have hm : mayE C.D n l2 [256] = 4 := by unfold mayE; rw [if_neg (by omega), if_pos (by simp; omega)]
      have hr0 : layX C n ys = (C, 4) := by unfold layX; rw [if_neg (by omega), if_pos h256]
      rw [hr0] at hk
      rw [hm]
      exact tt rfl (hk w1 m1.anys (hX.gro m1))
  · have hm : mayE C.D n l2 [256] = errOf C.D n := by unfold mayE; rw [if_pos he]
    have hr0 : layX C n ys = (C, errOf C.D n) := by unfold layX; rw [if_pos he]
    rw [hr0] at hk
    rw [hm]
    exact tt (by simpa using he) (hk w1 m1.anys (hX.gro m1))

theorem built02 (w : World) : (Instr.buildSlice 23 2 #[(0, .int .i64 0), (1, .int .i64 256)]).run Try.prog w = .ok (.slice (some ⟨w.heap.size, 0, none⟩) 2 2) (w.alloc (.cells ⟨[.int .i64 0, .int .i64 256]⟩ 3)) := by kernel_rfl
theorem Small_wr {D : St} (h : ∀ v ∈ D.vs, v.length ≤ 999999) (n : Int) (ys : Bk) : Small (wrSt D n ys) := fun v hv => by
  have := Bnd_wr (m := 999999) h n ys v hv
  omega
theorem cWrite_c {n : Int} {a2 : Option Addr} {l2 c2 : Nat} {ys : Bk} (hC : Cx w0 R w c d C) (hb9 : ∀ v ∈ C.D.vs, v.length ≤ 999999) (hl : ys.length = l2) (hr : Row w a2 (u8L ys)) (hd : ys ≠ [] → ∀ q, a2 = some q → ¬ R q.block)
    (hk : ∀ w', Mod R w w' → Cx w0 (Gro R w w') w' c d (wrX C n ys).1 → K (.int .i64 (wrX C n ys).2) w') : Cal Try.prog F_cache_Cache_Write #[.pointer (some ⟨c, 0, none⟩), .int .i64 n, .slice a2 l2 c2] w K := by
  have hX := hC
  obtain ⟨rl, m, sb, mb, sc, lc, la, L, mp, h⟩ := hC
  apply C_cache_Cache_Write
  unfold D_cache_Cache_Write
  have m1 : Mod No w (w.alloc (.cells ⟨[.int .i64 0, .int .i64 256]⟩ 3)) := (Mod.refl No w).alloc _
  have hrow : Row (w.alloc (.cells ⟨[.int .i64 0, .int .i64 256]⟩ 3)) (some ⟨w.heap.size, 0, none⟩) (iL [0, 256]) := .inr ⟨_, _, rfl, AtU.new.at⟩
  refine ⟨_, _, _, _, built02 _, cmay_c (xs := [0, 256]) (h.nos m1) rfl (by omega) hrow ⟨_, rfl, ?_⟩⟩
  generalize hW : w.alloc (.cells ⟨[.int .i64 0, .int .i64 256]⟩ 3) = w1 at *
  have hs1 := m1.size
  have hw0 := h.mod.size
  by_cases he : errOf C.D n = 0
  · by_cases h256 : ys.length ≠ 0 ∧ ys.length ≠ 256
    · have hm : mayE C.D n l2 [0, 256] = 4 := by unfold mayE; rw [if_neg (by omega), if_pos (by simp; omega)]
      have hr0 : wrX C n ys = (C, 4) := by unfold wrX; rw [if_neg (by omega), if_pos h256]
      rw [hr0] at hk
      rw [hm]
      exact tt rfl (hk w1 m1.anys (hX.gro m1))
    · have hm : mayE C.D n l2 [0, 256] = 0 := by unfold mayE; rw [if_neg (by omega), if_neg (by simp; omega)]
      rw [hm]
      refine ff rfl ?_
      obtain ⟨b, rfl, hb⟩ := err_range he
      have hr0 : wrX C b ys = match askC C b with | none => (C, 5) | some C' => ({ C' with D := wrSt C'.D b (if ys.length = 0 then lastD C'.l else ys) }, wrE C'.D b (if ys.length = 0 then lastD C'.l else ys)) := by unfold wrX; rw [if_neg (by omega), if_neg h256, Int.toNat_natCast]; rfl
      rw [hr0] at hk
      refine ask_c (h.nos m1) hb (fun C' ha w3 q hq m3 => ⟨_, _, rfl, ff rfl ?_⟩) fun ha w3 m3 => ⟨_, _, rfl, tt rfl ?_⟩
      · rw [ha] at hk
        obtain ⟨x, hx, hxb, hxd, hxf, hwf, hD⟩ := lastD_ask h.wf h.disk.wf hb ha
        obtain ⟨rl', m', sb', mb', sc', lc', la', L', mp', h', hl'⟩ := hq
        obtain ⟨q2, g, cc, b1, b2, b3, b4, b6⟩ := h'.bufs x hx
        rw [hxb, hl'] at b1
        simp only [Option.some.injEq, Value.pointer.injEq, Addr.mk.injEq, and_true] at b1
        subst b1
        have hxl := hwf.data x hx
        have hs3 := m3.size
        refine Share.cut (fun z w4 => w4 = w3 ∧ ∃ (a4 : Option Addr) (l4 c4 : Nat), z = [.slice a4 l4 c4] ∧ (if ys.length = 0 then lastD C'.l else ys).length = l4 ∧ Row w3 a4 (u8L (if ys.length = 0 then lastD C'.l else ys)) ∧ ∀ q5, a4 = some q5 → rl' q5.block ≠ 4)
          (cond_of (fun hb => ?_) (fun hb => ?_)) ?_
        · have hl0 : ys.length = 0 := by have : (l2 : Int) = 0 := by simpa using hb
                                         omega
          refine ⟨_, rfl, _, _, _, lbytes b4, rfl, _, _, _, rfl, ?_, ?_, fun q5 e => ?_⟩
          · rw [if_pos hl0, hxd]; exact hxl
          · rw [if_pos hl0, hxd]; exact .inr ⟨_, _, rfl, b6⟩
          · have := Option.some.inj e
            subst this
            show rl' g ≠ 4
            omega
        · have hl0 : ¬ ys.length = 0 := fun e => by
            have : ((l2 : Int) == 0) = true := by simp; omega
            rw [this] at hb; cases hb
          have hyne : ys ≠ [] := fun e => hl0 (by rw [e]; rfl)
          refine ⟨rfl, _, _, _, rfl, by rw [if_neg hl0]; exact hl, by rw [if_neg hl0]; exact Row.region (hr.nos m1) m3 fun _ => hd hyne, fun q5 e e4 => ?_⟩
          have hnR := hd hyne q5 e
          have := h'.reg q5.block (by omega)
          rcases this with this | this
          · exact hnR this
          · have hune : u8L ys ≠ [] := fun e => by have := congrArg List.length e; simp at this; exact hyne this
            obtain ⟨b5, o5, e5, hat5⟩ := hr.resolve_left hune
            rw [e] at e5
            have := Option.some.inj e5
            subst this
            have := hat5.lt
            simp only at *
            omega
        · rintro z w4 ⟨rfl, a4, l4, c4, rfl, hl4, hr4, hd4⟩
          refine ⟨_, rfl, _, h'.ld, _, _, _, rfl, Write_c h'.disk (by rw [hD]; exact hb9) hl4 hr4 hd4 fun w5 L5 m5 h5 => ⟨_, rfl, ?_⟩⟩
          have hs5 := m5.size
          obtain ⟨rl5, k5⟩ := h'.dsk m5 (fun _ e => e) h5 (Small_wr (by rw [hD]; exact hb9) _ _) (len_wr _ _ _)
          have hgg := gro_gro (R := R) (w := w1) (w1 := w4) (w2 := w5) (by omega) (by omega)
          rw [hgg] at k5
          refine hk w5 ((m1.anys.trans m3 fun _ _ e => e).trans m5 fun z hz e => ?_) (Cx.up ⟨rl5, m', sb', mb', sc', lc', la', L5, mp', k5⟩ h.lo hw0 hs1 (by omega))
          have e4 : rl' z = 4 := e
          have := h'.reg z (by omega)
          rcases this with this | this
          · exact this
          · omega
      · rw [ha] at hk
        exact hk w3 (m1.no m3).anys (hX.gro (m1.no m3))
  · have hm : mayE C.D n l2 [0, 256] = errOf C.D n := by unfold mayE; rw [if_pos he]
    have hr0 : wrX C n ys = (C, errOf C.D n) := by unfold wrX; rw [if_pos he]
    rw [hr0] at hk
    rw [hm]
    exact tt (by simpa using he) (hk w1 m1.anys (hX.gro m1))
end
end Go.Proofs.Ytocjjigmpgekfaa
