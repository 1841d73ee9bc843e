/- Layer 10, the program's cache: a block is asked. -/
import Derived.Test.YtocjjigmpgekfaaCacheD
open Go Go.Den Go.Proofs
namespace Go.Proofs.Ytocjjigmpgekfaa
section
variable {w0 w w' : World} {R : Nat → Prop} {rl : Nat → Nat} {c d m sb mb sc lc : Nat} {la : Option Addr} {L mp : List (Int × Value)} {C : Ca} {K : Value → World → Prop}
/-- A cache, and where the buffer of a block lies. -/
def Cq (w0 : World) (R : Nat → Prop) (w : World) (c d b q : Nat) (C : Ca) : Prop :=
  ∃ rl m sb mb sc lc la L mp, CIn w0 R rl w c d m sb mb sc lc la L mp C ∧ lookupL mp (b : Int) = some (.pointer (some ⟨q, 0, none⟩))
def Cx (w0 : World) (R : Nat → Prop) (w : World) (c d : Nat) (C : Ca) : Prop := ∃ rl m sb mb sc lc la L mp, CIn w0 R rl w c d m sb mb sc lc la L mp C
theorem build_bytes (w : World) (a : Option Addr) (l cc : Nat) : (Instr.build 91 #[(0, .slice a l cc)]).run Try.prog w = .ok (.agg ⟨[.slice a l cc]⟩) w := by kernel_rfl
theorem build_buffer (w : World) (a : Option Addr) (l cc : Nat) : (Instr.build 93 #[(0, .agg ⟨[.slice a l cc]⟩)]).run Try.prog w = .ok (.agg ⟨[.slice a l cc, .int .i64 0]⟩) w := by kernel_rfl
theorem box_buffer (w : World) (cs : List Value) : (Instr.box 93 (.agg ⟨cs⟩)).run Try.prog w = .ok (.pointer (some ⟨w.heap.size, 0, none⟩)) (w.alloc (.cells ⟨cs⟩ 93)) := rfl
theorem CIn.noKey (h : CIn w0 R rl w c d m sb mb sc lc la L mp C) {b : Nat} (hf : findB C.l b = none) : lookupL mp (b : Int) = none := by
  cases hl : lookupL mp (b : Int) with
  | none => rfl
  | some v =>
    obtain ⟨x, hx, e⟩ := h.keys _ (look_mem hl)
    have e' : (b : Int) = x.b := e
    exact absurd (by omega) (findB_none hf x hx)
set_option maxRecDepth 100000 in
theorem ask_c (h : CIn w0 R rl w c d m sb mb sc lc la L mp C) {b : Nat} (hb : b < C.D.vs.length)
    (hk1 : ∀ C', askC C b = some C' → ∀ w' q, Cq w0 (Gro R w w') w' c d b q C' → Mod R w w' → K (.tuple #[.pointer (some ⟨q, 0, none⟩), .int .i64 0]) w')
    (hk2 : askC C b = none → ∀ w', Mod No w w' → K (.tuple #[.pointer none, .int .i64 5]) w') : Cal Try.prog F_cache_Cache_ask #[.pointer (some ⟨c, 0, none⟩), .int .i64 b] w K := by
  apply C_cache_Cache_ask
  unfold D_cache_Cache_ask
  have m1 : Mod No w (drew (w.alloc (.cells ⟨[.int .i64 b]⟩ 3))) := ((Mod.refl No w).alloc _).drew
  have hq : At (drew (w.alloc (.cells ⟨[.int .i64 b]⟩ 3))) w.heap.size 0 [.int .i64 b] := AtU.new.at.drew
  have h1 := h.nos m1
  have hz0 := h.out_of (x := w.heap.size) (Nat.le_refl _)
  refine ⟨_, _, box_int _ _, _, rfl, some m, h1.lm, _, hq.load (i := 0) (by kernel_rfl) rfl, ?_⟩
  have hsz1 : (drew (w.alloc (.cells ⟨[.int .i64 b]⟩ 3))).heap.size = w.heap.size + 1 := by simp
  generalize hW : drew (w.alloc (.cells ⟨[.int .i64 b]⟩ 3)) = w1 at *
  have hlk := look2_run (P := Try.prog) mapCache h1.map (k := (b : Int))
  cases hf : findB C.l b with
  | some x =>
    obtain ⟨hx, hxb⟩ := findB_some hf
    obtain ⟨q, g, cc, b1, b2, b3, b4, b6⟩ := h.bufs x hx
    rw [hxb] at b1
    rw [b1] at hlk
    have hask : askC C b = some { C with l := others C.l b ++ [x] } := by unfold askC; rw [hf]
    have h2 := h1.drew
    have m2 : Mod No w (drew w1) := m1.drew
    have lz : ∀ {w2 : World}, Mod (Of la) (drew w1) w2 → At w2 w.heap.size 0 [.int .i64 b] := fun k => hq.drew.keep k fun e => by have := h.of3 e; omega
    have fin : ∀ w' rl' lc' la', CIn w0 (Gro R w w') rl' w' c d m sb mb sc lc' la' L mp { C with l := others C.l b ++ [x] } → Mod R w w' → K (.tuple #[.pointer (some ⟨q, 0, none⟩), .int .i64 0]) w' :=
      fun w' rl' lc' la' hC hM => hk1 _ hask w' q ⟨rl', m, sb, mb, sc, lc', la', L, mp, hC, b1⟩ hM
    refine ⟨some ⟨q, 0, none⟩, true, hlk, tt rfl ⟨_, rfl, _, _, _, lrow h2.cell, _, (lz (Mod.refl _ _)).load (i := 0) (by kernel_rfl) rfl, ?_, ?_⟩⟩
    · refine row_less h2 (tells_ask (lz (Mod.refl _ _)) fun e => by have := h.of3 e; omega) fun w3 o3 m3 => ⟨_, _, _, rfl, (lz m3).load (i := 0) (by kernel_rfl) rfl, _, _, _, _, builtI _ _, ?_, ?_⟩
      · exact lrow ((h2.cell.keep m3 fun e => by have := h.of3 e; have := h.rc; omega).keep (S := No) ((Mod.refl No w3).alloc _) id)
      · have m4 : Mod No w3 (w3.alloc (.cells ⟨[.int .i64 b]⟩ 3)) := (Mod.refl No w3).alloc _
        exact ask_end (S := fun w' => K (.tuple #[.pointer (some ⟨q, 0, none⟩), .int .i64 0]) w') h ((m2.anys.trans m3 fun _ _ e => e).no m4) (o3.nos m4) AtU.new.at hx hxb fin
    · have m3 : Mod No (drew w1) ((drew w1).alloc (.cells ⟨[.int .i64 b]⟩ 3)) := (Mod.refl No _).alloc _
      have h3 := h2.nos m3
      have hz3 : At ((drew w1).alloc (.cells ⟨[.int .i64 b]⟩ 3)) (drew w1).heap.size 0 [.int .i64 b] := AtU.new.at
      have hzq := h1.out_of (x := (drew w1).heap.size) (Nat.le_refl _)
      refine ⟨_, _, _, _, builtI _ _, lrow h3.cell, row_less h3 (tells_ask (lz m3.anys) fun e => by have := h.of3 e; omega) fun w4 o4 m4 => ⟨_, _, _, rfl, (lz (m3.anys.trans m4 fun _ _ e => e)).load (i := 0) (by kernel_rfl) rfl, ?_⟩⟩
      exact ask_end (S := fun w' => K (.tuple #[.pointer (some ⟨q, 0, none⟩), .int .i64 0]) w') h ((m2.no m3).anys.trans m4 fun _ _ e => e) o4 (hz3.keep m4 fun e => by have := h.of3 e; omega) hx hxb fin
  | none =>
    rw [h.noKey hf] at hlk
    refine ⟨none, false, hlk, ff rfl ?_⟩
    refine room_c h1 (fun C' hr w10 mp' h10 m10 => ⟨_, rfl, ff rfl ?_⟩) fun hr w10 m10 => ⟨_, rfl, tt rfl (hk2 (by unfold askC; rw [hf]; simp only [hr]; rfl) w10 (m1.no m10))⟩
    have hroom : C'.D = C.D ∧ (∀ x ∈ C'.l, x ∈ C.l) ∧ C'.l.length < C'.most := by
      unfold roomC at hr
      split at hr
      · rename_i hl
        have := Option.some.inj hr
        subst this
        exact ⟨rfl, fun x hx => hx, hl⟩
      · cases hfi : C.l.find? (idleB C.D) with
        | none => rw [hfi] at hr; cases hr
        | some z =>
          rw [hfi] at hr
          have := Option.some.inj hr
          subst this
          have := others_lt (List.mem_of_find?_eq_some hfi)
          have := h.wf.len
          exact ⟨rfl, fun x hx => (mem_others.1 hx).1, by show (others C.l z.b).length < C.most; omega⟩
    obtain ⟨hD, hsub, hlt⟩ := hroom
    have hask : askC C b = some { C' with l := C'.l ++ [⟨b, atD C.D b, 0⟩] } := by unfold askC; rw [hf]; simp only [hr]; rfl
    have hno : ∀ y ∈ C'.l, y.b ≠ b := fun y hy => findB_none hf y (hsub y hy)
    have hb' : b < C'.D.vs.length := by rw [hD]; exact hb
    have hl1 := h10.wf.len
    have hl2 := h10.wf.most1
    have hqR : ¬ R w.heap.size := fun e => by have := (h.lo _ e).2; omega
    have hq10 := hq.keep m10 hqR
    have hlq10 := hq10.lt
    obtain ⟨r1, r2⟩ := rd_at C'.D hb'
    have hal := h10.atLen hb'
    refine ⟨_, rfl, _, h10.drew.ld, _, hq10.drew.load (i := 0) (by kernel_rfl) rfl, Read_c h10.drew.disk h10.wf.small fun w11 a cc m11 f11 => ?_⟩
    rw [r2] at f11 ⊢
    rw [r1, hal]
    rcases f11 with ⟨_, e⟩ | ⟨g, rfl, hg, hat⟩
    · rw [e] at hal; cases hal
    have hgl := hat.lt
    refine ⟨_, _, _, _, rfl, ff rfl ⟨_, fun w => build_bytes w _ _ _, _, fun w => build_buffer w _ _ _, _, _, box_buffer _ _, _, rfl, some m, ?_⟩⟩
    have m12 : Mod No w11 (drew (w11.alloc (.cells ⟨[.slice (some ⟨g, 0, none⟩) 256 cc, .int .i64 0]⟩ 93))) := ((Mod.refl No w11).alloc _).drew
    have hbuf : AtU (drew (w11.alloc (.cells ⟨[.slice (some ⟨g, 0, none⟩) 256 cc, .int .i64 0]⟩ 93))) w11.heap.size 0 [.slice (some ⟨g, 0, none⟩) 256 cc, .int .i64 0] := AtU.new.drew
    have hsz12 : (drew (w11.alloc (.cells ⟨[.slice (some ⟨g, 0, none⟩) 256 cc, .int .i64 0]⟩ 93))).heap.size = w11.heap.size + 1 := by simp
    generalize hW12 : drew (w11.alloc (.cells ⟨[.slice (some ⟨g, 0, none⟩) 256 cc, .int .i64 0]⟩ 93)) = w12 at *
    have M12 : Mod No w10 w12 := ((Mod.refl No w10).drew.no m11).no m12
    have h12 := h10.nos M12
    have hs11 := m11.size
    have hs10d : (drew w10).heap.size = w10.heap.size := rfl
    have hq12 := hq10.keep M12 id
    have hzz := h10.out_of (x := w12.heap.size)
    obtain ⟨w13, s1, s2, s3, s4⟩ := update_run (P := Try.prog) (k := (b : Int)) (v := .pointer (some ⟨w11.heap.size, 0, none⟩)) mapCache h12.map
    have hrm := h12.rm
    have hrc := h12.rc
    have hbR : rl w11.heap.size = 0 := h10.out_of (by omega)
    have hgR : rl g = 0 := h10.out_of (by omega)
    have hc13 := h12.cell.keep s3 (apart hrc hrm (by omega))
    have hrlq : rl w.heap.size = 0 := hz0
    have hq13 := hq12.keep s3 (apart hrlq hrm (by omega))
    refine ⟨h12.lm, _, hq12.load (i := 0) (by kernel_rfl) rfl, w13, s1, _, rfl, _, _, _, lrow hc13.drew, _, hq13.drew.load (i := 0) (by kernel_rfl) rfl, _, _, _, _, builtI _ _, ?_⟩
    have m14 : Mod No w13 ((drew w13).alloc (.cells ⟨[.int .i64 b]⟩ 3)) := (Mod.refl No w13).drew.no ((Mod.refl No _).alloc _)
    have hnew14 : At ((drew w13).alloc (.cells ⟨[.int .i64 b]⟩ 3)) (drew w13).heap.size 0 [.int .i64 b] := AtU.new.at
    generalize hW14 : (drew w13).alloc (.cells ⟨[.int .i64 b]⟩ 3) = w14 at *
    have hrow14 := (h12.row.keep s3 fun q hq' => apart (h12.rrow q hq') hrm (by omega)).nos m14
    have hs14 := m14.size
    have hw0 := h10.mod.size
    have hs12 := M12.size
    obtain ⟨q', c', w15, t1, t2, t3, t4⟩ := hrow14.app (ty := 23) (m := 1) (c2 := 1) (ad := ⟨(drew w13).heap.size, 0, none⟩) (ys := [.int .i64 b]) elemZ_ints (by omega) (.inr ⟨_, _, rfl, hnew14⟩) rfl (by omega) (by simp; rfl) (by omega) (by omega) (by omega)
    have t3' : Mod (Of la) w14 w15 := t3
    have hc15 := (hc13.keep m14 id).keep t3' fun e => by have := h12.of3 e; omega
    refine ⟨lrow (hc13.keep m14 id), _, _, _, w15, t1, _, rfl, ?_⟩
    obtain ⟨w16, u1, u2, u3, u4⟩ := hc15.store (P := Try.prog) (T := 23) (i := 3) (v := .slice (some q') (C'.l.length + 1) c') (by kernel_rfl) (by simp) rfl
    refine ⟨w16, by rw [add_none]; exact u1, ?_⟩
    have M13 : Mod (S123 rl) w10 w13 := M12.anys.trans (s3.mono fun x _ e => .inr (.inl (by rw [e]; exact hrm))) fun _ _ e => e
    have M15 : Mod (S123 rl) w10 w15 := (M13.no m14).trans (t3'.mono fun x _ e => .inr (.inr (h12.of3 e))) fun _ _ e => e
    have M16 : Mod (S123 rl) w10 w16 := M15.trans (u3.mono fun x _ e => .inl (by rw [e]; exact hrc)) fun _ _ e => e
    have hs15 := t3'.size
    have hs16 := u3.size
    have hs13 := s3.size
    have hq'lt := (t2.base (q := q') rfl).2
    have hq'new : rl q'.block = 3 ∨ (w13.heap.size ≤ q'.block ∧ rl q'.block = 0) := by
      rcases t4 with ⟨q2, hq2, e⟩ | e
      · left; rw [e]; exact h12.rrow q2 hq2
      · right; exact ⟨by omega, h10.out_of (by omega)⟩
    have hq'g : q'.block ≠ g := fun e => by
      rcases hq'new with hn | ⟨hn, _⟩
      · rw [e] at hn; omega
      · omega
    have hq'b : q'.block ≠ w11.heap.size := fun e => by
      rcases hq'new with hn | ⟨hn, _⟩
      · rw [e] at hn; omega
      · omega
    have hgb : w11.heap.size ≠ g := by omega
    have e1 : ro rl g 5 w11.heap.size = 0 := by rw [ro_ne _ hgb]; exact hbR
    have x1 : Ext w10 w16 rl (ro rl g 5) := (Ext.refl _ _ _).ro (.inr ⟨by omega, by omega, hgR⟩) (by omega) (by omega)
    have x2 : Ext w10 w16 rl (ro (ro rl g 5) w11.heap.size (6 + b)) := x1.ro (.inr ⟨by omega, by omega, e1⟩) (by omega) (by omega)
    have e2 : ro (ro rl g 5) w11.heap.size (6 + b) q'.block = rl q'.block := by rw [ro_ne _ hq'b, ro_ne _ hq'g]
    have x3 : Ext w10 w16 rl (ro (ro (ro rl g 5) w11.heap.size (6 + b)) q'.block 3) := x2.ro (by
      rw [e2]
      rcases hq'new with hn | ⟨hn, hn2⟩
      · exact .inl hn
      · exact .inr ⟨by omega, by omega, hn2⟩) (by omega) (by omega)
    have hlen : (C'.l ++ [(⟨b, atD C.D b, 0⟩ : Bf)]).length = C'.l.length + 1 := by simp
    have hnum : iL (nums C'.l) ++ [.int .i64 b] = iL (nums (C'.l ++ [⟨b, atD C.D b, 0⟩])) := by simp [nums, iL, I]
    have hS : ∀ x, S123 rl x → rl x ≠ 0 ∧ rl x ≠ 4 ∧ rl x ≠ 5 ∧ rl x < 4 := fun x e => by unfold S123 at e; omega
    have hstep := h10.step (l' := C'.l ++ [⟨b, atD C.D b, 0⟩]) (la' := some q') (lc' := c') (mp' := putL (b : Int) (.pointer (some ⟨w11.heap.size, 0, none⟩)) mp') M16 x3 (fun x _ e => ⟨(hS x e).1, (hS x e).2.1, (hS x e).2.2.1⟩) (by rw [hlen]; simpa using u2)
      (((s2.keep m14 id).keep t3' fun e => by have := h12.of3 e; omega).keep u3 (apart hrm hrc (by omega)))
      (by
        rw [hlen, ← hnum]
        refine t2.keep u3 fun q hq e => ?_
        have := Option.some.inj hq
        subst this
        rcases hq'new with hn | ⟨_, hn⟩ <;> (rw [e] at hn; omega))
      (fun q hq => by have := Option.some.inj hq; subst this; exact ro_same _ _ _)
      (fun y hy => by
        rcases List.mem_append.1 hy with hy | hy
        · refine .inl ⟨hy, ?_, fun q e e' => by have := hS q e; omega⟩
          rw [look_put, if_neg (by have := hno y hy; omega)]
        · simp only [List.mem_singleton] at hy
          subst hy
          have n1 : ¬ S123 rl w11.heap.size := fun e => by have := hS _ e; omega
          have n2 : ¬ S123 rl g := fun e => by have := hS _ e; omega
          refine .inr ⟨w11.heap.size, g, cc, by rw [look_put, if_pos rfl], ?_, ?_, ?_, ?_⟩
          · rw [ro_ne _ (Ne.symm hq'b), ro_same]
          · rw [ro_ne _ (Ne.symm hq'g), ro_ne _ (Ne.symm hgb), ro_same]
          · refine (((hbuf.keep s3 (apart hbR hrm (by omega))).keep m14 id).keep t3' fun e => by have := h12.of3 e; omega).keep u3 (apart hbR hrc (by omega))
          · rw [← hD]
            refine ((((hat.keep m12 id).keep s3 (apart hgR hrm (by omega))).keep m14 id).keep t3' fun e => by have := h12.of3 e; omega).at.keep u3 (apart hgR hrc (by omega)))
      (fun p hp => by
        rcases put_keys p hp with e | hp
        · exact ⟨⟨b, atD C.D b, 0⟩, by simp, e⟩
        · obtain ⟨y, hy, e⟩ := h10.keys p hp
          exact ⟨y, List.mem_append.2 (.inl hy), e⟩)
      (h10.wf.add hlt hno hb' (by rw [← hD]; exact hal) (by simp))
    have hz1 := m1.size
    have hz10 := m10.size
    have hz16 := M16.size
    have MR1 : Mod R w w10 := m1.anys.trans m10 fun _ _ e => e
    have hG : Gro (Gro R w1 w10) w10 w16 = fun x => R x ∨ (w1.heap.size ≤ x ∧ x < w16.heap.size) := gro_gro (by omega) (by omega)
    have hw := h.mod.size
    refine hk1 _ hask w16 w11.heap.size ⟨_, m, sb, mb, sc, c', some q', L, _, hstep.widen (R' := Gro R w w16) (fun x hx => ?_) (fun x hx => ?_), by rw [look_put, if_pos rfl]⟩ (MR1.trans M16 fun x hx e => ?_)
    · rw [hG] at hx
      rcases hx with hx | hx
      · exact .inl hx
      · exact .inr (by omega)
    · rcases hx with hx | hx
      · have := h.lo x hx; omega
      · omega
    · have := h10.reg x (hS x e).1
      rcases this with this | this
      · exact this
      · omega
end
end Go.Proofs.Ytocjjigmpgekfaa
