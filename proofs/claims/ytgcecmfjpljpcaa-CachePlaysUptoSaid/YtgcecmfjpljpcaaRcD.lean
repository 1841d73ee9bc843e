/- Layer 10, the document's cache: a block is asked. -/
import Derived.Test.YtgcecmfjpljpcaaRcB
open Go Go.Den Go.Proofs
namespace Go.Proofs.Ytgcecmfjpljpcaa
section
variable {w0 w w' : World} {R : Nat → Prop} {rl : Nat → Nat} {rc r vb vc lc : Nat} {la : Option Addr} {hs : List (Nat × Nat)} {C : Ca} {K : Value → World → Prop}
/-- The document's cache after some steps since a world. -/
def Kr (w0 : World) (R : Nat → Prop) (w : World) (rc r : Nat) (w' : World) (C : Ca) : Prop := ∃ rl vb vc lc la hs, KIn w0 (Gro R w w') rl w' rc r vb vc lc la hs C ∧ Mod R w w'
def Kx (w0 : World) (R : Nat → Prop) (w : World) (rc r : Nat) (C : Ca) : Prop := ∃ rl vb vc lc la hs, KIn w0 R rl w rc r vb vc lc la hs C
theorem Kr.of {w1 w2 : World} {C' : Ca} (m : Mod R w w1) (h : KIn w0 (Gro (Gro R w w1) w1 w2) rl w2 rc r vb vc lc la hs C') (k : Mod (Gro R w w1) w1 w2) : Kr w0 R w rc r w2 C' := by
  rw [gro_gro m.size k.size] at h
  exact ⟨rl, vb, vc, lc, la, hs, h, m.gro k⟩
theorem Kr.nos {w1 w2 : World} (h : Kr w0 R w rc r w1 C) (k : Mod No w1 w2) : Kr w0 R w rc r w2 C := by
  obtain ⟨rl, vb, vc, lc, la, hs, h, m⟩ := h
  exact Kr.of m (h.gro k) k.anys
theorem Kr.x {w1 : World} (h : Kr w0 R w rc r w1 C) : Kx w0 (Gro R w w1) w1 rc r C := by
  obtain ⟨rl, vb, vc, lc, la, hs, h, m⟩ := h
  exact ⟨rl, vb, vc, lc, la, hs, h⟩
theorem Kr.mod {w1 : World} (h : Kr w0 R w rc r w1 C) : Mod R w w1 := by
  obtain ⟨rl, vb, vc, lc, la, hs, h, m⟩ := h
  exact m
theorem KIn.kr (h : KIn w0 R rl w rc r vb vc lc la hs C) : Kr w0 R w rc r w C := ⟨rl, vb, vc, lc, la, hs, h.gro (Mod.refl _ _), Mod.refl _ _⟩
/-- A new one at the end of the list. -/
theorem push_end {S : World → Prop} {z : Nat} {y : Bf} (h : KIn w0 R rl w rc r vb vc lc la hs C) (hz : At w z 0 (bufV y)) (hwf : WFC { C with l := C.l ++ [y] })
    (hk : ∀ w' rl' lc' la', KIn w0 (Gro R w w') rl' w' rc r vb vc lc' la' hs { C with l := C.l ++ [y] } → Mod R w w' → S w') :
    ∃ (a31 : Option Addr) (l31 c31 : Nat), ∃ w4 : World, Ru (Builtin.append_ #[110, 110] 110 #[.slice la C.l.length lc, .slice (some ⟨z, 0, none⟩) 1 1]) w (.slice a31 l31 c31) w4 ∧ ∃ q32 : Addr, (.pointer (some ⟨rc, 0, none⟩) : Value) = .pointer (some q32) ∧
      ∃ w5 : World, RuU (Instr.storeAt 110 (.pointer (some (Addr.add q32 1))) (.slice a31 l31 c31)) w4 w5 ∧ S w5 := by
  have hl1 := h.wf.len
  have hl2 := h.wf.most1
  have hw0 := h.mod.size
  obtain ⟨q', c', w4, s1, s2, s3, s4⟩ := h.row.appG (ty := 110) (m := 1) (c2 := 1) (ad := ⟨z, 0, none⟩) (ys := bufV y) elemG_bufs (by omega) (.inr ⟨_, _, rfl, hz⟩) rfl (by omega) (one_bufV y) (by omega) (by omega) (by omega)
  refine ⟨_, _, _, w4, s1, _, rfl, ?_⟩
  have hof : ∀ x, (∃ q, la = some q ∧ x = q.block) → rl x = 3 := fun x hx => by
    obtain ⟨q, hq, rfl⟩ := hx
    exact h.rrow q hq
  have hrc := h.rc1
  have hc4 := h.cell.keep s3 fun e => by have := hof _ e; omega
  obtain ⟨w5, t1, t2, t3, t4⟩ := hc4.store (P := Try.prog) (T := 110) (i := 1) (v := .slice (some q') (C.l.length + 1) c') (by kernel_rfl) (by simp) rfl
  refine ⟨w5, by rw [add_none]; exact t1, ?_⟩
  have hzs := s3.size
  have hzt := t3.size
  have M5 : Mod (fun x => rl x = 1 ∨ rl x = 3) w w5 := (s3.mono fun x _ e => .inr (hof x e)).trans t3 fun x _ e => .inl (by rw [e]; exact hrc)
  have hnew : rl q'.block = 3 ∨ (w.heap.size ≤ q'.block ∧ q'.block < w5.heap.size ∧ rl q'.block = 0) := by
    rcases s4 with ⟨q2, hq2, e⟩ | e
    · left; rw [e]; exact h.rrow q2 hq2
    · right
      have := (s2.base (q := q') rfl).2
      exact ⟨by omega, by omega, h.out_of (by omega)⟩
  have hlen : (C.l ++ [y]).length = C.l.length + 1 := by simp
  refine hk w5 (ro rl q'.block 3) c' (some q') ?_ (M5.mono fun x _ e => h.reg x (by omega))
  refine h.step M5 ((Ext.refl _ _ _).ro hnew (by omega) (by omega)) (fun y _ e => by omega) (by rw [hlen]; simpa using t2) ?_ (fun q hq => by have := Option.some.inj hq; subst this; exact ro_same _ _ _) hwf
  rw [hlen, bufL_append, bufL_one]
  refine s2.keep t3 fun q hq e => ?_
  have := Option.some.inj hq
  subst this
  rcases hnew with hn | ⟨_, _, hn⟩
  · rw [e] at hn; omega
  · rw [e] at hn; omega
theorem build_buf (w : World) (b : Nat) (x : Bk) : (Instr.build 116 #[(0, .int .i64 b), (1, .string ⟨x.toArray⟩)]).run Try.prog w = .ok (.agg ⟨bufV ⟨b, x, 0⟩⟩) w := by kernel_rfl
set_option maxRecDepth 100000 in
theorem rask_c {n : Int} (h : KIn w0 R rl w rc r vb vc lc la hs C)
    (hk0 : errOf C.D n ≠ 0 → ∀ w', Mod No w w' → K (.int .i64 (errOf C.D n)) w')
    (hk1 : ∀ (b : Nat) (C' : Ca), n = b → b < C.D.vs.length → askC C b = some C' → ∀ w', Kr w0 R w rc r w' C' → K (.int .i64 0) w')
    (hk2 : ∀ b : Nat, n = b → b < C.D.vs.length → askC C b = none → ∀ w', Kr w0 R w rc r w' C → K (.int .i64 5) w') : Cal Try.prog F_leveeref10_Cache_ask #[.pointer (some ⟨rc, 0, none⟩), .int .i64 n] w K := by
  apply C_leveeref10_Cache_ask
  unfold D_leveeref10_Cache_ask
  refine ⟨_, rfl, _, h.ld, refRead_c h.disk h.wf.small fun w1 a1 c1 m1 f1 => ⟨_, _, _, _, rfl, ?_⟩⟩
  by_cases he : errOf C.D n = 0
  · obtain ⟨b, rfl, hb⟩ := err_range he
    have hbD := hb
    obtain ⟨r1, r2⟩ := rd_at C.D hb
    rw [r2] at f1 ⊢
    rw [he]
    refine ff rfl ?_
    refine rtake_c (h.nos m1) fun w2 rl2 lc2 la2 h2 m2 => ⟨_, _, rfl, ?_⟩
    have K2 : Kr w0 R w1 rc r w2 { C with l := others C.l b } := ⟨rl2, vb, vc, lc2, la2, hs, h2, m2⟩
    have back : ∀ {w' : World} {C' : Ca}, Kr w0 R w1 rc r w' C' → Kr w0 R w rc r w' C' := fun ⟨rl', vb', vc', lc', la', hs', h', m'⟩ => by
      have hz := m1.size
      have hz' := m'.size
      have hw0 := h.mod.size
      refine ⟨rl', vb', vc', lc', la', hs', h'.widen (fun x hx => ?_) (fun x hx => ?_), m1.anys.trans m' fun _ _ e => e⟩
      · rcases hx with hx | hx
        · exact .inl hx
        · exact .inr (by omega)
      · rcases hx with hx | hx
        · have := h.lo x hx; omega
        · omega
    have m3 : Mod No w2 (w2.alloc (.cells ⟨bufZ⟩ 116)) := (Mod.refl No w2).alloc _
    have hst : RuU (Instr.storeAt 116 (.pointer (some ⟨w2.heap.size, 0, none⟩)) (.agg ⟨takeV C.l b⟩)) (w2.alloc (.cells ⟨bufZ⟩ 116)) (w2.alloc (.cells ⟨takeV C.l b⟩ 116)) := store_new agg_buf rfl (takeV_len _ _) (one_takeV _ _)
    refine ⟨_, _, alloc_buf w2, _, hst, ?_⟩
    have m4 : Mod No w2 (w2.alloc (.cells ⟨takeV C.l b⟩ 116)) := (Mod.refl No w2).alloc _
    have hq7 : At (w2.alloc (.cells ⟨takeV C.l b⟩ 116)) w2.heap.size 0 (takeV C.l b) := AtU.new.at
    generalize w2.alloc (.cells ⟨takeV C.l b⟩ 116) = w4 at *
    have K4 := K2.nos m4
    obtain ⟨rl4, vb4, vc4, lc4, la4, hs4, h4, M4⟩ := K4
    have hl1 := h.wf.len
    have hl2 := h.wf.most1
    cases hf : findB C.l b with
    | some x =>
      obtain ⟨hx, hxb⟩ := findB_some hf
      have hask : askC C b = some { C with l := others C.l b ++ [x] } := by unfold askC; rw [hf]
      have hv : takeV C.l b = bufV x := by unfold takeV; rw [hf]
      rw [hv] at hq7
      have h4d := h4.drew
      have ld7 := hq7.drew.loadAgg (P := Try.prog) (T := 116) (i := 0) (n := 3) agg_buf (by simp [bufV])
      have etk : ((bufV x).drop 0).take 3 = bufV x := rfl
      rw [etk] at ld7
      have m5 : Mod No w4 ((Go.Den.drew w4).alloc (.cells ⟨bufV x⟩ 116)) := ((Mod.refl No w4).drew).no ((Mod.refl No _).alloc _)
      have h5 := h4.gro m5
      refine tt rfl ⟨_, rfl, _, _, _, rlrow h4d.cell, _, ld7, _, _, _, _, built_buf _ _, rlrow h5.cell, ?_⟩
      have hwf : WFC { C with l := others C.l b ++ [x] } := by subst hxb; exact h.wf.move hx
      refine push_end h5 (C := { C with l := others C.l b }) AtU.new.at hwf fun w' rl' lc' la' hC hM => hk1 b _ rfl hb hask w' (back ?_)
      exact Kr.of (M4.no m5) (by
        have := gro_gro (R := R) M4.size m5.size
        rw [this] at hC; exact hC) (by
        have := gro_gro (R := R) M4.size m5.size
        rw [this] at hM; exact hM)
    | none =>
      have heq : others C.l b = C.l := by
        unfold others
        exact List.filter_eq_self.2 fun y hy => by simp [findB_none hf y hy]
      have h4 : KIn w0 (Gro R w1 w4) rl4 w4 rc r vb4 vc4 lc4 la4 hs4 C := by rw [heq] at h4; exact h4
      have h4d := h4.drew
      have hno := findB_none hf
      refine ff rfl ⟨_, rfl, _, _, _, rlrow h4d.cell, _, rfl, _, h4d.lmost, ?_⟩
      have K4' : Kr w0 R w1 rc r (Go.Den.drew w4) C := Kr.nos ⟨rl4, vb4, vc4, lc4, la4, hs4, h4, M4⟩ (Mod.refl No w4).drew
      have fr : ∀ {w' : World} {C' : Ca}, Kr w0 R w1 rc r w' C' → Row w' a1 (u8L (atD C.D b)) := fun k => f1.row.keep k.mod fun q hq hR => by
        rcases f1 with ⟨e, _⟩ | ⟨g, e, hg, _⟩
        · rw [hq] at e; cases e
        · rw [hq] at e
          have := Option.some.inj e
          subst this
          have := (h.lo _ hR).2
          simp only at this
          omega
      refine Share.cut (fun z w14 => ∃ C1, roomC C = some C1 ∧ Kr w0 R w1 rc r w14 C1) (cond_of (fun hb => ?_) (fun hb => ?_)) ?_
      · have hge : ¬ C.l.length < C.most := by have := of_decide_eq_true hb; omega
        refine ⟨fun x w8 => ∃ (i : Nat) (y1 y2 : Value), (x = [.bool false, .int .i64 i, y1, y2] ∧ i ≤ C.l.length ∧ Kr w0 R w1 rc r w8 C ∧ ∀ x ∈ C.l.take i, idleB C.D x = false) ∨ (x = [.bool true, .int .i64 i, y1, y2] ∧ i ≤ 5000 ∧ ∃ z, C.l.find? (idleB C.D) = some z ∧ Kr w0 R w1 rc r w8 { C with l := others C.l z.b }),
          fun x _ => match x with | .bool true :: _ => 0 | _ => (C.l.length + 1 - nI x 1).toNat, ⟨0, _, _, .inl ⟨rfl, by omega, K4', by simp⟩⟩, ?_⟩
        rintro x w8 ⟨i, y1, y2, ⟨rfl, hi, k8, hno8⟩ | ⟨rfl, hi5, z, hz, k8⟩⟩
        · obtain ⟨rl8, vb8, vc8, lc8, la8, hs8, h8, M8⟩ := k8
          refine Share.cut (fun z w9 => w9 = w8 ∧ z = [.bool (decide (i < C.l.length))]) ⟨_, rfl, _, rfl, _, _, _, rlrow h8.cell, cond_of (fun hb => ⟨_, rfl, rfl, ?_⟩) (fun hb => ⟨rfl, ?_⟩)⟩ ?_
          · have : i < C.l.length := by have := of_decide_eq_true hb; omega
            simp [this]
          · have : ¬ i < C.l.length := by have := of_decide_eq_false hb; omega
            simp [this]
          rintro z w9 ⟨rfl, rfl⟩
          refine ⟨_, rfl, cond_of (fun hb => ?_) (fun hb => ⟨_, rfl, tt rfl ?_⟩)⟩
          · have hi : i < C.l.length := of_decide_eq_true hb
            have hx : C.l[i]? = some C.l[i] := List.getElem?_eq_getElem hi
            have hxm := List.getElem_mem hi
            obtain ⟨g, hla, hat⟩ := h8.row1 (by omega)
            subst hla
            have k9 : Kr w0 R w1 rc r w9 C := ⟨rl8, vb8, vc8, lc8, _, hs8, h8, M8⟩
            refine Share.cut (fun z w11 => Mod No w9 w11 ∧ z = [.bool (idleB C.D C.l[i])]) ⟨_, rfl, _, _, _, rlrow h8.cell, _, rfl, _, idx_buf hi, _, lcellB hat.at hx (by kernel_rfl) (j := 2) rfl, cond_of (fun hp => ?_) (fun hp => ?_)⟩ ?_
            · have hp0 : C.l[i].pins = 0 := by simpa using hp
              refine ⟨_, rfl, _, _, _, rlrow h8.cell, _, idx_buf hi, _, lbuf hat.at hx, rdirty_c h8 hxm fun w10 m10 => ⟨_, rfl, m10, ?_⟩⟩
              simp [idleB, hp0]
            · have hp0 : ¬ C.l[i].pins = 0 := by simpa using hp
              exact ⟨Mod.refl _ _, by simp [idleB, hp0]⟩
            rintro z w11 ⟨m11, rfl⟩
            have h11 := h8.nos m11
            have k11 := k9.nos m11
            refine ⟨_, rfl, Share.cut (fun z w13 => (idleB C.D C.l[i] = false ∧ z = [.bool false] ∧ Kr w0 R w1 rc r w13 C) ∨ (idleB C.D C.l[i] = true ∧ z = [.bool true] ∧ Kr w0 R w1 rc r w13 { C with l := others C.l C.l[i].b })) (cond_of (fun hp => ?_) (fun hp => .inl ⟨hp, rfl, k11⟩)) ?_⟩
            · refine ⟨_, rfl, _, _, _, rlrow h11.cell, _, rfl, _, idx_buf hi, _, lcellB (hat.keep m11 id).at hx (by kernel_rfl) (j := 0) rfl, rtake_c h11 fun w12 rl12 lc12 la12 h12 m12 => ⟨_, _, rfl, .inr ⟨hp, rfl, ?_⟩⟩⟩
              have hz11 := m11.size
              have hz12 := m12.size
              have hz8 := M8.size
              have hgg : Gro (Gro R w1 w9) w11 w12 = fun x => Gro R w1 w9 x ∨ (w11.heap.size ≤ x ∧ x < w12.heap.size) := rfl
              refine ⟨rl12, vb8, vc8, lc12, la12, hs8, h12.widen (fun x hx => ?_) (fun x hx => ?_), (M8.no m11).trans m12 fun x hx e => ?_⟩
              · rcases hx with (hx | hx) | hx
                · exact .inl hx
                · exact .inr (by omega)
                · exact .inr (by omega)
              · have hw0 := h.mod.size
                have hz1 := m1.size
                rcases hx with hx | hx
                · have := h.lo x hx; omega
                · omega
              · rcases e with e | e
                · exact e
                · omega
            · rintro z w13 hz13
              have htk : C.l.take (i + 1) = C.l.take i ++ [C.l[i]] := List.take_succ_eq_append_getElem hi
              rcases hz13 with ⟨hid, rfl, k13⟩ | ⟨hid, rfl, k13⟩
              · refine ⟨_, rfl, ?_⟩
                rw [wrap64 (x := (i : Int) + 1) (by omega) (by omega)]
                refine ⟨⟨i + 1, _, _, .inl ⟨rfl, by omega, k13, fun x hx => ?_⟩⟩, by simp [nI, nth]; omega⟩
                rw [htk] at hx
                rcases List.mem_append.1 hx with hx | hx
                · exact hno8 x hx
                · simp at hx; subst hx; exact hid
              · refine ⟨_, rfl, ?_⟩
                rw [wrap64 (x := (i : Int) + 1) (by omega) (by omega)]
                refine ⟨⟨i + 1, _, _, .inr ⟨rfl, by omega, C.l[i], ?_, k13⟩⟩, by simp [nI, nth]; omega⟩
                refine List.find?_eq_some_iff_append.2 ⟨hid, C.l.take i, C.l.drop (i + 1), ?_, fun y hy => ?_⟩
                · conv => lhs; rw [← List.take_append_drop i C.l, List.drop_eq_getElem_cons hi]
                · rw [hno8 y hy]; rfl
          · have hil : i = C.l.length := by have := of_decide_eq_false hb; omega
            have hnone : C.l.find? (idleB C.D) = none := List.find?_eq_none.2 fun x hx => by
              have := hno8 x (by rw [hil, List.take_length]; exact hx)
              rw [this]; simp
            refine hk2 b rfl hbD ?_ w9 (back ⟨rl8, vb8, vc8, lc8, la8, hs8, h8, M8⟩)
            unfold askC; rw [hf]
            have : roomC C = none := by unfold roomC; rw [if_neg hge, hnone]; rfl
            simp only [this]; rfl
        · obtain ⟨rl8, vb8, vc8, lc8, la8, hs8, h8, M8⟩ := k8
          refine Share.cut (fun z w9 => w9 = w8 ∧ z = [.bool false]) ⟨_, rfl, _, rfl, _, _, _, rlrow h8.cell, cond_of (fun hb => ⟨_, rfl, rfl, rfl⟩) (fun hb => ⟨rfl, rfl⟩)⟩ ?_
          rintro z' w9 ⟨rfl, rfl⟩
          refine ⟨_, rfl, ff rfl ⟨_, rfl, ff rfl ?_⟩⟩
          exact ⟨_, by unfold roomC; rw [if_neg hge, hz]; rfl, rl8, vb8, vc8, lc8, la8, hs8, h8, M8⟩
      · have hlt : C.l.length < C.most := by have := of_decide_eq_false hb; omega
        exact ⟨C, by unfold roomC; rw [if_pos hlt], K4'⟩
      · rintro z w14 ⟨C1, hroom, k5⟩
        have f5 := fr k5
        obtain ⟨rl5, vb5, vc5, lc5, la5, hs5, h5, M5⟩ := k5
        obtain ⟨q1, q2, q3, q4, q5, q6⟩ := room_facts h.wf hroom
        have hask : askC C b = some { C1 with l := C1.l ++ [⟨b, atD C.D b, 0⟩] } := by unfold askC; rw [hf]; simp only [hroom]; rfl
        have hal := atD_len h.disk.wf hb
        have h5d := h5.drew
        have m6 : Mod No w14 ((Go.Den.drew w14).alloc (.cells ⟨bufV ⟨b, atD C.D b, 0⟩⟩ 116)) := ((Mod.refl No w14).drew).no ((Mod.refl No _).alloc _)
        have h6 := h5.gro m6
        refine ⟨_, rfl, _, _, _, rlrow h5d.cell, _, str_run (by kernel_rfl) (f5.nos (Mod.refl No w14).drew) rfl, _, fun w => build_buf w _ _, _, _, _, _, built_buf _ _, rlrow h6.cell, ?_⟩
        refine push_end h6 AtU.new.at (q3.add q4 (fun y hy => hno y (q5 y hy)) (by rw [q1]; exact hb) hal (by simp)) fun w' rl' lc' la' hC hM => hk1 b _ rfl hb hask w' (back ?_)
        exact Kr.of (M5.no m6) (by
          have := gro_gro (R := R) M5.size m6.size
          rw [this] at hC; exact hC) (by
          have := gro_gro (R := R) M5.size m6.size
          rw [this] at hM; exact hM)
  · refine tt (by simpa using he) (hk0 he w1 m1)
end
end Go.Proofs.Ytgcecmfjpljpcaa

/- Layer 10, the document's cache: its calls. -/
open Go Go.Den Go.Proofs
namespace Go.Proofs.Ytgcecmfjpljpcaa
section
variable {w0 w w' : World} {R : Nat → Prop} {rl : Nat → Nat} {rc r vb vc lc : Nat} {la : Option Addr} {hs : List (Nat × Nat)} {C : Ca} {K : Value → World → Prop}
theorem Kx.nos (h : Kx w0 R w rc r C) (k : Mod No w w') : Kx w0 R w' rc r C := by
  obtain ⟨rl, vb, vc, lc, la, hs, h⟩ := h
  exact ⟨rl, vb, vc, lc, la, hs, h.nos k⟩
theorem Kx.keep {S : Nat → Prop} (h : Kx w0 R w rc r C) (k : Mod S w w') (hsr : ∀ x, R x → ¬ S x) (hw : ∀ x, x < w0.heap.size → ¬ S x) : Kx w0 R w' rc r C := by
  obtain ⟨rl, vb, vc, lc, la, hs, h⟩ := h
  exact ⟨rl, vb, vc, lc, la, hs, h.keepS k hsr hw⟩
theorem Kx.wf (h : Kx w0 R w rc r C) : WFC C ∧ WF C.D ∧ Mod No w0 w ∧ (∀ x, R x → w0.heap.size ≤ x ∧ x < w.heap.size) := by
  obtain ⟨rl, vb, vc, lc, la, hs, h⟩ := h
  exact ⟨h.wf, h.disk.wf, h.mod, h.lo⟩
theorem set_turn {l : List Bf} {j : Nat} {x y : Bf} (hn : (l.map (·.b)).Nodup) (hx : l[j]? = some x) (e : x.b = y.b) : l.set j y = turn l y := by
  obtain ⟨hj, hxe⟩ := List.getElem?_eq_some_iff.1 hx
  apply List.ext_getElem?
  intro i
  unfold turn
  rw [List.getElem?_map]
  by_cases h : j = i
  · subst h
    rw [List.getElem?_set_self hj, hx]
    simp [e]
  · rw [List.getElem?_set_ne h]
    cases hi : l[i]? with
    | none => rfl
    | some z =>
      have hz : z.b ≠ y.b := fun e2 => by
        obtain ⟨hi', hze⟩ := List.getElem?_eq_some_iff.1 hi
        have h1 := (List.pairwise_iff_getElem.1 hn)
        rcases Nat.lt_or_ge i j with hlt | hge
        · have := h1 i j (by simpa using hi') (by simpa using hj) hlt
          simp [hze, hxe] at this
          exact this (by rw [e2, e])
        · have := h1 j i (by simpa using hj) (by simpa using hi') (by omega)
          simp [hze, hxe] at this
          exact this (by rw [e2, e])
      simp [hz]
/-- A field of one is turned. -/
theorem KIn.fld {j i : Nat} {x y : Bf} {v : Value} {T : TypeId} (h : KIn w0 R rl w rc r vb vc lc la hs C) (hx : C.l[i]? = some x) (hT : scal Try.prog T = true) (hj : j < 3) (hv : (bufV x).set j v = bufV y) (h1 : v.oneCell' = true) (hb : x.b = y.b) (hwf : WFC { C with l := turn C.l y }) :
    ∃ g, la = some ⟨g, 0, none⟩ ∧ ∃ w', RuU (Instr.storeAt T (.pointer (some (Addr.add ⟨g, i * 3, none⟩ j))) v) w w' ∧ Kr w0 R w rc r w' { C with l := turn C.l y } := by
  have hi := (List.getElem?_eq_some_iff.1 hx).1
  obtain ⟨g, rfl, hat⟩ := h.row1 (by omega)
  have hst := set_turn h.wf.nodup hx hb
  obtain ⟨w1, t1, t2, t3⟩ := h.row.setK (T' := T) (i := i * 3 + j) (v := v) hT (by omega) h1
  rw [bufL_set C.l i j x y v hx hj hv, hst] at t2
  have hg3 : rl g = 3 := h.rrow _ rfl
  have hrc := h.rc1
  refine ⟨g, rfl, w1, by rw [add_none]; exact t1, rl, vb, vc, lc, _, hs, h.step (l' := turn C.l y) t3 (Ext.refl _ _ _) (fun z _ e => by rw [e]; omega) ?_ ?_ h.rrow hwf, t3.mono fun z _ e => h.reg z (by rw [e]; omega)⟩
  · rw [turn_len]; exact h.cell.keep t3 (apart hrc hg3 (by omega))
  · rw [turn_len]; exact t2
theorem rRead_c {n : Int} (hC : Kx w0 R w rc r C) (hk : ∀ w' a cc, Kr w0 R w rc r w' (rdX C n).1 → Row w' a (u8L (rdX C n).2.2) → K (.tuple #[.slice a (rdX C n).2.2.length cc, .int .i64 (rdX C n).2.1]) w') :
    Cal Try.prog F_leveeref10_Cache_Read #[.pointer (some ⟨rc, 0, none⟩), .int .i64 n] w K := by
  obtain ⟨rl, vb, vc, lc, la, hs, h⟩ := hC
  apply C_leveeref10_Cache_Read
  unfold D_leveeref10_Cache_Read
  refine rask_c h (fun he w1 m1 => ⟨_, rfl, tt (by simpa using he) ?_⟩) (fun b C' hn hb ha w1 k1 => ⟨_, rfl, ff rfl ?_⟩) fun b hn hb ha w1 k1 => ⟨_, rfl, tt rfl ?_⟩
  · have hr0 : rdX C n = (C, errOf C.D n, []) := by unfold rdX; rw [if_pos he]
    rw [hr0] at hk
    exact hk w1 none 0 (h.kr.nos m1) (.inl rfl)
  · subst hn
    have hr0 : rdX C b = (C', 0, lastD C'.l) := by
      unfold rdX; rw [if_neg (by rw [(rd_at C.D hb).1]; simp), Int.toNat_natCast, ha]
    rw [hr0] at hk
    obtain ⟨l0, y, A⟩ := ask_facts h.wf h.disk.wf hb ha
    have hld : lastD C'.l = y.data := by unfold lastD; rw [A.l]; simp
    have hlen : C'.l.length = l0.length + 1 := by rw [A.l]; simp
    have hy : C'.l[l0.length]? = some y := by rw [A.l]; simp
    have k2 := k1.nos (Mod.refl No w1).drew
    obtain ⟨rl', vb', vc', lc', la', hs', h', m'⟩ := k2
    have hl1 := A.wf.len
    have hl2 := A.wf.most1
    obtain ⟨g, rfl, hat⟩ := h'.row1 (by omega)
    obtain ⟨cc, w2, c1, c2, c3, c4⟩ := bytes_run (P := Try.prog) (w := Go.Den.drew w1) (S := 9) (T := 32) (xs := y.data) (by kernel_rfl)
    refine ⟨_, rfl, _, _, _, rlrow h'.cell, _, rfl, _, _, _, rlrow h'.cell, ⟨g, l0.length * 3, none⟩, ?_⟩
    · rw [wrap64 (x := (C'.l.length : Int) - 1) (by omega) (by omega), show (C'.l.length : Int) - 1 = ((l0.length : Nat) : Int) by omega]
      refine ⟨idx_buf (by omega), _, lcellB hat.at hy (by kernel_rfl) (j := 1) rfl, _, _, _, w2, c1, ?_⟩
      have := hk w2 (some ⟨(Go.Den.drew w1).heap.size, 0, none⟩) cc (Kr.nos ⟨rl', vb', vc', lc', _, hs', h', m'⟩ c3) (by rw [hld]; exact .inr ⟨_, _, rfl, c2.at⟩)
      rw [hld] at this
      exact this
  · subst hn
    have hr0 : rdX C b = (C, 5, []) := by
      unfold rdX; rw [if_neg (by rw [(rd_at C.D hb).1]; simp), Int.toNat_natCast, ha]
    rw [hr0] at hk
    exact hk w1 none 0 k1 (.inl rfl)
theorem rLay_c {n : Int} {a2 : Option Addr} {l2 c2 : Nat} {ys : Bk} (hC : Kx w0 R w rc r C) (hl : ys.length = l2) (hr : Row w a2 (u8L ys)) (hd : ys ≠ [] → ∀ q, a2 = some q → ¬ R q.block)
    (hk : ∀ w', Kr w0 R w rc r w' (layX C n ys).1 → K (.int .i64 (layX C n ys).2) w') : Cal Try.prog F_leveeref10_Cache_Lay #[.pointer (some ⟨rc, 0, none⟩), .int .i64 n, .slice a2 l2 c2] w K := by
  obtain ⟨rl, vb, vc, lc, la, hs, h⟩ := hC
  apply C_leveeref10_Cache_Lay
  unfold D_leveeref10_Cache_Lay
  refine ⟨_, rfl, _, h.ld, refRead_c h.disk h.wf.small fun w1 a1 c1 m1 f1 => ⟨_, _, _, _, rfl, ?_⟩⟩
  by_cases he : errOf C.D n = 0
  · by_cases h256 : ys.length = 256
    · rw [he]
      refine ff rfl (ff (by simp; omega) ?_)
      refine rask_c (h.nos m1) (fun he' => absurd he he') (fun b C' hn hb ha w2 k2 => ⟨_, rfl, Share.dup (tt rfl ?_)⟩) fun b hn hb ha w2 k2 => ⟨_, rfl, Share.dup (ff rfl ?_)⟩
      · subst hn
        have hr0 : layX C b ys = ({ C' with l := turn C'.l ⟨b, ys, pinsOf C'.l b⟩ }, 0) := by
          unfold layX; rw [if_neg (by omega), if_neg (by omega), Int.toNat_natCast, ha]
        rw [hr0] at hk
        obtain ⟨l0, y, A⟩ := ask_facts h.wf h.disk.wf hb ha
        have hlen : C'.l.length = l0.length + 1 := by rw [A.l]; simp
        have hy : C'.l[l0.length]? = some y := by rw [A.l]; simp
        have hym := List.mem_of_getElem? hy
        have hp : pinsOf C'.l b = y.pins := by rw [← A.yb, pinsOf_mem A.wf.nodup hym]
        simp only [hp] at hk
        have hyne : ys ≠ [] := fun e => by rw [e] at h256; simp at h256
        have hr2 := Row.region (hr.nos m1) k2.mod fun _ => hd hyne
        have k3 := k2.nos (Mod.refl No w2).drew
        obtain ⟨rl', vb', vc', lc', la', hs', h', m'⟩ := k3
        have hl1 := A.wf.len
        have hl2 := A.wf.most1
        obtain ⟨g, rfl, w3, t1, t2⟩ := h'.fld (j := 1) (y := ⟨b, ys, y.pins⟩) (v := .string ⟨ys.toArray⟩) (T := 9) hy (by kernel_rfl) (by omega) (by simp [bufV, A.yb]) rfl A.yb
          (A.wf.turn (by show b < C'.D.vs.length; rw [A.D]; exact hb) h256 (A.wf.pins y hym))
        refine ⟨_, rfl, _, _, _, rlrow h'.cell, _, rfl, _, _, _, rlrow h'.cell, _, str_run (by kernel_rfl) (hr2.nos (Mod.refl No w2).drew) hl, ⟨g, l0.length * 3, none⟩, ?_⟩
        rw [wrap64 (x := (C'.l.length : Int) - 1) (by omega) (by omega), show (C'.l.length : Int) - 1 = ((l0.length : Nat) : Int) by omega]
        refine ⟨idx_buf (by omega), w3, t1, hk w3 ?_⟩
        obtain ⟨rl5, vb5, vc5, lc5, la5, hs5, h5, m5⟩ := t2
        have hm2 := k2.mod
        have hz1 := m1.size
        have hz2 := hm2.size
        have hzd : (Go.Den.drew w2).heap.size = w2.heap.size := rfl
        have hz5 := m5.size
        have hw0 := h.mod.size
        refine ⟨rl5, vb5, vc5, lc5, la5, hs5, h5.widen (fun x hx => ?_) (fun x hx => ?_), (m1.anys.trans m' fun _ _ e => e).trans m5 fun x hx e => ?_⟩
        · rcases hx with (hx | hx) | hx
          · exact .inl hx
          · exact .inr (by omega)
          · exact .inr (by omega)
        · rcases hx with hx | hx
          · have := h.lo x hx; omega
          · omega
        · rcases e with e | e
          · exact e
          · omega
      · subst hn
        have hr0 : layX C b ys = (C, 5) := by unfold layX; rw [if_neg (by omega), if_neg (by omega), Int.toNat_natCast, ha]
        rw [hr0] at hk
        refine hk w2 ?_
        obtain ⟨rl5, vb5, vc5, lc5, la5, hs5, h5, m5⟩ := k2
        have hz1 := m1.size
        have hz5 := m5.size
        have hw0 := h.mod.size
        refine ⟨rl5, vb5, vc5, lc5, la5, hs5, h5.widen (fun x hx => ?_) (fun x hx => ?_), m1.anys.trans m5 fun _ _ e => e⟩
        · rcases hx with hx | hx
          · exact .inl hx
          · exact .inr (by omega)
        · rcases hx with hx | hx
          · have := h.lo x hx; omega
          · omega
    · have hr0 : layX C n ys = (C, 4) := by unfold layX; rw [if_neg (by omega), if_pos h256]
      rw [hr0] at hk
      rw [he]
      exact ff rfl (tt (by simp; omega) (hk w1 (h.kr.nos m1)))
  · have hr0 : layX C n ys = (C, errOf C.D n) := by unfold layX; rw [if_pos he]
    rw [hr0] at hk
    exact tt (by simpa using he) (hk w1 (h.kr.nos m1))
end
end Go.Proofs.Ytgcecmfjpljpcaa
