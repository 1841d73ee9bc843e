/- Parts of the proof, in order: what the statement leans on. -/
import Derived.Test.YtocjjigmpgekfaaGreatCf
section
/- Layer 12: changes laid in both stores; both alike. -/
open Go Go.Den Go.Proofs
namespace Go.Proofs.YtocjjigmpgekfaaGreat
/-- A change: its block, where it begins, its bytes, what it waits for, a block that is written behind it, whether all is flushed. -/
structure A12 where
  n : Int
  f : Int
  xs : List UInt8
  af : List Int
  wb : Int
  fl : Bool
def A12.fit (x : A12) (w : World) (cs : List Value) : Prop := ∃ (ad : Option Addr) (cd : Nat) (aa : Option Addr) (ca : Nat), cs = [.int .i64 x.n, .int .i64 x.f, .slice ad x.xs.length cd, .slice aa x.af.length ca, .int .i64 x.wb, .bool x.fl] ∧
  Row w ad (u8L x.xs) ∧ (ad = none → x.xs.length = 0 ∧ cd = 0) ∧ x.xs.length ≤ 9223372036854775807 ∧ Row w aa (iL x.af) ∧ x.af.length ≤ 9223372036854775807
def Acts12 (w : World) (a : Option Addr) (acts : List A12) : Prop :=
  acts = [] ∨ ∃ (b o : Nat) (H : List Value), a = some ⟨b, o, none⟩ ∧ At w b o H ∧ H.length = acts.length * 6 ∧ ∀ (r : Nat) (x : A12), acts[r]? = some x → x.fit w ((H.drop (r * 6)).take 6)
/-- From two regions on, some steps. -/
structure Sx (R R2 : Nat → Prop) (w : World) (R' R2' : Nat → Prop) (w' : World) : Prop where
  m : Mod (fun x => R x ∨ R2 x) w w'
  s : ∀ x, R' x ∨ R2' x → (R x ∨ R2 x) ∨ w.heap.size ≤ x
section
variable {w w' w0 w'' : World} {R R2 R' R2' : Nat → Prop} {sp d rp r : Nat} {V : Ps} {S : Rs} {K : Value → World → Prop}
theorem Sx.refl : Sx R R2 w R R2 w := ⟨Mod.refl _ _, fun _ h => .inl h⟩
theorem Sx.no (h : Sx R R2 w R' R2' w') (m : Mod No w' w'') : Sx R R2 w R' R2' w'' := ⟨h.m.no m, h.s⟩
theorem Sx.P {R3 : Nat → Prop} (h : Sx R R2 w R' R2' w') (m : Mod R' w' w'') (s : ∀ x, R3 x → R' x ∨ w'.heap.size ≤ x) : Sx R R2 w R3 R2' w'' where
  m := h.m.trans m fun x hx e => by
    rcases h.s x (.inl e) with h | h
    · exact h
    · omega
  s x e := by
    have := h.m.size
    rcases e with e | e
    · rcases s x e with e | e
      · exact h.s x (.inl e)
      · right; omega
    · exact h.s x (.inr e)
theorem Sx.Q {R3 : Nat → Prop} (h : Sx R R2 w R' R2' w') (m : Mod R2' w' w'') (s : ∀ x, R3 x → R2' x ∨ w'.heap.size ≤ x) : Sx R R2 w R' R3 w'' where
  m := h.m.trans m fun x hx e => by
    rcases h.s x (.inr e) with h | h
    · exact h
    · omega
  s x e := by
    have := h.m.size
    rcases e with e | e
    · exact h.s x (.inl e)
    · rcases s x e with e | e
      · exact h.s x (.inr e)
      · right; omega
theorem gro_sub {R : Nat → Prop} {w w' : World} : ∀ x, Gro R w w' x → R x ∨ w.heap.size ≤ x := fun x e => by
  rcases e with e | e
  · exact .inl e
  · exact .inr e.1
theorem Sx.stepP (h : Sx R R2 w R' R2' w') (m : Mod R' w' w'') : Sx R R2 w (Gro R' w' w'') R2' w'' := h.P m gro_sub
theorem Sx.stepQ (h : Sx R R2 w R' R2' w') (m : Mod R2' w' w'') : Sx R R2 w R' (Gro R2' w' w'') w'' := h.Q m gro_sub
theorem T11.P {V' : Ps} {R3 : Nat → Prop} (h : T11 w0 R R2 w sp d rp r V S) (m : Mod R w w') (s : ∀ x, R3 x → R x ∨ w.heap.size ≤ x) (hp : Pz w0 R3 w' sp d V') : T11 w0 R3 R2 w' sp d rp r V' S :=
  ⟨hp, h.q.keep m (fun x h2 h1 => h.dis x h1 h2) (fun x hx e => by have := (h.p.lo x e).1; omega), fun x h3 h2 => by
    rcases s x h3 with e | e
    · exact h.dis x e h2
    · have := (h.q.wf.2.2.2 x h2).2; omega⟩
theorem T11.Q {S' : Rs} {R3 : Nat → Prop} (h : T11 w0 R R2 w sp d rp r V S) (m : Mod R2 w w') (s : ∀ x, R3 x → R2 x ∨ w.heap.size ≤ x) (hq : Rx w0 R3 w' rp r S') : T11 w0 R R3 w' sp d rp r V S' :=
  ⟨h.p.keep m (fun x h1 h2 => h.dis x h1 h2) (fun x hx e => by have := (h.q.wf.2.2.2 x e).1; omega), hq, fun x h1 h3 => by
    rcases s x h3 with e | e
    · exact h.dis x h1 e
    · have := (h.p.lo x h1).2; omega⟩
theorem Acts12.get {acts : List A12} {a : Option Addr} {l cc i : Nat} {x : A12} (h : Acts12 w a acts) (m : Mod No w w') (hl : acts.length = l) (hx : acts[i]? = some x) :
    ∃ q : Addr, Al (Instr.indexAt 55 (.slice a l cc) (.int .i64 i)) (.pointer (some q)) ∧ ∃ cs, x.fit w cs ∧ Ru (Instr.loadAt 172 (.pointer (some q))) w' (.agg ⟨cs⟩) w' := by
  have hi := (List.getElem?_eq_some_iff.1 hx).1
  rcases h with h | ⟨b, o, H, rfl, hat, hlen, hf⟩
  · rw [h] at hi; simp at hi
  refine ⟨⟨b, o + i * 6, none⟩, fun w' => ?_, _, hf i x hx, ?_⟩
  · have := index_slice (P := Tryz.prog) (T := 55) (k := 6) (a := ⟨b, o, none⟩) (n := l) (c := cc) (kk := .i64) (i := i) (by kernel_rfl) (by omega) (by omega) w'
    rw [add_none, show (i : Int).toNat = i by omega] at this
    exact this
  · exact (hat.keep m id).loadAgg (P := Tryz.prog) (T := 172) (i := i * 6) (n := 6) (by kernel_rfl) (by omega)
theorem alloc_chg12 (w : World) : (Instr.alloc 172 true (.tuple #[])).run Tryz.prog w = .ok (.pointer (some ⟨w.heap.size, 0, none⟩)) (w.alloc (.cells ⟨[.int .i64 0, .int .i64 0, .slice none 0 0, .slice none 0 0, .int .i64 0, .bool false]⟩ 172)) := by kernel_rfl
theorem agg_chg12 : aggN Tryz.prog 172 = some 6 := by kernel_rfl
theorem snoc64 {base l c : Nat} {a : Option Addr} {xs : List Int} {v : Int} (h : Own Tryz.prog w base 37 1 a l c (iL xs)) (hl : l ≤ 1000000) (hb : base ≤ w.heap.size) :
    ∃ (a' : Option Addr) (c' : Nat) (w4 : World), Ru (Builtin.append_ #[37, 37] 37 #[.slice a l c, .slice (some ⟨w.heap.size, 0, none⟩) 1 1]) (w.alloc (.cells ⟨[.int .i64 v]⟩ 2)) (.slice a' (l + 1) c') w4 ∧ Own Tryz.prog w4 base 37 1 a' (l + 1) c' (iL (xs ++ [v])) ∧ Mod (fun x => base ≤ x) w w4 := by
  obtain ⟨a', c', w4, s1, s2, s3⟩ := h.snoc (ty := 37) (t := 2) (ys := [.int .i64 v]) elemZ_64 (by omega) rfl (by intro u hu; simp at hu; subst hu; rfl) (by omega) (by omega) hb
  have e : iL xs ++ [.int .i64 v] = iL (xs ++ [v]) := by unfold iL; rw [List.map_append]; rfl
  rw [e] at s2
  exact ⟨a', c', w4, s1, s2, s3⟩
theorem lay12_c {acts : List A12} {a : Option Addr} {l c : Nat} (ha : Acts12 w0 a acts) (hl : acts.length = l) (h : T11 w0 R R2 w sp d rp r (zeroV 5 5) (newRs (newSt 5)))
    (hk : ∀ w' R' R2' V S, T11 w0 R' R2' w' sp d rp r V S → Rel V S → Lw V → Bd V 100 → V.C.D.vs.length = 5 → Sx R R2 w R' R2' w' → K (.bool true) w') :
    Cal Tryz.prog F_leveelaw12_lay #[.pointer (some ⟨sp, 0, none⟩), .pointer (some ⟨rp, 0, none⟩), .slice a l c] w K := by
  apply C_leveelaw12_lay
  unfold D_leveelaw12_lay
  refine ⟨fun x w1 => ∃ (i : Nat) (y1 y2 y3 y4 y5 y6 : Value) (R' R2' : Nat → Prop) (V : Ps) (S : Rs), x = [.int .i64 i, y1, y2, y3, y4, y5, y6] ∧ i ≤ 30 ∧ T11 w0 R' R2' w1 sp d rp r V S ∧ Rel V S ∧ Lw V ∧ Bd V (3 * i) ∧ V.C.D.vs.length = 5 ∧ Sx R R2 w R' R2' w1, fun x _ => (30 - nI x 0).toNat,
    ⟨0, _, _, _, _, _, _, _, _, _, _, rfl, by omega, h, Rel.start 5 5, Lw.start 5 5, Bd.start 5 5, by simp [zeroV, newSt], Sx.refl⟩, ?_⟩
  rintro x w1 ⟨i, y1, y2, y3, y4, y5, y6, R1, R21, V, S, rfl, hi30, t1, r1, s1, b1, h5, x1⟩
  refine Share.cut (fun z w8 => w1 = w8 ∧ z = [.bool (decide (i < l ∧ i < 30))]) ⟨_, rfl, cond_of (fun hb => ⟨rfl, ?_⟩) (fun hb => ⟨rfl, ?_⟩)⟩ ?_
  · have := of_decide_eq_true hb
    exact bcell (by omega)
  · have := of_decide_eq_false hb
    exact bcellF (by omega)
  rintro z w8 ⟨rfl, rfl⟩
  refine ⟨_, rfl, cond_of (fun hb => ?_) (fun hb => hk w1 R1 R21 V S t1 r1 s1 ⟨b1.ver.mono (by omega), by have := b1.last; omega⟩ h5 x1)⟩
  obtain ⟨hil, hi3⟩ := of_decide_eq_true hb
  have hM1 := t1.p.mod
  obtain ⟨q, hidx, cs, hfit, hload⟩ := ha.get (i := i) (cc := c) hM1 hl (List.getElem?_eq_getElem (by omega))
  have hst : RuU (Instr.storeAt 172 (.pointer (some ⟨w1.heap.size, 0, none⟩)) (.agg ⟨cs⟩)) (w1.alloc (.cells ⟨[.int .i64 0, .int .i64 0, .slice none 0 0, .slice none 0 0, .int .i64 0, .bool false]⟩ 172)) (w1.alloc (.cells ⟨cs⟩ 172)) := by
    obtain ⟨ad, cd, aa, ca, rfl, _⟩ := hfit
    refine store_new agg_chg12 rfl rfl ?_
    intro v hv
    simp at hv
    rcases hv with rfl | rfl | rfl | rfl | rfl | rfl <;> rfl
  obtain ⟨ad, cd, aa, ca, rfl, had, hadn, had63, haa, haa63⟩ := hfit
  generalize acts[i] = A at *
  refine ⟨_, rfl, q, hidx, _, hload, _, _, alloc_chg12 _, _, hst, ?_⟩
  have m3 : Mod No w1 (w1.alloc (.cells ⟨[.int .i64 A.n, .int .i64 A.f, .slice ad A.xs.length cd, .slice aa A.af.length ca, .int .i64 A.wb, .bool A.fl]⟩ 172)) := (Mod.refl No w1).alloc _
  have a3 : At (w1.alloc (.cells ⟨[.int .i64 A.n, .int .i64 A.f, .slice ad A.xs.length cd, .slice aa A.af.length ca, .int .i64 A.wb, .bool A.fl]⟩ 172)) w1.heap.size 0 [.int .i64 A.n, .int .i64 A.f, .slice ad A.xs.length cd, .slice aa A.af.length ca, .int .i64 A.wb, .bool A.fl] := AtU.new.at
  generalize w1.alloc (.cells ⟨[.int .i64 A.n, .int .i64 A.f, .slice ad A.xs.length cd, .slice aa A.af.length ca, .int .i64 A.wb, .bool A.fl]⟩ 172) = w3 at *
  have t3 := t1.nos m3
  have o3 : Out w0 R1 R21 w3 w1.heap.size := t1.fresh (Nat.le_refl _) a3.lt
  have ld : ∀ {w2 : World}, At w2 w1.heap.size 0 [.int .i64 A.n, .int .i64 A.f, .slice ad A.xs.length cd, .slice aa A.af.length ca, .int .i64 A.wb, .bool A.fl] → ∀ (j : Nat) (v : Value) (T : TypeId), scal Tryz.prog T = true → ([.int .i64 A.n, .int .i64 A.f, .slice ad A.xs.length cd, .slice aa A.af.length ca, .int .i64 A.wb, .bool A.fl] : List Value)[j]? = some v → Ru (Instr.loadAt T (.pointer (some (Addr.add ⟨w1.heap.size, 0, none⟩ j)))) w2 v w2 := by
    intro w2 a j v T hT hj
    rw [add_none]; exact a.load hT hj
  have hlast := b1.last
  have hS : S.last = V.last := by obtain ⟨af, hA⟩ := r1; exact hA.last
  have haa3 := (haa.nos hM1).nos m3
  -- what is ahead
  refine ⟨fun x w5 => ∃ (j : Nat) (a9 : Option Addr) (c9 : Nat) (y z : Value), x = [.slice a9 j c9, .int .i64 j, y, z] ∧ j ≤ 4 ∧ j ≤ A.af.length ∧ Own Tryz.prog w5 w3.heap.size 37 1 a9 j c9 (iL ((A.af.take j).map (aheadN V.last))) ∧ Mod No w3 w5, fun x _ => (4 - nI x 1).toNat,
    ⟨0, none, 0, _, _, rfl, by omega, by omega, Own.nil elemZ_64, Mod.refl _ _⟩, ?_⟩
  rintro x w5 ⟨j, a9, c9, y, z9, rfl, hj4, hja, o9, m5⟩
  have t5 := t3.nos m5
  have a5 := a3.keep m5 id
  have hz5 := m5.size
  have hl5 := t5.q.llast
  rw [hS] at hl5
  refine Share.cut (fun z w6 => w5 = w6 ∧ z = [.bool (decide (j < A.af.length ∧ j < 4 ∧ 0 < V.last))]) ⟨_, rfl, _, _, _, ld a5 3 _ _ (by kernel_rfl) rfl, cond_of (fun hb1 => cond_of (fun hb2 => ⟨_, rfl, _, hl5, rfl, ?_⟩) (fun hb2 => ⟨rfl, ?_⟩)) (fun hb1 => ⟨rfl, ?_⟩)⟩ ?_
  · have h1 := of_decide_eq_true hb1
    have h2 := of_decide_eq_true hb2
    exact bcell (by omega)
  · have h2 := of_decide_eq_false hb2
    exact bcellF (by omega)
  · have h1 := of_decide_eq_false hb1
    exact bcellF (by omega)
  rintro z w6 ⟨rfl, rfl⟩
  refine ⟨_, rfl, cond_of (fun hb1 => ?_) (fun hb1 => ?_)⟩
  · obtain ⟨g1, g2, g3⟩ := of_decide_eq_true hb1
    have md : Mod No w5 (drew w5) := (Mod.refl No w5).drew
    have a6 := a5.drew
    have hl6 := t5.drew.q.llast
    rw [hS] at hl6
    obtain ⟨b4, o4, rfl, hat4⟩ := row_some ((haa3.nos m5).nos md) g1
    have hb1 : A.af[j].tmod V.last < V.last := Int.tmod_lt_of_pos _ (by omega)
    have hb2 : -(V.last : Int) < A.af[j].tmod V.last := by
      have := Int.tmod_lt_of_pos (-A.af[j]) (b := (V.last : Int)) (by omega)
      rw [Int.neg_tmod] at this; omega
    refine ⟨_, _, _, ld a6 3 _ _ (by kernel_rfl) rfl, _, rfl, _, index_slice (k := 1) (by kernel_rfl) (by omega) (by omega), ?_⟩
    rw [add_none, show (j : Int).toNat * 1 = j by omega]
    refine ⟨_, hat4.load (by kernel_rfl) (iL_get g1), _, rfl, _, hl6, _, rem_run (by omega), Share.cut (fun z w7 => drew w5 = w7 ∧ z = [.int .i64 (if A.af[j].tmod V.last < 0 then -(A.af[j].tmod V.last) else A.af[j].tmod V.last)]) (cond_of (fun hb => ⟨rfl, ?_⟩) (fun hb => ⟨rfl, ?_⟩)) ?_⟩
    · have hb := of_decide_eq_true hb
      rw [if_pos hb, wrap64 (x := 0 - A.af[j].tmod V.last) (by omega) (by omega), Int.zero_sub]
    · have hb := of_decide_eq_false hb
      rw [if_neg hb]
    rintro z w7 ⟨rfl, rfl⟩
    have hah : IntKind.i64.wrap ((V.last : Int) - (if A.af[j].tmod V.last < 0 then -(A.af[j].tmod V.last) else A.af[j].tmod V.last)) = aheadN V.last A.af[j] := by
      unfold aheadN
      rw [wrap64 (by split <;> omega) (by split <;> omega)]
    refine ⟨_, _, _, rfl, _, rfl, _, hl6, _, rfl, ?_⟩
    rw [hah]
    have hzd : (drew w5).heap.size = w5.heap.size := rfl
    obtain ⟨a', c', w9, s9, o9', m9⟩ := snoc64 (v := aheadN V.last A.af[j]) (o9.nos md) (by omega) (by omega)
    refine ⟨_, _, _, _, builtI64 _ _, _, _, _, w9, s9, ?_⟩
    rw [wrap64 (x := (j : Int) + 1) (by omega) (by omega)]
    refine ⟨⟨j + 1, a', c', _, _, rfl, by omega, by omega, ?_, (m5.no md).up m9 (Nat.le_refl _)⟩, by simp [nI, nth]; omega⟩
    rw [List.take_succ_eq_append_getElem g1, List.map_append]
    exact o9'
  -- the change
  have hil2 : ((A.af.take j).map (aheadN V.last)).length = j := by simp; omega
  generalize (A.af.take j).map (aheadN V.last) = ids at *
  have o5 := o3.nos m5
  have had5 := ((had.nos hM1).nos m3).nos m5
  have hb3 : w1.heap.size ≤ w3.heap.size := m3.size
  have hlo5 := t5.p.lo
  have hlo5q := t5.q.wf.2.2.2
  have hlo1 := t1.p.lo
  have hlo1q := t1.q.wf.2.2.2
  have hidn : ids ≠ [] → ∀ q, a9 = some q → ¬ R1 q.block ∧ ¬ R21 q.block := fun hne q hq => by
    have := (o9.base hq).1
    exact ⟨fun e => by have := (hlo1 _ e).2; omega, fun e => by have := (hlo1q _ e).2; omega⟩
  have hdn : A.xs ≠ [] → ∀ q, ad = some q → ¬ R1 q.block ∧ ¬ R21 q.block := fun hne q hq => by
    have := Row.lt had (u8L_ne hne) hq
    exact ⟨fun e => by have := (hlo1 _ e).1; omega, fun e => by have := (hlo1q _ e).1; omega⟩
  have hwf := t5.p.wf
  have hqwf := t5.q.wf
  have r1' := r1
  obtain ⟨af, hA⟩ := r1'
  have x5 := (x1.no m3).no m5
  refine ⟨_, ld a5 0 _ _ (by kernel_rfl) rfl, _, ld a5 1 _ _ (by kernel_rfl) rfl, _, _, _, ld a5 2 _ _ (by kernel_rfl) rfl, _, _, _, rfl, ?_⟩
  refine qPatch_c (n := A.n) (frm := A.f) (data := A.xs) (after := ids) t5.p (by omega) rfl had5 (fun hne q hq => (hdn hne q hq).1) (by omega) hil2 (by omega) o9.rowU.row (fun hne q hq => (hidn hne q hq).1) fun w10 m10 z10 => ⟨_, _, rfl, ?_⟩
  have t10 := t5.stepP m10 z10
  have a10 := a5.keep m10 o5.p
  have o10 := o5.stepP m10
  have x10 := x5.stepP m10
  have had10 : Row w10 ad (u8L A.xs) := by
    by_cases hne : A.xs = []
    · rw [hne]; exact .inl rfl
    · exact had5.keep m10 fun q hq => (hdn hne q hq).1
  have hid10 : Row w10 a9 (iL ids) := by
    by_cases hne : ids = []
    · rw [hne]; exact .inl rfl
    · exact o9.rowU.row.keep m10 fun q hq => (hidn hne q hq).1
  have hN : patNR S A.n A.f A.xs ids = patN V A.n A.f A.xs ids := (hA.pat hwf.1 hqwf.1 hwf.2.2.2.2 A.n A.f A.xs ids).2
  have hrel := (hA.pat hwf.1 hqwf.1 hwf.2.2.2.2 A.n A.f A.xs ids).1
  have hE := hA.patE hqwf.1 A.n A.f A.xs ids
  have s10 : Lw (patS V A.n A.f A.xs ids) := s1.pat (Gd.of t5.p s1.srt) _ _ _ _
  have b10 : Bd (patS V A.n A.f A.xs ids) (3 * i + 1) := b1.pat _ _ _ _
  refine ⟨_, ld a10 0 _ _ (by kernel_rfl) rfl, _, ld a10 1 _ _ (by kernel_rfl) rfl, _, _, _, ld a10 2 _ _ (by kernel_rfl) rfl, ?_⟩
  refine rPatch11_c (n := A.n) (frm := A.f) (data := A.xs) (after := ids) t10.q (by rw [hA.last]; omega) rfl had10 (fun hne q hq => (hdn hne q hq).2) (by omega) hil2 (by omega) hid10 (fun hne q hq => (hidn hne q hq).2) fun w11 m11 z11 => ⟨_, _, rfl, ?_⟩
  have t11 := t10.stepQ m11 z11
  have a11 := a10.keep m11 o10.q
  have o11 := o10.stepQ m11
  have x11 := x10.stepQ m11
  have h10 : (patS V A.n A.f A.xs ids).C.D.vs.length = 5 := by
    have e := (patS_C (V := V) (C := V.C) (n := A.n) (f := A.f) (data := A.xs) (after := ids) rfl).2.2
    rw [e]; exact h5
  generalize patS V A.n A.f A.xs ids = V1 at *
  generalize patSR S A.n A.f A.xs ids = S1 at *
  -- a block is written
  refine Share.cut (fun z w14 => z = [.bool false] ∧ ∃ (R' R2' : Nat → Prop) (V : Ps) (S : Rs), T11 w0 R' R2' w14 sp d rp r V S ∧ Rel V S ∧ Lw V ∧ Bd V (3 * i + 2) ∧ V.C.D.vs.length = 5 ∧ Sx R R2 w R' R2' w14 ∧ At w14 w1.heap.size 0 [.int .i64 A.n, .int .i64 A.f, .slice ad A.xs.length cd, .slice aa A.af.length ca, .int .i64 A.wb, .bool A.fl]) (ff (by rw [hN]; simp) (ff (by rw [hE]; simp) ?_)) ?_
  · have md : Mod No w11 (drew w11) := (Mod.refl No w11).drew
    have t12 := t11.drew
    have a12 := a11.drew
    have o12 := o11.nos md
    have x12 := x11.no md
    have hG : Gx V1 := Gx.of t12.p s10.srt
    refine ⟨_, ld a12 4 _ _ (by kernel_rfl) rfl, _, ld a12 4 _ _ (by kernel_rfl) rfl, qWrite_c (n := A.wb) t12.p (fun v hv => by have := b10.ver v hv; omega) fun w13 m13 z13 => ⟨_, rfl, ?_⟩⟩
    have t13 := t12.stepP m13 z13
    have a13 := a12.keep m13 o12.p
    have o13 := o12.stepP m13
    have x13 := x12.stepP m13
    refine ⟨ld a13 4 _ _ (by kernel_rfl) rfl, xWrite_c (n := A.wb) t13.q hrel hG (fun v hv => by have := b10.ver v hv; omega) fun w14 S14 m14 q14 r14 g14 => ⟨_, rfl, by simp, ?_⟩⟩
    have ho := wr_opn (V := V1) A.wb
    exact ⟨_, _, _, S14, t13.stepQ m14 q14, r14, s10.wr hG.g _, b10.wr _, by rw [ho.2.2.2]; exact h10, x13.stepQ m14, a13.keep m14 o13.q⟩
  rintro z w14 ⟨rfl, R', R2', V2, S2, t14, r14, s14, b14, h14, x14, a14⟩
  refine ⟨_, rfl, ff rfl ⟨_, ld a14 5 _ _ (by kernel_rfl) rfl, Share.cut (fun z w17 => z = [] ∧ ∃ (R' R2' : Nat → Prop) (V : Ps) (S : Rs), T11 w0 R' R2' w17 sp d rp r V S ∧ Rel V S ∧ Lw V ∧ Bd V (3 * i + 3) ∧ V.C.D.vs.length = 5 ∧ Sx R R2 w R' R2' w17) (cond_of (fun hb => ?_) (fun hb => ⟨rfl, R', R2', V2, S2, t14, r14, s14, b14.up, h14, x14⟩)) ?_⟩⟩
  · have hG : Gx V2 := Gx.of t14.p s14.srt
    refine qFlush_c t14.p fun w15 m15 z15 => ⟨_, rfl, xFlush_c (t14.stepP m15 z15).q r14 hG fun w16 S16 m16 q16 r16 g16 => ⟨_, rfl, rfl, ?_⟩⟩
    exact ⟨_, _, _, S16, (t14.stepP m15 z15).stepQ m16 q16, r16, s14.fl hG.l, b14.fl hG.l, by rw [show (flV V2).C.D.vs.length = V2.C.D.vs.length from fl_len _]; exact h14, (x14.stepP m15).stepQ m16⟩
  rintro z w17 ⟨rfl, R', R2', V3, S3, t17, r17, s17, b17, h17, x17⟩
  rw [wrap64 (x := (i : Int) + 1) (by omega) (by omega)]
  exact ⟨⟨i + 1, _, _, _, _, _, _, R', R2', V3, S3, rfl, by omega, t17, r17, s17, b17, h17, x17⟩, by simp [nI, nth]; omega⟩
end
end Go.Proofs.YtocjjigmpgekfaaGreat
end
section
/- Layer 12, the document's acts that wait; acts from the one to the other. -/
open Go Go.Den Go.Proofs
namespace Go.Proofs.YtocjjigmpgekfaaGreat
theorem elemG_rwaits : elemG Tryz.prog 63 3 24 := elemG_of (by kernel_rfl)
theorem elemG_racts : elemG Tryz.prog 75 2 16 := elemG_of (by kernel_rfl)
theorem elemN_rwaits : elemN Tryz.prog 63 = some 3 := by kernel_rfl
theorem elemN_racts : elemN Tryz.prog 75 = some 2 := by kernel_rfl
theorem agg_rwait : aggN Tryz.prog 84 = some 3 := by kernel_rfl
theorem agg_ract : aggN Tryz.prog 67 = some 2 := by kernel_rfl
theorem build_rwait (w : World) (n k m : Int) : (Instr.build 84 #[(0, .int .i64 n), (1, .agg ⟨[.int .i64 k, .int .i64 m]⟩)]).run Tryz.prog w = .ok (.agg ⟨[.int .i64 n, .int .i64 k, .int .i64 m]⟩) w := by kernel_rfl
theorem built_rwait (w : World) (x : Wt) : (Instr.buildSlice 63 1 #[(0, .agg ⟨wtV x⟩)]).run Tryz.prog w = .ok (.slice (some ⟨w.heap.size, 0, none⟩) 1 1) (w.alloc (.cells ⟨wtV x⟩ 84)) := by kernel_rfl
theorem built_ract (w : World) (x : Int × Int) : (Instr.buildSlice 75 1 #[(0, .agg ⟨acV x⟩)]).run Tryz.prog w = .ok (.slice (some ⟨w.heap.size, 0, none⟩) 1 1) (w.alloc (.cells ⟨acV x⟩ 67)) := by kernel_rfl
theorem build_ract (w : World) (k m : Int) : (Instr.build 67 #[(0, .int .i64 k), (1, .int .i64 m)]).run Tryz.prog w = .ok (.agg ⟨acV (k, m)⟩) w := by kernel_rfl
theorem build_rwork0 (w : World) : (Instr.build 65 #[]).run Tryz.prog w = .ok (.agg ⟨[.slice none 0 0]⟩) w := by kernel_rfl
theorem alloc_pact (w : World) : (Instr.alloc 71 true (.tuple #[])).run Tryz.prog w = .ok (.pointer (some ⟨w.heap.size, 0, none⟩)) (w.alloc (.cells ⟨[.int .i64 0, .int .i64 0]⟩ 71)) := by kernel_rfl
theorem two_ract : two Tryz.prog 67 = true := by kernel_rfl
theorem und_ract : Tryz.prog.underlying 67 = some (.struct (Tryz.prog.fieldsOf 67)) := by kernel_rfl
theorem std_ract : Tryz.prog.stoodInHeld 67 = false := by kernel_rfl
theorem grd_ract : Tryz.prog.eqGuardType Tryz.prog.depth 67 = false := by kernel_rfl
section
variable {w w' w0 : World} {R R2 : Nat → Prop} {sp d rp r : Nat} {V : Ps} {S : Rs} {K : Value → World → Prop} {T : TypeId} {Z Z' : Nat → Prop} {q lc : Nat} {L : List Wt} {la : Option Addr}
theorem given12_c {y : Int × Int} (hk : ∀ w', Mod No w w' → K (.agg ⟨acV y⟩) w') : Cal Tryz.prog F_leveelaw12_given #[.agg ⟨acV y⟩] w K := by
  apply C_leveelaw12_given
  unfold D_leveelaw12_given
  refine ⟨_, _, box_run, ?_⟩
  have m1 : Mod No w (w.alloc (.cells (Value.agg ⟨acV y⟩).cells 67)) := (Mod.refl No w).alloc _
  have a1 : AtU (w.alloc (.cells (Value.agg ⟨acV y⟩).cells 67)) w.heap.size 0 (acV y) := AtU.new
  generalize w.alloc (.cells (Value.agg ⟨acV y⟩).cells 67) = w1 at *
  refine ⟨_, _, alloc_pact _, ?_⟩
  have m2 : Mod No w1 (w1.alloc (.cells ⟨[.int .i64 0, .int .i64 0]⟩ 71)) := (Mod.refl No w1).alloc _
  have a2 := a1.keep m2 id
  have l0 : Ru (Instr.loadAt 3 (.pointer (some (Addr.add ⟨w.heap.size, 0, none⟩ 0)))) (w1.alloc (.cells ⟨[.int .i64 0, .int .i64 0]⟩ 71)) (.int .i64 y.1) (w1.alloc (.cells ⟨[.int .i64 0, .int .i64 0]⟩ 71)) := by rw [add_none]; exact a2.at.load (i := 0) (by kernel_rfl) rfl
  have l1 : Ru (Instr.loadAt 3 (.pointer (some (Addr.add ⟨w.heap.size, 0, none⟩ 1)))) (w1.alloc (.cells ⟨[.int .i64 0, .int .i64 0]⟩ 71)) (.int .i64 y.2) (w1.alloc (.cells ⟨[.int .i64 0, .int .i64 0]⟩ 71)) := by rw [add_none]; exact a2.at.load (i := 1) (by kernel_rfl) rfl
  have hst : RuU (Instr.storeAt 71 (.pointer (some ⟨w1.heap.size, 0, none⟩)) (.agg ⟨acV y⟩)) (w1.alloc (.cells ⟨[.int .i64 0, .int .i64 0]⟩ 71)) (w1.alloc (.cells ⟨acV y⟩ 71)) := store_new agg_pact rfl rfl (acV_one y)
  have a3 : AtU (w1.alloc (.cells ⟨acV y⟩ 71)) w1.heap.size 0 (acV y) := AtU.new
  have m3 : Mod No w1 (w1.alloc (.cells ⟨acV y⟩ 71)) := (Mod.refl No w1).alloc _
  exact ⟨_, l0, _, l1, _, fun w => build_act w _ _, _, hst, _, a3.at.loadAgg (i := 0) agg_pact (by rw [acV_len]; omega), hk _ (m1.no m3)⟩
theorem rLater_c {n k m : Int} (h : Wk 63 Z w q L) (hn : L.length ≤ 5000) (hZ : ∀ x, Z x → x < w.heap.size)
    (hk : ∀ w', Mod (fun z => z = q) w w' → Wk 63 Z w' q (laterL L (n, k, m)) → K (.int .i64 (laterE L k)) w') :
    Cal Tryz.prog F_leveeref12_Work_Later #[.pointer (some ⟨q, 0, none⟩), .int .i64 n, .agg ⟨acV (k, m)⟩] w K := by
  apply C_leveeref12_Work_Later
  unfold D_leveeref12_Work_Later
  obtain ⟨la, lc, h⟩ := h
  refine ⟨_, _, box_run, ?_⟩
  have m1 : Mod No w (w.alloc (.cells (Value.agg ⟨acV (k, m)⟩).cells 67)) := (Mod.refl No w).alloc _
  have a1 : AtU (w.alloc (.cells (Value.agg ⟨acV (k, m)⟩).cells 67)) w.heap.size 0 (acV (k, m)) := AtU.new
  generalize w.alloc (.cells (Value.agg ⟨acV (k, m)⟩).cells 67) = w1 at *
  have hz1 := m1.size
  have h1 := h.nos m1
  have l0 : Ru (Instr.loadAt 3 (.pointer (some (Addr.add ⟨w.heap.size, 0, none⟩ 0)))) w1 (.int .i64 k) w1 := by rw [add_none]; exact a1.at.load (i := 0) (by kernel_rfl) rfl
  refine Share.cut (fun z w2 => w1 = w2 ∧ z = [.bool (decide (k < 1 ∨ 3 < k))]) ⟨_, l0, cond_of (fun hb => ⟨rfl, ?_⟩) (fun hb => ⟨_, l0, rfl, ?_⟩)⟩ ?_
  · have := of_decide_eq_true hb
    rw [decide_eq_true (Or.inl this)]
  · have := of_decide_eq_false hb
    exact bcell (by omega)
  rintro z w2 ⟨rfl, rfl⟩
  have ms : ∀ {w2 : World}, Mod No w1 w2 → Mod (fun z => z = q) w w2 := fun mm => (m1.no mm).mono fun _ _ h => h.elim
  refine ⟨_, rfl, cond_of (fun hb => ?_) (fun hb => ⟨_, rfl, _, _, _, h1.ld (by kernel_rfl), cond_of (fun hb2 => ?_) (fun hb2 => ?_)⟩)⟩
  · have hb := of_decide_eq_true hb
    have e : laterE L k = 1 := if_pos hb
    have := hk w1 (ms (Mod.refl _ _)) ⟨la, lc, by unfold laterL; rw [if_neg (by show ¬ laterE L k = 0; rw [e]; omega)]; exact h1⟩
    rwa [e] at this
  · have hb := of_decide_eq_false hb
    have hb2 := of_decide_eq_true hb2
    have e : laterE L k = 5 := by unfold laterE; rw [if_neg hb, if_pos (by omega)]
    have := hk w1 (ms (Mod.refl _ _)) ⟨la, lc, by unfold laterL; rw [if_neg (by show ¬ laterE L k = 0; rw [e]; omega)]; exact h1⟩
    rwa [e] at this
  · have hb := of_decide_eq_false hb
    have hb2 := of_decide_eq_false hb2
    have e : laterE L k = 0 := by unfold laterE; rw [if_neg hb, if_neg (by omega)]
    have md : Mod No w1 (drew w1) := (Mod.refl No w1).drew
    have hd := h1.nos md
    have ld := hd.ld (by kernel_rfl)
    have la0 : Ru (Instr.loadAt 67 (.pointer (some ⟨w.heap.size, 0, none⟩))) (drew w1) (.agg ⟨acV (k, m)⟩) (drew w1) := (a1.keep md id).at.loadAgg (i := 0) agg_ract (by rw [acV_len]; omega)
    refine ⟨_, rfl, _, _, _, ld, _, rfl, _, _, _, ld, _, rfl, _, _, _, ld, _, _, _, fun w' => hd.row.cut3 elemN_rwaits w', _, la0, _, fun w => build_rwait w _ _ _, _, _, _, _, built_rwait _ (n, k, m), ?_⟩
    have hZ1 : ∀ x, Z x → x < (drew w1).heap.size := fun x hx => by have := hZ x hx; have := md.size; omega
    obtain ⟨c', w4, w5, run, sto, h5, m5⟩ := hd.add (Te := 84) (x := (n, k, m)) elemG_rwaits (by kernel_rfl) hn hZ1
    have ma : Mod No (drew w1) ((drew w1).alloc (.cells ⟨wtV (n, k, m)⟩ 84)) := (Mod.refl No _).alloc _
    have la1 := (hd.nos ma).ld (by kernel_rfl)
    refine ⟨la1, la1, la1, _, _, _, w4, run, _, rfl, w5, sto, ?_⟩
    have := hk w5 (((m1.no md).mono fun _ _ h => h.elim).trans m5 fun _ _ e => e) ⟨_, c', by unfold laterL; rw [if_pos (show laterE L k = 0 from e)]; exact h5⟩
    rwa [e] at this
theorem rRipe_c (hq : Rx w0 R w rp r S) (hr : Rel V S) (hs : WFS V) (h : Wk 63 Z w q L) (hn : L.length ≤ 5000) (hZ : ∀ x, Z x → x < w.heap.size)
    (hk : ∀ w' a c, Mod (fun z => z = q) w w' → Wk 63 Z w' q (L.filter fun x => !ripeP V x) → Own Tryz.prog w' w.heap.size 75 2 a (L.filter (ripeP V)).length c (rowC ((L.filter (ripeP V)).map (·.2))) →
      K (.slice a (L.filter (ripeP V)).length c) w') :
    Cal Tryz.prog F_leveeref12_Work_Ripe #[.pointer (some ⟨q, 0, none⟩), .pointer (some ⟨rp, 0, none⟩)] w K := by
  apply C_leveeref12_Work_Ripe
  unfold D_leveeref12_Work_Ripe
  obtain ⟨la, lc, h⟩ := h
  have hqwf := hq.wf
  obtain ⟨af, hA⟩ := hr
  obtain ⟨rl2, vb, vc, hs2, ba, bc, la2, lc2, H, hR⟩ := hq
  refine ⟨fun x w1 => ∃ (i : Nat) (a5 a6 : Option Addr) (c5 c6 : Nat) (y : Value), x = [.slice a5 ((L.take i).filter (ripeP V)).length c5, .slice a6 ((L.take i).filter fun x => !ripeP V x).length c6, .int .i64 i, y] ∧ i ≤ L.length ∧
      Own Tryz.prog w1 w.heap.size 75 2 a5 ((L.take i).filter (ripeP V)).length c5 (rowC (((L.take i).filter (ripeP V)).map (·.2))) ∧ Own Tryz.prog w1 w.heap.size 63 3 a6 ((L.take i).filter fun x => !ripeP V x).length c6 (rowW ((L.take i).filter fun x => !ripeP V x)) ∧
      (∀ q q', a5 = some q → a6 = some q' → q.block ≠ q'.block) ∧ Mod No w w1, fun x _ => (L.length - nI x 2).toNat,
    ⟨0, none, none, 0, 0, _, rfl, by omega, Own.nilG elemG_racts, Own.nilG elemG_rwaits, (fun _ _ e => by cases e), Mod.refl _ _⟩, ?_⟩
  rintro x w1 ⟨i, a5, a6, c5, c6, y, rfl, hi, o5, o6, h56, m1⟩
  have h1 := h.nos m1
  have hz1 := m1.size
  have ld1 := h1.ld (by kernel_rfl)
  refine ⟨_, rfl, _, rfl, _, _, _, ld1, cond_of (fun hb => ?_) (fun hb => ?_)⟩
  · have hi : i < L.length := by have := of_decide_eq_true hb; omega
    have hx : L[i]? = some L[i] := List.getElem?_eq_getElem hi
    have htk := List.take_succ_eq_append_getElem hi
    obtain ⟨g, rfl, hix, hag, hac, hid⟩ := h1.at (Te := 84) elemN_rwaits agg_rwait hn hx
    generalize L[i] = x at *
    have li := hid w1 2 (Mod.refl _ _) (by kernel_rfl)
    refine Share.cut (fun z w3 => w1 = w3 ∧ z = [.bool (ripeP V x)]) ⟨_, rfl, _, _, _, ld1, _, hix, _, li, cond_of (fun hb2 => ⟨rfl, ?_⟩) (fun hb2 => ⟨_, rfl, _, _, _, ld1, _, hix, _, li, ?_⟩)⟩ ?_
    · unfold ripeP; rw [hb2]; rfl
    · refine rSafe11_c (hR.nos m1) ⟨_, rfl, rfl, ?_⟩
      rw [← hA.safe hs hqwf.1]
      unfold ripeP; rw [hb2]; rfl
    rintro z w3 ⟨rfl, rfl⟩
    refine ⟨_, rfl, Share.cut (fun z w10 => ∃ (a5 a6 : Option Addr) (c5 c6 : Nat), z = [.slice a5 ((L.take (i + 1)).filter (ripeP V)).length c5, .slice a6 ((L.take (i + 1)).filter fun x => !ripeP V x).length c6] ∧
      Own Tryz.prog w10 w.heap.size 75 2 a5 ((L.take (i + 1)).filter (ripeP V)).length c5 (rowC (((L.take (i + 1)).filter (ripeP V)).map (·.2))) ∧ Own Tryz.prog w10 w.heap.size 63 3 a6 ((L.take (i + 1)).filter fun x => !ripeP V x).length c6 (rowW ((L.take (i + 1)).filter fun x => !ripeP V x)) ∧
      (∀ q q', a5 = some q → a6 = some q' → q.block ≠ q'.block) ∧ Mod No w w10) (cond_of (fun hb2 => ?_) (fun hb2 => ?_)) ?_⟩
    · have e1 : (L.take (i + 1)).filter (ripeP V) = (L.take i).filter (ripeP V) ++ [x] := by rw [htk, List.filter_append]; simp [hb2]
      have e2 : (L.take (i + 1)).filter (fun x => !ripeP V x) = (L.take i).filter fun x => !ripeP V x := by rw [htk, List.filter_append]; simp [hb2]
      have hfl := List.length_filter_le (ripeP V) (L.take i)
      rw [List.length_take] at hfl
      obtain ⟨q2, c', w7, run, p, mm, hq2⟩ := snocG (Te := 67) (ys := acV x.2) elemG_racts (by omega) o5 rfl (acV_one _) (by omega) (by omega) (by omega)
      refine ⟨_, _, _, rfl, _, rfl, _, _, _, ld1, _, hix, _, hac w1 67 (Mod.refl _ _) agg_ract, _, _, _, _, built_ract _ _, _, _, _, w7, run, some q2, a6, c', c6, (by rw [e1, e2, List.length_append]; rfl), ?_, ?_, ?_, ?_⟩
      · rw [e1]
        have : rowC (((L.take i).filter (ripeP V) ++ [x]).map (·.2)) = rowC (((L.take i).filter (ripeP V)).map (·.2)) ++ acV x.2 := by rw [List.map_append]; exact rowC_snoc _ _
        rw [this, show ((L.take i).filter (ripeP V) ++ [x]).length = ((L.take i).filter (ripeP V)).length + 1 by simp]
        exact p
      · rw [e2]
        exact o6.keep mm fun q' hq' ⟨q5, e5, e⟩ => h56 q5 q' e5 hq' e.symm
      · intro q' q6 e' e6 e
        cases e'
        rcases hq2 with ⟨q5, e5, e7⟩ | e7
        · exact h56 q5 q6 e5 e6 (by rw [← e7]; exact e)
        · have := (o6.base e6).2; omega
      · exact m1.trans mm fun z hz ⟨q5, e5, e⟩ => by have := (o5.base e5).1; omega
    · have e1 : (L.take (i + 1)).filter (ripeP V) = (L.take i).filter (ripeP V) := by rw [htk, List.filter_append]; simp [hb2]
      have e2 : (L.take (i + 1)).filter (fun x => !ripeP V x) = ((L.take i).filter fun x => !ripeP V x) ++ [x] := by rw [htk, List.filter_append]; simp [hb2]
      have hfl := List.length_filter_le (fun x => !ripeP V x) (L.take i)
      rw [List.length_take] at hfl
      obtain ⟨q2, c', w7, run, p, mm, hq2⟩ := snocG (Te := 84) (ys := wtV x) elemG_rwaits (by omega) o6 rfl (wtV_one _) (by omega) (by omega) (by omega)
      refine ⟨_, _, _, rfl, _, rfl, _, _, _, ld1, _, hix, _, hag, _, _, _, _, built_rwait _ _, _, _, _, w7, run, a5, some q2, c5, c', (by rw [e1, e2, List.length_append]; rfl), ?_, ?_, ?_, ?_⟩
      · rw [e1]
        exact o5.keep mm fun q' hq' ⟨q5, e5, e⟩ => h56 q' q5 hq' e5 e
      · rw [e2, rowW_snoc, show (((L.take i).filter fun x => !ripeP V x) ++ [x]).length = ((L.take i).filter fun x => !ripeP V x).length + 1 by simp]
        exact p
      · intro q5 q' e5 e' e
        cases e'
        rcases hq2 with ⟨q6, e6, e7⟩ | e7
        · exact h56 q5 q6 e5 e6 (by rw [← e7]; exact e)
        · have := (o5.base e5).2; omega
      · exact m1.trans mm fun z hz ⟨q5, e5, e⟩ => by have := (o6.base e5).1; omega
    rintro z w10 ⟨a5, a6, c5, c6, rfl, o5, o6, h56, m10⟩
    rw [wrap64 (x := (i : Int) + 1) (by omega) (by omega)]
    exact ⟨⟨i + 1, a5, a6, c5, c6, _, rfl, by omega, o5, o6, h56, m10⟩, by simp [nI, nth]; omega⟩
  · have hi : i = L.length := by have := of_decide_eq_false hb; omega
    subst hi
    rw [List.take_length] at o5 o6
    obtain ⟨w5, u1, u2, u3, u4⟩ := h1.cell.store (P := Tryz.prog) (T := 63) (i := 0) (v := .slice a6 (L.filter fun x => !ripeP V x).length c6) (by kernel_rfl) (by simp) rfl
    have hqw := h.cell.lt
    rw [List.take_length]
    refine ⟨_, _, _, rfl, _, rfl, w5, by rw [add_none]; exact u1, _, _, _, rfl, hk w5 a5 c5 ((m1.mono fun _ _ h => h.elim).trans u3 fun _ _ e => e) ⟨a6, c6, ⟨u2, ?_, fun a ha => ⟨fun e => ?_, fun e => ?_⟩, h.nz⟩⟩ ?_⟩
    · exact (o6.keep u3 fun a ha e => by have e : a.block = q := e; have := (o6.base ha).1; omega).mono (by omega)
    · have := (o6.base ha).1; omega
    · have := (o6.base ha).1; have := hZ _ e; omega
    · exact o5.keep u3 fun a ha e => by have e : a.block = q := e; have := (o5.base ha).1; omega
theorem taken12_c {base l c : Nat} {a : Option Addr} {xs : List (Int × Int)} (h : Own Tryz.prog w base 77 2 a l c (rowC xs)) (hl : xs.length = l) (h63 : l ≤ 100000)
    (hk : ∀ w' a' c', Mod No w w' → Own Tryz.prog w' w.heap.size 75 2 a' l c' (rowC xs) → K (.slice a' l c') w') : Cal Tryz.prog F_leveelaw12_taken #[.slice a l c] w K := by
  apply C_leveelaw12_taken
  unfold D_leveelaw12_taken
  refine ⟨fun x w1 => ∃ (i : Nat) (a5 : Option Addr) (c5 : Nat), x = [.slice a5 i c5, .int .i64 i] ∧ i ≤ l ∧ Own Tryz.prog w1 w.heap.size 75 2 a5 i c5 (rowC (xs.take i)) ∧ Mod No w w1, fun x _ => (l - nI x 1).toNat,
    ⟨0, none, 0, rfl, by omega, Own.nilG elemG_racts, Mod.refl _ _⟩, ?_⟩
  rintro x w1 ⟨i, a5, c5, rfl, hi, o5, m1⟩
  have hz1 := m1.size
  refine ⟨_, rfl, cond_of (fun hb => ?_) (fun hb => ?_)⟩
  · have hi : i < xs.length := by have := of_decide_eq_true hb; omega
    have hx : xs[i]? = some xs[i] := List.getElem?_eq_getElem hi
    have htk := List.take_succ_eq_append_getElem hi
    have md : Mod No w1 (drew w1) := (Mod.refl No w1).drew
    obtain ⟨g, rfl, _, hix, _, hld⟩ := actAt (Te := 71) h hl elemN_acts agg_pact (by omega) hx
    generalize xs[i] = x at *
    have hzd : (drew w1).heap.size = w1.heap.size := rfl
    obtain ⟨q2, c', w7, run, p, mm, hq2⟩ := snocG (Te := 67) (ys := acV x) elemG_racts (by omega) (o5.nos md) rfl (acV_one _) (by omega) (by omega) (by omega)
    refine ⟨_, _, _, rfl, _, hix, _, hld _ 0 (.int .i64 x.1) 3 (m1.no md) (by kernel_rfl) rfl, _, hix, _, hld _ 1 (.int .i64 x.2) 3 (m1.no md) (by kernel_rfl) rfl, _, fun w => build_ract w _ _, _, _, _, _, built_ract _ _, _, _, _, w7, run, ?_⟩
    rw [wrap64 (x := (i : Int) + 1) (by omega) (by omega)]
    refine ⟨⟨i + 1, some q2, c', rfl, by omega, ?_, (m1.no md).trans mm fun z hz ⟨q5, e5, e⟩ => by have := (o5.base e5).1; omega⟩, by simp [nI, nth]; omega⟩
    rw [htk, rowC_snoc]; exact p
  · have hi : i = l := by have := of_decide_eq_false hb; omega
    subst hi
    rw [List.take_of_length_le (by omega)] at o5
    exact ⟨_, _, _, rfl, hk w1 a5 c5 m1 o5⟩
theorem sameA_refl (x : Int × Int) : sameA x x = true := by unfold sameA; simp
theorem rSame12_c {b0 b1 l c0 c1 : Nat} {a0 a1 : Option Addr} {xs : List (Int × Int)} (h0 : Own Tryz.prog w b0 75 2 a0 l c0 (rowC xs)) (h1 : Own Tryz.prog w b1 75 2 a1 l c1 (rowC xs)) (hl : xs.length = l) (h63 : l ≤ 100000)
    (hk : ∀ w', Mod No w w' → K (.bool true) w') : Cal Tryz.prog F_leveeref12_Same #[.slice a0 l c0, .slice a1 l c1] w K := by
  apply C_leveeref12_Same
  unfold D_leveeref12_Same
  refine ff (by simp) ⟨fun x w1 => ∃ i : Nat, x = [.int .i64 i] ∧ i ≤ l ∧ Mod No w w1, fun x _ => (l - nI x 0).toNat, ⟨0, rfl, by omega, Mod.refl _ _⟩, ?_⟩
  rintro x w1 ⟨i, rfl, hi, m1⟩
  refine ⟨_, rfl, cond_of (fun hb => ?_) (fun hb => hk w1 m1)⟩
  have hi : i < xs.length := by have := of_decide_eq_true hb; omega
  have hx : xs[i]? = some xs[i] := List.getElem?_eq_getElem hi
  have md : Mod No w1 (drew w1) := (Mod.refl No w1).drew
  obtain ⟨g, rfl, _, hix, hag, _⟩ := actAt (Te := 67) h0 hl elemN_racts agg_ract (by omega) hx
  obtain ⟨g', rfl, _, hix', hag', _⟩ := actAt (Te := 67) h1 hl elemN_racts agg_ract (by omega) hx
  refine ⟨_, hix, _, hag _ (m1.no md), _, hix', _, hag' _ (m1.no md), _, neq_act two_ract und_ract std_ract grd_ract _ _ _ _, ff (by rw [sameA_refl]; rfl) ?_⟩
  rw [wrap64 (x := (i : Int) + 1) (by omega) (by omega)]
  exact ⟨⟨i + 1, rfl, by omega, m1.no md⟩, by simp [nI, nth]; omega⟩
end
end Go.Proofs.YtocjjigmpgekfaaGreat
end
section
/- Layer 12: the statement PushWork. -/
open Go Go.Den Go.Proofs
namespace Go.Proofs.YtocjjigmpgekfaaGreat
/-- A call: its kind, a change, an act, a block. -/
structure C5 where
  k : Int
  id : Int
  a : Int × Int
  n : Int
def c5V (x : C5) : List Value := [.int .i64 x.k, .int .i64 x.id, .int .i64 x.a.1, .int .i64 x.a.2, .int .i64 x.n]
def Acts5 (w : World) (a : Option Addr) (acts : List C5) : Prop :=
  acts = [] ∨ ∃ (b o : Nat) (H : List Value), a = some ⟨b, o, none⟩ ∧ At w b o H ∧ H.length = acts.length * 5 ∧ ∀ (r : Nat) (x : C5), acts[r]? = some x → (H.drop (r * 5)).take 5 = c5V x
theorem agg_call : aggN Tryz.prog 69 = some 5 := by kernel_rfl
theorem alloc_call (w : World) : (Instr.alloc 69 true (.tuple #[])).run Tryz.prog w = .ok (.pointer (some ⟨w.heap.size, 0, none⟩)) (w.alloc (.cells ⟨[.int .i64 0, .int .i64 0, .int .i64 0, .int .i64 0, .int .i64 0]⟩ 69)) := by kernel_rfl
section
variable {w w' w0 : World} {R R2 : Nat → Prop} {sp d rp r : Nat} {V : Ps} {S : Rs} {K : Value → World → Prop} {T : TypeId} {Z Z' : Nat → Prop} {q lc : Nat} {L : List Wt} {la : Option Addr}
theorem Acts5.get {acts : List C5} {a : Option Addr} {l cc i : Nat} {x : C5} (h : Acts5 w a acts) (m : Mod No w w') (hl : acts.length = l) (hx : acts[i]? = some x) :
    ∃ q : Addr, Al (Instr.indexAt 56 (.slice a l cc) (.int .i64 i)) (.pointer (some q)) ∧ Ru (Instr.loadAt 69 (.pointer (some q))) w' (.agg ⟨c5V x⟩) w' := by
  have hi := (List.getElem?_eq_some_iff.1 hx).1
  rcases h with h | ⟨b, o, H, rfl, hat, hlen, hf⟩
  · rw [h] at hi; simp at hi
  refine ⟨⟨b, o + i * 5, none⟩, fun w' => ?_, ?_⟩
  · have := index_slice (P := Tryz.prog) (T := 56) (k := 5) (a := ⟨b, o, none⟩) (n := l) (c := cc) (kk := .i64) (i := i) (by kernel_rfl) (by omega) (by omega) w'
    rw [add_none, show (i : Int).toNat = i by omega] at this
    exact this
  · have := (hat.keep m id).loadAgg (P := Tryz.prog) (T := 69) (i := i * 5) (n := 5) (by kernel_rfl) (by omega)
    rw [hf i x hx] at this
    exact this
/-- The works of both, beside both stores. -/
structure W2 (w : World) (R R2 : Nat → Prop) (q q2 : Nat) (L : List Wt) : Prop where
  p : Wk 168 (fun x => R x ∨ R2 x ∨ x = q2) w q L
  r : Wk 63 (fun x => R x ∨ R2 x ∨ x = q) w q2 L
theorem W2.keep {S R' R2' : Nat → Prop} {q q2 : Nat} (h : W2 w R R2 q q2 L) (m : Mod S w w') (hS : ∀ x, S x → R x ∨ R2 x) (hZ : ∀ x, x < w.heap.size → R' x ∨ R2' x → R x ∨ R2 x) : W2 w' R' R2' q q2 L where
  p := h.p.keep m (fun x e => by rcases hS x e with e | e; exact .inl e; exact .inr (.inl e)) fun x hx e => by
    rcases e with e | e | e
    · rcases hZ x hx (.inl e) with e | e
      · exact .inl e
      · exact .inr (.inl e)
    · rcases hZ x hx (.inr e) with e | e
      · exact .inl e
      · exact .inr (.inl e)
    · exact .inr (.inr e)
  r := h.r.keep m (fun x e => by rcases hS x e with e | e; exact .inl e; exact .inr (.inl e)) fun x hx e => by
    rcases e with e | e | e
    · rcases hZ x hx (.inl e) with e | e
      · exact .inl e
      · exact .inr (.inl e)
    · rcases hZ x hx (.inr e) with e | e
      · exact .inl e
      · exact .inr (.inl e)
    · exact .inr (.inr e)
theorem W2.nos {q q2 : Nat} (h : W2 w R R2 q q2 L) (m : Mod No w w') : W2 w' R R2 q q2 L := ⟨h.p.nos m, h.r.nos m⟩
theorem W2.lt {q q2 : Nat} (h : W2 w R R2 q q2 L) : q < w.heap.size ∧ q2 < w.heap.size ∧ q ≠ q2 ∧ ¬ R q ∧ ¬ R2 q ∧ ¬ R q2 ∧ ¬ R2 q2 := by
  obtain ⟨_, _, hp⟩ := h.p
  obtain ⟨_, _, hr⟩ := h.r
  exact ⟨hp.cell.lt, hr.cell.lt, fun e => hp.nz (.inr (.inr e)), fun e => hp.nz (.inl e), fun e => hp.nz (.inr (.inl e)), fun e => hr.nz (.inl e), fun e => hr.nz (.inr (.inl e))⟩
theorem W2.stepP {q q2 : Nat} (h : W2 w R R2 q q2 L) (m : Mod R w w') : W2 w' (Gro R w w') R2 q q2 L := h.keep m (fun x e => .inl e) fun x hx e => by
  rcases e with (e | e) | e
  · exact .inl e
  · omega
  · exact .inr e
theorem W2.stepQ {q q2 : Nat} (h : W2 w R R2 q q2 L) (m : Mod R2 w w') : W2 w' R (Gro R2 w w') q q2 L := h.keep m (fun x e => .inr e) fun x hx e => by
  rcases e with e | (e | e)
  · exact .inl e
  · exact .inr e
  · omega
theorem WkIn.old {S : Nat → Prop} {u : World} (h : WkIn T Z u q L la lc) (m0 : Mod No u w) (m : Mod S w w') (hS : ∀ x, x < u.heap.size → ¬ S x) : WkIn T Z w' q L la lc :=
  ⟨(h.cell.keep m0 id).keep m (hS _ h.cell.lt), (h.row.nos m0).keep m (fun a ha => hS _ (h.row.base ha).2), h.nq, h.nz⟩
theorem laterL_len {x : Wt} : (laterL L x).length ≤ L.length + 1 := by unfold laterL; split <;> simp
theorem PushWork_c {acts : List A12} {calls : List C5} {a0 a1 : Option Addr} {l0 c0 l1 c1 : Nat} (ha : Acts12 w a0 acts) (hl : acts.length = l0) (hc : Acts5 w a1 calls) (hl1 : calls.length = l1) :
    Cal Tryz.prog F_leveelaw12_PushWork #[.slice a0 l0 c0, .slice a1 l1 c1] w (fun v w' => v = .bool true ∧ Mod No w w') := by
  apply C_leveelaw12_PushWork
  unfold D_leveelaw12_PushWork
  refine open12_c fun w1 R R2 sp d rp r m1 t1 => ⟨_, _, _, _, rfl, ?_⟩
  have lo1 := t1.p.lo
  have loq1 := t1.q.wf.2.2.2
  have hz1 := m1.size
  refine kNew_c (Z := fun x => R x ∨ R2 x) (fun x hx => by rcases hx with e | e; exact (lo1 _ e).2; exact (loq1 _ e).2) fun w2 m2 k2 => ⟨_, rfl, ?_⟩
  generalize hqe : w1.heap.size = q at *
  have hz2 := m2.size
  refine Share.cut (fun z w4 => z = [.bool false] ∧ ∃ (R R2 : Nat → Prop) (V : Ps) (S : Rs), T11 w R R2 w4 sp d rp r V S ∧ Rel V S ∧ Srt V ∧ Bd V 100 ∧ Wk 168 (fun x => R x ∨ R2 x) w4 q []) (ff rfl (ff rfl (lay12_c ha hl (t1.nos m2) fun w3 R' R2' V S t3 r3 s3 b3 h3 x3 => ⟨_, rfl, rfl, R', R2', V, S, t3, r3, s3.srt, b3, ?_⟩))) ?_
  · exact k2.keep x3.m (fun x h => h) fun x hx e => (x3.s x e).resolve_right (by omega)
  rintro z w4 ⟨rfl, R, R2, V, S, t4, r4, s4, b4, k4⟩
  refine ⟨_, rfl, ff rfl ⟨_, fun w => build_rwork0 w, _, _, box_run, ?_⟩⟩
  have m5 : Mod No w4 (w4.alloc (.cells (Value.agg ⟨[.slice none 0 0]⟩).cells 65)) := (Mod.refl No w4).alloc _
  have a5 : AtU (w4.alloc (.cells (Value.agg ⟨[.slice none 0 0]⟩).cells 65)) w4.heap.size 0 [.slice none 0 0] := AtU.new
  generalize w4.alloc (.cells (Value.agg ⟨[.slice none 0 0]⟩).cells 65) = w5 at *
  have lo4 := t4.p.lo
  have loq4 := t4.q.wf.2.2.2
  have hq4 : q < w4.heap.size := by obtain ⟨_, _, h⟩ := k4; exact h.cell.lt
  have hw4 := t4.p.mod.size
  have k5 : W2 w5 R R2 q w4.heap.size [] := by
    refine ⟨k4.keep m5 (fun _ h => h.elim) fun x hx e => ?_, none, 0, a5, Own.nilG elemG_rwaits, (fun _ h => by cases h), fun e => ?_⟩
    · rcases e with e | e | e
      · exact .inl e
      · exact .inr e
      · omega
    · rcases e with e | e | e
      · have := (lo4 _ e).2; omega
      · have := (loq4 _ e).2; omega
      · omega
  have t5 := t4.nos m5
  generalize hq2e : w4.heap.size = q2 at *
  have hqw : w.heap.size ≤ q := by omega
  have hq2w : w.heap.size ≤ q2 := by omega
  have b4 : Bd V (100 + 0) := b4
  clear t4 k4 a5 m5 lo4 loq4 hq4 hw4 hq2e hz1 hz2 lo1 loq1 hqe k2 t1 m1 m2
  refine ⟨fun x w6 => ∃ (i : Nat) (y1 y2 y3 y4 y5 : Value) (R R2 : Nat → Prop) (V : Ps) (S : Rs) (L : List Wt), x = [.int .i64 i, y1, y2, y3, y4, y5] ∧ i ≤ 40 ∧ T11 w R R2 w6 sp d rp r V S ∧ Rel V S ∧ Srt V ∧ Bd V (100 + i) ∧ L.length ≤ i ∧ W2 w6 R R2 q q2 L, fun x _ => (40 - nI x 0).toNat,
    ⟨0, _, _, _, _, _, R, R2, V, S, [], rfl, by omega, t5, r4, s4, b4, by simp, k5⟩, ?_⟩
  clear t5 r4 s4 b4 k5
  rintro x w6 ⟨i, y1, y2, y3, y4, y5, R, R2, V, S, L, rfl, hi40, t6, r6, s6, b6, hL, k6⟩
  refine Share.cut (fun z w7 => w6 = w7 ∧ z = [.bool (decide (i < l1 ∧ i < 40))]) ⟨_, rfl, cond_of (fun hb => ⟨rfl, ?_⟩) (fun hb => ⟨rfl, ?_⟩)⟩ ?_
  · have := of_decide_eq_true hb
    exact bcell (by omega)
  · have := of_decide_eq_false hb
    exact bcellF (by omega)
  rintro z w7 ⟨rfl, rfl⟩
  refine ⟨_, rfl, cond_of (fun hb => ?_) (fun hb => known12_c fun w37 m37 => ⟨_, rfl, rfl, t6.p.mod.no m37⟩)⟩
  obtain ⟨hil, hi4⟩ := of_decide_eq_true hb
  obtain ⟨qc, hidx, hload⟩ := hc.get (i := i) (cc := c1) t6.p.mod hl1 (List.getElem?_eq_getElem (by omega))
  generalize calls[i] = A at *
  have hst : RuU (Instr.storeAt 69 (.pointer (some ⟨w6.heap.size, 0, none⟩)) (.agg ⟨c5V A⟩)) (w6.alloc (.cells ⟨[.int .i64 0, .int .i64 0, .int .i64 0, .int .i64 0, .int .i64 0]⟩ 69)) (w6.alloc (.cells ⟨c5V A⟩ 69)) := by
    refine store_new agg_call rfl rfl ?_
    intro v hv
    simp [c5V] at hv
    rcases hv with rfl | rfl | rfl | rfl | rfl <;> rfl
  refine ⟨_, rfl, qc, hidx, _, hload, _, _, alloc_call _, _, hst, ?_⟩
  have m9 : Mod No w6 (w6.alloc (.cells ⟨c5V A⟩ 69)) := (Mod.refl No w6).alloc _
  have a9 : At (w6.alloc (.cells ⟨c5V A⟩ 69)) w6.heap.size 0 (c5V A) := AtU.new.at
  have hz9 : (w6.alloc (.cells ⟨c5V A⟩ 69)).heap.size = w6.heap.size + 1 := by simp
  generalize w6.alloc (.cells ⟨c5V A⟩ 69) = w9 at *
  have t9 := t6.nos m9
  have k9 := k6.nos m9
  have o9 : Out w R R2 w9 w6.heap.size := t6.fresh (Nat.le_refl _) a9.lt
  obtain ⟨hqlt, hq2lt, hqq, hqR, hqR2, hq2R, hq2R2⟩ := k6.lt
  generalize hge : w6.heap.size = g at *
  have ld : ∀ {w2 : World}, At w2 g 0 (c5V A) → ∀ (j : Nat) (v : Value) (T : TypeId), scal Tryz.prog T = true → (c5V A)[j]? = some v → Ru (Instr.loadAt T (.pointer (some (Addr.add ⟨g, 0, none⟩ j)))) w2 v w2 := by
    intro w2 a j v T hT hj
    rw [add_none]; exact a.load hT hj
  have lda : ∀ {w2 : World}, At w2 g 0 (c5V A) → Ru (Instr.loadAt 67 (.pointer (some (Addr.add ⟨g, 0, none⟩ 2)))) w2 (.agg ⟨acV A.a⟩) w2 := by
    intro w2 a
    rw [add_none]
    exact a.loadAgg (P := Tryz.prog) (T := 67) (i := 2) agg_ract (by simp [c5V])
  have lo6 := t6.p.lo
  have loq6 := t6.q.wf.2.2.2
  have keepT : ∀ {u u' : World} {b : Nat}, T11 w R R2 u sp d rp r V S → Mod (fun z => z = b) u u' → ¬ R b → ¬ R2 b → w.heap.size ≤ b → T11 w R R2 u' sp d rp r V S := fun h m h1 h2 hb => h.keep m (fun x hx e => by subst e; exact h1 hx) (fun x hx e => by subst e; exact h2 hx) (fun x hx e => by subst e; omega)
  refine ⟨_, ld a9 0 _ _ (by kernel_rfl) rfl, Share.cut (fun z w12 => w9 = w12 ∧ z = [.bool (decide (0 ≤ A.k ∧ A.k ≤ 3))]) (cond_of (fun hb => ⟨rfl, ?_⟩) (fun hb => Share.dup (cond_of (fun hb1 => ⟨rfl, ?_⟩) (fun hb1 => Share.dup (cond_of (fun hb2 => ⟨rfl, ?_⟩) (fun hb2 => ⟨rfl, ?_⟩)))))) ?_⟩
  · have e : A.k = 0 := by simpa using hb
    rw [e]; rfl
  · have e : A.k = 1 := by simpa using hb1
    rw [e]; rfl
  · have e : A.k = 2 := by simpa using hb2
    rw [e]; rfl
  · have e0 : ¬ A.k = 0 := by simpa using hb
    have e1 : ¬ A.k = 1 := by simpa using hb1
    have e2 : ¬ A.k = 2 := by simpa using hb2
    exact congrArg (fun b => [Value.bool b]) (by rw [Bool.eq_iff_iff]; simp only [nth, beq_iff_eq, decide_eq_true_eq]; omega)
  rintro z w12 ⟨rfl, rfl⟩
  refine ⟨_, rfl, Share.cut (fun z w27 => z = [] ∧ ∃ (R R2 : Nat → Prop) (V : Ps) (S : Rs) (L : List Wt), T11 w R R2 w27 sp d rp r V S ∧ Rel V S ∧ Srt V ∧ Bd V (100 + (i + 1)) ∧ L.length ≤ i + 1 ∧ W2 w27 R R2 q q2 L ∧ At w27 g 0 (c5V A)) (cond_of (fun hb1 => ?_) (fun hb1 => Share.dup (cond_of (fun hb2 => ?_) (fun hb2 => Share.dup (cond_of (fun hb3 => ?_) (fun hb3 => Share.dup (cond_of (fun hb4 => ?_) (fun hb4 => ⟨rfl, R, R2, V, S, L, t9, r6, s6, b6.up, by omega, k9, a9⟩)))))))) ?_⟩
  · -- an act waits
    have md : Mod No w9 (drew w9) := (Mod.refl No w9).drew
    have a10 := a9.keep md id
    refine ⟨_, ld a10 1 _ _ (by kernel_rfl) rfl, _, lda a10, _, ld a10 1 _ _ (by kernel_rfl) rfl, _, lda a10, given12_c (y := A.a) fun w13 m13 => ⟨_, rfl, ?_⟩⟩
    have M13 := md.no m13
    have a13 := a10.keep m13 id
    have k13 := k9.nos M13
    have hz13 := M13.size
    have hZp : ∀ x, (R x ∨ R2 x ∨ x = q2) → x < w13.heap.size := fun x e => by
      rcases e with e | e | e
      · have := (lo6 _ e).2; omega
      · have := (loq6 _ e).2; omega
      · omega
    refine ⟨ld a13 1 _ _ (by kernel_rfl) rfl, ld a13 1 _ _ (by kernel_rfl) rfl, lda a13, kLater_c (n := A.id) (k := A.a.1) (m := A.a.2) k13.p (by omega) hZp fun w14 m14 k14 => ⟨_, rfl, ?_⟩⟩
    have a14 := a13.keep m14 fun e => by have e : g = q := e; omega
    have hz14 := m14.size
    have rk14 : Wk 63 (fun x => R x ∨ R2 x ∨ x = q) w14 q2 L := k13.r.keep m14 (fun x e => .inr (.inr e)) fun _ _ h => h
    have hZr : ∀ x, (R x ∨ R2 x ∨ x = q) → x < w14.heap.size := fun x e => by
      rcases e with e | e | e
      · have := (lo6 _ e).2; omega
      · have := (loq6 _ e).2; omega
      · omega
    refine ⟨ld a14 1 _ _ (by kernel_rfl) rfl, lda a14, rLater_c (n := A.id) (k := A.a.1) (m := A.a.2) rk14 (by omega) hZr fun w15 m15 r15 => ⟨_, rfl, ff (by simp) ⟨rfl, R, R2, V, S, _, ?_, r6, s6, b6.up, ?_, ⟨k14.keep m15 (fun x e => .inr (.inr e)) (fun _ _ h => h), r15⟩, ?_⟩⟩⟩
    · exact keepT (keepT (t9.nos M13) m14 hqR hqR2 hqw) m15 hq2R hq2R2 hq2w
    · have := laterL_len (L := L) (x := (A.id, A.a.1, A.a.2)); omega
    · exact a14.keep m15 fun e => by have e : g = q2 := e; omega
  · -- those that are ripe
    have hZp : ∀ x, (R x ∨ R2 x ∨ x = q2) → x < w9.heap.size := fun x e => by
      rcases e with e | e | e
      · have := (lo6 _ e).2; omega
      · have := (loq6 _ e).2; omega
      · omega
    have hfl := List.length_filter_le (ripeP V) L
    have hfl2 := List.length_filter_le (fun x => !ripeP V x) L
    refine kRipe_c t9.p k9.p (by omega) hZp fun w16 a77 c77 m16 k16 o77 => ⟨_, _, _, rfl, taken12_c o77 (by simp) (by omega) fun w17 a78 c78 m17 o78 => ⟨_, _, _, rfl, ?_⟩⟩
    have hz16 := m16.size
    have hz17 := m17.size
    have t17 := (keepT t9 m16 hqR hqR2 hqw).nos m17
    have rk17 : Wk 63 (fun x => R x ∨ R2 x ∨ x = q) w17 q2 L := (k9.r.keep m16 (fun x e => .inr (.inr e)) fun _ _ h => h).nos m17
    have hZr : ∀ x, (R x ∨ R2 x ∨ x = q) → x < w17.heap.size := fun x e => by
      rcases e with e | e | e
      · have := (lo6 _ e).2; omega
      · have := (loq6 _ e).2; omega
      · omega
    refine rRipe_c t17.q r6 t17.p.wf.1 rk17 (by omega) hZr fun w18 a81 c81 m18 r18 o81 => ⟨_, _, _, rfl, ?_⟩
    have o78' := o78.keep m18 fun a ha e => by have e : a.block = q2 := e; have := (o78.base ha).1; omega
    refine rSame12_c o78' o81 (by simp) (by omega) fun w19 m19 => ⟨_, rfl, ff rfl ⟨rfl, R, R2, V, S, _, (keepT t17 m18 hq2R hq2R2 hq2w).nos m19, r6, s6, b6.up, by omega, ⟨((k16.nos m17).keep m18 (fun x e => .inr (.inr e)) (fun _ _ h => h)).nos m19, r18.nos m19⟩, ?_⟩⟩
    have a16 := a9.keep m16 fun e => by have e : g = q := e; omega
    exact ((a16.keep m17 id).keep m18 fun e => by have e : g = q2 := e; omega).keep m19 id
  · -- a block is written
    have md : Mod No w9 (drew w9) := (Mod.refl No w9).drew
    have a10 := a9.keep md id
    have t10 := t9.nos md
    have o10 := o9.nos md
    have hG : Gx V := Gx.of t10.p s6
    refine ⟨_, ld a10 4 _ _ (by kernel_rfl) rfl, _, ld a10 4 _ _ (by kernel_rfl) rfl, qWrite_c (n := A.n) t10.p (fun v hv => by have := b6.ver v hv; omega) fun w20 m20 z20 => ⟨_, rfl, ?_⟩⟩
    have t20 := t10.stepP m20 z20
    have a20 := a10.keep m20 o10.p
    have o20 := o10.stepP m20
    refine ⟨ld a20 4 _ _ (by kernel_rfl) rfl, xWrite_c (n := A.n) t20.q r6 hG (fun v hv => by have := b6.ver v hv; omega) fun w21 S21 m21 q21 r21 g21 => ⟨_, rfl, ff (by simp) ⟨rfl, _, _, _, S21, L, t20.stepQ m21 q21, r21, s6.wr _, b6.wr _, by omega, ((k9.nos md).stepP m20).stepQ m21, a20.keep m21 o20.q⟩⟩⟩
  · -- all is flushed
    have hG : Gx V := Gx.of t9.p s6
    refine qFlush_c t9.p fun w22 m22 z22 => ⟨_, rfl, xFlush_c (t9.stepP m22 z22).q r6 hG fun w23 S23 m23 q23 r23 g23 => ⟨_, rfl, rfl, _, _, _, S23, L, (t9.stepP m22 z22).stepQ m23 q23, r23, s6.fl, b6.fl hG.l, by omega, (k9.stepP m22).stepQ m23, (a9.keep m22 o9.p).keep m23 (o9.stepP m22).q⟩⟩
  rintro z w27 ⟨rfl, R, R2, V, S, L, t27, r27, s27, b27, hL27, k27, a27⟩
  clear keepT lo6 loq6 o9 k9 t9 k6 t6 r6 s6 b6 hL hqR hqR2 hq2R hq2R2
  have hgl := a27.lt
  have lo27 := t27.p.lo
  have loq27 := t27.q.wf.2.2.2
  obtain ⟨la1, lc1, hp27⟩ := k27.p
  obtain ⟨la2, lc2, hr27⟩ := k27.r
  refine kList_c k27.p (by omega) fun w28 a102 c102 m28 o28 => ⟨_, _, _, rfl, ?_⟩
  have md : Mod No w28 (drew w28) := (Mod.refl No w28).drew
  have M30 := m28.no md
  have hr30 := hr27.nos M30
  refine Share.cut (fun z w30 => drew w28 = w30 ∧ z = [.bool false]) ⟨_, rfl, _, _, _, hr30.ld (by kernel_rfl), ff (by simp) ⟨_, rfl, _, _, _, hr30.ld (by kernel_rfl), kLen_c (k27.nos M30).p ⟨_, rfl, hr30.ld (by kernel_rfl), rfl, by simp⟩⟩⟩ ?_
  rintro z w30 ⟨rfl, rfl⟩
  refine ⟨_, rfl, ff rfl ?_⟩
  have o30 := o28.nos md
  have a30 := a27.keep M30 id
  have hof : ∀ z, Of a102 z → w27.heap.size ≤ z := fun z ⟨qq, e, ez⟩ => by have := (o30.base e).1; omega
  refine ⟨fun x w31 => ∃ (k : Nat) (H : List Value), x = [.bool ((L.take k).any fun x => sameA x.2 A.a), .int .i64 k] ∧ k ≤ L.length ∧ Own Tryz.prog w31 w27.heap.size 77 2 a102 L.length c102 H ∧ (∀ (j : Nat) (x : Wt), k ≤ j → L[j]? = some x → (H.drop (j * 2)).take 2 = acV x.2) ∧ Mod (Of a102) (drew w28) w31, fun x _ => (L.length - nI x 1).toNat,
    ⟨0, _, rfl, by omega, o30, fun j x _ hx => flat_drop acV_len (by rw [List.getElem?_map, hx]; rfl), Mod.refl _ _⟩, ?_⟩
  rintro x w31 ⟨k, H, rfl, hk, o31, hH, m31⟩
  have a31 := a30.keep m31 fun e => by have := hof _ e; omega
  have hr31 := hr27.old M30 m31 fun x hx e => by have := hof x e; omega
  refine ⟨_, rfl, cond_of (fun hb => ?_) (fun hb => ?_)⟩
  · have hk : k < L.length := by have := of_decide_eq_true hb; omega
    have hx : L[k]? = some L[k] := List.getElem?_eq_getElem hk
    have ht : ((L.take (k + 1)).any fun x => sameA x.2 A.a) = (((L.take k).any fun x => sameA x.2 A.a) || sameA L[k].2 A.a) := by rw [List.take_succ_eq_append_getElem hk, List.any_append]; simp
    obtain ⟨g2, hg2, hix, _, hac, _⟩ := hr31.at (Te := 84) elemN_rwaits agg_rwait (by omega) hx
    have hHk := hH k L[k] (Nat.le_refl _) hx
    generalize L[k] = x at *
    have md31 : Mod No w31 (drew w31) := (Mod.refl No w31).drew
    refine Share.cut (fun z w32 => drew w31 = w32 ∧ z = [.bool ((L.take (k + 1)).any fun x => sameA x.2 A.a)]) ⟨_, rfl, cond_of (fun hb2 => ⟨rfl, by rw [ht, hb2]; rfl⟩) (fun hb2 => ⟨_, rfl, _, _, _, (hr31.nos md31).ld (by kernel_rfl), _, hix, _, hac _ _ md31 agg_ract, _, lda (a31.keep md31 id), _, eql_act two_ract und_ract std_ract grd_ract _ _ _ _, rfl, by rw [ht, hb2, Bool.false_or]⟩)⟩ ?_
    rintro z w32 ⟨rfl, rfl⟩
    have hlenH : H.length = L.length * 2 := o31.len
    have mdd : Mod No w31 (drew (drew w31)) := md31.drew
    obtain ⟨g3, rfl, hg3, hat3⟩ := o31.sm (by omega)
    have hixA : Al (Instr.indexAt 77 (.slice (some ⟨g3, 0, none⟩) L.length c102) (.int .i64 k)) (.pointer (some ⟨g3, k * 2, none⟩)) := fun w' => by
      have := index_slice (P := Tryz.prog) (T := 77) (k := 2) (a := ⟨g3, 0, none⟩) (n := L.length) (c := c102) (kk := .i64) (i := k) elemN_acts (by omega) (by omega) w'
      rw [add_none, show 0 + (k : Int).toNat * 2 = k * 2 by omega] at this
      exact this
    have hla : ∀ w', Mod No w31 w' → Ru (Instr.loadAt 71 (.pointer (some ⟨g3, k * 2, none⟩))) w' (.agg ⟨acV x.2⟩) w' := fun w' m => by
      have := (hat3.keep m id).at.loadAgg (P := Tryz.prog) (T := 71) (i := k * 2) agg_pact (by rw [hlenH]; omega)
      rw [hHk, Nat.zero_add] at this
      exact this
    refine ⟨_, hixA, _, hla _ mdd, _, rfl, _, _, _, (hr31.nos mdd).ld (by kernel_rfl), _, hix, _, hac _ _ mdd agg_ract, given12_c (y := x.2) fun w33 m33 => ⟨_, rfl, hla _ (mdd.no m33), _, neq_act two_act und_act std_act grd_act _ _ _ _, ff (by rw [sameA_refl]; rfl) ?_⟩⟩
    obtain ⟨w34, st, o34, m34⟩ := (o31.nos (mdd.no m33)).setK (T' := 3) (i := k * 2 + 1) (v := .int .i64 77) (by kernel_rfl) (by omega) rfl
    refine ⟨_, hixA, w34, by rw [add_none]; exact st, ?_⟩
    rw [wrap64 (x := (k : Int) + 1) (by omega) (by omega)]
    refine ⟨⟨k + 1, _, rfl, by omega, o34, fun j y hj hy => ?_, (m31.no (mdd.no m33)).trans m34 fun z hz e => ⟨_, rfl, e⟩⟩, by simp [nI, nth]; omega⟩
    rw [List.drop_set_of_lt (by omega)]
    exact hH j y (by omega) hy
  · have hk : k = L.length := by have := of_decide_eq_false hb; omega
    subst hk
    rw [List.take_length]
    have hp31 := hp27.old M30 m31 fun x hx e => by have := hof x e; omega
    refine ⟨_, lda a31, given12_c (y := A.a) fun w35 m35 => ⟨_, rfl, kWaits_c (y := A.a) ⟨la1, lc1, hp31.nos m35⟩ (by omega) fun w36 m36 => ⟨_, rfl, _, rfl, ff (by simp) ?_⟩⟩⟩
    rw [wrap64 (x := (i : Int) + 1) (by omega) (by omega)]
    have M36 := m35.no m36
    refine ⟨⟨i + 1, _, _, _, _, _, R, R2, V, S, L, rfl, by omega, ?_, r27, s27, b27, hL27, ⟨⟨la1, lc1, hp31.nos M36⟩, ⟨la2, lc2, hr31.nos M36⟩⟩⟩, by simp [nI, nth]; omega⟩
    exact ((t27.nos M30).keep m31 (fun x hx e => by have := hof _ e; have := (lo27 _ hx).2; omega) (fun x hx e => by have := hof _ e; have := (loq27 _ hx).2; omega) (fun x hx e => by have := hof _ e; have := t27.p.mod.size; omega)).nos M36
end
end Go.Proofs.YtocjjigmpgekfaaGreat
end
section
/- Arguments that came in: a row of changes of layer 12. -/
open Go Go.Den
namespace Go.Proofs.YtocjjigmpgekfaaGreat
open Go.ChangeShapes Go.WideShapes Go.RowKit Go.Joins
section
variable {H : Type} {enc : TypeId × Value → H} {w : World} {base : Nat} {held : Bool}
theorem open_act12 {n : Nat} {cs : List Value} {y : DataW H × List MemPlace} (hl : cs.length = 6) (h : DataW.trod enc Tryz.prog w base (fun _ => true) held n 172 cs = some y) :
    ∃ x : A12, x.fit w cs ∧ x.xs.length ≤ Rows.uptoBulk y.1 := by
  match cs, hl with
  | [c0, c1, c2, c3, c4, c5], _ =>
    obtain ⟨y0, y1, y2, y3, y4, y5, n', hx, _, h0, h1, h2, h3, h4, h5⟩ := trod_st6 Tryz.underlying172 h
    have k0 : Tryz.prog.cellsOf 3 = 1 := by kernel_rfl
    have k1 : Tryz.prog.cellsOf 36 = 1 := by kernel_rfl
    have k2 : Tryz.prog.cellsOf 37 = 1 := by kernel_rfl
    have k3 : Tryz.prog.cellsOf 4 = 1 := by kernel_rfl
    simp only [k0, k1, k2, k3] at h0 h1 h2 h3 h4 h5
    have h0 : DataW.trod enc Tryz.prog w base (fun _ => true) held n' 3 [c0] = some y0 := h0
    have h1 : DataW.trod enc Tryz.prog w base (fun _ => true) held n' 3 [c1] = some y1 := h1
    have h2 : DataW.trod enc Tryz.prog w base (fun _ => true) held n' 36 [c2] = some y2 := h2
    have h3 : DataW.trod enc Tryz.prog w base (fun _ => true) held n' 37 [c3] = some y3 := h3
    have h4 : DataW.trod enc Tryz.prog w base (fun _ => true) held n' 3 [c4] = some y4 := h4
    have h5 : DataW.trod enc Tryz.prog w base (fun _ => true) held n' 4 [c5] = some y5 := h5
    obtain ⟨m0, e0, _, u0⟩ := DataW.trod_int Tryz.underlying3 h0
    obtain ⟨m1, e1, _, u1⟩ := DataW.trod_int Tryz.underlying3 h1
    obtain ⟨m4, e4, _, u4⟩ := DataW.trod_int Tryz.underlying3 h4
    obtain ⟨b5, e5, _⟩ := DataW.trod_bool Tryz.underlying4 h5
    have e0 : c0 = .int .i64 m0 := by simpa using e0
    have e1 : c1 = .int .i64 m1 := by simpa using e1
    have e4 : c4 = .int .i64 m4 := by simpa using e4
    have e5 : c5 = .bool b5 := by simpa using e5
    obtain ⟨ad, ld, cd, xs, rfl, hxl, hxr, hxn, hxb, hxm⟩ := bytes_of_trod3 h2
    obtain ⟨aa, la, ca, af, rfl, hal, har, hab, ham⟩ := ints_of_trod6 h3
    subst e0 e1 e4 e5 hxl hal
    refine ⟨⟨m0, m1, xs, af, m4, b5⟩, ⟨ad, cd, aa, ca, rfl, hxr, hxn, hxm, har, ham⟩, ?_⟩
    rw [hx]
    have := bulks.part_le (d := y2.1) (l := [y0.1, y1.1, y2.1, y3.1, y4.1, y5.1]) (by simp)
    simp only [Rows.uptoBulk]
    have e : (⟨m0, m1, xs, af, m4, b5⟩ : A12).xs.length = xs.length := rfl
    omega

set_option maxRecDepth 100000 in
theorem open_acts12 {r : Reach} {b0 : Nat} {v : Value} {d : DataW H} {ps : List MemPlace} (hval : Value.okWide Tryz.prog w r b0 55 v) (hd : DataW.Trod enc Tryz.prog w base (fun _ => true) held 55 v d ps) :
    ∃ a l c acts, v = .slice a l c ∧ acts.length = l ∧ Acts12 w a acts ∧ l ≤ 9223372036854775807 ∧ (Rows.uptoBulk d ≤ 1048576 → ∀ x ∈ acts, x.xs.length ≤ 1048576) := by
  obtain ⟨fuel, hf⟩ := hd
  obtain ⟨a, l, c, rfl⟩ := okWide_slice Tryz.underlying55 hval
  rcases Go.Deep.open_slice Tryz.underlying55 hf with ⟨h1, h2⟩ | ⟨a', l', c', m, n, DD, Pl, h1, _, hlc, hm, hmm, hx, hel⟩
  · simp [Value.cells] at h1
    obtain ⟨rfl, rfl, rfl⟩ := h1
    exact ⟨none, 0, 0, [], rfl, rfl, .inl rfl, by omega, fun _ x hx => by cases hx⟩
  · simp [Value.cells] at h1
    obtain ⟨rfl, rfl, rfl⟩ := h1
    rw [if_pos rfl] at hmm
    subst hmm
    have hl63 : l ≤ 9223372036854775807 := by simp [maxLen] at hm; omega
    have k3 : Tryz.prog.cellsOf 172 = 6 := by kernel_rfl
    rw [k3] at hel
    by_cases h0 : l = 0
    · exact ⟨some a', l, m, [], rfl, by simp [h0], .inl rfl, hl63, fun _ x hx => by cases hx⟩
    obtain ⟨b, off, spot⟩ := a'
    have hspot : spot = none := by
      obtain ⟨cs', hc, ht⟩ := hel 0 (by omega)
      obtain ⟨_, hcl, hcc⟩ := World.cells?_some hc
      obtain ⟨x, ⟨ad, cd, aa, ca, rfl, _⟩, _⟩ := open_act12 hcl ht
      have h00 := hcc 0 (by omega)
      have := World.cell?_spot (h00.trans rfl)
      simpa [Addr.add] using this
    subst hspot
    have each : ∀ i ∈ List.range l, ∃ x : A12 × List Value, x.2.length = 6 ∧ (∀ (j : Nat) (v : Value), x.2[j]? = some v → w.cell? ⟨b, off + (i * 6 + j), none⟩ = some v) ∧ x.1.fit w x.2 ∧ (Rows.uptoBulk d ≤ 1048576 → x.1.xs.length ≤ 1048576) := by
      intro i hi
      have hi := List.mem_range.1 hi
      obtain ⟨cs', hc, ht⟩ := hel i (by omega)
      obtain ⟨_, hcl, hcc⟩ := World.cells?_some hc
      obtain ⟨x, hfit, hbx⟩ := open_act12 hcl ht
      refine ⟨(x, cs'), hcl, fun j v hj => ?_, hfit, fun hb => ?_⟩
      · have hj4 := (List.getElem?_eq_some_iff.1 hj).1
        have hj4' : j < cs'.length := hj4
        have := hcc j (by omega)
        rw [add_none, add_none, Nat.add_assoc] at this
        rw [this, hj]
      · have hxd : d = .slice ((List.range l).map DD) ((List.range (m - l)).map fun j => DD (l + j)) := congrArg Prod.fst hx
        have h1 := bulks.slice_elems (H := H) ((List.range l).map DD) ((List.range (m - l)).map fun j => DD (l + j))
        have h2 := bulks.part_le (d := DD i) (l := (List.range l).map DD) (List.mem_map.2 ⟨i, List.mem_range.2 hi, rfl⟩)
        rw [← hxd] at h1
        have q3' : x.xs.length ≤ Rows.uptoBulk (DD i) := hbx
        show x.xs.length ≤ 1048576
        omega
    obtain ⟨ys, hyl, hys⟩ := list_choose3 (p := fun (i : Nat) (x : A12 × List Value) => x.2.length = 6 ∧ (∀ (j : Nat) (v : Value), x.2[j]? = some v → w.cell? ⟨b, off + (i * 6 + j), none⟩ = some v) ∧ x.1.fit w x.2 ∧ (Rows.uptoBulk d ≤ 1048576 → x.1.xs.length ≤ 1048576)) (List.range l) each
    rw [List.length_range] at hyl
    have hy3 : ∀ z ∈ ys, z.2.length = 6 := fun z hz => by
      obtain ⟨i, hi, e⟩ := List.getElem_of_mem hz
      exact (hys i i z (by rw [List.getElem?_range (by omega)]) (by rw [List.getElem?_eq_getElem hi, e])).1
    have flat3 : ∀ (zs : List (A12 × List Value)), (∀ z ∈ zs, z.2.length = 6) → ∀ (i : Nat) (z : A12 × List Value), zs[i]? = some z → ((zs.flatMap (·.2)).drop (i * 6)).take 6 = z.2 := by
      intro zs
      induction zs with
      | nil => intro _ i z h; simp at h
      | cons u r ih =>
        intro hz i z h
        have hu := hz u (by simp)
        cases i with
        | zero => simp at h; subst h; rw [Nat.zero_mul, List.drop_zero, List.flatMap_cons, List.take_append_of_le_length (by omega), List.take_of_length_le (by omega)]
        | succ i =>
          have := ih (fun z hz' => hz z (by simp [hz'])) i z (by simpa using h)
          rw [List.flatMap_cons, List.drop_append, List.drop_eq_nil_of_le (by omega), List.nil_append]
          have e : (i + 1) * 6 - u.2.length = i * 6 := by omega
          rw [e]; exact this
    have flen : ∀ zs : List (A12 × List Value), (∀ z ∈ zs, z.2.length = 6) → (zs.flatMap (·.2)).length = zs.length * 6 := by
      intro zs
      induction zs with
      | nil => intro _; rfl
      | cons u r ih =>
        intro hz
        have hu := hz u (by simp)
        rw [List.flatMap_cons, List.length_append, ih fun z hz' => hz z (by simp [hz']), List.length_cons]; omega
    have hfl := flen ys hy3
    refine ⟨some ⟨b, off, none⟩, l, m, ys.map (·.1), rfl, by simp [hyl], .inr ⟨b, off, ys.flatMap (·.2), rfl, At.of_cells (by rw [hfl]; omega) fun j hj => ?_, by rw [hfl]; simp, fun r x hx => ?_⟩, hl63, fun hb x hx => ?_⟩
    · have hj' : j < l * 6 := by rw [hfl, hyl] at hj; exact hj
      have hi : j / 6 < l := by omega
      have hyi : ys[j / 6]? = some ys[j / 6] := by simp [hyl, hi]
      have hp := hys (j / 6) (j / 6) ys[j / 6] (by simp [hi]) hyi
      have h4 := flat3 ys hy3 (j / 6) _ hyi
      have hget : (ys[j / 6]).2[j % 6]? = some ((ys.flatMap (·.2))[j]) := by
        rw [← h4, List.getElem?_take, if_pos (by omega), List.getElem?_drop, show j / 6 * 6 + j % 6 = j by omega]
        exact List.getElem?_eq_getElem _
      have := hp.2.1 (j % 6) _ hget
      rw [show j / 6 * 6 + j % 6 = j by omega] at this
      exact this
    · rw [List.getElem?_map] at hx
      cases hy : ys[r]? with
      | none => rw [hy] at hx; cases hx
      | some z =>
        rw [hy] at hx
        have := Option.some.inj hx
        subst this
        have hr : r < l := by have := (List.getElem?_eq_some_iff.1 hy).1; omega
        have hq := (hys r r z (by simp [hr]) hy).2.2.1
        rw [flat3 ys hy3 r z hy]
        exact hq
    · obtain ⟨z, hz, rfl⟩ := List.mem_map.1 hx
      obtain ⟨i, hi, e⟩ := List.getElem_of_mem hz
      exact (hys i i z (by rw [List.getElem?_range (by omega)]) (by rw [List.getElem?_eq_getElem hi, e])).2.2.2 hb
end
end Go.Proofs.YtocjjigmpgekfaaGreat
end
section
/- Arguments that came in: a row of calls of layer 12. -/
open Go Go.Den
namespace Go.Proofs.YtocjjigmpgekfaaGreat
open Go.ChangeShapes Go.WideShapes Go.RowKit Go.Joins
section
variable {H : Type} {enc : TypeId × Value → H} {w : World} {base : Nat} {held : Bool}
theorem trod_st4 {P : Program} {spare : Nat → Bool} {t : TypeId} {f0 f1 f2 f3 : Field} {fuel : Nat} {cs : List Value} {x : DataW H × List MemPlace} (ht : P.underlying t = some (.struct #[f0, f1, f2, f3])) (h : DataW.trod enc P w base spare held fuel t cs = some x) :
    ∃ y0 y1 y2 y3 n, DataW.trod enc P w base spare held n f0.type ((cs.drop f0.offset).take (P.cellsOf f0.type)) = some y0 ∧ DataW.trod enc P w base spare held n f1.type ((cs.drop f1.offset).take (P.cellsOf f1.type)) = some y1 ∧
      DataW.trod enc P w base spare held n f2.type ((cs.drop f2.offset).take (P.cellsOf f2.type)) = some y2 ∧ DataW.trod enc P w base spare held n f3.type ((cs.drop f3.offset).take (P.cellsOf f3.type)) = some y3 := by
  obtain ⟨xs, n, _, rfl, hl, hlen, hf⟩ := DataW.trod_struct ht h
  match xs, hlen with
  | [y0, y1, y2, y3], _ => exact ⟨y0, y1, y2, y3, n, by simpa using hf 0 f0 rfl, by simpa using hf 1 f1 rfl, by simpa using hf 2 f2 rfl, by simpa using hf 3 f3 rfl⟩
theorem trod_st2 {P : Program} {spare : Nat → Bool} {t : TypeId} {f0 f1 : Field} {fuel : Nat} {cs : List Value} {x : DataW H × List MemPlace} (ht : P.underlying t = some (.struct #[f0, f1])) (h : DataW.trod enc P w base spare held fuel t cs = some x) :
    ∃ y0 y1 n, DataW.trod enc P w base spare held n f0.type ((cs.drop f0.offset).take (P.cellsOf f0.type)) = some y0 ∧ DataW.trod enc P w base spare held n f1.type ((cs.drop f1.offset).take (P.cellsOf f1.type)) = some y1 := by
  obtain ⟨xs, n, _, rfl, hl, hlen, hf⟩ := DataW.trod_struct ht h
  match xs, hlen with
  | [y0, y1], _ => exact ⟨y0, y1, n, by simpa using hf 0 f0 rfl, by simpa using hf 1 f1 rfl⟩
theorem open_call5 {n : Nat} {cs : List Value} {y : DataW H × List MemPlace} (hl : cs.length = 5) (h : DataW.trod enc Tryz.prog w base (fun _ => true) held n 69 cs = some y) :
    ∃ x : C5, cs = c5V x := by
  match cs, hl with
  | [c0, c1, c2, c3, c4], _ =>
    obtain ⟨y0, y1, y2, y3, n', h0, h1, h2, h3⟩ := trod_st4 Tryz.underlying69 h
    have k0 : Tryz.prog.cellsOf 3 = 1 := by kernel_rfl
    have k1 : Tryz.prog.cellsOf 2 = 1 := by kernel_rfl
    have k2 : Tryz.prog.cellsOf 67 = 2 := by kernel_rfl
    simp only [k0, k1, k2] at h0 h1 h2 h3
    have h0 : DataW.trod enc Tryz.prog w base (fun _ => true) held n' 3 [c0] = some y0 := h0
    have h1 : DataW.trod enc Tryz.prog w base (fun _ => true) held n' 2 [c1] = some y1 := h1
    have h2 : DataW.trod enc Tryz.prog w base (fun _ => true) held n' 67 [c2, c3] = some y2 := h2
    have h3 : DataW.trod enc Tryz.prog w base (fun _ => true) held n' 3 [c4] = some y3 := h3
    obtain ⟨m0, e0, _, u0⟩ := DataW.trod_int Tryz.underlying3 h0
    obtain ⟨m1, e1, _, u1⟩ := DataW.trod_int Tryz.underlying2 h1
    obtain ⟨m4, e4, _, u4⟩ := DataW.trod_int Tryz.underlying3 h3
    obtain ⟨z0, z1, n2, g0, g1⟩ := trod_st2 Tryz.underlying67 h2
    simp only [k0] at g0 g1
    have g0 : DataW.trod enc Tryz.prog w base (fun _ => true) held n2 3 [c2] = some z0 := g0
    have g1 : DataW.trod enc Tryz.prog w base (fun _ => true) held n2 3 [c3] = some z1 := g1
    obtain ⟨m2, e2, _, u2⟩ := DataW.trod_int Tryz.underlying3 g0
    obtain ⟨m3, e3, _, u3⟩ := DataW.trod_int Tryz.underlying3 g1
    have e0 : c0 = .int .i64 m0 := by simpa using e0
    have e1 : c1 = .int .i64 m1 := by simpa using e1
    have e2 : c2 = .int .i64 m2 := by simpa using e2
    have e3 : c3 = .int .i64 m3 := by simpa using e3
    have e4 : c4 = .int .i64 m4 := by simpa using e4
    subst e0 e1 e2 e3 e4
    exact ⟨⟨m0, m1, (m2, m3), m4⟩, rfl⟩

set_option maxRecDepth 100000 in
theorem open_acts5 {r : Reach} {b0 : Nat} {v : Value} {d : DataW H} {ps : List MemPlace} (hval : Value.okWide Tryz.prog w r b0 56 v) (hd : DataW.Trod enc Tryz.prog w base (fun _ => true) held 56 v d ps) :
    ∃ a l c acts, v = .slice a l c ∧ acts.length = l ∧ Acts5 w a acts ∧ l ≤ 9223372036854775807 := by
  obtain ⟨fuel, hf⟩ := hd
  obtain ⟨a, l, c, rfl⟩ := okWide_slice Tryz.underlying56 hval
  rcases Go.Deep.open_slice Tryz.underlying56 hf with ⟨h1, h2⟩ | ⟨a', l', c', m, n, DD, Pl, h1, _, hlc, hm, hmm, hx, hel⟩
  · simp [Value.cells] at h1
    obtain ⟨rfl, rfl, rfl⟩ := h1
    exact ⟨none, 0, 0, [], rfl, rfl, .inl rfl, by omega⟩
  · simp [Value.cells] at h1
    obtain ⟨rfl, rfl, rfl⟩ := h1
    rw [if_pos rfl] at hmm
    subst hmm
    have hl63 : l ≤ 9223372036854775807 := by simp [maxLen] at hm; omega
    have k3 : Tryz.prog.cellsOf 69 = 5 := by kernel_rfl
    rw [k3] at hel
    by_cases h0 : l = 0
    · exact ⟨some a', l, m, [], rfl, by simp [h0], .inl rfl, hl63⟩
    obtain ⟨b, off, spot⟩ := a'
    have hspot : spot = none := by
      obtain ⟨cs', hc, ht⟩ := hel 0 (by omega)
      obtain ⟨_, hcl, hcc⟩ := World.cells?_some hc
      obtain ⟨x, rfl⟩ := open_call5 hcl ht
      have h00 := hcc 0 (by omega)
      have := World.cell?_spot (h00.trans rfl)
      simpa [Addr.add] using this
    subst hspot
    have each : ∀ i ∈ List.range l, ∃ x : C5 × List Value, x.2.length = 5 ∧ (∀ (j : Nat) (v : Value), x.2[j]? = some v → w.cell? ⟨b, off + (i * 5 + j), none⟩ = some v) ∧ x.2 = c5V x.1 := by
      intro i hi
      have hi := List.mem_range.1 hi
      obtain ⟨cs', hc, ht⟩ := hel i (by omega)
      obtain ⟨_, hcl, hcc⟩ := World.cells?_some hc
      obtain ⟨x, hfit⟩ := open_call5 hcl ht
      refine ⟨(x, cs'), hcl, fun j v hj => ?_, hfit⟩
      · have hj4 := (List.getElem?_eq_some_iff.1 hj).1
        have hj4' : j < cs'.length := hj4
        have := hcc j (by omega)
        rw [add_none, add_none, Nat.add_assoc] at this
        rw [this, hj]
    obtain ⟨ys, hyl, hys⟩ := list_choose3 (p := fun (i : Nat) (x : C5 × List Value) => x.2.length = 5 ∧ (∀ (j : Nat) (v : Value), x.2[j]? = some v → w.cell? ⟨b, off + (i * 5 + j), none⟩ = some v) ∧ x.2 = c5V x.1) (List.range l) each
    rw [List.length_range] at hyl
    have hy3 : ∀ z ∈ ys, z.2.length = 5 := fun z hz => by
      obtain ⟨i, hi, e⟩ := List.getElem_of_mem hz
      exact (hys i i z (by rw [List.getElem?_range (by omega)]) (by rw [List.getElem?_eq_getElem hi, e])).1
    have flat3 : ∀ (zs : List (C5 × List Value)), (∀ z ∈ zs, z.2.length = 5) → ∀ (i : Nat) (z : C5 × List Value), zs[i]? = some z → ((zs.flatMap (·.2)).drop (i * 5)).take 5 = z.2 := by
      intro zs
      induction zs with
      | nil => intro _ i z h; simp at h
      | cons u r ih =>
        intro hz i z h
        have hu := hz u (by simp)
        cases i with
        | zero => simp at h; subst h; rw [Nat.zero_mul, List.drop_zero, List.flatMap_cons, List.take_append_of_le_length (by omega), List.take_of_length_le (by omega)]
        | succ i =>
          have := ih (fun z hz' => hz z (by simp [hz'])) i z (by simpa using h)
          rw [List.flatMap_cons, List.drop_append, List.drop_eq_nil_of_le (by omega), List.nil_append]
          have e : (i + 1) * 5 - u.2.length = i * 5 := by omega
          rw [e]; exact this
    have flen : ∀ zs : List (C5 × List Value), (∀ z ∈ zs, z.2.length = 5) → (zs.flatMap (·.2)).length = zs.length * 5 := by
      intro zs
      induction zs with
      | nil => intro _; rfl
      | cons u r ih =>
        intro hz
        have hu := hz u (by simp)
        rw [List.flatMap_cons, List.length_append, ih fun z hz' => hz z (by simp [hz']), List.length_cons]; omega
    have hfl := flen ys hy3
    refine ⟨some ⟨b, off, none⟩, l, m, ys.map (·.1), rfl, by simp [hyl], .inr ⟨b, off, ys.flatMap (·.2), rfl, At.of_cells (by rw [hfl]; omega) fun j hj => ?_, by rw [hfl]; simp, fun r x hx => ?_⟩, hl63⟩
    · have hj' : j < l * 5 := by rw [hfl, hyl] at hj; exact hj
      have hi : j / 5 < l := by omega
      have hyi : ys[j / 5]? = some ys[j / 5] := by simp [hyl, hi]
      have hp := hys (j / 5) (j / 5) ys[j / 5] (by simp [hi]) hyi
      have h4 := flat3 ys hy3 (j / 5) _ hyi
      have hget : (ys[j / 5]).2[j % 5]? = some ((ys.flatMap (·.2))[j]) := by
        rw [← h4, List.getElem?_take, if_pos (by omega), List.getElem?_drop, show j / 5 * 5 + j % 5 = j by omega]
        exact List.getElem?_eq_getElem _
      have := hp.2.1 (j % 5) _ hget
      rw [show j / 5 * 5 + j % 5 = j by omega] at this
      exact this
    · rw [List.getElem?_map] at hx
      cases hy : ys[r]? with
      | none => rw [hy] at hx; cases hx
      | some z =>
        rw [hy] at hx
        have := Option.some.inj hx
        subst this
        have hr : r < l := by have := (List.getElem?_eq_some_iff.1 hy).1; omega
        have hq := (hys r r z (by simp [hr]) hy).2.2
        rw [flat3 ys hy3 r z hy]
        exact hq
end
end Go.Proofs.YtocjjigmpgekfaaGreat
end
