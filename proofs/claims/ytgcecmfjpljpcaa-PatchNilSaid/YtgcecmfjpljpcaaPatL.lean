/- Layer 11, the program's store: Patch. -/
import Derived.Test.YtgcecmfjpljpcaaPatK
open Go Go.Den Go.Proofs
namespace Go.Proofs.Ytgcecmfjpljpcaa
section
variable {w0 w w' : World} {R R' : Nat → Prop} {rl : Nat → Nat} {sp c d mo mm : Nat} {ca oa : Nat → Nat} {Lo Lm : List (Int × Value)} {P V : Ps} {K : Value → World → Prop}
theorem filter_take {l : List Int} {f : Int → Bool} {i : Nat} (hi : i < l.length) : (l.take (i + 1)).filter f = (l.take i).filter f ++ (if f l[i] = true then [l[i]] else []) := by
  rw [List.take_succ_eq_append_getElem hi, List.filter_append]
  congr 1
  by_cases hf : f l[i] = true
  · rw [if_pos hf]; simp [hf]
  · rw [if_neg hf]; simp [hf]
set_option maxRecDepth 100000 in
theorem pPatch_c {n frm : Int} {a3 a4 : Option Addr} {l3 c3 l4 c4 : Nat} {data : Bk} {after : List Int} (hP : Px w0 R w sp d P) (hlast : P.last + 1 ≤ 1000000) (hd : data.length = l3) (hrd : Row w a3 (u8L data)) (hdo : ∀ q, a3 = some q → ¬ R q.block) (h63 : l3 ≤ 9223372036854775807)
    (ha : after.length = l4) (ha6 : l4 ≤ 1000000) (hra : Row w a4 (iL after)) (hao : ∀ q, a4 = some q → ¬ R q.block)
    (hk : ∀ w' C', Mod R w w' → Px w0 (Gro R w w') w' sp d ⟨C', (patS P n frm data after).last, (patS P n frm data after).ons⟩ → C'.D = P.C.D → C'.most = P.C.most → K (.tuple #[.int .i64 (patN P n frm data after), .int .i64 (patE P n frm data after)]) w') :
    Cal Try.prog F_patch_Store_Patch #[.pointer (some ⟨sp, 0, none⟩), .int .i64 n, .int .i64 frm, .slice a3 l3 c3, .slice a4 l4 c4] w K := by
  have hP0 := hP
  obtain ⟨hw, rl, c, mo, mm, ca, oa, Lo, Lm, h⟩ := hP
  apply C_patch_Store_Patch
  unfold D_patch_Store_Patch
  have m1 : Mod No w (w.alloc (.cells ⟨[.pointer (some ⟨sp, 0, none⟩)]⟩ 60)) := (Mod.refl No w).alloc _
  have a1 : At (w.alloc (.cells ⟨[.pointer (some ⟨sp, 0, none⟩)]⟩ 60)) w.heap.size 0 [.pointer (some ⟨sp, 0, none⟩)] := AtU.new.at
  have s1 : (w.alloc (.cells ⟨[.pointer (some ⟨sp, 0, none⟩)]⟩ 60)).heap.size = w.heap.size + 1 := by simp
  refine ⟨_, _, box_store _ _, ?_⟩
  generalize w.alloc (.cells ⟨[.pointer (some ⟨sp, 0, none⟩)]⟩ 60) = w1 at *
  have h1 := h.nos m1
  have hlo := hP0.lo
  have hw0 := h.mod.size
  -- an error: nothing has changed
  have bad : ∀ w2 e, Mod No w w2 → patE P n frm data after = e → e ≠ 0 → K (.tuple #[.int .i64 0, .int .i64 e]) w2 := fun w2 e m he hne => by
    have hS : patS P n frm data after = P := by unfold patS; rw [if_neg (by rw [he]; exact hne)]
    have hN : patN P n frm data after = 0 := by unfold patN; rw [if_neg (by rw [he]; exact hne)]
    have := hk w2 P.C m.anys (by rw [hS]; exact hP0.gro m) rfl rfl
    rw [hN, he] at this; exact this
  refine ⟨_, a1.load (i := 0) (by kernel_rfl) rfl, ff rfl (Share.cut (fun x w2 => w1 = w2 ∧ x = [.bool (decide (errOf P.C.D n ≠ 0))]) (cond_of (fun hb => ?_) (fun hb => ?_)) ?_)⟩
  · have hb := of_decide_eq_true hb
    have : errOf P.C.D n ≠ 0 := by unfold errOf; rw [if_pos (by omega)]; omega
    rw [decide_eq_true this]; exact ⟨rfl, rfl⟩
  · have hb := of_decide_eq_false hb
    refine ⟨_, a1.load (i := 0) (by kernel_rfl) rfl, _, rfl, _, h1.llen', rfl, ?_⟩
    congr 2
    unfold errOf
    by_cases hn : (P.C.D.vs.length : Int) ≤ n
    · rw [if_pos (.inr hn), decide_eq_true hn]; rfl
    · rw [if_neg (by omega), decide_eq_false hn]; rfl
  rintro x w2 ⟨rfl, rfl⟩
  refine ⟨_, rfl, ?_⟩
  by_cases he : errOf P.C.D n ≠ 0
  · exact tt (decide_eq_true he) (bad w1 3 m1 (by unfold patE; rw [if_pos he]) (by omega))
  refine ff (decide_eq_false he) ?_
  have he0 : errOf P.C.D n = 0 := Classical.not_not.1 he
  refine Share.cut (fun x w2 => w1 = w2 ∧ x = [.bool (decide (data.length = 0 ∨ frm < 0 ∨ 256 < frm ∨ 256 - frm < data.length))]) (cond_of (fun hb => ⟨rfl, ?_⟩) (fun hb => cond_of (fun hb2 => ⟨rfl, ?_⟩) (fun hb2 => cond_of (fun hb3 => ⟨rfl, ?_⟩) (fun hb3 => ⟨rfl, ?_⟩)))) ?_
  · have : (l3 : Int) = 0 := by simpa using hb
    rw [decide_eq_true (.inl (by omega))]
  · have := of_decide_eq_true hb2
    rw [decide_eq_true (.inr (.inl this))]
  · have := of_decide_eq_true hb3
    rw [decide_eq_true (.inr (.inr (.inl (by omega))))]
  · have hb : ¬ (l3 : Int) = 0 := by simpa using hb
    have hb2 := of_decide_eq_false hb2
    have hb3 := of_decide_eq_false hb3
    rw [wrap64 (x := 256 - frm) (by omega) (by omega)]
    congr 2
    rw [Bool.eq_iff_iff]
    simp only [decide_eq_true_eq]
    omega
  rintro x w2 ⟨rfl, rfl⟩
  refine ⟨_, rfl, ?_⟩
  by_cases hsz : data.length = 0 ∨ frm < 0 ∨ 256 < frm ∨ 256 - frm < data.length
  · exact tt (decide_eq_true hsz) (bad w1 4 m1 (by unfold patE; rw [if_neg he, if_pos hsz]) (by omega))
  refine ff (decide_eq_false hsz) ?_
  refine Contains64_c (S := No) ha (by omega) (hra.nos m1) (tells_given h1 a1) fun w2 m2 => ⟨_, rfl, ?_⟩
  have M2 := m1.no m2
  by_cases hbad : badA P after = true
  · exact tt hbad (bad w2 1 M2 (by unfold patE; rw [if_neg he, if_neg hsz, if_pos hbad]) (by omega))
  refine ff (by simpa [badA] using hbad) ?_
  have hE : patE P n frm data after = 0 := by unfold patE; rw [if_neg he, if_neg hsz, if_neg hbad]
  obtain ⟨b, rfl, hblt⟩ := err_range he0
  obtain ⟨f, rfl⟩ : ∃ f : Nat, frm = f := ⟨frm.toNat, by omega⟩
  have h2 := h.nos M2
  have a2 := a1.keep m2 id
  have hcw := h2.cx.wf
  -- what is read
  obtain ⟨C1, hask⟩ := ask_some hcw.1 h2.wf.full hblt
  obtain ⟨l0, y, A⟩ := ask_facts hcw.1 hcw.2.1 hblt hask
  have hr0 : rdX P.C b = (C1, 0, lastD C1.l) := by unfold rdX; rw [if_neg (by rw [he0]; simp), Int.toNat_natCast, hask]
  have hyl : y ∈ C1.l := by rw [A.l]; simp
  have hly : lastD C1.l = y.data := by unfold lastD; rw [A.l]; simp
  have hw1 : WFP ⟨C1, P.last, P.ons⟩ := hw.ask h2.wf hcw.1 A
  have hs1 : WFS ⟨C1, P.last, P.ons⟩ := WFS.cache h.wf (by rw [A.D]) A.most
  have hlen : (lastD C1.l).length = 256 := by rw [hly]; exact A.wf.data y hyl
  have hold : lastD C1.l = contV ⟨C1, P.last, P.ons⟩ b := by
    rw [← cont_view hw1 hs1 A.wf b]
    unfold cont
    have := findB_mem A.wf.nodup hyl
    rw [A.yb] at this
    show _ = (match findB C1.l b with | some x => x.data | none => atD C1.D b)
    rw [this, hly]
  refine ⟨_, a2.load (i := 0) (by kernel_rfl) rfl, _, rfl, _, h2.lc, cRead_c h2.cx fun w3a w3 ag cg m3a m3 x3 o3 => ⟨_, _, _, _, rfl, ?_⟩⟩
  simp only [hr0, hlen] at x3 o3 ⊢
  obtain ⟨rl3, h3, hr3⟩ := h2.cache m3a m3 x3 (by rw [A.D]) A.most
  obtain ⟨g, rfl, hg, hat⟩ := o3.sm (by omega)
  rw [hold] at hat
  have hz2 := M2.size
  have hz3a := m3a.size
  have hz3 := m3.size
  have hzm2 := m2.size
  have hq1 := a1.lt
  have hR1 : ∀ z, rl z = 1 → R z := fun z hz => h.reg z (by omega)
  have M3 : Mod R w w3 := (M2.anys.trans m3a fun z _ e => hR1 z e).no m3
  have hrq : ∀ z, rl z ≠ 0 → z < w.heap.size := fun z hz => (hlo z (h.reg z hz)).2
  have a3' : At w3 w.heap.size 0 [.pointer (some ⟨sp, 0, none⟩)] := (a2.keep m3a fun e => by have := hrq w.heap.size (by have e : rl w.heap.size = 1 := e; omega); omega).keep m3 id
  have hlk := h3.lookM (b : Int)
  refine ff rfl ⟨_, a3'.load (i := 0) (by kernel_rfl) rfl, _, rfl, _, h3.lm, _, hlk, ?_⟩
  have hG3 : ∀ z, Gro R w2 w3a z → Gro R w w3 z := fun z hz => by
    rcases hz with hz | hz
    · exact .inl hz
    · exact .inr (by omega)
  have hqn : ¬ Gro R w2 w3a w.heap.size := by
    rintro (e | e)
    · have := (hlo _ e).2; omega
    · omega
  have hgn : ¬ Gro R w2 w3a g := by
    rintro (e | e)
    · have := (hlo _ e).2; omega
    · omega
  have hcl : (contV ⟨C1, P.last, P.ons⟩ b).length = 256 := by rw [← hold]; exact hlen
  have hblt1 : b < C1.D.vs.length := by rw [A.D]; exact hblt
  refine Share.cut (Jn w0 R w sp c d mo mm ca Lo ⟨C1, P.last, P.ons⟩ b g) ?_ ?_
  · cases ho : onOf P b with
    | none =>
      have ho' : onOf { P with C := C1 } b = none := ho
      rw [ho']
      exact tt rfl (new_c (P1 := ⟨C1, P.last, P.ons⟩) M3 hG3 hlo h3 a3' hqn rfl hat.at hcl hgn (by omega) (by omega) hblt1 ho hw1 ⟨y, hyl, A.yb⟩ fun _ _ hj => hj)
    | some o =>
      have ho' : onOf { P with C := C1 } b = some o := ho
      rw [ho']
      obtain ⟨hom, hob⟩ := onOf_some ho
      have hob : o.b = b := by omega
      refine ff rfl ?_
      have hnO : newO ⟨C1, P.last, P.ons⟩ b = ⟨C1, P.last, P.ons⟩ := by unfold newO; rw [show onOf (⟨C1, P.last, P.ons⟩ : Ps) b = some o from ho]
      obtain ⟨y1, k1, k2, k3, k4⟩ := hw1.pin o hom
      refine ⟨_, rl3, C1, oa, Lm, by rw [hnO]; exact h3, hG3, M3, a3', hqn, hat.at, rfl, rfl, fun _ _ => Iff.rfl, ⟨y1, k1, by omega, k3, ?_⟩, ?_⟩
      · have hcv : contV ⟨C1, P.last, P.ons⟩ b = withL o.base o.l := by unfold contV; rw [show onOf (⟨C1, P.last, P.ons⟩ : Ps) b = some o from ho]
        rw [hcv]; exact k4
      · rw [← hob]; rfl
  rintro x w9 ⟨R9, rl9, C9, oa9, Lm9, h9, hG9, M9, a9, hqn9, hat9, eD9, eM9, ht9, ⟨y9, hy9, hy9b, hy9p, hy9d⟩, rfl⟩
  clear hlk
  have hz9 := M9.size
  have hq9 := a9.lt
  -- the rows of the call
  have hrow : ∀ {wz : World} {a : Option Addr} {xs : List Value}, Row w a xs → (∀ q, a = some q → ¬ R q.block) → Mod R w wz → Row wz a xs := fun hr ho hm => Row.keep2 hr hm fun q hq _ => ho q hq
  have hd1 : 1 ≤ data.length := by omega
  have hfit : f + data.length ≤ 256 := by omega
  refine Lay_c' (b := contV ⟨C1, P.last, P.ons⟩ b) (ys := data) hcl hd (by omega) (by omega) (by omega) (.inr ⟨_, _, rfl, hat9⟩) (hrow hrd hdo M9) fun w10 m10 at10 => ⟨_, _, _, _, rfl, ?_⟩
  have h10 := h9.nos m10
  have a10 := a9.keep m10 id
  refine ⟨_, a10.load (i := 0) (by kernel_rfl) rfl, _, rfl, _, h10.lc, ?_⟩
  obtain ⟨C11, e11, eD11, eM11, ht11, y11, hy11, hy11b, hy11p, hy11d⟩ := lay_facts (ys := overB (contV ⟨C1, P.last, P.ons⟩ b) f data) h10.cx.wf.1 h10.cx.wf.2.1 hy9 hy9b (by rw [overB_len (by omega)]; exact hcl)
  have hz10 := m10.size
  have hw9 : rl9 w9.heap.size = 0 := h9.out_of (Nat.le_refl _)
  refine cLay_c (n := (b : Int)) (ys := overB (contV ⟨C1, P.last, P.ons⟩ b) f data) h10.cx (by rw [overB_len (by omega)]; exact hcl) (.inr ⟨_, _, rfl, at10.at⟩) (fun _ q hq e => by cases hq; have e : rl9 w9.heap.size = 1 := e; omega) fun w11 m11 x11 => ⟨_, rfl, ?_⟩
  have x11 : Cx w0 (Gro (fun z => rl9 z = 1) w10 w11) w11 c d (layX C9 b (overB (contV ⟨C1, P.last, P.ons⟩ b) f data)).1 := x11
  rw [e11] at x11
  obtain ⟨rl11, h11, hr11⟩ := h10.cache m11 (Mod.refl _ _) x11 (by show C11.D.vs.length = C9.D.vs.length; rw [eD11]) (by show C11.most = C9.most; exact eM11)
  have hz11 := m11.size
  have a11 : At w11 w.heap.size 0 [.pointer (some ⟨sp, 0, none⟩)] := a10.keep m11 fun e => hqn9 (h9.reg _ (by have e : rl9 w.heap.size = 1 := e; omega))
  have hqn11 : ¬ Gro R9 w10 w11 w.heap.size := by
    rintro (e | e)
    · exact hqn9 e
    · omega
  have M11 : Mod R w w11 := (M9.no m10).trans m11 fun z hz e => by
    have e : rl9 z = 1 := e
    rcases hG9 z (h9.reg z (by omega)) with e2 | e2
    · exact e2
    · omega
  have hG11 : ∀ z, Gro R9 w10 w11 z → Gro R w w11 z := fun z hz => by
    rcases hz with hz | hz
    · rcases hG9 z hz with e | e
      · exact .inl e
      · exact .inr (by omega)
    · exact .inr (by omega)
  -- the number
  have eL : (newO ⟨C1, P.last, P.ons⟩ b).last = P.last := newO_C.2
  obtain ⟨w12, u12, h12, m12⟩ := h11.bump (by show (newO ⟨C1, P.last, P.ons⟩ b).last + 1 ≤ 1000000; rw [eL]; exact hlast)
  have hll := h11.llast
  have hz12 := m12.size
  have eW : (IntKind.i64.wrap (((newO ⟨C1, P.last, P.ons⟩ b).last : Nat) + 1 : Int)) = (((newO ⟨C1, P.last, P.ons⟩ b).last + 1 : Nat) : Int) := by
    rw [eL, wrap64 (by omega) (by omega)]; omega
  refine ⟨_, a11.load (i := 0) (by kernel_rfl) rfl, _, rfl, _, hll, _, rfl, w12, ?_, ?_⟩
  · show RuU (Instr.storeAt _ _ (.int .i64 (IntKind.i64.wrap (((newO ⟨C1, P.last, P.ons⟩ b).last : Nat) + 1 : Int)))) w11 w12
    rw [eW]; exact u12
  -- the change
  have m12d : Mod No w12 (Go.Den.drew w12) := (Mod.refl No w12).drew
  have sz12d : (Go.Den.drew w12).heap.size = w12.heap.size := rfl
  have hsp : rl11 sp = 2 := h11.rsp
  have hrl11q : rl11 w.heap.size = 0 := by
    by_cases e : rl11 w.heap.size = 0
    · exact e
    · exact absurd (h11.reg _ e) hqn11
  have a12 : At (Go.Den.drew w12) w.heap.size 0 [.pointer (some ⟨sp, 0, none⟩)] := (a11.keep m12 fun e => by have e : w.heap.size = sp := e; rw [e] at hrl11q; omega).keep m12d id
  have M12 : Mod R w (Go.Den.drew w12) := (M11.trans m12 fun z hz e => by
    have e : z = sp := e
    rcases hG11 z (h11.reg z (by rw [e, hsp]; omega)) with e2 | e2
    · exact e2
    · omega).no m12d
  obtain ⟨Q, hQ⟩ : ∃ Q : Ps, Q = { ({ ({ newO ⟨C1, P.last, P.ons⟩ b with C := C9 } : Ps) with C := C11 } : Ps) with last := (newO ⟨C1, P.last, P.ons⟩ b).last + 1 } := ⟨_, rfl⟩
  have h12' : PIn w0 (Gro (Gro R9 w10 w11) w11 w12) rl11 w12 sp c d mo mm ca oa9 Lo Lm9 Q := by rw [hQ]; exact h12
  have hQo : Q.ons = (newO ⟨C1, P.last, P.ons⟩ b).ons := by rw [hQ]
  have hQl : Q.last = P.last + 1 := by rw [hQ]; show (newO ⟨C1, P.last, P.ons⟩ b).last + 1 = _; rw [eL]
  have hQC : Q.C = C11 := by rw [hQ]
  have hop : Q.opn = P.opn := by
    have := opn_newO (V := ⟨C1, P.last, P.ons⟩) (b := b)
    have e : Q.opn = (newO ⟨C1, P.last, P.ons⟩ b).opn := by unfold Ps.opn Ps.all; rw [hQo]
    rw [e, this]; rfl
  have h12d := h12'.nos m12d
  clear h12 h12' hQ
  have hll2 := h12d.llast
  rw [hQl] at hll2
  refine ⟨_, a12.load (i := 0) (by kernel_rfl) rfl, _, rfl, _, hll2, ?_⟩
  generalize Go.Den.drew w12 = w12d at *
  have hrd12 := hrow hrd hdo M12
  have ha3 : a3 ≠ none := fun e => by
    rcases hrd with hr | ⟨_, _, e2, _⟩
    · have := congrArg List.length hr
      rw [length_u8L] at this
      have e0 : ([] : List Value).length = 0 := rfl
      omega
    · rw [e] at e2; cases e2
  refine CloneB_c hrd12 hd (fun e => absurd e ha3) (by omega) fun w13 a13 c13 o13 m13 => ?_
  have h13 := h12d.nos m13
  have hll3 := h13.llast
  rw [hQl] at hll3
  have a13' := a12.keep m13 id
  obtain ⟨gd, rfl, hgd, hgat⟩ := o13.sm (by omega)
  have hgdl := hgat.lt
  refine ⟨_, _, _, rfl, a13'.load (i := 0) (by kernel_rfl) rfl, hll3, _, fun w => build_ch w _ _ _ _ _ _, _, _, box_ch _ _, ?_⟩
  have m14 : Mod No w13 (w13.alloc (.cells ⟨[.int .i64 ((P.last + 1 : Nat) : Int), .int .i64 b, .int .i64 f, .slice (some ⟨gd, 0, none⟩) l3 c13, .slice none 0 0, .bool false]⟩ 130)) := (Mod.refl No w13).alloc _
  have q14 : AtU (w13.alloc (.cells ⟨[.int .i64 ((P.last + 1 : Nat) : Int), .int .i64 b, .int .i64 f, .slice (some ⟨gd, 0, none⟩) l3 c13, .slice none 0 0, .bool false]⟩ 130)) w13.heap.size 0 [.int .i64 ((P.last + 1 : Nat) : Int), .int .i64 b, .int .i64 f, .slice (some ⟨gd, 0, none⟩) l3 c13, .slice none 0 0, .bool false] := AtU.new
  have s14 : (w13.alloc (.cells ⟨[.int .i64 ((P.last + 1 : Nat) : Int), .int .i64 b, .int .i64 f, .slice (some ⟨gd, 0, none⟩) l3 c13, .slice none 0 0, .bool false]⟩ 130)).heap.size = w13.heap.size + 1 := by simp
  generalize w13.alloc (.cells ⟨[.int .i64 ((P.last + 1 : Nat) : Int), .int .i64 b, .int .i64 f, .slice (some ⟨gd, 0, none⟩) l3 c13, .slice none 0 0, .bool false]⟩ 130) = w14 at *
  have hz13 := m13.size
  refine ⟨fun x w15 => ∃ (i k ac : Nat) (aa : Option Addr), i ≤ l4 ∧ x = [.int .i64 i] ∧ k = ((after.take i).filter P.opn).length ∧ AtU w15 w13.heap.size 0 [.int .i64 ((P.last + 1 : Nat) : Int), .int .i64 b, .int .i64 f, .slice (some ⟨gd, 0, none⟩) l3 c13, .slice aa k ac, .bool false] ∧
      Own Try.prog w15 w14.heap.size 64 1 aa k ac (iL ((after.take i).filter P.opn)) ∧ Mod No w13 w15 ∧ w14.heap.size ≤ w15.heap.size,
    fun x _ => (l4 - nI x 0).toNat, ⟨0, 0, 0, none, by omega, rfl, rfl, q14, Own.nil elemZ_64, m14, Nat.le_refl _⟩, ?_⟩
  rintro x w15 ⟨i, k, ac, aa, hi, rfl, hkl, q15, o15, m15, sz15⟩
  have hfl : ((after.take i).filter P.opn).length ≤ i := by
    have := List.length_filter_le P.opn (after.take i)
    simp at this; omega
  refine ⟨_, rfl, cond_of (fun hb => ?_) (fun hb => ?_)⟩
  · have hi : i < l4 := by have := of_decide_eq_true hb; omega
    have hix : i < after.length := by omega
    have hra15 := hrow hra hao ((M12.no m13).no m15)
    obtain ⟨b4, o4, rfl, hat4⟩ := row_some hra15 hix
    refine ⟨_, index_slice (k := 1) (by kernel_rfl) (by omega) (by omega), ?_⟩
    rw [add_none, show (i : Int).toNat * 1 = i by omega]
    refine ⟨_, hat4.load (by kernel_rfl) (iL_get hix), _, (a13'.keep m15 id).load (i := 0) (by kernel_rfl) rfl, _, rfl, _, (h13.nos m15).lo', ?_⟩
    obtain ⟨p, hp, hpn, _⟩ := (h13.nos m15).lookO after[i]
    rw [hop] at hpn
    have hsplit := filter_take (l := after) (f := P.opn) hix
    refine ⟨p, hp, Share.cut (fun _ w19 => ∃ (k ac : Nat) (aa : Option Addr), k = ((after.take (i + 1)).filter P.opn).length ∧ AtU w19 w13.heap.size 0 [.int .i64 ((P.last + 1 : Nat) : Int), .int .i64 b, .int .i64 f, .slice (some ⟨gd, 0, none⟩) l3 c13, .slice aa k ac, .bool false] ∧
      Own Try.prog w19 w14.heap.size 64 1 aa k ac (iL ((after.take (i + 1)).filter P.opn)) ∧ Mod No w13 w19 ∧ w14.heap.size ≤ w19.heap.size) (cond_of (fun hb => ?_) (fun hb => ?_)) ?_⟩
    · have hopn : P.opn after[i] = true := by
        have : p.isNone = false := by simpa using hb
        rw [hpn] at this; simpa using this
      rw [if_pos hopn] at hsplit
      have mA : Mod No w15 (w15.alloc (.cells ⟨[.int .i64 after[i]]⟩ 2)) := (Mod.refl No w15).alloc _
      have aA : At (w15.alloc (.cells ⟨[.int .i64 after[i]]⟩ 2)) w15.heap.size 0 [.int .i64 after[i]] := AtU.new.at
      have sA : (w15.alloc (.cells ⟨[.int .i64 after[i]]⟩ 2)).heap.size = w15.heap.size + 1 := by simp
      refine ⟨_, rfl, aa, k, ac, ?_, _, _, _, _, builtI64 _ _, ?_⟩
      · rw [add_none]; exact q15.at.load (by kernel_rfl) rfl
      generalize w15.alloc (.cells ⟨[.int .i64 after[i]]⟩ 2) = w16 at *
      obtain ⟨q', c', w17, t1, t2, t3, t4⟩ := (o15.nos mA).app (ty := 64) (m := 1) (c2 := 1) (ad := ⟨w15.heap.size, 0, none⟩) (ys := [.int .i64 after[i]]) elemZ_64 (by omega) (.inr ⟨_, _, rfl, aA⟩) rfl (by omega) (by simp; rfl) (by omega) (by omega) (by omega)
      have t3' : Mod (Of aa) w16 w17 := t3
      have hnq : ¬ Of aa w13.heap.size := fun ⟨q, hq, e⟩ => by have := (o15.base hq).1; omega
      have q17 := (q15.keep mA id).keep t3' hnq
      obtain ⟨w18, u1, u2, u3, u4⟩ := q17.store (P := Try.prog) (T := 64) (i := 4) (v := .slice (some q') (k + 1) c') (by kernel_rfl) (by simp) rfl
      refine ⟨_, _, _, w17, t1, _, rfl, w18, by rw [add_none]; exact u1, k + 1, c', some q', ?_, ?_, ?_, ?_, ?_⟩
      · rw [hsplit, List.length_append, ← hkl]; rfl
      · simpa using u2
      · have e : iL ((after.take i).filter P.opn) ++ [.int .i64 after[i]] = iL ((after.take (i + 1)).filter P.opn) := by rw [hsplit]; simp [iL, I]
        rw [← e]
        refine t2.keep u3 fun q hq e => ?_
        have := (t2.base hq).1
        have e : q.block = w13.heap.size := e
        omega
      · refine ((m15.no mA).trans t3' fun z hz ⟨q, hq, e⟩ => ?_).trans u3 fun z hz e => ?_
        · have := (o15.base hq).1
          omega
        · have e : z = w13.heap.size := e
          omega
      · have := t3'.size
        have := u3.size
        omega
    · have hopn : P.opn after[i] = false := by
        have : p.isNone = true := by simpa using hb
        rw [hpn] at this; simpa using this
      rw [if_neg (by rw [hopn]; simp), List.append_nil] at hsplit
      rw [hsplit]
      exact ⟨k, ac, aa, hkl, q15, o15, m15, sz15⟩
    · rintro z w19 ⟨k, ac, aa, e1, e2, e3, e4, e5⟩
      rw [wrap64 (x := (i : Int) + 1) (by omega) (by omega)]
      exact ⟨⟨i + 1, k, ac, aa, by omega, rfl, e1, e2, e3, e4, e5⟩, by simp [nI, nth]; omega⟩
  · have hil : i = after.length := by have := of_decide_eq_false hb; omega
    subst hil
    rw [List.take_length] at hkl o15
    have md : Mod No w15 (Go.Den.drew w15) := (Mod.refl No w15).drew
    have szd : (Go.Den.drew w15).heap.size = w15.heap.size := rfl
    have m15d := m15.no md
    have q15d := q15.keep md id
    have o15d := o15.nos md
    generalize Go.Den.drew w15 = w15d at *
    have h15 := h13.nos m15d
    refine ⟨_, (a13'.keep m15d id).load (i := 0) (by kernel_rfl) rfl, _, rfl, _, h15.lo', _, rfl, _, by rw [add_none]; exact q15d.at.load (by kernel_rfl) rfl, ?_⟩
    obtain ⟨w20, u1, u2, u3, u4⟩ := update_run (P := Try.prog) (T := 118) (k := ((P.last + 1 : Nat) : Int)) (v := .pointer (some ⟨w13.heap.size, 0, none⟩)) mapOpen h15.mapO
    obtain ⟨o, ho, hob⟩ := newO_on (V := ⟨C1, P.last, P.ons⟩) (b := b)
    rw [← hQo] at ho
    obtain ⟨k1, k2, g9, cc9, la, lc, c1, c2, c3, c4, c5⟩ := h15.ons o ho
    rw [hob] at k1 k2 c1 c5
    have hrmo : rl11 mo = 3 := h15.rmo
    have hnmo : ∀ {z}, rl11 z ≠ 3 → z ≠ mo := fun hz e => hz (by rw [e]; exact hrmo)
    have hout : ∀ {z}, w12d.heap.size ≤ z → rl11 z = 0 := fun hz => h12d.out_of hz
    have d1 := c1.keep u3 (hnmo (by rw [k2]; omega))
    refine ⟨w20, u1, _, rfl, _, rfl, la, _, lc, by rw [add_none]; exact d1.at.load (by kernel_rfl) rfl, _, _, _, _, builtCh _ _, ?_⟩
    have m21 : Mod No w20 (w20.alloc (.cells ⟨[.pointer (some ⟨w13.heap.size, 0, none⟩)]⟩ 128)) := (Mod.refl No w20).alloc _
    have a21 : At (w20.alloc (.cells ⟨[.pointer (some ⟨w13.heap.size, 0, none⟩)]⟩ 128)) w20.heap.size 0 [.pointer (some ⟨w13.heap.size, 0, none⟩)] := AtU.new.at
    have s21 : (w20.alloc (.cells ⟨[.pointer (some ⟨w13.heap.size, 0, none⟩)]⟩ 128)).heap.size = w20.heap.size + 1 := by simp
    generalize w20.alloc (.cells ⟨[.pointer (some ⟨w13.heap.size, 0, none⟩)]⟩ 128) = w21 at *
    have hlaS : ∀ {z}, rl11 z ≠ 9 + 3 * b → ¬ Of la z := fun hz ⟨q, hq, e⟩ => hz (by rw [e]; exact c5 q hq)
    have hlen2 := h15.wf.llen o ho
    have hlast2 := h15.wf.last
    have hw023 := h15.mod.size
    obtain ⟨q', c', w22, t1, t2, t3, t4⟩ := ((c4.keep u3 fun q hq => hnmo (by rw [c5 q hq]; omega)).nos m21).app (ty := 125) (m := 1) (c2 := 1) (ad := ⟨w20.heap.size, 0, none⟩) (ys := [.pointer (some ⟨w13.heap.size, 0, none⟩)]) elemZ_chs (by omega) (.inr ⟨_, _, rfl, a21⟩) rfl (by omega) (by simp; rfl) (by omega) (by omega) (by omega)
    have t3' : Mod (Of la) w21 w22 := t3
    have d2 := (d1.keep m21 id).keep t3' (hlaS (by rw [k2]; omega))
    obtain ⟨w23, v1, v2, v3, v4⟩ := d2.store (P := Try.prog) (T := 125) (i := 1) (v := .slice (some q') (o.l.length + 1) c') (by kernel_rfl) (by simp) rfl
    have hrq : rl11 w13.heap.size = 0 := hout (by omega)
    have hnoa : ∀ {z}, rl11 z ≠ 8 + 3 * b → z ≠ oa9 b := fun hz e => hz (by rw [e]; exact k2)
    have q23 := (((q15d.keep u3 (hnmo (by omega))).keep m21 id).keep t3' (hlaS (by omega))).keep v3 (hnoa (by omega))
    refine ⟨_, _, _, w22, t1, _, rfl, w23, by rw [add_none]; exact v1, _, rfl, _, by rw [add_none]; exact q23.at.load (by kernel_rfl) rfl, ?_⟩
    -- what it is now
    have hx : newX P b f data after = ⟨P.last + 1, b, f, data, after.filter P.opn, false⟩ := rfl
    have hfl2 : (after.filter P.opn).length ≤ after.length := List.length_filter_le _ _
    have hng : ∀ k ∈ after, 1 ≤ k ∧ k ≤ (P.last : Int) := fun k hk' => by
      have := List.any_eq_false.1 (by simpa [badA] using hbad : (after.any fun k => !decide (1 ≤ k ∧ k ≤ (P.last : Int))) = false) k hk'
      simpa using this
    have hF1 : Fit (⟨C1, P.last, P.ons⟩ : Ps) (newX P b f data after) := ⟨rfl, hblt1, ⟨hd1, hfit⟩, by show (after.filter P.opn).length ≤ _; omega, fun k hk' => by
      have := hng k (List.mem_filter.1 hk').1
      show k < ((P.last + 1 : Nat) : Int)
      omega, rfl⟩
    have hsN := hs1.newO hblt1 hcl
    have eD11' : C11.D = C1.D := by rw [eD11]; exact eD9
    have eM11' : C11.most = C1.most := by rw [eM11]; exact eM9
    have eN := newO_C (V := ⟨C1, P.last, P.ons⟩) (b := b)
    have hsQ : WFS (⟨C11, (newO ⟨C1, P.last, P.ons⟩ b).last, (newO ⟨C1, P.last, P.ons⟩ b).ons⟩ : Ps) := WFS.cache hsN (by rw [eD11', eN.1]) (by rw [eM11', eN.1])
    have eQ : appO Q (newX P b f data after) = appO (⟨C11, (newO ⟨C1, P.last, P.ons⟩ b).last, (newO ⟨C1, P.last, P.ons⟩ b).ons⟩ : Ps) (newX P b f data after) := by
      unfold appO; rw [hQo, hQC]
    have hwfA : WFS (appO Q (newX P b f data after)) := by
      rw [eQ]
      exact hsQ.app (by rw [← hQo]; exact ho) hob ⟨by show P.last + 1 = _; rw [eL], by show b < C11.D.vs.length; rw [eD11']; exact hblt1, hF1.dat, hF1.aft, hF1.afl, rfl⟩ hlast
    have hM23 : Mod (fun z => z = mo ∨ z = oa9 b ∨ rl11 z = 9 + 3 * b) w12d w23 := by
      have k0 : Mod No w12d w15d := m13.no m15d
      refine (((k0.anys.trans u3 fun z _ e => .inl e).no m21).trans t3' fun z _ e => ?_).trans v3 fun z _ e => .inr (.inl e)
      obtain ⟨q, hq, e⟩ := e
      exact .inr (.inr (by rw [e]; exact c5 q hq))
    have hz15 := m15d.size
    have hz20 := u3.size
    have hz22 := t3'.size
    have hz23 := v3.size
    have haaO : ∀ e, aa = some e → w14.heap.size ≤ e.block ∧ e.block < w15d.heap.size := fun e he => o15d.base he
    obtain ⟨rl', ca', hfin⟩ := h12d.appX (S := fun z => z = mo ∨ z = oa9 b ∨ rl11 z = 9 + 3 * b) (x := newX P b f data after) (o := o) (q := w13.heap.size) (gd := gd) (cd := c13) (g := g9) (cc := cc9) (aa := aa) (la' := some q') (ac := ac) (lc' := c') ho hob hQl
      (fun z hz => by
        have : z ∈ P.all := by
          have e : Q.all = (newO ⟨C1, P.last, P.ons⟩ b).all := by unfold Ps.all; rw [hQo]
          rw [e, all_newO] at hz
          exact hz
        have := h.wf.idr z this
        show z.id ≠ P.last + 1
        omega) hwfA hM23 (fun z e => e) (by
          refine ((u2.keep m21 id).keep t3' (hlaS (by rw [hrmo]; omega))).keep v3 (hnoa (by rw [hrmo]; omega))) ⟨by omega, by omega⟩ ⟨hgd, by omega⟩
      (fun e he => by have := haaO e he; exact ⟨by omega, by omega, by omega, by omega⟩) (by omega) (fun e he => by
        cases he
        have hlt := (t2.base (q := q') rfl).2
        rcases t4 with ⟨q2, hq2, e2⟩ | e2
        · left; rw [e2]; exact c5 q2 hq2
        · right
          refine ⟨by omega, by omega, by omega, by omega, fun e he => ?_⟩
          have := haaO e he
          omega)
      (by
        show AtU w23 w13.heap.size 0 [.int .i64 ((P.last + 1 : Nat) : Int), .int .i64 b, .int .i64 f, .slice (some ⟨gd, 0, none⟩) data.length c13, .slice aa (after.filter P.opn).length ac, .bool false]
        rw [hd, ← hkl]; exact q23)
      ((((((hgat.keep m15d id).keep u3 (hnmo (by rw [hout hgd]; omega))).keep m21 id).keep t3' (hlaS (by rw [hout hgd]; omega))).keep v3 (hnoa (by rw [hout hgd]; omega))).at)
      (by
        show Row w23 aa (iL (after.filter P.opn))
        have r0 := o15d.rowU.row
        have hr : ∀ e, aa = some e → rl11 e.block = 0 := fun e he => hout (by have := haaO e he; omega)
        exact (((r0.keep u3 fun e he => hnmo (by rw [hr e he]; omega)).nos m21).keep t3' fun e he => hlaS (by rw [hr e he]; omega)).keep v3 fun e he => hnoa (by rw [hr e he]; omega))
      (by show AtU w23 (oa9 b) 0 _; simpa using v2) c3 ((((c2.keep u3 (hnmo (by rw [c3]; omega))).keep m21 id).keep t3' (hlaS (by rw [c3]; omega))).keep v3 (hnoa (by rw [c3]; omega)))
      (by
        refine (t2.keep v3 fun e he => ?_)
        cases he
        rcases t4 with ⟨q2, hq2, e2⟩ | e2
        · exact hnoa (by rw [e2, c5 q2 hq2]; omega)
        · exact hnoa (by rw [hout (by omega)]; omega))
    have hS : patS P b f data after = addX P (newX P b f data after) := by unfold patS; rw [if_pos hE]; simp
    have hN : patN P b f data after = ((P.last + 1 : Nat) : Int) := by unfold patN; rw [if_pos hE]
    have hoE : (addX (⟨C1, P.last, P.ons⟩ : Ps) (newX P b f data after)).ons = (addX P (newX P b f data after)).ons := by
      show (newO ⟨C1, P.last, P.ons⟩ b).ons.map _ = (newO P b).ons.map _
      rw [newO_ons A.D]
    have hadd := hw1.add (x := newX P b f data after) (C3 := C11) hs1 hF1 hcl hlast eD11' (fun z hz => (ht11 z hz).trans (ht9 z hz)) (by
      have := h15.cx.wf.1
      rw [hQC] at this
      exact this.nodup) ⟨y11, hy11, hy11b, by rw [hy11p, hy9p], hy11d⟩
    have := hk w23 C11 ?_ ?_ (by rw [eD11']; exact A.D) (by rw [eM11']; exact A.most)
    · rw [hN, hE] at this; exact this
    · refine M12.trans hM23 fun z hz e => ?_
      have hnz : rl11 z ≠ 0 := by
        rcases e with e | e | e
        · rw [e, hrmo]; omega
        · rw [e, k2]; omega
        · omega
      rcases h12d.reg z hnz with e2 | e2
      · rcases hG11 z e2 with e3 | e3
        · exact e3
        · omega
      · omega
    · rw [hS]
      refine ⟨?_, rl', c, mo, mm, ca', oa9, putL ((newX P b f data after).id : Int) (pV w13.heap.size) Lo, Lm9, ?_⟩
      · have : (⟨C11, (addX P (newX P b f data after)).last, (addX P (newX P b f data after)).ons⟩ : Ps) = { addX (⟨C1, P.last, P.ons⟩ : Ps) (newX P b f data after) with C := C11 } := by
          rw [← hoE]; rfl
        rw [this]; exact hadd
      · have : (⟨C11, (addX P (newX P b f data after)).last, (addX P (newX P b f data after)).ons⟩ : Ps) = appO Q (newX P b f data after) := by
          rw [← hoE, eQ]; rfl
        rw [this]
        refine hfin.widen (fun z hz => ?_) fun z hz => ?_
        · rcases hz with (hz | hz) | hz
          · rcases hG11 z hz with e | e
            · exact .inl e
            · exact .inr (by omega)
          · exact .inr (by omega)
          · exact .inr (by omega)
        · rcases hz with hz | hz
          · have := hlo z hz; omega
          · omega
end
end Go.Proofs.Ytgcecmfjpljpcaa
