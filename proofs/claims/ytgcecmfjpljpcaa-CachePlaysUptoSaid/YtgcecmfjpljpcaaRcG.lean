/- Layer 10, the document's cache: its other calls. -/
import Derived.Test.YtgcecmfjpljpcaaRcD
open Go Go.Den Go.Proofs
namespace Go.Proofs.Ytgcecmfjpljpcaa
section
variable {w0 w w' : World} {R : Nat → Prop} {rl : Nat → Nat} {rc r vb vc lc : Nat} {la : Option Addr} {hs : List (Nat × Nat)} {C : Ca} {K : Value → World → Prop}
theorem Kr.back {w1 : World} (h : Kx w0 R w rc r C) (m1 : Mod No w w1) {C' : Ca} (k : Kr w0 R w1 rc r w' C') : Kr w0 R w rc r w' C' := by
  obtain ⟨rl5, vb5, vc5, lc5, la5, hs5, h5, m5⟩ := k
  have hz1 := m1.size
  have hz5 := m5.size
  have hw := h.wf
  have hw0 := hw.2.2.1.size
  refine ⟨rl5, vb5, vc5, lc5, la5, hs5, h5.widen (fun x hx => ?_) (fun x hx => ?_), m1.anys.trans m5 fun _ _ e => e⟩
  · rcases hx with hx | hx
    · exact .inl hx
    · exact .inr (by omega)
  · rcases hx with hx | hx
    · have := hw.2.2.2 x hx; omega
    · omega
theorem Kr.then {w1 w2 : World} {C' C2 : Ca} (k : Kr w0 R w rc r w1 C') (k2 : Kr w0 (Gro R w w1) w1 rc r w2 C2) : Kr w0 R w rc r w2 C2 := by
  obtain ⟨rl5, vb5, vc5, lc5, la5, hs5, h5, m5⟩ := k2
  exact Kr.of k.mod h5 m5
/-- A write to the document's disk. -/
theorem rdw_c {n : Int} {a2 : Option Addr} {l2 c2 : Nat} {ys : Bk} (hC : Kx w0 R w rc r C) (hb9 : ∀ v ∈ C.D.vs, v.length ≤ 999999) (hl : ys.length = l2) (hr : Row w a2 (u8L ys)) (hd : ys ≠ [] → ∀ q, a2 = some q → ¬ R q.block)
    (hk : ∀ w', Kr w0 R w rc r w' { C with D := wrSt C.D n ys } → K (.int .i64 (wrE C.D n ys)) w') : Cal Try.prog F_leveeref02_Disk_Write #[.pointer (some ⟨r, 0, none⟩), .int .i64 n, .slice a2 l2 c2] w K := by
  obtain ⟨rl, vb, vc, lc, la, hs, h⟩ := hC
  refine refWrite_c h.disk hb9 hl hr (fun hne q hq e => hd hne q hq (h.reg _ (by omega))) fun w1 hs1 m1 h1 => ?_
  obtain ⟨rl', h'⟩ := h.dsk m1 (fun _ e => e) h1 (Small_wr hb9 _ _) (len_wr _ _ _)
  exact hk w1 ⟨rl', vb, vc, lc, la, hs1, h', m1.mono fun z _ e => h.reg z (by have e4 : rl z = 4 := e; omega)⟩
theorem rdf_c (hC : Kx w0 R w rc r C) (hk : ∀ w', Kr w0 R w rc r w' { C with D := flSt C.D } → K (.int .i64 0) w') : Cal Try.prog F_leveeref02_Disk_Flush #[.pointer (some ⟨r, 0, none⟩)] w K := by
  obtain ⟨rl, vb, vc, lc, la, hs, h⟩ := hC
  refine refFlush_c h.disk h.wf.small fun w1 hs1 m1 h1 => ?_
  have hsm : Small (flSt C.D) := by
    unfold flSt; split
    · exact h.wf.small
    · intro v hv; simp at hv; obtain ⟨u, _, rfl⟩ := hv; simp
  obtain ⟨rl', h'⟩ := h.dsk m1 (fun _ e => e) h1 hsm (by unfold flSt; split <;> simp)
  exact hk w1 ⟨rl', vb, vc, lc, la, hs1, h', m1.mono fun z _ e => h.reg z (by have e4 : rl z = 4 := e; omega)⟩
theorem Kx.ld (hC : Kx w0 R w rc r C) : Ru (Instr.loadAt 49 (.pointer (some (Addr.add ⟨rc, 0, none⟩ 0)))) w (.pointer (some ⟨r, 0, none⟩)) w := by
  obtain ⟨rl, vb, vc, lc, la, hs, h⟩ := hC
  exact h.ld
theorem rWrite_c {n : Int} {a2 : Option Addr} {l2 c2 : Nat} {ys : Bk} (hC : Kx w0 R w rc r C) (hb9 : ∀ v ∈ C.D.vs, v.length ≤ 999999) (hl : ys.length = l2) (hr : Row w a2 (u8L ys)) (hd : ys ≠ [] → ∀ q, a2 = some q → ¬ R q.block) (hd2 : ys ≠ [] → ∀ q, a2 = some q → q.block < w.heap.size)
    (hk : ∀ w', Kr w0 R w rc r w' (wrX C n ys).1 → K (.int .i64 (wrX C n ys).2) w') : Cal Try.prog F_leveeref10_Cache_Write #[.pointer (some ⟨rc, 0, none⟩), .int .i64 n, .slice a2 l2 c2] w K := by
  have hX := hC
  obtain ⟨rl, vb, vc, lc, la, hs, h⟩ := hC
  apply C_leveeref10_Cache_Write
  unfold D_leveeref10_Cache_Write
  refine ⟨_, rfl, _, h.ld, refRead_c h.disk h.wf.small fun w1 a1 c1 m1 f1 => ⟨_, _, _, _, rfl, ?_⟩⟩
  by_cases he : errOf C.D n = 0
  · rw [he]
    refine ff rfl (Share.cut (fun z w2 => w2 = w1 ∧ z = [.bool (decide (ys.length ≠ 0 ∧ ys.length ≠ 256))]) (cond_of (fun hb => ⟨rfl, ?_⟩) (fun hb => ⟨rfl, ?_⟩)) ?_)
    · have : ¬ (l2 : Int) = 256 := by simpa using hb
      have e : ((l2 : Int) != 0) = decide (ys.length ≠ 0 ∧ ys.length ≠ 256) := by rw [Bool.eq_iff_iff, bne_iff_ne, decide_eq_true_eq]; omega
      rw [e]
    · have : (l2 : Int) = 256 := by simpa using hb
      have e : decide (ys.length ≠ 0 ∧ ys.length ≠ 256) = false := decide_eq_false (by omega)
      rw [e]
    rintro z w2 ⟨rfl, rfl⟩
    refine ⟨_, rfl, cond_of (fun hb => ?_) (fun hb => ?_)⟩
    · have hbad := of_decide_eq_true hb
      have hr0 : wrX C n ys = (C, 4) := by unfold wrX; rw [if_neg (by omega), if_pos hbad]
      rw [hr0] at hk
      exact hk w2 (h.kr.nos m1)
    · have hgood := of_decide_eq_false hb
      refine rask_c (h.nos m1) (fun he' => absurd he he') (fun b C' hn hb ha w3 k3 => ⟨_, rfl, ff rfl ?_⟩) fun b hn hb ha w3 k3 => ⟨_, rfl, tt rfl ?_⟩
      · subst hn
        have hr0 : wrX C b ys = ({ C' with D := wrSt C'.D b (if ys.length = 0 then lastD C'.l else ys) }, wrE C'.D b (if ys.length = 0 then lastD C'.l else ys)) := by
          unfold wrX; rw [if_neg (by omega), if_neg hgood, Int.toNat_natCast, ha]
        rw [hr0] at hk
        obtain ⟨l0, y, A⟩ := ask_facts h.wf h.disk.wf hb ha
        have hld : lastD C'.l = y.data := by unfold lastD; rw [A.l]; simp
        have hlen : C'.l.length = l0.length + 1 := by rw [A.l]; simp
        have hy : C'.l[l0.length]? = some y := by rw [A.l]; simp
        have hb9' : ∀ v ∈ C'.D.vs, v.length ≤ 999999 := by rw [A.D]; exact hb9
        have hz1 := m1.size
        refine cond_of (fun hb => ?_) (fun hb => ?_)
        · have hl0 : ys.length = 0 := by have : (l2 : Int) = 0 := by simpa using hb
                                         omega
          rw [if_pos hl0] at hk
          have k4 := k3.nos (Mod.refl No w3).drew
          have x4 := k4.x
          obtain ⟨rl', vb', vc', lc', la', hs', h', m'⟩ := k4
          have hl1 := A.wf.len
          have hl2 := A.wf.most1
          obtain ⟨g, rfl, hat⟩ := h'.row1 (by omega)
          obtain ⟨cc, w5, c1, c2, c3, c4⟩ := bytes_run (P := Try.prog) (w := Go.Den.drew w3) (S := 9) (T := 32) (xs := y.data) (by kernel_rfl)
          refine ⟨_, rfl, _, h'.ld, _, rfl, _, _, _, rlrow h'.cell, _, rfl, _, _, _, rlrow h'.cell, ⟨g, l0.length * 3, none⟩, ?_⟩
          rw [wrap64 (x := (C'.l.length : Int) - 1) (by omega) (by omega), show (C'.l.length : Int) - 1 = ((l0.length : Nat) : Int) by omega]
          refine ⟨idx_buf (by omega), _, lcellB hat.at hy (by kernel_rfl) (j := 1) rfl, _, _, _, w5, c1, (h'.nos c3).ld, ?_⟩
          have k5 : Kr w0 R w2 rc r w5 C' := Kr.nos ⟨rl', vb', vc', lc', _, hs', h', m'⟩ c3
          refine rdw_c (x4.nos c3) hb9' rfl (.inr ⟨_, _, rfl, c2.at⟩) (fun _ q hq hR => ?_) fun w6 k6 => ⟨_, rfl, ?_⟩
          · have := Option.some.inj hq
            subst this
            have := (x4.wf.2.2.2 _ hR).2
            simp at this
          · have : Kr w0 R w2 rc r w6 { C' with D := wrSt C'.D b y.data } := by
              obtain ⟨rl7, vb7, vc7, lc7, la7, hs7, h7, m7⟩ := k6
              have hzm := m'.size
              have hz5 := c3.size
              have hz7 := m7.size
              have hw0 := h.mod.size
              refine ⟨rl7, vb7, vc7, lc7, la7, hs7, h7.widen (fun x hx => ?_) (fun x hx => ?_), (k5.mod).trans m7 fun x hx e => ?_⟩
              · rcases hx with (hx | hx) | hx
                · exact .inl hx
                · exact .inr (by omega)
                · exact .inr (by omega)
              · rcases hx with hx | hx
                · have := h.lo x hx; omega
                · omega
              · rcases e with e | e
                · exact e
                · omega
            rw [hld] at hk
            exact hk w6 (Kr.back hX m1 this)
        · have hl0 : ¬ ys.length = 0 := fun e => by
            have : ((l2 : Int) == 0) = true := by simp; omega
            rw [this] at hb; cases hb
          have hyne : ys ≠ [] := fun e => hl0 (by rw [e]; rfl)
          rw [if_neg hl0] at hk
          have hx3 := k3.x
          refine ⟨_, rfl, _, hx3.ld, rdw_c hx3 hb9' hl (Row.region (hr.nos m1) k3.mod fun _ => hd hyne) (fun _ q hq hR => ?_) fun w6 k6 => ⟨_, rfl, hk w6 (Kr.back hX m1 (k3.then k6))⟩⟩
          rcases hR with hR | hR
          · exact hd hyne q hq hR
          · have := hd2 hyne q hq; omega
      · subst hn
        have hr0 : wrX C b ys = (C, 5) := by unfold wrX; rw [if_neg (by omega), if_neg hgood, Int.toNat_natCast, ha]
        rw [hr0] at hk
        exact hk w3 (Kr.back hX m1 k3)
  · have hr0 : wrX C n ys = (C, errOf C.D n) := by unfold wrX; rw [if_pos he]
    rw [hr0] at hk
    exact tt (by simpa using he) (hk w1 (h.kr.nos m1))
theorem rPin_c {n : Int} (hC : Kx w0 R w rc r C) (hp : ∀ x ∈ C.l, x.pins ≤ 999999) (hk : ∀ w', Kr w0 R w rc r w' (pinX C n).1 → K (.int .i64 (pinX C n).2) w') : Cal Try.prog F_leveeref10_Cache_Pin #[.pointer (some ⟨rc, 0, none⟩), .int .i64 n] w K := by
  obtain ⟨rl, vb, vc, lc, la, hs, h⟩ := hC
  apply C_leveeref10_Cache_Pin
  unfold D_leveeref10_Cache_Pin
  unfold pinX at hk
  refine rfind_c h ⟨_, rfl, ?_⟩
  rcases find_held h.wf n with ⟨e, hh⟩ | ⟨j, x, e, hx, hh⟩
  · rw [e]; rw [hh] at hk
    exact tt rfl (hk w h.kr)
  · rw [e]; rw [hh] at hk
    have hj := (List.getElem?_eq_some_iff.1 hx).1
    have hxm := List.mem_of_getElem? hx
    have hpx := hp x hxm
    obtain ⟨g, hla, w1, t1, t2⟩ := h.fld (j := 2) (y := { x with pins := x.pins + 1 }) (v := .int .i64 ((x.pins + 1 : Nat) : Int)) (T := 3) hx (by kernel_rfl) (by omega) rfl rfl rfl
      (h.wf.turn (h.wf.lt x hxm) (h.wf.data x hxm) (by show x.pins + 1 ≤ 1000000; omega))
    subst hla
    obtain ⟨g', hg', hat⟩ := h.row1 (by omega)
    have : g = g' := by simpa using hg'
    subst this
    refine ff (decide_eq_false (by omega)) ⟨_, rfl, _, _, _, rlrow h.cell, _, idx_buf hj, _, lcellB hat.at hx (by kernel_rfl) (j := 2) rfl, _, idx_buf hj, w1, ?_, hk w1 t2⟩
    rw [wrap64 (x := (x.pins : Int) + 1) (by omega) (by omega)]
    exact t1
theorem rUnpin_c {n : Int} (hC : Kx w0 R w rc r C) (hk : ∀ w', Kr w0 R w rc r w' (unpinX C n).1 → K (.int .i64 (unpinX C n).2) w') : Cal Try.prog F_leveeref10_Cache_Unpin #[.pointer (some ⟨rc, 0, none⟩), .int .i64 n] w K := by
  obtain ⟨rl, vb, vc, lc, la, hs, h⟩ := hC
  apply C_leveeref10_Cache_Unpin
  unfold D_leveeref10_Cache_Unpin
  unfold unpinX at hk
  refine rfind_c h ⟨_, rfl, ?_⟩
  rcases find_held h.wf n with ⟨e, hh⟩ | ⟨j, x, e, hx, hh⟩
  · rw [e]; rw [hh] at hk
    exact tt rfl (hk w h.kr)
  · rw [e]; rw [hh] at hk
    have hj := (List.getElem?_eq_some_iff.1 hx).1
    have hxm := List.mem_of_getElem? hx
    have hpx := h.wf.pins x hxm
    have hk' := hk
    obtain ⟨g', hla, hat⟩ := h.row1 (by omega)
    subst hla
    refine ff (decide_eq_false (by omega)) ⟨_, rfl, _, _, _, rlrow h.cell, _, idx_buf hj, _, lcellB hat.at hx (by kernel_rfl) (j := 2) rfl, cond_of (fun hb => ?_) (fun hb => ?_)⟩
    · have h0 : x.pins = 0 := by simpa using hb
      simp only [h0, if_pos] at hk
      exact hk w h.kr
    · have h0 : ¬ x.pins = 0 := by simpa using hb
      simp only [h0, if_neg, not_false_eq_true] at hk
      obtain ⟨g, hla, w1, t1, t2⟩ := h.fld (j := 2) (y := { x with pins := x.pins - 1 }) (v := .int .i64 ((x.pins - 1 : Nat) : Int)) (T := 3) hx (by kernel_rfl) (by omega) rfl rfl rfl
        (h.wf.turn (h.wf.lt x hxm) (h.wf.data x hxm) (by show x.pins - 1 ≤ 1000000; omega))
      have : g' = g := by simpa using hla
      subst this
      refine ⟨_, rfl, _, _, _, rlrow h.cell, _, idx_buf hj, _, lcellB hat.at hx (by kernel_rfl) (j := 2) rfl, _, idx_buf hj, w1, ?_, hk w1 t2⟩
      rw [wrap64 (x := (x.pins : Int) - 1) (by omega) (by omega), show (x.pins : Int) - 1 = ((x.pins - 1 : Nat) : Int) by omega]
      exact t1
theorem rDrop_c {n : Int} (hC : Kx w0 R w rc r C) (hk : ∀ w', Kr w0 R w rc r w' (dropX C n).1 → K (.int .i64 (dropX C n).2) w') : Cal Try.prog F_leveeref10_Cache_Drop #[.pointer (some ⟨rc, 0, none⟩), .int .i64 n] w K := by
  obtain ⟨rl, vb, vc, lc, la, hs, h⟩ := hC
  apply C_leveeref10_Cache_Drop
  unfold D_leveeref10_Cache_Drop
  unfold dropX at hk
  refine rfind_c h ⟨_, rfl, ?_⟩
  rcases find_held h.wf n with ⟨e, hh⟩ | ⟨j, x, e, hx, hh⟩
  · rw [e]; rw [hh] at hk
    exact tt rfl (hk w h.kr)
  · rw [e]; rw [hh] at hk
    have hj := (List.getElem?_eq_some_iff.1 hx).1
    obtain ⟨_, hn⟩ := heldC_some hh
    subst hn
    obtain ⟨g', hla, hat⟩ := h.row1 (by omega)
    subst hla
    refine ff (decide_eq_false (by omega)) ⟨_, rfl, _, _, _, rlrow h.cell, _, idx_buf hj, _, lcellB hat.at hx (by kernel_rfl) (j := 2) rfl, cond_of (fun hb => ?_) (fun hb => ?_)⟩
    · have h0 : x.pins > 0 := by simpa using hb
      simp only [h0, if_pos] at hk
      exact hk w h.kr
    · have h0 : ¬ x.pins > 0 := by simpa using hb
      simp only [h0, if_neg, not_false_eq_true, Int.toNat_natCast] at hk
      exact rtake_c h fun w1 rl' lc' la' h1 m1 => ⟨_, _, rfl, hk w1 ⟨rl', vb, vc, lc', la', hs, h1, m1⟩⟩
theorem rHeld_c (hC : Kx w0 R w rc r C) (hk : ∀ w' a cc, Mod No w w' → Row w' a (iL (nums C.l)) → K (.slice a C.l.length cc) w') : Cal Try.prog F_leveeref10_Cache_Held #[.pointer (some ⟨rc, 0, none⟩)] w K := by
  obtain ⟨rl, vb, vc, lc, la, hs, h⟩ := hC
  apply C_leveeref10_Cache_Held
  unfold D_leveeref10_Cache_Held
  have hl1 := h.wf.len
  have hl2 := h.wf.most1
  refine ⟨fun x w1 => ∃ (i : Nat) (a : Option Addr) (c : Nat), i ≤ C.l.length ∧ x = [.slice a i c, .int .i64 i] ∧ Own Try.prog w1 w.heap.size 31 1 a i c (iL (nums (C.l.take i))) ∧ Mod No w w1, fun x _ => (C.l.length - nI x 1).toNat,
    ⟨0, none, 0, by omega, rfl, Own.nil elemZ_ints, Mod.refl _ _⟩, ?_⟩
  rintro x w1 ⟨i, a, c, hi, rfl, o1, M1⟩
  have h1 := h.nos M1
  refine ⟨_, rfl, _, rfl, _, _, _, rlrow h1.cell, cond_of (fun hb => ?_) (fun hb => ?_)⟩
  · have hi : i < C.l.length := by have := of_decide_eq_true hb; omega
    obtain ⟨g, rfl, hat⟩ := h1.row1 (by omega)
    have hx : C.l[i]? = some C.l[i] := List.getElem?_eq_getElem hi
    obtain ⟨a2, c2, w2, t1, t2, t3⟩ := o1.snoc (ty := 31) (t := 3) (ys := [.int .i64 (C.l[i].b : Int)]) elemZ_ints (by omega) rfl (by simp; rfl) (by omega) (by omega) M1.size
    refine ⟨_, _, _, rfl, _, rfl, _, _, _, rlrow h1.cell, _, idx_buf hi, _, lcellB hat.at hx (by kernel_rfl) (j := 0) rfl, _, _, _, _, builtI _ _, _, _, _, w2, t1, ?_⟩
    rw [wrap64 (x := (i : Int) + 1) (by omega) (by omega)]
    refine ⟨⟨i + 1, a2, c2, by omega, rfl, ?_, M1.up t3 (Nat.le_refl _)⟩, by simp [nI, nth]; omega⟩
    have e : iL (nums (C.l.take (i + 1))) = iL (nums (C.l.take i)) ++ [.int .i64 (C.l[i].b : Int)] := by
      rw [List.take_succ_eq_append_getElem hi]; unfold nums iL; rw [List.map_append, List.map_append]; rfl
    rw [e]; exact t2
  · have hil : i = C.l.length := by have := of_decide_eq_false hb; omega
    subst hil
    rw [List.take_length] at o1
    exact ⟨_, _, _, rfl, hk w1 a c M1 o1.rowU.row⟩
def dirtyB (C : Ca) (b : Nat) : Bool := match findB C.l b with | some x => !clean C.D x | none => false
def drtN (C : Ca) (n : Nat) : List Nat := (List.range n).filter (dirtyB C)
theorem drt_range (h : WFC C) : drt C = (drtN C C.D.vs.length).map fun b : Nat => (b : Int) := by
  have hn1 : ((drtN C C.D.vs.length).map fun b : Nat => (b : Int)).Nodup := by
    unfold drtN
    rw [List.Nodup, List.pairwise_map]
    refine List.Pairwise.imp ?_ ((List.pairwise_lt_range (n := C.D.vs.length)).filter _)
    intro a b h; omega
  have hnn : (nums C.l).Nodup := by
    have hh := h.nodup
    unfold nums
    rw [List.Nodup, List.pairwise_map] at hh ⊢
    refine List.Pairwise.imp ?_ hh
    intro a b hne; omega
  have hn2 : ((nums C.l).filter fun k => !cl1 C k).Nodup := List.Pairwise.filter _ hnn
  rw [drt_eq]
  have hp : ((nums C.l).filter fun k => !cl1 C k).Perm ((drtN C C.D.vs.length).map fun b : Nat => (b : Int)) := by
    refine (List.perm_ext_iff_of_nodup hn2 hn1).2 fun k => ?_
    rw [List.mem_filter, List.mem_map]
    unfold drtN
    constructor
    · rintro ⟨h1, h2⟩
      unfold nums at h1
      obtain ⟨x, hx, rfl⟩ := List.mem_map.1 h1
      refine ⟨x.b, List.mem_filter.2 ⟨List.mem_range.2 (h.lt x hx), ?_⟩, rfl⟩
      unfold dirtyB cl1 at *
      rw [Int.toNat_natCast, findB_mem h.nodup hx] at h2
      rw [findB_mem h.nodup hx]; exact h2
    · rintro ⟨b, hb, rfl⟩
      obtain ⟨_, h2⟩ := List.mem_filter.1 hb
      unfold dirtyB at h2
      cases hf : findB C.l b with
      | none => rw [hf] at h2; cases h2
      | some x =>
        rw [hf] at h2
        obtain ⟨hx, e⟩ := findB_some hf
        refine ⟨List.mem_map.2 ⟨x, hx, by rw [e]⟩, ?_⟩
        unfold cl1
        rw [Int.toNat_natCast, hf]; exact h2
  unfold sorted
  refine List.Perm.eq_of_pairwise (le := fun a b : Int => a ≤ b) (fun a b _ _ h1 h2 => by omega) ?_ ?_ ((List.mergeSort_perm _ _).trans hp)
  · have := List.pairwise_mergeSort (le := fun x y : Int => decide (x ≤ y)) (fun a b c h1 h2 => by simp only [decide_eq_true_eq] at *; omega) (fun a b => by simp only [Bool.or_eq_true, decide_eq_true_eq]; omega) ((nums C.l).filter fun k => !cl1 C k)
    refine List.Pairwise.imp ?_ this
    intro a b h; exact of_decide_eq_true h
  · unfold drtN
    rw [List.pairwise_map]
    refine List.Pairwise.imp ?_ ((List.pairwise_lt_range (n := C.D.vs.length)).filter _)
    intro a b h; omega
theorem rDirty_c (hC : Kx w0 R w rc r C) (hk : ∀ w' a cc, Mod No w w' → Row w' a (iL (drt C)) → K (.slice a (drt C).length cc) w') : Cal Try.prog F_leveeref10_Cache_Dirty #[.pointer (some ⟨rc, 0, none⟩)] w K := by
  obtain ⟨rl, vb, vc, lc, la, hs, h⟩ := hC
  apply C_leveeref10_Cache_Dirty
  unfold D_leveeref10_Cache_Dirty
  have hhi := h.disk.wf.hi
  have hlen : ∀ i, (drtN C i).length ≤ i := fun i => by unfold drtN; exact Nat.le_trans (List.length_filter_le _ _) (by simp)
  refine ⟨fun x w1 => ∃ (i : Nat) (a : Option Addr) (c : Nat) (y : Value), i ≤ C.D.vs.length ∧ x = [.slice a (drtN C i).length c, .int .i64 i, y] ∧ Own Try.prog w1 w.heap.size 31 1 a (drtN C i).length c (iL ((drtN C i).map fun b : Nat => (b : Int))) ∧ Mod No w w1, fun x _ => (C.D.vs.length - nI x 1).toNat,
    ⟨0, none, 0, _, by omega, rfl, Own.nil elemZ_ints, Mod.refl _ _⟩, ?_⟩
  rintro x w1 ⟨i, a, c, y, hi, rfl, o1, M1⟩
  have h1 := h.nos M1
  refine ⟨_, rfl, _, rfl, _, h1.ld, _, rfl, _, _, _, rv h1.disk, cond_of (fun hb => ?_) (fun hb => ?_)⟩
  · have hi : i < C.D.vs.length := by have := of_decide_eq_true hb; omega
    have hsucc : drtN C (i + 1) = drtN C i ++ (if dirtyB C i = true then [i] else []) := by
      unfold drtN
      rw [List.range_succ, List.filter_append]
      congr 1
      by_cases hd : dirtyB C i = true
      · rw [if_pos hd]; simp [hd]
      · rw [if_neg hd]; simp [hd]
    refine rfind_c h1 ⟨_, rfl, ?_⟩
    refine Share.cut (fun z w4 => Mod No w1 w4 ∧ z = [.bool (dirtyB C i)]) ?_ ?_
    · rcases find_held h.wf (i : Int) with ⟨e, hh⟩ | ⟨j, x, e, hx, hh⟩
      · rw [e]
        refine ff rfl ⟨Mod.refl _ _, ?_⟩
        rw [heldC_nat] at hh
        unfold dirtyB; rw [hh]
      · rw [e]
        rw [heldC_nat] at hh
        have hj := (List.getElem?_eq_some_iff.1 hx).1
        obtain ⟨g, rfl, hat⟩ := h1.row1 (by omega)
        refine tt (decide_eq_true (by omega)) ⟨_, rfl, _, _, _, rlrow h1.cell, _, idx_buf hj, _, lbuf hat.at hx, rdirty_c h1 (List.mem_of_getElem? hx) fun w3 m3 => ⟨_, rfl, m3, ?_⟩⟩
        unfold dirtyB; rw [hh]
    · rintro z w4 ⟨m4, rfl⟩
      refine ⟨_, rfl, Share.cut (fun z w7 => ∃ (a : Option Addr) (c : Nat), z = [.slice a (drtN C (i + 1)).length c] ∧ Own Try.prog w7 w.heap.size 31 1 a (drtN C (i + 1)).length c (iL ((drtN C (i + 1)).map fun b : Nat => (b : Int))) ∧ Mod No w w7) (cond_of (fun hd => ?_) (fun hd => ?_)) ?_⟩
      · have hli := hlen i
        obtain ⟨a2, c2, w2, t1, t2, t3⟩ := (o1.nos m4).snoc (ty := 31) (t := 3) (ys := [.int .i64 (i : Int)]) elemZ_ints (by omega) rfl (by simp; rfl) (by omega) (by omega) (by have := M1.size; have := m4.size; omega)
        have hl1 : (drtN C i ++ [i]).length = (drtN C i).length + 1 := by simp
        rw [hsucc, if_pos hd, hl1]
        refine ⟨_, _, _, rfl, _, _, _, _, builtI _ _, _, _, _, w2, t1, a2, c2, rfl, ?_, (M1.no m4).up t3 (Nat.le_refl _)⟩
        have e : iL ((drtN C i ++ [i]).map fun b : Nat => (b : Int)) = iL ((drtN C i).map fun b : Nat => (b : Int)) ++ [.int .i64 (i : Int)] := by simp [iL, I]
        rw [e]; exact t2
      · rw [hsucc, if_neg (by rw [hd]; simp), List.append_nil]
        exact ⟨a, c, rfl, o1.nos m4, M1.no m4⟩
      · rintro z w7 ⟨a', c', rfl, o7, M7⟩
        rw [wrap64 (x := (i : Int) + 1) (by omega) (by omega)]
        exact ⟨⟨i + 1, a', c', _, by omega, rfl, o7, M7⟩, by simp [nI, nth]; omega⟩
  · have hil : i = C.D.vs.length := by have := of_decide_eq_false hb; omega
    subst hil
    have hd := drt_range h.wf
    have hl : (drt C).length = (drtN C C.D.vs.length).length := by rw [hd, List.length_map]
    rw [← hd, ← hl] at o1
    refine ⟨_, _, _, rfl, ?_⟩
    rw [← hl]
    exact hk w1 a c M1 o1.rowU.row
end
end Go.Proofs.Ytgcecmfjpljpcaa

/- Layer 10: both caches, apart and alike; a call done to both. -/
open Go Go.Den Go.Proofs
namespace Go.Proofs.Ytgcecmfjpljpcaa
/-- What calls may not go beyond: versions, pins. -/
structure Okm (C : Ca) (m : Nat) : Prop where
  ver : Bnd C.D (m + 1)
  pins : ∀ x ∈ C.l, x.pins ≤ m
theorem Okm.next {C : Ca} {m : Nat} (h : Okm C m) : Okm C (m + 1) := ⟨h.ver.mono (by omega), fun x hx => by have := h.pins x hx; omega⟩
theorem Okm.ask {C C' : Ca} {m b : Nat} {l0 : List Bf} {y : Bf} (h : Okm C m) (A : Asked C C' b l0 y) : Okm C' m :=
  ⟨by rw [A.D]; exact h.ver, fun x hx => by
    rcases A.from_ x hx with hx | ⟨rfl, _⟩
    · exact h.pins x hx
    · exact Nat.zero_le _⟩
theorem Okm.turn {C : Ca} {m : Nat} {y : Bf} (h : Okm C m) (hy : y.pins ≤ m) : Okm { C with l := turn C.l y } m := ⟨h.ver, fun x hx => by
  rcases mem_turn hx with rfl | ⟨hx, _⟩
  · exact hy
  · exact h.pins x hx⟩
theorem pinsOf_le {l : List Bf} {m : Nat} (h : ∀ x ∈ l, x.pins ≤ m) (n : Nat) : pinsOf l n ≤ m := by
  unfold pinsOf
  cases hf : findB l n with
  | none => exact Nat.zero_le _
  | some x => exact h x (findB_some hf).1
section
variable {C : Ca} {m : Nat}
theorem Okm.rd (h : Okm C m) (hw : WFC C) (hD : WF C.D) (n : Int) : Okm (rdX C n).1 m := by
  unfold rdX
  split
  · exact h
  · rename_i he
    obtain ⟨b, rfl, hb⟩ := err_range (by simpa using he)
    rw [Int.toNat_natCast]
    cases ha : askC C b with
    | none => exact h
    | some C' =>
      obtain ⟨l0, y, A⟩ := ask_facts hw hD hb ha
      exact h.ask A
theorem Okm.lay (h : Okm C m) (hw : WFC C) (hD : WF C.D) (n : Int) (ys : Bk) : Okm (layX C n ys).1 m := by
  unfold layX
  split
  · exact h
  · rename_i he
    split
    · exact h
    · obtain ⟨b, rfl, hb⟩ := err_range (by simpa using he)
      rw [Int.toNat_natCast]
      cases ha : askC C b with
      | none => exact h
      | some C' =>
        obtain ⟨l0, y, A⟩ := ask_facts hw hD hb ha
        exact (h.ask A).turn (pinsOf_le (h.ask A).pins b)
theorem Okm.wr (h : Okm C m) (hw : WFC C) (hD : WF C.D) (n : Int) (ys : Bk) : Okm (wrX C n ys).1 (m + 1) := by
  unfold wrX
  split
  · exact h.next
  · rename_i he
    split
    · exact h.next
    · obtain ⟨b, rfl, hb⟩ := err_range (by simpa using he)
      rw [Int.toNat_natCast]
      cases ha : askC C b with
      | none => exact h.next
      | some C' =>
        obtain ⟨l0, y, A⟩ := ask_facts hw hD hb ha
        have h' := h.ask A
        exact ⟨Bnd_wr h'.ver _ _, fun x hx => by have := h'.pins x hx; omega⟩
theorem Okm.pin (h : Okm C m) (n : Int) : Okm (pinX C n).1 (m + 1) := by
  unfold pinX
  cases hh : heldC C n with
  | none => exact h.next
  | some x =>
    have := h.pins x (heldC_some hh).1
    exact h.next.turn (by show x.pins + 1 ≤ m + 1; omega)
theorem Okm.unpin (h : Okm C m) (n : Int) : Okm (unpinX C n).1 m := by
  unfold unpinX
  cases hh : heldC C n with
  | none => exact h
  | some x =>
    have := h.pins x (heldC_some hh).1
    show Okm (if x.pins = 0 then (C, (6 : Int)) else ({ C with l := Go.Proofs.Ytgcecmfjpljpcaa.turn C.l { x with pins := x.pins - 1 } }, 0)).1 m
    split
    · exact h
    · exact h.turn (by show x.pins - 1 ≤ m; omega)
theorem Okm.drop (h : Okm C m) (n : Int) : Okm (dropX C n).1 m := by
  unfold dropX
  cases hh : heldC C n with
  | none => exact h
  | some x =>
    show Okm (if x.pins > 0 then (C, (32 : Int)) else ({ C with l := others C.l n.toNat }, 0)).1 m
    split
    · exact h
    · exact ⟨h.ver, fun x hx => h.pins x (mem_others.1 hx).1⟩
theorem Okm.fl (h : Okm C m) : Okm { C with D := flSt C.D } m := ⟨by
  show Bnd (flSt C.D) (m + 1)
  unfold flSt; split
  · exact h.ver
  · intro v hv; simp at hv; obtain ⟨u, _, rfl⟩ := hv; simp, h.pins⟩
end
section
variable {w0 w w' : World} {R R2 : Nat → Prop} {c d rc r : Nat} {C : Ca} {K : Value → World → Prop}
/-- Both caches, apart; and what lies outside both. -/
structure Two (w0 : World) (R R2 : Nat → Prop) (w : World) (c d rc r : Nat) (C : Ca) : Prop where
  p : Cx w0 R w c d C
  q : Kx w0 R2 w rc r C
  dis : ∀ x, R x → ¬ R2 x
theorem Two.nos (h : Two w0 R R2 w c d rc r C) (k : Mod No w w') : Two w0 R R2 w' c d rc r C := ⟨h.p.nos k, h.q.nos k, h.dis⟩
theorem Two.keep {S : Nat → Prop} (h : Two w0 R R2 w c d rc r C) (k : Mod S w w') (h1 : ∀ x, R x → ¬ S x) (h2 : ∀ x, R2 x → ¬ S x) (hw : ∀ x, x < w0.heap.size → ¬ S x) : Two w0 R R2 w' c d rc r C := ⟨h.p.keep k h1 hw, h.q.keep k h2 hw, h.dis⟩
/-- The document's cache while the program's is at work. -/
theorem Two.mid {w1 w2 : World} (h : Two w0 R R2 w c d rc r C) (m1 : Mod R w w1) (m2 : Mod No w1 w2) : Kx w0 R2 w2 rc r C :=
  (h.q.keep m1 (fun x hx e => h.dis x e hx) fun x hx e => by have := (h.p.wf.2.2.2 x e).1; omega).nos m2
theorem Two.step {w1 w2 w3 : World} {C' : Ca} (h : Two w0 R R2 w c d rc r C) (m1 : Mod R w w1) (m2 : Mod No w1 w2) (x2 : Cx w0 (Gro R w w1) w2 c d C') (k3 : Kr w0 R2 w2 rc r w3 C') : Two w0 (Gro R w w1) (Gro R2 w2 w3) w3 c d rc r C' := by
  have hz1 := m1.size
  have hz2 := m2.size
  have hq := h.q.wf.2.2.2
  have hp := h.p.wf.2.2.2
  have hm0 := h.p.wf.2.2.1.size
  have hdis : ∀ x, Gro R w w1 x → ¬ R2 x := fun x hx e => by
    rcases hx with hx | hx
    · exact h.dis x hx e
    · have := hq x e; omega
  refine ⟨x2.keep k3.mod hdis fun x hx e => by have := hq x e; omega, k3.x, fun x hx e => ?_⟩
  rcases e with e | e
  · exact hdis x hx e
  · rcases hx with hx | hx
    · have := hp x hx; omega
    · omega
theorem Two.wf (h : Two w0 R R2 w c d rc r C) : WFC C ∧ WF C.D ∧ Mod No w0 w := ⟨h.p.wf.1, h.p.wf.2.1, h.p.wf.2.2.1⟩
theorem Spoil_o {base l cc : Nat} {a : Option Addr} {xs : List UInt8} (h : Own Try.prog w base 32 1 a l cc (u8L xs)) (h63 : l ≤ 1048576) (hk : ∀ w', Mod (Of a) w w' → K (.tuple #[]) w') : Cal Try.prog F_leveeref01_Spoil #[.slice a l cc] w K := by
  have hlen : xs.length = l := by have := h.len; simpa using this
  by_cases h0 : l = 0
  · subst h0
    apply C_leveeref01_Spoil
    unfold D_leveeref01_Spoil
    refine ⟨fun x w' => x = [.int .i64 0] ∧ w' = w, fun _ _ => 0, ⟨rfl, rfl⟩, ?_⟩
    rintro x w' ⟨rfl, rfl⟩
    exact ⟨_, rfl, ff rfl (hk w' (Mod.refl _ _))⟩
  · obtain ⟨g, rfl, _, hat⟩ := h.sm (by omega)
    exact Spoil_c hat (by omega) h63 fun w' m => hk w' (m.mono fun x _ e => ⟨_, rfl, e⟩)
/-- What stands behind a call done to both. -/
def DoJ (w0 : World) (g l cap : Nat) (a7 : Option Addr) (ys : List UInt8) (c d rc r m : Nat) (w : World) : Prop :=
  ∃ R R2 C, Two w0 R R2 w c d rc r C ∧ Okm C (m + 1) ∧ ¬ R g ∧ ¬ R2 g ∧ w0.heap.size ≤ g ∧ LentAt w g l cap ys ∧ Row w a7 (u8L ys)
theorem DoJ.of {w1 w2 w3 : World} {g l cap m : Nat} {a7 : Option Addr} {ys : List UInt8} {C' : Ca} (h : Two w0 R R2 w c d rc r C) (hg : ¬ R g) (hg2 : ¬ R2 g) (hg0 : w0.heap.size ≤ g) (hlent : LentAt w g l cap ys) (hrow : Row w a7 (u8L ys)) (ha : ys ≠ [] → ∀ q, a7 = some q → ¬ R q.block ∧ ¬ R2 q.block)
    (m1 : Mod R w w1) (m2 : Mod No w1 w2) (x2 : Cx w0 (Gro R w w1) w2 c d C') (k3 : Kr w0 R2 w2 rc r w3 C') (hok : Okm C' (m + 1)) : DoJ w0 g l cap a7 ys c d rc r m w3 := by
  have hgl := hlent.2.2.lt
  have hz1 := m1.size
  have hz2 := m2.size
  refine ⟨_, _, C', h.step m1 m2 x2 k3, hok, ?_, ?_, hg0, ((hlent.keep m1 hg).keep m2 id).keep k3.mod hg2, ?_⟩
  · rintro (e | e)
    · exact hg e
    · omega
  · rintro (e | e)
    · exact hg2 e
    · omega
  · have hne : ∀ {S : Nat → Prop}, u8L ys ≠ [] → ys ≠ [] := fun h e => h (by rw [e]; rfl)
    exact Row.region ((Row.region hrow m1 fun h1 q hq => (ha (hne (S := No) h1) q hq).1).nos m2) k3.mod fun h1 q hq => (ha (hne (S := No) h1) q hq).2
set_option maxRecDepth 100000 in
theorem do10_c {A : A3} {cs : List Value} {m : Nat} (h : Two w0 R R2 w c d rc r C) (hok : Okm C m) (hm : m ≤ 1000) (hfit : A.fit w0 cs) (hb : A.xs.length ≤ 1048576)
    (hk : ∀ w' R' R2' C', Two w0 R' R2' w' c d rc r C' → Okm C' (m + 1) → K (.bool true) w') : Cal Try.prog F_leveelaw10_do #[.pointer (some ⟨c, 0, none⟩), .pointer (some ⟨rc, 0, none⟩), .agg ⟨cs⟩] w K := by
  obtain ⟨ad, cd, rfl, had, hn0, h63⟩ := hfit
  have hM := h.wf.2.2
  have hwR := h.p.wf.2.2.2
  have hwR2 := h.q.wf.2.2.2
  apply C_leveelaw10_do
  unfold D_leveelaw10_do
  have m1 : Mod No w (w.alloc (.cells ⟨[.int .i64 A.k, .int .i64 A.n, .slice ad A.xs.length cd]⟩ 34)) := (Mod.refl No w).alloc _
  have hA : At (w.alloc (.cells ⟨[.int .i64 A.k, .int .i64 A.n, .slice ad A.xs.length cd]⟩ 34)) w.heap.size 0 [.int .i64 A.k, .int .i64 A.n, .slice ad A.xs.length cd] := AtU.new.at
  refine ⟨_, _, (show Ru (Instr.box 34 (.agg ⟨[.int .i64 A.k, .int .i64 A.n, .slice ad A.xs.length cd]⟩)) w _ (w.alloc (.cells ⟨[.int .i64 A.k, .int .i64 A.n, .slice ad A.xs.length cd]⟩ 34)) from rfl), ?_⟩
  have hs1 : (w.alloc (.cells ⟨[.int .i64 A.k, .int .i64 A.n, .slice ad A.xs.length cd]⟩ 34)).heap.size = w.heap.size + 1 := by simp
  generalize w.alloc (.cells ⟨[.int .i64 A.k, .int .i64 A.n, .slice ad A.xs.length cd]⟩ 34) = w1 at *
  have ldA : ∀ {w2 : World}, At w2 w.heap.size 0 [.int .i64 A.k, .int .i64 A.n, .slice ad A.xs.length cd] → ∀ (j : Nat) (v : Value) (T : TypeId), scal Try.prog T = true → ([.int .i64 A.k, .int .i64 A.n, .slice ad A.xs.length cd] : List Value)[j]? = some v → Ru (Instr.loadAt T (.pointer (some (Addr.add ⟨w.heap.size, 0, none⟩ j)))) w2 v w2 := by
    intro w2 k j v T hT hj
    rw [add_none]; exact k.load hT hj
  refine ⟨_, _, _, ldA hA 2 _ _ (by kernel_rfl) rfl, Fill_c rfl (had.nos (hM.no m1)) h63 fun w2 q16 hq16 m2 at16 => ⟨_, _, _, rfl, ?_⟩⟩
  have hA2 := hA.keep m2 id
  have M2 := m1.no m2
  have had2 := had.nos (hM.no M2)
  refine ⟨_, ldA hA2 0 _ _ (by kernel_rfl) rfl, ?_⟩
  refine Share.cut (fun z w3 => w3 = w2 ∧ ∃ (a7 : Option Addr) (l7 c7 : Nat) (ys : List UInt8), z = [.slice a7 l7 c7] ∧ ys.length = l7 ∧ Row w2 a7 (u8L ys) ∧ (a7 = none → l7 = 0 ∧ c7 = 0) ∧ l7 ≤ 1048576 ∧ (ys ≠ [] → ∀ q, a7 = some q → ¬ R q.block ∧ ¬ R2 q.block ∧ q.block < w2.heap.size))
    (cond_of (fun hb9 => ?_) (fun hb9 => ?_)) ?_
  · refine ⟨_, _, _, ldA hA2 2 _ _ (by kernel_rfl) rfl, rfl, _, _, _, A.xs, rfl, rfl, had2, hn0, hb, fun hne q hq => ?_⟩
    have hune : u8L A.xs ≠ [] := fun e => by have := congrArg List.length e; simp at this; exact hne this
    obtain ⟨b5, o5, e5, hat5⟩ := had.resolve_left hune
    rw [hq] at e5
    have := Option.some.inj e5
    subst this
    have hlt := hat5.lt
    have hz := hM.size
    have hz2 := M2.size
    refine ⟨fun e => ?_, fun e => ?_, by show b5 < _; omega⟩
    · have := hwR _ e; simp only at this; omega
    · have := hwR2 _ e; simp only at this; omega
  · refine ⟨rfl, _, _, _, fillB A.xs, rfl, length_fillB _, .inr ⟨_, _, rfl, at16.at⟩, (fun e => by cases e), by omega, fun _ q hq => ?_⟩
    have := Option.some.inj hq
    subst this
    have hlt := at16.lt
    refine ⟨fun e => ?_, fun e => ?_, hlt⟩
    · have := hwR _ e; simp only at this; omega
    · have := hwR2 _ e; simp only at this; omega
  rintro z w3 ⟨rfl, a7, l7, c7, ys, rfl, hyl, hyr, hy0, hy63, hyd⟩
  refine ⟨_, _, _, rfl, Lent_c hyl hyr hy0 hy63 fun w4 g cap hg m4 hlent => ⟨_, _, _, rfl, ?_⟩⟩
  have hA4 := hA2.keep m4 id
  have M4 := M2.no m4
  have h4 := h.nos M4
  have hz2 := M2.size
  have hz4 := m4.size
  have hm0 := hM.size
  have hgR : ¬ R g := fun e => by have := hwR _ e; omega
  have hgR2 : ¬ R2 g := fun e => by have := hwR2 _ e; omega
  have hyr4 := hyr.nos m4
  have hyd4 : ys ≠ [] → ∀ q, a7 = some q → ¬ R q.block ∧ ¬ R2 q.block := fun hne q hq => ⟨(hyd hne q hq).1, (hyd hne q hq).2.1⟩
  have hwf := h.wf
  have hqA : ¬ R w.heap.size := fun e => by have := (hwR _ e).2; omega
  have hqA2 : ¬ R2 w.heap.size := fun e => by have := (hwR2 _ e).2; omega
  subst hyl
  -- what each call leads to
  have J : ∀ {w5 w6 w7 : World} {C' : Ca}, Mod R w4 w5 → Mod No w5 w6 → Cx w0 (Gro R w4 w5) w6 c d C' → Kr w0 R2 w6 rc r w7 C' → Okm C' (m + 1) → DoJ w0 g ys.length cap a7 ys c d rc r m w7 :=
    fun m5 m6 x6 k7 ho => DoJ.of h4 hgR hgR2 (by omega) hlent hyr4 hyd4 m5 m6 x6 k7 ho
  have hnR : ∀ {a : Addr}, some a = some (⟨g, 0, none⟩ : Addr) → ¬ R a.block := fun e => by have := Option.some.inj e; subst this; exact hgR
  refine ⟨_, ldA hA4 0 _ _ (by kernel_rfl) rfl, ?_⟩
  refine Share.cut (fun z w5 => w5 = w4 ∧ z = [.bool (decide (A.k = 0 ∨ A.k = 1))]) (cond_of (fun hb => ⟨rfl, ?_⟩) (fun hb => ⟨rfl, ?_⟩)) ?_
  · have : A.k = 0 := by simpa using hb
    simp [this]
  · have : ¬ A.k = 0 := by simpa using hb
    simp [this]; rfl
  rintro z w5 ⟨rfl, rfl⟩
  refine ⟨_, rfl, Share.cut (fun z w34 => DoJ w0 g ys.length cap a7 ys c d rc r m w34 ∧ ∃ z1 z2, z = [.bool true, z1, z2]) (cond_of (fun hb => ?_) (fun hb => ?_)) ?_⟩
  · refine ⟨_, ldA hA4 1 _ _ (by kernel_rfl) rfl, cRead_c h4.p fun w6' w6 a6 c6 n6 m6 x6 o6 => ⟨_, _, _, _, rfl, ?_⟩⟩
    have hA6 := (hA4.keep n6 hqA).keep m6 id
    have hmid := h4.mid n6 m6
    refine ⟨_, ldA hA6 1 _ _ (by kernel_rfl) rfl, rRead_c hmid fun w7 a8 c8 k7 r8 => ⟨_, _, _, _, rfl, ?_⟩⟩
    have hj := J n6 m6 x6 k7 (hok.rd hwf.1 hwf.2.1 A.n).next
    have hof : ∀ x, Of a6 x → w6'.heap.size ≤ x ∧ x < w6.heap.size := fun x e => by
      obtain ⟨q, hq, rfl⟩ := e
      exact o6.base hq
    have hz6 := n6.size
    have ofR2 : ∀ x, Of a6 x → ¬ R2 x := fun x e e2 => by have := hof x e; have := (hwR2 _ e2).2; omega
    have o7 := o6.keep k7.mod fun q hq e => ofR2 q.block ⟨q, hq, rfl⟩ e
    refine Share.cut (fun z w8 => w8 = w7 ∧ z = [.bool true]) ⟨_, str_run (by kernel_rfl) o7.rowU.row rfl, _, str_run (by kernel_rfl) r8 rfl, tt (by simp) ⟨rfl, by simp⟩⟩ ?_
    rintro z w8 ⟨rfl, rfl⟩
    have hlen6 : (rdX C A.n).2.2.length ≤ 1048576 := by
      have := o6.cap
      unfold rdX
      split
      · simp
      · rename_i he
        obtain ⟨b, hbb, hb⟩ := err_range (D := C.D) (n := A.n) (by simpa using he)
        rw [hbb, Int.toNat_natCast]
        cases ha : askC C b with
        | none => simp
        | some C' =>
          obtain ⟨x, hx, _, hxd, _, hwf', _⟩ := lastD_ask hwf.1 hwf.2.1 hb ha
          show (lastD C'.l).length ≤ _
          rw [hxd, hwf'.data x hx]; omega
    refine Spoil_o o7 hlen6 fun w9 m9 => ⟨rfl, ?_, _, _, rfl⟩
    have hzk := k7.mod.size
    have hz6' := m6.size
    have h2s := h4.step n6 m6 x6 k7
    have hkx : ∀ x, Of a6 x → ¬ Gro R w5 w6' x ∧ ¬ Gro R2 w6 w8 x ∧ x ≠ g ∧ w5.heap.size ≤ x := fun x e => by
      have h1 := hof x e
      refine ⟨?_, ?_, by have := hlent.2.2.lt; omega, by omega⟩
      · rintro (e2 | e2)
        · have := (hwR _ e2).2; omega
        · omega
      · rintro (e2 | e2)
        · exact ofR2 x e e2
        · omega
    refine ⟨_, _, _, h2s.keep m9 (fun x hx e => (hkx x e).1 hx) (fun x hx e => (hkx x e).2.1 hx) (fun x hx e => by have := (hkx x e).2.2.2; omega), (hok.rd hwf.1 hwf.2.1 A.n).next, ?_, ?_, by omega, ?_, ?_⟩
    · rintro (e | e)
      · exact hgR e
      · have := hlent.2.2.lt; omega
    · rintro (e | e)
      · exact hgR2 e
      · have := hlent.2.2.lt; omega
    · exact (((hlent.keep n6 hgR).keep m6 id).keep k7.mod hgR2).keep m9 fun e => (hkx g e).2.2.1 rfl
    · have hne : u8L ys ≠ [] → ys ≠ [] := fun h e => h (by rw [e]; rfl)
      refine Row.region (Row.region ((Row.region hyr4 n6 fun h1 q hq => (hyd4 (hne h1) q hq).1).nos m6) k7.mod fun h1 q hq => (hyd4 (hne h1) q hq).2) m9 fun h1 q hq e => ?_
      have := (hyd (hne h1) q hq).2.2
      have := (hkx _ e).2.2.2
      omega
  · have hk01 := of_decide_eq_false hb
    refine Share.cut (fun z w11 => w11 = w5 ∧ z = [.bool (decide (A.k = 2 ∨ A.k = 3 ∨ A.k = 10))]) (cond_of (fun hb => ⟨rfl, ?_⟩) (fun hb => ?_)) ?_
    · have : A.k = 2 := by simpa using hb
      simp [this]
    · have h2 : ¬ A.k = 2 := by simpa using hb
      refine Share.dup (cond_of (fun hb => ⟨rfl, ?_⟩) (fun hb => ⟨rfl, ?_⟩))
      · have : A.k = 3 := by simpa using hb
        simp [this, nth]
      · have : ¬ A.k = 3 := by simpa using hb
        simp [this, h2, nth]; rfl
    rintro z w11 ⟨rfl, rfl⟩
    have md : Mod No w11 (Go.Den.drew w11) := (Mod.refl No w11).drew
    have h4d := h4.nos md
    have hA4d := hA4.drew
    have Jd : ∀ {w5 w6 w7 : World} {C' : Ca}, Mod R (Go.Den.drew w11) w5 → Mod No w5 w6 → Cx w0 (Gro R (Go.Den.drew w11) w5) w6 c d C' → Kr w0 R2 w6 rc r w7 C' → Okm C' (m + 1) → DoJ w0 g ys.length cap a7 ys c d rc r m w7 :=
      fun m5 m6 x6 k7 ho => DoJ.of h4d hgR hgR2 (by omega) (hlent.keep md id) (hyr4.nos md) hyd4 m5 m6 x6 k7 ho
    have hlrow := (hlent.keep md id).row
    refine ⟨_, rfl, Share.cut (fun z w33 => DoJ w0 g ys.length cap a7 ys c d rc r m w33 ∧ ∃ z2, z = [.bool true, z2]) (cond_of (fun hb => ?_) (fun hb => ?_)) fun z w33 hz => by obtain ⟨hz, z2, rfl⟩ := hz; exact ⟨hz, _, _, rfl⟩⟩
    · refine ⟨_, ldA hA4d 1 _ _ (by kernel_rfl) rfl, _, ldA hA4d 1 _ _ (by kernel_rfl) rfl, cLay_c h4d.p rfl hlrow (fun _ q hq => hnR hq.symm) fun w12 m12 x12 => ⟨_, rfl, ldA (hA4d.keep m12 hqA) 1 _ _ (by kernel_rfl) rfl, ?_⟩⟩
      have hmid := h4d.mid m12 (Mod.refl _ _)
      have hyr12 := Row.region (hyr4.nos md) m12 fun h1 q hq => (hyd4 (fun e => h1 (by rw [e]; rfl)) q hq).1
      refine rLay_c hmid rfl hyr12 (fun hne q hq => (hyd4 hne q hq).2) fun w13 k13 => ⟨_, rfl, Jd m12 (Mod.refl _ _) x12 k13 (hok.lay hwf.1 hwf.2.1 _ _).next, undef, ?_⟩
      simp
    · refine Share.cut (fun z w32 => DoJ w0 g ys.length cap a7 ys c d rc r m w32 ∧ ∃ z2, z = [.bool true, z2]) (cond_of (fun hb => ?_) (fun hb => ?_)) fun z w32 hz => by obtain ⟨hz, z2, rfl⟩ := hz; exact ⟨hz, _, rfl⟩
      · refine ⟨_, ldA hA4d 1 _ _ (by kernel_rfl) rfl, _, ldA hA4d 1 _ _ (by kernel_rfl) rfl, cWrite_c (ys := []) h4d.p (fun v hv => by have := hok.ver v hv; omega) rfl (.inl rfl) (fun h => absurd rfl h) fun w12 m12 x12 => ⟨_, rfl, ldA (hA4d.keep m12 hqA) 1 _ _ (by kernel_rfl) rfl, ?_⟩⟩
        have hmid := h4d.mid m12 (Mod.refl _ _)
        refine rWrite_c (ys := []) hmid (fun v hv => by have := hok.ver v hv; omega) rfl (.inl rfl) (fun h => absurd rfl h) (fun h => absurd rfl h) fun w13 k13 => ⟨_, rfl, Jd m12 (Mod.refl _ _) x12 k13 (hok.wr hwf.1 hwf.2.1 _ _), undef, ?_⟩
        simp
      · refine Share.cut (fun z w16 => w16 = w11 ∧ z = [.bool (decide (A.k = 5 ∨ A.k = 11))]) (cond_of (fun hb => ⟨rfl, ?_⟩) (fun hb => ⟨rfl, ?_⟩)) ?_
        · have : A.k = 5 := by simpa using hb
          simp [this]
        · have : ¬ A.k = 5 := by simpa using hb
          simp [this]; rfl
        rintro z w16 ⟨rfl, rfl⟩
        refine ⟨_, rfl, Share.cut (fun z w31 => DoJ w0 g ys.length cap a7 ys c d rc r m w31 ∧ z = [.bool true]) (cond_of (fun hb => ?_) (fun hb => ?_)) fun z w31 hz => by obtain ⟨hz, rfl⟩ := hz; exact ⟨hz, _, rfl⟩⟩
        · refine ⟨_, ldA hA4d 1 _ _ (by kernel_rfl) rfl, _, ldA hA4d 1 _ _ (by kernel_rfl) rfl, cWrite_c h4d.p (fun v hv => by have := hok.ver v hv; omega) rfl hlrow (fun _ q hq => hnR hq.symm) fun w12 m12 x12 => ⟨_, rfl, ldA (hA4d.keep m12 hqA) 1 _ _ (by kernel_rfl) rfl, ?_⟩⟩
          have hmid := h4d.mid m12 (Mod.refl _ _)
          have hyr12 := Row.region (hyr4.nos md) m12 fun h1 q hq => (hyd4 (fun e => h1 (by rw [e]; rfl)) q hq).1
          have hz12 := m12.size
          have hzd : (Go.Den.drew w16).heap.size = w16.heap.size := rfl
          refine rWrite_c hmid (fun v hv => by have := hok.ver v hv; omega) rfl hyr12 (fun hne q hq => (hyd4 hne q hq).2) (fun hne q hq => by have := (hyd hne q hq).2.2; omega) fun w13 k13 => ⟨_, rfl, Jd m12 (Mod.refl _ _) x12 k13 (hok.wr hwf.1 hwf.2.1 _ _), ?_⟩
          simp
        · refine Share.cut (fun z w30 => DoJ w0 g ys.length cap a7 ys c d rc r m w30 ∧ z = [.bool true]) (cond_of (fun hb => ?_) (fun hb => ?_)) fun z w30 hz => by obtain ⟨hz, rfl⟩ := hz; exact ⟨hz, rfl⟩
          · refine ⟨_, ldA hA4d 1 _ _ (by kernel_rfl) rfl, _, ldA hA4d 1 _ _ (by kernel_rfl) rfl, cPin_c h4d.p (fun x hx => by have := hok.pins x hx; omega) fun w12 m12 x12 => ⟨_, rfl, ldA (hA4d.keep m12 hqA) 1 _ _ (by kernel_rfl) rfl, ?_⟩⟩
            exact rPin_c (h4d.mid m12 (Mod.refl _ _)) (fun x hx => by have := hok.pins x hx; omega) fun w13 k13 => ⟨_, rfl, Jd m12 (Mod.refl _ _) x12 k13 (hok.pin _), by simp⟩
          refine Share.cut (fun z w30 => DoJ w0 g ys.length cap a7 ys c d rc r m w30 ∧ z = [.bool true]) (cond_of (fun hb => ?_) (fun hb => ?_)) fun z w30 hz => by obtain ⟨hz, rfl⟩ := hz; exact ⟨hz, rfl⟩
          · refine ⟨_, ldA hA4d 1 _ _ (by kernel_rfl) rfl, _, ldA hA4d 1 _ _ (by kernel_rfl) rfl, cUnpin_c h4d.p fun w12 m12 x12 => ⟨_, rfl, ldA (hA4d.keep m12 hqA) 1 _ _ (by kernel_rfl) rfl, ?_⟩⟩
            exact rUnpin_c (h4d.mid m12 (Mod.refl _ _)) fun w13 k13 => ⟨_, rfl, Jd m12 (Mod.refl _ _) x12 k13 (hok.unpin _).next, by simp⟩
          refine Share.cut (fun z w30 => DoJ w0 g ys.length cap a7 ys c d rc r m w30 ∧ z = [.bool true]) (cond_of (fun hb => ?_) (fun hb => ?_)) fun z w30 hz => by obtain ⟨hz, rfl⟩ := hz; exact ⟨hz, rfl⟩
          · refine ⟨_, ldA hA4d 1 _ _ (by kernel_rfl) rfl, _, ldA hA4d 1 _ _ (by kernel_rfl) rfl, cDrop_c h4d.p fun w12 m12 x12 => ⟨_, rfl, ldA (hA4d.keep m12 hqA) 1 _ _ (by kernel_rfl) rfl, ?_⟩⟩
            exact rDrop_c (h4d.mid m12 (Mod.refl _ _)) fun w13 k13 => ⟨_, rfl, Jd m12 (Mod.refl _ _) x12 k13 (hok.drop _).next, by simp⟩
          refine Share.cut (fun z w30 => DoJ w0 g ys.length cap a7 ys c d rc r m w30 ∧ z = [.bool true]) (cond_of (fun hb => ?_) (fun hb => ?_)) fun z w30 hz => by obtain ⟨hz, rfl⟩ := hz; exact ⟨hz, rfl⟩
          · refine ⟨_, rfl, _, h4d.q.ld, cFlush_c h4d.p fun w12 m12 x12 => ⟨_, rfl, ?_⟩⟩
            have hmid := h4d.mid m12 (Mod.refl _ _)
            exact ⟨hmid.ld, rdf_c hmid fun w13 k13 => ⟨_, rfl, Jd m12 (Mod.refl _ _) x12 k13 hok.fl.next, rfl⟩⟩
          · exact ⟨⟨R, R2, C, h4, hok.next, hgR, hgR2, by omega, hlent, hyr4⟩, rfl⟩
  · rintro z w34 ⟨⟨R', R2', C', hT, ho, g1, g2, g3, hl34, hr34⟩, z1, z2, rfl⟩
    refine Share.cut (fun z w36 => Mod No w34 w36 ∧ z = [.bool true]) ⟨_, rfl, tt rfl (Kept_c hl34 rfl hr34 hy63 fun w35 m35 => ⟨_, rfl, m35, rfl⟩)⟩ ?_
    rintro z w36 ⟨m36, rfl⟩
    have hl36 := hl34.keep m36 id
    refine Spoil_c hl36.2.2 (by simp) hy63 fun w37 m37 => ⟨rfl, _, rfl, hk w37 R' R2' C' ?_ ho⟩
    exact (hT.nos m36).keep m37 (fun x hx e => by subst e; exact g1 hx) (fun x hx e => by subst e; exact g2 hx) fun x hx e => by subst e; omega
end
end Go.Proofs.Ytgcecmfjpljpcaa

/- The statement CachePlays: whatever is read, laid and written. -/
open Go Go.Den Go.Proofs
namespace Go.Proofs.Ytgcecmfjpljpcaa
section
variable {w0 w w' : World} {R R2 : Nat → Prop} {c d rc r : Nat} {C : Ca} {K : Value → World → Prop}
theorem same10_c (h : Two w0 R R2 w c d rc r C) (hk : ∀ w', Mod No w w' → K (.bool true) w') : Cal Try.prog F_leveelaw10_same #[.pointer (some ⟨d, 0, none⟩), .pointer (some ⟨r, 0, none⟩)] w K := by
  obtain ⟨rl, m, sb, mb, sc, lc, la, L, mp, hp⟩ := h.p
  obtain ⟨rl2, vb, vc, lc2, la2, hs, hq⟩ := h.q
  have hsm := hp.wf.small
  have hd := hp.disk
  have hr := hq.disk
  have hwf := hd.wf
  apply C_leveelaw10_same
  unfold D_leveelaw10_same
  have md : Mod No w (Go.Den.drew w) := (Mod.refl No w).drew
  refine Share.cut (fun z w6 => Mod No w w6 ∧ z = [.bool false]) ?_ ?_
  · refine Bytes_c' (hd.nos md) hsm fun w1 a1 l1 c1 m1 o1 => ⟨_, _, _, rfl, _, str_run (by kernel_rfl) o1.rowU.row (by have := o1.len; simpa using this), ?_⟩
    have M1 := md.no m1
    refine refBytes_c (hr.nos M1) hsm fun w2 a2 l2 c2 m2 o2 => ⟨_, _, _, rfl, str_run (by kernel_rfl) (o1.nos m2).rowU.row (by have := o1.len; simpa using this), _, str_run (by kernel_rfl) o2.rowU.row (by have := o2.len; simpa using this), ff (by simp) ?_⟩
    have M2 := M1.no m2
    refine Open_c (hd.nos M2) fun w3 a3 l3 c3 m3 o3 => ⟨_, _, _, rfl, ?_⟩
    refine refOpen_c ((hr.nos M2).nos m3) hsm fun w4 a4 l4 c4 m4 o4 => ⟨_, _, _, rfl, ?_⟩
    refine Ints_own (w1 := w) (w2 := w) (o3.nos m4) o4 hwf.hi fun w5 m5 => ⟨_, rfl, (((M2.no m3).no m4).no m5), rfl⟩
  · rintro z w6 ⟨m6, rfl⟩
    refine ⟨_, rfl, ff rfl ?_⟩
    have hhi := hwf.hi
    refine ⟨fun x w7 => ∃ (i : Nat) (y : Value), i ≤ C.D.vs.length ∧ x = [.int .i64 i, y] ∧ Mod No w w7, fun x _ => (C.D.vs.length - nI x 0).toNat, ⟨0, _, by omega, rfl, m6⟩, ?_⟩
    rintro x w7 ⟨i, y, hi, rfl, m7⟩
    refine ⟨_, rfl, _, rfl, _, _, _, rv (hr.nos m7), cond_of (fun hb => ?_) (fun hb => hk w7 m7)⟩
    have hi : i < C.D.vs.length := by have := of_decide_eq_true hb; omega
    refine Safe_c (hd.nos m7) fun w8 a8 c8 m8 f8 => ⟨_, _, _, _, rfl, ?_⟩
    have M8 := m7.no m8
    refine refSafe_c (hr.nos M8) fun w9 a9 c9 m9 f9 => ⟨_, _, _, _, rfl, ?_⟩
    have M9 := M8.no m9
    refine Share.cut (fun z w12 => Mod No w w12 ∧ z = [.bool false]) ⟨_, str_run (by kernel_rfl) (f8.nos m9).row rfl, _, str_run (by kernel_rfl) f9.row rfl, ff (by simp) ?_⟩ ?_
    · refine Writes_c (hd.nos M9) ⟨_, rfl, refWrites_c (hr.nos M9) hsm ⟨_, rfl, M9, by simp⟩⟩
    · rintro z w12 ⟨m12, rfl⟩
      refine ⟨_, rfl, ff rfl ?_⟩
      rw [wrap64 (x := (i : Int) + 1) (by omega) (by omega)]
      exact ⟨⟨i + 1, _, by omega, rfl, m12⟩, by simp [nI, nth]; omega⟩
theorem build_rcache (w : World) (p : Option Addr) (n : Int) : (Instr.build 112 #[(0, .pointer p), (2, .int .i64 n)]).run Try.prog w = .ok (.agg ⟨[.pointer p, .slice none 0 0, .int .i64 n]⟩) w := by kernel_rfl
theorem rNew_c {vb vc : Nat} {hs : List (Nat × Nat)} {D : St} {n : Int} (hd : RefIn w R r vb vc hs D) (hsm : Small D) (hlo : ∀ x, R x → w0.heap.size ≤ x ∧ x < w.heap.size) (hm : Mod No w0 w)
    (hk1 : n < 1 ∨ 4096 < n → K (.tuple #[.pointer none, .int .i64 1]) w)
    (hk2 : ∀ k : Nat, n = k → 1 ≤ k → k ≤ 4096 → ∀ w' rc, Mod No w w' → Kx w0 (Gro R w w') w' rc r ⟨D, k, []⟩ → K (.tuple #[.pointer (some ⟨rc, 0, none⟩), .int .i64 0]) w') : Cal Try.prog F_leveeref10_New #[.pointer (some ⟨r, 0, none⟩), .int .i64 n] w K := by
  classical
  apply C_leveeref10_New
  unfold D_leveeref10_New
  refine Share.or ⟨_, rfl, cond_of (fun hb => ?_) (fun hb => ?_)⟩
  · exact hk1 (by simpa using hb)
  have hn : ¬ (n < 1 ∨ 4096 < n) := by simpa using hb
  obtain ⟨k, rfl⟩ := Int.eq_ofNat_of_zero_le (show 0 ≤ n by omega)
  refine ⟨_, fun w => build_rcache w _ _, _, _, box_run, ?_⟩
  have m1 : Mod No w (w.alloc (.cells ⟨[.pointer (some ⟨r, 0, none⟩), .slice none 0 0, .int .i64 k]⟩ 112)) := (Mod.refl No w).alloc _
  have hs1 : (w.alloc (.cells ⟨[.pointer (some ⟨r, 0, none⟩), .slice none 0 0, .int .i64 k]⟩ 112)).heap.size = w.heap.size + 1 := by simp
  refine hk2 k rfl (by omega) (by omega) (w.alloc (.cells ⟨[.pointer (some ⟨r, 0, none⟩), .slice none 0 0, .int .i64 k]⟩ 112)) _ m1 ?_
  have hw0 := hm.size
  have hR : ∀ x, R x → x ≠ w.heap.size := fun x hx => by have := hlo x hx; omega
  refine ⟨fun x => if x = w.heap.size then 1 else if R x then 4 else 0, vb, vc, 0, none, hs, ?_⟩
  have e4 : (fun x => (if x = w.heap.size then 1 else if R x then 4 else 0) = 4) = R := by
    funext x
    apply propext
    constructor
    · intro e
      split at e
      · omega
      · split at e
        · assumption
        · omega
    · intro hx
      rw [if_neg (hR x hx), if_pos hx]
  exact {
    disk := by rw [e4]; exact hd.nos m1
    cell := AtU.new
    row := Own.nilG elemG_bufs
    rc1 := by simp
    rrow := fun q hq => by cases hq
    wf := { small := hsm, most0 := by show 1 ≤ k; omega, most1 := by show k ≤ 4096; omega, len := Nat.zero_le _, nodup := by simp, lt := fun x hx => (by cases hx), data := fun x hx => (by cases hx), pins := fun x hx => (by cases hx) }
    reg := fun x hx => by
      by_cases hRx : R x
      · exact .inl hRx
      · right
        by_cases e1 : x = w.heap.size
        · omega
        · simp [e1, hRx] at hx
    lo := fun x hx => by
      rcases hx with hx | hx
      · have := hlo x hx; omega
      · omega
    mod := hm.no m1 }
set_option maxRecDepth 100000 in
theorem CachePlays_c {n0 n1 : Int} {a1 : Option Addr} {l1 c1 : Nat} {acts : List A3} (hl : acts.length = l1) (ha : Acts3 w a1 acts) (hx : ∀ x ∈ acts, x.xs.length ≤ 1048576) :
    Cal Try.prog F_leveelaw10_CachePlays #[.int .i64 n0, .int .i64 n1, .slice a1 l1 c1] w (fun v w' => v = .bool true ∧ Mod No w w') := by
  apply C_leveelaw10_CachePlays
  unfold D_leveelaw10_CachePlays
  refine Count_c (n := 8) (by omega) (by omega) ⟨_, rfl, ?_⟩
  obtain ⟨kk, hkk⟩ := Int.eq_ofNat_of_zero_le (Int.emod_nonneg n0 (show (8 : Int) ≠ 0 by omega))
  have hk8 : kk < 8 := by have := Int.emod_lt_of_pos n0 (show (0 : Int) < 8 by omega); omega
  rw [hkk, wrap64 (x := 1 + (kk : Int)) (by omega) (by omega)]
  refine New_c (by omega) (by omega) (fun h => by omega) fun k hk' _ hkhi w1 d sb mb m1 h1 => ⟨_, _, rfl, ?_⟩
  have hks : k = 1 + kk := by omega
  refine refNew_c (by omega) (by omega) (fun h => by omega) fun k2 hk2 _ _ w2 r vb vc hs m2 h2 => ⟨_, _, rfl, ?_⟩
  have : k2 = k := by omega
  subst this
  have hsm : Small (newSt k2) := fun v hv => by
    have := List.eq_of_mem_replicate hv
    subst this; simp
  have hz1 := m1.size
  have hz2 := m2.size
  have M2 := m1.no m2
  have fin : ∀ {w6 : World}, Mod No w w6 → Cal Try.prog F_leveelaw10_known #[] w6 fun r53 w7 => ∃ b53 : Bool, r53 = .bool b53 ∧ (Value.bool b53 = .bool true ∧ Mod No w w7) := fun M => known10_c fun w7 m7 => ⟨_, rfl, rfl, M.no m7⟩
  refine cNew_c (w0 := w) (h1.nos m2) hsm (fun x hx => by omega) M2 (fun hbad => ⟨_, _, rfl, ?_⟩) fun k3 hk3 hk3a hk3b w3 c m3 x3 => ⟨_, _, rfl, ?_⟩
  · refine rNew_c (w0 := w) h2 hsm (fun x hx => by omega) M2 (fun _ => ⟨_, _, rfl, ?_⟩) fun k4 hk4 _ _ => by omega
    exact Share.dup (ff rfl ⟨_, rfl, ff rfl (tt rfl (fin M2))⟩)
  · have hz3 := m3.size
    have M3 := M2.no m3
    refine rNew_c (w0 := w) (h2.nos m3) hsm (fun x hx => by omega) M3 (fun hbad => by omega) fun k4 hk4 _ _ w4 rc m4 x4 => ⟨_, _, rfl, ?_⟩
    have : k4 = k3 := by omega
    subst this
    have hz4 := m4.size
    refine Share.dup (ff rfl ⟨_, rfl, ff rfl (ff rfl ?_)⟩)
    have hT0 : Two w _ _ w4 c d rc r ⟨newSt k2, k4, []⟩ := ⟨x3.nos m4, x4, fun x hx hy => by
      rcases hx with hx | hx <;> rcases hy with hy | hy <;> omega⟩
    have hok0 : Okm ⟨newSt k2, k4, []⟩ 0 := ⟨fun v hv => by
      have := List.eq_of_mem_replicate hv
      subst this; simp, fun x hx => by cases hx⟩
    refine ⟨fun x w8 => ∃ (i : Nat) (y0 y2 y3 : Value), x = [y0, .int .i64 i, y2, y3] ∧ i ≤ 50 ∧ ∃ R R2 C, Two w R R2 w8 c d rc r C ∧ Okm C i, fun x _ => (50 - nI x 1).toNat, ⟨0, _, _, _, rfl, by omega, _, _, _, hT0, hok0⟩, ?_⟩
    rintro x w8 ⟨i, y0, y2, y3, rfl, hi50, R, R2, C, hT, hok⟩
    have hM := hT.wf.2.2
    refine Share.cut (fun z w6 => w6 = w8 ∧ z = [.bool (decide (i < l1 ∧ i < 50))]) ⟨_, rfl, cond_of (fun hb => ⟨rfl, ?_⟩) (fun hb => ⟨rfl, ?_⟩)⟩ ?_
    · have := of_decide_eq_true hb
      congr 2; rw [Bool.eq_iff_iff]; simp only [decide_eq_true_eq]; omega
    · have := of_decide_eq_false hb
      congr 2; rw [Bool.eq_iff_iff]; simp; omega
    rintro z w9 ⟨rfl, rfl⟩
    refine ⟨_, rfl, cond_of (fun hb => ?_) (fun hb => ?_)⟩
    · obtain ⟨hil, hi5⟩ := of_decide_eq_true hb
      have hia : i < acts.length := by omega
      obtain ⟨q, hidx, cs, hfit, hload⟩ := ha.get2 (i := i) (cc := c1) hM hl (List.getElem?_eq_getElem hia)
      refine Share.cut (fun z w17 => z = [.bool false] ∧ ∃ R R2 C, Two w R R2 w17 c d rc r C ∧ Okm C (i + 1)) ⟨_, rfl, q, hidx, ⟨cs⟩, hload, ?_⟩ ?_
      · refine do10_c hT hok (by omega) hfit (hx _ (List.getElem_mem hia)) fun w10 R' R2' C' hT' hok' => ⟨_, rfl, ff rfl ?_⟩
        have hwf := hT'.wf.1
        have hl1' := hwf.len
        have hl2' := hwf.most1
        refine cHeld_c hT'.p fun w11 a11 c11 m11 o11 => ⟨_, _, _, rfl, rHeld_c (hT'.q.nos m11) fun w12 a12 c12 m12 r12 => ⟨_, _, _, rfl, ?_⟩⟩
        refine Ints_c (nums_len _) (o11.nos m12).rowU.row r12 (by omega) fun w13 m13 => ⟨_, rfl, ff rfl ?_⟩
        have M13 := (m11.no m12).no m13
        have hdl : (drt C').length ≤ 4096 := by
          have h1 : (drt C').length ≤ C'.l.length := by
            rw [drt_eq]; unfold sorted
            rw [List.length_mergeSort]
            have := List.length_filter_le (fun k => !cl1 C' k) (nums C'.l)
            rw [nums_len] at this; exact this
          omega
        refine cDirty_c (hT'.p.nos M13) fun w14 a14 c14 m14 o14 => ⟨_, _, _, rfl, rDirty_c ((hT'.q.nos M13).nos m14) fun w15 a15 c15 m15 r15 => ⟨_, _, _, rfl, ?_⟩⟩
        refine Ints_c rfl (o14.nos m15).rowU.row r15 (by omega) fun w16 m16 => ⟨_, rfl, rfl, R', R2', C', ?_, hok'⟩
        exact (((hT'.nos M13).nos m14).nos m15).nos m16
      · rintro z w17 ⟨rfl, R', R2', C', hT', hok'⟩
        refine ⟨_, rfl, ff rfl ⟨_, rfl, ?_⟩⟩
        rw [wrap64 (x := (i : Int) + 1) (by omega) (by omega)]
        exact ⟨⟨i + 1, _, _, _, rfl, by omega, R', R2', C', hT', hok'⟩, by simp [nI, nth]; omega⟩
    · refine Share.dup (same10_c hT fun w18 m18 => ⟨_, rfl, tt rfl ?_⟩)
      exact known10_c fun w19 m19 => ⟨_, rfl, _, rfl, rfl, (hM.no m18).no m19⟩
end
end Go.Proofs.Ytgcecmfjpljpcaa
