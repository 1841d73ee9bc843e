/- The statement CacheReads: the law's text. -/
import Derived.Test.YtgcecmfjpljpcaaCacheO
open Go Go.Den Go.Proofs
namespace Go.Proofs.Ytgcecmfjpljpcaa
def strV (s : Bk) : Value := .string ⟨s.toArray⟩
def strL (l : List Bk) : List Value := l.map strV
section
variable {w0 w w' : World} {R : Nat → Prop} {c d p i q b : Nat} {C : Ca} {K : Value → World → Prop} {acts : List A3} {laid : List Bk}
theorem cBytes_c (hC : Cx w0 R w c d C) (hk : ∀ w' a l cc, Mod No w w' → Own Try.prog w' w.heap.size 32 1 a l cc (u8L (allB C.D)) → K (.slice a l cc) w') : Cal Try.prog F_disk_Disk_Bytes #[.pointer (some ⟨d, 0, none⟩)] w K := by
  obtain ⟨rl, m, sb, mb, sc, lc, la, L, mp, h⟩ := hC
  exact Bytes_c' h.disk h.wf.small hk
theorem elemZ_strs : elemZ Try.prog 44 1 (.string ⟨#[]⟩) 16 := by unfold elemZ; kernel_rfl
theorem strL_get {l : List Bk} {b : Nat} (hb : b < l.length) : (strL l)[b]? = some (.string ⟨(l[b]).toArray⟩) := by simp [strL, strV, hb]
theorem toList_str (s : Bk) : ByteArray.toList ⟨s.toArray⟩ = s := toList_mk s
theorem toList_empty : ByteArray.toList ByteArray.empty = [] := toList_mk []
theorem load_str (h : At w p 0 (strL laid)) (hb : b < laid.length) : Ru (Instr.loadAt 9 (.pointer (some (Addr.add ⟨p, 0, none⟩ b)))) w (.string ⟨(laid[b]).toArray⟩) w := by
  rw [add_none]
  exact h.load (by kernel_rfl) (by rw [strL_get hb])
theorem lay_row {w1 : World} (h5 : AtU w1 p 0 (strL laid)) (hb : b < laid.length) (s : Bk) : ∃ w2, RuU (Instr.storeAt 9 (.pointer (some (Addr.add ⟨p, 0, none⟩ b))) (.string ⟨s.toArray⟩)) w1 w2 ∧ AtU w2 p 0 (strL (laid.set b s)) ∧ Mod (fun z => z = p) w1 w2 := by
  obtain ⟨w2, t1, t2, t3, t4⟩ := h5.store (P := Try.prog) (T := 9) (i := b) (v := .string ⟨s.toArray⟩) (by kernel_rfl) (by simp [strL]; omega) rfl
  refine ⟨w2, by rw [add_none]; exact t1, ?_, t3⟩
  have e : (strL laid).set b (.string ⟨s.toArray⟩) = strL (laid.set b s) := by simp [strL, List.map_set, strV]
  rw [e] at t2; exact t2
def StR (acts : List A3) (w0 : World) (p i c d : Nat) (w : World) : Prop :=
  ∃ R C laid, Cx w0 R w c d C ∧ RdI acts i C laid ∧ ¬ R p ∧ w0.heap.size ≤ p ∧ AtU w p 0 (strL laid)
def StQ (acts : List A3) (w0 : World) (p i c d : Nat) (D0 : St) (k : Int) (q : Nat) (cs : List Value) (w : World) : Prop :=
  ∃ R C laid, Cx w0 R w c d C ∧ RdI acts (i + 1) C laid ∧ ¬ R p ∧ w0.heap.size ≤ p ∧ AtU w p 0 (strL laid) ∧ (k ≠ 4 → k ≠ 5 → C.D = D0) ∧ At w q 0 cs
theorem StQ.of {C' : Ca} {w1 : World} {laid' : List Bk} {k : Int} {D0 : St} {cs : List Value} (h3 : ¬ R p) (h4 : w0.heap.size ≤ p) (h5 : AtU w p 0 (strL laid)) (hq : At w q 0 cs) (hqR : ¬ R q) (m1 : Mod R w w1) (m2 : Mod No w1 w') (h' : Cx w0 (Gro R w w1) w' c d C')
    (he : laid' = laid) (hI : RdI acts (i + 1) C' laid') (hD : k ≠ 4 → k ≠ 5 → C'.D = D0) : StQ acts w0 p i c d D0 k q cs w' := by
  subst he
  refine ⟨_, C', laid', h', hI, ?_, h4, (h5.keep m1 h3).keep m2 id, hD, (hq.keep m1 hqR).keep m2 id⟩
  rintro (e | e)
  · exact h3 e
  · have := h5.lt; omega
theorem StQ.row {C' : Ca} {w1 : World} {k : Int} {D0 : St} {cs : List Value} (s : Bk) (hb : b < laid.length) (h3 : ¬ R p) (h4 : w0.heap.size ≤ p) (h5 : AtU w p 0 (strL laid)) (hq : At w q 0 cs) (hqR : ¬ R q) (hqp : q ≠ p) (m1 : Mod R w w1) (m2 : Mod No w1 w') (h' : Cx w0 (Gro R w w1) w' c d C')
    (hI : RdI acts (i + 1) C' (laid.set b s)) (hD : k ≠ 4 → k ≠ 5 → C'.D = D0) :
    ∃ w2, RuU (Instr.storeAt 9 (.pointer (some (Addr.add ⟨p, 0, none⟩ b))) (.string ⟨s.toArray⟩)) w' w2 ∧ StQ acts w0 p i c d D0 k q cs w2 := by
  have hG : ∀ z, Gro R w w1 z → z ≠ p := fun z hz e => by
    subst e
    rcases hz with hz | hz
    · exact h3 hz
    · have := h5.lt; omega
  obtain ⟨w2, t1, t2, t3⟩ := lay_row ((h5.keep m1 h3).keep m2 id) hb s
  exact ⟨w2, t1, _, C', _, h'.keep t3 hG (fun z hz e => by omega), hI, fun e => hG p e rfl, h4, t2, hD, ((hq.keep m1 hqR).keep m2 id).keep t3 hqp⟩
theorem Acts3.get2 {a : Option Addr} {l cc i : Nat} {x : A3} (h : Acts3 w a acts) (m : Mod No w w') (hl : acts.length = l) (hx : acts[i]? = some x) :
    ∃ q : Addr, Al (Instr.indexAt 22 (.slice a l cc) (.int .i64 i)) (.pointer (some q)) ∧ ∃ cs, x.fit w cs ∧ Ru (Instr.loadAt 34 (.pointer (some q))) w' (.agg ⟨cs⟩) w' := by
  have hi := (List.getElem?_eq_some_iff.1 hx).1
  obtain ⟨b, o, H, rfl, hat, hH, hfit⟩ := h.resolve_left (fun e => by rw [e] at hi; simp at hi)
  have hle : (i + 1) * 3 ≤ acts.length * 3 := Nat.mul_le_mul_right _ hi
  refine ⟨_, index_slice (k := 3) (by kernel_rfl) (by omega) (by omega), (H.drop (i * 3)).take 3, hfit i x hx, ?_⟩
  rw [add_none, show (i : Int).toNat * 3 = i * 3 by omega]
  exact (hat.keep m id).loadAgg (by kernel_rfl) (by omega)
set_option maxRecDepth 100000 in
theorem CacheReads_c {n0 : Int} {a1 : Option Addr} {l1 c1 : Nat} (hl : acts.length = l1) (ha : Acts3 w a1 acts) :
    Cal Try.prog F_leveelaw10_CacheReads #[.int .i64 n0, .slice a1 l1 c1] w (fun v w' => v = .bool true ∧ Mod No w w') := by
  apply C_leveelaw10_CacheReads
  unfold D_leveelaw10_CacheReads
  refine New_c (n := 4) (by omega) (by omega) (fun h => by omega) fun k hk' _ _ w1 d sb mb m1 h1 => ⟨_, _, rfl, ?_⟩
  have : k = 4 := by omega
  subst this
  have hsm : Small (newSt 4) := Small.one (sm _ (by decide +kernel))
  refine Count_c (n := 4) (by omega) (by omega) ⟨_, rfl, ?_⟩
  obtain ⟨kk, hkk⟩ := Int.eq_ofNat_of_zero_le (Int.emod_nonneg n0 (show (4 : Int) ≠ 0 by omega))
  have hk4 : kk < 4 := by have := Int.emod_lt_of_pos n0 (show (0 : Int) < 4 by omega); omega
  rw [hkk, wrap64 (x := 1 + (kk : Int)) (by omega) (by omega)]
  refine cNew_c (w0 := w) h1 hsm (fun x hx => hx) m1 (fun h => by omega) fun k2 hk2 _ _ w2 c m2 x2 => ⟨_, _, rfl, ff rfl ?_⟩
  obtain ⟨w3, hm3, hat3, hmod3, hsz3⟩ := makeSlice_run (P := Try.prog) (w := w2) (n := 4) elemZ_strs (by omega) (by omega) (by omega)
  refine ⟨_, _, _, w3, hm3, ?_⟩
  have hww := x2.wf.2.2.1.size
  have hRp : ∀ z, Gro (fun x => w.heap.size ≤ x ∧ x < w1.heap.size) w1 w2 z → z < w2.heap.size := fun z hz => (x2.wf.2.2.2 z hz).2
  generalize hp : w2.heap.size = p at *
  refine ⟨fun x w5 => ∃ (i : Nat) (y1 y2 y3 y4 : Value), x = [.int .i64 i, y1, y2, y3, y4] ∧ i ≤ 50 ∧ StR acts w p i c d w5, fun x _ => (50 - nI x 0).toNat, ⟨0, _, _, _, _, rfl, by omega, ?_⟩, ?_⟩
  · refine ⟨_, _, [[], [], [], []], x2.nos hmod3, ?_, fun e => ?_, by omega, hat3⟩
    · exact {
        n := rfl
        left := rfl
        len := by simp [newSt]
        ver := fun v hv => by
          have := List.eq_of_mem_replicate hv
          subst this; simp
        fill := fun b s hs => .inl (by have := List.mem_of_getElem? hs; simpa using this)
        A := fun b s hs hne => absurd (by have := List.mem_of_getElem? hs; simpa using this) hne
        B := fun b hs x hx => by cases hx }
    · have := hRp _ e; omega
  rintro x w5 ⟨i, y1, y2, y3, y4, rfl, hi50, hSt⟩
  refine Share.cut (fun z w6 => w6 = w5 ∧ z = [.bool (decide (i < l1 ∧ i < 50))]) ⟨_, rfl, cond_of (fun hb => ⟨rfl, ?_⟩) (fun hb => ⟨rfl, ?_⟩)⟩ ?_
  · have := of_decide_eq_true hb
    congr 2; rw [Bool.eq_iff_iff]; simp only [decide_eq_true_eq]; omega
  · have := of_decide_eq_false hb
    congr 2; rw [Bool.eq_iff_iff]; simp; omega
  rintro z w6 ⟨rfl, rfl⟩
  refine ⟨_, rfl, cond_of (fun hb => ?_) (fun hb => ?_)⟩
  · obtain ⟨hil, hi5⟩ := of_decide_eq_true hb
    obtain ⟨R, C, laid, hC, hI, e3, e4, e5⟩ := hSt
    have hM := hC.wf.2.2.1
    have hia : i < acts.length := by omega
    obtain ⟨q, hidx, cs, hfit, hload⟩ := ha.get2 (i := i) (cc := c1) hM hl (List.getElem?_eq_getElem hia)
    have hst := store_act (hfit.nos hM)
    refine ⟨_, rfl, q, hidx, ⟨cs⟩, hload, _, _, alloc_act _, _, hst, ?_⟩
    obtain ⟨ad, cd, rfl, had, hn, h63'⟩ := hfit
    have m8 : Mod No w6 (w6.alloc (.cells ⟨[.int .i64 acts[i].k, .int .i64 acts[i].n, .slice ad acts[i].xs.length cd]⟩ 34)) := (Mod.refl No w6).alloc _
    have hA : At (w6.alloc (.cells ⟨[.int .i64 acts[i].k, .int .i64 acts[i].n, .slice ad acts[i].xs.length cd]⟩ 34)) w6.heap.size 0 [.int .i64 acts[i].k, .int .i64 acts[i].n, .slice ad acts[i].xs.length cd] := AtU.new.at
    generalize w6.alloc (.cells ⟨[.int .i64 acts[i].k, .int .i64 acts[i].n, .slice ad acts[i].xs.length cd]⟩ 34) = w8 at *
    have hwsucc := fun b => wroteB_succ acts i b (List.getElem?_eq_getElem hia)
    generalize acts[i] = A at *
    have ldA : ∀ {w2 : World}, At w2 w6.heap.size 0 [.int .i64 A.k, .int .i64 A.n, .slice ad A.xs.length cd] → ∀ (j : Nat) (v : Value) (T : TypeId), scal Try.prog T = true → ([.int .i64 A.k, .int .i64 A.n, .slice ad A.xs.length cd] : List Value)[j]? = some v → Ru (Instr.loadAt T (.pointer (some (Addr.add ⟨w6.heap.size, 0, none⟩ j)))) w2 v w2 := by
      intro w2 k j v T hT hj
      rw [add_none]; exact k.load hT hj
    have hC8 := hC.nos m8
    have hqR : ¬ R w6.heap.size := fun e => by have := (hC.wf.2.2.2 _ e).2; omega
    have hqp : w6.heap.size ≠ p := fun e => by have := e5.lt; omega
    refine cBytes_c hC8 fun w9 a48 l48 c48 m9 o9 => ⟨_, _, _, rfl, _, str_run (by kernel_rfl) o9.rowU.row (by have := o9.len; simpa using this), ?_⟩
    have hA9 := hA.keep m9 id
    refine ⟨_, ldA hA9 1 _ _ (by kernel_rfl) rfl, Count_c (n := 4) (by omega) (by omega) ⟨_, rfl, ?_⟩⟩
    obtain ⟨b, hb4⟩ := Int.eq_ofNat_of_zero_le (Int.emod_nonneg A.n (show (4 : Int) ≠ 0 by omega))
    have hb4' : b < 4 := by have := Int.emod_lt_of_pos A.n (show (0 : Int) < 4 by omega); omega
    rw [hb4]
    have hC9 := hC8.nos m9
    have e5' := (e5.keep m8 id).keep m9 id
    have had9 := had.nos hC9.wf.2.2.1
    have hbl : b < laid.length := by rw [hI.n]; exact hb4'
    have hw9 := hC9.wf
    refine ⟨_, ldA hA9 0 _ _ (by kernel_rfl) rfl, ?_⟩
    refine Share.cut (fun z w11 => w11 = w9 ∧ z = [.bool (decide (A.k = 2 ∨ A.k = 3))]) (cond_of (fun hb => ⟨rfl, ?_⟩) (fun hb => ⟨rfl, ?_⟩)) ?_
    · have : A.k = 2 := by simpa using hb
      simp [this]
    · have : ¬ A.k = 2 := by simpa using hb
      simp [this]; rfl
    rintro z w11 ⟨rfl, rfl⟩
    have hfl : ∀ {w' : World}, w11.heap.size ≤ w'.heap.size → ∀ {q' : Nat}, w'.heap.size ≤ q' → ¬ R q' := fun h1 q' h2 e => by have := (hC9.wf.2.2.2 _ e).2; omega
    refine ⟨_, rfl, Share.cut (fun z w31 => StQ acts w p i c d C.D A.k w6.heap.size [.int .i64 A.k, .int .i64 A.n, .slice ad A.xs.length cd] w31 ∧ ∃ z0, z = [z0]) (cond_of (fun hb => ?_) (fun hb => ?_)) ?_⟩
    · have hk23 := of_decide_eq_true hb
      refine ⟨_, _, _, ldA hA9 2 _ _ (by kernel_rfl) rfl, Fill_c rfl had9 h63' fun w12 q12 hq12 m12 at12 => ⟨_, _, _, rfl, ?_⟩⟩
      have hC12 := hC9.nos m12
      have hLd := hI.lay hw9.1 hw9.2.1 hb4' (ys := fillB A.xs) (length_fillB _)
      refine cLay_c (ys := fillB A.xs) hC12 (length_fillB _) (.inr ⟨_, _, rfl, at12.at⟩) (fun _ q hq hR => ?_) fun w13 m13 x13 => ⟨_, rfl, Share.cut (fun z w16 => StQ acts w p i c d C.D A.k w6.heap.size [.int .i64 A.k, .int .i64 A.n, .slice ad A.xs.length cd] w16) (cond_of (fun hb => ?_) (fun hb => ?_)) fun z w16 hz => ⟨hz, _, rfl⟩⟩
      · have := Option.some.inj hq
        subst this
        exact hfl (Nat.le_refl _) hq12 hR
      · have h0 : (layX C b (fillB A.xs)).2 = 0 := by simpa using hb
        have hA13 := (hA9.keep m12 id).keep m13 hqR
        have hz12 := m12.size
        have had13 : Row w13 ad (u8L A.xs) := had.nos x13.wf.2.2.1
        refine ⟨_, _, _, ldA hA13 2 _ _ (by kernel_rfl) rfl, Fill_c rfl had13 h63' fun w14 q14 hq14 m14 at14 => ⟨_, _, _, rfl, _, str_run (by kernel_rfl) (.inr ⟨_, _, rfl, at14.at⟩) (length_fillB _), _, index_slice (k := 1) (by kernel_rfl) (by omega) (by omega), ?_⟩⟩
        rw [Int.toNat_natCast, Nat.mul_one]
        exact StQ.row (fillB A.xs) hbl e3 e4 (e5'.keep m12 id) (hA9.keep m12 id) hqR hqp m13 m14 (x13.nos m14) (hLd.2.1 h0).next fun _ _ => hLd.1
      · have h0 : (layX C b (fillB A.xs)).2 ≠ 0 := by simpa using hb
        exact StQ.of e3 e4 (e5'.keep m12 id) (hA9.keep m12 id) hqR m13 (Mod.refl _ _) x13 rfl (hLd.2.2 h0).next fun _ _ => hLd.1
    · have hk23 := of_decide_eq_false hb
      refine Share.cut (fun z w30 => StQ acts w p i c d C.D A.k w6.heap.size [.int .i64 A.k, .int .i64 A.n, .slice ad A.xs.length cd] w30 ∧ ∃ z0, z = [z0]) (cond_of (fun hb => ?_) (fun hb => ?_)) fun z w30 hz => by obtain ⟨hz, z0, rfl⟩ := hz; exact ⟨hz, _, rfl⟩
      · have hk4 : A.k = 4 := by simpa using hb
        refine cWrite_c (ys := []) hC9 (fun v hv => by have := hI.ver v hv; omega) rfl (.inl rfl) (fun h => absurd rfl h) fun w13 m13 x13 => ⟨_, rfl, ?_⟩
        exact ⟨StQ.of e3 e4 e5' hA9 hqR m13 (Mod.refl _ _) x13 rfl (hI.wr hw9.1 hw9.2.1 hb4' (.inl rfl)) fun h => absurd hk4 h, _, rfl⟩
      have hk4 : ¬ A.k = 4 := by simpa using hb
      refine Share.cut (fun z w29 => StQ acts w p i c d C.D A.k w6.heap.size [.int .i64 A.k, .int .i64 A.n, .slice ad A.xs.length cd] w29 ∧ ∃ z0, z = [z0]) (cond_of (fun hb => ?_) (fun hb => ?_)) fun z w29 hz => by obtain ⟨hz, z0, rfl⟩ := hz; exact ⟨hz, _, rfl⟩
      · have hk5 : A.k = 5 := by simpa using hb
        refine ⟨_, _, _, ldA hA9 2 _ _ (by kernel_rfl) rfl, Fill_c rfl had9 h63' fun w12 q12 hq12 m12 at12 => ⟨_, _, _, rfl, ?_⟩⟩
        have hC12 := hC9.nos m12
        have hwr : wroteB acts (i + 1) (b : Int) = true := by rw [hwsucc, hk5, hb4]; simp
        refine cWrite_c (ys := fillB A.xs) hC12 (fun v hv => by have := hI.ver v hv; omega) (length_fillB _) (.inr ⟨_, _, rfl, at12.at⟩) (fun _ q hq hR => ?_) fun w13 m13 x13 => ⟨_, rfl, ?_⟩
        · have := Option.some.inj hq
          subst this
          exact hfl (Nat.le_refl _) hq12 hR
        · exact ⟨StQ.of e3 e4 (e5'.keep m12 id) (hA9.keep m12 id) hqR m13 (Mod.refl _ _) x13 rfl (hI.wr hw9.1 hw9.2.1 hb4' (.inr ⟨length_fillB _, hwr⟩)) fun _ h => absurd hk5 h, _, rfl⟩
      have hk5 : ¬ A.k = 5 := by simpa using hb
      refine Share.cut (fun z w28 => StQ acts w p i c d C.D A.k w6.heap.size [.int .i64 A.k, .int .i64 A.n, .slice ad A.xs.length cd] w28 ∧ ∃ z0, z = [z0]) (cond_of (fun hb => ?_) (fun hb => ?_)) fun z w28 hz => by obtain ⟨hz, z0, rfl⟩ := hz; exact ⟨hz, _, rfl⟩
      · have hDr := hI.drop hb4'
        refine cDrop_c hC9 fun w13 m13 x13 => ⟨_, rfl, Share.cut (fun z w22 => StQ acts w p i c d C.D A.k w6.heap.size [.int .i64 A.k, .int .i64 A.n, .slice ad A.xs.length cd] w22) (cond_of (fun hb => ?_) (fun hb => ?_)) fun z w22 hz => ⟨hz, _, rfl⟩⟩
        · have h0 : (dropX C b).2 = 0 := by simpa using hb
          refine ⟨_, index_slice (k := 1) (by kernel_rfl) (by omega) (by omega), ?_⟩
          rw [Int.toNat_natCast, Nat.mul_one]
          exact StQ.row [] hbl e3 e4 e5' hA9 hqR hqp m13 (Mod.refl _ _) x13 (hDr.2.1 h0).next fun _ _ => hDr.1
        · have h0 : (dropX C b).2 ≠ 0 := by simpa using hb
          exact StQ.of e3 e4 e5' hA9 hqR m13 (Mod.refl _ _) x13 rfl (hDr.2.2 h0).next fun _ _ => hDr.1
      · obtain ⟨hRd, hRD, hRx⟩ := hI.rd hw9.1 hw9.2.1 hb4'
        refine cRead_c hC9 fun w13' w13 a58 c58 n13 m13 x13 o13 => ⟨_, _, _, _, rfl, ?_⟩
        have hq13 := StQ.of (q := w6.heap.size) (D0 := C.D) (k := A.k) (cs := [.int .i64 A.k, .int .i64 A.n, .slice ad A.xs.length cd]) e3 e4 e5' hA9 hqR n13 m13 x13 rfl hRd.next fun _ _ => hRD
        have e13 := (e5'.keep n13 e3).keep m13 id
        refine cDiskRead_c x13 fun w24 a64 c64 m24 x24 f24 => ⟨_, _, _, _, rfl, ?_⟩
        have hbD : b < (rdX C b).1.D.vs.length := by rw [hRd.len]; exact hb4'
        obtain ⟨r1, r2⟩ := rd_at (rdX C b).1.D hbD
        rw [r2] at f24 ⊢
        have x24d := x24.nos ((Mod.refl No w24).drew)
        have hq24 : StQ acts w p i c d C.D A.k w6.heap.size [.int .i64 A.k, .int .i64 A.n, .slice ad A.xs.length cd] (Go.Den.drew w24) := by
          obtain ⟨R2, C2, laid2, k1, k2, k3, k4, k5, k6, k7⟩ := hq13
          exact ⟨R2, C2, laid2, (k1.nos m24).nos (Mod.refl No w24).drew, k2, k3, k4, (k5.keep m24 id).drew, k6, (k7.keep m24 id).drew⟩
        have hfin : ∀ z w27, (z = [Value.bool false] ∧ w27 = Go.Den.drew w24) → ∃ b112 : Bool, nth z 0 = .bool b112 ∧ (bif b112 then (fun v w' => v = Value.bool true ∧ Mod No w w') (.bool false) w27 else StQ acts w p i c d C.D A.k w6.heap.size [.int .i64 A.k, .int .i64 A.n, .slice ad A.xs.length cd] w27 ∧ ∃ z0, [Value.bool b112] = [z0]) := by
          rintro z w27 ⟨rfl, rfl⟩
          exact ⟨_, rfl, ff rfl ⟨hq24, _, rfl⟩⟩
        refine Share.cut (fun z w27 => z = [.bool false] ∧ w27 = Go.Den.drew w24) (cond_of (fun hb => ?_) (fun hb => ⟨rfl, rfl⟩)) hfin
        have h0 : (rdX C b).2.1 = 0 := by simpa using hb
        obtain ⟨y, hy, hyb, hyd⟩ := hRx h0
        have hyl := x13.wf.1.data y hy
        have hrow58 := (o13.nos m24).rowU.row.nos (Mod.refl No w24).drew
        have hrow64 := f24.row.nos (Mod.refl No w24).drew
        have hls := ((e13.keep m24 id).at.drew)
        have hconvx := str_run (P := Try.prog) (S := 32) (T := 9) (c := c58) (by kernel_rfl) hrow58 rfl
        have hconvd := str_run (P := Try.prog) (S := 32) (T := 9) (c := c64) (by kernel_rfl) hrow64 rfl
        have hix : Al (Instr.indexAt 44 (.slice (some ⟨p, 0, none⟩) 4 4) (.int .i64 b)) (.pointer (some (Addr.add ⟨p, 0, none⟩ b))) := fun w' => by
          have := index_slice (P := Try.prog) (T := 44) (k := 1) (a := ⟨p, 0, none⟩) (n := 4) (c := 4) (kk := .i64) (i := (b : Int)) (by kernel_rfl) (by omega) (by omega) w'
          rwa [Int.toNat_natCast, Nat.mul_one] at this
        have hlb := load_str hls hbl
        have hsl : laid[b]? = some laid[b] := List.getElem?_eq_getElem hbl
        rw [hyd] at hconvx ⊢
        refine ⟨_, hconvx, _, hix, _, hlb, ?_⟩
        rw [toList_str, toList_str]
        by_cases hs0 : laid[b] = []
        · have hne : (y.data == laid[b]) = false := by rw [hs0]; rw [beq_eq_false_iff_ne]; intro e; rw [e] at hyl; simp at hyl
          rw [hne]
          refine tt rfl ⟨_, hix, _, hlb, ?_⟩
          rw [toList_str, toList_empty, hs0]
          refine ff rfl ⟨_, hix, _, hlb, ?_⟩
          rw [toList_str, hs0]
          refine tt rfl ⟨_, hconvx, _, hconvd, ?_⟩
          rw [toList_str, toList_str]
          refine cond_of (fun hb => ?_) (fun hb => ⟨rfl, rfl⟩)
          have hyne : y.data ≠ atD (rdX C b).1.D b := by simpa using hb
          have hwr : wroteB acts i (b : Int) = true := (hRd.B b (by rw [hsl, hs0]) y hy hyb).resolve_left hyne
          refine wrote_c hl (by omega) (ha.nos x24d.wf.2.2.1) (by omega) ⟨_, rfl, ?_, rfl⟩
          rw [hwr]; rfl
        · have hyd2 : y.data = laid[b] := (hRd.A b _ hsl hs0).1 y hy hyb
          rw [hyd2]
          exact ff (by simp) ⟨rfl, rfl⟩
    · rintro z w31 ⟨⟨R2, C2, laid2, hC2, hI2, f3, f4, f5, f6, f7⟩, z0, rfl⟩
      refine Share.cut (fun z w33 => z = [.bool false] ∧ Mod No w31 w33) ⟨_, ldA f7 0 _ _ (by kernel_rfl) rfl, cond_of (fun hb => ?_) (fun hb => ⟨rfl, Mod.refl _ _⟩)⟩ ?_
      · have hk4' : A.k ≠ 4 := by simpa using hb
        refine ⟨_, ldA f7 0 _ _ (by kernel_rfl) rfl, cond_of (fun hb => ?_) (fun hb => ⟨rfl, Mod.refl _ _⟩)⟩
        have hk5' : A.k ≠ 5 := by simpa using hb
        refine cBytes_c hC2 fun w32 a162 l162 c162 m32 o32 => ⟨_, _, _, rfl, _, str_run (by kernel_rfl) o32.rowU.row (by have := o32.len; simpa using this), ?_, m32⟩
        rw [f6 hk4' hk5']; simp
      · rintro z w33 ⟨rfl, m33⟩
        refine ⟨_, rfl, ff rfl ?_⟩
        rw [wrap64 (x := (i : Int) + 1) (by omega) (by omega)]
        exact ⟨⟨i + 1, _, _, _, _, rfl, by omega, R2, C2, laid2, hC2.nos m33, hI2, f3, f4, f5.keep m33 id⟩, by simp [nI, nth]; omega⟩
  · obtain ⟨R, C, laid, hC, _⟩ := hSt
    exact known10_c fun w7 m7 => ⟨_, rfl, rfl, hC.wf.2.2.1.no m7⟩
end
end Go.Proofs.Ytgcecmfjpljpcaa
