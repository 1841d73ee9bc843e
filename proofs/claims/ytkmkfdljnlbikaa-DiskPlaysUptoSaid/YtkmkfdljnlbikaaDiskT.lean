/- The statement DiskPlays: the law. -/
import Derived.Test.YtkmkfdljnlbikaaDiskR
open Go Go.Den Go.Proofs
namespace Go.Proofs.Ytkmkfdljnlbikaa
theorem Cal_mono {f : FuncId} {args : Array Value} {w : World} {K1 K2 : Value → World → Prop} (h : Cal Try.prog f args w K1) (hk : ∀ v w', K1 v w' → K2 v w') : Cal Try.prog f args w K2 :=
  ⟨h.1, h.2.mono fun e w' he => by cases e <;> first | exact hk _ _ he | exact he.elim⟩
structure AI where
  k : Int
  n : Int
  xs : List UInt8
  pick : List Int
def ActsAt (w : World) (a1 : Option Addr) (acts : List AI) : Prop :=
  acts = [] ∨ ∃ (b o : Nat) (H : List Value), a1 = some ⟨b, o, none⟩ ∧ At w b o H ∧ H.length = acts.length * 4 ∧ ∀ (r : Nat) (x : AI), acts[r]? = some x →
    ∃ (ad ap : Option Addr) (cd cp : Nat), (H.drop (r * 4)).take 4 = [.int .i64 x.k, .int .i64 x.n, .slice ad x.xs.length cd, .slice ap x.pick.length cp] ∧
      Row w ad (u8L x.xs) ∧ (ad = none → x.xs.length = 0 ∧ cd = 0) ∧ x.xs.length ≤ 1048576 ∧ Row w ap (iL x.pick) ∧ x.pick.length ≤ 9223372036854775807 ∧ x.n ≤ 9223372036854775807
section
variable {w : World}
theorem Row.off {a : Option Addr} {cs : List Value} {w0 : World} {N : Nat} (h : Row w0 a cs) (hne : cs ≠ []) : Off w0 N a := by
  intro q e
  obtain ⟨b, o, e', hat⟩ := h.resolve_left hne
  rw [e'] at e; cases e
  exact .inl hat.lt
theorem DiskPlays_c {n : Int} {a1 : Option Addr} {l1 c1 : Nat} {acts : List AI} (h0 : -9223372036854775808 ≤ n) (h1 : n ≤ 9223372036854775807) (hl : acts.length = l1) (ha : ActsAt w a1 acts) :
    Cal Try.prog F_leveelaw02_DiskPlays #[.int .i64 n, .slice a1 l1 c1] w (fun v w' => v = .bool true ∧ Mod No w w') := by
  apply C_leveelaw02_DiskPlays
  unfold D_leveelaw02_DiskPlays
  refine Share.cut (fun z w' => z = [.bool (decide (40 < n ∧ n ≤ 4096))] ∧ w' = w) (cond_of (fun hb => ?_) (fun hb => ?_)) ?_
  · have := of_decide_eq_true hb
    refine ⟨?_, rfl⟩
    congr 2; rw [Bool.eq_iff_iff]; simp only [decide_eq_true_eq]; omega
  · have := of_decide_eq_false hb
    refine ⟨?_, rfl⟩
    congr 2; rw [Bool.eq_iff_iff]; simp only [decide_eq_true_eq]; simp; omega
  rintro z w' ⟨rfl, rfl⟩
  refine ⟨_, rfl, cond_of (fun hb => ?_) (fun hb => ?_)⟩
  · exact known2_c fun w1 m1 => ⟨_, rfl, rfl, m1⟩
  have hn := of_decide_eq_false hb
  refine New_c h0 h1 (fun hbad => ⟨_, _, rfl, ?_⟩) fun k hk hk1 hk2 w1 b sb mb m1 hD => ⟨_, _, rfl, ?_⟩
  · refine refNew_c h0 h1 (fun _ => ⟨_, _, rfl, ?_⟩) fun k hk hk1 hk2 => by omega
    refine Share.cut (fun z w2 => z = [.bool false] ∧ w2 = w') (ff (by simp) ⟨rfl, rfl⟩) ?_
    rintro z w2 ⟨rfl, rfl⟩
    refine ⟨_, rfl, ff rfl (tt rfl ?_)⟩
    exact known2_c fun w1 m1 => ⟨_, rfl, rfl, m1⟩
  refine refNew_c h0 h1 (fun hbad => by omega) fun k' hk' _ _ w2 b2 vb vc hs m2 hR => ⟨_, _, rfl, ?_⟩
  have : k' = k := by omega
  subst this
  have hk40 : k' ≤ 40 := by omega
  refine Share.cut (fun z w3 => z = [.bool false] ∧ w3 = w2) (ff (by simp) ⟨rfl, rfl⟩) ?_
  rintro z w3 ⟨rfl, rfl⟩
  refine ⟨_, rfl, ff rfl (ff rfl ?_)⟩
  have hz1 := m1.size
  have hz2 := m2.size
  have hBo : Bo w' w3.heap.size w3 b b2 (newSt k') := ⟨_, sb, mb, k', [], _, vb, vc, hs, hD.nos m2, hR, fun x hx e => by omega, fun x hx => by omega, fun x hx => by omega, m1.no m2, Nat.le_refl _⟩
  refine ⟨fun x w4 => ∃ (i : Nat) (d : Nat) (y : Value) (D : St), i ≤ l1 ∧ i ≤ 40 ∧ x = [.bool false, .pointer (some ⟨d, 0, none⟩), .int .i64 i, y] ∧ Bo w' w4.heap.size w4 d b2 D ∧ Bnd D (i + 1) ∧ D.vs.length = k', fun x _ => (40 - nI x 2).toNat,
    ⟨0, b, _, newSt k', by omega, by omega, rfl, hBo, fun v hv => by have := List.eq_of_mem_replicate hv; subst this; simp, by simp [newSt]⟩, ?_⟩
  rintro x w4 ⟨i, d, y, D, hi1, hi40, rfl, hB, hbnd, hDl⟩
  refine Share.cut (fun z w5 => z = [.bool (decide (i < l1 ∧ i < 40))] ∧ w5 = w4) ⟨_, rfl, cond_of (fun hb => ?_) (fun hb => ?_)⟩ ?_
  · have := of_decide_eq_true hb
    refine ⟨?_, rfl⟩
    congr 2; rw [Bool.eq_iff_iff]; simp only [decide_eq_true_eq]; omega
  · have := of_decide_eq_false hb
    refine ⟨?_, rfl⟩
    congr 2; rw [Bool.eq_iff_iff]; simp only [decide_eq_true_eq]; simp; omega
  rintro z w5 ⟨rfl, rfl⟩
  refine ⟨_, rfl, cond_of (fun hb => ?_) (fun hb => ?_)⟩
  · have hi := of_decide_eq_true hb
    obtain ⟨g, o, H, rfl, hH, hHl, hrow⟩ := ha.resolve_left (fun e => by rw [e] at hl; simp at hl; omega)
    obtain ⟨ad, ap, cd, cp, hH4, hrd, hd0, hdl, hrp, hpl, hnl⟩ := hrow i acts[i] (by simp)
    have hHget : ∀ j v, ([.int .i64 acts[i].k, .int .i64 acts[i].n, .slice ad acts[i].xs.length cd, .slice ap acts[i].pick.length cp] : List Value)[j]? = some v → H[i * 4 + j]? = some v := by
      intro j v hj
      have hj4 : j < 4 := by
        have := (List.getElem?_eq_some_iff.1 hj).1
        simpa using this
      rw [← hH4, List.getElem?_take, if_pos hj4, List.getElem?_drop] at hj
      exact hj
    have idx : Al (Instr.indexAt 68 (.slice (some ⟨g, o, none⟩) l1 c1) (.int .i64 i)) (.pointer (some ⟨g, o + i * 4, none⟩)) := by
      intro w6
      have := index_slice (P := Try.prog) (T := 68) (k := 4) (a := ⟨g, o, none⟩) (n := l1) (c := c1) (kk := .i64) (i := i) (by kernel_rfl) (by omega) (by omega) w6
      rwa [add_none, Int.toNat_natCast] at this
    have ld : ∀ w6, Mod No w' w6 → ∀ j v, ([.int .i64 acts[i].k, .int .i64 acts[i].n, .slice ad acts[i].xs.length cd, .slice ap acts[i].pick.length cp] : List Value)[j]? = some (.int .i64 v) → Ru (Instr.loadAt 3 (.pointer (some (Addr.add ⟨g, o + i * 4, none⟩ j)))) w6 (.int .i64 v) w6 := by
      intro w6 m j v hj
      rw [add_none, Nat.add_assoc]
      exact (hH.keep m id).load (by kernel_rfl) (hHget j _ hj)
    have hMod := hB.mod
    refine ⟨_, rfl, _, idx, _, ld _ hMod 0 acts[i].k rfl, ?_⟩
    refine Share.cut (fun z w6 => ∃ d' D', z = [.bool false, .pointer (some ⟨d', 0, none⟩)] ∧ Bo w' w6.heap.size w6 d' b2 D' ∧ Bnd D' (i + 2) ∧ D'.vs.length = k') (cond_of (fun hb6 => ?_) (fun hb6 => ?_)) ?_
    · refine ⟨_, rfl, Cal_mono (copyAct_c (k5 := fun nb w6 => Bo w' w6.heap.size w6 nb b2 D) hB (hbnd.mono (by omega)) fun w6 nb h => h) ?_⟩
      rintro v w6 ⟨nb, rfl, a63, l63, c63, w10, e1, a64, l64, c64, w11, e2, e3⟩
      refine ⟨_, rfl, ff rfl ⟨a63, l63, c63, w10, e1, a64, l64, c64, w11, e2, Cal_mono e3 ?_⟩⟩
      rintro v2 w12 ⟨a65, l65, c65, rfl, e4⟩
      refine ⟨a65, l65, c65, rfl, Cal_mono e4 ?_⟩
      rintro v3 w13 ⟨n66, rfl, e5⟩
      refine ⟨n66, rfl, Cal_mono e5 ?_⟩
      rintro v4 w14 ⟨rfl, e6⟩
      exact ⟨rfl, nb, D, rfl, e6, hbnd.mono (by omega), hDl⟩
    · have hagg : Ru (Instr.loadAt 71 (.pointer (some ⟨g, o + i * 4, none⟩))) w5 (.agg ⟨[.int .i64 acts[i].k, .int .i64 acts[i].n, .slice ad acts[i].xs.length cd, .slice ap acts[i].pick.length cp]⟩) w5 := by
        have := (hH.keep hMod id).loadAgg (P := Try.prog) (T := 71) (i := i * 4) (n := 4) (by kernel_rfl) (by omega)
        rwa [hH4] at this
      refine ⟨_, rfl, _, idx, _, hagg, ?_⟩
      refine do_c hB (hbnd.mono (by omega)) hnl rfl (hrd.nos hMod) hd0 (fun hx => Row.off hrd (fun e => hx (by simpa [u8L] using e))) hdl rfl (hrp.nos hMod) (fun hx => Row.off hrp (fun e => hx (by simpa [iL] using e))) hpl fun w6 hB6 => ⟨_, rfl, ff rfl ?_⟩
      exact ⟨d, _, rfl, hB6, Bnd_do hbnd (by omega) _ _ _ _, by rw [len_do]; exact hDl⟩
    · rintro z w6 ⟨d', D', rfl, hB6, hbnd6, hDl6⟩
      refine ⟨_, rfl, _, idx, _, ld _ hB6.mod 1 acts[i].n rfl, ?_⟩
      refine Bo_same hB6 (fun v hv => Nat.le_trans (hbnd6 v hv) (by omega)) fun w7 m7 hB7 => ⟨_, rfl, ff rfl ?_⟩
      rw [wrap64 (x := (i : Int) + 1) (by omega) (by omega)]
      refine ⟨⟨i + 1, d', _, D', by omega, by omega, rfl, ?_, hbnd6, hDl6⟩, by simp [nI, nth]; omega⟩
      obtain ⟨R, sb, mb, sc, L, R2, vb, vc, hs, t1, t2, t3, t4, t5, t6, t7⟩ := hB7
      have hz7 := m7.size
      exact ⟨R, sb, mb, sc, L, R2, vb, vc, hs, t1, t2, t3, fun x hx => by have := t4 x hx; omega, fun x hx => by have := t5 x hx; omega, t6, Nat.le_refl _⟩
  · have hsm : Small D := fun v hv => Nat.le_trans (hbnd v hv) (by omega)
    refine ⟨fun x w6 => ∃ j : Nat, j ≤ k' ∧ x = [.bool false, .int .i64 j] ∧ Bo w' w5.heap.size w6 d b2 D, fun x _ => (k' - nI x 1).toNat, ⟨0, by omega, rfl, hB⟩, ?_⟩
    rintro x w6 ⟨j, hj, rfl, hB6⟩
    refine ⟨_, rfl, cond_of (fun hb => ?_) (fun hb => ?_)⟩
    · have hj : j < k' := by have := of_decide_eq_true hb; omega
      refine ⟨_, rfl, Bo_same hB6 hsm fun w7 m7 hB7 => ⟨_, rfl, ff rfl ?_⟩⟩
      rw [wrap64 (x := (j : Int) + 1) (by omega) (by omega)]
      exact ⟨⟨j + 1, by omega, rfl, hB7⟩, by simp [nI, nth]; omega⟩
    · have hM6 := hB6.mod
      obtain ⟨R, sb, mb, sc, L, R2, vb, vc, hs, t1, t2, t3, t4, t5, t6, t7⟩ := hB6
      have md := (Mod.refl No w6).drew
      refine Share.dup ⟨_, rfl, Bytes_c' (t1.nos md) hsm fun w7 a7 l7 c7 m7 o7 => ⟨_, _, _, rfl, ?_⟩⟩
      have hl7 : (allB D).length = l7 := by have := o7.len; simpa using this
      refine ⟨_, str_run (by kernel_rfl) o7.rowU.row hl7, ?_⟩
      have M7 := md.no m7
      refine refBytes_c (t2.nos M7) hsm fun w8 a8 l8 c8 m8 o8 => ⟨_, _, _, rfl, ?_⟩
      have hl8 : (allB D).length = l8 := by have := o8.len; simpa using this
      refine ⟨str_run (by kernel_rfl) (o7.nos m8).rowU.row hl7, _, str_run (by kernel_rfl) o8.rowU.row hl8, tt (by simp) ?_⟩
      have M8 := M7.no m8
      refine Len_c (t1.nos M8) ⟨_, rfl, tt (by rw [hDl, hk]; simp) ?_⟩
      exact known2_c fun w9 m9 => ⟨_, rfl, _, rfl, rfl, (hM6.no M8).no m9⟩
end
end Go.Proofs.Ytkmkfdljnlbikaa
