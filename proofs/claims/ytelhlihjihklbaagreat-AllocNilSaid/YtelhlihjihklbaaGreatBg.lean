/- Parts of the proof, in order: what the statement leans on. -/
import Derived.Test.YtelhlihjihklbaaGreatBf
section
open Go Go.Den Go.Proofs
namespace Go.Proofs.YtelhlihjihklbaaGreat
section
variable {w0 wb w w':World} {R R0:Nat->Prop} {v d vb vc:Nat} {hs:List (Nat×Nat)} {s:Sp} {D:St} {nx:Int} {K:Value->World->Prop}
theorem gSlots_4 {g:Gm} (h:gOk g=true):4<=gSlots g:=by
 obtain ⟨g1,g2,g3,g4,g5,g6,g7,g8,g9⟩:=gOk_iff.1 h
 unfold gSlots
 rw [if_pos h]
 have:=Int.mul_le_mul (show (1:Int)<=g.gs by omega) (show (4:Int)<=g.no by omega) (by decide) (by omega)
 omega
set_option maxRecDepth 8000 in
theorem rMount_c (h : RefIn w R d vb vc hs D) (hsm : Small D) (hlo : ∀ x, R x → w0.heap.size ≤ x ∧ x < w.heap.size) (hm0 : Mod No w0 w)
    (hk0 : (mnt D).2 ≠ 0 → ∀ w', Mod No w w' → K (.tuple #[.pointer none, .int .i64 (mnt D).2]) w')
    (hk : (mnt D).2 = 0 → ∀ w' v, Rg w w' v (mnt D).1 D (nextTo D (mnt D).1.geo (gSlots (mnt D).1.geo).toNat + 1) → K (.tuple #[.pointer (some ⟨v, 0, none⟩), .int .i64 0]) w') :
    Cal Tryz.prog F_leveeref13_Mount #[.pointer (some ⟨d, 0, none⟩)] w K := by
  have hwf := h.wf
  have hhi := hwf.hi
  apply C_leveeref13_Mount
  unfold D_leveeref13_Mount
  refine refReadC_c h hsm (n := 0) fun w1 a1 c1 m1 f1 hc1 => ⟨_, _, _, _, rfl, ?_⟩
  refine refReadC_c (h.nos m1) hsm (n := 1) fun w2 a2 c2 m2 f2 hc2 => ⟨_, _, _, _, rfl, _, rfl, ?_⟩
  have M2 := m1.no m2
  refine ⟨_, _, _, rv (h.nos M2), ?_⟩
  have l1 := rdB_le hwf 0
  have l2 := rdB_le hwf 1
  refine rsChoose_c (xs := rdB D 0) (ys := rdB D 1) rfl hc1 (f1.nos m2).row (by show (rdB D 0).length ≤ _; omega) rfl hc2 f2.row (by show (rdB D 1).length ≤ _; omega) fun w3 m3 => ⟨_, _, _, rfl, ?_⟩
  have M3 := M2.no m3
  show ∃ q8 : Addr, _
  obtain ⟨w4, b1, b2, b3, b4⟩ := new_u (P := Tryz.prog) (w := w3) (T := 232) zero_rsup
  obtain ⟨w5, e1, e2, e3, e4⟩ := b2.put (T := 232) (vs := sV (mntS D).1) agg_rsup rfl rfl (one_sV _)
  have m5 : Mod No w3 w5 := b3.own e3 (Nat.le_refl _)
  have M5 := M3.no m5
  refine ⟨_, w4, b1, w5, e1, ?_⟩
  rw [bneI]
  refine cond_of (fun he => ?_) (fun he => ?_)
  · have he : (mntS D).2.2 ≠ 0 := of_decide_eq_true he
    have e : mnt D = (sZ, (mntS D).2.2) := by unfold mnt; rw [if_pos he]
    have := hk0 (by rw [e]; exact he) w5 M5
    rw [e] at this
    exact this
  have he : (mntS D).2.2 = 0 := Classical.not_not.1 (of_decide_eq_false he)
  obtain ⟨hg, hsz, hgen⟩ := mnt_ok he
  obtain ⟨g1, g2, g3, g4, g5, g6, g7, g8, g9⟩ := gOk_iff.1 hg
  have hno : ∀ {w' : World}, Mod No w w' → mntOk D (mntS D).1.geo = false → K (.tuple #[.pointer none, .int .i64 8]) w' := fun {w'} m hf => by
    have e := mnt_no he hf
    have := hk0 (by rw [e]; decide) w' m
    rw [e] at this
    exact this
  have tail : ∀ (w7 : World) (rp wq : Nat) (R' : Nat → Prop), Rx w0 R' w7 rp d (newRs D) → Mod No w w7 →
      ∃ g51 : Array Value, Al (Instr.build 78 #[(0, .pointer (some ⟨rp, 0, none⟩)), (1, .pointer (some ⟨wq, 0, none⟩)), (2, .int .i64 (mntS D).1.gen), (3, .agg ⟨gV (mntS D).1.geo⟩)]) (.agg g51) ∧ ∃ q52 : Addr, ∃ w8 : World, Ru (Instr.box 78 (.agg g51)) w7 (.pointer (some q52)) w8 ∧ LoopC (fun k x w9 =>
       ∃ n12 : Int, nth x 0 = .int .i64 n12 ∧ ∃ q55 : Addr, (.pointer (some q52) : Value) = .pointer (some q55) ∧ ∃ n58 : Int, Ru (Instr.loadAt 3 (.pointer (some (Addr.add (Addr.add q55 3) 2)))) w9 (.int .i64 n58) w9 ∧ (bif decide (n12 < n58) then
       Cal Tryz.prog F_leveeref13_Vol_Head #[.pointer (some q52), .int .i64 n12] w9 fun r65 w10 => ∃ g65a : Array Value, ∃ n65b : Int, r65 = .tuple #[.agg g65a, .int .i64 n65b] ∧ ∃ q13 : Addr, ∃ w11 : World, Ru (Instr.alloc 183 true (.tuple #[])) w10 (.pointer (some q13)) w11 ∧ ∃ w12 : World, RuU (Instr.storeAt 183 (.pointer (some q13)) (.agg g65a)) w11 w12 ∧ Share (fun k_2 => (bif n65b != 0 then k_2 [.bool true] w12 else ∃ n72 : Int, Ru (Instr.loadAt 3 (.pointer (some (Addr.add q13 0)))) w12 (.int .i64 n72) w12 ∧ k_2 [.bool (n72 != n12)] w12)) fun x_2 w13 =>
       ∃ b75 : Bool, nth x_2 0 = .bool b75 ∧ (bif b75 then
       K (.tuple #[.pointer none, .int .i64 8]) w13
       else
       k [.int .i64 (IntKind.i64.wrap (n12 + 1)), .bool b75] w13)
       else
       LoopC (fun k_3 x_3 w14 =>
       ∃ n15 : Int, nth x_3 0 = .int .i64 n15 ∧ ∃ q78 : Addr, (.pointer (some q52) : Value) = .pointer (some q78) ∧ ∃ g80 : Array Value, Ru (Instr.loadAt 40 (.pointer (some (Addr.add q78 3)))) w14 (.agg g80) w14 ∧ Cal Tryz.prog F_leveeref03_Slots #[.agg g80] w14 fun r81 w15 => ∃ n81 : Int, r81 = .int .i64 n81 ∧ (bif decide (n15 < n81) then
       Cal Tryz.prog F_leveeref13_Vol_Inode #[.pointer (some q52), .int .i64 n15] w15 fun r88 w16 => ∃ g88a : Array Value, ∃ n88b : Int, r88 = .tuple #[.agg g88a, .int .i64 n88b] ∧ ∃ q16 : Addr, ∃ w17 : World, Ru (Instr.alloc 218 true (.tuple #[])) w16 (.pointer (some q16)) w17 ∧ ∃ w18 : World, RuU (Instr.storeAt 218 (.pointer (some q16)) (.agg g88a)) w17 w18 ∧ Share (fun k_4 => (bif n88b == 0 then ∃ n95 : Int, Ru (Instr.loadAt 2 (.pointer (some (Addr.add q16 3)))) (drew w18) (.int .i64 n95) (drew w18) ∧ ∃ q97 : Addr, (.pointer (some q52) : Value) = .pointer (some q97) ∧ ∃ n99 : Int, Ru (Instr.loadAt 2 (.pointer (some (Addr.add q97 6)))) (drew w18) (.int .i64 n99) (drew w18) ∧ k_4 [.bool (decide (n95 > n99))] (drew w18) else k_4 [.bool false] (drew w18))) fun x_4 w19 =>
       ∃ b101 : Bool, nth x_4 0 = .bool b101 ∧ Share (fun k_5 => (bif b101 then
       ∃ n104 : Int, Ru (Instr.loadAt 2 (.pointer (some (Addr.add q16 3)))) w19 (.int .i64 n104) w19 ∧ ∃ q105 : Addr, (.pointer (some q52) : Value) = .pointer (some q105) ∧ ∃ w20 : World, RuU (Instr.storeAt 2 (.pointer (some (Addr.add q105 6))) (.int .i64 n104)) w19 w20 ∧ k_5 [] w20
       else
       k_5 [] w19)) fun x_5 w21 =>
       Share (fun k_6 => (bif n15 == 1 then (bif n88b != 0 then k_6 [.bool true] w21 else ∃ n114 : Int, Ru (Instr.loadAt 3 (.pointer (some (Addr.add q16 0)))) w21 (.int .i64 n114) w21 ∧ k_6 [.bool (n114 != 2)] w21) else k_6 [.bool false] w21)) fun x_6 w22 =>
       ∃ b117 : Bool, nth x_6 0 = .bool b117 ∧ (bif b117 then
       K (.tuple #[.pointer none, .int .i64 8]) w22
       else
       k_3 [.int .i64 (IntKind.i64.wrap (n15 + 1)), .bool b101, .bool b117] w22)
       else
       ∃ q119 : Addr, (.pointer (some q52) : Value) = .pointer (some q119) ∧ ∃ n121 : Int, Ru (Instr.loadAt 2 (.pointer (some (Addr.add q119 6)))) w15 (.int .i64 n121) w15 ∧ ∃ q123 : Addr, (.pointer (some q52) : Value) = .pointer (some q123) ∧ ∃ w23 : World, RuU (Instr.storeAt 2 (.pointer (some (Addr.add q123 6))) (.int .i64 (IntKind.i64.wrap (n121 + 1)))) w15 w23 ∧ K (.tuple #[.pointer (some q52), .int .i64 0]) w23)) [.int .i64 0, undef, undef] w9)) [.int .i64 0, undef] w8 := by
    intro w7 rp wq R' hx M7
    have hxw := hx.wf
    obtain ⟨w8, v1, v2, v3, v4⟩ := box_u (P := Tryz.prog) (w := w7) (T := 78) (cs := rvV (mntS D).1 rp wq 0)
    have hz0 := hm0.size
    have hz7 := M7.size
    have X8 : Rg w w8 w7.heap.size (mntS D).1 D 0 := ⟨w0, R', rp, wq, d, hx.nos v3, v2, ⟨fun e => by have := hxw.2.2.2 _ e; omega, by omega, hz7⟩, M7.no v3⟩
    refine ⟨_, build_rvol _ _ _, _, w8, v1, ?_⟩
    refine ⟨fun x w11 => ∃ (k : Nat) (y : Value), (k : Int) ≤ (mntS D).1.geo.gs ∧ x = [.int .i64 k, y] ∧ Rg w w11 w7.heap.size (mntS D).1 D 0 ∧ ∀ j, j < k → headOk D (mntS D).1.geo j = true, fun x _ => ((mntS D).1.geo.gs - nI x 0).toNat,
      ⟨0, undef, by omega, rfl, X8, fun j hj => by omega⟩, ?_⟩
    rintro x w11 ⟨k, y, hk2, rfl, X11, hh⟩
    refine ⟨_, rfl, _, rfl, _, X11.gs, cond_of (fun hl => ?_) (fun hl => ?_)⟩
    · have hl : (k : Int) < (mntS D).1.geo.gs := of_decide_eq_true hl
      refine rHead_c X11 hsz fun w12 x1 x2 o1 o2 m12 => ⟨_, _, rfl, ?_⟩
      have X12 := X11.nos m12
      obtain ⟨w13, s1, s2, s3, s4⟩ := new_u (P := Tryz.prog) (w := w12) (T := 183) zero_rhead
      obtain ⟨w14, t1, t2, t3, t4⟩ := s2.put (T := 183) (vs := [.int .i64 (headAt D (mntS D).1.geo k).1.no, x1, x2]) agg_rhead rfl rfl (by intro v hv; simp at hv; rcases hv with rfl | rfl | rfl <;> first | rfl | assumption)
      have m14 : Mod No w12 w14 := s3.own t3 (Nat.le_refl _)
      refine ⟨_, w13, s1, w14, t1, ?_⟩
      refine Share.cut (fun z w15 => z = [.bool (!headOk D (mntS D).1.geo k)] ∧ w15 = w14) ?_ ?_
      · rw [bneI]
        refine cond_of (fun hp => ⟨?_, rfl⟩) (fun hp => ⟨_, t2.at.fld (v := .int .i64 (headAt D (mntS D).1.geo k).1.no) sc_int rfl, ?_, rfl⟩)
        · have hp := of_decide_eq_true hp
          have : headOk D (mntS D).1.geo k = false := by unfold headOk; rw [decide_eq_false fun e => hp e.1]
          rw [this]; rfl
        · have hp := Classical.not_not.1 (of_decide_eq_false hp)
          rw [bneI]
          congr 2
          unfold headOk
          by_cases e : (headAt D (mntS D).1.geo k).1.no = k
          · rw [decide_eq_false (fun x => x e), decide_eq_true ⟨hp, e⟩]; rfl
          · rw [decide_eq_true e, decide_eq_false fun x => e x.2]; rfl
      rintro z w15 ⟨rfl, rfl⟩
      refine ⟨_, rfl, cond_of (fun hp => ?_) (fun hp => ?_)⟩
      · refine hno (X12.nos m14).mod ?_
        unfold mntOk
        rw [Bool.and_eq_false_iff]
        left
        rw [List.all_eq_false]
        exact ⟨k, List.mem_range.2 (by omega), by simpa using hp⟩
      · have hp : headOk D (mntS D).1.geo k = true := by simpa using hp
        rw [wrap64 (x := (k : Int) + 1) (by omega) (by omega)]
        exact ⟨⟨k + 1, _, by omega, rfl, X12.nos m14, fun j hj => by
          by_cases e : j = k
          · rw [e]; exact hp
          · exact hh j (by omega)⟩, by simp [nI, nth]; omega⟩
    have hl : (k : Int) = (mntS D).1.geo.gs := by have := of_decide_eq_false hl; omega
    have hsl := gSlots_b (g := (mntS D).1.geo)
    have hs4 := gSlots_4 hg
    refine ⟨fun x w14 => ∃ (n : Nat) (y1 y2 : Value), (n : Int) ≤ gSlots (mntS D).1.geo ∧ x = [.int .i64 n, y1, y2] ∧ Rg w w14 w7.heap.size (mntS D).1 D (nextTo D (mntS D).1.geo n) ∧ (1 < n → rootOk D (mntS D).1.geo = true), fun x _ => (gSlots (mntS D).1.geo - nI x 0).toNat,
      ⟨0, undef, undef, by omega, rfl, X11, fun e => by omega⟩, ?_⟩
    rintro x w14 ⟨n, y1, y2, hn, rfl, X14, hr⟩
    refine ⟨_, rfl, _, rfl, _, X14.geo, rgSlots_c fun w15 m15 => ⟨_, rfl, ?_⟩⟩
    have X15 := X14.nos m15
    have hnb := nextTo_b D (mntS D).1.geo n
    have hnn := nextTo_nn D (mntS D).1.geo n
    refine cond_of (fun hl2 => ?_) (fun hl2 => ?_)
    · have hl2 : (n : Int) < gSlots (mntS D).1.geo := of_decide_eq_true hl2
      refine rInode_c (by omega) X15 hsz fun w16 m16 => ⟨_, _, rfl, ?_⟩
      have X16 := X15.nos m16
      obtain ⟨w17, s1, s2, s3, s4⟩ := new_u (P := Tryz.prog) (w := w16) (T := 218) zero_ino
      have hwd := slotAt_wf D (mntS D).1.geo n
      obtain ⟨w18, t1, t2, t3, t4⟩ := s2.put (T := 218) (vs := nV (slotAt D (mntS D).1.geo n).1) agg_ino rfl (nV_len hwd) (one_nV _)
      have m18 : Mod No w16 w18 := s3.own t3 (Nat.le_refl _)
      have X18 := (X16.nos m18).nos (Mod.refl No w18).drew
      refine ⟨_, w17, s1, w18, t1, ?_⟩
      have hid : (decide ((slotAt D (mntS D).1.geo n).1.id > nextTo D (mntS D).1.geo n) = true → (slotAt D (mntS D).1.geo n).2 = 0) := fun e => by
        have e := of_decide_eq_true e
        refine Classical.not_not.1 fun hb => ?_
        rw [slotAt_bad hb] at e
        have e : (0 : Int) > nextTo D (mntS D).1.geo n := e
        omega
      refine Share.cut (fun z w19 => z = [.bool (decide ((slotAt D (mntS D).1.geo n).1.id > nextTo D (mntS D).1.geo n))] ∧ w19 = Go.Den.drew w18) ?_ ?_
      · rw [beqI]
        refine cond_of (fun hp => ⟨_, t2.drew.at.fld (v := .int .i64 (slotAt D (mntS D).1.geo n).1.id) sc_i64 rfl, _, rfl, _, X18.next, rfl, rfl⟩) (fun hp => ⟨?_, rfl⟩)
        have hp := of_decide_eq_false hp
        cases e : decide ((slotAt D (mntS D).1.geo n).1.id > nextTo D (mntS D).1.geo n) with
        | false => rfl
        | true => exact absurd (hid e) hp
      rintro z w19 ⟨rfl, rfl⟩
      refine ⟨_, rfl, ?_⟩
      refine Share.cut (fun z w21 => Rg w w21 w7.heap.size (mntS D).1 D (nextTo D (mntS D).1.geo (n + 1)) ∧ AtU w21 w16.heap.size 0 (nV (slotAt D (mntS D).1.geo n).1)) (cond_of (fun hp => ?_) (fun hp => ?_)) ?_
      · obtain ⟨w20, u1, u2, u3⟩ := X18.set (slotAt D (mntS D).1.geo n).1.id
        refine ⟨_, t2.drew.at.fld (v := .int .i64 (slotAt D (mntS D).1.geo n).1.id) sc_i64 rfl, _, rfl, w20, u1, ?_, t2.drew.keep u3 fun e => ?_⟩
        · have e : nextTo D (mntS D).1.geo (n + 1) = (slotAt D (mntS D).1.geo n).1.id := by unfold nextTo; rw [if_pos (of_decide_eq_true hp)]
          rw [e]; exact u2
        · have e : w16.heap.size = w7.heap.size := e
          obtain ⟨rp', wk', h'⟩ := X16.at
          have := h'.lt
          omega
      · refine ⟨?_, t2.drew⟩
        have e : nextTo D (mntS D).1.geo (n + 1) = nextTo D (mntS D).1.geo n := by rw [nextTo]; rw [if_neg (of_decide_eq_false hp)]
        rw [e]; exact X18
      rintro z w21 ⟨X21, t21⟩
      refine Share.cut (fun z w22 => z = [.bool (decide (n = 1) && !rootOk D (mntS D).1.geo)] ∧ w22 = w21) ?_ ?_
      · rw [beqI]
        refine cond_of (fun hp => ?_) (fun hp => ⟨?_, rfl⟩)
        · have hp : n = 1 := by have := of_decide_eq_true hp; omega
          subst hp
          rw [bneI]
          refine cond_of (fun hp => ⟨?_, rfl⟩) (fun hp => ⟨_, t21.at.fld (v := .int .i64 (slotAt D (mntS D).1.geo (1 : Nat)).1.kind) sc_int rfl, ?_, rfl⟩)
          · have hp := of_decide_eq_true hp
            have : rootOk D (mntS D).1.geo = false := by unfold rootOk; rw [decide_eq_false fun e => hp e.1]
            rw [this]; rfl
          · have hp := Classical.not_not.1 (of_decide_eq_false hp)
            have e0 : rootOk D (mntS D).1.geo = decide ((slotAt D (mntS D).1.geo (1 : Nat)).1.kind = 2) := by
              unfold rootOk
              by_cases e : (slotAt D (mntS D).1.geo (1 : Nat)).1.kind = 2
              · rw [decide_eq_true e]; exact decide_eq_true ⟨hp, e⟩
              · rw [decide_eq_false e]; exact decide_eq_false fun x => e x.2
            rw [bneI, e0, decide_eq_true (rfl : (1 : Nat) = 1), Bool.true_and]
            congr 2
            exact decide_not
        · have hp : ¬ n = 1 := by have := of_decide_eq_false hp; omega
          rw [decide_eq_false hp]; rfl
      rintro z w22 ⟨rfl, rfl⟩
      refine ⟨_, rfl, cond_of (fun hp => ?_) (fun hp => ?_)⟩
      · refine hno X21.mod ?_
        unfold mntOk
        rw [Bool.and_eq_false_iff]
        right
        rw [Bool.and_eq_true] at hp
        simpa using hp.2
      · rw [wrap64 (x := (n : Int) + 1) (by omega) (by omega)]
        refine ⟨⟨n + 1, _, _, by omega, rfl, X21, fun e => ?_⟩, by simp [nI, nth]; omega⟩
        by_cases e1 : n = 1
        · rw [decide_eq_true e1, Bool.true_and] at hp
          simpa using hp
        · exact hr (by omega)
    have hl2 : (n : Int) = gSlots (mntS D).1.geo := by have := of_decide_eq_false hl2; omega
    have hok : mntOk D (mntS D).1.geo = true := by
      unfold mntOk
      rw [hr (by omega), Bool.and_true, List.all_eq_true]
      intro j hj
      exact hh j (by have := List.mem_range.1 hj; omega)
    have eM := mnt_yes he hok
    obtain ⟨w23, u1, u2, u3⟩ := X15.set (nextTo D (mntS D).1.geo n + 1)
    refine ⟨_, rfl, _, X15.next, _, rfl, w23, ?_, ?_⟩
    · rw [wrap64 (by omega) (by omega)]; exact u1
    have := hk (by rw [eM]) w23 w7.heap.size
    rw [eM] at this
    refine this ?_
    show Rg w w23 w7.heap.size (mntS D).1 D (nextTo D (mntS D).1.geo (gSlots (mntS D).1.geo).toNat + 1)
    rw [← hl2, Int.toNat_natCast]
    exact u2
  have md : Mod No w (Go.Den.drew w5) := M5.drew
  have lg : ∀ {w' : World}, Mod No (Go.Den.drew w5) w' → Ru (Instr.loadAt 2 (.pointer (some (Addr.add ⟨w3.heap.size, 0, none⟩ 0)))) w' (.int .i64 (mntS D).1.gen) w' := fun m => (e2.drew.keep m id).at.fld sc_i64 rfl
  have lG : ∀ {w' : World}, Mod No (Go.Den.drew w5) w' → Ru (Instr.loadAt 40 (.pointer (some (Addr.add ⟨w3.heap.size, 0, none⟩ 1)))) w' (.agg ⟨gV (mntS D).1.geo⟩) w' := fun m => (e2.drew.keep m id).at.fldA agg_geo (by show 4 ≤ 4; omega) rfl
  have hlo' : ∀ {w' : World}, Mod No w w' → ∀ x, R x → w0.heap.size ≤ x ∧ x < w'.heap.size := fun m x hx => by
    have := hlo x hx; have := m.size; omega
  refine ⟨_, build_rwork, _, lg (Mod.refl _ _), _, lG (Mod.refl _ _), ?_, ?_⟩
  · refine rOpen11_c (h.nos md) hsm (hlo' md) (hm0.no md) fun w6 rp m6 X6 => ⟨_, rfl, lg m6, lG m6, ?_⟩
    obtain ⟨w7, p1, p2, p3, p4⟩ := box_u (P := Tryz.prog) (w := w6) (T := 238) (cs := [.slice none 0 0])
    exact ⟨_, w7, p1, lg (m6.no p3), lG (m6.no p3), tail w7 rp _ _ (X6.nos p3) ((md.no m6).no p3)⟩
  · obtain ⟨w7, p1, p2, p3, p4⟩ := box_u (P := Tryz.prog) (w := Go.Den.drew w5) (T := 238) (cs := [.slice none 0 0])
    have M7 := md.no p3
    refine ⟨_, w7, p1, lg p3, lG p3, ?_⟩
    refine rOpen11_c (h.nos M7) hsm (hlo' M7) (hm0.no M7) fun w8 rp m8 X8 => ⟨_, rfl, lg (p3.no m8), lG (p3.no m8), ?_⟩
    exact tail w8 rp _ _ X8 (M7.no m8)
end
end Go.Proofs.YtelhlihjihklbaaGreat
end
section
open Go Go.Den Go.Proofs
namespace Go.Proofs.YtelhlihjihklbaaGreat
def gKn:Gm:=⟨16,8,2⟩
def dKn:St:=fmtSt (newSt 34) gKn
theorem kn_root:rootOk dKn gKn=true:=by decide +kernel
theorem kn_head:(List.range 2).all (headOk dKn gKn)=true:=by decide +kernel
theorem kn_sup:(mntS dKn).2.2=0/\(mntS dKn).1.gen=1/\(mntS dKn).1.geo=gKn:=by decide +kernel
theorem kn_mnt:mnt dKn=(⟨1,gKn⟩,0):=by
 obtain ⟨h1,h2,h3⟩:=kn_sup
 have e:(mntS dKn).1=⟨1,gKn⟩:=by
  cases hs:(mntS dKn).1 with
  | mk a b =>
   rw [hs] at h2 h3
   cases h2; cases h3; rfl
 have hok:mntOk dKn (mntS dKn).1.geo=true:=by
  rw [h3]
  unfold mntOk
  rw [kn_root,Bool.and_true]
  exact kn_head
 rw [mnt_yes h1 hok,e]
end Go.Proofs.YtelhlihjihklbaaGreat
end
section
open Go Go.Den Go.Proofs
namespace Go.Proofs.YtelhlihjihklbaaGreat
def takenA (A:Az) (b:Int):Bool:=(spB A.s.geo b).2.2&&bitB (A.hs.getD (spB A.s.geo b).1.toNat hZ).bs (spB A.s.geo b).2.1.toNat
theorem build_alloc (w:World) (p:Option Addr) (m:Option Nat):(Instr.build 99 #[(0,.pointer p),(1,.map m)]).run Tryz.prog w=.ok (.agg ⟨[.pointer p,.map m]⟩) w:=by kernel_rfl
section
variable {w wb w':World} {R R0 R':Nat->Prop} {N a v d:Nat} {A:Az} {s:Sp} {D:St} {V:Ps} {W:List Wt} {nx:Int} {hs:List Hd} {K:Value->World->Prop}
theorem Vg.vu (h:Vg wb R0 N w v d s D nx):∃ R k,Vu R w v d s ⟨⟨D,k,[]⟩,0,[]⟩ [] nx/\∀ z,R z->R0 z\/wb.heap.size<=z\/d<=z:=by
 obtain ⟨R1,sp,wk,k,w0,h1,h2,h3,h4,h5,h6,h7,h8,c1,c2,c3,c4,c5,c6,c7⟩:=h
 have z2:=h2.lt
 refine ⟨fun z=>R1 z\/z=wk\/z=v,k,⟨w0,R1,fun z=>z=wk,sp,wk,⟨h1,h2,⟨none,0,⟨c1,Ow.nilG elemG_waits,(fun _ e=>by cases e),fun e=>e.2 rfl⟩⟩,fun z hz e=>c2 (e ▸ hz),⟨h3.1,fun e=>c3 e.symm⟩,fun z hz=>?_⟩,fun z hz=>hz,fun z hz=>?_⟩,fun z hz=>?_⟩
 ·rcases hz with rfl | rfl
  ·exact ⟨c6,by omega⟩
  ·exact ⟨c7,z2⟩
 ·rcases hz with hz | rfl | rfl
  ·have:=(h4 z hz).2; omega
  ·omega
  ·exact z2
 ·rcases hz with hz | rfl | rfl
  ·exact (h4 z hz).1.imp id .inl
  ·exact .inr (.inr c6)
  ·exact .inr (.inr c7)
theorem aNew_c (h:Vu R w v d s V W nx) (hH:HdsAt V s.geo hs) (hk:∀ w' R' a,Mod No w w'->Sb R R' w->Ao R' w' a v d ⟨s,V,W,nx,hs,fun _=>false⟩->w.heap.size<=a->K (.pointer (some ⟨a,0,none⟩)) w') :
  Cal Tryz.prog F_alloc_New #[.pointer (some ⟨v,0,none⟩)] w K:=by
 apply C_alloc_New
 unfold D_alloc_New
 have hdl:=h.dlo
 have hvl:=h.lt v h.rv
 have m1:Mod No w (w.alloc (.map #[] 0)):=(Mod.refl No w).alloc _
 have p1:MapAt (w.alloc (.map #[] 0)) w.heap.size []:=MapAt.new
 have s1:(w.alloc (.map #[] 0)).heap.size=w.heap.size+1:=by simp
 refine ff rfl ⟨_,_,makeMap_run,_,fun w=>build_alloc w _ _,?_⟩
 generalize w.alloc (.map #[] 0)=w1 at *
 obtain ⟨w2,c1,c2,c3,c4⟩:=box_u (P:=Tryz.prog) (w:=w1) (T:=99) (cs:=[.pointer (some ⟨v,0,none⟩),.map (some w.heap.size)])
 refine ⟨_,w2,c1,hk w2 (fun z=>R z\/z=w1.heap.size\/z=w.heap.size) _ (m1.no c3) (fun z hz=>?_) ⟨R,w.heap.size,[],h.nos (m1.no c3),c2,p1.keep c3 id,fun k=>rfl,⟨fun e=>?_,fun e=>?_,by omega,by omega,by omega⟩,fun z hz=>hz,fun z hz=>?_,hH⟩ (by omega)⟩
 ·rcases hz with hz | rfl | rfl
  ·exact .inl hz
  ·exact .inr (by omega)
  ·exact .inr (Nat.le_refl _)
 ·have:=h.lt _ e; omega
 ·have:=h.lt _ e; omega
 ·rcases hz with hz | rfl | rfl
  ·have:=h.lt _ hz; omega
  ·omega
  ·omega
theorem aVol_c (h:Ao R w a v d A) (hk:K (.pointer (some ⟨v,0,none⟩)) w):Cal Tryz.prog F_alloc_Alloc_Vol #[.pointer (some ⟨a,0,none⟩)] w K:=by
 apply C_alloc_Alloc_Vol
 unfold D_alloc_Alloc_Vol
 exact ff rfl ⟨_,rfl,_,h.pv,hk⟩
set_option maxRecDepth 4000 in
theorem aTaken_c {b:Int} (h63:b<=9223372036854775807) (h:Ao R w a v d A) (hk:∀ w' R',Mod R w w'->Sb R R' w->Ao R' w' a v d A->K (.bool (takenA A b)) w') :
  Cal Tryz.prog F_alloc_Alloc_Taken #[.pointer (some ⟨a,0,none⟩),.int .i64 b] w K:=by
 have hg:=h.ok
 obtain ⟨s1,s2,s3,s4⟩:=spB_in hg b
 obtain ⟨k,hkk⟩:=Int.eq_ofNat_of_zero_le s1
 obtain ⟨j,hj⟩:=Int.eq_ofNat_of_zero_le s3
 have hk0:(k:Int)<A.s.geo.gs:=by omega
 have j128:j<128:=by omega
 obtain ⟨x,hx1,hx2,hx3,hx4,hx5⟩:=h.hdOf hk0
 have hT:takenA A b=((spB A.s.geo b).2.2&&bitB x.bs j):=by unfold takenA; rw [hkk,hj,Int.toNat_natCast,Int.toNat_natCast,hx2]
 rw [hT] at hk
 apply C_alloc_Alloc_Taken
 unfold D_alloc_Alloc_Taken
 have hda:=h.dlt
 refine ff rfl (aBlk_c h63 h fun w1 m1=>⟨_,_,rfl,?_⟩)
 rw [hkk,hj] at *
 generalize (spB A.s.geo b).2.2=t at *
 obtain ⟨w2,b1,b2,b3,b4⟩:=new_u (P:=Tryz.prog) (w:=w1) (T:=101) zero_spot
 obtain ⟨w3,c1,c2,c3,c4⟩:=b2.put (T:=101) (vs:=pV ((k:Int),(j:Int))) agg_spot rfl rfl (one_pV _)
 have z1:=m1.size
 have m3:Mod No w (Go.Den.drew w3):=(m1.no (b3.own c3 (Nat.le_refl _))).drew
 have h3:=h.nos m3
 have q1:AtU (Go.Den.drew w3) w1.heap.size 0 (pV ((k:Int),(j:Int))):=c2.drew
 have zq:=q1.lt
 have z3:=m3.size
 have n1:¬ R w1.heap.size:=fun e=>by have:=h.lt _ e; omega
 refine ⟨_,w2,b1,w3,c1,_,rfl,_,h3.pv,_,q1.at.fld (v:=.int .i64 (k:Int)) sc_int rfl,?pA,?pB⟩
 case' pA =>
  refine aHead_c h3 fun w4 R3 m4 s4 h4 _=>?_
  rw [hx1]
  have z4:=m4.size
  obtain ⟨w5,d1,d2,d3,d4⟩:=new_u (P:=Tryz.prog) (w:=w4) (T:=119) zero_head
  obtain ⟨w6,e1,e2,e3,e4⟩:=d2.put (T:=119) (vs:=hV x) agg_head rfl (hV_len hx5) (one_hV _)
  have T1:Mod R w w6:=(m3.mono fun _ _ e=>e.elim).trans (m4.no (d3.own e3 (Nat.le_refl _))) fun x _ e=>e
  have T2:Sb R R3 w:=s4.up z3
  have T3:Ao R3 w6 a v d A:=h4.nos (d3.own e3 (Nat.le_refl _))
  have q14:=(q1.keep m4 n1).keep d3 id
  have T5:AtU w6 w1.heap.size 0 (pV ((k:Int),(j:Int))):=q14.keep e3 (fun e=>by have e:w1.heap.size=w4.heap.size:=e; omega)
  refine ⟨_,_,rfl,_,w5,d1,(h4.nos d3).pv,q14.at.fld (v:=.int .i64 (k:Int)) sc_int rfl,w6,e1,?_⟩
  generalize w4.heap.size=q at *
 case' pB =>
  obtain ⟨w5,d1,d2,d3,d4⟩:=new_u (P:=Tryz.prog) (w:=Go.Den.drew w3) (T:=119) zero_head
  refine ⟨_,w5,d1,(h3.nos d3).pv,(q1.keep d3 id).at.fld (v:=.int .i64 (k:Int)) sc_int rfl,aHead_c (h3.nos d3) fun w4 R3 m4 s4 h4 _=>?_⟩
  rw [hx1]
  have z4:=m4.size
  have nq:¬ R (Go.Den.drew w3).heap.size:=fun e=>by have:=h.lt _ e; omega
  have nq3:¬ R3 (Go.Den.drew w3).heap.size:=fun e=>by
   rcases s4 _ e with e | e
   ·exact nq e
   ·omega
  obtain ⟨w6,e1,e2,e3,e4⟩:=(d2.keep m4 nq).put (T:=119) (vs:=hV x) agg_head rfl (hV_len hx5) (one_hV _)
  have T1:Mod R w w6:=(((m3.no d3).mono fun _ _ e=>e.elim).trans m4 fun x _ e=>e).trans e3 fun x hx e=>by have e:x=(Go.Den.drew w3).heap.size:=e; omega
  have T2:Sb R R3 w:=s4.up (by omega)
  have T3:Ao R3 w6 a v d A:=h4.own e3 nq3 (by omega)
  have T5:AtU w6 w1.heap.size 0 (pV ((k:Int),(j:Int))):=((q1.keep d3 id).keep m4 n1).keep e3 (fun e=>by have e:w1.heap.size=(Go.Den.drew w3).heap.size:=e; omega)
  refine ⟨_,_,rfl,w6,e1,?_⟩
  generalize (Go.Den.drew w3).heap.size=q at *
 all_goals
  refine Share.cut (fun z w8=>z=[.bool (t&&bitB x.bs j)]/\Mod No w6 w8) ?_ ?_
  ·refine cond_of (fun ht=>tt rfl ?_) (fun ht=>⟨by rw [ht]; rfl,(Mod.refl _ _).drew⟩)
   rw [ht,Bool.true_and]
   have ad1:Addr.add ⟨q,0,none⟩ 1=⟨q,1,none⟩:=by rw [add_none]
   rw [ad1]
   have hb:=e2.drew.at.sub (i:=1) (m:=16) (by rw [hV_len hx5]; omega)
   rw [hV_dropb hx5] at hb
   exact ⟨_,_,_,sliceA_all arr16,_,T5.drew.at.fld (v:=.int .i64 (j:Int)) sc_int rfl,bitGet_c (xs:=x.bs) hx5.1 (.inr ⟨_,_,rfl,hb⟩) (by omega) (by omega) fun w7 m7=>⟨_,rfl,rfl,(Mod.refl _ _).drew.no m7⟩⟩
  rintro z w8 ⟨rfl,m8⟩
  exact ⟨_,rfl,hk w8 R3 (T1.no m8) T2 (T3.nos m8)⟩
-- of none
theorem nBlock_c {b:Int} (hk:K (.tuple #[.int .i64 0,.int .i64 0,.int .i64 2]) w):Cal Tryz.prog F_alloc_Alloc_Block #[.pointer none,.int .i64 b] w K:=C_alloc_Alloc_Block _ _ _ _ (tt rfl hk)
theorem nSlot_c {b:Int} (hk:K (.tuple #[.int .i64 0,.int .i64 0,.int .i64 2]) w):Cal Tryz.prog F_alloc_Alloc_Slot #[.pointer none,.int .i64 b] w K:=C_alloc_Alloc_Slot _ _ _ _ (tt rfl hk)
theorem nTaken_c {b:Int} (hk:K (.bool false) w):Cal Tryz.prog F_alloc_Alloc_Taken #[.pointer none,.int .i64 b] w K:=C_alloc_Alloc_Taken _ _ _ _ (tt rfl hk)
theorem nFreeB_c {b n:Int} (hk:K (.int .i64 2) w):Cal Tryz.prog F_alloc_Alloc_FreeBlock #[.pointer none,.int .i64 b,.int .i64 n] w K:=C_alloc_Alloc_FreeBlock _ _ _ _ _ (tt rfl hk)
theorem nFreeS_c {b n:Int} (hk:K (.int .i64 2) w):Cal Tryz.prog F_alloc_Alloc_FreeSlot #[.pointer none,.int .i64 b,.int .i64 n] w K:=C_alloc_Alloc_FreeSlot _ _ _ _ _ (tt rfl hk)
theorem nSettle_c (hk:K (.int .i64 0) w):Cal Tryz.prog F_alloc_Alloc_Settle #[.pointer none] w K:=C_alloc_Alloc_Settle _ _ _ (tt rfl hk)
theorem nFreeze_c {b:Int} {on:Bool} (hk:K (.int .i64 2) w):Cal Tryz.prog F_alloc_Alloc_Freeze #[.pointer none,.int .i64 b,.bool on] w K:=C_alloc_Alloc_Freeze _ _ _ _ _ (tt rfl hk)
theorem nFrozen_c {b:Int} (hk:K (.bool false) w):Cal Tryz.prog F_alloc_Alloc_Frozen #[.pointer none,.int .i64 b] w K:=C_alloc_Alloc_Frozen _ _ _ _ (Share.dup (ff rfl ⟨_,rfl,hk⟩))
theorem nUsed_c {b:Int} (hk:K (.tuple #[.int .i64 0,.int .i64 0,.int .i64 2]) w):Cal Tryz.prog F_alloc_Alloc_Used #[.pointer none,.int .i64 b] w K:=C_alloc_Alloc_Used _ _ _ _ (tt rfl hk)
theorem nNew_c (hk:K (.pointer none) w):Cal Tryz.prog F_alloc_New #[.pointer none] w K:=C_alloc_New _ _ _ (tt rfl hk)
theorem nVol_c (hk:K (.pointer none) w):Cal Tryz.prog F_alloc_Alloc_Vol #[.pointer none] w K:=C_alloc_Alloc_Vol _ _ _ (tt rfl hk)
theorem nFree_c (hk:∀ w',Mod No w w'->K (.tuple #[.int .i64 0,.int .i64 0]) w'):Cal Tryz.prog F_alloc_Alloc_Free #[.pointer none] w K:=by
 apply C_alloc_Alloc_Free
 unfold D_alloc_Alloc_Free
 obtain ⟨w1,a1,a2,a3,a4⟩:=box_v (P:=Tryz.prog) (w:=w) (T:=22) (v:=.pointer none) rfl
 obtain ⟨w2,b1,b2,b3,b4⟩:=new_u (P:=Tryz.prog) (w:=w1) (T:=3) zero_int
 obtain ⟨w3,c1,c2,c3,c4⟩:=new_u (P:=Tryz.prog) (w:=w2) (T:=3) zero_int
 obtain ⟨w4,e1,e2,e3,e4⟩:=(b2.keep c3 id).put1 (P:=Tryz.prog) (T:=3) (v:=.int .i64 0) sc_int rfl
 have s12:=b2.lt
 have ne1:¬ w2.heap.size=w1.heap.size:=by omega
 obtain ⟨w5,f1,f2,f3,f4⟩:=(c2.keep e3 ne1).put1 (P:=Tryz.prog) (T:=3) (v:=.int .i64 0) sc_int rfl
 have p4:=e2.keep f3 (fun e=>ne1 e.symm)
 have s1:=a2.lt
 have p1:AtU w5 w.heap.size 0 [.pointer none]:=(((a2.keep b3 id).keep c3 id).keep e3 (fun e=>by have e:w.heap.size=w1.heap.size:=e; omega)).keep f3 (fun e=>by have e:w.heap.size=w2.heap.size:=e; omega)
 exact ⟨_,w1,a1,_,w2,b1,_,w3,c1,w4,e1,w5,f1,_,p1.at.one sc_palloc,tt rfl ⟨_,p4.drew.at.one sc_int,_,f2.drew.at.one sc_int,hk _ (((((a3.no b3).no c3).own e3 (by omega)).own f3 (by omega)).drew)⟩⟩
end
end Go.Proofs.YtelhlihjihklbaaGreat
end
section
open Go Go.Den Go.Proofs
namespace Go.Proofs.YtelhlihjihklbaaGreat
end Go.Proofs.YtelhlihjihklbaaGreat
namespace Go.Den
def ptrS (P:Program) (T:TypeId):Bool:=match P.underlying T with
 | some (.pointer e)=>(match P.info? e with | some i=>!Nat.beq i.size 0 | none=>false)
 | _=>false
theorem ptrS_is {P:Program} {T:TypeId} (h:ptrS P T=true):∃ e i,P.underlying T=some (.pointer e)/\P.info? e=some i/\i.size≠0:=by
 unfold ptrS at h
 split at h
 ·rename_i e he
  split at h
  ·rename_i i hi
   exact ⟨e,i,he,hi,fun x=>by rw [x] at h; cases h⟩
  ·cases h
 ·cases h
theorem eq_ptr {P:Program} {T:TypeId} (h:ptrS P T=true) (q:Nat) (w:World) {o1 o2:Operand}:(eqS .eql T o1 o2 (.pointer (some ⟨q,0,none⟩)) (.pointer (some ⟨q,0,none⟩))).run P w=.ok (.bool true) w:=by
 obtain ⟨e,i,h1,h2,h3⟩:=ptrS_is h
 rw [eqS_run (fun w=>by rfl)]
 have:(Op.equalIn (9999+1) T (.pointer (some ⟨q,0,none⟩)) (.pointer (some ⟨q,0,none⟩))).run P w=.ok true w:=by
  rw [Op.equalIn]
  simp only [Sem.run_bind,run_und h1,Result.andThen_ok,sizeOf,typeInfo]
  simp [h2,h3,sameAddr]
 show ((Op.equal T _ _ >>= fun b=>pure (Value.bool b)).run P w)=_
 simp only [Sem.run_bind]
 show ((Op.equalIn (9999+1) T _ _).run P w).andThen _=_
 rw [this]; rfl
end Go.Den
namespace Go.Proofs.YtelhlihjihklbaaGreat
def gE (g:Gm):Gm:=if gOk g=true/\gSize g<=200 then g else gKn
def dE (g:Gm):St:=fmtSt (newSt (gSize (gE g)).toNat) (gE g)
def nE (g:Gm):Int:=nextTo (dE g) (gE g) (gSlots (gE g)).toNat+1
def aE (g:Gm) (hs:List Hd) (k:Nat):Az:=⟨⟨1,gE g⟩,⟨⟨dE g,k,[]⟩,0,[]⟩,[],nE g,hs,fun _=>false⟩
theorem gE_ok (g:Gm):gOk (gE g)=true/\gSize (gE g)<=200:=by
 unfold gE
 split
 ·rename_i h; exact h
 ·exact ⟨by decide,by decide⟩
theorem gE_sz (g:Gm):gSize (gE g)=2+(gE g).gs*(gE g).gr/\18<=gSize (gE g):=by
 have h:=(gE_ok g).1
 have e:gSize (gE g)=2+(gE g).gs*(gE g).gr:=by unfold gSize; rw [if_pos h]
 obtain ⟨h1,_,h3,_⟩:=gOk_iff.1 h
 have:1*16<=(gE g).gs*(gE g).gr:=Int.mul_le_mul h3 h1 (by omega) (by omega)
 exact ⟨e,by omega⟩
theorem bndN (k:Nat):Bnd (newSt k) 1:=fun v hv=>by
 have:=List.eq_of_mem_replicate hv
 subst this; simp
theorem build_g16 (w:World):(Instr.build 40 #[(0,.int .i64 16),(1,.int .i64 8),(2,.int .i64 2)]).run Tryz.prog w=.ok (.agg ⟨gV gKn⟩) w:=by kernel_rfl
theorem eq_pvol (w:World) {o1 o2:Operand} (q:Nat):(eqS .eql 31 o1 o2 (.pointer (some ⟨q,0,none⟩)) (.pointer (some ⟨q,0,none⟩))).run Tryz.prog w=.ok (.bool true) w:=eq_ptr (by kernel_rfl) q w
section
variable {w wb w':World} {R R0 R':Nat->Prop} {N a v d:Nat} {A:Az} {hs:List Hd} {K:Value->World->Prop}
set_option maxRecDepth 8000 in
theorem open14_c {g:Gm} (hm:mnt (dE g)=(⟨1,gE g⟩,0)) (hH:∀ k,HdsAt ⟨⟨dE g,k,[]⟩,0,[]⟩ (gE g) hs)
  (hk:∀ w' R a v d k r vr wm,Mod No w w'->Ao R w' a v d (aE g hs k)->(∀ z,R z->w.heap.size<=z)->AtU w' r 0 [.pointer (some ⟨vr,0,none⟩),.slice none 0 0]->Rg wm w' vr ⟨1,gE g⟩ (dE g) (nE g)->¬ R r->w.heap.size<=d ->
   K (.tuple #[.pointer (some ⟨a,0,none⟩),.pointer (some ⟨r,0,none⟩),.bool true]) w') :
  Cal Tryz.prog F_leveelaw14_open #[.agg ⟨gV g⟩] w K:=by
 apply C_leveelaw14_open
 unfold D_leveelaw14_open
 obtain ⟨w1,b1,b2,b3,b4⟩:=box_u (P:=Tryz.prog) (w:=w) (T:=40) (cs:=gV g)
 obtain ⟨hok,h200⟩:=gE_ok g
 obtain ⟨hsz,h18⟩:=gE_sz g
 refine ⟨_,w1,b1,Share.cut (fun z w4=>Mod No w1 w4/\z=[.bool (decide (¬ (gOk g=true/\gSize g<=200)))]) ⟨_,b2.at.all agg_geo rfl,rgRight_c fun w2 m2=>⟨_,rfl,cond_of (fun h=>⟨m2,?_⟩) (fun h=>⟨_,(b2.keep m2 id).at.all agg_geo rfl,rgSize_c fun w3 m3=>⟨_,rfl,m2.no m3,?_⟩⟩)⟩⟩ ?_⟩
 ·rw [decide_eq_true (show ¬ (gOk g=true/\gSize g<=200) from fun e=>by rw [e.1] at h; cases h)]
 ·have h:gOk g=true:=by simpa using h
  congr 2
  exact decide_eq_decide.2 ⟨fun e x=>by omega,fun e=>by
   have:¬ gSize g<=200:=fun x=>e ⟨h,x⟩
   omega⟩
 rintro z w4 ⟨m4,rfl⟩
 refine ⟨_,rfl,Share.cut (fun z w6=>Mod No w w6/\AtU w6 w.heap.size 0 (gV (gE g))) ?_ ?_⟩
 ·refine cond_of (fun h=>⟨_,build_g16,?_⟩) (fun h=>?_)
  ·have h:=of_decide_eq_true h
   have e:gE g=gKn:=by unfold gE; rw [if_neg h]
   obtain ⟨w5,c1,c2,c3,c4⟩:=(b2.keep m4 id).put (T:=40) (vs:=gV gKn) agg_geo rfl rfl (one_gV _)
   rw [e]
   exact ⟨w5,c1,(b3.no m4).own c3 (Nat.le_refl _),c2⟩
  ·have h:=Classical.not_not.1 (of_decide_eq_false h)
   have e:gE g=g:=by unfold gE; rw [if_pos h]
   rw [e]
   exact ⟨b3.no m4,b2.keep m4 id⟩
 rintro z w6 ⟨m6,q6⟩
 refine ⟨_,q6.at.all agg_geo rfl,rgSize_c fun w7 m7=>⟨_,rfl,?_⟩⟩
 have hz6:=m6.size
 have hz7:=m7.size
 have hql:=q6.lt
 refine New_c (by omega) (by omega) (fun h=>by omega) fun k hk' _ _ w8 d sb mb m8 hD=>⟨_,_,rfl,_,((q6.keep m7 id).keep m8 id).at.all agg_geo rfl,rgSize_c fun w9 m9=>⟨_,rfl,?_⟩⟩
 have hkn:(gSize (gE g)).toNat=k:=by omega
 have hz8:=m8.size
 have hz9:=m9.size
 refine refNew_c (by omega) (by omega) (fun h=>by omega) fun k2 hk2 _ _ w10 e vb vc hsr m10 hR=>⟨_,_,rfl,?_⟩
 have:k2=k:=by omega
 subst this
 have hz10:=m10.size
 have q10:=(((q6.keep m7 id).keep m8 id).keep m9 id).keep m10 id
 have hD10:=(hD.nos m9).nos m10
 have hfE:fmtE (newSt k2) (gE g)=0:=by
  unfold fmtE
  rw [if_neg (by rw [hok]; decide),if_neg (by simp [newSt]; omega)]
 have eD:dE g=fmtSt (newSt k2) (gE g):=by unfold dE; rw [hkn]
 have hlen:(dE g).vs.length=k2:=by rw [eD,fmtSt_len]; simp [newSt]
 have hrun:(dE g).left=-1:=by rw [eD]; exact fmtSt_run rfl _
 have hbnd:Bnd (dE g) 1:=by rw [eD]; exact fmtSt_bnd rfl _
 refine ⟨_,q10.at.all agg_geo rfl,vFormat_c (g:=gE g) hD10 rfl (bndN k2) (fun h=>absurd hfE h) fun _ wa Na w11 ma Xa=>⟨_,rfl,?_⟩⟩
 rw [<- eD] at Xa
 have hza:=ma.size
 have hXs:=Xa.mod.size
 have q11:AtU w11 w.heap.size 0 (gV (gE g)):=(q10.keep ma id).keep Xa.mod (fun e=>by have e:w7.heap.size<=w.heap.size/\_:=e; omega)
 have hR11:=(hR.nos ma).keep Xa.mod fun x hx e=>by have hx:w9.heap.size<=x/\x<w10.heap.size:=hx; have e:w7.heap.size<=x/\x<w8.heap.size:=e; omega
 refine ⟨_,q11.at.all agg_geo rfl,rFormat_c (g:=gE g) hR11 rfl (bndN k2) (fun h=>absurd hfE h) fun _ wc Nc w12 mc Xc=>⟨_,rfl,?_⟩⟩
 rw [<- eD] at Xc
 have hzc:=mc.size
 have hXc:=Xc.mod.size
 obtain ⟨Ra,sba,mba,sca,La,a1,a2,a3,a4⟩:=Xa
 obtain ⟨Rc,vbc,vcc,hsc,c1,c2,c3,c4⟩:=Xc
 have hRa:∀ x,Ra x->w7.heap.size<=x/\¬ (w9.heap.size<=x/\x<w10.heap.size)/\x<w11.heap.size:=fun x hx=>by
  have:=(a2 x hx).2
  rcases (a2 x hx).1 with e | e
  ·have e:w7.heap.size<=x/\x<w8.heap.size:=e
   omega
  ·omega
 have hRc:∀ x,Rc x->w9.heap.size<=x/\((w9.heap.size<=x/\x<w10.heap.size)\/w11.heap.size<=x)/\x<w12.heap.size:=fun x hx=>by
  have:=(c2 x hx).2
  rcases (c2 x hx).1 with e | e
  ·have e:w9.heap.size<=x/\x<w10.heap.size:=e
   omega
  ·omega
 have hD12:=(a1.nos mc).keep c3 fun x hx e=>(hRa x hx).2.1 e
 have M8:Mod No w w8:=(m6.no m7).no m8
 have M10:Mod No w w10:=(M8.no m9).no m10
 have M11:Mod No w w11:=(M10.no ma).trans a3 fun x hx e=>by have e:w7.heap.size<=x/\x<w8.heap.size:=e; omega
 have M12:Mod No w w12:=(M11.no mc).trans c3 fun x hx e=>by have e:w9.heap.size<=x/\x<w10.heap.size:=e; omega
 have hsm:Small (dE g):=BndS hbnd (by omega)
 have hdR:=a1.rb
 refine vMount_c (w0:=w) hD12 hsm (fun x hx=>⟨by have:=hRa x hx; omega,hD12.lt x hx⟩) M12 hrun (fun h=>absurd (by rw [hm]) h) fun _ w13 N13 v X13=>⟨_,_,rfl,?_⟩
 rw [hm] at X13
 have X13:Vg w12 Ra N13 w13 v d ⟨1,gE g⟩ (dE g) (nE g):=X13
 have hz13:=X13.mod.size
 have hc13:=c1.keep X13.mod fun x hx e=>by have:=hRa x e; have:=hRc x hx; omega
 have M13:Mod No w w13:=M12.trans X13.mod fun x hx e=>by have:=hRa x e; omega
 refine rMount_c (w0:=w) hc13 hsm (fun x hx=>⟨by have:=hRc x hx; omega,by have:=hRc x hx; omega⟩) M13 (fun h=>absurd (by rw [hm]) h) fun _ w14 vr Y14=>⟨_,_,rfl,?_⟩
 rw [hm] at Y14
 have Y14:Rg w13 w14 vr ⟨1,gE g⟩ (dE g) (nE g):=Y14
 have m14:=Y14.mod
 refine Share.cut (fun z w15=>w15=w14/\z=[.bool false]) (ff rfl ⟨rfl,rfl⟩) ?_
 rintro z w15 ⟨rfl,rfl⟩
 refine ⟨_,rfl,ff rfl ?_⟩
 obtain ⟨Rv,kc,hV,hlo⟩:=(X13.nos m14).vu
 refine aNew_c hV (hH kc) fun w16 R16 a m16 s16 h16 ha=>⟨_,rfl,?_⟩
 apply Share.cut (fun z w19=>∃ r,Mod No w w19/\Ao R16 w19 a v d (aE g hs kc)/\AtU w19 r 0 [.pointer (some ⟨vr,0,none⟩),.slice none 0 0]/\Rg w13 w19 vr ⟨1,gE g⟩ (dE g) (nE g)/\¬ R16 r/\z=[.pointer (some ⟨a,0,none⟩),.pointer (some ⟨r,0,none⟩),.bool true])
 ·apply C_leveeref14_New
  unfold D_leveeref14_New
  obtain ⟨w17,e1,e2,e3,e4⟩:=box_u (P:=Tryz.prog) (w:=w16) (T:=82) (cs:=[.pointer (some ⟨vr,0,none⟩),.slice none 0 0])
  refine ⟨_,fun w=>by kernel_rfl,_,w17,e1,_,rfl,tt rfl (aVol_c (h16.nos e3) ⟨_,rfl,_,eq_pvol _ _,_,((M13.no m14).no m16).no e3,h16.nos e3,e2,(Y14.nos m16).nos e3,fun e=>by have:=h16.lt _ e; omega,rfl⟩)⟩
 rintro z w19 ⟨r,m19,h19,r19,y19,n19,rfl⟩
 refine ⟨_,rfl,_,rfl,_,rfl,hk w19 R16 a v d kc r vr w13 m19 h19 (fun z hz=>?_) r19 y19 n19 (by have:=hRa d hdR; omega)⟩
 have hda:=hRa d hdR
 have hz14:=m14.size
 rcases s16 z hz with e | e
 ·rcases hlo z e with e | e | e
  ·have:=hRa z e; omega
  ·omega
  ·omega
 ·omega
end
end Go.Proofs.YtelhlihjihklbaaGreat
end
section
open Go Go.Den Go.Proofs
namespace Go.Proofs.YtelhlihjihklbaaGreat
def hK0:List Hd:=[hBase gKn 0,hBase gKn 1]
theorem gE_kn:gE gKn=gKn:=by decide
theorem dE_kn:dE gKn=dKn:=by
 unfold dE dKn
 rw [gE_kn]; rfl
theorem atK:atD dKn 2=grpB gKn (hBase gKn 0)/\atD dKn 18=grpB gKn (hBase gKn 1):=by decide +kernel
theorem okK:hOk gKn (hBase gKn 0)=true/\hOk gKn (hBase gKn 1)=true:=by decide +kernel
theorem contV_0 (D:St) (k b:Nat):contV ⟨⟨D,k,[]⟩,0,[]⟩ b=atD D b:=rfl
theorem hdsK (k:Nat):HdsAt ⟨⟨dE gKn,k,[]⟩,0,[]⟩ (gE gKn) hK0:=by
 rw [gE_kn,dE_kn]
 refine ⟨by decide,?_,by decide,fun j h hj=>?_⟩
 ·show gSize gKn<=(dKn.vs.length:Int)
  have:dKn.vs.length=34:=(fmtSt_len _ _).trans (by simp [newSt])
  rw [this]; decide
 ·match j,hj with
  | 0,hj=>cases hj; exact ⟨by rw [contV_0,show (2+((0:Nat):Int)*gKn.gr).toNat=2 by decide]; exact atK.1,okK.1,rfl,hBase_wf _ _⟩
  | 1,hj=>cases hj; exact ⟨by rw [contV_0,show (2+((1:Nat):Int)*gKn.gr).toNat=18 by decide]; exact atK.2,okK.2,rfl,hBase_wf _ _⟩
  | j+2,hj=>cases hj
def fK:Int->Bool:=fun _=>false
def hK1:List Hd:=hK0.set 0 (useX true gKn (hK0.getD 0 hZ) 3 true).1
def hK2:List Hd:=hK1.set 0 (useX true gKn (hK1.getD 0 hZ) 4 true).1
def hK3:List Hd:=hK2.set 0 (useX false gKn (hK2.getD 0 hZ) 2 true).1
theorem tK1:takeTo gKn hK0 fK (findX true gKn) (spB gKn 0).1 (spB gKn 0).2.1 (spB gKn 0).2.2 gKn.gs.toNat=some (0,3):=by decide +kernel
theorem tK2:takeTo gKn hK1 fK (findX true gKn) (spB gKn 5).1 (spB gKn 5).2.1 (spB gKn 5).2.2 gKn.gs.toNat=some (0,4):=by decide +kernel
theorem tK3:takeTo gKn hK2 fK (findX false gKn) (spS gKn 1).1 (spS gKn 1).2.1 (spS gKn 1).2.2 gKn.gs.toNat=some (0,2):=by decide +kernel
theorem bK:((spB gKn 5).2.2&&bitB (hK3.getD (spB gKn 5).1.toNat hZ).bs (spB gKn 5).2.1.toNat)=true/\((spB gKn 7).2.2&&bitB (hK3.getD (spB gKn 7).1.toNat hZ).bs (spB gKn 7).2.1.toNat)=false:=by decide +kernel
theorem fK3:hFree gKn (hK3.getD 0 hZ)=(11,5)/\hFree gKn (hK3.getD 1 hZ)=(13,8):=by decide +kernel
theorem useX_wf' {kd:Bool} {g:Gm} {h:Hd} {i:Int} {on:Bool} (hw:hWf h):hWf (useX kd g h i on).1:=useX_wf hw i on
theorem sethA_last {A:Az} {k:Nat} {x:Hd} (h:HdsAt A.V A.s.geo A.hs) (hk:(k:Int)<A.s.geo.gs) (hw:hWf x):(sethA A k x).V.last=A.V.last+1:=patS_last (setH_E h hk hw)
section
variable {w:World} {K:Value->World->Prop}
set_option maxRecDepth 8000 in
theorem known14_c (hk:∀ w',Mod No w w'->K (.bool true) w'):Cal Tryz.prog F_leveelaw14_known #[] w K:=by
 apply C_leveelaw14_known
 unfold D_leveelaw14_known
 refine ⟨_,build_g16,open14_c (g:=gKn) (hs:=hK0) (by rw [dE_kn,gE_kn]; exact kn_mnt) hdsK fun w1 R a v d k r vr wm m1 h1 hlo _ _ _ _=>⟨_,_,_,rfl,ff rfl ?_⟩⟩
 have eA:aE gKn hK0 k=⟨⟨1,gKn⟩,⟨⟨dE gKn,k,[]⟩,0,[]⟩,[],nE gKn,hK0,fK⟩:=by unfold aE; rw [gE_kn]; rfl
 rw [eA] at h1
 generalize nE gKn=nx at h1
 generalize dE gKn=D at h1
 have base:∀ {w2:World} {R2:Nat->Prop} {w3:World},Mod No w w2->Mod R2 w2 w3->(∀ z,R2 z->w.heap.size<=z)->Mod No w w3:=fun h1 h2 h3=>h1.trans h2 fun x hx e=>by have:=h3 x e; omega
 have up:∀ {R2 R3:Nat->Prop} {w2:World},Sb R2 R3 w2->w.heap.size<=w2.heap.size->(∀ z,R2 z->w.heap.size<=z)->∀ z,R3 z->w.heap.size<=z:=fun h1 h2 h3 z hz=>by
  rcases h1 z hz with e | e
  ·exact h3 z e
  ·omega
 -- the first block
 refine aBlock_c (by omega) h1 (by show 0+1<=1000000; omega) fun w2 R2 m2 s2 h2=>⟨_,_,_,rfl,?_⟩
 have e2:blockA ⟨⟨1,gKn⟩,⟨⟨D,k,[]⟩,0,[]⟩,[],nx,hK0,fK⟩ 0=(sethA ⟨⟨1,gKn⟩,⟨⟨D,k,[]⟩,0,[]⟩,[],nx,hK0,fK⟩ 0 (useX true gKn (hK0.getD 0 hZ) 3 true).1,5,1,0):=by
  unfold blockA
  rw [tK1]; rfl
 rw [e2] at h2 |-
 dsimp only at h2 |-
 have l2:(sethA ⟨⟨1,gKn⟩,⟨⟨D,k,[]⟩,0,[]⟩,[],nx,hK0,fK⟩ 0 (useX true gKn (hK0.getD 0 hZ) 3 true).1).V.last=1:=sethA_last h1.hd (by show ((0:Nat):Int)<2; decide) (useX_wf' (hBase_wf _ _))
 have M2:=base m1 m2 hlo
 have L2:=up s2 m1.size hlo
 obtain ⟨V2,hV2⟩:∃ V2,sethA ⟨⟨1,gKn⟩,⟨⟨D,k,[]⟩,0,[]⟩,[],nx,hK0,fK⟩ 0 (useX true gKn (hK0.getD 0 hZ) 3 true).1=⟨⟨1,gKn⟩,V2,[],nx,hK1,fK⟩:=⟨_,rfl⟩
 rw [hV2] at h2 l2
 have l2:V2.last=1:=l2
 -- the second one
 refine aBlock_c (by omega) h2 (by show V2.last+1<=1000000; omega) fun w3 R3 m3 s3 h3=>⟨_,_,_,rfl,?_⟩
 have e3:blockA ⟨⟨1,gKn⟩,V2,[],nx,hK1,fK⟩ 5=(sethA ⟨⟨1,gKn⟩,V2,[],nx,hK1,fK⟩ 0 (useX true gKn (hK1.getD 0 hZ) 4 true).1,6,(V2.last:Int)+1,0):=by
  unfold blockA
  rw [tK2]; rfl
 rw [e3,l2] at h3 |-
 dsimp only at h3 |-
 have l3:(sethA ⟨⟨1,gKn⟩,V2,[],nx,hK1,fK⟩ 0 (useX true gKn (hK1.getD 0 hZ) 4 true).1).V.last=V2.last+1:=sethA_last h2.hd (by show ((0:Nat):Int)<2; decide) (useX_wf' (useX_wf' (hBase_wf _ _)))
 have M3:=base M2 m3 L2
 have L3:=up s3 M2.size L2
 obtain ⟨V3,hV3⟩:∃ V3,sethA ⟨⟨1,gKn⟩,V2,[],nx,hK1,fK⟩ 0 (useX true gKn (hK1.getD 0 hZ) 4 true).1=⟨⟨1,gKn⟩,V3,[],nx,hK2,fK⟩:=⟨_,rfl⟩
 rw [hV3] at h3 l3
 have l3:V3.last=V2.last+1:=l3
 -- a slot
 refine aSlot_c (by omega) h3 (by show V3.last+1<=1000000; omega) fun w4 R4 m4 s4 h4=>⟨_,_,_,rfl,?_⟩
 have e4:slotA ⟨⟨1,gKn⟩,V3,[],nx,hK2,fK⟩ 1=(sethA ⟨⟨1,gKn⟩,V3,[],nx,hK2,fK⟩ 0 (useX false gKn (hK2.getD 0 hZ) 2 true).1,2,(V3.last:Int)+1,0):=by
  unfold slotA
  rw [tK3]; rfl
 rw [e4,l3,l2] at h4 |-
 dsimp only at h4 |-
 have M4:=base M3 m4 L3
 have L4:=up s4 M3.size L3
 obtain ⟨V4,hV4⟩:∃ V4,sethA ⟨⟨1,gKn⟩,V3,[],nx,hK2,fK⟩ 0 (useX false gKn (hK2.getD 0 hZ) 2 true).1=⟨⟨1,gKn⟩,V4,[],nx,hK3,fK⟩:=⟨_,rfl⟩
 rw [hV4] at h4
 refine aFree_c h4 fun w5 R5 m5 s5 h5=>⟨_,_,rfl,?_⟩
 have e5:freeA ⟨⟨1,gKn⟩,V4,[],nx,hK3,fK⟩ gKn.gs.toNat=(24,13):=by
  show freeA ⟨⟨1,gKn⟩,V4,[],nx,hK3,fK⟩ 2=(24,13)
  have f0:freeA ⟨⟨1,gKn⟩,V4,[],nx,hK3,fK⟩ 1=(0+(hFree gKn (hK3.getD 0 hZ)).1,0+(hFree gKn (hK3.getD 0 hZ)).2):=rfl
  have f1:freeA ⟨⟨1,gKn⟩,V4,[],nx,hK3,fK⟩ 2=((freeA ⟨⟨1,gKn⟩,V4,[],nx,hK3,fK⟩ 1).1+(hFree gKn (hK3.getD 1 hZ)).1,(freeA ⟨⟨1,gKn⟩,V4,[],nx,hK3,fK⟩ 1).2+(hFree gKn (hK3.getD 1 hZ)).2):=rfl
  rw [f1,f0,fK3.1,fK3.2]; rfl
 rw [show (⟨⟨1,gKn⟩,V4,[],nx,hK3,fK⟩:Az).s.geo=gKn from rfl,e5]
 have M5:=base M4 m5 L4
 have L5:=up s5 M4.size L4
 refine Share.dup (tt rfl (tt rfl (tt rfl (tt rfl (tt rfl (tt rfl (tt rfl (tt rfl (tt rfl (tt rfl (tt rfl ?_)))))))))))
 refine aTaken_c (by omega) h5 fun w6 R6 m6 s6 h6=>⟨_,rfl,tt bK.1 ?_⟩
 have M6:=base M5 m6 L5
 have L6:=up s6 M5.size L5
 refine aTaken_c (by omega) h6 fun w7 R7 m7 s7 h7=>⟨_,rfl,_,rfl,?_⟩
 have e7:takenA ⟨⟨1,gKn⟩,V4,[],nx,hK3,fK⟩ 7=false:=bK.2
 rw [e7]
 exact hk w7 (base M6 m7 L6)
theorem AllocNil_c {n i:Int}:Cal Tryz.prog F_leveelaw14_AllocNil #[.int .i64 n,.int .i64 i] w (fun v w'=>v=.bool true/\Mod No w w'):=by
 apply C_leveelaw14_AllocNil
 unfold D_leveelaw14_AllocNil
 refine nNew_c ⟨_,rfl,nBlock_c ⟨_,_,_,rfl,nSlot_c ⟨_,_,_,rfl,nFree_c fun w4 m4=>⟨_,_,rfl,nUsed_c ⟨_,_,_,rfl,?_⟩⟩⟩⟩⟩
 refine Share.dup (tt rfl (nVol_c ⟨_,rfl,tt rfl (tt rfl (tt rfl (nFreeB_c ⟨_,rfl,tt rfl (nFreeS_c ⟨_,rfl,tt rfl (nSettle_c ⟨_,rfl,tt rfl (tt rfl (tt rfl (nFreeze_c ⟨_,rfl,tt rfl (nFrozen_c ⟨_,rfl,tt rfl (tt rfl (nTaken_c ⟨_,rfl,tt rfl ?_⟩))⟩)⟩)))⟩)⟩)⟩)))⟩))
 exact known14_c fun w5 m5=>⟨_,rfl,_,rfl,rfl,m4.no m5⟩
end
end Go.Proofs.YtelhlihjihklbaaGreat
end
