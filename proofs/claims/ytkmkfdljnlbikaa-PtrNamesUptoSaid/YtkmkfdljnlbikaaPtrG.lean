/- The statement PtrNames: blocks of names. -/
import Derived.Test.YtkmkfdljnlbikaaRef9
open Go Go.Den Go.Proofs
namespace Go.Proofs.Ytkmkfdljnlbikaa

theorem PtrNames_c {a : Option Addr} {l c : Nat} {xs : List UInt8} {i nm : Int} {w : World} (hl : xs.length = l) (hr : Row w a (u8L xs)) (h0 : a = none → l = 0 ∧ c = 0) (hc : l ≤ c) (h63 : l ≤ 1048576) :
    Cal Try.prog F_leveelaw09_PtrNames #[.slice a l c, .int .i64 i, .int .i64 nm] w (fun v w' => v = .bool true ∧ Mod No w w') := by
  apply C_leveelaw09_PtrNames
  unfold D_leveelaw09_PtrNames
  refine Lent_c hl hr h0 h63 fun w1 b cap hb m1 hlent => ⟨_, _, _, rfl, ?_⟩
  have hcap := hlent.2.1
  refine NamesG_c hl hlent.row (by omega) fun w2 a2 c2 m2 r2 => ⟨_, _, _, _, rfl, ?_⟩
  refine refNames_c hl (hr.nos (m1.no m2)) hc fun w3 a3 c3 m3 r3 => ⟨_, _, _, _, rfl, ?_⟩
  have M3 := m2.no m3
  refine LayG_c hl (hlent.keep M3 id).row (by omega) fun w4 a4 c4 m4 r4 f4 => ⟨_, _, _, _, rfl, ?_⟩
  have M4 := M3.no m4
  refine refLay_c hl (hr.nos (m1.no M4)) h0 hc fun w5 a5 c5 m5 r5 => ⟨_, _, _, _, rfl, ?_⟩
  have M5 := M4.no m5
  refine Share.cut (fun z w' => z = [.bool false] ∧ Mod No w5 w') ?_ ?_
  · refine Ints_c rfl (r2.nos ((m3.no m4).no m5)) (r3.nos (m4.no m5)) (by unfold nsOf; split <;> simp [namesS]) fun w6 m6 => ⟨_, rfl, ff rfl (ff (by simp) ?_)⟩
    refine ⟨_, str_run (by kernel_rfl) (r4.nos (m5.no m6)) rfl, _, str_run (by kernel_rfl) (r5.nos m6) rfl, ff (by simp) (ff (by simp) ?_)⟩
    exact Kept_c (hlent.keep (M5.no m6) id) rfl (hr.nos (m1.no (M5.no m6))) h63 fun w7 m7 => ⟨_, rfl, rfl, m6.no m7⟩
  rintro z w8 ⟨rfl, m8⟩
  have M8 := M5.no m8
  refine ⟨_, rfl, ff rfl (cond_of (fun hb => ?_) (fun hb => ?_))⟩
  · exact known_c fun w9 m9 => ⟨_, rfl, rfl, (m1.no M8).no m9⟩
  have he : lyE xs i nm = 0 := by simpa using hb
  obtain ⟨rfl, b4, rfl, hb4, at4⟩ := f4 he
  have hcond : xs.length = 256 ∧ ¬ (i < 0 ∨ 64 ≤ i) ∧ ¬ (nm < 0 ∨ 4096 ≤ nm) := by
    unfold lyE at he
    split at he
    · omega
    · split at he
      · omega
      · split at he
        · omega
        · rename_i h1 h2 h3; exact ⟨by omega, h2, h3⟩
  obtain ⟨hl256, hi, hn⟩ := hcond
  obtain ⟨j, rfl⟩ := Int.eq_ofNat_of_zero_le (show 0 ≤ i by omega)
  obtain ⟨m, rfl⟩ := Int.eq_ofNat_of_zero_le (show 0 ≤ nm by omega)
  have hL : lyL xs (j : Int) (m : Int) = layN xs j m := by unfold lyL; rw [if_pos he]; rfl
  rw [hL] at at4 ⊢
  have hlen : (layN xs j m).length = 256 := by
    unfold layN; simp only [List.length_append, List.length_take, List.length_drop, length_toLe]; omega
  have r8 : Row w8 (some ⟨b4, 0, none⟩) (u8L (layN xs j m)) := (Row.nos (.inr ⟨_, _, rfl, at4.at⟩) m5).nos m8
  have hns : nsOf xs = namesS xs := by unfold nsOf; rw [if_pos hl256]
  rw [hns] at r3 ⊢
  refine NamesG_c rfl r8 (by omega) fun w9 a9 c9 m9 r9 => ⟨_, _, _, _, rfl, ?_⟩
  have hns9 : nsOf (layN xs j m) = namesS (layN xs j m) := by unfold nsOf; rw [if_pos hlen]
  have hne9 : neOf (layN xs j m) = 0 := by unfold neOf; rw [if_pos hlen]
  have hl9 : (namesS (layN xs j m)).length = 64 := by simp [namesS]
  have hl3 : (namesS xs).length = 64 := by simp [namesS]
  rw [hns9] at r9 ⊢
  rw [hne9, hl9]
  refine Share.or ⟨_, rfl, ff rfl ?_⟩
  have M9 := M8.no m9
  have r3' := (((r3.nos m4).nos m5).nos m8).nos m9
  have hne : ∀ ys : List UInt8, ¬ iL (namesS ys) = [] := fun ys e => by have := congrArg List.length e; simp [namesS] at this
  obtain ⟨p3, o3, rfl, at3⟩ := r3'.resolve_left (hne _)
  obtain ⟨p9, o9, rfl, at9⟩ := r9.resolve_left (hne _)
  rw [hl3]
  refine ⟨fun x w' => ∃ (n : Nat) (y : Value), n ≤ 64 ∧ x = [.bool false, .int .i64 n, y] ∧ Mod No w9 w', fun x _ => (64 - nI x 1).toNat, ⟨0, _, by omega, rfl, Mod.refl _ _⟩, ?_⟩
  rintro x w10 ⟨n, y, hn64, rfl, m10⟩
  refine ⟨_, rfl, cond_of (fun hb => ?_) (fun hb => ?_)⟩
  · have hn64 : n < 64 := by have := of_decide_eq_true hb; omega
    have hlaw := namesS_layN (m := m) hl256 (show j < 64 by omega) hn64 (by omega)
    have g9 : (namesS (layN xs j m))[n]'(by omega) = nameAt (layN xs j m) n := by simp [namesS]
    have g3 : (namesS xs)[n]'(by omega) = nameAt xs n := by simp [namesS]
    have A9 := (at9.keep m10 id).drew
    have A3 := (at3.keep m10 id).drew
    have l9 := A9.load (P := Try.prog) (T := 3) (by kernel_rfl) (iL_get (show n < (namesS (layN xs j m)).length by omega))
    have l3 := A3.load (P := Try.prog) (T := 3) (by kernel_rfl) (iL_get (show n < (namesS xs).length by omega))
    rw [g9] at l9
    rw [g3] at l3
    have ix : ∀ p o : Nat, ∀ c, Al (Instr.indexAt 42 (.slice (some ⟨p, o, none⟩) 64 c) (.int .i64 n)) (.pointer (some ⟨p, o + n, none⟩)) := by
      intro p o c w'
      have := index_slice (P := Try.prog) (T := 42) (k := 1) (a := ⟨p, o, none⟩) (n := 64) (c := c) (kk := .i64) (i := n) (by kernel_rfl) (by omega) (by omega) w'
      rw [add_none, show (n : Int).toNat * 1 = n by omega] at this
      exact this
    refine Share.cut (fun z w' => z = [.bool false] ∧ Mod No w9 w') (cond_of (fun hb => ?_) (fun hb => ?_)) ?_
    · have hnj : n = j := by have : (n : Int) = j := by simpa using hb
                             omega
      rw [if_pos hnj] at hlaw
      rw [hlaw] at l9
      exact ⟨_, ix _ _ _, _, l9, ff (by simp) (ff (by simp [hnj]) ⟨rfl, m10.drew⟩)⟩
    · have hnj : ¬ n = j := by have : ¬ (n : Int) = j := by simpa using hb
                               omega
      rw [if_neg hnj] at hlaw
      rw [hlaw] at l9
      refine tt (by simp; omega) ⟨_, ix _ _ _, _, l9, _, ix _ _ _, _, l3, by simp, m10.drew⟩
    · rintro z w' ⟨rfl, m11⟩
      rw [wrap64 (x := (n : Int) + 1) (by omega) (by omega)]
      exact ⟨_, rfl, ff rfl ⟨⟨n + 1, _, by omega, rfl, m11⟩, by simp [nI, nth]; omega⟩⟩
  · have at10 : AtU w10 b4 0 (u8L (layN xs j m)) := ((at4.keep m5 id).keep m8 id |>.keep m9 id).keep m10 id
    refine Spoil_c at10 (Nat.le_refl _) (by omega) fun w11 m11 => ⟨rfl, Share.dup ?_⟩
    have M11 : Mod No w1 w11 := (M9.no m10).trans m11 fun x hx e => by have := M3.size; omega
    exact Kept_c (hlent.keep M11 id) rfl (hr.nos (m1.no M11)) h63 fun w12 m12 => ⟨_, rfl, tt rfl (known_c fun w13 m13 => ⟨_, rfl, _, rfl, rfl, ((m1.no M11).no m12).no m13⟩)⟩
end Go.Proofs.Ytkmkfdljnlbikaa
