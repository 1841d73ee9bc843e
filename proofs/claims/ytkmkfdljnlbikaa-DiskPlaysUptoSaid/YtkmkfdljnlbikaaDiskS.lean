/- The statement DiskSafe: behind a crash. -/
import Derived.Test.YtkmkfdljnlbikaaDiskG
import Derived.Test.YtkmkfdljnlbikaaTxtS
open Go Go.Den Go.Proofs
namespace Go.Den
/-- Rows of bytes in a row. -/
def Rows2 (w : World) (a : Option Addr) (xss : List (List UInt8)) : Prop :=
  xss = [] ∨ ∃ (b o : Nat) (H : List Value), a = some ⟨b, o, none⟩ ∧ At w b o H ∧ H.length = xss.length ∧ ∀ (r : Nat) (x : List UInt8), xss[r]? = some x → ∃ (ar : Option Addr) (cr : Nat), H[r]? = some (Value.slice ar x.length cr) ∧ Row w ar (u8L x) ∧ x.length ≤ 9223372036854775807
theorem Rows2.nos {w w' : World} {a : Option Addr} {xss : List (List UInt8)} (h : Rows2 w a xss) (m : Mod No w w') : Rows2 w' a xss := by
  rcases h with h | ⟨b, o, H, h1, h2, h3, h4⟩
  · exact .inl h
  · refine .inr ⟨b, o, H, h1, h2.keep m id, h3, fun r x hx => ?_⟩
    obtain ⟨ar, cr, e1, e2, e3⟩ := h4 r x hx
    exact ⟨ar, cr, e1, e2.nos m, e3⟩
end Go.Den
namespace Go.Proofs.Ytkmkfdljnlbikaa
section
variable {w : World} {D : St}
theorem wr_ok {i : Nat} {v : List Bk} {ys : List UInt8} (hv : D.vs[i]? = some v) (hy : ys.length = 256) (hl : D.left ≠ 0) : wrE D i ys = 0 ∧ wrSt D i ys = ⟨D.vs.set i (v ++ [ys]), dec D.left⟩ := by
  rcases err_cases (D := D) (i : Int) with ⟨_, ho⟩ | ⟨he, j, u, hj, hu, hver⟩
  · have := (List.getElem?_eq_some_iff.1 hv).1; omega
  · have : j = i := by omega
    subst this
    have : u = v := by rw [hu] at hv; exact Option.some.inj hv
    subst this
    have hw : wrE D j ys = 0 := by unfold wrE; rw [he, if_neg (by omega), if_neg (by omega)]
    refine ⟨hw, ?_⟩
    unfold wrSt; rw [if_neg (by omega), hver]; rfl
theorem rd_ok {i : Nat} {v : List Bk} (hv : D.vs[i]? = some v) : errOf D i = 0 ∧ rdB D i = lastV v := by
  rcases err_cases (D := D) (i : Int) with ⟨_, ho⟩ | ⟨he, j, u, hj, hu, hver⟩
  · have := (List.getElem?_eq_some_iff.1 hv).1; omega
  · have : j = i := by omega
    subst this
    have : u = v := by rw [hu] at hv; exact Option.some.inj hv
    subst this
    exact ⟨he, by unfold rdB; rw [if_pos he, hver]⟩
theorem pickV_mem {pick : List Int} {i : Nat} {v : List Bk} (hv : v ≠ []) : pickV D pick i v ∈ v := by
  have h := kOf_in pick ((openN D).idxOf i) v.tail.length
  have hl : v.tail.length = v.length - 1 := List.length_tail
  have hp := List.length_pos_iff.2 hv
  have hlt : (kOf pick ((openN D).idxOf i) v.tail.length).toNat < v.length := by omega
  unfold pickV
  rw [List.getD_eq_getElem?_getD, List.getElem?_eq_getElem hlt]
  exact List.getElem_mem hlt

def S0 (F : Bk) (ws : List Bk) : St := ⟨[[F], F :: ws], -1⟩
theorem S0_small {F : Bk} {ws : List Bk} (h : ws.length ≤ 20) : ∀ v ∈ (S0 F ws).vs, v.length ≤ 999999 := by
  intro v hv
  simp [S0] at hv
  rcases hv with rfl | rfl
  · simp
  · simp; omega

set_option maxRecDepth 100000 in
theorem DiskSafe_c {a0 a1 a2 : Option Addr} {l0 c0 l1 c1 l2 c2 : Nat} {xs : List UInt8} {xss : List (List UInt8)} {pick : List Int} (h0 : xs.length = l0) (r0 : Row w a0 (u8L xs)) (b0 : l0 ≤ 9223372036854775807)
    (h1 : xss.length = l1) (r1 : Rows2 w a1 xss) (h2 : pick.length = l2) (r2 : Row w a2 (iL pick)) (b2 : l2 ≤ 9223372036854775807) :
    Cal Try.prog F_leveelaw02_DiskSafe #[.slice a0 l0 c0, .slice a1 l1 c1, .slice a2 l2 c2] w (fun v w' => v = .bool true ∧ Mod No w w') := by
  apply C_leveelaw02_DiskSafe
  unfold D_leveelaw02_DiskSafe
  refine cond_of (fun hb => ?_) (fun hb => ?_)
  · exact known2_c fun w1 m1 => ⟨_, rfl, rfl, m1⟩
  have hl20 : l1 ≤ 20 := by have := of_decide_eq_false hb; omega
  have lF := length_fillB xs
  generalize hF : fillB xs = F at *
  refine Dk_New (n := 2) (by omega) (by omega) fun w1 b d1 => ⟨_, _, rfl, ff rfl ?_⟩
  refine Fill_c h0 (r0.nos d1.mod) b0 fun w2 q2 hq2 m2 at2 => ⟨_, _, _, rfl, ?_⟩
  rw [hF] at at2
  have d2 := d1.nos m2
  have e1 := wr_ok (D := newSt 2) (i := 0) (v := [zeroB]) (ys := F) rfl lF (show (-1 : Int) ≠ 0 by decide)
  refine Dk_Write d2 (fun v hv => by have := List.eq_of_mem_replicate hv; subst this; simp) (n := 0) lF (.inr ⟨_, _, rfl, at2.at⟩) (fun q hq => by cases hq; right; exact hq2) fun w3 d3 => ⟨_, rfl, ?_⟩
  have e1' : wrSt (newSt 2) 0 F = ⟨[[zeroB, F], [zeroB]], -1⟩ := e1.2
  rw [e1'] at d3
  refine Fill_c h0 (r0.nos d3.mod) b0 fun w4 q4 hq4 m4 at4 => ⟨_, _, _, rfl, ?_⟩
  rw [hF] at at4
  have e2 := wr_ok (D := ⟨[[zeroB, F], [zeroB]], -1⟩) (i := 1) (v := [zeroB]) (ys := F) rfl lF (show (-1 : Int) ≠ 0 by decide)
  refine Dk_Write (d3.nos m4) (fun v hv => by simp at hv; rcases hv with rfl | rfl <;> simp) (n := 1) lF (.inr ⟨_, _, rfl, at4.at⟩) (fun q hq => by cases hq; right; exact hq4) fun w5 d5 => ⟨_, rfl, ?_⟩
  have e2' : wrSt ⟨[[zeroB, F], [zeroB]], -1⟩ 1 F = ⟨[[zeroB, F], [zeroB, F]], -1⟩ := e2.2
  rw [e2'] at d5
  refine Dk_Flush d5 (fun v hv => by simp at hv; subst hv; simp) fun w6 d6 => ⟨_, rfl, ?_⟩
  have e3 : flSt ⟨[[zeroB, F], [zeroB, F]], -1⟩ = S0 F [] := rfl
  rw [e3] at d6
  refine ⟨fun x w' => ∃ j : Nat, j ≤ l1 ∧ x = [.int .i64 j] ∧ Dk w w'.heap.size w' b (S0 F ((xss.take j).map fillB)), fun x _ => (l1 - nI x 0).toNat, ⟨0, by omega, rfl, by simpa using d6⟩, ?_⟩
  rintro x w7 ⟨j, hj, rfl, d7⟩
  refine ⟨_, rfl, cond_of (fun hb => ?_) (fun hb => ?_)⟩
  · have hj : j < l1 := by have := of_decide_eq_true hb; omega
    obtain ⟨g, o, H, rfl, hH, hHl, hrow⟩ := (r1.nos d7.mod).resolve_left (fun e => by rw [e] at h1; simp at h1; omega)
    have hjx : xss[j]? = some xss[j] := by simp
    obtain ⟨ar, cr, hh, hr, hm⟩ := hrow j _ hjx
    refine ⟨_, index_slice (k := 1) (by kernel_rfl) (by omega) (by omega), ?_⟩
    rw [add_none, Int.toNat_natCast, Nat.mul_one]
    refine ⟨_, _, _, hH.load (by kernel_rfl) hh, ?_⟩
    refine Fill_c rfl hr hm fun w8 q8 hq8 m8 at8 => ⟨_, _, _, rfl, ?_⟩
    have e4 := wr_ok (D := S0 F ((xss.take j).map fillB)) (i := 1) (v := F :: (xss.take j).map fillB) (ys := fillB xss[j]) rfl (length_fillB _) (by simp [S0])
    refine Dk_Write (d7.nos m8) (S0_small (by simp; omega)) (n := 1) (length_fillB _) (.inr ⟨_, _, rfl, at8.at⟩) (fun q hq => by cases hq; right; exact hq8) fun w9 d9 => ⟨_, rfl, ?_⟩
    have e4' : wrSt (S0 F ((xss.take j).map fillB)) 1 (fillB xss[j]) = S0 F ((xss.take (j + 1)).map fillB) := by
      have := e4.2
      rw [List.take_succ_eq_append_getElem (by omega), List.map_append]
      exact this
    rw [e4'] at d9
    rw [wrap64 (x := (j : Int) + 1) (by omega) (by omega)]
    exact ⟨⟨j + 1, by omega, rfl, d9⟩, by simp [nI, nth]; omega⟩
  have hjl : j = l1 := by have := of_decide_eq_false hb; omega
  subst hjl
  have et : xss.take j = xss := List.take_of_length_le (by omega)
  rw [et] at d7
  have sm7 : Small (S0 F (xss.map fillB)) := Small.one (S0_small (by simp; omega))
  refine Dk_Crash d7 sm7 h2 (r2.nos d7.mod) (fun hp q hq => ?_) b2 fun w8 d8 => ⟨rfl, ?_⟩
  · left
    obtain ⟨b', o', e, hat⟩ := r2.resolve_left (fun e => hp (by simpa [iL] using e))
    rw [e] at hq; cases hq; exact hat.lt
  -- what the crash has left
  have hY := pickV_mem (D := S0 F (xss.map fillB)) (pick := pick) (i := 1) (v := F :: xss.map fillB) (by simp)
  have hX : pickV (S0 F (xss.map fillB)) pick 0 [F] = F := pickV_one rfl
  generalize hYd : pickV (S0 F (xss.map fillB)) pick 1 (F :: xss.map fillB) = Y at hY
  have e5 : crSt (S0 F (xss.map fillB)) pick = ⟨[[F], [Y]], -1⟩ := by
    unfold crSt put1
    have : (S0 F (xss.map fillB)).vs.mapIdx (fun i v => [pickV (S0 F (xss.map fillB)) pick i v]) = [[F], [Y]] := by
      have : (S0 F (xss.map fillB)).vs.mapIdx (fun i v => [pickV (S0 F (xss.map fillB)) pick i v]) = [[pickV (S0 F (xss.map fillB)) pick 0 [F]], [pickV (S0 F (xss.map fillB)) pick 1 (F :: xss.map fillB)]] := rfl
      rw [this, hX, hYd]
    rw [this]
  rw [e5] at d8
  have smE : Small ⟨[[F], [Y]], -1⟩ := fun v hv => by simp at hv; rcases hv with rfl | rfl <;> simp
  have lY : Y.length = 256 := by
    rcases List.mem_cons.1 hY with e | e
    · rw [e]; exact lF
    · obtain ⟨x, _, rfl⟩ := List.mem_map.1 e; exact length_fillB _
  have q0 := rd_ok (D := ⟨[[F], [Y]], -1⟩) (i := 0) (v := [F]) rfl
  have q1 := rd_ok (D := ⟨[[F], [Y]], -1⟩) (i := 1) (v := [Y]) rfl
  have q0b : rdB ⟨[[F], [Y]], -1⟩ 0 = F := q0.2
  have q1b : rdB ⟨[[F], [Y]], -1⟩ 1 = Y := q1.2
  refine Dk_Read d8 smE (n := 0) fun w9 a9 c9 m9 d9 f9 => ⟨_, _, _, _, rfl, ?_⟩
  refine Dk_Read d9 smE (n := 1) fun w10 a10 c10 m10 d10 f10 => ⟨_, _, _, _, rfl, ?_⟩
  rw [q0b] at f9 ⊢
  rw [q1b] at f10 ⊢
  have sy : ∀ w', Mod No w10 w' → Ru (convert 40 9 (.slice a10 Y.length c10)) w' (.string ⟨Y.toArray⟩) w' := fun w' m => str_run (by kernel_rfl) (f10.nos m).row rfl
  have sx : ∀ w', Mod No w10 w' → Ru (convert 40 9 (.slice a9 F.length c9)) w' (.string ⟨F.toArray⟩) w' := fun w' m => str_run (by kernel_rfl) ((f9.nos m10).nos m).row rfl
  refine ⟨_, sy _ (Mod.refl No w10).drew, ?_⟩
  have md := (Mod.refl No w10).drew
  refine Fill_c h0 (r0.nos (d10.mod.no md)) b0 fun w11 q11 hq11 m11 at11 => ⟨_, _, _, rfl, sy _ (md.no m11), ?_⟩
  rw [hF] at at11
  refine ⟨_, str_run (by kernel_rfl) (.inr ⟨_, _, rfl, at11.at⟩) lF, ?_⟩
  have M11 := md.no m11
  have M := d10.mod
  refine ⟨fun x w' => ∃ i : Nat, i ≤ j ∧ x = [.bool (decide (Y ∈ F :: (xss.take i).map fillB)), .int .i64 i] ∧ Mod No w10 w', fun x _ => (j - nI x 1).toNat, ⟨0, by omega, ?_, M11⟩, ?_⟩
  · have : (Y == F) = decide (Y ∈ F :: (xss.take 0).map fillB) := by
      rw [Bool.eq_iff_iff]; simp
    rw [toList_mk, toList_mk, this]; rfl
  rintro x w12 ⟨i, hi, rfl, m12⟩
  refine ⟨_, rfl, cond_of (fun hb => ?_) (fun hb => ?_)⟩
  · have hi : i < j := by have := of_decide_eq_true hb; omega
    have md12 := m12.drew
    refine Share.cut (fun z w' => z = [.bool (decide (Y ∈ F :: (xss.take (i + 1)).map fillB))] ∧ Mod No w10 w') ⟨_, rfl, cond_of (fun hb => ?_) (fun hb => ?_)⟩ ?_
    · have hin := of_decide_eq_true hb
      refine ⟨?_, md12⟩
      have : Y ∈ F :: (xss.take (i + 1)).map fillB := by
        rw [List.take_succ_eq_append_getElem (by omega), List.map_append]
        rcases List.mem_cons.1 hin with e | e
        · exact List.mem_cons.2 (.inl e)
        · exact List.mem_cons.2 (.inr (List.mem_append_left _ e))
      rw [decide_eq_true this]
    · have hnin := of_decide_eq_false hb
      obtain ⟨g, o, H, rfl, hH, hHl, hrow⟩ := (r1.nos (M.no md12)).resolve_left (fun e => by rw [e] at h1; simp at h1; omega)
      have hjx : xss[i]? = some xss[i] := by simp
      obtain ⟨ar, cr, hh, hr, hm⟩ := hrow i _ hjx
      refine ⟨_, sy _ md12, _, index_slice (k := 1) (by kernel_rfl) (by omega) (by omega), ?_⟩
      rw [add_none, Int.toNat_natCast, Nat.mul_one]
      refine ⟨_, _, _, hH.load (by kernel_rfl) hh, ?_⟩
      refine Fill_c rfl hr hm fun w13 q13 hq13 m13 at13 => ⟨_, _, _, rfl, sy _ (md12.no m13), _, str_run (by kernel_rfl) (.inr ⟨_, _, rfl, at13.at⟩) (length_fillB _), ?_, md12.no m13⟩
      have : (Y == fillB xss[i]) = decide (Y ∈ F :: (xss.take (i + 1)).map fillB) := by
        rw [Bool.eq_iff_iff, decide_eq_true_eq, List.take_succ_eq_append_getElem (by omega), List.map_append, beq_iff_eq]
        constructor
        · intro e; exact List.mem_cons.2 (.inr (List.mem_append_right _ (by rw [e]; simp)))
        · intro e
          rcases List.mem_cons.1 e with e | e
          · exact absurd (List.mem_cons.2 (.inl e)) hnin
          · rcases List.mem_append.1 e with e | e
            · exact absurd (List.mem_cons.2 (.inr e)) hnin
            · simpa using e
      rw [toList_mk, toList_mk, this]
    · rintro z w14 ⟨rfl, m14⟩
      rw [wrap64 (x := (i : Int) + 1) (by omega) (by omega)]
      exact ⟨⟨i + 1, by omega, rfl, m14⟩, by simp [nI, nth]; omega⟩
  · have hij : i = j := by have := of_decide_eq_false hb; omega
    subst hij
    rw [et, decide_eq_true hY]
    have md12 := m12.drew
    refine Share.dup ⟨_, sx _ md12, ?_⟩
    refine Fill_c h0 (r0.nos (M.no md12)) b0 fun w13 q13 hq13 m13 at13 => ⟨_, _, _, rfl, sx _ (md12.no m13), ?_⟩
    rw [hF] at at13
    refine ⟨_, str_run (by kernel_rfl) (.inr ⟨_, _, rfl, at13.at⟩) lF, tt (by simp) ⟨_, rfl, tt rfl ?_⟩⟩
    exact known2_c fun w14 m14 => ⟨_, rfl, _, rfl, rfl, (M.no (md12.no m13)).no m14⟩
end
end Go.Proofs.Ytkmkfdljnlbikaa
