/- Layer 2: a call done to both disks. -/
import Derived.Test.YtkmkfdljnlbikaaRefG
open Go Go.Den Go.Proofs
namespace Go.Proofs.Ytkmkfdljnlbikaa
/-- Both disks, made since w0, of blocks below N, apart, and alike. -/
def Bo (w0 : World) (N : Nat) (w : World) (b b2 : Nat) (D : St) : Prop := ∃ R sb mb sc L R2 vb vc hs, DiskIn w R b sb mb sc L D ∧ RefIn w R2 b2 vb vc hs D ∧ (∀ x, R x → ¬ R2 x) ∧ (∀ x, R x → w0.heap.size ≤ x ∧ x < N) ∧ (∀ x, R2 x → w0.heap.size ≤ x ∧ x < N) ∧ Mod No w0 w ∧ N ≤ w.heap.size
def Bnd (D : St) (m : Nat) : Prop := ∀ v ∈ D.vs, v.length ≤ m
def doSt (D : St) (k n : Int) (xs : List UInt8) (pick : List Int) : St :=
  if k = 0 ∨ k = 1 ∨ k = 2 ∨ k = 3 ∨ k = 7 then wrSt D n (if k ≠ 7 then fillB xs else xs) else if k = 4 then flSt D else if k = 5 then crSt D pick else if k = 8 then stSt D n else D
/-- A row that the disks don't have. -/
def Off (w0 : World) (N : Nat) (a : Option Addr) : Prop := ∀ q, a = some q → q.block < w0.heap.size ∨ N ≤ q.block
section
variable {w0 w : World} {N b b2 : Nat} {D : St} {K : Value → World → Prop}
theorem Bo.nos {w' : World} (h : Bo w0 N w b b2 D) (m : Mod No w w') : Bo w0 N w' b b2 D := by
  obtain ⟨R, sb, mb, sc, L, R2, vb, vc, hs, h1, h2, h3, h4, h5, h6, h7⟩ := h
  exact ⟨R, sb, mb, sc, L, R2, vb, vc, hs, h1.nos m, h2.nos m, h3, h4, h5, h6.no m, Nat.le_trans h7 m.size⟩
theorem Bo.mod (h : Bo w0 N w b b2 D) : Mod No w0 w := by obtain ⟨_, _, _, _, _, _, _, _, _, _, _, _, _, _, h, _⟩ := h; exact h
theorem Bo.wf (h : Bo w0 N w b b2 D) : WF D := by obtain ⟨_, _, _, _, _, _, _, _, _, h, _⟩ := h; exact h.wf
theorem Bo.size (h : Bo w0 N w b b2 D) : N ≤ w.heap.size := by obtain ⟨_, _, _, _, _, _, _, _, _, _, _, _, _, _, _, h⟩ := h; exact h
theorem Bo.le (h : Bo w0 N w b b2 D) : w0.heap.size ≤ N := by
  obtain ⟨R, _, _, _, _, _, _, _, _, h1, _, _, h4, _⟩ := h
  have := h4 _ h1.rb; omega
theorem Bo_same (h : Bo w0 N w b b2 D) (hsm : Small D) {n : Int} (hk : ∀ w', Mod No w w' → Bo w0 N w' b b2 D → K (.bool true) w') : Cal Try.prog F_leveelaw02_same #[.pointer (some ⟨b, 0, none⟩), .pointer (some ⟨b2, 0, none⟩), .int .i64 n] w K := by
  have h' := h
  obtain ⟨R, sb, mb, sc, L, R2, vb, vc, hs, h1, h2, h3, h4, h5, h6⟩ := h
  exact same_c h1 h2 hsm fun w' m => hk w' m (h'.nos m)
theorem fl_same : (if D.left = 0 then (0 : Int) else 0) = 0 := by split <;> rfl

set_option maxRecDepth 100000 in
theorem do_c (h : Bo w0 N w b b2 D) (hb : Bnd D 999999) {k n : Int} {ad ap : Option Addr} {ld cd lp cp : Nat} {xs : List UInt8} {pick : List Int} (hn : n ≤ 9223372036854775807)
    (hl : xs.length = ld) (hr : Row w ad (u8L xs)) (h0 : ad = none → ld = 0 ∧ cd = 0) (ho : xs ≠ [] → Off w0 N ad) (h63 : ld ≤ 1048576) (hp : pick.length = lp) (hpr : Row w ap (iL pick)) (hpo : pick ≠ [] → Off w0 N ap) (hp63 : lp ≤ 9223372036854775807)
    (hk : ∀ w', Bo w0 w'.heap.size w' b b2 (doSt D k n xs pick) → K (.bool true) w') :
    Cal Try.prog F_leveelaw02_do #[.pointer (some ⟨b, 0, none⟩), .pointer (some ⟨b2, 0, none⟩), .agg ⟨[.int .i64 k, .int .i64 n, .slice ad ld cd, .slice ap lp cp]⟩] w K := by
  apply C_leveelaw02_do
  unfold D_leveelaw02_do
  refine ⟨_, _, box_run, ?_⟩
  have m1 : Mod No w (w.alloc (.cells ⟨[.int .i64 k, .int .i64 n, .slice ad ld cd, .slice ap lp cp]⟩ 71)) := (Mod.refl No w).alloc _
  have at1 : At (w.alloc (.cells ⟨[.int .i64 k, .int .i64 n, .slice ad ld cd, .slice ap lp cp]⟩ 71)) w.heap.size 0 [.int .i64 k, .int .i64 n, .slice ad ld cd, .slice ap lp cp] := AtU.new.at
  have hB1 := h.nos m1
  have hr1 := hr.nos m1
  have hpr1 := hpr.nos m1
  have hNw := h.size
  have hq5 : w.heap.size < (w.alloc (.cells ⟨[.int .i64 k, .int .i64 n, .slice ad ld cd, .slice ap lp cp]⟩ 71)).heap.size := by simp
  show _
  change ∃ (a11 : Option Addr) (l11 c11 : Nat), _
  generalize hw1 : w.alloc (.cells (Value.agg ⟨[.int .i64 k, .int .i64 n, .slice ad ld cd, .slice ap lp cp]⟩).cells 71) = w1
  have hw1' : w.alloc (.cells ⟨[.int .i64 k, .int .i64 n, .slice ad ld cd, .slice ap lp cp]⟩ 71) = w1 := hw1
  rw [hw1'] at at1 hB1 hr1 hpr1 hq5
  have lk : ∀ w', At w' w.heap.size 0 [.int .i64 k, .int .i64 n, .slice ad ld cd, .slice ap lp cp] → Ru (Instr.loadAt 3 (.pointer (some (Addr.add ⟨w.heap.size, 0, none⟩ 0)))) w' (.int .i64 k) w' := fun w' hat => by rw [add_none]; exact hat.load (by kernel_rfl) rfl
  have ln : ∀ w', At w' w.heap.size 0 [.int .i64 k, .int .i64 n, .slice ad ld cd, .slice ap lp cp] → Ru (Instr.loadAt 3 (.pointer (some (Addr.add ⟨w.heap.size, 0, none⟩ 1)))) w' (.int .i64 n) w' := fun w' hat => by rw [add_none]; exact hat.load (by kernel_rfl) rfl
  have lD : ∀ w', At w' w.heap.size 0 [.int .i64 k, .int .i64 n, .slice ad ld cd, .slice ap lp cp] → Ru (Instr.loadAt 40 (.pointer (some (Addr.add ⟨w.heap.size, 0, none⟩ 2)))) w' (.slice ad ld cd) w' := fun w' hat => by rw [add_none]; exact hat.load (by kernel_rfl) rfl
  have lP : ∀ w', At w' w.heap.size 0 [.int .i64 k, .int .i64 n, .slice ad ld cd, .slice ap lp cp] → Ru (Instr.loadAt 42 (.pointer (some (Addr.add ⟨w.heap.size, 0, none⟩ 3)))) w' (.slice ap lp cp) w' := fun w' hat => by rw [add_none]; exact hat.load (by kernel_rfl) rfl
  refine ⟨_, _, _, lD w1 at1, _, lk w1 at1, ?_⟩
  refine Share.cut (fun z w' => z = [.bool (decide (k = 0 ∨ k = 1 ∨ k = 2 ∨ k = 3 ∨ k = 7))] ∧ w' = w1) ?_ ?_
  · refine cond_of (fun hb => ?_) (fun hb => Share.dup (cond_of (fun hb2 => ?_) (fun hb2 => Share.dup (cond_of (fun hb3 => ?_) (fun hb3 => Share.dup (cond_of (fun hb4 => ?_) (fun hb4 => ?_)))))))
    · have : k = 0 := by simpa using hb
      exact ⟨by simp [this], rfl⟩
    · have : k = 1 := by simpa using hb2
      exact ⟨by simp [this, nth], rfl⟩
    · have : k = 2 := by simpa using hb3
      exact ⟨by simp [this, nth], rfl⟩
    · have : k = 3 := by simpa using hb4
      exact ⟨by simp [this, nth], rfl⟩
    · have e0 : ¬ k = 0 := by simpa using hb
      have e1 : ¬ k = 1 := by simpa using hb2
      have e2 : ¬ k = 2 := by simpa using hb3
      have e3 : ¬ k = 3 := by simpa using hb4
      refine ⟨?_, rfl⟩
      simp only [nth, e0, e1, e2, e3, false_or]
      congr 2
  rintro z w' ⟨rfl, rfl⟩
  refine ⟨_, rfl, cond_of (fun hb1 => ?_) (fun hb1 => ?_)⟩
  · -- a write
    have hkind := of_decide_eq_true hb1
    have hdo : doSt D k n xs pick = wrSt D n (if k ≠ 7 then fillB xs else xs) := by unfold doSt; rw [if_pos hkind]
    rw [hdo] at hk
    refine ⟨_, lk w' at1, ?_⟩
    refine Share.cut (fun z w2 => ∃ a2 c2, z = [.slice a2 (if k ≠ 7 then fillB xs else xs).length c2] ∧ Mod No w' w2 ∧ Row w2 a2 (u8L (if k ≠ 7 then fillB xs else xs)) ∧ (a2 = none → (if k ≠ 7 then fillB xs else xs).length = 0 ∧ c2 = 0) ∧ ((if k ≠ 7 then fillB xs else xs) ≠ [] → Off w0 N a2)) (cond_of (fun hb7 => ?_) (fun hb7 => ?_)) ?_
    · have hk7 : k ≠ 7 := by simpa using hb7
      rw [if_pos hk7]
      refine ⟨_, _, _, lD w' at1, Fill_c hl hr1 (by omega) fun w2 q2 hq2 m2 at2 => ⟨_, _, _, rfl, _, _, by rw [length_fillB], m2, .inr ⟨_, _, rfl, at2.at⟩, fun e => (by cases e), fun _ q e => ?_⟩⟩
      cases e; right; simp only; omega
    · have hk7 : k = 7 := by simpa using hb7
      rw [if_neg (fun h => h hk7)]
      exact ⟨ad, cd, by rw [hl], Mod.refl _ _, hr1, by rw [hl]; exact h0, ho⟩
    rintro z w2 ⟨a2, c2, rfl, m2, hr2, h02, ho2⟩
    have hyl : (if k ≠ 7 then fillB xs else xs).length ≤ 1048576 := by
      split
      · simp
      · omega
    generalize (if k ≠ 7 then fillB xs else xs) = ys at *
    have hz2 := m2.size
    refine ⟨_, _, _, rfl, Lent_c rfl hr2 h02 hyl fun w3 g cap hg m3 hlent => ⟨_, _, _, rfl, ?_⟩⟩
    have M3 := m2.no m3
    have M3d := M3.no (Mod.refl No w3).drew
    have hz3 := m3.size
    have hglt : g < w3.heap.size := hlent.2.2.lt
    obtain ⟨R, sb, mb, sc, L, R2, vb, vc, hs, h1, h2, h3, h4, h5, h6, h7⟩ := hB1
    have g1 := h1.nos M3d
    have g2 := h2.nos M3d
    have at3 := at1.keep M3d id
    have hd3 : Row (drew w3) a2 (u8L ys) := (hr2.nos m3).nos (Mod.refl No w3).drew
    have hl3 : LentAt (drew w3) g ys.length cap ys := hlent.keep (Mod.refl No w3).drew id
    refine Share.cut (fun z w' => z = [.bool true] ∧ ∃ R' L' R2' hs', DiskIn w' R' b sb mb sc L' (wrSt D n ys) ∧ RefIn w' R2' b2 vb vc hs' (wrSt D n ys) ∧ (∀ x, R' x → ¬ R2' x) ∧ (∀ x, R' x → w0.heap.size ≤ x ∧ x ≠ g) ∧ (∀ x, R2' x → w0.heap.size ≤ x ∧ x ≠ g) ∧ Mod No w0 w' ∧ AtU w' g 0 (u8L (ys ++ a5))) ?_ ?_
    · refine ⟨_, ln _ at3, _, ln _ at3, Write_c g1 hb rfl hl3.row (fun q e hR => by cases e; have := h4 _ hR; simp only at this; omega) fun w4 L4 m4 k1 => ⟨_, rfl, ?_⟩⟩
      have at4 := at3.keep m4 fun e => by have := h4 _ e; omega
      have k2 := g2.keep m4 fun x hx e => h3 x e hx
      have hd4 : Row w4 a2 (u8L ys) := by
        by_cases hye : ys = []
        · left; rw [hye]; rfl
        · exact hd3.keep m4 fun q hq hR => by have := h4 _ hR; rcases ho2 hye q hq with h | h <;> omega
      refine ⟨ln _ at4, refWrite_c k2 hb rfl hd4 (fun hye q hq hR => by have := h5 _ hR; rcases ho2 hye q hq with h | h <;> omega) fun w5 hs5 m5 k3 => ⟨_, rfl, tt (by simp) ?_⟩⟩
      have hz4 := m4.size
      have hz5 := m5.size
      have hsd : (drew w3).heap.size = w3.heap.size := rfl
      have hl5 : LentAt w5 g ys.length cap ys := (hl3.keep m4 (fun e => by have := h4 _ e; omega)).keep m5 fun e => by have := h5 _ e; omega
      have hd5 : Row w5 a2 (u8L ys) := by
        by_cases hye : ys = []
        · left; rw [hye]; rfl
        · exact hd4.keep m5 fun q hq hR => by have := h5 _ hR; rcases ho2 hye q hq with h | h <;> omega
      have M5 : Mod No w0 w5 := ((h6.no M3d).trans m4 fun x hx e => by have := h4 x e; omega).trans m5 fun x hx e => by have := h5 x e; omega
      refine Kept_c hl5 rfl hd5 hyl fun w6 m6 => ⟨_, rfl, rfl, Gro R (drew w3) w4, L4, Gro R2 w4 w5, hs5, (k1.keep m5 fun x hx e => ?_).nos m6, k3.nos m6, fun x hx e => ?_, fun x hx => ?_, fun x hx => ?_, M5.no m6, hl5.2.2.keep m6 id⟩
      · rcases hx with hx | hx
        · exact h3 x hx e
        · have := h5 x e; omega
      · rcases hx with hx | hx <;> rcases e with e | e
        · exact h3 x hx e
        · have := h4 x hx; omega
        · have := h5 x e; omega
        · omega
      · have := h6.size
        rcases hx with hx | hx
        · have := h4 x hx; omega
        · omega
      · have := h6.size
        rcases hx with hx | hx
        · have := h5 x hx; omega
        · omega
    · rintro z w6 ⟨rfl, R', L', R2', hs', k1, k2, k3, k4, k5, k6, hat⟩
      refine Spoil_c hat (by simp) hyl fun w7 m7 => ⟨rfl, _, rfl, ?_⟩
      have hz7 := m7.size
      have q1 := k1.keep m7 fun x hx e => (k4 x hx).2 e
      have q2 := k2.keep m7 fun x hx e => (k5 x hx).2 e
      have hw0 := h6.size
      exact hk w7 ⟨R', sb, mb, sc, L', R2', vb, vc, hs', q1, q2, k3, fun x hx => ⟨(k4 x hx).1, q1.lt x hx⟩, fun x hx => ⟨(k5 x hx).1, q2.lt x hx⟩, k6.trans m7 fun x hx e => by omega, Nat.le_refl _⟩
  · have hkind := of_decide_eq_false hb1
    obtain ⟨R, sb, mb, sc, L, R2, vb, vc, hs, h1, h2, h3, h4, h5, h6, h7⟩ := hB1
    have hsm : Small D := Small.one hb
    refine cond_of (fun hb4 => ?_) (fun hb4 => ?_)
    · have hk4 : k = 4 := by simpa using hb4
      have hdo : doSt D k n xs pick = flSt D := by unfold doSt; rw [if_neg hkind, if_pos hk4]
      rw [hdo] at hk
      refine Flush_c h1 hsm fun w2 L2 m2 g1 => ⟨_, rfl, ?_⟩
      have g2 := h2.keep m2 fun x hx e => h3 x e hx
      refine refFlush_c g2 hsm fun w3 hs3 m3 g3 => ⟨_, rfl, ?_⟩
      have hz2 := m2.size
      have hz3 := m3.size
      refine hk w3 ⟨R, sb, mb, sc, L2, Gro R2 w2 w3, vb, vc, hs3, g1.keep m3 (fun x hx e => h3 x hx e), g3, fun x hx e => ?_, fun x hx => ?_, fun x hx => ?_, (h6.trans m2 fun x hx e => by have := h4 x e; omega).trans m3 fun x hx e => by have := h5 x e; omega, Nat.le_refl _⟩
      · rcases e with e | e
        · exact h3 x hx e
        · have := h4 x hx; omega
      · have := h4 x hx; omega
      · rcases hx with hx | hx
        · have := h5 x hx; omega
        · have := h6.size; omega
    have hk4 : ¬ k = 4 := by simpa using hb4
    refine Share.cut (fun _ w2 => Bo w0 w2.heap.size w2 b b2 (doSt D k n xs pick)) (cond_of (fun hb5 => ?_) (fun hb5 => Share.cut (fun _ w2 => Bo w0 w2.heap.size w2 b b2 (doSt D k n xs pick)) (cond_of (fun hb8 => ?_) (fun hb8 => ?_)) ?_)) ?_
    · have hk5 : k = 5 := by simpa using hb5
      have hdo : doSt D k n xs pick = crSt D pick := by unfold doSt; rw [if_neg hkind, if_neg hk4, if_pos hk5]
      rw [hdo]
      have off1 : ∀ {S : Nat → Prop}, (∀ x, S x → w0.heap.size ≤ x ∧ x < N) → pick ≠ [] → ∀ q, ap = some q → ¬ S q.block := fun hS hp q hq hR => by
        have := hS _ hR
        rcases hpo hp q hq with h | h <;> omega
      refine ⟨_, _, _, lP w' at1, Crash_c h1 hsm hp hpr1 (off1 h4) hp63 fun w2 m2 g1 => ⟨rfl, ?_⟩⟩
      have g2 := h2.keep m2 fun x hx e => h3 x e hx
      have at2 := at1.keep m2 fun e => by have := h4 _ e; omega
      have hpr2 : Row w2 ap (iL pick) := by
        by_cases hpe : pick = []
        · left; rw [hpe]; rfl
        · exact hpr1.keep m2 (off1 h4 hpe)
      refine ⟨_, _, _, lP w2 at2, refCrash_c g2 hsm hp hpr2 (off1 h5) hp63 fun w3 hs3 m3 g3 => ⟨rfl, ?_⟩⟩
      have hz2 := m2.size
      have hz3 := m3.size
      refine ⟨R, sb, mb, sc, [], Gro R2 w2 w3, vb, vc, hs3, g1.keep m3 (fun x hx e => h3 x hx e), g3, fun x hx e => ?_, fun x hx => ?_, fun x hx => ?_, (h6.trans m2 fun x hx e => by have := h4 x e; omega).trans m3 fun x hx e => by have := h5 x e; omega, Nat.le_refl _⟩
      · rcases e with e | e
        · exact h3 x hx e
        · have := h4 x hx; omega
      · have := h4 x hx; omega
      · rcases hx with hx | hx
        · have := h5 x hx; omega
        · have := h6.size; omega
    · have hk8 : k = 8 := by simpa using hb8
      have hk5 : ¬ k = 5 := by simpa using hb5
      have hdo : doSt D k n xs pick = stSt D n := by unfold doSt; rw [if_neg hkind, if_neg hk4, if_neg hk5, if_pos hk8]
      rw [hdo]
      refine ⟨_, ln w' at1, Stop_c h1 hn fun w2 g1 m2 => ⟨rfl, ?_⟩⟩
      have g2 := h2.keep m2 fun x hx e => by subst e; exact h3 x h1.rb hx
      have at2 := at1.keep m2 fun e => by have := h4 _ h1.rb; omega
      refine ⟨_, ln w2 at2, refStop_c g2 hn fun w3 g3 m3 => ⟨rfl, ?_⟩⟩
      have hz2 := m2.size
      have hz3 := m3.size
      exact ⟨R, sb, mb, sc, L, R2, vb, vc, hs, g1.keep m3 (fun x hx e => by subst e; exact h3 x hx h2.rb), g3, h3, fun x hx => by have := h4 x hx; omega, fun x hx => by have := h5 x hx; omega,
        (h6.trans m2 fun x hx e => by subst e; have := h4 _ h1.rb; omega).trans m3 fun x hx e => by subst e; have := h5 _ h2.rb; omega, Nat.le_refl _⟩
    · have hk8 : ¬ k = 8 := by simpa using hb8
      have hk5 : ¬ k = 5 := by simpa using hb5
      have hdo : doSt D k n xs pick = D := by unfold doSt; rw [if_neg hkind, if_neg hk4, if_neg hk5, if_neg hk8]
      rw [hdo]
      exact ⟨R, sb, mb, sc, L, R2, vb, vc, hs, h1, h2, h3, fun x hx => by have := h4 x hx; omega, fun x hx => by have := h5 x hx; omega, h6, Nat.le_refl _⟩
    · rintro z w2 hB; exact hB
    · rintro z w2 hB; exact hk w2 hB
end
end Go.Proofs.Ytkmkfdljnlbikaa
