/- Layer 2: a disk of one's own, made since a world; the fixed calls. -/
import Derived.Test.YtkmkfdljnlbikaaDiskF
import Derived.Lib.SlBytesConst
open Go Go.Den Go.Proofs
namespace Go.Proofs.Ytkmkfdljnlbikaa
/-- A disk that has been made since w0, of blocks below N. -/
def Dk (w0 : World) (N : Nat) (w : World) (b : Nat) (D : St) : Prop :=
  ∃ R sb mb sc L, DiskIn w R b sb mb sc L D ∧ (∀ x, R x → w0.heap.size ≤ x ∧ x < N) ∧ Mod No w0 w ∧ N ≤ w.heap.size
section
variable {w0 w : World} {N b : Nat} {D : St} {K : Value → World → Prop}
theorem Dk.nos {w' : World} (h : Dk w0 N w b D) (m : Mod No w w') : Dk w0 N w' b D := by
  obtain ⟨R, sb, mb, sc, L, h1, h2, h3, h4⟩ := h
  exact ⟨R, sb, mb, sc, L, h1.nos m, h2, h3.no m, Nat.le_trans h4 m.size⟩
theorem Dk.mod (h : Dk w0 N w b D) : Mod No w0 w := by obtain ⟨_, _, _, _, _, _, _, h, _⟩ := h; exact h
theorem Dk.size (h : Dk w0 N w b D) : N ≤ w.heap.size := by obtain ⟨_, _, _, _, _, _, _, _, h⟩ := h; exact h
theorem Dk.wf (h : Dk w0 N w b D) : WF D := by obtain ⟨_, _, _, _, _, h, _⟩ := h; exact h.wf
theorem Dk.le (h : Dk w0 N w b D) : w0.heap.size ≤ N := by
  obtain ⟨R, _, _, _, _, h1, h2, _⟩ := h
  have := h2 _ h1.rb; omega

theorem Dk_New {n : Nat} (h0 : 1 ≤ n) (h1 : n ≤ 4096) (hk : ∀ w' b, Dk w w'.heap.size w' b (newSt n) → K (.tuple #[.pointer (some ⟨b, 0, none⟩), .int .i64 0]) w') : Cal Try.prog F_disk_New #[.int .i64 n] w K := by
  refine New_c (by omega) (by omega) (fun h => by omega) fun k hk' _ _ w' b sb mb m h => ?_
  have : k = n := by omega
  subst this
  exact hk w' b ⟨_, sb, mb, k, [], h, fun x hx => hx, m, Nat.le_refl _⟩
theorem Dk_Write (h : Dk w0 N w b D) (hs : ∀ v ∈ D.vs, v.length ≤ 999999) {n : Int} {a : Option Addr} {l c : Nat} {ys : List UInt8} (hl : ys.length = l) (hr : Row w a (u8L ys)) (hdis : ∀ q, a = some q → q.block < w0.heap.size ∨ N ≤ q.block)
    (hk : ∀ w', Dk w0 w'.heap.size w' b (wrSt D n ys) → K (.int .i64 (wrE D n ys)) w') : Cal Try.prog F_disk_Disk_Write #[.pointer (some ⟨b, 0, none⟩), .int .i64 n, .slice a l c] w K := by
  obtain ⟨R, sb, mb, sc, L, h1, h2, h3, h4⟩ := h
  refine Write_c h1 hs hl hr (fun q hq hR => ?_) fun w' L' m hd' => hk w' ⟨Gro R w w', sb, mb, sc, L', hd', fun x hx => ?_, h3.trans m fun x hx hR => ?_, Nat.le_refl _⟩
  · have := h2 _ hR
    rcases hdis q hq with h | h <;> omega
  · rcases hx with hx | hx
    · have := h2 x hx; have := m.size; omega
    · have := h3.size; omega
  · have := h2 x hR; omega
theorem Dk_Flush (h : Dk w0 N w b D) (hs : Small D) (hk : ∀ w', Dk w0 w'.heap.size w' b (flSt D) → K (.int .i64 0) w') : Cal Try.prog F_disk_Disk_Flush #[.pointer (some ⟨b, 0, none⟩)] w K := by
  obtain ⟨R, sb, mb, sc, L, h1, h2, h3, h4⟩ := h
  refine Flush_c h1 hs fun w' L' m hd' => hk w' ⟨R, sb, mb, sc, L', hd', fun x hx => ?_, h3.trans m fun x hx hR => ?_, Nat.le_refl _⟩
  · have := h2 x hx; have := m.size; omega
  · have := h2 x hR; omega
theorem Dk_Crash (h : Dk w0 N w b D) (hs : Small D) {a1 : Option Addr} {l1 c1 : Nat} {pick : List Int} (hpl : pick.length = l1) (hpr : Row w a1 (iL pick)) (hdis : pick ≠ [] → ∀ q, a1 = some q → q.block < w0.heap.size ∨ N ≤ q.block) (h63 : l1 ≤ 9223372036854775807)
    (hk : ∀ w', Dk w0 w'.heap.size w' b (crSt D pick) → K (.tuple #[]) w') : Cal Try.prog F_disk_Disk_Crash #[.pointer (some ⟨b, 0, none⟩), .slice a1 l1 c1] w K := by
  obtain ⟨R, sb, mb, sc, L, h1, h2, h3, h4⟩ := h
  refine Crash_c h1 hs hpl hpr (fun hp q hq hR => ?_) h63 fun w' m hd' => hk w' ⟨R, sb, mb, sc, [], hd', fun x hx => ?_, h3.trans m fun x hx hR => ?_, Nat.le_refl _⟩
  · have := h2 _ hR
    rcases hdis hp q hq with h | h <;> omega
  · have := h2 x hx; have := m.size; omega
  · have := h2 x hR; omega
theorem Dk_Read (h : Dk w0 N w b D) (hs : Small D) {n : Int} (hk : ∀ w' a c, Mod No w w' → Dk w0 N w' b D → Fresh w w' a (rdB D n) → K (.tuple #[.slice a (rdB D n).length c, .int .i64 (errOf D n)]) w') : Cal Try.prog F_disk_Disk_Read #[.pointer (some ⟨b, 0, none⟩), .int .i64 n] w K := by
  have h' := h
  obtain ⟨R, sb, mb, sc, L, h1, h2, h3, h4⟩ := h
  exact Read_c h1 hs fun w' a c m hf => hk w' a c m (h'.nos m) hf
theorem Dk_Writes (h : Dk w0 N w b D) {n : Int} (hk : K (.int .i64 (verOf D n).tail.length) w) : Cal Try.prog F_disk_Disk_Writes #[.pointer (some ⟨b, 0, none⟩), .int .i64 n] w K := by
  obtain ⟨R, sb, mb, sc, L, h1, h2, h3, h4⟩ := h
  exact Writes_c h1 hk
theorem Dk_Len (h : Dk w0 N w b D) (hk : K (.int .i64 D.vs.length) w) : Cal Try.prog F_disk_Disk_Len #[.pointer (some ⟨b, 0, none⟩)] w K := by
  obtain ⟨R, sb, mb, sc, L, h1, h2, h3, h4⟩ := h
  exact Len_c h1 hk
theorem Small.one {D : St} (h : ∀ v ∈ D.vs, v.length ≤ 999999) : Small D := fun v hv => by have := h v hv; omega

theorem conv_lit (w : World) (v : UInt8) : (convert 40 40 (.slice (some ⟨w.heap.size, 0, none⟩) 1 1)).run Try.prog (w.alloc (.cells ⟨[.int .u8 (v.toNat : Int)]⟩ 5)) =
    .ok (.slice (some ⟨w.heap.size, 0, none⟩) 1 1) (w.alloc (.cells ⟨[.int .u8 (v.toNat : Int)]⟩ 5 (1, 2))) :=
  Go.Lib.run_convert_bytes_const (P := Try.prog) w 40 5 ⟨[.int .u8 (v.toNat : Int)]⟩ 1 1 (by kernel_rfl) (by kernel_rfl)

def D1 : St := wrSt (newSt 3) 1 (fillB [65])
def D2 : St := flSt D1
def D3 : St := wrSt D2 1 (fillB [66])
def D4 : St := wrSt D3 1 (fillB [67])
def D5 : St := crSt D4 [1]
theorem known_read : rdB D5 1 = fillB [66] := by decide +kernel
theorem known_err : errOf D5 1 = 0 := by decide +kernel
theorem known_e1 : wrE (newSt 3) 1 (fillB [65]) = 0 := by decide +kernel
theorem known_wr : (verOf D5 1).tail.length = 0 := by decide +kernel
theorem known_len : D5.vs.length = 3 := by decide +kernel
theorem sm (D : St) (h : (D.vs.all fun v => decide (v.length ≤ 999999)) = true) : ∀ v ∈ D.vs, v.length ≤ 999999 := by
  intro v hv
  have := List.all_eq_true.1 h v hv
  exact of_decide_eq_true this
set_option maxRecDepth 100000 in
theorem known2_c (hk : ∀ w', Mod No w w' → K (.bool true) w') : Cal Try.prog F_leveelaw02_known #[] w K := by
  apply C_leveelaw02_known
  unfold D_leveelaw02_known
  refine Dk_New (n := 3) (by omega) (by omega) fun w1 b d1 => ⟨_, _, rfl, Share.dup (ff rfl ⟨_, rfl, ff rfl ?_⟩)⟩
  refine ⟨_, _, _, _, built1 _ 65, _, _, _, _, conv_lit _ 65, ?_⟩
  have m2 : ∀ (w : World) (v : Int), Mod No w (w.alloc (.cells ⟨[.int .u8 v]⟩ 5 (1, 2))) := fun w v => (Mod.refl No w).alloc _
  have r2 : ∀ (w : World) (v : UInt8), Row (w.alloc (.cells ⟨[.int .u8 (v.toNat : Int)]⟩ 5 (1, 2))) (some ⟨w.heap.size, 0, none⟩) (u8L [v]) := fun w v => .inr ⟨_, _, rfl, _, _, _, heap_new w _, by simp [u8L], by simp [u8L, u8]⟩
  refine Fill_c (xs := [65]) rfl (r2 w1 65) (by omega) fun w3 q3 hq3 m3 at3 => ⟨_, _, _, rfl, ?_⟩
  have d3 := (d1.nos (m2 w1 65)).nos m3
  have hs1 := d1.size
  have hz := (m2 w1 65).size
  refine Dk_Write d3 (sm _ (by decide +kernel)) (ys := fillB [65]) (length_fillB _) (.inr ⟨_, _, rfl, at3.at⟩) (fun q hq => by cases hq; right; exact Nat.le_trans hz hq3) fun w4 d4 => ⟨_, rfl, ?_⟩
  rw [known_e1]
  refine Dk_Flush d4 (Small.one (sm _ (by decide +kernel))) fun w5 d5 => ⟨_, rfl, ?_⟩
  refine ⟨_, _, _, _, built1 _ 66, _, _, _, _, conv_lit _ 66, ?_⟩
  refine Fill_c (xs := [66]) rfl (r2 w5 66) (by omega) fun w6 q6 hq6 m6 at6 => ⟨_, _, _, rfl, ?_⟩
  have d6 := (d5.nos (m2 w5 66)).nos m6
  have hz6 := (m2 w5 66).size
  refine Dk_Write d6 (sm _ (by decide +kernel)) (ys := fillB [66]) (length_fillB _) (.inr ⟨_, _, rfl, at6.at⟩) (fun q hq => by cases hq; right; exact Nat.le_trans hz6 hq6) fun w7 d7 => ⟨_, rfl, ?_⟩
  refine ⟨_, _, _, _, built1 _ 67, _, _, _, _, conv_lit _ 67, ?_⟩
  refine Fill_c (xs := [67]) rfl (r2 w7 67) (by omega) fun w8 q8 hq8 m8 at8 => ⟨_, _, _, rfl, ?_⟩
  have d8 := (d7.nos (m2 w7 67)).nos m8
  have hz8 := (m2 w7 67).size
  refine Dk_Write d8 (sm _ (by decide +kernel)) (ys := fillB [67]) (length_fillB _) (.inr ⟨_, _, rfl, at8.at⟩) (fun q hq => by cases hq; right; exact Nat.le_trans hz8 hq8) fun w9 d9 => ⟨_, rfl, ?_⟩
  refine ⟨_, _, _, _, builtI _ 1, ?_⟩
  have m10 : Mod No w9 (w9.alloc (.cells ⟨[.int .i64 1]⟩ 3)) := (Mod.refl No w9).alloc _
  refine Dk_Crash (d9.nos m10) (Small.one (sm _ (by decide +kernel))) (pick := [1]) rfl (.inr ⟨_, _, rfl, AtU.new.at⟩) (fun _ q hq => by cases hq; right; exact Nat.le_refl _) (by omega) fun w11 d11 => ⟨rfl, ?_⟩
  refine Dk_Read (D := D5) d11 (Small.one (sm _ (by decide +kernel))) fun w12 a12 c12 m12 d12 f12 => ⟨_, _, _, _, rfl, ?_⟩
  rw [known_read] at f12 ⊢
  rw [known_err]
  refine Share.dup (tt rfl (tt rfl ⟨_, str_run (by kernel_rfl) (f12.nos (Mod.refl No w12).drew).row (length_fillB _), _, _, _, _, built1 _ 66, ?_⟩))
  have m13 := ((Mod.refl No w12).drew).no (m2 (drew w12) 66)
  have m13a : Mod No w12 ((drew w12).alloc (.cells ⟨[.int .u8 66]⟩ 5)) := ((Mod.refl No w12).drew).alloc _
  refine ⟨str_run (by kernel_rfl) (f12.nos m13a).row (length_fillB _), _, _, _, _, conv_lit _ 66, str_run (by kernel_rfl) (f12.nos m13).row (length_fillB _), ?_⟩
  refine Fill_c (xs := [66]) rfl (r2 (drew w12) 66) (by omega) fun w14 q14 hq14 m14 at14 => ⟨_, _, _, rfl, ?_⟩
  have m14' := m13.no m14
  refine ⟨str_run (by kernel_rfl) (f12.nos m14').row (length_fillB _), _, str_run (by kernel_rfl) (.inr ⟨_, _, rfl, at14.at⟩) (length_fillB _), tt (by simp) ?_⟩
  have d14 := d12.nos m14'
  refine Dk_Writes d14 ⟨_, rfl, ?_⟩
  rw [known_wr]
  refine tt rfl (Dk_Len d14 ⟨_, rfl, _, rfl, ?_⟩)
  rw [known_len]
  exact hk w14 d14.mod
end
end Go.Proofs.Ytkmkfdljnlbikaa
