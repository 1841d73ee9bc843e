/- The statement DiskPlays: whatever is written, flushed and lost. -/
import Derived.Test.YtkmkfdljnlbikaaDiskQ
open Go Go.Den Go.Proofs
namespace Go.Proofs.Ytkmkfdljnlbikaa
section
variable {w0 w : World} {N b b2 : Nat} {D : St} {K : Value → World → Prop}
theorem Bnd.mono {m m' : Nat} (h : Bnd D m) (hm : m ≤ m') : Bnd D m' := fun v hv => Nat.le_trans (h v hv) hm
theorem Bnd_wr {m : Nat} (h : Bnd D m) (n : Int) (ys : List UInt8) : Bnd (wrSt D n ys) (m + 1) := by
  unfold wrSt
  split
  · exact h.mono (by omega)
  · intro v hv
    rcases List.mem_or_eq_of_mem_set hv with hv | rfl
    · have := h v hv; omega
    · have : (verOf D n).length ≤ m := by
        rcases err_cases (D := D) n with ⟨_, ho⟩ | ⟨_, i, u, rfl, hu, hver⟩
        · rw [verOf_none ho]; simp
        · rw [hver]; exact h u (List.mem_of_getElem? hu)
      simp; omega
theorem Bnd_do {m : Nat} (h : Bnd D m) (hm : 1 ≤ m) (k n : Int) (xs : List UInt8) (pick : List Int) : Bnd (doSt D k n xs pick) (m + 1) := by
  unfold doSt
  split
  · exact Bnd_wr h _ _
  · split
    · unfold flSt; split
      · exact h.mono (by omega)
      · intro v hv; simp at hv; obtain ⟨u, _, rfl⟩ := hv; simp
    · split
      · intro v hv
        unfold crSt put1 at hv
        simp only [List.mem_mapIdx] at hv
        obtain ⟨i, hi, rfl⟩ := hv
        simp
      · split
        · exact (fun v hv => Nat.le_trans (h v hv) (by omega))
        · exact h.mono (by omega)
theorem len_wr (D : St) (n : Int) (ys : List UInt8) : (wrSt D n ys).vs.length = D.vs.length := by unfold wrSt; split <;> simp
theorem len_do (D : St) (k n : Int) (xs : List UInt8) (pick : List Int) : (doSt D k n xs pick).vs.length = D.vs.length := by
  unfold doSt
  split
  · exact len_wr _ _ _
  · split
    · unfold flSt; split <;> simp
    · split
      · simp [crSt, put1]
      · split <;> rfl

theorem built2 (w : World) : (Instr.buildSlice 40 2 #[(0, .int .u8 122), (1, .int .u8 122)]).run Try.prog w = .ok (.slice (some ⟨w.heap.size, 0, none⟩) 2 2) (w.alloc (.cells ⟨u8L [122, 122]⟩ 5)) := by kernel_rfl
theorem conv_zz (w : World) : (convert 40 40 (.slice (some ⟨w.heap.size, 0, none⟩) 2 2)).run Try.prog (w.alloc (.cells ⟨u8L [122, 122]⟩ 5)) =
    .ok (.slice (some ⟨w.heap.size, 0, none⟩) 2 2) (w.alloc (.cells ⟨u8L [122, 122]⟩ 5 (2, 3))) :=
  Go.Lib.run_convert_bytes_const (P := Try.prog) w 40 5 ⟨u8L [122, 122]⟩ 2 2 (by kernel_rfl) (by kernel_rfl)

/-- A copy goes on, and the elder disk is written and crashed. -/
theorem copyAct_c {k5 : Nat → World → Prop} (h : Bo w0 N w b b2 D) (hb : Bnd D 99999) (hk : ∀ w' nb, Bo w0 w'.heap.size w' nb b2 D → k5 nb w') :
    Cal Try.prog F_disk_Disk_Copy #[.pointer (some ⟨b, 0, none⟩)] w fun r59 w9 => ∃ nb : Nat, r59 = .pointer (some ⟨nb, 0, none⟩) ∧
      ∃ (a63 : Option Addr) (l63 c63 : Nat), ∃ w10 : World, Ru (Instr.buildSlice 40 2 #[(0, .int .u8 122), (1, .int .u8 122)]) w9 (.slice a63 l63 c63) w10 ∧ ∃ (a64 : Option Addr) (l64 c64 : Nat), ∃ w11 : World, Ru (convert 40 40 (.slice a63 l63 c63)) w10 (.slice a64 l64 c64) w11 ∧
        Cal Try.prog F_leveeref01_Fill #[.slice a64 l64 c64] w11 fun r65 w12 => ∃ (a65 : Option Addr) (l65 c65 : Nat), r65 = .slice a65 l65 c65 ∧ Cal Try.prog F_disk_Disk_Write #[.pointer (some ⟨b, 0, none⟩), .int .i64 0, .slice a65 l65 c65] w12 fun r66 w13 => ∃ n66 : Int, r66 = .int .i64 n66 ∧
          Cal Try.prog F_disk_Disk_Crash #[.pointer (some ⟨b, 0, none⟩), .slice none 0 0] w13 fun r68 w14 => r68 = .tuple #[] ∧ k5 nb w14 := by
  obtain ⟨R, sb, mb, sc, L, R2, vb, vc, hs, h1, h2, h3, h4, h5, h6, h7⟩ := h
  refine Copy_c h1 fun w1 nb cb nm cc L' m1 n1 o1 hnew => ⟨nb, rfl, ?_⟩
  refine ⟨_, _, _, _, built2 w1, _, _, _, _, conv_zz w1, ?_⟩
  have m2 : Mod No w1 (w1.alloc (.cells ⟨u8L [122, 122]⟩ 5 (2, 3))) := (Mod.refl No w1).alloc _
  have r2 : Row (w1.alloc (.cells ⟨u8L [122, 122]⟩ 5 (2, 3))) (some ⟨w1.heap.size, 0, none⟩) (u8L [122, 122]) := .inr ⟨_, _, rfl, _, _, _, heap_new w1 _, by simp [u8L], by simp [u8L, u8]⟩
  refine Fill_c (xs := [122, 122]) rfl r2 (by omega) fun w3 q3 hq3 m3 at3 => ⟨_, _, _, rfl, ?_⟩
  have M3 := m2.no m3
  have hz1 := m1.size
  have hz2 := m2.size
  have hz3 := m3.size
  have o3 := o1.nos M3
  have n3 := n1.nos M3
  have g3 := (h2.nos m1).nos M3
  have hRw : ∀ x, R x → x < w.heap.size := fun x hx => by have := (h4 x hx).2; omega
  refine Write_p o3 (fun v hv => Nat.le_trans (hb v hv) (by omega)) (length_fillB _) (.inr ⟨_, _, rfl, at3.at⟩) (fun q e hR => by cases e; have := hRw _ hR; simp only at this; omega) fun w4 L4 m4 o4 => ⟨_, rfl, ?_⟩
  have hz4 := m4.size
  have hsm4 : Small (wrSt D 0 (fillB [122, 122])) := fun v hv => Nat.le_trans (Bnd_wr hb 0 _ v hv) (by omega)
  refine Crash_p o4 hsm4 (pick := []) rfl (.inl rfl) (fun h => absurd rfl h) (by omega) fun w5 m5 o5 => ⟨rfl, ?_⟩
  have M5 := m4.trans m5 fun _ _ h => h
  have hz5 := m5.size
  have hWr : ∀ x, Wr b sb mb x → R x := fun x hx => h1.wr hx
  have n5 := n3.keep M5 fun x hx e => by
    rcases hx with hx | hx
    · have := hRw x (hWr x e); omega
    · exact hx.2 e
  have g5 := g3.keep M5 fun x hx e => h3 x (hWr x e) hx
  refine hk w5 nb ⟨_, cb, nm, cc, L', R2, vb, vc, hs, n5, g5, fun x hx e => ?_, fun x hx => ?_, fun x hx => ?_, ((h6.no m1).no M3).trans M5 fun x hx e => ?_, Nat.le_refl _⟩
  · have := h5 x e
    rcases hx with hx | hx
    · omega
    · exact h3 x hx.1 e
  · have := h6.size
    rcases hx with hx | hx
    · omega
    · have := h4 x hx.1; omega
  · have := h5 x hx; omega
  · have := h4 x (hWr x e); omega
end
end Go.Proofs.Ytkmkfdljnlbikaa
