/- The statement PtrBack: the way to a block comes to it, and ways rise with their blocks. -/
import Derived.Test.YtkmkfdljnlbikaaPtrD
open Go Go.Den Go.Proofs
namespace Go.Proofs.Ytkmkfdljnlbikaa

theorem wy_lin {n : Int} (h0 : 0 ≤ n) (h1 : n < 4166) : ((ofS n).1.d = 0 ∧ (ofS n).1.a = n ∧ (ofS n).1.b = 0 ∧ (ofS n).1.c = 0 ∧ n < 6) ∨ ((ofS n).1.d = 1 ∧ (ofS n).1.a = 0 ∧ (ofS n).1.b = n - 6 ∧ (ofS n).1.c = 0 ∧ 6 ≤ n ∧ n < 70) ∨
    ((ofS n).1.d = 2 ∧ (ofS n).1.a = 0 ∧ n - 70 = 64 * (ofS n).1.b + (ofS n).1.c ∧ 0 ≤ (ofS n).1.c ∧ (ofS n).1.c < 64 ∧ 70 ≤ n) := by
  unfold ofS
  rw [if_neg (by omega)]
  split
  · left; simp; omega
  · split
    · right; left; exact ⟨rfl, rfl, rfl, rfl, by omega, by omega⟩
    · right; right; exact ⟨rfl, rfl, by simp only; omega, by simp only; omega, by simp only; omega, by omega⟩

theorem PtrBack_c {n m : Int} (hn0 : -9223372036854775808 ≤ n) (hn1 : n ≤ 9223372036854775807) (hm0 : -9223372036854775808 ≤ m) (hm1 : m ≤ 9223372036854775807) (w : World) :
    Cal Try.prog F_leveelaw09_PtrBack #[.int .i64 n, .int .i64 m] w (fun v w' => v = .bool true ∧ Mod No w w') := by
  apply C_leveelaw09_PtrBack
  unfold D_leveelaw09_PtrBack
  refine Of_c hn0 hn1 fun w1 m1 => ⟨_, _, rfl, _, _, alloc_Way w1, _, store_new (by kernel_rfl) rfl rfl (one_Wy _), ?_⟩
  refine Of_c hm0 hm1 fun w2 m2 => ⟨_, _, rfl, _, _, alloc_Way w2, _, store_new (by kernel_rfl) rfl rfl (one_Wy _), ?_⟩
  have mA : Mod No w (w1.alloc (.cells ⟨(ofS n).1.l⟩ 24)) := m1.alloc _
  have mB : Mod No w (w2.alloc (.cells ⟨(ofS m).1.l⟩ 24)) := (mA.no m2).alloc _
  have hx : At (w2.alloc (.cells ⟨(ofS m).1.l⟩ 24)) w1.heap.size 0 (ofS n).1.l := (AtU.new.at.keep m2 id).keep ((Mod.refl No w2).alloc _) id
  have hy : At (w2.alloc (.cells ⟨(ofS m).1.l⟩ 24)) w2.heap.size 0 (ofS m).1.l := AtU.new.at
  generalize w2.alloc (.cells ⟨(ofS m).1.l⟩ 24) = w3 at *
  refine Share.or ⟨_, rfl, cond_of (fun hb => ?_) (fun hb => ?_)⟩
  · exact known_c fun w4 m4 => ⟨_, rfl, rfl, mB.no m4⟩
  have hok : (ofS n).2 = 0 ∧ (ofS m).2 = 0 := by simpa using hb
  have hn := ofS_ok.1 hok.1
  have hm := ofS_ok.1 hok.2
  refine ⟨_, load_way_all (by kernel_rfl) hx, Back_c ?_ ?_ fun w4 m4 => ?_⟩
  · rcases wy_lin hn.1 hn.2 with h | h | h <;> omega
  · rcases wy_lin hn.1 hn.2 with h | h | h <;> omega
  have hbk : backP (ofS n).1 = (n, 0) := by
    unfold backP; rw [ofS_tryN hn.1 hn.2]; simp [hok.1]
  rw [hbk]
  have hx4 := hx.keep m4 id
  have hy4 := hy.keep m4 id
  have ln := wy_lin hn.1 hn.2
  have lm := wy_lin hm.1 hm.2
  refine ⟨_, _, rfl, Share.cut (fun xs w' => xs = [.bool (decide (n < m))] ∧ w' = w4) ?_ ?_⟩
  · refine ⟨_, load_way (by kernel_rfl) hx4 (v := (ofS n).1.d) rfl, _, load_way (by kernel_rfl) hy4 (v := (ofS m).1.d) rfl, ?_⟩
    have close : ∀ b : Bool, (b = true ↔ n < m) → ([Value.bool b] = [Value.bool (decide (n < m))] ∧ w4 = w4) := fun b hb => ⟨by
      have : b = decide (n < m) := by rw [Bool.eq_iff_iff, hb, decide_eq_true_eq]
      rw [this], rfl⟩
    refine cond_of (fun h1 => close _ ?_) (fun h1 => ?_)
    · have := of_decide_eq_true h1; simp; omega
    have h1 := of_decide_eq_false h1
    refine ⟨_, load_way (by kernel_rfl) hx4 (v := (ofS n).1.d) rfl, _, load_way (by kernel_rfl) hy4 (v := (ofS m).1.d) rfl, cond_of (fun h2 => ?_) (fun h2 => close _ ?_)⟩
    rotate_left
    · have : ¬ (ofS n).1.d = (ofS m).1.d := by simpa using h2
      simp; omega
    have h2 : (ofS n).1.d = (ofS m).1.d := by simpa using h2
    refine ⟨_, load_way (by kernel_rfl) hx4 (v := (ofS n).1.a) rfl, _, load_way (by kernel_rfl) hy4 (v := (ofS m).1.a) rfl, cond_of (fun h3 => close _ ?_) (fun h3 => ?_)⟩
    · have := of_decide_eq_true h3; simp; omega
    have h3 := of_decide_eq_false h3
    refine ⟨_, load_way (by kernel_rfl) hx4 (v := (ofS n).1.a) rfl, _, load_way (by kernel_rfl) hy4 (v := (ofS m).1.a) rfl, cond_of (fun h4 => ?_) (fun h4 => close _ ?_)⟩
    rotate_left
    · have : ¬ (ofS n).1.a = (ofS m).1.a := by simpa using h4
      simp; omega
    have h4 : (ofS n).1.a = (ofS m).1.a := by simpa using h4
    refine ⟨_, load_way (by kernel_rfl) hx4 (v := (ofS n).1.b) rfl, _, load_way (by kernel_rfl) hy4 (v := (ofS m).1.b) rfl, cond_of (fun h5 => close _ ?_) (fun h5 => ?_)⟩
    · have := of_decide_eq_true h5; simp; omega
    have h5 := of_decide_eq_false h5
    refine ⟨_, load_way (by kernel_rfl) hx4 (v := (ofS n).1.b) rfl, _, load_way (by kernel_rfl) hy4 (v := (ofS m).1.b) rfl, cond_of (fun h6 => ?_) (fun h6 => close _ ?_)⟩
    rotate_left
    · have : ¬ (ofS n).1.b = (ofS m).1.b := by simpa using h6
      simp; omega
    have h6 : (ofS n).1.b = (ofS m).1.b := by simpa using h6
    refine ⟨_, load_way (by kernel_rfl) hx4 (v := (ofS n).1.c) rfl, _, load_way (by kernel_rfl) hy4 (v := (ofS m).1.c) rfl, close _ ?_⟩
    rw [decide_eq_true_eq]; omega
  · rintro xs w5 ⟨rfl, rfl⟩
    refine Share.dup (tt (by simp) (tt rfl ⟨_, rfl, tt (by simp) (known_c fun w6 m6 => ⟨_, rfl, _, rfl, rfl, (mB.no m4).no m6⟩)⟩))
end Go.Proofs.Ytkmkfdljnlbikaa
