/- The ways of layer 9: spans, needs, the fixed calls, and the statement on ways there and back. -/
import Derived.Test.YtkmkfdljnlbikaaPtrC
open Go Go.Den Go.Proofs
namespace Go.Proofs.Ytkmkfdljnlbikaa

def bad (off n : Int) : Bool := decide (n < 1) || decide (off < 0) || decide (off > 1066496) || decide (n > 1066496 - off)
def spanS (off n : Int) : Int × Int := if bad off n = true then (0, -1) else (off / 256, (off + n - 1) / 256)

theorem Span_c {off n : Int} {w : World} {K : Value → World → Prop} (h : K (.tuple #[.int .i64 (spanS off n).1, .int .i64 (spanS off n).2]) w) : Cal Try.prog F_ptr_Span #[.int .i64 off, .int .i64 n] w K := by
  apply C_ptr_Span
  unfold D_ptr_Span
  refine Share.cut (fun xs w' => xs = [.bool (bad off n)] ∧ w' = w) (cond_of (fun hb => ?_) (fun hb => ?_)) ?_
  · have h1 : n < 1 := by simpa using hb
    exact ⟨by simp [bad, h1], rfl⟩
  · have h1 : ¬ n < 1 := by simpa using hb
    refine within64_c ⟨_, rfl, cond_of (fun hb => ?_) (fun hb => ?_)⟩
    · have hne : ¬ (0 ≤ off ∧ off ≤ 1066496) := fun hc => by
        rw [(near_id (by omega)).2 hc] at hb; simp at hb
      refine ⟨?_, rfl⟩
      have : bad off n = true := by unfold bad; simp; omega
      rw [this]
    · have hin : 0 ≤ off ∧ off ≤ 1066496 := (near_id (by omega)).1 (by simpa using hb : off = near off 0 1066496).symm
      refine ⟨?_, rfl⟩
      rw [wrap64 (x := 1066496 - off) (by omega) (by omega)]
      have : bad off n = decide (n > 1066496 - off) := by
        have e1 : decide (n < 1) = false := by simpa using h1
        have e2 : decide (off < 0) = false := by simp; omega
        have e3 : decide (off > 1066496) = false := by simp; omega
        unfold bad; rw [e1, e2, e3]; rfl
      rw [this]
  · rintro xs w1 ⟨rfl, rfl⟩
    refine ⟨_, rfl, cond_of (fun hb => ?_) (fun hb => ?_)⟩
    · have := h; rw [spanS, if_pos hb] at this; exact this
    · have hc : ¬ (n < 1 ∨ off < 0 ∨ off > 1066496 ∨ n > 1066496 - off) := by unfold bad at hb; simp at hb; omega
      rw [wrap64 (x := n - 1) (by omega) (by omega), wrap64 (x := off + (n - 1)) (by omega) (by omega), Int.tdiv_eq_ediv_of_nonneg (by omega), Int.tdiv_eq_ediv_of_nonneg (by omega), wrap64 (by omega) (by omega), wrap64 (by omega) (by omega)]
      have := h
      rw [spanS, if_neg (by simp [hb])] at this
      rw [show off + (n - 1) = off + n - 1 by omega]; exact this

theorem refSpan_c {off n : Int} {w : World} {K : Value → World → Prop} (h : K (.tuple #[.int .i64 (spanS off n).1, .int .i64 (spanS off n).2]) w) : Cal Try.prog F_leveeref09_Span #[.int .i64 off, .int .i64 n] w K := by
  apply C_leveeref09_Span
  unfold D_leveeref09_Span
  refine Share.cut (fun xs w' => xs = [.bool (bad off n)] ∧ w' = w) (cond_of (fun hb => ?_) (fun hb => cond_of (fun hb2 => ?_) (fun hb2 => cond_of (fun hb3 => ?_) (fun hb3 => ?_)))) ?_
  · exact ⟨by simp only [bad, hb, Bool.true_or], rfl⟩
  · exact ⟨by simp only [bad, hb2, Bool.or_true, Bool.true_or], rfl⟩
  · exact ⟨by simp only [bad, hb3, Bool.or_true, Bool.true_or], rfl⟩
  · have h2 : ¬ off < 0 := by simpa using hb2
    have h3 : ¬ off > 1066496 := by simpa using hb3
    rw [wrap64 (x := 1066496 - off) (by omega) (by omega)]
    exact ⟨by simp only [bad, hb, hb2, hb3, Bool.false_or], rfl⟩
  · rintro xs w1 ⟨rfl, rfl⟩
    refine ⟨_, rfl, cond_of (fun hb => ?_) (fun hb => ?_)⟩
    · have := h; rw [spanS, if_pos hb] at this; exact this
    · have hc : ¬ (n < 1 ∨ off < 0 ∨ off > 1066496 ∨ n > 1066496 - off) := by unfold bad at hb; simp at hb; omega
      rw [wrap64 (x := off + n) (by omega) (by omega), wrap64 (x := off + n - 1) (by omega) (by omega), Int.tdiv_eq_ediv_of_nonneg (by omega), Int.tdiv_eq_ediv_of_nonneg (by omega), wrap64 (by omega) (by omega), wrap64 (by omega) (by omega)]
      have := h
      rw [spanS, if_neg (by simp [hb])] at this
      exact this

theorem spanS_in (off n : Int) : (spanS off n = (0, -1)) ∨ (0 ≤ (spanS off n).1 ∧ (spanS off n).1 ≤ (spanS off n).2 ∧ (spanS off n).2 ≤ 4166) := by
  unfold spanS
  split
  · exact .inl rfl
  · rename_i hb
    have hc : ¬ (n < 1 ∨ off < 0 ∨ off > 1066496 ∨ n > 1066496 - off) := by unfold bad at hb; simp at hb; omega
    right; simp only; omega
def needS (off n : Int) : Int := if (spanS off n).2 < (spanS off n).1 then 0 else (spanS off n).2 - (spanS off n).1 + 1 + ((spanS off n).2 - (spanS off n).1 + 1) / 64 + 3

theorem Need_c {off n : Int} {w : World} {K : Value → World → Prop} (h : K (.int .i64 (needS off n)) w) : Cal Try.prog F_ptr_Need #[.int .i64 off, .int .i64 n] w K := by
  apply C_ptr_Need
  unfold D_ptr_Need
  refine Span_c ⟨_, _, rfl, cond_of (fun hb => ?_) (fun hb => ?_)⟩
  · have hb := of_decide_eq_true hb
    rw [needS, if_pos hb] at h; exact h
  · have hb := of_decide_eq_false hb
    rw [needS, if_neg hb] at h
    have hin := (spanS_in off n).resolve_left (fun e => by rw [e] at hb; exact hb (by decide))
    generalize spanS off n = s at *
    rw [wrap64 (x := s.2 - s.1) (by omega) (by omega), wrap64 (x := s.2 - s.1 + 1) (by omega) (by omega), Int.tdiv_eq_ediv_of_nonneg (by omega), wrap64 (x := (s.2 - s.1 + 1) / 64) (by omega) (by omega),
      wrap64 (x := s.2 - s.1 + 1 + (s.2 - s.1 + 1) / 64) (by omega) (by omega), wrap64 (by omega) (by omega)]
    exact h
theorem refNeed_c {off n : Int} {w : World} {K : Value → World → Prop} (h : K (.int .i64 (needS off n)) w) : Cal Try.prog F_leveeref09_Need #[.int .i64 off, .int .i64 n] w K := by
  apply C_leveeref09_Need
  unfold D_leveeref09_Need
  refine refSpan_c ⟨_, _, rfl, ?_⟩
  have hin := spanS_in off n
  unfold needS at h
  generalize spanS off n = s at *
  have hs : -1 ≤ s.2 - s.1 ∧ s.2 - s.1 ≤ 4166 := by
    rcases hin with h | h
    · rw [h]; decide
    · omega
  rw [wrap64 (x := s.2 - s.1) (by omega) (by omega), wrap64 (x := s.2 - s.1 + 1) (by omega) (by omega)]
  refine cond_of (fun hb => ?_) (fun hb => ?_)
  · have hb := of_decide_eq_true hb
    rw [if_pos (by omega)] at h; exact h
  · have hb := of_decide_eq_false hb
    rw [if_neg (by omega)] at h
    rw [wrap64 (x := s.2 - s.1 + 1 + 3) (by omega) (by omega), Int.tdiv_eq_ediv_of_nonneg (by omega), wrap64 (x := (s.2 - s.1 + 1) / 64) (by omega) (by omega), wrap64 (by omega) (by omega)]
    rwa [show s.2 - s.1 + 1 + 3 + (s.2 - s.1 + 1) / 64 = s.2 - s.1 + 1 + (s.2 - s.1 + 1) / 64 + 3 by omega]

theorem build_way (w : World) : (Instr.build 24 #[(0, .int .i64 1), (2, .int .i64 0)]).run Try.prog w = .ok (.agg ⟨Wy.l ⟨1, 0, 0, 0⟩⟩) w := by kernel_rfl

theorem backP_200 : ofS 200 = (⟨2, 0, 2, 2⟩, 0) := by decide
theorem backP_6 : backP ⟨1, 0, 0, 0⟩ = (6, 0) := by decide
theorem need_5 : needS 0 300 = 5 := by decide
theorem layN_258 : (iL (namesS (layN (List.replicate 256 0) 1 258)))[1]? = some (.int .i64 258) := by
  have : (namesS (layN (List.replicate 256 0) 1 258))[1]? = some 258 := by decide +kernel
  unfold iL; rw [List.getElem?_map, this]; rfl

theorem known_c {w : World} {K : Value → World → Prop} (h : ∀ w', Mod No w w' → K (.bool true) w') : Cal Try.prog F_leveelaw09_known #[] w K := by
  apply C_leveelaw09_known
  unfold D_leveelaw09_known
  refine Of_c (by decide) (by decide) fun w1 m1 => ?_
  rw [backP_200]
  refine ⟨_, _, rfl, _, _, alloc_Way w1, _, store_new (by kernel_rfl) rfl rfl (one_Wy _), _, build_way, Back_c (by decide) (by decide) fun w2 m2 => ?_⟩
  rw [backP_6]
  have mA : Mod No w (w1.alloc (.cells ⟨Wy.l ⟨2, 0, 2, 2⟩⟩ 24)) := m1.alloc _
  have hat0 : At (w1.alloc (.cells ⟨Wy.l ⟨2, 0, 2, 2⟩⟩ 24)) w1.heap.size 0 (Wy.l ⟨2, 0, 2, 2⟩) := AtU.new.at
  have hat2 := hat0.keep m2 id
  obtain ⟨w3, hk1, hk2, hk3, _⟩ := makeSlice_run (P := Try.prog) (w := w2) (n := 256) elemZ_bytes (by omega) (by omega) (by omega)
  refine ⟨_, _, rfl, _, _, _, w3, hk1, ?_⟩
  have hat3 := hat2.keep hk3 id
  have hz : List.replicate (256 * 1) (Value.int .u8 0) = u8L (List.replicate 256 0) := by unfold u8L; rw [List.map_replicate]; rfl
  rw [hz] at hk2
  refine Lay_c (xs := List.replicate 256 0) (by rw [List.length_replicate]) (.inr ⟨_, _, rfl, hk2.at⟩) (by omega) (fun e => absurd rfl e) (fun _ e => by omega) (fun _ _ e => by omega) fun _ _ _ w4 b4 hb4 m4 hat4 => ?_
  refine ⟨_, _, _, _, rfl, ?_⟩
  have hlen : (layN (List.replicate 256 0) (1 : Int).toNat (258 : Int).toNat).length = 256 := by
    unfold layN; simp only [List.length_append, List.length_take, List.length_drop, length_toLe, List.length_replicate]; decide
  refine Names_c hlen (.inr ⟨_, _, rfl, hat4.at⟩) (by omega) (fun e => absurd rfl e) fun _ w5 b5 hb5 m5 hat5 => ?_
  have hat6 := (hat3.keep m4 id).keep m5 id
  refine ⟨_, _, _, _, rfl, Share.dup ⟨_, load_way (by kernel_rfl) hat6 (v := 2) rfl, tt rfl ⟨_, load_way (by kernel_rfl) hat6 (v := 2) rfl, tt rfl ⟨_, load_way (by kernel_rfl) hat6 (v := 2) rfl, tt rfl (tt rfl (tt rfl (tt rfl (tt rfl (tt rfl (tt rfl ?_))))))⟩⟩⟩⟩
  refine ⟨_, index_slice (k := 1) (by kernel_rfl) (by omega) (by omega), _, ?_, tt (b := (258 : Int) == 258) rfl ?_⟩
  · rw [add_none]; exact hat5.at.load (by kernel_rfl) layN_258
  · refine Need_c ⟨_, rfl, _, rfl, ?_⟩
    rw [need_5]
    exact h _ ((((mA.no m2).no hk3).no m4).no m5)
end Go.Proofs.Ytkmkfdljnlbikaa
