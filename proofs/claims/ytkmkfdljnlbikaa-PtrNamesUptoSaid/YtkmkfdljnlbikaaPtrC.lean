/- The ways of layer 9: spans, and back; the references. -/
import Derived.Test.YtkmkfdljnlbikaaPtrB
import Derived.Test.YtkmkfdljnlbikaaEqInts
open Go Go.Den Go.Proofs
namespace Go.Proofs.Ytkmkfdljnlbikaa

theorem refOf_c {n : Int} (h0 : -9223372036854775808 ≤ n) (h1 : n ≤ 9223372036854775807) {w : World} {K : Value → World → Prop}
    (h : ∀ w', Mod No w w' → K (.tuple #[.agg ⟨(ofS n).1.l⟩, .int .i64 (ofS n).2]) w') : Cal Try.prog F_leveeref09_Of #[.int .i64 n] w K := by
  apply C_leveeref09_Of
  unfold D_leveeref09_Of
  refine ⟨_, _, alloc_refWay w, Share.or ?_⟩
  refine ⟨_, rfl, cond_of (fun hb => ?_) (fun hb => ?_)⟩
  · have hc : n < 0 ∨ n ≥ 4166 := by simpa using hb
    refine leaf _ (by kernel_rfl) ⟨0, 0, 0, 0⟩ _ 28 _ (fun _ => by kernel_rfl) ?_
    have := h _ ((Mod.refl No w).alloc (.cells ⟨Wy.l ⟨0, 0, 0, 0⟩⟩ 23))
    simpa [ofS, if_pos hc] using this
  · have hc : ¬ (n < 0 ∨ n ≥ 4166) := by simpa using hb
    refine cond_of (fun hb => ?_) (fun hb => ?_)
    · have h6 : n < 6 := by simpa using hb
      refine leaf _ (by kernel_rfl) ⟨0, n, 0, 0⟩ _ 0 _ (fun _ => by kernel_rfl) ?_
      have := h _ ((Mod.refl No w).alloc (.cells ⟨Wy.l ⟨0, n, 0, 0⟩⟩ 23))
      simpa [ofS, if_neg hc, if_pos h6] using this
    · have h6 : ¬ n < 6 := by simpa using hb
      refine cond_of (fun hb => ?_) (fun hb => ?_)
      · have h70 : n < 70 := by have := of_decide_eq_true hb; omega
        rw [wrap64 (x := n - 6) (by omega) (by omega)]
        refine leaf _ (by kernel_rfl) ⟨1, 0, n - 6, 0⟩ _ 0 _ (fun _ => by kernel_rfl) ?_
        have := h _ ((Mod.refl No w).alloc (.cells ⟨Wy.l ⟨1, 0, n - 6, 0⟩⟩ 23))
        simpa [ofS, if_neg hc, if_neg h6, if_pos h70] using this
      · have h70 : ¬ n < 70 := by have := of_decide_eq_false hb; omega
        rw [wrap64 (x := n - 70) (by omega) (by omega), Int.tdiv_eq_ediv_of_nonneg (by omega), Int.tmod_eq_emod_of_nonneg (by omega),
          wrap64 (x := (n - 70) / 64) (by omega) (by omega)]
        refine leaf _ (by kernel_rfl) ⟨2, 0, (n - 70) / 64, (n - 70) % 64⟩ _ 0 _ (fun _ => by kernel_rfl) ?_
        have := h _ ((Mod.refl No w).alloc (.cells ⟨Wy.l ⟨2, 0, (n - 70) / 64, (n - 70) % 64⟩⟩ 23))
        simpa [ofS, if_neg hc, if_neg h6, if_neg h70] using this

/-- The nearest number of a span. -/
def near (n lo hi : Int) : Int := if hi < (if lo > n then lo else n) then hi else (if lo > n then lo else n)
theorem within_c {n lo hi : Int} {w : World} {K : Value → World → Prop} (h : K (.int .i64 (near n lo hi)) w) : Cal Try.prog F_ptr_within_int #[.int .i64 n, .int .i64 lo, .int .i64 hi] w K := by
  apply C_ptr_within_int; exact h
theorem within64_c {n lo hi : Int} {w : World} {K : Value → World → Prop} (h : K (.int .i64 (near n lo hi)) w) : Cal Try.prog F_ptr_within_int64 #[.int .i64 n, .int .i64 lo, .int .i64 hi] w K := by
  apply C_ptr_within_int64; exact h
theorem place_c {n : Int} {w : World} {K : Value → World → Prop} (h : K (.int .i64 (near n 0 63)) w) : Cal Try.prog F_ptr_place #[.int .i64 n] w K := by
  apply C_ptr_place; unfold D_ptr_place
  exact within_c ⟨_, rfl, h⟩
theorem near_in (n : Int) : 0 ≤ near n 0 63 ∧ near n 0 63 ≤ 63 := by unfold near; split <;> split <;> omega
theorem near_id {n lo hi : Int} (h : lo ≤ hi) : near n lo hi = n ↔ lo ≤ n ∧ n ≤ hi := by unfold near; split <;> split <;> omega

theorem load_way {T : Nat} (hT : scal Try.prog T = true) {w : World} {b : Nat} {x : Wy} (h : At w b 0 x.l) {i : Nat} {v : Int} (hv : x.l[i]? = some (.int .i64 v)) :
    Ru (Instr.loadAt T (.pointer (some (Addr.add ⟨b, 0, none⟩ i)))) w (.int .i64 v) w := by
  rw [add_none]; exact h.load hT hv
theorem load_way_all {T : Nat} (hT : aggN Try.prog T = some 4) {w : World} {b : Nat} {x : Wy} (h : At w b 0 x.l) : Ru (Instr.loadAt T (.pointer (some ⟨b, 0, none⟩))) w (.agg ⟨x.l⟩) w := by
  have := h.loadAgg (P := Try.prog) (i := 0) hT (by simp [Wy.l])
  simpa [Wy.l] using this
theorem Wy.l_eq (x : Wy) : x.l = [x.d, x.a, x.b, x.c].map (Value.int .i64) := rfl
theorem Wy.ext_iff' (x y : Wy) : [x.d, x.a, x.b, x.c] = [y.d, y.a, y.b, y.c] ↔ x = y := by
  cases x; cases y; simp

theorem intsWay : intsT Try.prog 24 = true := by kernel_rfl
theorem intsRefWay : intsT Try.prog 23 = true := by kernel_rfl
def nF (P : Program) (T : TypeId) : Nat := match P.underlying T with | some (.struct fs) => fs.toList.length | _ => 0
theorem nF_of {P : Program} {T : TypeId} {n : Nat} (h : nF P T = n) : ∀ fs, P.underlying T = some (.struct fs) → n = fs.toList.length := by
  intro fs hu; unfold nF at h; rw [hu] at h; exact h.symm
theorem nWay : nF Try.prog 24 = 4 := by kernel_rfl
theorem nRefWay : nF Try.prog 23 = 4 := by kernel_rfl
theorem eq_way (x y : Wy) (o1 o2 : Operand) : Al (eqS .eql 24 o1 o2 (.agg ⟨x.l⟩) (.agg ⟨y.l⟩)) (.bool (decide (x = y))) ∧ Al (eqS .neq 24 o1 o2 (.agg ⟨x.l⟩) (.agg ⟨y.l⟩)) (.bool (!decide (x = y))) := by
  have := fun w => eq_ints (P := Try.prog) intsWay (o1 := o1) (o2 := o2) (xs := [x.d, x.a, x.b, x.c]) (ys := [y.d, y.a, y.b, y.c]) (nF_of nWay) rfl w
  simp only [Wy.ext_iff'] at this
  exact ⟨fun w => (this w).1, fun w => (this w).2⟩
theorem eq_refway (x y : Wy) (o1 o2 : Operand) : Al (eqS .eql 23 o1 o2 (.agg ⟨x.l⟩) (.agg ⟨y.l⟩)) (.bool (decide (x = y))) ∧ Al (eqS .neq 23 o1 o2 (.agg ⟨x.l⟩) (.agg ⟨y.l⟩)) (.bool (!decide (x = y))) := by
  have := fun w => eq_ints (P := Try.prog) intsRefWay (o1 := o1) (o2 := o2) (xs := [x.d, x.a, x.b, x.c]) (ys := [y.d, y.a, y.b, y.c]) (nF_of nRefWay) rfl w
  simp only [Wy.ext_iff'] at this
  exact ⟨fun w => (this w).1, fun w => (this w).2⟩

/-- What the program tries. -/
def tryN (x : Wy) : Int := if x.d = 0 then x.a else if x.d = 1 then 6 + near x.b 0 63 else if x.d = 2 then 70 + near x.b 0 63 * 64 + near x.c 0 63 else 0
def backP (x : Wy) : Int × Int := if (ofS (tryN x)).2 = 0 ∧ (ofS (tryN x)).1 = x then (tryN x, 0) else (0, 1)

/-- The way of a block is one block's alone. -/
theorem ofS_tryN {n : Int} (h0 : 0 ≤ n) (h1 : n < 4166) : tryN (ofS n).1 = n := by
  unfold ofS
  rw [if_neg (by omega)]
  by_cases h6 : n < 6
  · rw [if_pos h6]; simp [tryN]
  · rw [if_neg h6]
    by_cases h70 : n < 70
    · rw [if_pos h70]; simp only [tryN]
      rw [if_neg (by omega), if_pos trivial, (near_id (by omega)).2 (by omega)]; omega
    · rw [if_neg h70]; simp only [tryN]
      rw [if_neg (by omega), if_neg (by omega), if_pos trivial, (near_id (by omega)).2 (by omega), (near_id (by omega)).2 (by omega)]; omega
theorem ofS_ok {n : Int} : (ofS n).2 = 0 ↔ 0 ≤ n ∧ n < 4166 := by
  unfold ofS; split
  · simp; omega
  · split
    · simp; omega
    · split <;> simp <;> omega

theorem Back_c {x : Wy} (ha0 : -9223372036854775808 ≤ x.a) (ha1 : x.a ≤ 9223372036854775807) {w : World} {K : Value → World → Prop}
    (h : ∀ w', Mod No w w' → K (.tuple #[.int .i64 (backP x).1, .int .i64 (backP x).2]) w') : Cal Try.prog F_ptr_Back #[.agg ⟨x.l⟩] w K := by
  apply C_ptr_Back
  unfold D_ptr_Back
  refine ⟨_, _, box_run, ?_⟩
  have hat : ∀ w', Mod No (w.alloc (.cells ⟨x.l⟩ 24)) w' → At w' w.heap.size 0 x.l := fun w' m => (AtU.new (w := w)).at.keep m id
  have hm0 : Mod No w (w.alloc (.cells ⟨x.l⟩ 24)) := (Mod.refl No w).alloc _
  have b1 := near_in x.b
  have c1 := near_in x.c
  have hat1 := hat _ (Mod.refl _ _)
  refine ⟨_, load_way (by kernel_rfl) hat1 (v := x.d) rfl, ?_⟩
  refine Share.cut (fun xs w' => xs = [.int .i64 (tryN x)] ∧ Mod No (w.alloc (.cells ⟨x.l⟩ 24)) w') (cond_of (fun hb => ?_) (fun hb => ?_)) ?_
  · have hd : x.d = 0 := by simpa using hb
    refine ⟨_, load_way (by kernel_rfl) hat1 (v := x.a) rfl, ?_, Mod.refl _ _⟩
    simp [tryN, hd]
  · have hd0 : ¬ x.d = 0 := by simpa using hb
    refine Share.dup (cond_of (fun hb => ?_) (fun hb => ?_))
    · have hd : x.d = 1 := by simpa using hb
      refine ⟨_, load_way (by kernel_rfl) hat1 (v := x.b) rfl, place_c ⟨_, rfl, ?_, Mod.refl _ _⟩⟩
      rw [wrap64 (by omega) (by omega)]
      simp [tryN, hd, nth]
    · have hd1 : ¬ x.d = 1 := by simpa using hb
      refine Share.dup (cond_of (fun hb => ?_) (fun hb => ?_))
      · have hd : x.d = 2 := by simpa using hb
        refine ⟨_, load_way (by kernel_rfl) hat1.drew (v := x.b) rfl, _, load_way (by kernel_rfl) hat1.drew (v := x.c) rfl, place_c ⟨_, rfl, load_way (by kernel_rfl) hat1.drew (v := x.c) rfl, place_c ⟨_, rfl, ?_, (Mod.refl _ _).drew⟩⟩⟩
        rw [wrap64 (x := near x.b 0 63 * 64) (by omega) (by omega), wrap64 (x := 70 + near x.b 0 63 * 64) (by omega) (by omega), wrap64 (by omega) (by omega)]
        simp [tryN, hd, nth]
      · have hd2 : ¬ x.d = 2 := by simpa using hb
        refine ⟨?_, Mod.refl _ _⟩
        simp [tryN, hd0, hd1, hd2, nth]
  · rintro xs w2 ⟨rfl, hm⟩
    have ht0 : -9223372036854775808 ≤ tryN x := by unfold tryN; split; omega; split; omega; split <;> omega
    have ht1 : tryN x ≤ 9223372036854775807 := by unfold tryN; split; omega; split; omega; split <;> omega
    refine ⟨_, rfl, Of_c ht0 ht1 fun w3 hm3 => ⟨_, _, rfl, _, _, alloc_Way w3, _, store_new (by kernel_rfl) rfl rfl (one_Wy _), ?_⟩⟩
    have hm4 : Mod No (w.alloc (.cells ⟨x.l⟩ 24)) (w3.alloc (.cells ⟨(ofS (tryN x)).1.l⟩ 24)) := (hm.no hm3).alloc _
    have hfin := hm0.no hm4
    by_cases he : (ofS (tryN x)).2 = 0
    · refine Share.dup (cond_of (fun hb => ?_) (fun hb => ?_))
      · simp [he] at hb
      refine ⟨_, load_new (by kernel_rfl) rfl, _, load_way_all (by kernel_rfl) (hat _ hm4), _, (eq_way _ _ _ _).2, _, rfl, cond_of (fun hb => ?_) (fun hb => ?_)⟩
      · have hne : ¬ (ofS (tryN x)).1 = x := by simpa using hb
        have := h _ hfin
        simpa [backP, hne] using this
      · have heq : (ofS (tryN x)).1 = x := by simpa using hb
        have := h _ hfin
        simpa [backP, he, heq] using this
    · refine Share.dup (cond_of (fun hb => ?_) (fun hb => ?_))
      · refine ⟨_, rfl, ?_⟩
        have := h _ hfin
        simpa [backP, he] using this
      · simp [he] at hb
end Go.Proofs.Ytkmkfdljnlbikaa
