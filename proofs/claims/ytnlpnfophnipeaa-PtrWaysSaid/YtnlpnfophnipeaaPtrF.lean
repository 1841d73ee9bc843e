/- The statement PtrWays: the way to any block, the block of any way, the blocks of any bytes. -/
import Derived.Test.YtnlpnfophnipeaaPtrD
open Go Go.Den Go.Proofs
namespace Go.Proofs.Ytnlpnfophnipeaa

theorem given_c {x : Wy} {w : World} {K : Value → World → Prop} (h : ∀ w', Mod No w w' → K (.agg ⟨x.l⟩) w') : Cal Try.prog F_leveelaw09_given #[.agg ⟨x.l⟩] w K := by
  apply C_leveelaw09_given
  unfold D_leveelaw09_given
  refine ⟨_, _, box_run, _, _, alloc_Way _, ?_⟩
  have h1 : Mod No w (w.alloc (.cells ⟨x.l⟩ 23)) := (Mod.refl No w).alloc _
  have hat : At ((w.alloc (.cells ⟨x.l⟩ 23)).alloc (.cells ⟨Wy.l ⟨0, 0, 0, 0⟩⟩ 24)) w.heap.size 0 x.l := (AtU.new (w := w)).at.keep ((Mod.refl No _).alloc _) id
  refine ⟨_, load_way (by kernel_rfl) hat (v := x.d) rfl, _, load_way (by kernel_rfl) hat (v := x.a) rfl, _, load_way (by kernel_rfl) hat (v := x.b) rfl, _, load_way (by kernel_rfl) hat (v := x.c) rfl, ⟨x.l⟩, fun _ => by kernel_rfl, _, store_new (by kernel_rfl) rfl rfl (one_Wy x), _, load_new (by kernel_rfl) rfl, ?_⟩
  exact h _ (h1.alloc _)
theorem taken_c {x : Wy} {w : World} {K : Value → World → Prop} (h : ∀ w', Mod No w w' → K (.agg ⟨x.l⟩) w') : Cal Try.prog F_leveelaw09_taken #[.agg ⟨x.l⟩] w K := by
  apply C_leveelaw09_taken
  unfold D_leveelaw09_taken
  refine ⟨_, _, box_run, _, _, alloc_refWay _, ?_⟩
  have h1 : Mod No w (w.alloc (.cells ⟨x.l⟩ 24)) := (Mod.refl No w).alloc _
  have hat : At ((w.alloc (.cells ⟨x.l⟩ 24)).alloc (.cells ⟨Wy.l ⟨0, 0, 0, 0⟩⟩ 23)) w.heap.size 0 x.l := (AtU.new (w := w)).at.keep ((Mod.refl No _).alloc _) id
  refine ⟨_, load_way (by kernel_rfl) hat (v := x.d) rfl, _, load_way (by kernel_rfl) hat (v := x.a) rfl, _, load_way (by kernel_rfl) hat (v := x.b) rfl, _, load_way (by kernel_rfl) hat (v := x.c) rfl, ⟨x.l⟩, fun _ => by kernel_rfl, _, store_new (by kernel_rfl) rfl rfl (one_Wy x), _, load_new (by kernel_rfl) rfl, ?_⟩
  exact h _ (h1.alloc _)

set_option maxRecDepth 100000 in
theorem refBack_c {x : Wy} {w : World} {K : Value → World → Prop}
    (h : ∀ w', Mod No w w' → K (.tuple #[.int .i64 (backP x).1, .int .i64 (backP x).2]) w') : Cal Try.prog F_leveeref09_Back #[.agg ⟨x.l⟩] w K := by
  apply C_leveeref09_Back
  unfold D_leveeref09_Back
  refine ⟨_, _, box_run, ?_⟩
  have hm0 : Mod No w (w.alloc (.cells ⟨x.l⟩ 23)) := (Mod.refl No w).alloc _
  refine ⟨fun y w2 => ∃ i : Nat, i ≤ 4166 ∧ y = [.int .i64 i] ∧ (∀ j : Nat, j < i → (ofS j).1 ≠ x) ∧ Mod No (w.alloc (.cells ⟨x.l⟩ 23)) w2, fun y _ => (4166 - lastI y).toNat, ⟨0, by omega, rfl, fun j hj => by omega, Mod.refl _ _⟩, ?_⟩
  rintro y w2 ⟨i, hi, rfl, hno, hm⟩
  refine ⟨_, rfl, cond_of (fun hb => ?_) (fun hb => ?_)⟩
  · have hi : i < 4166 := by have := of_decide_eq_true hb; omega
    refine refOf_c (by omega) (by omega) fun w3 m3 => ⟨_, _, rfl, _, _, alloc_refWay w3, _, store_new (by kernel_rfl) rfl rfl (one_Wy _), _, load_new (by kernel_rfl) rfl, ?_⟩
    have m4 := (hm.no m3).alloc (.cells ⟨(ofS i).1.l⟩ 23)
    refine ⟨_, load_way_all (by kernel_rfl) ((AtU.new (w := w)).at.keep m4 id), _, (eq_refway _ _ _ _).1, cond_of (fun hb => ?_) (fun hb => ?_)⟩
    · have he : (ofS (i : Int)).1 = x := of_decide_eq_true hb
      have ht : tryN x = i := by rw [← he]; exact ofS_tryN (by omega) (by omega)
      have := h _ (hm0.no m4)
      have hb : backP x = ((i : Int), 0) := by unfold backP; rw [ht, if_pos ⟨ofS_ok.2 ⟨by omega, by omega⟩, he⟩]
      rw [hb] at this; exact this
    · have he : ¬ (ofS i).1 = x := of_decide_eq_false hb
      rw [wrap64 (x := (i : Int) + 1) (by omega) (by omega)]
      refine ⟨⟨i + 1, by omega, rfl, fun j hj => ?_, m4⟩, by simp [lastI]; omega⟩
      by_cases e : j = i
      · subst e; exact he
      · exact hno j (by omega)
  · have hi2 : i = 4166 := by have := of_decide_eq_false hb; omega
    subst hi2
    have := h _ (hm0.no hm)
    have hb : backP x = (0, 1) := by
      unfold backP
      rw [if_neg]
      rintro ⟨h1, h2⟩
      have hr := ofS_ok.1 h1
      have := hno (tryN x).toNat (by omega)
      rw [Int.toNat_of_nonneg hr.1] at this
      exact this h2
    rw [hb] at this; exact this

theorem PtrWays_c {n off k : Int} {x : Wy} (hn0 : -9223372036854775808 ≤ n) (hn1 : n ≤ 9223372036854775807) (ha0 : -9223372036854775808 ≤ x.a) (ha1 : x.a ≤ 9223372036854775807) (w : World) :
    Cal Try.prog F_leveelaw09_PtrWays #[.int .i64 n, .agg ⟨x.l⟩, .int .i64 off, .int .i64 k] w (fun v w' => v = .bool true ∧ Mod No w w') := by
  apply C_leveelaw09_PtrWays
  unfold D_leveelaw09_PtrWays
  refine ⟨_, _, box_run, ?_⟩
  have m0 : Mod No w (w.alloc (.cells ⟨x.l⟩ 23)) := (Mod.refl No w).alloc _
  have at0 : At (w.alloc (.cells ⟨x.l⟩ 23)) w.heap.size 0 x.l := AtU.new.at
  refine Of_c hn0 hn1 fun w1 m1 => ⟨_, _, rfl, _, _, alloc_Way w1, _, store_new (by kernel_rfl) rfl rfl (one_Wy _), ?_⟩
  have m2 : Mod No (w.alloc (.cells ⟨x.l⟩ 23)) (w1.alloc (.cells ⟨(ofS n).1.l⟩ 24)) := m1.alloc _
  have at2 := at0.keep m2 id
  have x2 : At (w1.alloc (.cells ⟨(ofS n).1.l⟩ 24)) w1.heap.size 0 (ofS n).1.l := AtU.new.at
  generalize w1.alloc (.cells ⟨(ofS n).1.l⟩ 24) = w2 at *
  generalize w1.heap.size = b2 at *
  refine refOf_c hn0 hn1 fun w3 m3 => ⟨_, _, rfl, _, _, alloc_refWay w3, _, store_new (by kernel_rfl) rfl rfl (one_Wy _), ?_⟩
  have m4 : Mod No w2 (w3.alloc (.cells ⟨(ofS n).1.l⟩ 23)) := m3.alloc _
  have at4 := at2.keep m4 id
  have x4 := x2.keep m4 id
  have y4 : At (w3.alloc (.cells ⟨(ofS n).1.l⟩ 23)) w3.heap.size 0 (ofS n).1.l := AtU.new.at
  have m4' := (m0.no m2).no m4
  generalize w3.alloc (.cells ⟨(ofS n).1.l⟩ 23) = w4 at *
  generalize w3.heap.size = b4 at *
  refine ⟨_, load_way_all (by kernel_rfl) at4, given_c fun w5 m5 => ⟨_, rfl, Back_c ha0 ha1 fun w6 m6 => ⟨_, _, rfl, _, load_way_all (by kernel_rfl) ((at4.keep m5 id).keep m6 id), refBack_c fun w7 m7 => ⟨_, _, rfl, ?_⟩⟩⟩⟩
  refine Span_c ⟨_, _, rfl, refSpan_c ⟨_, _, rfl, ?_⟩⟩
  have m8 := ((m5.no m6).no m7)
  have x8 := (x4.keep m8 id).drew
  have y8 := (y4.keep m8 id).drew
  refine Share.dup ⟨_, load_way_all (by kernel_rfl) x8, _, load_way_all (by kernel_rfl) y8, taken_c fun w9 m9 => ⟨_, rfl, load_way_all (by kernel_rfl) (y8.keep m9 id), _, (eq_refway _ _ _ _).1, ?_⟩⟩
  refine tt (by simp) (tt (by simp) (tt (by simp) (tt (by simp) (tt (by simp) (tt (by simp) (Need_c ⟨_, rfl, refNeed_c ⟨_, rfl, tt (by simp) (known_c fun w10 m10 => ⟨_, rfl, _, rfl, rfl, ?_⟩)⟩⟩))))))
  exact ((m4'.no m8).no (Mod.drew (Mod.refl _ _))).no (m9.no m10)
end Go.Proofs.Ytnlpnfophnipeaa
