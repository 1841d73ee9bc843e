/- The ways of layer 9: contracts of the small functions. -/
import Derived.Test.YtkmkfdljnlbikaaWords
import Derived.Test.YtkmkfdljnlbikaaTxtA
open Go Go.Den Go.Proofs
namespace Go.Proofs.Ytkmkfdljnlbikaa

/-- A way: its four numbers. -/
structure Wy where
  d : Int
  a : Int
  b : Int
  c : Int
  deriving DecidableEq
def Wy.l (x : Wy) : List Value := [.int .i64 x.d, .int .i64 x.a, .int .i64 x.b, .int .i64 x.c]
def ofS (n : Int) : Wy × Int :=
  if n < 0 ∨ n ≥ 4166 then (⟨0, 0, 0, 0⟩, 28) else if n < 6 then (⟨0, n, 0, 0⟩, 0) else if n < 70 then (⟨1, 0, n - 6, 0⟩, 0) else (⟨2, 0, (n - 70) / 64, (n - 70) % 64⟩, 0)

theorem alloc_Way (w : World) : (Instr.alloc 24 true (.tuple #[])).run Try.prog w = .ok (.pointer (some ⟨w.heap.size, 0, none⟩)) (w.alloc (.cells ⟨(Wy.l ⟨0, 0, 0, 0⟩)⟩ 24)) := by kernel_rfl
theorem alloc_refWay (w : World) : (Instr.alloc 23 true (.tuple #[])).run Try.prog w = .ok (.pointer (some ⟨w.heap.size, 0, none⟩)) (w.alloc (.cells ⟨(Wy.l ⟨0, 0, 0, 0⟩)⟩ 23)) := by kernel_rfl
theorem one_Wy (x : Wy) : ∀ v ∈ x.l, v.oneCell' = true := by
  intro v hv
  simp [Wy.l] at hv
  rcases hv with rfl | rfl | rfl | rfl <;> rfl

theorem leaf (T : TypeId) (hT : aggN Try.prog T = some 4) {t : TypeId} (x z : Wy) (e : Int) (s : Sem Value) (hs : Al s (.agg ⟨x.l⟩)) {w : World} {K : Value → World → Prop} (hk : K (.tuple #[.agg ⟨x.l⟩, .int .i64 e]) (w.alloc (.cells ⟨x.l⟩ t))) :
    ∃ g : Array Value, Al s (.agg g) ∧ ∃ w3 : World, RuU (Instr.storeAt T (.pointer (some ⟨w.heap.size, 0, none⟩)) (.agg g)) (w.alloc (.cells ⟨z.l⟩ t)) w3 ∧
      ∃ gR : Array Value, Ru (Instr.loadAt T (.pointer (some ⟨w.heap.size, 0, none⟩))) w3 (.agg gR) w3 ∧ K (.tuple #[.agg gR, .int .i64 e]) w3 :=
  ⟨⟨x.l⟩, hs, _, store_new hT rfl rfl (one_Wy x), _, load_new hT rfl, hk⟩

theorem Of_c {n : Int} (h0 : -9223372036854775808 ≤ n) (h1 : n ≤ 9223372036854775807) {w : World} {K : Value → World → Prop}
    (h : ∀ w', Mod No w w' → K (.tuple #[.agg ⟨(ofS n).1.l⟩, .int .i64 (ofS n).2]) w') : Cal Try.prog F_ptr_Of #[.int .i64 n] w K := by
  apply C_ptr_Of
  unfold D_ptr_Of
  refine ⟨_, _, alloc_Way w, Share.or ?_⟩
  refine ⟨_, rfl, cond_of (fun hb => ?_) (fun hb => ?_)⟩
  · have hc : n < 0 ∨ n ≥ 4166 := by simpa using hb
    refine leaf _ (by kernel_rfl) ⟨0, 0, 0, 0⟩ _ 28 _ (fun _ => by kernel_rfl) ?_
    have := h _ ((Mod.refl No w).alloc (.cells ⟨Wy.l ⟨0, 0, 0, 0⟩⟩ 24))
    simpa [ofS, if_pos hc] using this
  · have hc : ¬ (n < 0 ∨ n ≥ 4166) := by simpa using hb
    refine cond_of (fun hb => ?_) (fun hb => ?_)
    · have h6 : n < 6 := by simpa using hb
      refine leaf _ (by kernel_rfl) ⟨0, n, 0, 0⟩ _ 0 _ (fun _ => by kernel_rfl) ?_
      have := h _ ((Mod.refl No w).alloc (.cells ⟨Wy.l ⟨0, n, 0, 0⟩⟩ 24))
      simpa [ofS, if_neg hc, if_pos h6] using this
    · have h6 : ¬ n < 6 := by simpa using hb
      rw [wrap64 (x := n - 6) (by omega) (by omega)]
      refine cond_of (fun hb => ?_) (fun hb => ?_)
      · have h70 : n < 70 := by have := of_decide_eq_true hb; omega
        refine leaf _ (by kernel_rfl) ⟨1, 0, n - 6, 0⟩ _ 0 _ (fun _ => by kernel_rfl) ?_
        have := h _ ((Mod.refl No w).alloc (.cells ⟨Wy.l ⟨1, 0, n - 6, 0⟩⟩ 24))
        simpa [ofS, if_neg hc, if_neg h6, if_pos h70] using this
      · have h70 : ¬ n < 70 := by have := of_decide_eq_false hb; omega
        rw [wrap64 (x := n - 6 - 64) (by omega) (by omega), show n - 6 - 64 = n - 70 by omega, Int.tdiv_eq_ediv_of_nonneg (by omega), Int.tmod_eq_emod_of_nonneg (by omega),
          wrap64 (x := (n - 70) / 64) (by omega) (by omega)]
        refine leaf _ (by kernel_rfl) ⟨2, 0, (n - 70) / 64, (n - 70) % 64⟩ _ 0 _ (fun _ => by kernel_rfl) ?_
        have := h _ ((Mod.refl No w).alloc (.cells ⟨Wy.l ⟨2, 0, (n - 70) / 64, (n - 70) % 64⟩⟩ 24))
        simpa [ofS, if_neg hc, if_neg h6, if_neg h70] using this
end Go.Proofs.Ytkmkfdljnlbikaa
