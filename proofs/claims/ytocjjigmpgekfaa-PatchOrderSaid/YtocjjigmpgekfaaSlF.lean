/- The library's slices functions that layer 10 calls, at rows of ints and of bytes. -/
import Derived.Test.YtocjjigmpgekfaaRef1
import Derived.Test.YtocjjigmpgekfaaTxtA
open Go Go.Den Go.Proofs
namespace Go.Den
section
variable {P : Program} {w : World}
/-- A store into a row of one's own. -/
theorem Own.set {base l c g i : Nat} {T T' : TypeId} {ys : List Value} {v : Value} (h : Own P w base T 1 (some ⟨g, 0, none⟩) l c ys) (hT : scal P T' = true) (hi : i < l) (hv : v.oneCell' = true) :
    ∃ w', (Instr.storeAt T' (.pointer (some ⟨g, i, none⟩)) v).run P w = .ok () w' ∧ Own P w' base T 1 (some ⟨g, 0, none⟩) l c (ys.set i v) ∧ Mod (fun x => x = g) w w' := by
  have hlen := h.len
  obtain ⟨e, he, h1, h2⟩ := h
  rcases h2 with ⟨hn, _⟩ | ⟨g', cap, cur, hw, hb, hg, hle, hm, hsz, ht⟩
  · cases hn
  · simp at hw
    obtain ⟨rfl, rfl⟩ := hw
    have hcur : w.heap[g]? = some (.cells ⟨cur.toList⟩ e (0, 0)) := hg
    have hci : i < cur.toList.length := by simp [hsz]; omega
    refine ⟨_, store_cell hT hcur hci (by simp) hv, ⟨e, he, by simpa using h1, .inr ⟨g, c, ⟨cur.toList.set i v⟩, rfl, hb, heap_put_same (lt_of_heap hg), hle, hm, by simp [hsz], ?_⟩⟩, (Mod.refl (fun x => x = g) w).put (.inr rfl) _⟩
    show (cur.toList.set i v).take (l * 1) = ys.set i v
    rw [List.take_set, ht]
/-- A row of one's own, shorter. -/
theorem Own.shrink {base l c i : Nat} {T : TypeId} {a : Option Addr} {ys : List Value} (h : Own P w base T 1 a l c ys) (hi : i ≤ l) (ha : a ≠ none) : Own P w base T 1 a i c (ys.take i) := by
  have hlen := h.len
  obtain ⟨e, he, h1, h2⟩ := h
  rcases h2 with ⟨hn, _⟩ | ⟨g', cap, cur, hw, hb, hg, hle, hm, hsz, ht⟩
  · simp at hn; exact absurd hn.1 ha
  · simp at hw
    obtain ⟨rfl, rfl⟩ := hw
    refine ⟨e, he, by simp; omega, .inr ⟨g', c, cur, rfl, hb, hg, by omega, hm, hsz, ?_⟩⟩
    rw [← ht, List.take_take, Nat.min_eq_left (by omega)]; simp
/-- clear of a row's end. -/
theorem Own.clear {base bytes l c g i : Nat} {T ty : TypeId} {z : Value} {ys : List Value} (hT : elemZ P T 1 z bytes) (h : Own P w base T 1 (some ⟨g, 0, none⟩) l c ys) (hi : i ≤ l) (hz : z.oneCell' = true) :
    ∃ w' zs, (Builtin.clear_ #[T] ty #[.slice (cutA (some ⟨g, 0, none⟩) c i 1) (l - i) (c - i)]).run P w = .ok (.tuple #[]) w' ∧ Own P w' base T 1 (some ⟨g, 0, none⟩) l c (ys.take i ++ zs) ∧ Mod (fun x => x = g) w w' := by
  have hlen := h.len
  have hcap := h.cap
  obtain ⟨e0, inf, zv, he0, hinf, hsz0, hz0, hzc, hby⟩ := hT.is
  by_cases h0 : l - i = 0
  · refine ⟨w, [], ?_, ?_, Mod.refl _ _⟩
    · rw [h0]
      unfold cutA
      split <;> simp [Builtin.clear_, run_und he0]
    · have : ys.take i = ys := List.take_of_length_le (by omega)
      rw [this, List.append_nil]; exact h
  · obtain ⟨e, he, h1, h2⟩ := h
    have hee : e = e0 := by rw [he0] at he; simpa using he.symm
    subst hee
    rcases h2 with ⟨hn, _⟩ | ⟨g', cap, cur, hw, hb, hg, hle, hm, hsz, ht⟩
    · cases hn
    · simp at hw
      obtain ⟨rfl, rfl⟩ := hw
      have hcur : w.heap[g]? = some (.cells ⟨cur.toList⟩ e (0, 0)) := hg
      have hcut : cutA (some ⟨g, 0, none⟩) c i 1 = some ⟨g, i, none⟩ := by
        unfold cutA; rw [if_neg (by omega)]; simp [add_none]
      have hzl : (Builtin.zeroCells zv.cells (l - i)).toList.length = l - i := by
        rw [Array.length_toList, size_zeroCells, hzc]; simp
      have hzone : ∀ v ∈ (Builtin.zeroCells zv.cells (l - i)).toList, v.oneCell' = true := by
        intro v hv
        have : v = z := by
          unfold Builtin.zeroCells at hv
          rw [hzc] at hv
          simp at hv
          obtain ⟨_, _, rfl⟩ := hv
          rw [Nat.mod_one]; rfl
        rw [this]; exact hz
      have hs := store_cells (P := P) (Builtin.zeroCells zv.cells (l - i)).toList (o := i) (i := 0) hcur (by rw [hzl]; simp [hsz]; omega) (fun j _ _ => by simp) hzone
      refine ⟨_, (Builtin.zeroCells zv.cells (l - i)).toList, ?_, ⟨e, he, by simp [hzl]; omega, .inr ⟨g, c, ⟨splice cur.toList i (Builtin.zeroCells zv.cells (l - i)).toList⟩, rfl, hb, heap_put_same (lt_of_heap hg), hle, hm, ?_, ?_⟩⟩, (Mod.refl (fun x => x = g) w).put (.inr rfl) _⟩
      · rw [hcut]
        obtain ⟨k, hk⟩ : ∃ k, l - i = k + 1 := ⟨l - i - 1, by omega⟩
        rw [hk] at hs ⊢
        have hund : (underlying T).run P w = .ok (.slice e) w := run_und he w
        simp [Builtin.clear_, hund, zeroValue, typeInfo, hinf, hz0, hs]
      · show (splice cur.toList i _).length = c * 1
        rw [length_splice (by rw [hzl]; simp [hsz]; omega)]; simp [hsz]
      · show (splice cur.toList i _).take (l * 1) = _
        unfold splice
        rw [Nat.mul_one] at ht ⊢
        have e1 : ys.take i = cur.toList.take i := by rw [← ht, List.take_take, Nat.min_eq_left hi]
        have hl2 : (cur.toList.take i ++ (Builtin.zeroCells zv.cells (l - i)).toList).length = l := by rw [List.length_append, hzl]; simp [hsz]; omega
        rw [e1, List.take_append_of_le_length (by omega), List.take_of_length_le (by omega)]
end
end Go.Den
