/- The ways of layer 9: blocks of names, spans, and back. -/
import Derived.Test.YtkmkfdljnlbikaaPtrA
import Derived.Test.YtkmkfdljnlbikaaNums
open Go Go.Den Go.Proofs
namespace Go.Den
def I (n : Int) : Value := .int .i64 n
def iL (ns : List Int) : List Value := ns.map I
@[simp] theorem length_iL (ns : List Int) : (iL ns).length = ns.length := by simp [iL]
theorem iL_get {ns : List Int} {i : Nat} (hi : i < ns.length) : (iL ns)[i]? = some (.int .i64 ns[i]) := by simp [iL, hi, I]
theorem one_u8L (xs : List UInt8) : ∀ v ∈ u8L xs, v.oneCell' = true := by
  intro v hv; simp [u8L] at hv; obtain ⟨x, _, rfl⟩ := hv; rfl
theorem one_iL (xs : List Int) : ∀ v ∈ iL xs, v.oneCell' = true := by
  intro v hv; simp [iL] at hv; obtain ⟨x, _, rfl⟩ := hv; rfl
theorem u8L_sub (xs : List UInt8) (i m : Nat) : ((u8L xs).drop i).take m = u8L ((xs.drop i).take m) := by simp [u8L, List.map_drop, List.map_take]
theorem Row.sub {w : World} {a : Option Addr} {c i m : Nat} {xs : List UInt8} (h : Row w a (u8L xs)) (him : i + m ≤ xs.length) (hc : xs.length ≤ c) (hm : 0 < m) : Row w (cutA a c i 1) (u8L ((xs.drop i).take m)) := by
  rcases h with h | ⟨b, o, rfl, hat⟩
  · have := congrArg List.length h; simp at this; rw [this] at him; simp at him; omega
  · refine .inr ⟨b, o + i, ?_, ?_⟩
    · unfold cutA; rw [if_neg (by omega)]; simp [add_none]
    · rw [← u8L_sub]; exact hat.sub (by simpa using him)
theorem splice_u8L (xs ys : List UInt8) (i : Nat) : splice (u8L xs) i (u8L ys) = u8L (xs.take i ++ ys ++ xs.drop (i + ys.length)) := by
  simp [splice, u8L, List.map_take, List.map_drop]
end Go.Den

namespace Go.Proofs.Ytkmkfdljnlbikaa
/-- The names of a block. -/
def nameAt (xs : List UInt8) (i : Nat) : Int := ((leN ((xs.drop (4 * i)).take 4) % 2147483648 : Nat) : Int)
def namesS (xs : List UInt8) : List Int := (List.range 64).map (nameAt xs)

theorem elemZ_ints : elemZ Try.prog 42 1 (.int .i64 0) 8 := by unfold elemZ; kernel_rfl
theorem elemZ_bytes : elemZ Try.prog 40 1 (.int .u8 0) 1 := by unfold elemZ; kernel_rfl

theorem Names_c {a : Option Addr} {l c : Nat} {xs : List UInt8} {w : World} {K : Value → World → Prop} (hl : xs.length = l) (hr : Row w a (u8L xs)) (hc : l ≤ c)
    (hno : l ≠ 256 → K (.tuple #[.slice none 0 0, .int .i64 4]) w)
    (h : l = 256 → ∀ w' b, w.heap.size ≤ b → Mod No w w' → AtU w' b 0 (iL (namesS xs)) → K (.tuple #[.slice (some ⟨b, 0, none⟩) 64 64, .int .i64 0]) w') : Cal Try.prog F_ptr_Names #[.slice a l c] w K := by
  apply C_ptr_Names
  unfold D_ptr_Names
  refine cond_of (fun hb => ?_) (fun hb => ?_)
  · exact hno (by simp at hb; omega)
  have hl2 : l = 256 := by simp at hb; omega
  clear hb
  obtain ⟨w1, hm1, hat1, hmod1, hsz1⟩ := makeSlice_run (P := Try.prog) (w := w) (n := 64) elemZ_ints (by omega) (by omega) (by omega)
  refine ⟨_, _, _, w1, hm1, ?_⟩
  refine ⟨fun x w2 => ∃ i : Nat, i ≤ 64 ∧ x = [.int .i64 i] ∧ AtU w2 w.heap.size 0 (iL ((namesS xs).take i ++ List.replicate (64 - i) 0)) ∧ Mod No w w2, fun x _ => (64 - lastI x).toNat, ⟨0, by omega, rfl, by simpa [iL, I] using hat1, hmod1⟩, ?_⟩
  rintro x w2 ⟨i, hi, rfl, hat, hmod⟩
  refine ⟨_, rfl, cond_of (fun hb => ?_) (fun hb => ?_)⟩
  · have hb := of_decide_eq_true hb
    have hi : i < 64 := by omega
    rw [wrap64 (x := (i : Int) + 1) (by omega) (by omega), wrap64 (x := (i : Int) * 4) (by omega) (by omega), wrap64 (x := ((i : Int) + 1) * 4) (by omega) (by omega)]
    refine ⟨_, _, _, slice_lh (k := 1) (by kernel_rfl) (by omega) (by omega) (by omega), ?_⟩
    rw [show ((i : Int) * 4).toNat = 4 * i by omega, show (((i : Int) + 1) * 4).toNat - 4 * i = 4 by omega]
    have hrow : Row w2 a (u8L xs) := by
      rcases hr with h | ⟨b, o, e, hat⟩
      · exact .inl h
      · exact .inr ⟨b, o, e, hat.keep hmod id⟩
    have hsub := hrow.sub (i := 4 * i) (m := 4) (c := c) (by omega) (by omega) (by omega)
    refine Get_c (by simp; omega) hsub (by omega) ?_
    have hv := leN_lt ((xs.drop (4 * i)).take 4)
    have hlen4 : ((xs.drop (4 * i)).take 4).length = 4 := by simp; omega
    rw [hlen4] at hv
    have ht : ((xs.drop (4 * i)).take 4).take 8 = (xs.drop (4 * i)).take 4 := List.take_of_length_le (by omega)
    rw [ht]
    refine ⟨_, rfl, _, index_slice (k := 1) (by kernel_rfl) (by omega) (by omega), ?_⟩
    rw [add_none, show (i : Int).toNat * 1 = i by omega]
    have hmask : bvAnd 64 (leN ((xs.drop (4 * i)).take 4) : Int) 2147483647 = nameAt xs i := by
      have := and_nat (a := leN ((xs.drop (4 * i)).take 4)) (b := 2147483647) (by omega) (by omega)
      rw [show (2147483647 : Int) = ((2147483647 : Nat) : Int) from rfl, this]
      unfold nameAt
      rw [show (2147483647 : Nat) = 2 ^ 31 - 1 from rfl, Nat.and_two_pow_sub_one_eq_mod]
    have hn1 : 0 ≤ nameAt xs i := by unfold nameAt; omega
    have hn2 : nameAt xs i < 2147483648 := by unfold nameAt; omega
    rw [hmask, wrapU64 hn1 (by omega), wrap64 (x := nameAt xs i) (by omega) (by omega)]
    obtain ⟨w3, h1, h2, h3, h4⟩ := hat.store (P := Try.prog) (T := 3) (i := i) (v := .int .i64 (nameAt xs i)) (by kernel_rfl) (by simp [namesS]; omega) rfl
    refine ⟨w3, h1, ⟨i + 1, by omega, rfl, ?_, hmod.trans h3 (fun x hx e => by omega)⟩, by simp [lastI]; omega⟩
    have e : (iL ((namesS xs).take i ++ List.replicate (64 - i) 0)).set i (.int .i64 (nameAt xs i)) = iL ((namesS xs).take (i + 1) ++ List.replicate (64 - (i + 1)) 0) := by
      have e1 : (namesS xs).take (i + 1) = (namesS xs).take i ++ [nameAt xs i] := by
        rw [List.take_succ_eq_append_getElem (by simp [namesS]; omega)]; simp [namesS]
      rw [e1, show 64 - i = (64 - (i + 1)) + 1 by omega, List.replicate_succ]
      unfold iL
      rw [List.map_append, List.map_append, List.map_append, List.map_cons, List.append_assoc, List.set_append_right _ _ (by simp [namesS]; omega)]
      have : i - (((namesS xs).take i).map I).length = 0 := by simp [namesS]; omega
      rw [this]; simp [I]
    rwa [e] at h2
  · have hb := of_decide_eq_false hb
    have hi : i = 64 := by omega
    subst hi
    refine h hl2 w2 _ (Nat.le_refl _) hmod ?_
    have : (namesS xs).take 64 = namesS xs := List.take_of_length_le (by simp [namesS])
    rw [this] at hat
    simpa using hat

/-- A block with another name at a place. -/
def layN (xs : List UInt8) (i name : Nat) : List UInt8 := xs.take (4 * i) ++ toLe 4 name ++ xs.drop (4 * i + 4)

theorem Lay_c {a : Option Addr} {l c : Nat} {xs : List UInt8} {i name : Int} {w : World} {K : Value → World → Prop} (hl : xs.length = l) (hr : Row w a (u8L xs)) (h63 : l ≤ 9223372036854775807)
    (h1 : l ≠ 256 → K (.tuple #[.slice none 0 0, .int .i64 4]) w)
    (h2 : l = 256 → (i < 0 ∨ 64 ≤ i) → K (.tuple #[.slice none 0 0, .int .i64 3]) w)
    (h3 : l = 256 → ¬ (i < 0 ∨ 64 ≤ i) → (name < 0 ∨ 4096 ≤ name) → K (.tuple #[.slice none 0 0, .int .i64 1]) w)
    (h4 : l = 256 → ¬ (i < 0 ∨ 64 ≤ i) → ¬ (name < 0 ∨ 4096 ≤ name) → ∀ w' b, w.heap.size ≤ b → Mod No w w' → AtU w' b 0 (u8L (layN xs i.toNat name.toNat)) →
      K (.tuple #[.slice (some ⟨b, 0, none⟩) 256 256, .int .i64 0]) w') : Cal Try.prog F_ptr_Lay #[.slice a l c, .int .i64 i, .int .i64 name] w K := by
  apply C_ptr_Lay
  unfold D_ptr_Lay
  refine cond_of (fun hb => ?_) (fun hb => ?_)
  · exact h1 (by simp at hb; omega)
  have hl2 : l = 256 := by simp at hb; omega
  clear hb
  refine Share.or ⟨_, rfl, cond_of (fun hb => ?_) (fun hb => ?_)⟩
  · exact h2 hl2 (by simpa using hb)
  have hi : ¬ (i < 0 ∨ 64 ≤ i) := by simpa using hb
  refine Share.or ⟨_, rfl, cond_of (fun hb => ?_) (fun hb => ?_)⟩
  · exact h3 hl2 hi (by simpa using hb)
  have hn : ¬ (name < 0 ∨ 4096 ≤ name) := by simpa using hb
  subst hl2
  obtain ⟨w1, hm1, hat1, hmod1, hsz1⟩ := makeSlice_run (P := Try.prog) (w := w) (n := 256) elemZ_bytes (by omega) (by omega) (by omega)
  refine ⟨_, _, _, w1, hm1, ?_⟩
  have hrow : Row w1 a (u8L xs) := by
    rcases hr with h | ⟨b, o, e, hat⟩
    · exact .inl h
    · exact .inr ⟨b, o, e, hat.keep hmod1 id⟩
  obtain ⟨w2, hc1, hc2, hc3, hc4⟩ := copy_run (P := Try.prog) (T := 40) (T2 := 40) (ty := 3) (k := 1) (n := 256) (c := 256) (n2 := 256) (c2 := c) (a2 := a) (src := u8L xs) (by kernel_rfl) hat1 (by rw [List.length_replicate]) hrow (by rw [length_u8L, hl]) (one_u8L xs)
  refine ⟨_, w2, hc1, ?_⟩
  have e1 : splice (List.replicate (256 * 1) (Value.int .u8 0)) 0 ((u8L xs).take (Nat.min 256 256 * 1)) = u8L xs := by
    have : (u8L xs).take (Nat.min 256 256 * 1) = u8L xs := List.take_of_length_le (by rw [length_u8L, hl]; decide)
    rw [this]; exact splice_all (by rw [length_u8L, hl, List.length_replicate])
  rw [e1] at hc2
  rw [wrap64 (x := i + 1) (by omega) (by omega), wrap64 (x := i * 4) (by omega) (by omega), wrap64 (x := (i + 1) * 4) (by omega) (by omega), wrapU64 (x := name) (by omega) (by omega)]
  refine ⟨_, _, _, slice_lh (k := 1) (by kernel_rfl) (by omega) (by omega) (by omega), ?_⟩
  obtain ⟨j, rfl⟩ := Int.eq_ofNat_of_zero_le (show 0 ≤ i by omega)
  obtain ⟨m, rfl⟩ := Int.eq_ofNat_of_zero_le (show 0 ≤ name by omega)
  have hj : j < 64 := by omega
  rw [show ((j : Int) * 4).toNat = 4 * j by omega, show (((j : Int) + 1) * 4).toNat - 4 * j = 4 by omega]
  have hcut : cutA (some ⟨w.heap.size, 0, none⟩) 256 (4 * j) 1 = some ⟨w.heap.size, 4 * j, none⟩ := by
    unfold cutA; rw [if_neg (by omega)]; simp [add_none]
  rw [hcut]
  rw [show (⟨w.heap.size, 4 * j, none⟩ : Addr) = ⟨w.heap.size, 0 + 4 * j, none⟩ by rw [Nat.zero_add]]
  refine Put_c hc2 (by simp; omega) (by omega) fun w3 hm3 hr3 hsz3 => ?_
  refine ⟨rfl, ?_⟩
  refine h4 rfl hi hn w3 w.heap.size (Nat.le_refl _) ((hmod1.trans hc3 (fun x hx e => by omega)).trans hm3 (fun x hx e => by omega)) ?_
  rw [splice_u8L, length_toLe] at hr3
  exact hr3
end Go.Proofs.Ytkmkfdljnlbikaa
