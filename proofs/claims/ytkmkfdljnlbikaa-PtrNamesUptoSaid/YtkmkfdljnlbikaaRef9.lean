/- The statement PtrNames: the names of a block, and the block with another name. -/
import Derived.Test.YtkmkfdljnlbikaaRef1
import Derived.Test.YtkmkfdljnlbikaaPtrD
open Go Go.Den Go.Proofs
namespace Go.Den
theorem cutA_none {a : Option Addr} {c i k : Nat} (h : cutA a c i k = none) : a = none := by
  unfold cutA at h; split at h
  · exact h
  · cases a <;> simp_all
theorem Row.cut {w : World} {a : Option Addr} {c i m : Nat} {xs : List UInt8} (h : Row w a (u8L xs)) (him : i + m ≤ xs.length) (hc : xs.length ≤ c) : Row w (cutA a c i 1) (u8L ((xs.drop i).take m)) := by
  by_cases hm : m = 0
  · left; subst hm; simp [u8L]
  · exact h.sub him hc (by omega)
end Go.Den
namespace Go.Proofs.Ytkmkfdljnlbikaa
theorem leN_toLe : ∀ k n, n < 256 ^ k → leN (toLe k n) = n
  | 0, n, h => by simp at h; simp [toLe, leN, h]
  | k + 1, n, h => by
    simp only [toLe, leN]
    rw [leN_toLe k (n / 256) (by rw [Nat.pow_succ] at h; omega)]
    have : (UInt8.ofNat (n % 256)).toNat = n % 256 := by rw [UInt8.toNat_ofNat']; omega
    rw [this]; omega

theorem refLay1_c {a a2 : Option Addr} {l c l2 c2 n : Nat} {xs ys : List UInt8} {w : World} {K : Value → World → Prop} (hl : xs.length = l) (hr : Row w a (u8L xs)) (h0 : a = none → l = 0 ∧ c = 0) (hc : l ≤ c)
    (hl2 : ys.length = l2) (hr2 : Row w a2 (u8L ys)) (h02 : a2 = none → l2 = 0 ∧ c2 = 0) (h63 : l ≤ 1048576) (hn : n + l2 ≤ l)
    (h : ∀ w' a' c', Mod No w w' → Own Try.prog w' w.heap.size 40 1 a' l c' (u8L (xs.take n ++ ys ++ xs.drop (n + l2))) → K (.tuple #[.slice a' l c', .int .i64 0]) w') :
    Cal Try.prog F_leveeref01_Lay #[.slice a l c, .int .i64 n, .slice a2 l2 c2] w K := by
  apply C_leveeref01_Lay
  unfold D_leveeref01_Lay
  rw [wrap64 (x := (l : Int) - n) (by omega) (by omega), wrap64 (x := (n : Int) + l2) (by omega) (by omega)]
  refine Share.cut (fun z w' => z = [.bool false] ∧ w' = w) (ff (by simp) (ff (by simp; omega) ⟨by simp; omega, rfl⟩)) ?_
  rintro z w' ⟨rfl, rfl⟩
  refine ⟨_, rfl, ff rfl ?_⟩
  refine ⟨_, _, _, slice_h (k := 1) (by kernel_rfl) (by omega) (by omega), ?_⟩
  have r1 := hr.cut (i := 0) (m := n) (c := c) (by omega) (by omega)
  simp only [List.drop_zero] at r1
  obtain ⟨a3, c3, w3, h3, o3, m3⟩ := (Own.nil (P := Try.prog) (w := w') (base := w'.heap.size) elemZ_bytes).append (ty := 40) elemZ_bytes (by omega) r1 (m := n) (c2 := c) (by simp; omega)
    (fun e => by have := h0 (cutA_none e); omega) (one_u8L _) (by omega) (by omega) (Nat.le_refl _)
  have m3' : Mod No w' w3 := (Mod.refl No w').up m3 (Nat.le_refl _)
  rw [Int.toNat_natCast]
  simp only [Nat.zero_add, List.nil_append] at h3 o3
  refine ⟨_, _, _, w3, h3, ?_⟩
  obtain ⟨a4, c4, w4, h4, o4, m4⟩ := o3.append (ty := 40) elemZ_bytes (by omega) (hr2.nos m3') (m := l2) (c2 := c2) (by simp [hl2]) h02 (one_u8L _) (by omega) (by omega) m3'.size
  have m4' := m3'.up m4 (Nat.le_refl _)
  refine ⟨_, _, _, w4, h4, ?_⟩
  refine ⟨_, _, _, slice_l (k := 1) (by kernel_rfl) (by omega) (by omega), ?_⟩
  have r5 := hr.cut (i := n + l2) (m := l - (n + l2)) (c := c) (by omega) (by omega)
  have e5 : (xs.drop (n + l2)).take (l - (n + l2)) = xs.drop (n + l2) := List.take_of_length_le (by simp; omega)
  rw [e5] at r5
  rw [show ((n : Int) + l2).toNat = n + l2 by omega]
  obtain ⟨a6, c6, w6, h6, o6, m6⟩ := o4.append (ty := 40) elemZ_bytes (by omega) (r5.nos m4') (m := l - (n + l2)) (c2 := c - (n + l2)) (by simp; omega)
    (fun e => by have := h0 (cutA_none e); omega) (one_u8L _) (by omega) (by omega) m4'.size
  have hsum : n + l2 + (l - (n + l2)) = l := by omega
  rw [hsum] at h6 o6
  refine ⟨_, _, _, w6, h6, ?_⟩
  rw [← u8L_append, ← u8L_append] at o6
  exact h w6 a6 c6 (m4'.up m6 (Nat.le_refl _)) o6

def nsOf (xs : List UInt8) : List Int := if xs.length = 256 then namesS xs else []
def neOf (xs : List UInt8) : Int := if xs.length = 256 then 0 else 4
theorem NamesG_c {a : Option Addr} {l c : Nat} {xs : List UInt8} {w : World} {K : Value → World → Prop} (hl : xs.length = l) (hr : Row w a (u8L xs)) (hc : l ≤ c)
    (h : ∀ w' a' c', Mod No w w' → Row w' a' (iL (nsOf xs)) → K (.tuple #[.slice a' (nsOf xs).length c', .int .i64 (neOf xs)]) w') : Cal Try.prog F_ptr_Names #[.slice a l c] w K := by
  refine Names_c hl hr hc (fun hne => ?_) (fun he w' b hb hm hat => ?_)
  · have := h w none 0 (Mod.refl _ _) (.inl (by simp [nsOf, iL, hl, hne]))
    simpa [nsOf, neOf, hl, hne] using this
  · have := h w' (some ⟨b, 0, none⟩) 64 hm (.inr ⟨b, 0, rfl, by simpa [nsOf, hl, he] using hat.at⟩)
    simpa [nsOf, neOf, hl, he, namesS] using this

theorem refNames_c {a : Option Addr} {l c : Nat} {xs : List UInt8} {w : World} {K : Value → World → Prop} (hl : xs.length = l) (hr : Row w a (u8L xs)) (hc : l ≤ c)
    (h : ∀ w' a' c', Mod No w w' → Row w' a' (iL (nsOf xs)) → K (.tuple #[.slice a' (nsOf xs).length c', .int .i64 (neOf xs)]) w') : Cal Try.prog F_leveeref09_Names #[.slice a l c] w K := by
  apply C_leveeref09_Names
  unfold D_leveeref09_Names
  refine cond_of (fun hb => ?_) (fun hb => ?_)
  · have hne : l ≠ 256 := by simp at hb; omega
    have := h w none 0 (Mod.refl _ _) (.inl (by simp [nsOf, iL, hl, hne]))
    simpa [nsOf, neOf, hl, hne] using this
  have hl2 : l = 256 := by simp at hb; omega
  clear hb
  refine ⟨fun x w2 => ∃ (i : Nat) (a' : Option Addr) (c' : Nat), i ≤ 64 ∧ x = [.slice a' i c', .int .i64 i] ∧ Own Try.prog w2 w.heap.size 42 1 a' i c' (iL ((namesS xs).take i)) ∧ Mod No w w2, fun x _ => (64 - nI x 1).toNat,
    ⟨0, none, 0, by omega, rfl, Own.nil elemZ_ints, Mod.refl _ _⟩, ?_⟩
  rintro x w2 ⟨i, a', c', hi, rfl, how, hm⟩
  refine ⟨_, rfl, cond_of (fun hb => ?_) (fun hb => ?_)⟩
  · have hb := of_decide_eq_true hb
    have hi : i < 64 := by omega
    rw [wrap64 (x := (i : Int) + 1) (by omega) (by omega), wrap64 (x := 4 * (i : Int)) (by omega) (by omega), wrap64 (x := 4 * (i : Int) + 4) (by omega) (by omega)]
    refine ⟨_, _, _, rfl, _, _, _, slice_lh (k := 1) (by kernel_rfl) (by omega) (by omega) (by omega), ?_⟩
    rw [show (4 * (i : Int)).toNat = 4 * i by omega, show (4 * (i : Int) + 4).toNat - 4 * i = 4 by omega]
    have hsub := (hr.nos hm).cut (i := 4 * i) (m := 4) (c := c) (by omega) (by omega)
    refine refGet_c (by simp; omega) hsub (by omega) ?_
    have hv := leN_lt ((xs.drop (4 * i)).take 4)
    have hlen4 : ((xs.drop (4 * i)).take 4).length = 4 := by simp; omega
    rw [hlen4] at hv
    have ht : ((xs.drop (4 * i)).take 4).take 8 = (xs.drop (4 * i)).take 4 := List.take_of_length_le (by omega)
    rw [ht]
    refine ⟨_, rfl, ?_⟩
    have hmask : bvAnd 64 (leN ((xs.drop (4 * i)).take 4) : Int) 2147483647 = nameAt xs i := by
      have := and_nat (a := leN ((xs.drop (4 * i)).take 4)) (b := 2147483647) (by omega) (by omega)
      rw [show (2147483647 : Int) = ((2147483647 : Nat) : Int) from rfl, this]
      unfold nameAt
      rw [show (2147483647 : Nat) = 2 ^ 31 - 1 from rfl, Nat.and_two_pow_sub_one_eq_mod]
    have hn1 : 0 ≤ nameAt xs i := by unfold nameAt; omega
    have hn2 : nameAt xs i < 2147483648 := by unfold nameAt; omega
    rw [hmask, wrapU64 hn1 (by omega), wrap64 (x := nameAt xs i) (by omega) (by omega)]
    refine ⟨_, _, _, _, builtI _ _, ?_⟩
    obtain ⟨a3, c3, w3, h3, o3, m3⟩ := how.snoc (ty := 42) (t := 3) (ys := [.int .i64 (nameAt xs i)]) elemZ_ints (by omega) rfl (by simp; rfl) (by omega) (by omega) hm.size
    refine ⟨_, _, _, w3, h3, ⟨i + 1, a3, c3, by omega, rfl, ?_, hm.up m3 (Nat.le_refl _)⟩, by simp [nI, nth]; omega⟩
    have e1 : (namesS xs).take (i + 1) = (namesS xs).take i ++ [nameAt xs i] := by
      rw [List.take_succ_eq_append_getElem (by simp [namesS]; omega)]; simp [namesS]
    rw [e1]
    simpa [iL, I] using o3
  · have hb := of_decide_eq_false hb
    have hi : i = 64 := by omega
    subst hi
    have e : (namesS xs).take 64 = namesS xs := List.take_of_length_le (by simp [namesS])
    rw [e] at how
    have := h w2 a' c' hm (by simpa [nsOf, hl, hl2] using how.rowU.row)
    refine ⟨_, _, _, rfl, ?_⟩
    simpa [nsOf, neOf, hl, hl2, namesS] using this

def lyE (xs : List UInt8) (i nm : Int) : Int := if xs.length ≠ 256 then 4 else if i < 0 ∨ 64 ≤ i then 3 else if nm < 0 ∨ 4096 ≤ nm then 1 else 0
def lyL (xs : List UInt8) (i nm : Int) : List UInt8 := if lyE xs i nm = 0 then layN xs i.toNat nm.toNat else []
theorem LayG_c {a : Option Addr} {l c : Nat} {xs : List UInt8} {i nm : Int} {w : World} {K : Value → World → Prop} (hl : xs.length = l) (hr : Row w a (u8L xs)) (h63 : l ≤ 9223372036854775807)
    (h : ∀ w' a' c', Mod No w w' → Row w' a' (u8L (lyL xs i nm)) → (lyE xs i nm = 0 → c' = 256 ∧ ∃ b, a' = some ⟨b, 0, none⟩ ∧ w.heap.size ≤ b ∧ AtU w' b 0 (u8L (lyL xs i nm))) → K (.tuple #[.slice a' (lyL xs i nm).length c', .int .i64 (lyE xs i nm)]) w') :
    Cal Try.prog F_ptr_Lay #[.slice a l c, .int .i64 i, .int .i64 nm] w K := by
  have nil : ∀ e : Int, e ≠ 0 → lyE xs i nm = e → K (.tuple #[.slice none 0 0, .int .i64 e]) w := by
    intro e h0 he
    have hL : lyL xs i nm = [] := by unfold lyL; rw [if_neg (by omega)]
    have := h w none 0 (Mod.refl _ _) (.inl (by rw [hL]; rfl)) (fun h => absurd (he ▸ h) h0)
    rw [hL, he] at this; exact this
  refine Lay_c hl hr h63 (fun h1 => nil 4 (by omega) ?_) (fun h1 h2 => nil 3 (by omega) ?_) (fun h1 h2 h3 => nil 1 (by omega) ?_) (fun h1 h2 h3 w' b hb hm hat => ?_)
  · unfold lyE; rw [if_pos (by omega)]
  · unfold lyE; rw [if_neg (by omega), if_pos h2]
  · unfold lyE; rw [if_neg (by omega), if_neg h2, if_pos h3]
  · have he : lyE xs i nm = 0 := by unfold lyE; rw [if_neg (by omega), if_neg h2, if_neg h3]
    have hL : lyL xs i nm = layN xs i.toNat nm.toNat := by unfold lyL; rw [if_pos he]
    have hn : (layN xs i.toNat nm.toNat).length = 256 := by
      unfold layN; simp only [List.length_append, List.length_take, List.length_drop, length_toLe]; omega
    have := h w' (some ⟨b, 0, none⟩) 256 hm (by rw [hL]; exact .inr ⟨b, 0, rfl, hat.at⟩) (fun _ => ⟨rfl, b, rfl, hb, by rw [hL]; exact hat⟩)
    rw [he, hL, hn] at this; exact this

theorem refLay_c {a : Option Addr} {l c : Nat} {xs : List UInt8} {i nm : Int} {w : World} {K : Value → World → Prop} (hl : xs.length = l) (hr : Row w a (u8L xs)) (h0 : a = none → l = 0 ∧ c = 0) (hc : l ≤ c)
    (h : ∀ w' a' c', Mod No w w' → Row w' a' (u8L (lyL xs i nm)) → K (.tuple #[.slice a' (lyL xs i nm).length c', .int .i64 (lyE xs i nm)]) w') :
    Cal Try.prog F_leveeref09_Lay #[.slice a l c, .int .i64 i, .int .i64 nm] w K := by
  have nil : ∀ e : Int, e ≠ 0 → lyE xs i nm = e → K (.tuple #[.slice none 0 0, .int .i64 e]) w := by
    intro e h0 he
    have hL : lyL xs i nm = [] := by unfold lyL; rw [if_neg (by omega)]
    have := h w none 0 (Mod.refl _ _) (.inl (by rw [hL]; rfl))
    rw [hL, he] at this; exact this
  apply C_leveeref09_Lay
  unfold D_leveeref09_Lay
  refine cond_of (fun hb => ?_) (fun hb => ?_)
  · exact nil 4 (by omega) (by unfold lyE; rw [if_pos (by simp at hb; omega)])
  have hl2 : l = 256 := by simp at hb; omega
  clear hb
  refine Share.or ⟨_, rfl, cond_of (fun hb => ?_) (fun hb => ?_)⟩
  · exact nil 3 (by omega) (by unfold lyE; rw [if_neg (by omega), if_pos (by simpa using hb)])
  have hi : ¬ (i < 0 ∨ 64 ≤ i) := by simpa using hb
  refine Share.or ⟨_, rfl, cond_of (fun hb => ?_) (fun hb => ?_)⟩
  · exact nil 1 (by omega) (by unfold lyE; rw [if_neg (by omega), if_neg hi, if_pos (by simpa using hb)])
  have hn : ¬ (nm < 0 ∨ 4096 ≤ nm) := by simpa using hb
  have he : lyE xs i nm = 0 := by unfold lyE; rw [if_neg (by omega), if_neg hi, if_neg hn]
  have hL : lyL xs i nm = layN xs i.toNat nm.toNat := by unfold lyL; rw [if_pos he]
  have hlen : (layN xs i.toNat nm.toNat).length = 256 := by
    unfold layN; simp only [List.length_append, List.length_take, List.length_drop, length_toLe]; omega
  obtain ⟨j, rfl⟩ := Int.eq_ofNat_of_zero_le (show 0 ≤ i by omega)
  obtain ⟨m, rfl⟩ := Int.eq_ofNat_of_zero_le (show 0 ≤ nm by omega)
  rw [wrapU64 (x := (m : Int)) (by omega) (by omega), wrap64 (x := 4 * (j : Int)) (by omega) (by omega)]
  refine Bytes_c (l := 4) (by omega) (by omega) fun w1 a1 c1 m1 o1 => ⟨_, _, _, rfl, ?_⟩
  rw [show (4 * (j : Int)) = ((4 * j : Nat) : Int) by omega]
  refine refLay1_c hl (hr.nos m1) h0 hc (length_toLe 4 m) o1.rowU.row (fun e => by subst e; have := o1.zero; omega) (by omega) (by omega) fun w2 a2 c2 m2 o2 => ⟨_, _, _, _, rfl, ?_⟩
  have := h w2 a2 c2 (m1.no m2) (by rw [hL]; exact o2.rowU.row)
  rw [he, hL, hlen] at this
  rw [hl2]; exact this

theorem namesS_layN {xs : List UInt8} {i m n : Nat} (hl : xs.length = 256) (hi : i < 64) (hn : n < 64) (hm : m < 4096) : nameAt (layN xs i m) n = if n = i then (m : Int) else nameAt xs n := by
  unfold nameAt layN
  have h1 : (xs.take (4 * i)).length = 4 * i := by simp; omega
  by_cases he : n = i
  · subst he
    rw [if_pos rfl, List.append_assoc, List.drop_append_of_le_length (by omega), List.drop_eq_nil_of_le (by omega), List.nil_append, List.take_append_of_le_length (by simp), List.take_of_length_le (by simp), leN_toLe 4 m (by omega)]
    omega
  · rw [if_neg he]
    by_cases hlt : n < i
    · rw [List.append_assoc, List.drop_append_of_le_length (by omega), List.take_append_of_le_length (by simp; omega), List.drop_take, List.take_take, Nat.min_eq_left (by omega)]
    · rw [List.drop_append, List.drop_eq_nil_of_le (by simp; omega), List.nil_append, List.length_append, h1, length_toLe, List.drop_drop]
      rw [show 4 * i + 4 + (4 * n - (4 * i + 4)) = 4 * n by omega]
end Go.Proofs.Ytkmkfdljnlbikaa
