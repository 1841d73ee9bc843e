/- Layer 10: rows of calls, and the small functions of the laws. -/
import Derived.Test.YtocjjigmpgekfaaCacheK
open Go Go.Den Go.Proofs
namespace Go.Proofs.Ytocjjigmpgekfaa
/-- A call: its kind, its number, its bytes. -/
structure A3 where
  k : Int
  n : Int
  xs : List UInt8
def A3.fit (x : A3) (w : World) (cs : List Value) : Prop := ∃ (ad : Option Addr) (cd : Nat), cs = [.int .i64 x.k, .int .i64 x.n, .slice ad x.xs.length cd] ∧ Row w ad (u8L x.xs) ∧ (ad = none → x.xs.length = 0 ∧ cd = 0) ∧ x.xs.length ≤ 9223372036854775807
def Acts3 (w : World) (a : Option Addr) (acts : List A3) : Prop :=
  acts = [] ∨ ∃ (b o : Nat) (H : List Value), a = some ⟨b, o, none⟩ ∧ At w b o H ∧ H.length = acts.length * 3 ∧ ∀ (r : Nat) (x : A3), acts[r]? = some x → x.fit w ((H.drop (r * 3)).take 3)
section
variable {w w0 : World} {K : Value → World → Prop}
theorem A3.fit.nos {x : A3} {w' : World} {cs : List Value} (h : x.fit w cs) (m : Mod No w w') : x.fit w' cs := by
  obtain ⟨ad, cd, h1, h2, h3⟩ := h
  exact ⟨ad, cd, h1, h2.nos m, h3⟩
theorem Acts3.nos {w' : World} {a : Option Addr} {acts : List A3} (h : Acts3 w a acts) (m : Mod No w w') : Acts3 w' a acts := by
  rcases h with h | ⟨b, o, H, h1, h2, h3, h4⟩
  · exact .inl h
  · exact .inr ⟨b, o, H, h1, h2.keep m id, h3, fun r x hx => (h4 r x hx).nos m⟩
theorem Count_c {k n : Int} (h1 : 1 ≤ n) (h2 : n ≤ 1000) (hk : K (.int .i64 (k % n)) w) : Cal Try.prog F_leveeref01_Count #[.int .i64 k, .int .i64 n] w K := by
  apply C_leveeref01_Count
  unfold D_leveeref01_Count
  refine ff (decide_eq_false (by omega)) ⟨_, rem_run (by omega), ?_⟩
  have hlt : k.tmod n < n ∧ -n < k.tmod n := by
    constructor
    · exact Int.tmod_lt_of_pos _ (by omega)
    · have := Int.tmod_lt_of_pos (-k) (b := n) (by omega)
      rw [Int.neg_tmod] at this; omega
  refine Share.cut (fun x w' => x = [.int .i64 (k % n)] ∧ w' = w) (cond_of (fun hb => ⟨?_, rfl⟩) (fun hb => ⟨?_, rfl⟩)) ?_
  · have hb := of_decide_eq_true hb
    rw [wrap64 (x := k.tmod n + n) (by omega) (by omega)]
    congr 2
    rw [Int.emod_eq_tmod, if_neg]
    · have : (n.natAbs : Int) = n := by omega
      omega
    · rintro (h | h)
      · have := Int.tmod_nonneg n h; omega
      · have : k.tmod n = 0 := Int.tmod_eq_zero_of_dvd h
        omega
  · have hb := of_decide_eq_false hb
    congr 2
    rw [Int.emod_eq_tmod]
    by_cases h0 : 0 ≤ k
    · rw [if_pos (.inl h0)]; simp
    · by_cases hd : n ∣ k
      · rw [if_pos (.inr hd)]; simp
      · exfalso
        have h3 : k.tmod n ≤ 0 := by
          have := Int.tmod_nonneg (a := -k) n (by omega)
          rw [Int.neg_tmod] at this; omega
        have h4 : k.tmod n = 0 := by omega
        exact hd (Int.dvd_of_tmod_eq_zero h4)
  · rintro x w' ⟨rfl, rfl⟩
    exact ⟨_, rfl, hk⟩
theorem heldC_nat (C : Ca) (b : Nat) : heldC C (b : Int) = findB C.l b := by unfold heldC; rw [if_neg (by omega), Int.toNat_natCast]
def wroteB (acts : List A3) (n : Nat) (b : Int) : Bool := (acts.take n).any fun a => a.k == 5 && a.n % 4 == b
theorem wroteB_succ (acts : List A3) (n : Nat) (b : Int) {x : A3} (hx : acts[n]? = some x) : wroteB acts (n + 1) b = (wroteB acts n b || (x.k == 5 && x.n % 4 == b)) := by
  obtain ⟨hi, e⟩ := List.getElem?_eq_some_iff.1 hx
  unfold wroteB
  rw [List.take_succ_eq_append_getElem hi, List.any_append, e]; simp
theorem drt_mem {C : Ca} (h : WFC C) {k : Int} (hk : k ∈ drt C) : ∃ x ∈ C.l, k = (x.b : Int) ∧ clean C.D x = false := by
  rw [drt_eq] at hk
  unfold sorted at hk
  rw [List.mem_mergeSort, List.mem_filter] at hk
  obtain ⟨h1, h2⟩ := hk
  unfold nums at h1
  obtain ⟨x, hx, rfl⟩ := List.mem_map.1 h1
  refine ⟨x, hx, rfl, ?_⟩
  unfold cl1 at h2
  rw [Int.toNat_natCast, findB_mem h.nodup hx] at h2
  simpa using h2
end
end Go.Proofs.Ytocjjigmpgekfaa
