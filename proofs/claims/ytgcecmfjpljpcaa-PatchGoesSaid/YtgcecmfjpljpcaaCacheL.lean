/- Layer 10: rows of calls, and the small functions of the laws. -/
import Derived.Test.YtgcecmfjpljpcaaCacheK
open Go Go.Den Go.Proofs
namespace Go.Proofs.Ytgcecmfjpljpcaa
/-- A call: its kind, its number, its bytes. -/
structure A3 where
  k : Int
  n : Int
  xs : List UInt8
def A3.fit (x : A3) (w : World) (cs : List Value) : Prop := ∃ (ad : Option Addr) (cd : Nat), cs = [.int .i64 x.k, .int .i64 x.n, .slice ad x.xs.length cd] ∧ Row w ad (u8L x.xs) ∧ (ad = none → x.xs.length = 0 ∧ cd = 0) ∧ x.xs.length ≤ 9223372036854775807
def Acts3 (w : World) (a : Option Addr) (acts : List A3) : Prop :=
  acts = [] ∨ ∃ (b o : Nat) (H : List Value), a = some ⟨b, o, none⟩ ∧ At w b o H ∧ H.length = acts.length * 3 ∧ ∀ (r : Nat) (x : A3), acts[r]? = some x → x.fit w ((H.drop (r * 3)).take 3)
section
variable {w w0 : World} {K : Value → World → Prop}
theorem A3.fit.nos {x : A3} {w' : World} {cs : List Value} (h : x.fit w cs) (m : Mod No w w') : x.fit w' cs := by
  obtain ⟨ad, cd, h1, h2, h3⟩ := h
  exact ⟨ad, cd, h1, h2.nos m, h3⟩
theorem Acts3.nos {w' : World} {a : Option Addr} {acts : List A3} (h : Acts3 w a acts) (m : Mod No w w') : Acts3 w' a acts := by
  rcases h with h | ⟨b, o, H, h1, h2, h3, h4⟩
  · exact .inl h
  · exact .inr ⟨b, o, H, h1, h2.keep m id, h3, fun r x hx => (h4 r x hx).nos m⟩
/-- A call's cells, in the row and in a copy. -/
theorem Acts3.get {a : Option Addr} {acts : List A3} {l c i : Nat} {x : A3} (h : Acts3 w a acts) (hl : acts.length = l) (hx : acts[i]? = some x) :
    ∃ q : Addr, Al (Instr.indexAt 22 (.slice a l c) (.int .i64 i)) (.pointer (some q)) ∧ ∃ cs, x.fit w cs ∧ Ru (Instr.loadAt 34 (.pointer (some q))) w (.agg ⟨cs⟩) w ∧
      (∀ (j : Nat) (v : Value), cs[j]? = some v → ∃ (b o : Nat) (H : List Value), q = ⟨b, o, none⟩ ∧ At w b o H ∧ H[j]? = some v) := by
  have hi := (List.getElem?_eq_some_iff.1 hx).1
  obtain ⟨b, o, H, rfl, hat, hH, hfit⟩ := h.resolve_left (fun e => by rw [e] at hi; simp at hi)
  have hle : (i + 1) * 3 ≤ acts.length * 3 := Nat.mul_le_mul_right _ hi
  refine ⟨_, index_slice (k := 3) (by kernel_rfl) (by omega) (by omega), (H.drop (i * 3)).take 3, hfit i x hx, ?_, fun j v hj => ?_⟩
  · rw [add_none, show (i : Int).toNat * 3 = i * 3 by omega]
    exact hat.loadAgg (by kernel_rfl) (by omega)
  · rw [add_none, show (i : Int).toNat * 3 = i * 3 by omega]
    exact ⟨_, _, _, rfl, hat.sub (by omega), hj⟩
theorem Acts3.get2 {acts : List A3} {w' : World} {a : Option Addr} {l cc i : Nat} {x : A3} (h : Acts3 w a acts) (m : Mod No w w') (hl : acts.length = l) (hx : acts[i]? = some x) :
    ∃ q : Addr, Al (Instr.indexAt 22 (.slice a l cc) (.int .i64 i)) (.pointer (some q)) ∧ ∃ cs, x.fit w cs ∧ Ru (Instr.loadAt 34 (.pointer (some q))) w' (.agg ⟨cs⟩) w' := by
  have hi := (List.getElem?_eq_some_iff.1 hx).1
  obtain ⟨b, o, H, rfl, hat, hH, hfit⟩ := h.resolve_left (fun e => by rw [e] at hi; simp at hi)
  have hle : (i + 1) * 3 ≤ acts.length * 3 := Nat.mul_le_mul_right _ hi
  refine ⟨_, index_slice (k := 3) (by kernel_rfl) (by omega) (by omega), (H.drop (i * 3)).take 3, hfit i x hx, ?_⟩
  rw [add_none, show (i : Int).toNat * 3 = i * 3 by omega]
  exact (hat.keep m id).loadAgg (by kernel_rfl) (by omega)
theorem alloc_act (w : World) : (Instr.alloc 34 true (.tuple #[])).run Try.prog w = .ok (.pointer (some ⟨w.heap.size, 0, none⟩)) (w.alloc (.cells ⟨[.int .i64 0, .int .i64 0, .slice none 0 0]⟩ 34)) := by kernel_rfl
theorem agg_act : aggN Try.prog 34 = some 3 := by kernel_rfl
theorem store_act {x : A3} {cs : List Value} (h : x.fit w cs) : RuU (Instr.storeAt 34 (.pointer (some ⟨w.heap.size, 0, none⟩)) (.agg ⟨cs⟩)) (w.alloc (.cells ⟨[.int .i64 0, .int .i64 0, .slice none 0 0]⟩ 34)) (w.alloc (.cells ⟨cs⟩ 34)) := by
  obtain ⟨ad, cd, rfl, _⟩ := h
  refine store_new agg_act rfl rfl ?_
  intro v hv
  simp at hv
  rcases hv with rfl | rfl | rfl <;> rfl
theorem Count_c {k n : Int} (h1 : 1 ≤ n) (h2 : n ≤ 1000) (hk : K (.int .i64 (k % n)) w) : Cal Try.prog F_leveeref01_Count #[.int .i64 k, .int .i64 n] w K := by
  apply C_leveeref01_Count
  unfold D_leveeref01_Count
  refine ff (decide_eq_false (by omega)) ⟨_, rem_run (by omega), ?_⟩
  have hlt : k.tmod n < n ∧ -n < k.tmod n := by
    constructor
    · exact Int.tmod_lt_of_pos _ (by omega)
    · have := Int.tmod_lt_of_pos (-k) (b := n) (by omega)
      rw [Int.neg_tmod] at this; omega
  refine Share.cut (fun x w' => x = [.int .i64 (k % n)] ∧ w' = w) (cond_of (fun hb => ⟨?_, rfl⟩) (fun hb => ⟨?_, rfl⟩)) ?_
  · have hb := of_decide_eq_true hb
    rw [wrap64 (x := k.tmod n + n) (by omega) (by omega)]
    congr 2
    rw [Int.emod_eq_tmod, if_neg]
    · have : (n.natAbs : Int) = n := by omega
      omega
    · rintro (h | h)
      · have := Int.tmod_nonneg n h; omega
      · have : k.tmod n = 0 := Int.tmod_eq_zero_of_dvd h
        omega
  · have hb := of_decide_eq_false hb
    congr 2
    rw [Int.emod_eq_tmod]
    by_cases h0 : 0 ≤ k
    · rw [if_pos (.inl h0)]; simp
    · by_cases hd : n ∣ k
      · rw [if_pos (.inr hd)]; simp
      · exfalso
        have h3 : k.tmod n ≤ 0 := by
          have := Int.tmod_nonneg (a := -k) n (by omega)
          rw [Int.neg_tmod] at this; omega
        have h4 : k.tmod n = 0 := by omega
        exact hd (Int.dvd_of_tmod_eq_zero h4)
  · rintro x w' ⟨rfl, rfl⟩
    exact ⟨_, rfl, hk⟩
theorem among_c {a : Option Addr} {l c : Nat} {xs : List Int} {n : Int} (hl : xs.length = l) (h63 : l ≤ 9223372036854775806) (hr : Row w a (iL xs)) (hk : K (.bool (decide (n ∈ xs))) w) : Cal Try.prog F_leveelaw10_among #[.slice a l c, .int .i64 n] w K := by
  apply C_leveelaw10_among
  unfold D_leveelaw10_among
  refine ⟨fun x w1 => w1 = w ∧ ∃ i : Nat, i ≤ l ∧ x = [.int .i64 i] ∧ n ∉ xs.take i, fun x _ => (l - nI x 0).toNat, ⟨rfl, 0, by omega, rfl, by simp⟩, ?_⟩
  rintro x w1 ⟨rfl, i, hi, rfl, hno⟩
  refine ⟨_, rfl, cond_of (fun hb => ?_) (fun hb => ?_)⟩
  · have hi : i < l := by have := of_decide_eq_true hb; omega
    have hix : i < xs.length := by omega
    obtain ⟨b, o, rfl, hat⟩ := row_some hr hix
    refine ⟨_, index_slice (k := 1) (by kernel_rfl) (by omega) (by omega), ?_⟩
    rw [add_none, show (i : Int).toNat * 1 = i by omega]
    refine ⟨_, hat.load (by kernel_rfl) (iL_get hix), cond_of (fun hp => ?_) (fun hp => ?_)⟩
    · have he : xs[i] = n := by simpa using hp
      have hm : n ∈ xs := by rw [← he]; exact List.getElem_mem hix
      rw [decide_eq_true hm] at hk
      exact hk
    · have he : ¬ xs[i] = n := by simpa using hp
      rw [wrap64 (x := (i : Int) + 1) (by omega) (by omega)]
      refine ⟨⟨rfl, i + 1, by omega, rfl, ?_⟩, by simp [nI, nth]; omega⟩
      rw [List.take_succ_eq_append_getElem hix, List.mem_append]
      rintro (h | h)
      · exact hno h
      · simp at h; exact he h.symm
  · have hil : i = l := by have := of_decide_eq_false hb; omega
    rw [List.take_of_length_le (by omega)] at hno
    rw [decide_eq_false hno] at hk
    exact hk
theorem heldC_nat (C : Ca) (b : Nat) : heldC C (b : Int) = findB C.l b := by unfold heldC; rw [if_neg (by omega), Int.toNat_natCast]
def wroteB (acts : List A3) (n : Nat) (b : Int) : Bool := (acts.take n).any fun a => a.k == 5 && a.n % 4 == b
theorem wroteB_succ (acts : List A3) (n : Nat) (b : Int) {x : A3} (hx : acts[n]? = some x) : wroteB acts (n + 1) b = (wroteB acts n b || (x.k == 5 && x.n % 4 == b)) := by
  obtain ⟨hi, e⟩ := List.getElem?_eq_some_iff.1 hx
  unfold wroteB
  rw [List.take_succ_eq_append_getElem hi, List.any_append, e]; simp
theorem wrote_c {a : Option Addr} {l c n : Nat} {acts : List A3} {b : Int} (hl : acts.length = l) (h63 : n ≤ 1000) (ha : Acts3 w a acts) (hn : n ≤ l) (hk : K (.bool (wroteB acts n b)) w) : Cal Try.prog F_leveelaw10_wrote #[.slice a l c, .int .i64 n, .int .i64 b] w K := by
  apply C_leveelaw10_wrote
  unfold D_leveelaw10_wrote
  refine ⟨fun x w1 => w1 = w ∧ ∃ (i : Nat) (y : Value), i ≤ n ∧ x = [.int .i64 i, y] ∧ wroteB acts i b = false, fun x _ => (n - nI x 0).toNat, ⟨rfl, 0, _, by omega, rfl, rfl⟩, ?_⟩
  rintro x w1 ⟨rfl, i, y, hi, rfl, hno⟩
  refine ⟨_, rfl, cond_of (fun hb => ?_) (fun hb => ?_)⟩
  · have hi : i < n := by have := of_decide_eq_true hb; omega
    have hia : i < acts.length := by omega
    obtain ⟨q, hidx, cs, hfit, hload, hcell⟩ := ha.get (i := i) (c := c) hl (List.getElem?_eq_getElem hia)
    obtain ⟨ad, cd, rfl, _⟩ := hfit
    have hsucc := wroteB_succ acts i b (List.getElem?_eq_getElem hia)
    have ld : ∀ (j : Nat) (v : Value) (T : TypeId), scal Try.prog T = true → ([.int .i64 acts[i].k, .int .i64 acts[i].n, .slice ad acts[i].xs.length cd] : List Value)[j]? = some v → Ru (Instr.loadAt T (.pointer (some (Addr.add q j)))) w1 v w1 := by
      intro j v T hT hj
      obtain ⟨b0, o0, H, rfl, hat, hH⟩ := hcell j v hj
      rw [add_none]
      exact hat.load hT hH
    refine Share.cut (fun z w2 => w2 = w1 ∧ z = [.bool (wroteB acts (i + 1) b)]) ⟨q, hidx, _, ld 0 _ _ (by kernel_rfl) rfl, cond_of (fun hp => ?_) (fun hp => ?_)⟩ ?_
    · refine ⟨q, hidx, _, ld 1 _ _ (by kernel_rfl) rfl, Count_c (by omega) (by omega) ⟨_, rfl, rfl, ?_⟩⟩
      rw [hsucc, hno, hp]; simp
    · refine ⟨rfl, ?_⟩
      rw [hsucc, hno, hp]; simp
    · rintro z w2 ⟨rfl, rfl⟩
      refine ⟨_, rfl, cond_of (fun hp => ?_) (fun hp => ?_)⟩
      · have : wroteB acts n b = true := by
          unfold wroteB at hp ⊢
          rw [List.any_eq_true] at hp ⊢
          obtain ⟨z, hz, hz2⟩ := hp
          exact ⟨z, (List.take_subset_take_left acts (show i + 1 ≤ n by omega)) hz, hz2⟩
        rw [this] at hk; exact hk
      · rw [wrap64 (x := (i : Int) + 1) (by omega) (by omega)]
        exact ⟨⟨rfl, i + 1, _, by omega, rfl, hp⟩, by simp [nI, nth]; omega⟩
  · have hin : i = n := by have := of_decide_eq_false hb; omega
    subst hin
    rw [hno] at hk; exact hk
theorem drt_mem {C : Ca} (h : WFC C) {k : Int} (hk : k ∈ drt C) : ∃ x ∈ C.l, k = (x.b : Int) ∧ clean C.D x = false := by
  rw [drt_eq] at hk
  unfold sorted at hk
  rw [List.mem_mergeSort, List.mem_filter] at hk
  obtain ⟨h1, h2⟩ := hk
  unfold nums at h1
  obtain ⟨x, hx, rfl⟩ := List.mem_map.1 h1
  refine ⟨x, hx, rfl, ?_⟩
  unfold cl1 at h2
  rw [Int.toNat_natCast, findB_mem h.nodup hx] at h2
  simpa using h2
end
end Go.Proofs.Ytgcecmfjpljpcaa
