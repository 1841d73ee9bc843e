/- Layer 1, numbers as bytes: num.Get, num.Put. -/
import Derived.Test.YtkmkfdljnlbikaaSlices
import Derived.Test.YtkmkfdljnlbikaaTxtA
open Go Go.Den Go.Proofs
namespace Go.Den

def u8 (x : UInt8) : Value := .int .u8 (x.toNat : Int)
def u8L (xs : List UInt8) : List Value := xs.map u8
@[simp] theorem length_u8L (xs : List UInt8) : (u8L xs).length = xs.length := by simp [u8L]
theorem u8_ofNat (q : Nat) : (((UInt8.ofNat (q % 256)).toNat : Nat) : Int) = (q : Int) % 256 := by
  have : (UInt8.ofNat (q % 256)).toNat = q % 256 := by rw [UInt8.toNat_ofNat']; omega
  rw [this]; omega
theorem u8L_get {xs : List UInt8} {i : Nat} (hi : i < xs.length) : (u8L xs)[i]? = some (.int .u8 (xs[i].toNat : Int)) := by simp [u8L, hi, u8]
/-- A number's bytes, the lowest first. -/
def leN : List UInt8 → Nat
  | [] => 0
  | x :: r => x.toNat + 256 * leN r
theorem leN_lt : ∀ xs : List UInt8, leN xs < 256 ^ xs.length
  | [] => by simp [leN]
  | x :: r => by
    have := leN_lt r
    have hx := x.toNat_lt
    simp only [leN, List.length_cons, Nat.pow_succ]
    omega
theorem leN_append : ∀ (xs ys : List UInt8), leN (xs ++ ys) = leN xs + 256 ^ xs.length * leN ys
  | [], ys => by simp [leN]
  | x :: r, ys => by
    simp only [List.cons_append, leN, leN_append r ys, List.length_cons, Nat.pow_succ]
    rw [Nat.mul_add, ← Nat.mul_assoc, Nat.mul_comm 256 (256 ^ r.length), Nat.add_assoc]
theorem leN_snoc (xs : List UInt8) (i : Nat) (hi : i < xs.length) : leN (xs.take (i + 1)) = leN (xs.take i) + 256 ^ i * xs[i].toNat := by
  rw [List.take_succ_eq_append_getElem hi, leN_append]
  simp [leN, Nat.min_eq_left (Nat.le_of_lt hi)]

theorem or_add {a x i : Nat} (ha : a < 256 ^ i) : a ||| (x * 256 ^ i) = a + 256 ^ i * x := by
  have e : (256 : Nat) ^ i = 2 ^ (8 * i) := by rw [Nat.pow_mul]
  rw [e] at ha ⊢
  rw [Nat.or_comm, Nat.mul_comm x, ← Nat.two_pow_add_eq_or_of_lt ha, Nat.add_comm]

theorem shl_run {P : Program} {T : TypeId} {x y : Operand} {a b : Int} (hb : 0 ≤ b) (w : World) : (eqS .shl T x y (.int .u64 a) (.int .i64 b)).run P w = .ok (.int .u64 (IntKind.u64.wrap (a * 2 ^ (min b.toNat 64)))) w := by
  rw [eqS_run (fun w => guard_int _ _ _ _ _ _ _ _ w)]
  have : ¬ b < 0 := by omega
  simp [binOp, Op.shift, this, IntKind.bits]

def lastI : List Value → Int
  | [.int _ n] => n
  | [_, .int _ n] => n
  | [_, _, .int _ n] => n
  | [_, _, _, .int _ n] => n
  | _ => 0
/-- A row of bytes that a slice shows. -/
def Row (w : World) (a : Option Addr) (cs : List Value) : Prop := cs = [] ∨ ∃ b o, a = some ⟨b, o, none⟩ ∧ At w b o cs
def RowU (w : World) (a : Option Addr) (cs : List Value) : Prop := cs = [] ∨ ∃ b o, a = some ⟨b, o, none⟩ ∧ AtU w b o cs
end Go.Den

namespace Go.Proofs.Ytkmkfdljnlbikaa
theorem or_nat {a b : Nat} (ha : a < 18446744073709551616) (hb : b < 18446744073709551616) : bvOr 64 (a : Int) (b : Int) = ((a ||| b : Nat) : Int) := by
  show (((_ : BitVec 64).toNat : Nat) : Int) = _
  rw [BitVec.ofInt_natCast, BitVec.ofInt_natCast, BitVec.toNat_or, BitVec.toNat_ofNat, BitVec.toNat_ofNat, Nat.mod_eq_of_lt ha, Nat.mod_eq_of_lt hb]
theorem and_nat {a b : Nat} (ha : a < 18446744073709551616) (hb : b < 18446744073709551616) : bvAnd 64 (a : Int) (b : Int) = ((a &&& b : Nat) : Int) := by
  show (((_ : BitVec 64).toNat : Nat) : Int) = _
  rw [BitVec.ofInt_natCast, BitVec.ofInt_natCast, BitVec.toNat_and, BitVec.toNat_ofNat, BitVec.toNat_ofNat, Nat.mod_eq_of_lt ha, Nat.mod_eq_of_lt hb]
theorem pow_le_64 {i : Nat} (h : i < 8) : 256 ^ (i + 1) ≤ 18446744073709551616 := by
  have : 256 ^ (i + 1) ≤ 256 ^ 8 := Nat.pow_le_pow_right (by omega) (by omega)
  simpa using this

theorem Get_c {a : Option Addr} {l c : Nat} {xs : List UInt8} {w : World} {K : Value → World → Prop} (hl : xs.length = l) (hr : Row w a (u8L xs)) (h63 : l ≤ 9223372036854775807)
    (h : K (.int .u64 (leN (xs.take 8) : Int)) w) : Cal Try.prog F_num_Get #[.slice a l c] w K := by
  apply C_num_Get
  unfold D_num_Get
  refine ⟨fun x w1 => w1 = w ∧ ∃ i : Nat, i ≤ 8 ∧ i ≤ l ∧ x = [.int .u64 (leN (xs.take i) : Int), .int .i64 i], fun x _ => (8 - lastI x).toNat, ⟨rfl, 0, by omega, by omega, rfl⟩, ?_⟩
  rintro x w1 ⟨rfl, i, hi8, hil, rfl⟩
  refine ⟨_, rfl, cond_of (fun hb => ?_) (fun hb => ?_)⟩
  · have hb := of_decide_eq_true hb
    have hi : i < 8 ∧ i < l := by split at hb <;> omega
    have hix : i < xs.length := by omega
    obtain ⟨b, o, rfl, hat⟩ := hr.resolve_left (by intro e; have := congrArg List.length e; simp at this; rw [this] at hix; simp at hix)
    have hx := xs[i].toNat_lt
    have hlt : leN (xs.take i) < 256 ^ i := by have := leN_lt (xs.take i); rwa [List.length_take_of_le (by omega)] at this
    have hp := pow_le_64 hi.1
    have hpi : 256 ^ i * xs[i].toNat + 256 ^ i ≤ 256 ^ (i + 1) := by rw [Nat.pow_succ, ← Nat.mul_succ]; exact Nat.mul_le_mul_left _ (by omega)
    refine ⟨_, rfl, _, index_slice (k := 1) (by kernel_rfl) (by omega) (by omega), ?_⟩
    rw [add_none, show (i : Int).toNat * 1 = i by omega]
    refine ⟨_, hat.load (by kernel_rfl) (u8L_get hix), ?_⟩
    rw [wrapU64 (by omega) (by omega), wrap64 (x := 8 * (i : Int)) (by omega) (by omega)]
    refine ⟨_, shl_run (by omega), ?_⟩
    have e1 : ((xs[i].toNat : Int) * 2 ^ (min (8 * (i : Int)).toNat 64)) = ((xs[i].toNat * 256 ^ i : Nat) : Int) := by
      rw [show min (8 * (i : Int)).toNat 64 = 8 * i by omega]
      have : (256 : Nat) ^ i = 2 ^ (8 * i) := by rw [Nat.pow_mul]
      rw [this]; push_cast; rfl
    have hmul : xs[i].toNat * 256 ^ i = 256 ^ i * xs[i].toNat := Nat.mul_comm _ _
    rw [e1, wrapU64 (x := ((xs[i].toNat * 256 ^ i : Nat) : Int)) (by omega) (by omega), or_nat (by omega) (by omega), or_add hlt, ← leN_snoc xs i hix,
      wrapU64 (x := ((leN (xs.take (i + 1)) : Nat) : Int)) (by omega) (by rw [leN_snoc xs i hix]; omega), wrap64 (x := (i : Int) + 1) (by omega) (by omega)]
    exact ⟨⟨rfl, i + 1, by omega, by omega, rfl⟩, by simp [lastI]; omega⟩
  · have hb := of_decide_eq_false hb
    have hi : i = 8 ∨ i = l := by split at hb <;> omega
    refine ⟨_, rfl, ?_⟩
    have e : xs.take i = xs.take 8 := by
      rcases hi with rfl | rfl
      · rfl
      · rw [List.take_of_length_le (by omega), List.take_of_length_le (by omega)]
    rw [e]; exact h

/-- A number's lowest bytes. -/
def toLe : Nat → Nat → List UInt8
  | 0, _ => []
  | k + 1, n => UInt8.ofNat (n % 256) :: toLe k (n / 256)
@[simp] theorem length_toLe : ∀ k n, (toLe k n).length = k
  | 0, _ => rfl
  | k + 1, n => by simp [toLe, length_toLe k]
theorem toLe_snoc : ∀ (k n : Nat), toLe (k + 1) n = toLe k n ++ [UInt8.ofNat (n / 256 ^ k % 256)]
  | 0, n => by simp [toLe]
  | k + 1, n => by
    rw [toLe, toLe_snoc k (n / 256)]
    simp only [toLe, List.cons_append]
    rw [Nat.div_div_eq_div_mul, Nat.pow_succ, Nat.mul_comm 256]

theorem Put_c {b o i l c : Nat} {cs : List Value} {n : Nat} {w : World} {K : Value → World → Prop} (hat : AtU w b o cs) (hil : i + l ≤ cs.length) (h63 : l ≤ 9223372036854775807)
    (h : ∀ w', Mod (fun x => x = b) w w' → AtU w' b o (splice cs i (u8L (toLe l n))) → w'.heap.size = w.heap.size → K (.tuple #[]) w') : Cal Try.prog F_num_Put #[.slice (some ⟨b, o + i, none⟩) l c, .int .u64 n] w K := by
  apply C_num_Put
  unfold D_num_Put
  refine ⟨fun x w1 => ∃ j : Nat, j ≤ l ∧ x = [.int .u64 ((n / 256 ^ j : Nat) : Int), .int .i64 j] ∧ AtU w1 b o (splice cs i (u8L (toLe j n))) ∧ Mod (fun x => x = b) w w1 ∧ w1.heap.size = w.heap.size,
    fun x _ => (l - lastI x).toNat, ⟨0, by omega, by simp, by simpa [toLe, u8L, splice] using hat, Mod.refl _ _, rfl⟩, ?_⟩
  rintro x w1 ⟨j, hjl, rfl, hat1, hm, hsz⟩
  refine ⟨_, rfl, cond_of (fun hb => ?_) (fun hb => ?_)⟩
  · have hb := of_decide_eq_true hb
    have hj : j < l := by omega
    refine ⟨_, rfl, _, index_slice (k := 1) (by kernel_rfl) (by omega) (by omega), ?_⟩
    rw [add_none, show (j : Int).toNat * 1 = j by omega, Nat.add_assoc]
    obtain ⟨w2, h1, h2, h3, h4⟩ := hat1.store (P := Try.prog) (T := 5) (i := i + j) (v := .int .u8 (IntKind.u8.wrap ((n / 256 ^ j : Nat) : Int))) (by kernel_rfl) (by rw [length_splice (by simp; omega)]; omega) rfl
    refine ⟨w2, h1, ?_⟩
    rw [wrap64 (x := (j : Int) + 1) (by omega) (by omega)]
    have e1 : Int.fdiv ((n / 256 ^ j : Nat) : Int) 256 = ((n / 256 ^ (j + 1) : Nat) : Int) := by
      rw [Nat.pow_succ, ← Nat.div_div_eq_div_mul, Int.fdiv_eq_ediv_of_nonneg _ (by omega)]
      exact (Int.natCast_ediv _ _).symm
    rw [e1]
    refine ⟨⟨j + 1, by omega, by simp, ?_, hm.trans h3 (fun _ _ h => h), by omega⟩, by simp [lastI]; omega⟩
    have ev : (Value.int .u8 (IntKind.u8.wrap ((n / 256 ^ j : Nat) : Int))) = u8 (UInt8.ofNat (n / 256 ^ j % 256)) := by
      rw [wrapU8]; unfold u8; rw [u8_ofNat]
    have e2 : (splice cs i (u8L (toLe j n))).set (i + j) (u8 (UInt8.ofNat (n / 256 ^ j % 256))) = splice cs i (u8L (toLe (j + 1) n)) := by
      have := splice_snoc (cs := cs) (vs := u8L (toLe j n)) (i := i) (v := u8 (UInt8.ofNat (n / 256 ^ j % 256))) (by simp; omega)
      rw [length_u8L, length_toLe] at this
      rw [this, toLe_snoc]; simp [u8L]
    rw [ev, e2] at h2
    exact h2
  · have hb := of_decide_eq_false hb
    have hj : j = l := by omega
    subst hj
    exact h w1 hm hat1 hsz
end Go.Proofs.Ytkmkfdljnlbikaa
