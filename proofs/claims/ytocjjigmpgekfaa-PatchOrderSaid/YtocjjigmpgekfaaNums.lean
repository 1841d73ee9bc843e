/- Layer 1, numbers as bytes: num.Get, num.Put. -/
import Derived.Test.YtocjjigmpgekfaaSlices
import Derived.Test.YtocjjigmpgekfaaTxtA
open Go Go.Den Go.Proofs
namespace Go.Den

def u8 (x : UInt8) : Value := .int .u8 (x.toNat : Int)
def u8L (xs : List UInt8) : List Value := xs.map u8
@[simp] theorem length_u8L (xs : List UInt8) : (u8L xs).length = xs.length := by simp [u8L]
theorem u8_ofNat (q : Nat) : (((UInt8.ofNat (q % 256)).toNat : Nat) : Int) = (q : Int) % 256 := by
  have : (UInt8.ofNat (q % 256)).toNat = q % 256 := by rw [UInt8.toNat_ofNat']; omega
  rw [this]; omega
theorem u8L_get {xs : List UInt8} {i : Nat} (hi : i < xs.length) : (u8L xs)[i]? = some (.int .u8 (xs[i].toNat : Int)) := by simp [u8L, hi, u8]
/-- A number's bytes, the lowest first. -/
def leN : List UInt8 → Nat
  | [] => 0
  | x :: r => x.toNat + 256 * leN r
theorem leN_lt : ∀ xs : List UInt8, leN xs < 256 ^ xs.length
  | [] => by simp [leN]
  | x :: r => by
    have := leN_lt r
    have hx := x.toNat_lt
    simp only [leN, List.length_cons, Nat.pow_succ]
    omega
theorem leN_append : ∀ (xs ys : List UInt8), leN (xs ++ ys) = leN xs + 256 ^ xs.length * leN ys
  | [], ys => by simp [leN]
  | x :: r, ys => by
    simp only [List.cons_append, leN, leN_append r ys, List.length_cons, Nat.pow_succ]
    rw [Nat.mul_add, ← Nat.mul_assoc, Nat.mul_comm 256 (256 ^ r.length), Nat.add_assoc]
theorem leN_snoc (xs : List UInt8) (i : Nat) (hi : i < xs.length) : leN (xs.take (i + 1)) = leN (xs.take i) + 256 ^ i * xs[i].toNat := by
  rw [List.take_succ_eq_append_getElem hi, leN_append]
  simp [leN, Nat.min_eq_left (Nat.le_of_lt hi)]

theorem or_add {a x i : Nat} (ha : a < 256 ^ i) : a ||| (x * 256 ^ i) = a + 256 ^ i * x := by
  have e : (256 : Nat) ^ i = 2 ^ (8 * i) := by rw [Nat.pow_mul]
  rw [e] at ha ⊢
  rw [Nat.or_comm, Nat.mul_comm x, ← Nat.two_pow_add_eq_or_of_lt ha, Nat.add_comm]

theorem shl_run {P : Program} {T : TypeId} {x y : Operand} {a b : Int} (hb : 0 ≤ b) (w : World) : (eqS .shl T x y (.int .u64 a) (.int .i64 b)).run P w = .ok (.int .u64 (IntKind.u64.wrap (a * 2 ^ (min b.toNat 64)))) w := by
  rw [eqS_run (fun w => guard_int _ _ _ _ _ _ _ _ w)]
  have : ¬ b < 0 := by omega
  simp [binOp, Op.shift, this, IntKind.bits]

def lastI : List Value → Int
  | [.int _ n] => n
  | [_, .int _ n] => n
  | [_, _, .int _ n] => n
  | [_, _, _, .int _ n] => n
  | _ => 0
/-- A row of bytes that a slice shows. -/
def Row (w : World) (a : Option Addr) (cs : List Value) : Prop := cs = [] ∨ ∃ b o, a = some ⟨b, o, none⟩ ∧ At w b o cs
def RowU (w : World) (a : Option Addr) (cs : List Value) : Prop := cs = [] ∨ ∃ b o, a = some ⟨b, o, none⟩ ∧ AtU w b o cs
end Go.Den

namespace Go.Proofs.Ytocjjigmpgekfaa
theorem or_nat {a b : Nat} (ha : a < 18446744073709551616) (hb : b < 18446744073709551616) : bvOr 64 (a : Int) (b : Int) = ((a ||| b : Nat) : Int) := by
  show (((_ : BitVec 64).toNat : Nat) : Int) = _
  rw [BitVec.ofInt_natCast, BitVec.ofInt_natCast, BitVec.toNat_or, BitVec.toNat_ofNat, BitVec.toNat_ofNat, Nat.mod_eq_of_lt ha, Nat.mod_eq_of_lt hb]
theorem and_nat {a b : Nat} (ha : a < 18446744073709551616) (hb : b < 18446744073709551616) : bvAnd 64 (a : Int) (b : Int) = ((a &&& b : Nat) : Int) := by
  show (((_ : BitVec 64).toNat : Nat) : Int) = _
  rw [BitVec.ofInt_natCast, BitVec.ofInt_natCast, BitVec.toNat_and, BitVec.toNat_ofNat, BitVec.toNat_ofNat, Nat.mod_eq_of_lt ha, Nat.mod_eq_of_lt hb]
theorem pow_le_64 {i : Nat} (h : i < 8) : 256 ^ (i + 1) ≤ 18446744073709551616 := by
  have : 256 ^ (i + 1) ≤ 256 ^ 8 := Nat.pow_le_pow_right (by omega) (by omega)
  simpa using this

/-- A number's lowest bytes. -/
def toLe : Nat → Nat → List UInt8
  | 0, _ => []
  | k + 1, n => UInt8.ofNat (n % 256) :: toLe k (n / 256)
@[simp] theorem length_toLe : ∀ k n, (toLe k n).length = k
  | 0, _ => rfl
  | k + 1, n => by simp [toLe, length_toLe k]
theorem toLe_snoc : ∀ (k n : Nat), toLe (k + 1) n = toLe k n ++ [UInt8.ofNat (n / 256 ^ k % 256)]
  | 0, n => by simp [toLe]
  | k + 1, n => by
    rw [toLe, toLe_snoc k (n / 256)]
    simp only [toLe, List.cons_append]
    rw [Nat.div_div_eq_div_mul, Nat.pow_succ, Nat.mul_comm 256]

end Go.Proofs.Ytocjjigmpgekfaa
