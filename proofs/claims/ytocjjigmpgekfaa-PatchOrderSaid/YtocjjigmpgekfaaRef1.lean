/- Layer 1 of the document's answers: bytes of numbers, bytes over bytes, lent rows and whether they are kept. -/
import Derived.Test.YtocjjigmpgekfaaGrow
import Derived.Laws.Concat
import Derived.Test.YtocjjigmpgekfaaTxtA
open Go Go.Den Go.Proofs
namespace Go.Den
def nI (x : List Value) (i : Nat) : Int := match nth x i with | .int _ n => n | _ => 0
theorem shl_runU {P : Program} {T : TypeId} {x y : Operand} {a b : Int} (hb : 0 ≤ b) (w : World) : (eqS .shl T x y (.int .u64 a) (.int .u64 b)).run P w = .ok (.int .u64 (IntKind.u64.wrap (a * 2 ^ (min b.toNat 64)))) w := by
  rw [eqS_run (fun w => guard_int _ _ _ _ _ _ _ _ w)]
  have : ¬ b < 0 := by omega
  simp [binOp, Op.shift, this, IntKind.bits]
theorem shr_runU {P : Program} {T : TypeId} {x y : Operand} {a b : Int} (hb : 0 ≤ b) (w : World) : (eqS .shr T x y (.int .u64 a) (.int .u64 b)).run P w = .ok (.int .u64 (a.fdiv (2 ^ (min b.toNat 64)))) w := by
  rw [eqS_run (fun w => guard_int _ _ _ _ _ _ _ _ w)]
  have : ¬ b < 0 := by omega
  simp [binOp, Op.shift, this, IntKind.bits]
section
variable {P : Program} {w : World}
theorem Own.sm {base k l c : Nat} {T : TypeId} {a : Option Addr} {xs : List Value} (h : Own P w base T k a l c xs) (hl : 0 < l) : ∃ g, a = some ⟨g, 0, none⟩ ∧ base ≤ g ∧ AtU w g 0 xs := by
  obtain ⟨e, he, h1, h2⟩ := h
  rcases h2 with ⟨hn, hz⟩ | ⟨g, cap, cur, hv, hb, hg, hle, _, hsz, ht⟩
  · omega
  · simp at hv
    have hm : l * k ≤ cap * k := Nat.mul_le_mul_right _ hle
    refine ⟨g, hv.1, hb, cur.toList, e, (0, 0), hg, ?_, ?_, fun j _ _ => by simp⟩
    · rw [h1]; simp [hsz]; exact hm
    · rw [h1]; simpa using ht
/-- append of one new value. -/
theorem Own.snoc {base k bytes l c : Nat} {T ty : TypeId} {t : TypeId} {z : Value} {a : Option Addr} {xs ys : List Value} (hT : elemZ P T k z bytes) (hk : 0 < k) (h : Own P w base T k a l c xs)
    (hl : ys.length = k) (h1 : ∀ v ∈ ys, v.oneCell' = true) (h63 : (l + 1) * bytes ≤ 140737488355328) (hb : 0 < bytes) (hbase : base ≤ w.heap.size) :
    ∃ a' c' w', (Builtin.append_ #[T, T] ty #[.slice a l c, .slice (some ⟨w.heap.size, 0, none⟩) 1 1]).run P (w.alloc (.cells ⟨ys⟩ t)) = .ok (.slice a' (l + 1) c') w' ∧ Own P w' base T k a' (l + 1) c' (xs ++ ys) ∧ Mod (fun x => base ≤ x) w w' := by
  have hm : Mod No w (w.alloc (.cells ⟨ys⟩ t)) := (Mod.refl No w).alloc _
  obtain ⟨a', c', w', h2, h3, h4⟩ := (h.nos hm).append (ty := ty) hT hk (a2 := some ⟨w.heap.size, 0, none⟩) (m := 1) (c2 := 1) (ys := ys) (.inr ⟨_, _, rfl, AtU.new.at⟩) (by omega) (fun e => by cases e) h1 h63 hb (Nat.le_trans hbase hm.size)
  exact ⟨a', c', w', h2, h3, (hm.mono fun _ _ h => h.elim).trans h4 fun _ _ h => h⟩
theorem Mod.up {base : Nat} {a b c : World} (h : Mod No a b) (m : Mod (fun x => base ≤ x) b c) (hb : a.heap.size ≤ base) : Mod No a c := h.trans m fun x hx e => by omega
theorem u8L_append (xs ys : List UInt8) : u8L (xs ++ ys) = u8L xs ++ u8L ys := by simp [u8L]
theorem u8L_eq {xs : List UInt8} {i : Nat} (h : (u8L xs)[i]? = none) : xs.length ≤ i := by simpa [u8L] using h
end
end Go.Den
namespace Go.Proofs.Ytocjjigmpgekfaa

theorem built1 (w : World) (v : Int) : (Instr.buildSlice 32 1 #[(0, .int .u8 v)]).run Try.prog w = .ok (.slice (some ⟨w.heap.size, 0, none⟩) 1 1) (w.alloc (.cells ⟨[.int .u8 v]⟩ 5)) := by kernel_rfl
theorem builtI (w : World) (v : Int) : (Instr.buildSlice 23 1 #[(0, .int .i64 v)]).run Try.prog w = .ok (.slice (some ⟨w.heap.size, 0, none⟩) 1 1) (w.alloc (.cells ⟨[.int .i64 v]⟩ 3)) := by kernel_rfl
def a5 : List UInt8 := [165, 165, 165, 165, 165, 165, 165, 165]
theorem built8 (w : World) : (Instr.buildSlice 32 8 #[(0, .int .u8 165), (1, .int .u8 165), (2, .int .u8 165), (3, .int .u8 165), (4, .int .u8 165), (5, .int .u8 165), (6, .int .u8 165), (7, .int .u8 165)]).run Try.prog w = .ok (.slice (some ⟨w.heap.size, 0, none⟩) 8 8) (w.alloc (.cells ⟨u8L a5⟩ 5)) := by kernel_rfl

theorem shr_byte (n : Nat) {i : Nat} (h8 : i < 8) : IntKind.u8.wrap ((n : Int).fdiv (2 ^ (min (8 * (i : Int)).toNat 64))) = ((n / 256 ^ i % 256 : Nat) : Int) := by
  rw [show min (8 * (i : Int)).toNat 64 = 8 * i by omega, wrapU8, Int.fdiv_eq_ediv_of_nonneg _ (Int.le_of_lt (Int.pow_pos (by omega)))]
  have : (256 : Nat) ^ i = 2 ^ (8 * i) := by rw [Nat.pow_mul]
  rw [this, Int.natCast_emod, Int.natCast_ediv, Int.natCast_pow]; rfl
theorem high_byte {n i : Nat} (hn : n < 18446744073709551616) (h8 : ¬ i < 8) : (0 : Int) = ((n / 256 ^ i % 256 : Nat) : Int) := by
  have h1 : 256 ^ 8 ≤ 256 ^ i := Nat.pow_le_pow_right (by omega) (by omega)
  have h2 : (256 : Nat) ^ 8 = 18446744073709551616 := by decide
  rw [Nat.div_eq_of_lt (by rw [h2] at h1; exact Nat.lt_of_lt_of_le hn h1)]; rfl
theorem byte_cell {v : Int} {q : Nat} (hv : v = ((q % 256 : Nat) : Int)) : [Value.int .u8 v] = u8L [UInt8.ofNat (q % 256)] := by
  simp only [u8L, u8, List.map_cons, List.map_nil]
  rw [u8_ofNat, hv]; rfl
/-- A row lent: its bytes, with eight bytes of room behind. -/
def LentAt (w : World) (b l c : Nat) (xs : List UInt8) : Prop := l = xs.length ∧ l + 8 ≤ c ∧ AtU w b 0 (u8L (xs ++ a5))
theorem LentAt.row {w : World} {b l c : Nat} {xs : List UInt8} (h : LentAt w b l c xs) : Row w (some ⟨b, 0, none⟩) (u8L xs) := by
  obtain ⟨h1, h2, h3⟩ := h
  refine .inr ⟨b, 0, rfl, ?_⟩
  have := h3.at.sub (i := 0) (m := xs.length) (by simp)
  simpa [u8L] using this
theorem LentAt.keep {w w' : World} {b l c : Nat} {xs : List UInt8} {S : Nat → Prop} (h : LentAt w b l c xs) (m : Mod S w w') (hb : ¬ S b) : LentAt w' b l c xs := ⟨h.1, h.2.1, h.2.2.keep m hb⟩

end Go.Proofs.Ytocjjigmpgekfaa
