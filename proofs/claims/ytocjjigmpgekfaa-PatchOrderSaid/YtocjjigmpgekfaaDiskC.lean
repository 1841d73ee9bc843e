/- Layer 2, the program's disk: new disks, blocks filled, writes. -/
import Derived.Test.YtocjjigmpgekfaaDiskB
import Derived.Great.BuildSlice
open Go Go.Den Go.Proofs
namespace Go.Den
section
variable {P : Program} {w : World}
theorem slice_3 {T : TypeId} {k n c : Nat} {a : Option Addr} (hT : elemN P T = some k) (h2 : n ≤ c) (w : World) :
    (Instr.sliceAt T (.slice a n c) none (some (.int .i64 n)) (some (.int .i64 n))).run P w = .ok (.slice (cutA a n 0 k) n n) w := by
  obtain ⟨e, inf, he, hi, hk⟩ := elem_is hT
  have hb1 := fun code => bound_ok (P := P) (kk := .i64) (i := n) (y := c) (code := code) (by omega) (by omega) w
  have hb2 := fun code => bound_ok (P := P) (kk := .i64) (i := n) (y := n) (code := code) (by omega) (by omega) w
  simp only [Instr.sliceAt, Sem.run_bind, run_und he, Result.andThen_ok, Instr.slice, Instr.sliceBounds, Sem.run_pure, if_true, hb1, hb2, Int.toNat_natCast, run_sizeOf hi, hk]
  unfold cutA
  split <;> rfl
theorem look_put : ∀ (L : List (Int × Value)) (k : Int) (v : Value) (k' : Int), lookupL (putL k v L) k' = if k = k' then some v else lookupL L k'
  | [], k, v, k' => by simp [putL, lookupL]
  | p :: r, k, v, k' => by
    simp only [putL]
    by_cases hp : p.1 = k
    · rw [if_pos hp]
      simp only [lookupL]
      by_cases hk : k = k'
      · rw [if_pos hk, if_pos hk]
      · rw [if_neg hk, if_neg hk, if_neg (by omega)]
    · rw [if_neg hp]
      simp only [lookupL]
      by_cases hp' : p.1 = k'
      · rw [if_pos hp', if_neg (by omega), if_pos hp']
      · rw [if_neg hp', if_neg hp', look_put r k v k']
theorem put_keys {L : List (Int × Value)} {k : Int} {v : Value} : ∀ p ∈ putL k v L, p.1 = k ∨ p ∈ L := by
  induction L with
  | nil => intro p hp; simp [putL] at hp; exact .inl (by rw [hp])
  | cons q r ih =>
    intro p hp
    simp only [putL] at hp
    by_cases hq : q.1 = k
    · rw [if_pos hq] at hp
      rcases List.mem_cons.1 hp with rfl | hp
      · exact .inl rfl
      · exact .inr (List.mem_cons_of_mem _ hp)
    · rw [if_neg hq] at hp
      rcases List.mem_cons.1 hp with rfl | hp
      · exact .inr (by simp)
      · rcases ih p hp with h | h
        · exact .inl h
        · exact .inr (List.mem_cons_of_mem _ h)
end
def zeroB : Bk := List.replicate 256 0
def newSt (n : Nat) : St := ⟨List.replicate n [zeroB], -1⟩
theorem WF.new {n : Nat} (h0 : 1 ≤ n) (h1 : n ≤ 4096) : WF (newSt n) where
  ver := by
    intro v hv
    have := List.eq_of_mem_replicate hv
    subst this
    exact ⟨by simp, by intro x hx; simp at hx; subst hx; exact List.length_replicate⟩
  lo := by simp [newSt]; exact h0
  hi := by simp [newSt]; exact h1
  l0 := by simp [newSt]
  l1 := by simp [newSt]
theorem flat_rep : ∀ n : Nat, (List.replicate n zeroB).flatten = List.replicate (n * 256) 0
  | 0 => by simp
  | n + 1 => by
    rw [List.replicate_succ, List.flatten_cons, flat_rep n, zeroB, List.replicate_append_replicate]
    congr 1; omega
/-- A region grown by new blocks. -/
def Gro (R : Nat → Prop) (w w' : World) : Nat → Prop := fun x => R x ∨ (w.heap.size ≤ x ∧ x < w'.heap.size)
def dec (l : Int) : Int := if -1 > l - 1 then -1 else l - 1
end Go.Den

namespace Go.Proofs.Ytocjjigmpgekfaa
section
variable {w : World} {R : Nat → Prop} {b sb mb sc : Nat} {L : List (Int × Value)} {D : St} {K : Value → World → Prop}

theorem build_disk (w : World) (a : Option Addr) (l c : Nat) (m : Option Nat) : (Instr.build 53 #[(0, .slice a l c), (1, .map m), (2, .int .i64 (-1))]).run Try.prog w = .ok (.agg ⟨[.slice a l c, .map m, .int .i64 (-1)]⟩) w := by kernel_rfl
theorem New_c {n : Int} (h0 : -9223372036854775808 ≤ n) (h1 : n ≤ 9223372036854775807) (hbad : n < 1 ∨ 4096 < n → K (.tuple #[.pointer none, .int .i64 1]) w)
    (hok : ∀ k : Nat, n = k → 1 ≤ k → k ≤ 4096 → ∀ w' b sb mb, Mod No w w' → DiskIn w' (fun x => w.heap.size ≤ x ∧ x < w'.heap.size) b sb mb k [] (newSt k) → K (.tuple #[.pointer (some ⟨b, 0, none⟩), .int .i64 0]) w') :
    Cal Try.prog F_disk_New #[.int .i64 n] w K := by
  apply C_disk_New
  unfold D_disk_New
  refine Share.or ⟨_, rfl, cond_of (fun hb => ?_) (fun hb => ?_)⟩
  · exact hbad (by simpa using hb)
  have hn : ¬ (n < 1 ∨ 4096 < n) := by simpa using hb
  obtain ⟨k, rfl⟩ := Int.eq_ofNat_of_zero_le (show 0 ≤ n by omega)
  obtain ⟨w1, hm1, hat1, hmod1, hsz1⟩ := makeSlice_run (P := Try.prog) (w := w) (n := k) elemZ_blocks (by omega) (by omega) (by omega)
  refine ⟨_, _, _, w1, hm1, _, _, makeMap_run, _, fun w => build_disk w _ _ _ _, _, _, box_run, ?_⟩
  have m2 : Mod No w1 (w1.alloc (.map #[] 0)) := (Mod.refl No w1).alloc _
  have m3 : Mod No (w1.alloc (.map #[] 0)) ((w1.alloc (.map #[] 0)).alloc (.cells ⟨[.slice (some ⟨w.heap.size, 0, none⟩) k k, .map (some w1.heap.size), .int .i64 (-1)]⟩ 53)) := (Mod.refl No _).alloc _
  have hz : List.replicate (k * 256) (Value.int .u8 0) = u8L ((newSt k).vs.map hd).flatten := by
    have : (newSt k).vs.map hd = List.replicate k zeroB := by simp [newSt, hd]
    rw [this, flat_rep]; simp [u8L, u8]
  rw [hz] at hat1
  refine hok k rfl (by omega) (by omega) _ _ w.heap.size w1.heap.size ((hmod1.no m2).no m3) ?_
  have hs2 : (w1.alloc (.map #[] 0)).heap.size = w.heap.size + 2 := by simp [hsz1]
  have hs3 : ((w1.alloc (.map #[] 0)).alloc (.cells (Value.agg ⟨[.slice (some ⟨w.heap.size, 0, none⟩) k k, .map (some w1.heap.size), .int .i64 (-1)]⟩).cells 53)).heap.size = w.heap.size + 3 := by simp [hsz1]
  exact { cell := by
            have : (newSt k).vs.length = k := by simp [newSt]
            rw [this]; exact AtU.new
          cap := by simp [newSt]
          safe := (hat1.keep m2 id).keep m3 id
          map := MapAt.new.keep m3 id
          rb := by rw [hs3]; omega
          rs := by rw [hs3]; omega
          rm := by rw [hs3]; omega
          ne := by omega
          opn := fun i v hv => .inl ⟨by
            have := List.eq_of_mem_replicate (List.mem_of_getElem? hv)
            subst this; rfl, rfl⟩
          keys := by simp
          wf := WF.new (by omega) (by omega)
          lt := fun x hx => hx.2 }

def fillB (xs : List UInt8) : Bk := (List.range 256).map fun i => xs.getD (i % xs.length) 0
@[simp] theorem length_fillB (xs : List UInt8) : (fillB xs).length = 256 := by simp [fillB]
theorem rem_run {P : Program} {T : TypeId} {x y : Operand} {a b : Int} (hb : b ≠ 0) (w : World) : (eqS .rem T x y (.int .i64 a) (.int .i64 b)).run P w = .ok (.int .i64 (a.tmod b)) w := by
  rw [eqS_run (fun w => guard_int _ _ _ _ _ _ _ _ w)]
  simp [binOp, Op.intDiv, hb]
end
end Go.Proofs.Ytocjjigmpgekfaa
