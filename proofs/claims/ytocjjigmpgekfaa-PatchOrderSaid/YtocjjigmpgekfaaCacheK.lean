/- Layer 10: the fixed calls; a cache that is not there. -/
import Derived.Test.YtocjjigmpgekfaaCacheH
import Derived.Test.YtocjjigmpgekfaaTxtA
open Go Go.Den Go.Proofs
namespace Go.Proofs.Ytocjjigmpgekfaa
section
variable {w0 w w' : World} {R : Nat → Prop} {c d : Nat} {C : Ca} {K : Value → World → Prop}
theorem cDiskRead_c {n : Int} (hC : Cx w0 R w c d C) (hk : ∀ w' a cc, Mod No w w' → Cx w0 R w' c d C → Fresh w w' a (rdB C.D n) → K (.tuple #[.slice a (rdB C.D n).length cc, .int .i64 (errOf C.D n)]) w') : Cal Try.prog F_disk_Disk_Read #[.pointer (some ⟨d, 0, none⟩), .int .i64 n] w K := by
  have hX := hC
  obtain ⟨rl, m, sb, mb, sc, lc, la, L, mp, h⟩ := hC
  exact Read_c h.disk h.wf.small fun w' a cc m' f => hk w' a cc m' (hX.nos m') f
def k0 : Ca := ⟨newSt 4, 2, []⟩
def k1 : Ca := (rdX k0 1).1
def k2 : Ca := (rdX k1 2).1
def k3 : Ca := (rdX k2 1).1
def k4 : Ca := (rdX k3 3).1
def k5 : Ca := (layX k4 1 (fillB [120])).1
def k6 : Ca := (wrX k5 1 []).1
theorem k5e : (layX k4 1 (fillB [120])).2 = 0 := by decide +kernel
theorem k6e : (wrX k5 1 []).2 = 0 := by decide +kernel
theorem drt_eq (C : Ca) : drt C = sorted ((nums C.l).filter fun k => !cl1 C k) := rfl
theorem k5d : drt k5 = [1] := by
  have : ((nums k5.l).filter fun k => !cl1 k5 k) = [1] := by decide +kernel
  rw [drt_eq, this]; simp [sorted]
theorem k6d : drt k6 = [] := by
  have : ((nums k6.l).filter fun k => !cl1 k6 k) = [] := by decide +kernel
  rw [drt_eq, this]; simp [sorted]
theorem k6h : nums k6.l = [3, 1] := by decide +kernel
theorem k6l : k6.l.length = 2 := by decide +kernel
theorem k6r : rdB k6.D 1 = fillB [120] := by decide +kernel
theorem k6f : errOf k6.D 1 = 0 := by decide +kernel
theorem built31 (w : World) : (Instr.buildSlice 23 2 #[(0, .int .i64 3), (1, .int .i64 1)]).run Try.prog w = .ok (.slice (some ⟨w.heap.size, 0, none⟩) 2 2) (w.alloc (.cells ⟨[.int .i64 3, .int .i64 1]⟩ 3)) := by kernel_rfl
theorem Own.rowI {base l cc : Nat} {T : TypeId} {a : Option Addr} {xs : List Value} (h : Own Try.prog w base T 1 a l cc xs) : Row w a xs := h.rowU.row
theorem cmay_nil {n : Int} {a2 a3 : Option Addr} {l2 c2 l3 c3 : Nat} (h : K (.int .i64 2) w) : Cal Try.prog F_cache_Cache_may #[.pointer none, .int .i64 n, .slice a2 l2 c2, .slice a3 l3 c3] w K := by
  apply C_cache_Cache_may; exact tt rfl h
theorem held_nil {n : Int} (h : K (.tuple #[.pointer none, .int .i64 2]) w) : Cal Try.prog F_cache_Cache_held #[.pointer none, .int .i64 n] w K := by
  apply C_cache_Cache_held; exact tt rfl h
end
end Go.Proofs.Ytocjjigmpgekfaa
