/- Layer 11: a store that is not there. -/
import Derived.Test.YtgcecmfjpljpcaaPatQ
open Go Go.Den Go.Proofs
namespace Go.Proofs.Ytgcecmfjpljpcaa
section
variable {w : World} {K : Value → World → Prop}
theorem readP_nil {n : Int} (h : K (.tuple #[.slice none 0 0, .int .i64 2]) w) : Cal Try.prog F_patch_Store_Read #[.pointer none, .int .i64 n] w K := by
  apply C_patch_Store_Read; exact tt rfl h
theorem safeP_nil {n : Int} (h : K (.bool false) w) : Cal Try.prog F_patch_Store_Safe #[.pointer none, .int .i64 n] w K := by
  apply C_patch_Store_Safe
  exact Share.dup (ff rfl ⟨_, rfl, h⟩)
theorem patchP_nil {n f : Int} {a a2 : Option Addr} {l cc l2 c2 : Nat} (h : ∀ w', Mod No w w' → K (.tuple #[.int .i64 0, .int .i64 2]) w') : Cal Try.prog F_patch_Store_Patch #[.pointer none, .int .i64 n, .int .i64 f, .slice a l cc, .slice a2 l2 c2] w K := by
  apply C_patch_Store_Patch
  unfold D_patch_Store_Patch
  have m1 : Mod No w (w.alloc (.cells ⟨[.pointer none]⟩ 60)) := (Mod.refl No w).alloc _
  have hq : At (w.alloc (.cells ⟨[.pointer none]⟩ 60)) w.heap.size 0 [.pointer none] := AtU.new.at
  exact ⟨_, _, box_store _ _, _, hq.load (i := 0) (by kernel_rfl) rfl, tt rfl (h _ m1)⟩
theorem waitsP_nil {n : Int} (h : ∀ w', Mod No w w' → K (.slice none 0 0) w') : Cal Try.prog F_patch_Store_Waits #[.pointer none, .int .i64 n] w K := by
  apply C_patch_Store_Waits
  unfold D_patch_Store_Waits
  have m1 : Mod No w (w.alloc (.cells ⟨[.pointer none]⟩ 60)) := (Mod.refl No w).alloc _
  have hq : At (w.alloc (.cells ⟨[.pointer none]⟩ 60)) w.heap.size 0 [.pointer none] := AtU.new.at
  exact ⟨_, _, box_store _ _, Share.dup ⟨_, hq.load (i := 0) (by kernel_rfl) rfl, tt rfl ⟨_, rfl, tt rfl (h _ m1)⟩⟩⟩
set_option maxRecDepth 100000 in
theorem PatchNil_c {n : Int} {a : Option Addr} {l cc : Nat} (w : World) : Cal Try.prog F_leveelaw11_PatchNil #[.int .i64 n, .slice a l cc] w (fun v w' => v = .bool true ∧ Mod No w w') := by
  apply C_leveelaw11_PatchNil
  unfold D_leveelaw11_PatchNil
  have hnew : ∀ {w : World} {K : Value → World → Prop}, K (.tuple #[.pointer none, .int .i64 2]) w → Cal Try.prog F_patch_Open #[.pointer none, .int .i64 4] w K := fun h => by
    apply C_patch_Open
    exact C_cache_New _ _ _ _ (tt rfl ⟨_, _, rfl, tt rfl h⟩)
  refine hnew ⟨_, _, rfl, readP_nil ⟨_, _, _, _, rfl, patchP_nil fun w1 m1 => ⟨_, _, rfl, ?_⟩⟩⟩
  refine C_patch_Store_Image _ _ _ _ (readP_nil ⟨_, _, _, _, rfl, Share.dup (tt rfl ⟨_, rfl, tt rfl ⟨_, _, _, _, rfl, ?_⟩⟩)⟩)
  refine C_patch_Store_Block _ _ _ _ (tt rfl ⟨_, _, rfl, Share.dup (tt rfl (tt rfl (tt rfl (tt rfl (tt rfl (tt rfl ?_))))))⟩)
  refine C_patch_Store_Write _ _ _ _ (tt rfl ⟨_, rfl, tt rfl ?_⟩)
  refine C_patch_Store_Flush _ _ _ (tt rfl ⟨_, rfl, tt rfl ?_⟩)
  refine safeP_nil ⟨_, rfl, tt rfl ?_⟩
  refine C_patch_Store_Open _ _ _ (tt rfl ⟨_, rfl, tt rfl ?_⟩)
  refine C_patch_Store_Dirty _ _ _ (tt rfl ⟨_, _, _, rfl, tt rfl ?_⟩)
  refine C_patch_Store_Ready _ _ _ _ (Share.dup (tt rfl ⟨_, rfl, tt rfl ⟨_, rfl, tt rfl ?_⟩⟩))
  refine waitsP_nil fun w2 m2 => ⟨_, _, _, rfl, tt rfl ?_⟩
  refine C_patch_Store_Len _ _ _ (tt rfl ⟨_, rfl, tt rfl ?_⟩)
  exact known11_c fun w3 m3 => ⟨_, rfl, _, rfl, rfl, (m1.no m2).no m3⟩
end
end Go.Proofs.Ytgcecmfjpljpcaa
