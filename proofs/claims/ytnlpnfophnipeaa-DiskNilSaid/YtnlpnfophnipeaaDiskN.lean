/- The statement DiskNil: a disk that is not there. -/
import Derived.Test.YtnlpnfophnipeaaDiskG
import Derived.Test.YtnlpnfophnipeaaTxtN
open Go Go.Den Go.Proofs
namespace Go.Proofs.Ytnlpnfophnipeaa
section
variable {w : World} {K : Value → World → Prop} {n : Int}
theorem may_nil (h : K (.int .i64 2) w) : Cal Try.prog F_disk_Disk_may #[.pointer none, .int .i64 n] w K := by
  apply C_disk_Disk_may; exact tt rfl h
theorem Read_nil (h : K (.tuple #[.slice none 0 0, .int .i64 2]) w) : Cal Try.prog F_disk_Disk_Read #[.pointer none, .int .i64 n] w K := by
  apply C_disk_Disk_Read; exact may_nil ⟨_, rfl, tt rfl h⟩
theorem Safe_nil (h : K (.tuple #[.slice none 0 0, .int .i64 2]) w) : Cal Try.prog F_disk_Disk_Safe #[.pointer none, .int .i64 n] w K := by
  apply C_disk_Disk_Safe; exact may_nil ⟨_, rfl, tt rfl h⟩
theorem Crash_nil {a : Option Addr} {l c : Nat} (h : K (.tuple #[]) w) : Cal Try.prog F_disk_Disk_Crash #[.pointer none, .slice a l c] w K := by
  apply C_disk_Disk_Crash; exact tt rfl h
theorem Stop_nil (h : ∀ w', Mod No w w' → K (.tuple #[]) w') : Cal Try.prog F_disk_Disk_Stop #[.pointer none, .int .i64 n] w K := by
  apply C_disk_Disk_Stop; exact Share.dup (ff rfl (h _ (Mod.refl _ _)))
theorem Stopped_nil (h : ∀ w', Mod No w w' → K (.bool false) w') : Cal Try.prog F_disk_Disk_Stopped #[.pointer none] w K := by
  apply C_disk_Disk_Stopped; exact Share.dup (ff rfl ⟨_, rfl, h _ (Mod.refl _ _)⟩)
theorem Write_nil {a : Option Addr} {l c : Nat} (h : K (.int .i64 2) w) : Cal Try.prog F_disk_Disk_Write #[.pointer none, .int .i64 n, .slice a l c] w K := by
  apply C_disk_Disk_Write; exact may_nil ⟨_, rfl, tt rfl h⟩
theorem Flush_nil (h : K (.int .i64 2) w) : Cal Try.prog F_disk_Disk_Flush #[.pointer none] w K := by
  apply C_disk_Disk_Flush; exact tt rfl h
theorem Len_nil (h : K (.int .i64 0) w) : Cal Try.prog F_disk_Disk_Len #[.pointer none] w K := by
  apply C_disk_Disk_Len; exact tt rfl h
theorem Open_nil (h : K (.slice none 0 0) w) : Cal Try.prog F_disk_Disk_Open #[.pointer none] w K := by
  apply C_disk_Disk_Open; exact tt rfl h
theorem Writes_nil (h : K (.int .i64 0) w) : Cal Try.prog F_disk_Disk_Writes #[.pointer none, .int .i64 n] w K := by
  apply C_disk_Disk_Writes; exact tt rfl h
theorem Copy_nil (h : K (.pointer none) w) : Cal Try.prog F_disk_Disk_Copy #[.pointer none] w K := by
  apply C_disk_Disk_Copy; exact tt rfl h
theorem Bytes_nil (h : K (.slice none 0 0) w) : Cal Try.prog F_disk_Disk_Bytes #[.pointer none] w K := by
  apply C_disk_Disk_Bytes
  unfold D_disk_Disk_Bytes
  refine Len_nil ⟨_, rfl, ?_⟩
  refine ⟨fun x w' => x = [.slice none 0 0, .int .i64 0] ∧ w' = w, fun _ _ => 0, ⟨rfl, rfl⟩, ?_⟩
  rintro x w' ⟨rfl, rfl⟩
  exact ⟨_, rfl, ff rfl ⟨_, _, _, rfl, h⟩⟩
theorem DiskNil_c {a : Option Addr} {l c : Nat} (w : World) : Cal Try.prog F_leveelaw02_DiskNil #[.int .i64 n, .slice a l c] w (fun v w' => v = .bool true ∧ Mod No w w') := by
  apply C_leveelaw02_DiskNil
  unfold D_leveelaw02_DiskNil
  refine Read_nil ⟨_, _, _, _, rfl, ?_⟩
  refine Safe_nil ⟨_, _, _, _, rfl, ?_⟩
  refine Crash_nil ⟨rfl, ?_⟩
  refine Stop_nil fun w1 m1 => ⟨rfl, Share.dup (tt rfl (tt rfl ?_))⟩
  refine Stopped_nil fun w2 m2 => ⟨_, rfl, tt rfl ?_⟩
  refine Write_nil ⟨_, rfl, tt rfl ?_⟩
  refine Flush_nil ⟨_, rfl, tt rfl ?_⟩
  refine Len_nil ⟨_, rfl, tt rfl ?_⟩
  refine Open_nil ⟨_, _, _, rfl, tt rfl ?_⟩
  refine Writes_nil ⟨_, rfl, tt rfl ?_⟩
  refine Copy_nil ⟨_, rfl, tt rfl ?_⟩
  refine Bytes_nil ⟨_, _, _, rfl, tt rfl ?_⟩
  exact known2_c fun w3 m3 => ⟨_, rfl, _, rfl, rfl, (m1.no m2).no m3⟩
end
end Go.Proofs.Ytnlpnfophnipeaa
