/- Layer 10: the fixed calls; a cache that is not there. -/
import Derived.Test.YtgcecmfjpljpcaaCacheH
import Derived.Test.YtgcecmfjpljpcaaTxtA
open Go Go.Den Go.Proofs
namespace Go.Proofs.Ytgcecmfjpljpcaa
section
variable {w0 w w' : World} {R : Nat → Prop} {c d : Nat} {C : Ca} {K : Value → World → Prop}
theorem cDiskRead_c {n : Int} (hC : Cx w0 R w c d C) (hk : ∀ w' a cc, Mod No w w' → Cx w0 R w' c d C → Fresh w w' a (rdB C.D n) → K (.tuple #[.slice a (rdB C.D n).length cc, .int .i64 (errOf C.D n)]) w') : Cal Try.prog F_disk_Disk_Read #[.pointer (some ⟨d, 0, none⟩), .int .i64 n] w K := by
  have hX := hC
  obtain ⟨rl, m, sb, mb, sc, lc, la, L, mp, h⟩ := hC
  exact Read_c h.disk h.wf.small fun w' a cc m' f => hk w' a cc m' (hX.nos m') f
def k0 : Ca := ⟨newSt 4, 2, []⟩
def k1 : Ca := (rdX k0 1).1
def k2 : Ca := (rdX k1 2).1
def k3 : Ca := (rdX k2 1).1
def k4 : Ca := (rdX k3 3).1
def k5 : Ca := (layX k4 1 (fillB [120])).1
def k6 : Ca := (wrX k5 1 []).1
theorem k5e : (layX k4 1 (fillB [120])).2 = 0 := by decide +kernel
theorem k6e : (wrX k5 1 []).2 = 0 := by decide +kernel
theorem drt_eq (C : Ca) : drt C = sorted ((nums C.l).filter fun k => !cl1 C k) := rfl
theorem k5d : drt k5 = [1] := by
  have : ((nums k5.l).filter fun k => !cl1 k5 k) = [1] := by decide +kernel
  rw [drt_eq, this]; simp [sorted]
theorem k6d : drt k6 = [] := by
  have : ((nums k6.l).filter fun k => !cl1 k6 k) = [] := by decide +kernel
  rw [drt_eq, this]; simp [sorted]
theorem k6h : nums k6.l = [3, 1] := by decide +kernel
theorem k6l : k6.l.length = 2 := by decide +kernel
theorem k6r : rdB k6.D 1 = fillB [120] := by decide +kernel
theorem k6f : errOf k6.D 1 = 0 := by decide +kernel
theorem built31 (w : World) : (Instr.buildSlice 31 2 #[(0, .int .i64 3), (1, .int .i64 1)]).run Try.prog w = .ok (.slice (some ⟨w.heap.size, 0, none⟩) 2 2) (w.alloc (.cells ⟨[.int .i64 3, .int .i64 1]⟩ 3)) := by kernel_rfl
theorem Own.rowI {base l cc : Nat} {T : TypeId} {a : Option Addr} {xs : List Value} (h : Own Try.prog w base T 1 a l cc xs) : Row w a xs := h.rowU.row
set_option maxRecDepth 100000 in
theorem known10_c (hk : ∀ w', Mod No w w' → K (.bool true) w') : Cal Try.prog F_leveelaw10_known #[] w K := by
  apply C_leveelaw10_known
  unfold D_leveelaw10_known
  refine New_c (n := 4) (by omega) (by omega) (fun h => by omega) fun k hk' _ _ w1 d sb mb m1 h1 => ⟨_, _, rfl, ?_⟩
  have : k = 4 := by omega
  subst this
  have hsm : Small (newSt 4) := Small.one (sm _ (by decide +kernel))
  refine cNew_c (w0 := w) (n := 2) h1 hsm (fun x hx => hx) m1 (fun h => by omega) fun k2 hk2 _ _ w2 c m2 x2 => ⟨_, _, rfl, Share.dup (ff rfl ⟨_, rfl, ff rfl ?_⟩)⟩
  have : k2 = 2 := by omega
  subst this
  have x2 : Cx w _ w2 c d k0 := x2
  refine cRead_c (n := 1) x2 fun w3' w3 a3 c3 n3 m3 x3 o3 => ⟨_, _, _, _, rfl, ?_⟩
  have x3 : Cx w _ w3 c d k1 := x3
  refine cRead_c (n := 2) x3 fun w4' w4 a4 c4 n4 m4 x4 o4 => ⟨_, _, _, _, rfl, ?_⟩
  have x4 : Cx w _ w4 c d Go.Proofs.Ytgcecmfjpljpcaa.k2 := x4
  refine cRead_c (n := 1) x4 fun w5' w5 a5 c5 n5 m5 x5 o5 => ⟨_, _, _, _, rfl, ?_⟩
  have x5 : Cx w _ w5 c d k3 := x5
  refine cRead_c (n := 3) x5 fun w6' w6 a6 c6 n6 m6 x6 o6 => ⟨_, _, _, _, rfl, ?_⟩
  have x6 : Cx w _ w6 c d k4 := x6
  refine ⟨_, _, _, _, built1 _ 120, _, _, _, _, conv_lit _ 120, ?_⟩
  have m7 : Mod No w6 (w6.alloc (.cells ⟨[.int .u8 120]⟩ 5 (1, 2))) := (Mod.refl No w6).alloc _
  have r7 : Row (w6.alloc (.cells ⟨[.int .u8 120]⟩ 5 (1, 2))) (some ⟨w6.heap.size, 0, none⟩) (u8L [120]) := .inr ⟨_, _, rfl, _, _, _, heap_new w6 _, by simp [u8L], by simp [u8L, u8]⟩
  refine Fill_c (xs := [120]) rfl r7 (by omega) fun w8 q8 hq8 m8 at8 => ⟨_, _, _, rfl, ?_⟩
  have x8 := (x6.nos m7).nos m8
  have hz7 : w6.heap.size ≤ q8 := Nat.le_trans m7.size hq8
  refine cLay_c (n := 1) x8 (length_fillB _) (.inr ⟨_, _, rfl, at8.at⟩) (fun _ q hq hR => by
    cases hq
    have := (x6.wf.2.2.2 _ hR).2
    simp only at this
    omega) fun w9 m9 x9 => ⟨_, rfl, ?_⟩
  rw [k5e]
  have x9 : Cx w _ w9 c d k5 := x9
  refine cDirty_c x9 fun w10 a10 c10 m10 o10 => ⟨_, _, _, rfl, ?_⟩
  rw [k5d] at o10 ⊢
  have x10 := x9.nos m10
  have hlo9 := x9.wf.2.2.2
  refine cWrite_c (n := 1) (ys := []) x10 (sm _ (by decide +kernel)) rfl (.inl rfl) (fun h => absurd rfl h) fun w11 m11 x11 => ⟨_, rfl, ?_⟩
  rw [k6e]
  have x11 : Cx w _ w11 c d k6 := x11
  have o11 := o10.keep m11 fun q hq hR => by
    have := (o10.base hq).1
    have := (hlo9 _ hR).2
    omega
  refine cDiskRead_c (n := 1) x11 fun w12 a12 c12 m12 x12 f12 => ⟨_, _, _, _, rfl, ?_⟩
  rw [k6r, k6f] at *
  refine Share.dup ?_
  have o12 := o11.nos m12
  refine cHeld_c x12 fun w13 a13 c13 m13 o13 => ⟨_, _, _, rfl, ?_⟩
  rw [k6h, k6l] at *
  have m14 : Mod No w13 (w13.alloc (.cells ⟨[.int .i64 3, .int .i64 1]⟩ 3)) := (Mod.refl No w13).alloc _
  refine ⟨_, _, _, _, built31 _, Ints_c (xs := [3, 1]) rfl (o13.rowU.row.nos m14) (.inr ⟨_, _, rfl, AtU.new.at⟩) (by omega) fun w15 m15 => ⟨_, rfl, tt rfl (tt rfl ?_)⟩⟩
  have m16 : Mod No w15 (w15.alloc (.cells ⟨[.int .i64 1]⟩ 3)) := (Mod.refl No w15).alloc _
  have M16 := ((m13.no m14).no m15).no m16
  refine ⟨_, _, _, _, builtI _ _, Ints_c (xs := [1]) rfl ((o12.nos M16).rowU.row) (.inr ⟨_, _, rfl, AtU.new.at⟩) (by decide) fun w17 m17 => ⟨_, rfl, tt rfl (tt rfl ?_)⟩⟩
  have M17 := M16.no m17
  refine cDirty_c (x12.nos M17) fun w18 a18 c18 m18 o18 => ⟨_, _, _, rfl, ?_⟩
  rw [k6d] at *
  have M18 := M17.no m18
  rcases f12 with ⟨_, e⟩ | ⟨g, rfl, _, hat⟩
  · have := congrArg List.length e
    simp at this
  refine tt rfl ⟨_, index_slice (k := 1) (by kernel_rfl) (by omega) (by simp), ?_⟩
  have hl : Ru (Instr.loadAt 5 (.pointer (some (Addr.add ⟨g, 0, none⟩ ((0 : Int).toNat * 1))))) w18 (.int .u8 120) w18 := by
    have := (hat.keep M18 id).at.load (P := Try.prog) (T := 5) (i := 0) (v := .int .u8 120) (by kernel_rfl) (by rw [u8L_get (by simp)]; rfl)
    rw [add_none]
    exact this
  exact ⟨_, hl, tt rfl ⟨_, rfl, hk w18 ((x12.nos M18).wf.2.2.1)⟩⟩

theorem cmay_nil {n : Int} {a2 a3 : Option Addr} {l2 c2 l3 c3 : Nat} (h : K (.int .i64 2) w) : Cal Try.prog F_cache_Cache_may #[.pointer none, .int .i64 n, .slice a2 l2 c2, .slice a3 l3 c3] w K := by
  apply C_cache_Cache_may; exact tt rfl h
theorem held_nil {n : Int} (h : K (.tuple #[.pointer none, .int .i64 2]) w) : Cal Try.prog F_cache_Cache_held #[.pointer none, .int .i64 n] w K := by
  apply C_cache_Cache_held; exact tt rfl h
theorem cHeld_nil (h : K (.slice none 0 0) w) : Cal Try.prog F_cache_Cache_Held #[.pointer none] w K := by
  apply C_cache_Cache_Held; exact tt rfl h
theorem cDirty_nil (h : ∀ w', Mod No w w' → K (.slice none 0 0) w') : Cal Try.prog F_cache_Cache_Dirty #[.pointer none] w K := by
  apply C_cache_Cache_Dirty
  unfold D_cache_Cache_Dirty
  have m1 : Mod No w (w.alloc (.cells ⟨[.pointer none]⟩ 28)) := (Mod.refl No w).alloc _
  have hq : At (w.alloc (.cells ⟨[.pointer none]⟩ 28)) w.heap.size 0 [.pointer none] := AtU.new.at
  refine ⟨_, _, box_cache _ _, _, hq.load (i := 0) (by kernel_rfl) rfl, cHeld_nil ⟨_, _, _, rfl, ?_⟩⟩
  refine DeleteFunc_c (base := (w.alloc (.cells ⟨[.pointer none]⟩ 28)).heap.size) (xs := []) (p := fun _ => false) (Own.nil elemZ_ints) (by omega) (fun w' _ x hx => by cases hx) fun w2 l2 o2 hl2 m2 => ⟨_, _, _, rfl, ?_⟩
  have hl0 : l2 = 0 := by simpa using hl2
  subst hl0
  refine Sort_c (zs := []) o2 (fun w3 o3 m3 => ⟨rfl, h w3 ((m1.trans m2 fun x hx e => ?_).trans m3 fun x hx e => ?_)⟩) (by simp)
  · obtain ⟨q, hq, _⟩ := e; cases hq
  · have := m1.size; omega
theorem CacheNil_c {n : Int} {a : Option Addr} {l cc : Nat} (w : World) : Cal Try.prog F_leveelaw10_CacheNil #[.int .i64 n, .slice a l cc] w (fun v w' => v = .bool true ∧ Mod No w w') := by
  apply C_leveelaw10_CacheNil
  unfold D_leveelaw10_CacheNil
  have hnew : ∀ {w : World} {K : Value → World → Prop}, K (.tuple #[.pointer none, .int .i64 2]) w → Cal Try.prog F_cache_New #[.pointer none, .int .i64 2] w K := fun h => by
    apply C_cache_New; exact tt rfl h
  refine hnew ⟨_, _, rfl, ?_⟩
  refine C_cache_Cache_Read _ _ _ _ (cmay_nil ⟨_, rfl, tt rfl ⟨_, _, _, _, rfl, Share.dup (tt rfl (tt rfl (tt rfl ?_)))⟩⟩)
  have m1 : Mod No w (w.alloc (.cells ⟨[.int .i64 256]⟩ 3)) := (Mod.refl No w).alloc _
  refine C_cache_Cache_Lay _ _ _ _ _ _ _ ⟨_, _, _, _, builtI _ _, cmay_nil ⟨_, rfl, tt rfl ⟨_, rfl, tt rfl ?_⟩⟩⟩
  generalize w.alloc (.cells ⟨[.int .i64 256]⟩ 3) = w1 at *
  have m2 : Mod No w1 (w1.alloc (.cells ⟨[.int .i64 0, .int .i64 256]⟩ 3)) := (Mod.refl No w1).alloc _
  refine C_cache_Cache_Write _ _ _ _ _ _ _ ⟨_, _, _, _, built02 _, cmay_nil ⟨_, rfl, tt rfl ⟨_, rfl, tt rfl ?_⟩⟩⟩
  generalize w1.alloc (.cells ⟨[.int .i64 0, .int .i64 256]⟩ 3) = w2 at *
  refine C_cache_Cache_Pin _ _ _ _ (held_nil ⟨_, _, rfl, Share.dup (ff rfl ⟨_, rfl, tt rfl ?_⟩)⟩)
  refine C_cache_Cache_Unpin _ _ _ _ (held_nil ⟨_, _, rfl, tt rfl ⟨_, rfl, tt rfl ?_⟩⟩)
  refine C_cache_Cache_Drop _ _ _ _ (held_nil ⟨_, _, rfl, tt rfl ⟨_, rfl, tt rfl ?_⟩⟩)
  refine C_cache_Cache_Flush _ _ _ (tt rfl ⟨_, rfl, tt rfl ?_⟩)
  refine cDirty_nil fun w3 m3 => ⟨_, _, _, rfl, tt rfl (cHeld_nil ⟨_, _, _, rfl, tt rfl ?_⟩)⟩
  exact known10_c fun w4 m4 => ⟨_, rfl, _, rfl, rfl, ((m1.no m2).no m3).no m4⟩
end
end Go.Proofs.Ytgcecmfjpljpcaa
