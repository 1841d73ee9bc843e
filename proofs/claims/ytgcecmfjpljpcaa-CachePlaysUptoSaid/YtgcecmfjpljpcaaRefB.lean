/- Layer 2, the document's disk: its open blocks, its bytes; both disks' bytes; stops. -/
import Derived.Test.YtgcecmfjpljpcaaRefA
open Go Go.Den Go.Proofs
namespace Go.Proofs.Ytgcecmfjpljpcaa
section
variable {w : World} {R : Nat → Prop} {b vb vc : Nat} {hs : List (Nat × Nat)} {D : St} {K : Value → World → Prop}
theorem openN_take (D : St) (i : Nat) (hi : i < D.vs.length) : ((List.range (i + 1)).filter (isOpen D)) = (List.range i).filter (isOpen D) ++ (if isOpen D i then [i] else []) := by
  rw [List.range_succ, List.filter_append]
  congr 1
  simp only [List.filter_cons, List.filter_nil]
theorem isOpen_iff {i : Nat} {v : List Bk} (hv : D.vs[i]? = some v) : isOpen D i = decide (0 < v.tail.length) := by
  unfold isOpen; rw [hv]; simp only [Option.getD_some]
  cases v.tail <;> simp
theorem verOf_get {i : Nat} {v : List Bk} (hv : D.vs[i]? = some v) : verOf D i = v := by
  unfold verOf; rw [if_neg (by omega), Int.toNat_natCast, hv]; rfl

theorem refOpen_c (h : RefIn w R b vb vc hs D) (hsm : Small D) (hk : ∀ w' a l c, Mod No w w' → Own Try.prog w' w.heap.size 31 1 a l c (iL (openS D)) → K (.slice a l c) w') : Cal Try.prog F_leveeref02_Disk_Open #[.pointer (some ⟨b, 0, none⟩)] w K := by
  apply C_leveeref02_Disk_Open
  unfold D_leveeref02_Disk_Open
  have hhi := h.wf.hi
  refine ⟨fun x w2 => ∃ (i : Nat) (a : Option Addr) (l c : Nat), i ≤ D.vs.length ∧ l ≤ i ∧ x = [.slice a l c, .int .i64 i] ∧ Own Try.prog w2 w.heap.size 31 1 a l c (iL (((List.range i).filter (isOpen D)).map fun i : Nat => (i : Int))) ∧ Mod No w w2, fun x _ => (D.vs.length - nI x 1).toNat,
    ⟨0, none, 0, 0, by omega, by omega, rfl, Own.nil elemZ_ints, Mod.refl _ _⟩, ?_⟩
  rintro x w2 ⟨i, a, l, c, hi, hli, rfl, how, hm⟩
  have h2 := h.nos hm
  refine ⟨_, rfl, _, rfl, _, _, _, rv h2, cond_of (fun hb => ?_) (fun hb => ?_)⟩
  · have hi : i < D.vs.length := by have := of_decide_eq_true hb; omega
    have hv : D.vs[i]? = some D.vs[i] := by simp [hi]
    refine refWrites_c h2 hsm ⟨_, rfl, ?_⟩
    rw [verOf_get hv, wrap64 (x := (i : Int) + 1) (by omega) (by omega)]
    refine Share.cut (fun z w' => ∃ a' l' c', l' ≤ i + 1 ∧ z = [.slice a' l' c'] ∧ Own Try.prog w' w.heap.size 31 1 a' l' c' (iL (((List.range (i + 1)).filter (isOpen D)).map fun i : Nat => (i : Int))) ∧ Mod No w w') (cond_of (fun hb => ?_) (fun hb => ?_)) ?_
    · have ho : isOpen D i = true := by rw [isOpen_iff hv]; exact decide_eq_true (by have := of_decide_eq_true hb; omega)
      refine ⟨_, _, _, rfl, _, _, _, _, builtI _ _, ?_⟩
      obtain ⟨a3, c3, w3, h3, o3, m3⟩ := how.snoc (ty := 31) (t := 3) (ys := [.int .i64 i]) elemZ_ints (by omega) rfl (by simp; rfl) (by omega) (by omega) hm.size
      refine ⟨_, _, _, w3, h3, _, _, _, by omega, rfl, ?_, hm.up m3 (Nat.le_refl _)⟩
      rw [openN_take D i hi, ho]; simpa [iL, I] using o3
    · have ho : isOpen D i = false := by rw [isOpen_iff hv]; exact decide_eq_false (by have := of_decide_eq_false hb; omega)
      refine ⟨_, _, _, by omega, rfl, ?_, hm⟩
      rw [openN_take D i hi, ho]; simpa using how
    · rintro z w3 ⟨a', l', c', hl', rfl, o3, m3⟩
      exact ⟨⟨i + 1, a', l', c', by omega, by omega, rfl, o3, m3⟩, by simp [nI, nth]; omega⟩
  · have hi2 : i = D.vs.length := by have := of_decide_eq_false hb; omega
    subst hi2
    exact ⟨_, _, _, rfl, hk w2 a l c hm how⟩

def allB (D : St) : List UInt8 := (D.vs.map lastV).flatten
theorem WF.lasts {D : St} (h : WF D) : ∀ x ∈ D.vs.map lastV, x.length = 256 := by
  intro x hx
  obtain ⟨v, hv, rfl⟩ := List.mem_map.1 hx
  obtain ⟨i, hi, he⟩ := List.getElem_of_mem hv
  exact h.lastLen (i := i) (by rw [← he]; simp [hi])
theorem flat_take {xs : List Bk} {i : Nat} (hi : i < xs.length) : (xs.take (i + 1)).flatten = (xs.take i).flatten ++ xs[i] := by
  rw [List.take_succ_eq_append_getElem hi, List.flatten_append]; simp
theorem lasts_get {i : Nat} {v : List Bk} (hv : D.vs[i]? = some v) : (D.vs.map lastV)[i]? = some (lastV v) := by rw [List.getElem?_map, hv]; rfl

theorem refBytes_c (h : RefIn w R b vb vc hs D) (hsm : Small D) (hk : ∀ w' a l c, Mod No w w' → Own Try.prog w' w.heap.size 32 1 a l c (u8L (allB D)) → K (.slice a l c) w') : Cal Try.prog F_leveeref02_Disk_Bytes #[.pointer (some ⟨b, 0, none⟩)] w K := by
  apply C_leveeref02_Disk_Bytes
  unfold D_leveeref02_Disk_Bytes
  have hhi := h.wf.hi
  refine ⟨fun x w2 => ∃ (i : Nat) (a : Option Addr) (l c : Nat), i ≤ D.vs.length ∧ l = i * 256 ∧ x = [.slice a l c, .int .i64 i] ∧ Own Try.prog w2 w.heap.size 32 1 a l c (u8L ((D.vs.map lastV).take i).flatten) ∧ Mod No w w2, fun x _ => (D.vs.length - nI x 1).toNat,
    ⟨0, none, 0, 0, by omega, by omega, rfl, Own.nil elemZ_bytes, Mod.refl _ _⟩, ?_⟩
  rintro x w2 ⟨i, a, l, c, hi, hli, rfl, how, hm⟩
  have h2 := h.nos hm
  refine ⟨_, rfl, _, rfl, _, _, _, rv h2, cond_of (fun hb => ?_) (fun hb => ?_)⟩
  · have hi : i < D.vs.length := by have := of_decide_eq_true hb; omega
    have hv : D.vs[i]? = some D.vs[i] := by simp [hi]
    obtain ⟨q0, q1⟩ := rd_ok hv
    have hll := h.wf.lastLen hv
    refine refRead_c h2 hsm fun w3 a3 c3 m3 f3 => ⟨_, _, _, _, rfl, _, _, _, rfl, ?_⟩
    rw [q1] at f3 ⊢
    obtain ⟨a4, c4, w4, h4, o4, m4⟩ := (how.nos m3).append (ty := 32) elemZ_bytes (by omega) f3.row (m := (lastV D.vs[i]).length) (c2 := c3) (by simp)
      (fun e => by rcases f3 with ⟨_, e2⟩ | ⟨q, e2, _⟩
                   · rw [e2] at hll; simp at hll
                   · rw [e] at e2; cases e2) (one_u8L _) (by omega) (by omega) (by have := hm.size; have := m3.size; omega)
    rw [wrap64 (x := (i : Int) + 1) (by omega) (by omega)]
    refine ⟨_, _, _, w4, h4, ⟨i + 1, a4, _, c4, by omega, by omega, rfl, ?_, (hm.no m3).up m4 (Nat.le_refl _)⟩, by simp [nI, nth]; omega⟩
    rw [flat_take (by simpa using hi), u8L_append]
    simpa using o4
  · have hi2 : i = D.vs.length := by have := of_decide_eq_false hb; omega
    subst hi2
    have e : (D.vs.map lastV).take D.vs.length = D.vs.map lastV := List.take_of_length_le (by simp)
    rw [e] at how
    exact ⟨_, _, _, rfl, hk w2 a l c hm how⟩

theorem Bytes_c' {sb mb sc : Nat} {L : List (Int × Value)} (h : DiskIn w R b sb mb sc L D) (hsm : Small D) (hk : ∀ w' a l c, Mod No w w' → Own Try.prog w' w.heap.size 32 1 a l c (u8L (allB D)) → K (.slice a l c) w') : Cal Try.prog F_disk_Disk_Bytes #[.pointer (some ⟨b, 0, none⟩)] w K := by
  apply C_disk_Disk_Bytes
  unfold D_disk_Disk_Bytes
  have hhi := h.wf.hi
  refine Len_c h ⟨_, rfl, ?_⟩
  refine ⟨fun x w2 => ∃ (i : Nat) (a : Option Addr) (l c : Nat), i ≤ D.vs.length ∧ l = i * 256 ∧ x = [.slice a l c, .int .i64 i] ∧ Own Try.prog w2 w.heap.size 32 1 a l c (u8L ((D.vs.map lastV).take i).flatten) ∧ Mod No w w2, fun x _ => (D.vs.length - nI x 1).toNat,
    ⟨0, none, 0, 0, by omega, by omega, rfl, Own.nil elemZ_bytes, Mod.refl _ _⟩, ?_⟩
  rintro x w2 ⟨i, a, l, c, hi, hli, rfl, how, hm⟩
  have h2 := h.nos hm
  refine ⟨_, rfl, cond_of (fun hb => ?_) (fun hb => ?_)⟩
  · have hi : i < D.vs.length := by have := of_decide_eq_true hb; omega
    have hv : D.vs[i]? = some D.vs[i] := by simp [hi]
    have hll := h.wf.lastLen hv
    refine last_c h2 hv (hsm _ (List.mem_of_getElem? hv)) fun w3 m3 => ⟨_, rfl, _, _, alloc_block w3, _, store_new agg_block (by rw [length_u8L, List.length_replicate]) (by simp [hll]) (one_u8L _), _, _, _, rfl, _, _, _, slice_block _, ?_⟩
    have m3' : Mod No w2 (w3.alloc (.cells ⟨u8L (lastV D.vs[i])⟩ 101)) := m3.alloc _
    obtain ⟨a4, c4, w4, h4, o4, m4⟩ := (how.nos m3').append (ty := 32) elemZ_bytes (by omega) (a2 := some ⟨w3.heap.size, 0, none⟩) (ys := u8L (lastV D.vs[i])) (.inr ⟨_, _, rfl, AtU.new.at⟩) (m := 256) (c2 := 256) (by simp [hll])
      (fun e => by cases e) (one_u8L _) (by omega) (by omega) (by have := hm.size; have := m3'.size; omega)
    rw [wrap64 (x := (i : Int) + 1) (by omega) (by omega)]
    refine ⟨_, _, _, w4, h4, ⟨i + 1, a4, _, c4, by omega, by omega, rfl, ?_, (hm.no m3').up m4 (Nat.le_refl _)⟩, by simp [nI, nth]; omega⟩
    rw [flat_take (by simpa using hi), u8L_append]
    simpa using o4
  · have hi2 : i = D.vs.length := by have := of_decide_eq_false hb; omega
    subst hi2
    have e : (D.vs.map lastV).take D.vs.length = D.vs.map lastV := List.take_of_length_le (by simp)
    rw [e] at how
    exact ⟨_, _, _, rfl, hk w2 a l c hm how⟩
end
end Go.Proofs.Ytgcecmfjpljpcaa
