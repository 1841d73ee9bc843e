/- Layer 2, the program's disk: what is open, what is read. -/
import Derived.Test.YtocjjigmpgekfaaDiskA
import Derived.Test.YtocjjigmpgekfaaRangeM
import Derived.Test.YtocjjigmpgekfaaRef1
open Go Go.Den Go.Proofs
namespace Go.Den
theorem look_mem : ∀ {L : List (Int × Value)} {k : Int} {v : Value}, lookupL L k = some v → (k, v) ∈ L
  | p :: r, k, v, h => by
    simp only [lookupL] at h
    by_cases hp : p.1 = k
    · rw [if_pos hp] at h
      have := Option.some.inj h
      subst hp; subst this; simp
    · rw [if_neg hp] at h
      exact List.mem_cons_of_mem _ (look_mem h)
theorem look_notin : ∀ {L : List (Int × Value)} {k : Int}, lookupL L k = none → ∀ p ∈ L, p.1 ≠ k
  | p :: r, k, h, q, hq => by
    simp only [lookupL] at h
    by_cases hp : p.1 = k
    · rw [if_pos hp] at h; cases h
    · rw [if_neg hp] at h
      rcases List.mem_cons.1 hq with rfl | hq
      · exact hp
      · exact look_notin h q hq
def isOpen (D : St) (i : Nat) : Bool := !((D.vs[i]?.getD []).tail.isEmpty)
def openN (D : St) : List Nat := (List.range D.vs.length).filter (isOpen D)
def openS (D : St) : List Int := (openN D).map fun i : Nat => (i : Int)
theorem openS_sorted (D : St) : List.Pairwise (fun a b : Int => a ≤ b) (openS D) := by
  unfold openS
  rw [List.pairwise_map]
  refine List.Pairwise.imp ?_ ((List.pairwise_lt_range (n := D.vs.length)).filter (isOpen D))
  intro a b h; omega
theorem openS_nodup (D : St) : (openS D).Nodup := by
  unfold openS
  rw [List.Nodup, List.pairwise_map]
  refine List.Pairwise.imp ?_ ((List.pairwise_lt_range (n := D.vs.length)).filter (isOpen D))
  intro a b h; omega
theorem keys_open {w : World} {R : Nat → Prop} {b sb mb sc : Nat} {L : List (Int × Value)} {D : St} (h : DiskIn w R b sb mb sc L D) (k : Int) : k ∈ L.map (·.1) ↔ k ∈ openS D := by
  constructor
  · intro hk
    obtain ⟨p, hp, rfl⟩ := List.mem_map.1 hk
    obtain ⟨i, hi, hlt⟩ := h.keys p hp
    have hv : D.vs[i]? = some (D.vs[i]) := by simp [hlt]
    rcases h.opn i _ hv with ⟨_, hl⟩ | ⟨ht, _⟩
    · exact absurd hi (look_notin hl p hp)
    · unfold openS openN
      refine List.mem_map.2 ⟨i, List.mem_filter.2 ⟨List.mem_range.2 hlt, ?_⟩, hi.symm⟩
      unfold isOpen; rw [hv]
      simpa [List.isEmpty_iff] using ht
  · intro hk
    unfold openS openN at hk
    obtain ⟨i, hi, rfl⟩ := List.mem_map.1 hk
    obtain ⟨hr, ho⟩ := List.mem_filter.1 hi
    have hlt := List.mem_range.1 hr
    have hv : D.vs[i]? = some (D.vs[i]) := by simp [hlt]
    unfold isOpen at ho; rw [hv] at ho
    rcases h.opn i _ hv with ⟨ht, _⟩ | ⟨_, vb, c, hl, _⟩
    · simp [ht] at ho
    · exact List.mem_map.2 ⟨_, look_mem hl, rfl⟩
end Go.Den

namespace Go.Proofs.Ytocjjigmpgekfaa
section
variable {w : World} {R : Nat → Prop} {b sb mb sc : Nat} {L : List (Int × Value)} {D : St} {K : Value → World → Prop}
theorem sorted_open {zs : List Int} (hn : zs.Nodup) (hm : ∀ k, k ∈ zs ↔ k ∈ openS D) : sorted zs = openS D := by
  have hp : zs.Perm (openS D) := (List.perm_ext_iff_of_nodup hn (openS_nodup D)).2 hm
  refine List.Perm.eq_of_pairwise (le := fun a b : Int => a ≤ b) (fun a b _ _ h1 h2 => by omega) ?_ (openS_sorted D) ((List.mergeSort_perm _ _).trans hp)
  have := List.pairwise_mergeSort (le := fun x y : Int => decide (x ≤ y)) (fun a b c h1 h2 => by simp only [decide_eq_true_eq] at *; omega) (fun a b => by simp only [Bool.or_eq_true, decide_eq_true_eq]; omega) zs
  refine List.Pairwise.imp ?_ this
  intro a b h; exact of_decide_eq_true h

theorem Open_c (h : DiskIn w R b sb mb sc L D) (hk : ∀ w' a l c, Mod No w w' → Own Try.prog w' w.heap.size 23 1 a l c (iL (openS D)) → K (.slice a l c) w') : Cal Try.prog F_disk_Disk_Open #[.pointer (some ⟨b, 0, none⟩)] w K := by
  apply C_disk_Disk_Open
  unfold D_disk_Disk_Open
  obtain ⟨Es, clock, g1, g2, g3, g4, g5⟩ := h.map
  have hu : Try.prog.underlying 51 = some (.map 3 50) := by kernel_rfl
  refine ff rfl ⟨_, rfl, some mb, h.lm, _, _, range_run hu g1, ?_⟩
  have m1 : Mod No w (w.alloc (.mapIter (some mb) clock #[] clock)) := (Mod.refl No w).alloc _
  have hmb := lt_of_heap g1
  have hlenE : Es.length ≤ 4096 := by
    have hsub : (L.map (·.1)).length ≤ (openS D).length := List.Nodup.length_le_of_subset h.map.nodup fun k hk => (keys_open h k).1 hk
    have h1 : (openS D).length ≤ D.vs.length := by
      unfold openS openN; rw [List.length_map]
      exact Nat.le_trans (List.length_filter_le _ _) (by simp)
    have := h.wf.hi
    rw [← g2] at hsub; simp at hsub; omega
  refine ⟨fun x w2 => ∃ vis a l c, x = [.slice a l c] ∧ Own Try.prog w2 (w.heap.size + 1) 23 1 a l c (iL (vis.map (·.1))) ∧ Ranged w2 w.heap.size mb Es clock vis ∧ Mod No w w2 ∧ w.heap.size + 1 ≤ w2.heap.size,
    fun _ w2 => togo mb w.heap.size w2, ⟨[], none, 0, 0, rfl, Own.nil elemZ_ints, ⟨m1.keep g1 id, heap_new w _, by simp, by simp, g4, g5⟩, m1, by simp⟩, ?_⟩
  rintro x w2 ⟨vis, a, l, c, rfl, how, hR, hm, hsz⟩
  have hvl : vis.length ≤ Es.length := by
    have := List.Nodup.length_le_of_subset (nodup_of_map hR.nodup) (fun e he => hR.sub e he); exact this
  have hl : l = vis.length := by have := how.len; simpa using this.symm
  rcases hR.next (P := Try.prog) (ty := 0) with ⟨hp, hrun⟩ | ⟨e, he, w3, hrun, hent, hR3, hnin, hm3, hlt⟩
  · refine ⟨_, _, hrun, false, fun _ => rfl, ff rfl ⟨_, _, _, rfl, Sort_c how (fun w4 o4 m4 => ⟨rfl, ?_⟩) (by rw [List.length_map]; omega)⟩⟩
    have hs : sorted (vis.map (·.1)) = openS D := by
      refine sorted_open ?_ fun k => ?_
      · exact (hp.map (·.1)).nodup_iff.2 g3
      · rw [(hp.map (·.1)).mem_iff, ← keys_open h k, ← g2, List.map_map]; rfl
    rw [hs] at o4
    exact hk w4 a l c (hm.up m4 (by omega)) (o4.mono (by omega))
  · refine ⟨_, w3, hrun, true, fun _ => rfl, tt rfl ⟨_, hent, _, fun _ => rfl, _, _, _, rfl, _, _, _, _, builtI _ _, ?_⟩⟩
    have how3 := how.keep hm3 (fun q hq e => by have := (how.base hq).1; omega)
    obtain ⟨a4, c4, w4, h4, o4, m4⟩ := how3.snoc (ty := 23) (t := 3) (ys := [.int .i64 e.1]) elemZ_ints (by omega) rfl (by simp; rfl) (by omega) (by omega) (by have := hm3.size; omega)
    have hmb' : mb < w.heap.size + 1 := by omega
    have hR4 := hR3.keep m4 (by omega) (by omega)
    refine ⟨_, _, _, w4, h4, ⟨vis ++ [e], a4, _, c4, rfl, ?_, hR4, (hm.trans hm3 fun x hx e => by omega).trans m4 fun x hx e => by omega, by have := hm3.size; have := m4.size; omega⟩, ?_⟩
    · rw [List.map_append]; simpa [iL, I] using o4
    · have e1 : togo mb w.heap.size w4 = togo mb w.heap.size w3 := by rw [hR4.togo, hR3.togo]
      show togo mb w.heap.size w4 < togo mb w.heap.size w2
      rw [e1]; exact hlt

def verOf (D : St) (n : Int) : List Bk := if n < 0 then [] else D.vs[n.toNat]?.getD []
/-- New bytes that a call hands out. -/
def Fresh (w0 w : World) (a : Option Addr) (xs : List UInt8) : Prop := (a = none ∧ xs = []) ∨ ∃ q, a = some ⟨q, 0, none⟩ ∧ w0.heap.size ≤ q ∧ AtU w q 0 (u8L xs)
theorem Fresh.row {w0 w : World} {a : Option Addr} {xs : List UInt8} (h : Fresh w0 w a xs) : Row w a (u8L xs) := by
  rcases h with ⟨_, rfl⟩ | ⟨q, rfl, _, h⟩
  · exact .inl rfl
  · exact .inr ⟨q, 0, rfl, h.at⟩
theorem Fresh.nos {w0 w w' : World} {a : Option Addr} {xs : List UInt8} (h : Fresh w0 w a xs) (m : Mod No w w') : Fresh w0 w' a xs := by
  rcases h with h | ⟨q, rfl, hq, h⟩
  · exact .inl h
  · exact .inr ⟨q, rfl, hq, h.keep m id⟩
theorem err_cases (n : Int) : (errOf D n = 3 ∧ (n < 0 ∨ D.vs.length ≤ n)) ∨ (errOf D n = 0 ∧ ∃ i v, n = (i : Nat) ∧ D.vs[i]? = some v ∧ verOf D n = v) := by
  unfold errOf verOf
  by_cases h : n < 0 ∨ D.vs.length ≤ n
  · rw [if_pos h]; exact .inl ⟨rfl, h⟩
  · rw [if_neg h, if_neg (by omega)]
    refine .inr ⟨rfl, n.toNat, D.vs[n.toNat]'(by omega), by omega, by simp, ?_⟩
    have : n.toNat < D.vs.length := by omega
    simp [this]
def rdB (D : St) (n : Int) : List UInt8 := if errOf D n = 0 then lastV (verOf D n) else []
def sfB (D : St) (n : Int) : List UInt8 := if errOf D n = 0 then hd (verOf D n) else []
def Small (D : St) : Prop := ∀ v ∈ D.vs, v.length ≤ 1000000

theorem Read_c (h : DiskIn w R b sb mb sc L D) (hs : Small D) {n : Int} (hk : ∀ w' a c, Mod No w w' → Fresh w w' a (rdB D n) → K (.tuple #[.slice a (rdB D n).length c, .int .i64 (errOf D n)]) w') : Cal Try.prog F_disk_Disk_Read #[.pointer (some ⟨b, 0, none⟩), .int .i64 n] w K := by
  apply C_disk_Disk_Read
  unfold D_disk_Disk_Read
  refine may_c h ⟨_, rfl, ?_⟩
  rcases err_cases (D := D) n with ⟨he, _⟩ | ⟨he, i, v, rfl, hv, hver⟩
  · have hb : rdB D n = [] := by unfold rdB; rw [if_neg (by omega)]
    refine tt (by rw [he]; rfl) ?_
    have := hk w none 0 (Mod.refl _ _) (.inl ⟨rfl, hb⟩)
    rw [hb] at this; exact this
  · have hb : rdB D i = lastV v := by unfold rdB; rw [if_pos he, hver]
    have hll := h.wf.lastLen hv
    refine ff (by rw [he]; rfl) (last_c h hv (hs v (List.mem_of_getElem? hv)) fun w2 m2 => ⟨_, rfl, _, _, alloc_block w2, _, store_new agg_block (by rw [length_u8L, List.length_replicate]) (by simp [hll]) (one_u8L _), _, _, _, slice_block _, ?_⟩)
    have := hk (w2.alloc (.cells ⟨u8L (lastV v)⟩ 80)) (some ⟨w2.heap.size, 0, none⟩) 256 (m2.alloc _) (.inr ⟨w2.heap.size, rfl, m2.size, by rw [hb]; exact AtU.new⟩)
    rw [hb, hll, he] at this; exact this

theorem Len_c (h : DiskIn w R b sb mb sc L D) (hk : K (.int .i64 D.vs.length) w) : Cal Try.prog F_disk_Disk_Len #[.pointer (some ⟨b, 0, none⟩)] w K := by
  apply C_disk_Disk_Len
  unfold D_disk_Disk_Len
  exact ff rfl ⟨_, rfl, _, _, _, h.ls, hk⟩
theorem verOf_none {n : Int} (h : n < 0 ∨ D.vs.length ≤ n) : verOf D n = [] := by
  unfold verOf
  split
  · rfl
  · rw [List.getElem?_eq_none (by omega)]; rfl
end
end Go.Proofs.Ytocjjigmpgekfaa
