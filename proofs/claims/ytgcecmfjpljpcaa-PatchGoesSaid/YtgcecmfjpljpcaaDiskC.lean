/- Layer 2, the program's disk: new disks, blocks filled, writes. -/
import Derived.Test.YtgcecmfjpljpcaaDiskB
import Derived.Great.BuildSlice
open Go Go.Den Go.Proofs
namespace Go.Den
section
variable {P : Program} {w : World}
theorem slice_3 {T : TypeId} {k n c : Nat} {a : Option Addr} (hT : elemN P T = some k) (h2 : n ≤ c) (w : World) :
    (Instr.sliceAt T (.slice a n c) none (some (.int .i64 n)) (some (.int .i64 n))).run P w = .ok (.slice (cutA a n 0 k) n n) w := by
  obtain ⟨e, inf, he, hi, hk⟩ := elem_is hT
  have hb1 := fun code => bound_ok (P := P) (kk := .i64) (i := n) (y := c) (code := code) (by omega) (by omega) w
  have hb2 := fun code => bound_ok (P := P) (kk := .i64) (i := n) (y := n) (code := code) (by omega) (by omega) w
  simp only [Instr.sliceAt, Sem.run_bind, run_und he, Result.andThen_ok, Instr.slice, Instr.sliceBounds, Sem.run_pure, if_true, hb1, hb2, Int.toNat_natCast, run_sizeOf hi, hk]
  unfold cutA
  split <;> rfl
theorem look_put : ∀ (L : List (Int × Value)) (k : Int) (v : Value) (k' : Int), lookupL (putL k v L) k' = if k = k' then some v else lookupL L k'
  | [], k, v, k' => by simp [putL, lookupL]
  | p :: r, k, v, k' => by
    simp only [putL]
    by_cases hp : p.1 = k
    · rw [if_pos hp]
      simp only [lookupL]
      by_cases hk : k = k'
      · rw [if_pos hk, if_pos hk]
      · rw [if_neg hk, if_neg hk, if_neg (by omega)]
    · rw [if_neg hp]
      simp only [lookupL]
      by_cases hp' : p.1 = k'
      · rw [if_pos hp', if_neg (by omega), if_pos hp']
      · rw [if_neg hp', if_neg hp', look_put r k v k']
theorem put_keys {L : List (Int × Value)} {k : Int} {v : Value} : ∀ p ∈ putL k v L, p.1 = k ∨ p ∈ L := by
  induction L with
  | nil => intro p hp; simp [putL] at hp; exact .inl (by rw [hp])
  | cons q r ih =>
    intro p hp
    simp only [putL] at hp
    by_cases hq : q.1 = k
    · rw [if_pos hq] at hp
      rcases List.mem_cons.1 hp with rfl | hp
      · exact .inl rfl
      · exact .inr (List.mem_cons_of_mem _ hp)
    · rw [if_neg hq] at hp
      rcases List.mem_cons.1 hp with rfl | hp
      · exact .inr (by simp)
      · rcases ih p hp with h | h
        · exact .inl h
        · exact .inr (List.mem_cons_of_mem _ h)
end
def zeroB : Bk := List.replicate 256 0
def newSt (n : Nat) : St := ⟨List.replicate n [zeroB], -1⟩
theorem WF.new {n : Nat} (h0 : 1 ≤ n) (h1 : n ≤ 4096) : WF (newSt n) where
  ver := by
    intro v hv
    have := List.eq_of_mem_replicate hv
    subst this
    exact ⟨by simp, by intro x hx; simp at hx; subst hx; exact List.length_replicate⟩
  lo := by simp [newSt]; exact h0
  hi := by simp [newSt]; exact h1
  l0 := by simp [newSt]
  l1 := by simp [newSt]
theorem flat_rep : ∀ n : Nat, (List.replicate n zeroB).flatten = List.replicate (n * 256) 0
  | 0 => by simp
  | n + 1 => by
    rw [List.replicate_succ, List.flatten_cons, flat_rep n, zeroB, List.replicate_append_replicate]
    congr 1; omega
/-- A region grown by new blocks. -/
def Gro (R : Nat → Prop) (w w' : World) : Nat → Prop := fun x => R x ∨ (w.heap.size ≤ x ∧ x < w'.heap.size)
def dec (l : Int) : Int := if -1 > l - 1 then -1 else l - 1
end Go.Den

namespace Go.Proofs.Ytgcecmfjpljpcaa
section
variable {w : World} {R : Nat → Prop} {b sb mb sc : Nat} {L : List (Int × Value)} {D : St} {K : Value → World → Prop}

theorem build_disk (w : World) (a : Option Addr) (l c : Nat) (m : Option Nat) : (Instr.build 85 #[(0, .slice a l c), (1, .map m), (2, .int .i64 (-1))]).run Try.prog w = .ok (.agg ⟨[.slice a l c, .map m, .int .i64 (-1)]⟩) w := by kernel_rfl
theorem New_c {n : Int} (h0 : -9223372036854775808 ≤ n) (h1 : n ≤ 9223372036854775807) (hbad : n < 1 ∨ 4096 < n → K (.tuple #[.pointer none, .int .i64 1]) w)
    (hok : ∀ k : Nat, n = k → 1 ≤ k → k ≤ 4096 → ∀ w' b sb mb, Mod No w w' → DiskIn w' (fun x => w.heap.size ≤ x ∧ x < w'.heap.size) b sb mb k [] (newSt k) → K (.tuple #[.pointer (some ⟨b, 0, none⟩), .int .i64 0]) w') :
    Cal Try.prog F_disk_New #[.int .i64 n] w K := by
  apply C_disk_New
  unfold D_disk_New
  refine Share.or ⟨_, rfl, cond_of (fun hb => ?_) (fun hb => ?_)⟩
  · exact hbad (by simpa using hb)
  have hn : ¬ (n < 1 ∨ 4096 < n) := by simpa using hb
  obtain ⟨k, rfl⟩ := Int.eq_ofNat_of_zero_le (show 0 ≤ n by omega)
  obtain ⟨w1, hm1, hat1, hmod1, hsz1⟩ := makeSlice_run (P := Try.prog) (w := w) (n := k) elemZ_blocks (by omega) (by omega) (by omega)
  refine ⟨_, _, _, w1, hm1, _, _, makeMap_run, _, fun w => build_disk w _ _ _ _, _, _, box_run, ?_⟩
  have m2 : Mod No w1 (w1.alloc (.map #[] 0)) := (Mod.refl No w1).alloc _
  have m3 : Mod No (w1.alloc (.map #[] 0)) ((w1.alloc (.map #[] 0)).alloc (.cells ⟨[.slice (some ⟨w.heap.size, 0, none⟩) k k, .map (some w1.heap.size), .int .i64 (-1)]⟩ 85)) := (Mod.refl No _).alloc _
  have hz : List.replicate (k * 256) (Value.int .u8 0) = u8L ((newSt k).vs.map hd).flatten := by
    have : (newSt k).vs.map hd = List.replicate k zeroB := by simp [newSt, hd]
    rw [this, flat_rep]; simp [u8L, u8]
  rw [hz] at hat1
  refine hok k rfl (by omega) (by omega) _ _ w.heap.size w1.heap.size ((hmod1.no m2).no m3) ?_
  have hs2 : (w1.alloc (.map #[] 0)).heap.size = w.heap.size + 2 := by simp [hsz1]
  have hs3 : ((w1.alloc (.map #[] 0)).alloc (.cells (Value.agg ⟨[.slice (some ⟨w.heap.size, 0, none⟩) k k, .map (some w1.heap.size), .int .i64 (-1)]⟩).cells 85)).heap.size = w.heap.size + 3 := by simp [hsz1]
  exact { cell := by
            have : (newSt k).vs.length = k := by simp [newSt]
            rw [this]; exact AtU.new
          cap := by simp [newSt]
          safe := (hat1.keep m2 id).keep m3 id
          map := MapAt.new.keep m3 id
          rb := by rw [hs3]; omega
          rs := by rw [hs3]; omega
          rm := by rw [hs3]; omega
          ne := by omega
          opn := fun i v hv => .inl ⟨by
            have := List.eq_of_mem_replicate (List.mem_of_getElem? hv)
            subst this; rfl, rfl⟩
          keys := by simp
          wf := WF.new (by omega) (by omega)
          lt := fun x hx => hx.2 }

def fillB (xs : List UInt8) : Bk := (List.range 256).map fun i => xs.getD (i % xs.length) 0
@[simp] theorem length_fillB (xs : List UInt8) : (fillB xs).length = 256 := by simp [fillB]
theorem rem_run {P : Program} {T : TypeId} {x y : Operand} {a b : Int} (hb : b ≠ 0) (w : World) : (eqS .rem T x y (.int .i64 a) (.int .i64 b)).run P w = .ok (.int .i64 (a.tmod b)) w := by
  rw [eqS_run (fun w => guard_int _ _ _ _ _ _ _ _ w)]
  simp [binOp, Op.intDiv, hb]
set_option maxRecDepth 100000 in
theorem Fill_c {a : Option Addr} {l c : Nat} {xs : List UInt8} (hl : xs.length = l) (hr : Row w a (u8L xs)) (h63 : l ≤ 9223372036854775807)
    (hk : ∀ w' q, w.heap.size ≤ q → Mod No w w' → AtU w' q 0 (u8L (fillB xs)) → K (.slice (some ⟨q, 0, none⟩) 256 256) w') : Cal Try.prog F_leveeref01_Fill #[.slice a l c] w K := by
  apply C_leveeref01_Fill
  unfold D_leveeref01_Fill
  obtain ⟨w1, hm1, hat1, hmod1, hsz1⟩ := makeSlice_run (P := Try.prog) (w := w) (n := 256) elemZ_bytes (by omega) (by omega) (by omega)
  refine ⟨_, _, _, w1, hm1, ?_⟩
  have hz : List.replicate (256 * 1) (Value.int .u8 0) = u8L (List.replicate 256 0) := by unfold u8L; rw [List.map_replicate]; rfl
  have hat0 : AtU w1 w.heap.size 0 (u8L ((fillB xs).take 0 ++ List.replicate (256 - 0) 0)) := by
    rw [List.take_zero, List.nil_append, Nat.sub_zero, ← hz]; exact hat1
  refine ⟨fun x w2 => ∃ (i : Nat) (y : Value), i ≤ 256 ∧ (xs = [] → i = 0) ∧ x = [.int .i64 i, y] ∧ AtU w2 w.heap.size 0 (u8L ((fillB xs).take i ++ List.replicate (256 - i) 0)) ∧ Mod No w w2, fun x _ => (256 - nI x 0).toNat,
    ⟨0, _, by omega, fun _ => rfl, rfl, hat0, hmod1⟩, ?_⟩
  rintro x w2 ⟨i, y, hi, hxs, rfl, hat, hmod⟩
  refine Share.cut (fun z w' => z = [.bool (decide (i < 256 ∧ 0 < l))] ∧ w' = w2) ⟨_, rfl, cond_of (fun hb => ?_) (fun hb => ?_)⟩ ?_
  · have hb := of_decide_eq_true hb
    refine ⟨?_, rfl⟩
    congr 2; rw [Bool.eq_iff_iff]; simp only [decide_eq_true_eq]; omega
  · have hb := of_decide_eq_false hb
    refine ⟨?_, rfl⟩
    congr 2; rw [Bool.eq_iff_iff]; simp only [decide_eq_true_eq]; simp; omega
  rintro z w' ⟨rfl, rfl⟩
  refine ⟨_, rfl, cond_of (fun hb => ?_) (fun hb => ?_)⟩
  · have hi := of_decide_eq_true hb
    have hmodlt : i % l < l := Nat.mod_lt _ hi.2
    refine ⟨_, rfl, _, rem_run (by omega), ?_⟩
    have e1 : Int.tmod (i : Int) (l : Int) = ((i % l : Nat) : Int) := by
      rw [Int.tmod_eq_emod_of_nonneg (by omega)]; exact (Int.natCast_emod _ _).symm
    rw [e1]
    have hne : ¬ u8L xs = [] := fun e => by have := congrArg List.length e; simp at this; rw [this] at hl; simp at hl; omega
    obtain ⟨b2, o2, rfl, hat2⟩ := (hr.nos hmod).resolve_left hne
    refine ⟨_, index_slice (k := 1) (by kernel_rfl) (by omega) (by omega), ?_⟩
    rw [add_none, Int.toNat_natCast, Nat.mul_one]
    have hix : i % l < xs.length := by omega
    refine ⟨_, hat2.load (by kernel_rfl) (u8L_get hix), _, index_slice (k := 1) (by kernel_rfl) (by omega) (by omega), ?_⟩
    rw [add_none, Int.toNat_natCast, Nat.mul_one]
    obtain ⟨w3, s1, s2, s3, s4⟩ := hat.store (P := Try.prog) (T := 5) (i := i) (v := .int .u8 ((xs[i % l].toNat : Nat) : Int)) (by kernel_rfl) (by simp; omega) rfl
    refine ⟨w3, s1, ?_⟩
    rw [wrap64 (x := (i : Int) + 1) (by omega) (by omega)]
    refine ⟨⟨i + 1, _, by omega, fun e => by subst e; simp at hl; omega, rfl, ?_, hmod.trans s3 fun x hx e => by omega⟩, by simp [nI, nth]; omega⟩
    have e2 : (fillB xs).take (i + 1) = (fillB xs).take i ++ [xs[i % l]] := by
      rw [List.take_succ_eq_append_getElem (by simp; omega)]
      congr 2
      simp [fillB, hl]
      rw [List.getElem?_eq_getElem hix]; rfl
    rw [e2]
    have e3 : (u8L ((fillB xs).take i ++ List.replicate (256 - i) 0)).set i (.int .u8 ((xs[i % l].toNat : Nat) : Int)) = u8L ((fillB xs).take i ++ [xs[i % l]] ++ List.replicate (256 - (i + 1)) 0) := by
      rw [show 256 - i = (256 - (i + 1)) + 1 by omega, List.replicate_succ]
      unfold u8L
      rw [List.map_append, List.map_append, List.map_append, List.map_cons, List.append_assoc, List.set_append_right _ _ (by simp; omega)]
      have : i - (((fillB xs).take i).map u8).length = 0 := by simp; omega
      rw [this]; simp [u8]
    rwa [e3] at s2
  · have hb := of_decide_eq_false hb
    refine hk w' w.heap.size (Nat.le_refl _) hmod ?_
    by_cases hl0 : l = 0
    · have hx : xs = [] := List.eq_nil_of_length_eq_zero (by omega)
      have := hxs hx
      subst this
      have e : fillB xs = List.replicate 256 0 := by
        subst hx; unfold fillB
        rw [List.eq_replicate_iff]
        refine ⟨by rw [List.length_map, List.length_range], fun x hx => ?_⟩
        obtain ⟨i, _, rfl⟩ := List.mem_map.1 hx
        rfl
      rw [e]; simpa using hat
    · have : i = 256 := by omega
      subst this
      have e : (fillB xs).take 256 = fillB xs := List.take_of_length_le (by simp)
      rw [e] at hat; simpa using hat
end
end Go.Proofs.Ytgcecmfjpljpcaa
