/- Parts of the proof, in order: what the statement leans on. -/
import Derived.Test.YtoajelhfiganaaaGreatBd
section
open Go Go.Den Go.Proofs
namespace Go.Proofs.YtoajelhfiganaaaGreat
section
variable {w w' w0 : World} {R R' : Nat → Prop} {sp d base lc : Nat} {la : Option Addr} {ms : List Mk} {V : Ps} {K : Value → World → Prop}
theorem elemG_ids : elemG Tryz.prog 128 1 8 := elemG_of (by kernel_rfl)
theorem elemG_ints : elemG Tryz.prog 103 1 8 := elemG_of (by kernel_rfl)
theorem Pz.keep {S : Nat → Prop} (h : Pz w0 R w sp d V) (k : Mod S w w') (hs : ∀ x, R x → ¬ S x) (hw : ∀ x, x < w0.heap.size → ¬ S x) : Pz w0 R w' sp d V := by
  obtain ⟨C, e1, e2, hw', rl, c, mo, mm, ca, oa, Lo, Lm, h⟩ := h
  exact ⟨C, e1, e2, hw', rl, c, mo, mm, ca, oa, Lo, Lm, h.keepS k hs hw⟩
def Ahd (w7 : World) (n : Nat) (x : List Value) (w16 : World) : Prop :=
  ∃ (js : List Nat) (a13 a14 : Option Addr) (c13 c14 : Nat) (y : Value), x = [.slice a13 js.length c13, .slice a14 js.length c14, .int .i64 js.length, y] ∧ js.length ≤ 4 ∧ (∀ j ∈ js, j < n) ∧
    Own Tryz.prog w16 w7.heap.size 128 1 a13 js.length c13 (iL (js.map fun j => ((j + 1 : Nat) : Int))) ∧ Own Tryz.prog w16 w7.heap.size 103 1 a14 js.length c14 (iL (nI' js)) ∧ (∀ q q', a13 = some q → a14 = some q' → q.block ≠ q'.block) ∧ Mod No w7 w16
theorem Ahd.next {w7 w16 : World} {n j : Nat} {js : List Nat} {a13 a14 : Option Addr} {c13 c14 : Nat} {y0 y1 : Value} (hl : js.length < 4) (hjs : ∀ j ∈ js, j < n) (hj : j < n)
    (o1 : Own Tryz.prog w16 w7.heap.size 128 1 a13 js.length c13 (iL (js.map fun j => ((j + 1 : Nat) : Int)))) (o2 : Own Tryz.prog w16 w7.heap.size 103 1 a14 js.length c14 (iL (nI' js))) (hne : ∀ q q', a13 = some q → a14 = some q' → q.block ≠ q'.block) (hm : Mod No w7 w16) :
    ∃ (a104 : Option Addr) (l104 c104 : Nat), ∃ w19 : World, Ru (Instr.buildSlice 128 1 #[(0, .int .i64 ((j + 1 : Nat) : Int))]) w16 (.slice a104 l104 c104) w19 ∧ ∃ (a105 : Option Addr) (l105 c105 : Nat), ∃ w20 : World, Ru (Builtin.append_ #[128, 128] 128 #[.slice a13 js.length c13, .slice a104 l104 c104]) w19 (.slice a105 l105 c105) w20 ∧
      ∃ (a14' : Option Addr) (l14' c14' : Nat), (.slice a14 js.length c14 : Value) = .slice a14' l14' c14' ∧ ∃ (a108 : Option Addr) (l108 c108 : Nat), ∃ w21 : World, Ru (Instr.buildSlice 103 1 #[(0, .int .i64 j)]) w20 (.slice a108 l108 c108) w21 ∧ ∃ (a109 : Option Addr) (l109 c109 : Nat), ∃ w22 : World, Ru (Builtin.append_ #[103, 103] 103 #[.slice a14' l14' c14', .slice a108 l108 c108]) w21 (.slice a109 l109 c109) w22 ∧ (Ahd w7 n [.slice a105 l105 c105, .slice a109 l109 c109, .int .i64 ((js.length + 1 : Nat) : Int), y0] w22 ∧ (4 - nI [.slice a105 l105 c105, .slice a109 l109 c109, .int .i64 ((js.length + 1 : Nat) : Int), y0] 2).toNat < (4 - nI [.slice a13 js.length c13, .slice a14 js.length c14, .int .i64 js.length, y1] 2).toNat) := by
  refine ⟨_, _, _, _, builtI64 _ _, ?_⟩
  have m19 : Mod No w16 (w16.alloc (.cells ⟨[.int .i64 ((j + 1 : Nat) : Int)]⟩ 2)) := (Mod.refl No w16).alloc _
  have r19 : Row (w16.alloc (.cells ⟨[.int .i64 ((j + 1 : Nat) : Int)]⟩ 2)) (some ⟨w16.heap.size, 0, none⟩) (iL [((j + 1 : Nat) : Int)]) := .inr ⟨_, _, rfl, AtU.new.at⟩
  generalize w16.alloc (.cells ⟨[.int .i64 ((j + 1 : Nat) : Int)]⟩ 2) = w19 at *
  have hz0 := hm.size
  have hz1 := m19.size
  obtain ⟨q1, c1, w20, run1, p1, mm1, hq1⟩ := (o1.nos m19).appG (ty := 128) (m := 1) (c2 := 1) elemG_ids (by omega) r19 rfl (by omega) (one_iL _) (by omega) (by omega) (by omega)
  have b1 : ∀ {q}, a13 = some q → _ := fun {q} hq => o1.base (q := q) hq
  have b2 : ∀ {q}, a14 = some q → _ := fun {q} hq => o2.base (q := q) hq
  have hb1 := p1.base rfl
  have M20 : Mod No w7 w20 := (hm.no m19).trans mm1 fun x hx ⟨q, hq, e⟩ => by have := (b1 hq).1; omega
  have o2' := (o2.nos m19).keep mm1 fun q hq ⟨q', hq', e⟩ => hne q' q hq' hq e.symm
  refine ⟨_, _, _, w20, run1, _, _, _, rfl, _, _, _, _, builtI _ _, ?_⟩
  have hz2 := mm1.size
  have m21 : Mod No w20 (w20.alloc (.cells ⟨[.int .i64 (j : Int)]⟩ 3)) := (Mod.refl No w20).alloc _
  have r21 : Row (w20.alloc (.cells ⟨[.int .i64 (j : Int)]⟩ 3)) (some ⟨w20.heap.size, 0, none⟩) (iL [(j : Int)]) := .inr ⟨_, _, rfl, AtU.new.at⟩
  generalize w20.alloc (.cells ⟨[.int .i64 (j : Int)]⟩ 3) = w21 at *
  have hz3 := m21.size
  obtain ⟨q2, c2, w22, run2, p2, mm2, hq2⟩ := (o2'.nos m21).appG (ty := 103) (m := 1) (c2 := 1) elemG_ints (by omega) r21 rfl (by omega) (one_iL _) (by omega) (by omega) (by omega)
  have hz4 := mm2.size
  have hd : q1.block ≠ q2.block := by
    rcases hq2 with ⟨q', hq', e⟩ | e
    · rcases hq1 with ⟨q'', hq'', e2⟩ | e2
      · rw [e, e2]; exact hne _ _ hq'' hq'
      · have := (b2 hq').2; omega
    · omega
  refine ⟨_, _, _, w22, run2, ⟨js ++ [j], some q1, some q2, c1, c2, y0, by simp, by simp; omega, fun i hi => ?_, ?_, ?_, fun q q' e e' => ?_, ?_⟩, by simp [nI, nth]; omega⟩
  · rcases List.mem_append.1 hi with h | h
    · exact hjs i h
    · rw [List.mem_singleton.1 h]; exact hj
  · have := (p1.nos m21).keep mm2 fun q hq ⟨q', hq', e⟩ => by
      cases hq
      rcases hq1 with ⟨q'', hq'', e2⟩ | e2
      · exact hne _ _ hq'' hq' (by rw [← e2]; exact e)
      · have := (b2 hq').2; omega
    simpa [iL] using this
  · simpa [iL, nI'] using p2
  · cases e; cases e'; exact hd
  · exact (M20.no m21).trans mm2 fun x hx ⟨q, hq, e⟩ => by have := (b2 hq).1; omega
end
end Go.Proofs.YtoajelhfiganaaaGreat
end
section
open Go Go.Den Go.Proofs
namespace Go.Den
section
variable {P : Program} {w : World}
def strBT (P : Program) (S T : TypeId) : Bool :=
  match P.underlying S with
  | some .string => match P.underlying T with
    | some (.slice e) => match P.underlying e with | some (.int .u8) => true | _ => false
    | _ => false
  | _ => false
theorem bytes_run {S T : TypeId} {xs : List UInt8} (hT : strBT P S T = true) : ∃ c w', (convert S T (.string ⟨xs.toArray⟩)).run P w = .ok (.slice (some ⟨w.heap.size, 0, none⟩) xs.length c) w' ∧ AtU w' w.heap.size 0 (u8L xs) ∧ Mod No w w' ∧ xs.length ≤ c := by
  have hT' : ∃ e, P.underlying S = some .string ∧ P.underlying T = some (.slice e) ∧ P.underlying e = some (.int .u8) := by
    unfold strBT at hT
    split at hT
    · rename_i h0
      split at hT
      · rename_i e he
        split at hT
        · rename_i h1; exact ⟨e, h0, he, h1⟩
        · cases hT
      · cases hT
    · cases hT
  obtain ⟨e, h1, h2, h3⟩ := hT'
  have hsz : (⟨xs.toArray⟩ : ByteArray).size = xs.length := by simp [ByteArray.size]
  have h := run_bytes_of_string (P := P) w S T e ⟨xs.toArray⟩ h1 h2 h3
  rw [hsz] at h
  have hl : (bytesRow ⟨xs.toArray⟩ (grownCap w xs.length 0 e)).toList = u8L xs ++ List.replicate (grownCap w xs.length 0 e - xs.length) (.int .u8 0) := by
    unfold bytesRow; rw [hsz]; simp [u8L, u8]
  have hs2 : xs.length ≤ (bytesRow ⟨xs.toArray⟩ (grownCap w xs.length 0 e)).size := by
    rw [← Array.length_toList, hl]; simp
  generalize bytesRow ⟨xs.toArray⟩ (grownCap w xs.length 0 e) = arr at *
  refine ⟨_, _, h, ⟨arr.toList, e, (arr.size, arr.size + 1), heap_new w.drew _, ?_, ?_, fun j _ hj hc => ?_⟩, (((Mod.refl No w).drew (b := w)).alloc _ : Mod No w (w.drew.alloc _)), grownCap_ge w xs.length 0 e⟩
  · rw [hl]; simp
  · rw [hl]; simp
  · simp at hj; omega
end
def strV (x : Bk) : Value := .string ⟨x.toArray⟩
def hdrs (hs : List (Nat × Nat)) (vs : List (List Bk)) : List Value := List.zipWith (fun h v => .slice (some ⟨h.1, 0, none⟩) (List.length v) h.2) hs vs
def heldB (D : St) : Bool := decide (D.left ≠ -1)
def leftB (D : St) : Int := if D.left = -1 then 0 else D.left
structure RefIn (w : World) (R : Nat → Prop) (b vb vc : Nat) (hs : List (Nat × Nat)) (D : St) : Prop where
  cell : AtU w b 0 [.slice (some ⟨vb, 0, none⟩) D.vs.length vc, .bool (heldB D), .int .i64 (leftB D)]
  vec : AtU w vb 0 (hdrs hs D.vs)
  cap : D.vs.length ≤ vc
  hl : hs.length = D.vs.length
  row : ∀ (i : Nat) (v : List Bk), D.vs[i]? = some v → ∃ q c, hs[i]? = some (q, c) ∧ v.length ≤ c ∧ At w q 0 (v.map strV) ∧ R q ∧ q ≠ b ∧ q ≠ vb
  rb : R b
  rv : R vb
  ne : b ≠ vb
  wf : WF D
  lt : ∀ x, R x → x < w.heap.size
section
variable {w : World} {R : Nat → Prop} {b vb vc : Nat} {hs : List (Nat × Nat)} {D : St}
theorem RefIn.keep {S : Nat → Prop} {w' : World} (h : RefIn w R b vb vc hs D) (m : Mod S w w') (hS : ∀ x, R x → ¬ S x) : RefIn w' R b vb vc hs D where
  cell := h.cell.keep m (hS _ h.rb)
  vec := h.vec.keep m (hS _ h.rv)
  cap := h.cap
  hl := h.hl
  row := fun i v hv => by
    obtain ⟨q, c, h1, h2, h3, h4, h5⟩ := h.row i v hv
    exact ⟨q, c, h1, h2, h3.keep m (hS _ h4), h4, h5⟩
  rb := h.rb
  rv := h.rv
  ne := h.ne
  wf := h.wf
  lt := fun x hx => Nat.lt_of_lt_of_le (h.lt x hx) m.size
theorem RefIn.nos {w' : World} (h : RefIn w R b vb vc hs D) (m : Mod No w w') : RefIn w' R b vb vc hs D := h.keep m fun _ _ => id
theorem RefIn.drew (h : RefIn w R b vb vc hs D) : RefIn (drew w) R b vb vc hs D := h.nos (Mod.refl No w).drew
theorem hdrs_get {i q c : Nat} {vs : List (List Bk)} {v : List Bk} (h1 : hs[i]? = some (q, c)) (h2 : vs[i]? = some v) : (hdrs hs vs)[i]? = some (.slice (some ⟨q, 0, none⟩) v.length c) := by
  simp [hdrs, List.getElem?_zipWith, h1, h2]
end
end Go.Den
namespace Go.Proofs.YtoajelhfiganaaaGreat
section
variable {w : World} {R : Nat → Prop} {b vb vc : Nat} {hs : List (Nat × Nat)} {D : St} {K : Value → World → Prop}
theorem rv (h : RefIn w R b vb vc hs D) : Ru (Instr.loadAt 82 (.pointer (some (Addr.add ⟨b, 0, none⟩ 0)))) w (.slice (some ⟨vb, 0, none⟩) D.vs.length vc) w := by
  rw [add_none]; exact h.cell.at.load (by kernel_rfl) rfl
theorem rh (h : RefIn w R b vb vc hs D) : Ru (Instr.loadAt 4 (.pointer (some (Addr.add ⟨b, 0, none⟩ 1)))) w (.bool (heldB D)) w := by
  rw [add_none]; exact h.cell.at.load (by kernel_rfl) rfl
theorem rl (h : RefIn w R b vb vc hs D) : Ru (Instr.loadAt 3 (.pointer (some (Addr.add ⟨b, 0, none⟩ 2)))) w (.int .i64 (leftB D)) w := by
  rw [add_none]; exact h.cell.at.load (by kernel_rfl) rfl
theorem idx_blk {a : Addr} {n c i : Nat} (hi : i < n) : Al (Instr.indexAt 82 (.slice (some a) n c) (.int .i64 i)) (.pointer (some (a.add i))) := by
  intro w'
  have := index_slice (P := Tryz.prog) (T := 82) (k := 1) (a := a) (n := n) (c := c) (kk := .i64) (i := i) (by kernel_rfl) (by omega) (by omega) w'
  rwa [Int.toNat_natCast, Nat.mul_one] at this
theorem idx_str {a : Addr} {n c i : Nat} (hi : i < n) : Al (Instr.indexAt 86 (.slice (some a) n c) (.int .i64 i)) (.pointer (some (a.add i))) := by
  intro w'
  have := index_slice (P := Tryz.prog) (T := 86) (k := 1) (a := a) (n := n) (c := c) (kk := .i64) (i := i) (by kernel_rfl) (by omega) (by omega) w'
  rwa [Int.toNat_natCast, Nat.mul_one] at this
theorem rrow (h : RefIn w R b vb vc hs D) {i : Nat} {v : List Bk} (hv : D.vs[i]? = some v) : ∃ q c, Ru (Instr.loadAt 86 (.pointer (some (Addr.add (Addr.add ⟨vb, 0, none⟩ i) 0)))) w (.slice (some ⟨q, 0, none⟩) v.length c) w ∧ v.length ≤ c ∧ At w q 0 (v.map strV) ∧ R q ∧ q ≠ b ∧ q ≠ vb ∧ hs[i]? = some (q, c) := by
  obtain ⟨q, c, h1, h2, h3, h4, h5, h6⟩ := h.row i v hv
  refine ⟨q, c, ?_, h2, h3, h4, h5, h6, h1⟩
  rw [add_none, add_none, Nat.add_zero]
  exact h.vec.at.load (by kernel_rfl) (hdrs_get h1 hv)
theorem strV_get {w : World} {q i : Nat} {v : List Bk} {x : Bk} (h : At w q 0 (v.map strV)) (hx : v[i]? = some x) : Ru (Instr.loadAt 9 (.pointer (some (Addr.add ⟨q, 0, none⟩ i)))) w (.string ⟨x.toArray⟩) w := by
  rw [add_none]
  exact h.load (by kernel_rfl) (by rw [List.getElem?_map, hx]; rfl)
theorem last_get {v : List Bk} (h : v ≠ []) : v[v.length - 1]? = some (lastV v) := by
  rw [← List.getLast?_eq_getElem?]; unfold lastV
  rw [List.getLastD_eq_getLast?, List.getLast?_eq_some_getLast h]; rfl
theorem there_c (h : RefIn w R b vb vc hs D) {n : Int} (hk : K (.bool (decide (errOf D n = 0))) w) : Cal Tryz.prog F_leveeref02_Disk_there #[.pointer (some ⟨b, 0, none⟩), .int .i64 n] w K := by
  apply C_leveeref02_Disk_there
  unfold D_leveeref02_Disk_there
  refine Share.cut (fun x w' => x = [.bool (decide (errOf D n = 0))] ∧ w' = w) (cond_of (fun hb => ?_) (fun hb => ?_)) ?_
  · have hb := of_decide_eq_true hb
    refine ⟨_, rfl, _, _, _, rv h, ?_, rfl⟩
    congr 2; rw [Bool.eq_iff_iff]; simp only [decide_eq_true_eq]
    unfold errOf; split <;> omega
  · have hb := of_decide_eq_false hb
    refine ⟨?_, rfl⟩
    have : errOf D n = 3 := by unfold errOf; rw [if_pos (by omega)]
    rw [this]; rfl
  · rintro x w' ⟨rfl, rfl⟩
    exact ⟨_, rfl, hk⟩
theorem refStopped_c (h : RefIn w R b vb vc hs D) (hk : K (.bool (decide (D.left = 0))) w) : Cal Tryz.prog F_leveeref02_Disk_Stopped #[.pointer (some ⟨b, 0, none⟩)] w K := by
  apply C_leveeref02_Disk_Stopped
  unfold D_leveeref02_Disk_Stopped
  refine Share.dup ⟨_, rfl, _, rh h, cond_of (fun hb => ?_) (fun hb => ?_)⟩
  · have hb : D.left ≠ -1 := by unfold heldB at hb; exact of_decide_eq_true hb
    refine ⟨_, rfl, _, rl h, _, rfl, ?_⟩
    have : (leftB D == 0) = decide (D.left = 0) := by unfold leftB; rw [if_neg hb]; rfl
    rw [this]; exact hk
  · have hb : D.left = -1 := by unfold heldB at hb; simpa using of_decide_eq_false hb
    refine ⟨_, rfl, ?_⟩
    rw [hb] at hk; exact hk
end
end Go.Proofs.YtoajelhfiganaaaGreat
end
section
open Go Go.Den Go.Proofs
namespace Go.Proofs.YtoajelhfiganaaaGreat
section
variable {w : World} {R R2 : Nat → Prop} {b vb vc b2 sb mb sc : Nat} {hs : List (Nat × Nat)} {L : List (Int × Value)} {D : St} {K : Value → World → Prop}
theorem Fresh.keep {w0 w w' : World} {a : Option Addr} {xs : List UInt8} {S : Nat → Prop} (h : Fresh w0 w a xs) (m : Mod S w w') (hs : ∀ q, a = some q → ¬ S q.block) : Fresh w0 w' a xs := by
  rcases h with h | ⟨q, rfl, hq, hat⟩
  · exact .inl h
  · exact .inr ⟨q, rfl, hq, hat.keep m (hs _ rfl)⟩
end
end Go.Proofs.YtoajelhfiganaaaGreat
end
section
open Go Go.Den Go.Proofs
namespace Go.Den
theorem At_ne {w : World} {q g o o' : Nat} {x y : Value} {r r' : List Value} (h : At w q o (x :: r)) (k : At w g o' (y :: r')) (ho : o = o') (hne : x ≠ y) : q ≠ g := by
  rintro rfl
  subst ho
  obtain ⟨l, t, fz, h1, h2, h3⟩ := h
  obtain ⟨l', t', fz', k1, k2, k3⟩ := k
  rw [h1] at k1
  simp at k1
  obtain ⟨rfl, _⟩ := k1
  have a1 := take_drop_get h3 0 (by simp)
  have a2 := take_drop_get k3 0 (by simp)
  rw [a1] at a2
  simp at a2
  exact hne a2
theorem hdrs_snoc {hs : List (Nat × Nat)} {vs : List (List Bk)} (h : hs.length = vs.length) (q c : Nat) (v : List Bk) : hdrs (hs ++ [(q, c)]) (vs ++ [v]) = hdrs hs vs ++ [.slice (some ⟨q, 0, none⟩) v.length c] := by
  unfold hdrs; rw [List.zipWith_append h]; rfl
end Go.Den
namespace Go.Proofs.YtoajelhfiganaaaGreat
theorem elemZ_blks : elemZ Tryz.prog 82 1 (.slice none 0 0) 24 := by unfold elemZ; kernel_rfl
theorem elemZ_strs : elemZ Tryz.prog 86 1 (.string ByteArray.empty) 16 := by unfold elemZ; kernel_rfl
theorem built_str (w : World) (s : ByteArray) : (Instr.buildSlice 86 1 #[(0, .string s)]).run Tryz.prog w = .ok (.slice (some ⟨w.heap.size, 0, none⟩) 1 1) (w.alloc (.cells ⟨[.string s]⟩ 9)) := by kernel_rfl
structure Bld (w0 w : World) (b : Nat) (a : Option Addr) (l c : Nat) (hs : List (Nat × Nat)) (vs : List (List Bk)) : Prop where
  cell : AtU w b 0 [.slice a l c, .bool false, .int .i64 0]
  own : Own Tryz.prog w (b + 1) 82 1 a l c (hdrs hs vs)
  hl : hs.length = vs.length
  row : ∀ (i : Nat) (v : List Bk), vs[i]? = some v → ∃ q cc, hs[i]? = some (q, cc) ∧ v.length ≤ cc ∧ At w q 0 (v.map strV) ∧ v ≠ [] ∧ b < q
  mod : Mod No w0 w
  b0 : w0.heap.size ≤ b
section
variable {w0 w : World} {b l c : Nat} {a : Option Addr} {hs : List (Nat × Nat)} {vs : List (List Bk)} {K : Value → World → Prop}
theorem Bld.len (h : Bld w0 w b a l c hs vs) : l = vs.length := by
  have := h.own.len
  simp [hdrs, h.hl] at this; exact this.symm
theorem Bld.nos {w' : World} (h : Bld w0 w b a l c hs vs) (m : Mod No w w') : Bld w0 w' b a l c hs vs where
  cell := h.cell.keep m id
  own := h.own.nos m
  hl := h.hl
  row := fun i v hv => by
    obtain ⟨q, cc, h1, h2, h3, h4⟩ := h.row i v hv
    exact ⟨q, cc, h1, h2, h3.keep m id, h4⟩
  mod := h.mod.no m
  b0 := h.b0
theorem Bld.ld (h : Bld w0 w b a l c hs vs) : Ru (Instr.loadAt 82 (.pointer (some (Addr.add ⟨b, 0, none⟩ 0)))) w (.slice a l c) w := by
  rw [add_none]; exact h.cell.at.load (by kernel_rfl) rfl
theorem Bld.start (w : World) : Bld w (w.alloc (.cells (Value.agg ⟨[.slice none 0 0, .bool false, .int .i64 0]⟩).cells 84)) w.heap.size none 0 0 [] [] where
  cell := AtU.new
  own := Own.nil elemZ_blks
  hl := rfl
  row := fun i v hv => by simp at hv
  mod := (Mod.refl No w).alloc _
  b0 := Nat.le_refl _
theorem hdr_first {i : Nat} {v : List Bk} (hl : hs.length = vs.length) (hv : vs[i]? = some v) : ∃ q cc u r, hdrs hs vs = .slice (some ⟨q, 0, none⟩) (List.length (u : List Bk)) cc :: r := by
  cases vs with
  | nil => simp at hv
  | cons u r =>
    cases hs with
    | nil => simp at hl
    | cons p r' => exact ⟨p.1, p.2, u, _, rfl⟩
theorem Bld.step (h : Bld w0 w b a l c hs vs) (x : Bk) (hl : l ≤ 5000) :
    ∃ a' c' w6 w7, Ru (Builtin.append_ #[82, 82] 82 #[.slice a l c, .slice (some ⟨(w.alloc (.cells ⟨[.string ⟨x.toArray⟩]⟩ 9)).heap.size, 0, none⟩) 1 1])
        ((w.alloc (.cells ⟨[.string ⟨x.toArray⟩]⟩ 9)).alloc (.cells ⟨[.slice (some ⟨w.heap.size, 0, none⟩) 1 1]⟩ 88)) (.slice a' (l + 1) c') w6 ∧
      RuU (Instr.storeAt 82 (.pointer (some (Addr.add ⟨b, 0, none⟩ 0))) (.slice a' (l + 1) c')) w6 w7 ∧ Bld w0 w7 b a' (l + 1) c' (hs ++ [(w.heap.size, 1)]) (vs ++ [[x]]) := by
  have m1 : Mod No w (w.alloc (.cells ⟨[.string ⟨x.toArray⟩]⟩ 9)) := (Mod.refl No w).alloc _
  have atx : At (w.alloc (.cells ⟨[.string ⟨x.toArray⟩]⟩ 9)) w.heap.size 0 ([x].map strV) := AtU.new.at
  have hs1 : (w.alloc (.cells ⟨[.string ⟨x.toArray⟩]⟩ 9)).heap.size = w.heap.size + 1 := by simp
  have hb := h.cell.lt
  generalize w.alloc (.cells ⟨[.string ⟨x.toArray⟩]⟩ 9) = w4 at *
  have m2 : Mod No w4 (w4.alloc (.cells ⟨[.slice (some ⟨w.heap.size, 0, none⟩) 1 1]⟩ 88)) := (Mod.refl No w4).alloc _
  have aty : At (w4.alloc (.cells ⟨[.slice (some ⟨w.heap.size, 0, none⟩) 1 1]⟩ 88)) w4.heap.size 0 [.slice (some ⟨w.heap.size, 0, none⟩) 1 1] := AtU.new.at
  have hs2 : (w4.alloc (.cells ⟨[.slice (some ⟨w.heap.size, 0, none⟩) 1 1]⟩ 88)).heap.size = w4.heap.size + 1 := by simp
  generalize w4.alloc (.cells ⟨[.slice (some ⟨w.heap.size, 0, none⟩) 1 1]⟩ 88) = w5 at *
  have h5 := (h.nos m1).nos m2
  have atx5 := atx.keep m2 id
  obtain ⟨a', c', w6, h6, o6, m6⟩ := h5.own.append' (ty := 82) (a2 := some ⟨w4.heap.size, 0, none⟩) (m := 1) (c2 := 1) (ys := [.slice (some ⟨w.heap.size, 0, none⟩) 1 1]) elemZ_blks (by omega) (.inr ⟨_, _, rfl, aty⟩) rfl (by simp) (by simp; rfl) (by omega) (by omega) (by omega)
  have hbq : ∀ q, a = some q → b + 1 ≤ q.block := fun q hq => (h5.own.base hq).1
  have hbq2 : ∀ q, a = some q → q.block < w.heap.size := fun q hq => (h.own.base hq).2
  have c6 := h5.cell.keep m6 (fun ⟨q, hq, e⟩ => by have := hbq q hq; omega)
  obtain ⟨w7, s1, s2, s3, s4⟩ := c6.store (P := Tryz.prog) (T := 82) (i := 0) (v := .slice a' (l + 1) c') (by kernel_rfl) (by simp) rfl
  refine ⟨a', c', w6, w7, h6, by rw [add_none]; exact s1, ?_⟩
  exact { cell := by simpa using s2
          own := by
            rw [hdrs_snoc h.hl]
            exact o6.keep s3 fun q hq e => by have := (o6.base hq).1; omega
          hl := by simp [h.hl]
          row := fun i v hv => by
            by_cases hi : i < vs.length
            · rw [List.getElem?_append_left hi] at hv
              obtain ⟨q, cc, r1, r2, r3, r4, r5⟩ := h5.row i v hv
              refine ⟨q, cc, by rw [List.getElem?_append_left (by rw [h.hl]; exact hi)]; exact r1, r2, (r3.keep m6 fun ⟨p, hp, e⟩ => ?_).keep s3 (by omega), r4, r5⟩
              obtain ⟨q1, c1, u1, r, hf⟩ := hdr_first h.hl hv
              have hpos : 0 < l := by rw [h.len]; omega
              obtain ⟨g, hg, _, hat⟩ := h5.own.sm hpos
              rw [hf] at hat
              cases v with
              | nil => exact r4 rfl
              | cons y rr =>
                have := At_ne r3 hat.at rfl (by simp [strV])
                rw [hg] at hp; cases hp
                exact this e
            · have hi2 : i = vs.length := by
                have := (List.getElem?_eq_some_iff.1 hv).1
                simp at this; omega
              subst hi2
              rw [List.getElem?_append_right (Nat.le_refl _), Nat.sub_self] at hv
              simp at hv; subst hv
              refine ⟨w.heap.size, 1, by rw [← h.hl]; simp, by simp, (atx5.keep m6 fun ⟨p, hp, e⟩ => ?_).keep s3 (by omega), by simp, hb⟩
              have := hbq2 p hp; omega
          mod := ((h5.mod.trans m6 fun y hy ⟨q, hq, e⟩ => by have := hbq q hq; have := h.b0; omega).trans s3 fun y hy e => by have := h.b0; omega)
          b0 := h.b0 }
theorem Bld.done (h : Bld w0 w b a l c hs vs) (hwf : WF ⟨vs, -1⟩) : ∃ vb, RefIn w (fun x => w0.heap.size ≤ x ∧ x < w.heap.size) b vb c hs ⟨vs, -1⟩ := by
  have hlo := hwf.lo
  have hlen := h.len
  simp only at hlo
  obtain ⟨g, rfl, hg, hat⟩ := h.own.sm (by omega)
  have hcap := h.own.cap
  have hb0 := h.b0
  refine ⟨g, ?_⟩
  exact { cell := by have := h.cell; rw [hlen] at this; exact this
          vec := hat
          cap := by simp only; omega
          hl := h.hl
          row := fun i v hv => by
            obtain ⟨q, cc, r1, r2, r3, r4, r5⟩ := h.row i v hv
            refine ⟨q, cc, r1, r2, r3, ⟨by omega, r3.lt⟩, by omega, ?_⟩
            obtain ⟨q1, c1, u1, r, hf⟩ := hdr_first h.hl hv
            rw [hf] at hat
            cases v with
            | nil => exact absurd rfl r4
            | cons y rr => exact At_ne r3 hat.at rfl (by simp [strV])
          rb := ⟨hb0, h.cell.lt⟩
          rv := ⟨by omega, hat.lt⟩
          ne := by omega
          wf := hwf
          lt := fun x hx => hx.2 }
end
end Go.Proofs.YtoajelhfiganaaaGreat
end
section
open Go Go.Den Go.Proofs
namespace Go.Den
theorem DiskIn.widen {w : World} {R R' : Nat → Prop} {b sb mb sc : Nat} {L : List (Int × Value)} {D : St} (h : DiskIn w R b sb mb sc L D) (h1 : ∀ x, R x → R' x) (h2 : ∀ x, R' x → x < w.heap.size) : DiskIn w R' b sb mb sc L D where
  cell := h.cell
  cap := h.cap
  safe := h.safe
  map := h.map
  rb := h1 _ h.rb
  rs := h1 _ h.rs
  rm := h1 _ h.rm
  ne := h.ne
  opn := fun i v hv => by
    rcases h.opn i v hv with h | ⟨g1, vb, c, g2, g3, g4, g5, g6⟩
    · exact .inl h
    · exact .inr ⟨g1, vb, c, g2, g3, g4, h1 _ g5, g6⟩
  keys := h.keys
  wf := h.wf
  lt := h2
end Go.Den
namespace Go.Proofs.YtoajelhfiganaaaGreat
section
variable {w : World} {K : Value → World → Prop}
def chunk (xs : List UInt8) (i : Nat) : Bk := (xs.drop (256 * i)).take 256
def ldSt (k : Nat) (xs : List UInt8) : St := ⟨(List.range k).map fun i => [chunk xs i], -1⟩
theorem chunk_len {xs : List UInt8} {k i : Nat} (hl : xs.length = 256 * k) (hi : i < k) : (chunk xs i).length = 256 := by
  unfold chunk; simp; omega
theorem WF.ld {xs : List UInt8} {k : Nat} (hl : xs.length = 256 * k) (h0 : 1 ≤ k) (h1 : k ≤ 4096) : WF (ldSt k xs) where
  ver := by
    intro v hv
    obtain ⟨i, hi, rfl⟩ := List.mem_map.1 hv
    refine ⟨by simp, fun x hx => ?_⟩
    simp at hx; subst hx
    exact chunk_len hl (List.mem_range.1 hi)
  lo := by simp [ldSt]; exact h0
  hi := by simp [ldSt]; exact h1
  l0 := by simp [ldSt]
  l1 := by simp [ldSt]
end
end Go.Proofs.YtoajelhfiganaaaGreat
end
section
open Go Go.Den Go.Proofs
namespace Go.Proofs.YtoajelhfiganaaaGreat
section
variable {w : World} {R : Nat → Prop} {b vb vc : Nat} {hs : List (Nat × Nat)} {D : St} {K : Value → World → Prop}
theorem RefIn_lft (h : RefIn w R b vb vc hs D) {w' : World} {left : Int} (hc : AtU w' b 0 [.slice (some ⟨vb, 0, none⟩) D.vs.length vc, .bool (heldB ⟨D.vs, left⟩), .int .i64 (leftB ⟨D.vs, left⟩)]) (m : Mod (fun x => x = b) w w') (h0 : -1 ≤ left) (h1 : left ≤ 9223372036854775807) :
    RefIn w' R b vb vc hs ⟨D.vs, left⟩ where
  cell := hc
  vec := h.vec.keep m h.ne.symm
  cap := h.cap
  hl := h.hl
  row := fun i v hv => by
    obtain ⟨q, c, r1, r2, r3, r4, r5, r6⟩ := h.row i v hv
    exact ⟨q, c, r1, r2, r3.keep m r5, r4, r5, r6⟩
  rb := h.rb
  rv := h.rv
  ne := h.ne
  wf := { ver := h.wf.ver, lo := h.wf.lo, hi := h.wf.hi, l0 := h0, l1 := h1 }
  lt := fun x hx => Nat.lt_of_lt_of_le (h.lt x hx) m.size
theorem RefIn_set (h : RefIn w R b vb vc hs D) {R' : Nat → Prop} {i q' c' : Nat} {v v' : List Bk} (hv : D.vs[i]? = some v) (hR : ∀ x, R x → R' x) (hq : R' q') (hlt : ∀ x, R' x → x < w.heap.size)
    (hat : At w q' 0 (v'.map strV)) (hqb : q' ≠ b) (hqv : q' ≠ vb) (hne : v' ≠ []) (hx : ∀ x ∈ v', x.length = 256) (hc : v'.length ≤ c') :
    ∃ w', RuU (Instr.storeAt 86 (.pointer (some (Addr.add (Addr.add ⟨vb, 0, none⟩ i) 0))) (.slice (some ⟨q', 0, none⟩) v'.length c')) w w' ∧ RefIn w' R' b vb vc (hs.set i (q', c')) ⟨D.vs.set i v', D.left⟩ ∧ Mod (fun x => x = vb) w w' := by
  have hilt := (List.getElem?_eq_some_iff.1 hv).1
  have hhl := h.hl
  have hlen : (hdrs hs D.vs).length = D.vs.length := by simp [hdrs, h.hl]
  obtain ⟨w', s1, s2, s3, s4⟩ := h.vec.store (P := Tryz.prog) (T := 86) (i := i) (v := .slice (some ⟨q', 0, none⟩) v'.length c') (by kernel_rfl) (by omega) rfl
  refine ⟨w', ?_, ?_, s3⟩
  · rw [add_none, add_none, Nat.add_zero]; exact s1
  have hset : (hdrs hs D.vs).set i (.slice (some ⟨q', 0, none⟩) v'.length c') = hdrs (hs.set i (q', c')) (D.vs.set i v') := by
    apply List.ext_getElem?
    intro j
    by_cases hj : i = j
    · subst hj
      rw [List.getElem?_set_self (by omega), hdrs_get (List.getElem?_set_self (by omega)) (List.getElem?_set_self hilt)]
    · rw [List.getElem?_set_ne hj]
      simp [hdrs, List.getElem?_zipWith, List.getElem?_set_ne hj]
  rw [hset] at s2
  exact { cell := by have := h.cell.keep s3 h.ne; simpa [heldB, leftB] using this
          vec := s2
          cap := by simpa using h.cap
          hl := by simpa using h.hl
          row := fun j u hu => by
            by_cases hj : i = j
            · subst hj
              rw [List.getElem?_set_self hilt] at hu
              have := Option.some.inj hu
              subst this
              exact ⟨q', c', List.getElem?_set_self (by omega), hc, hat.keep s3 hqv, hq, hqb, hqv⟩
            · rw [List.getElem?_set_ne hj] at hu
              obtain ⟨q, c, r1, r2, r3, r4, r5, r6⟩ := h.row j u hu
              exact ⟨q, c, by rw [List.getElem?_set_ne hj]; exact r1, r2, r3.keep s3 r6, hR _ r4, r5, r6⟩
          rb := hR _ h.rb
          rv := hR _ h.rv
          ne := h.ne
          wf := { ver := fun y hy => by
                    rcases List.mem_or_eq_of_mem_set hy with hy | rfl
                    · exact h.wf.ver y hy
                    · exact ⟨hne, hx⟩
                  lo := by simpa using h.wf.lo
                  hi := by simpa using h.wf.hi
                  l0 := h.wf.l0
                  l1 := h.wf.l1 }
          lt := fun x hx => Nat.lt_of_lt_of_le (hlt x hx) s3.size }
theorem refGoes_c (h : RefIn w R b vb vc hs D) (h0 : D.left = 0 → K (.bool false) w)
    (h1 : D.left ≠ 0 → ∀ w', RefIn w' R b vb vc hs ⟨D.vs, dec D.left⟩ → Mod (fun x => x = b) w w' → K (.bool true) w') : Cal Tryz.prog F_leveeref02_Disk_goes #[.pointer (some ⟨b, 0, none⟩)] w K := by
  apply C_leveeref02_Disk_goes
  unfold D_leveeref02_Disk_goes
  refine refStopped_c h ⟨_, rfl, cond_of (fun hb => ?_) (fun hb => ?_)⟩
  · exact h0 (of_decide_eq_true hb)
  have hnz := of_decide_eq_false hb
  have hl0 := h.wf.l0
  have hl1 := h.wf.l1
  refine ⟨_, rfl, _, rh h, Share.dup (cond_of (fun hb => ?_) (fun hb => ?_))⟩
  · have hb : D.left ≠ -1 := by unfold heldB at hb; exact of_decide_eq_true hb
    have hlB : leftB D = D.left := by unfold leftB; rw [if_neg hb]
    have hd : dec D.left = D.left - 1 := by unfold dec; rw [if_neg (by omega)]
    obtain ⟨w', s1, s2, s3, s4⟩ := h.cell.store (P := Tryz.prog) (T := 3) (i := 2) (v := .int .i64 (D.left - 1)) (by kernel_rfl) (by simp) rfl
    refine ⟨_, rfl, _, rl h, _, rfl, w', ?_, ?_⟩
    · rw [hlB, wrap64 (by omega) (by omega), add_none]; exact s1
    refine h1 hnz w' (RefIn_lft h ?_ s3 (by rw [hd]; omega) (by rw [hd]; omega)) s3
    have e1 : heldB D = heldB ⟨D.vs, dec D.left⟩ := by unfold heldB; rw [hd]; simp only; rw [Bool.eq_iff_iff]; simp only [decide_eq_true_eq]; omega
    have e2 : leftB ⟨D.vs, dec D.left⟩ = D.left - 1 := by unfold leftB; rw [hd]; simp only; rw [if_neg (by omega)]
    rw [e2, ← e1]; simpa using s2
  · have hb : D.left = -1 := by unfold heldB at hb; simpa using of_decide_eq_false hb
    have hd : dec D.left = D.left := by rw [hb]; rfl
    refine h1 hnz w ?_ (Mod.refl _ _)
    rw [hd]; exact h
theorem gro_lt {R : Nat → Prop} {w0 w' : World} (hR : ∀ x, R x → x < w0.heap.size) (hs : w0.heap.size ≤ w'.heap.size) : ∀ x, Gro R w0 w' x → x < w'.heap.size := fun x hx => by
  rcases hx with hx | hx
  · have := hR x hx; omega
  · exact hx.2
theorem refWrite_c (h : RefIn w R b vb vc hs D) (hsm : ∀ v ∈ D.vs, v.length ≤ 999999) {n : Int} {a : Option Addr} {l c : Nat} {ys : List UInt8} (hl : ys.length = l) (hr : Row w a (u8L ys)) (hdis : ys ≠ [] → ∀ q, a = some q → ¬ R q.block)
    (hk : ∀ w' hs', Mod R w w' → RefIn w' (Gro R w w') b vb vc hs' (wrSt D n ys) → K (.int .i64 (wrE D n ys)) w') : Cal Tryz.prog F_leveeref02_Disk_Write #[.pointer (some ⟨b, 0, none⟩), .int .i64 n, .slice a l c] w K := by
  apply C_leveeref02_Disk_Write
  unfold D_leveeref02_Disk_Write
  have gro : ∀ {w' : World} {hs' : List (Nat × Nat)} {D' : St}, RefIn w' R b vb vc hs' D' → RefIn w' (Gro R w w') b vb vc hs' D' := fun h' =>
    { cell := h'.cell, vec := h'.vec, cap := h'.cap, hl := h'.hl,
      row := fun i v hv => by obtain ⟨q, c, r1, r2, r3, r4, r5⟩ := h'.row i v hv; exact ⟨q, c, r1, r2, r3, .inl r4, r5⟩
      rb := .inl h'.rb, rv := .inl h'.rv, ne := h'.ne, wf := h'.wf
      lt := fun x hx => by
        rcases hx with hx | hx
        · exact h'.lt x hx
        · exact hx.2 }
  refine there_c h ⟨_, rfl, ?_⟩
  rcases err_cases (D := D) n with ⟨he, ho⟩ | ⟨he, i, v, rfl, hv, hver⟩
  · have hw : wrE D n ys = 3 := by unfold wrE; rw [he, if_pos (by omega)]
    have hS : wrSt D n ys = D := by unfold wrSt; rw [if_pos (.inl (by omega))]
    refine tt (by rw [he]; rfl) ?_
    have := hk w hs (Mod.refl _ _) (by rw [hS]; exact gro h)
    rw [hw] at this; exact this
  refine ff (by rw [he]; rfl) (cond_of (fun hb => ?_) (fun hb => ?_))
  · have hne : ys.length ≠ 256 := by simp at hb; omega
    have hw : wrE D i ys = 4 := by unfold wrE; rw [he, if_neg (by omega), if_pos hne]
    have hS : wrSt D i ys = D := by unfold wrSt; rw [if_pos (.inl (by omega))]
    have := hk w hs (Mod.refl _ _) (by rw [hS]; exact gro h)
    rw [hw] at this; exact this
  have hl2 : l = 256 := by simp at hb; omega
  subst hl2
  have hw : wrE D i ys = 0 := by unfold wrE; rw [he, if_neg (by omega), if_neg (by omega)]
  rw [hw] at hk
  refine refGoes_c h (fun hz => ⟨_, rfl, tt rfl ?_⟩) fun hnz w2 h2 m2 => ⟨_, rfl, ff rfl ?_⟩
  · have hS : wrSt D i ys = D := by unfold wrSt; rw [if_pos (.inr hz)]
    exact hk w hs (Mod.refl _ _) (by rw [hS]; exact gro h)
  have hS : wrSt D i ys = ⟨D.vs.set i (v ++ [ys]), dec D.left⟩ := by unfold wrSt; rw [if_neg (by omega), hver]; rfl
  rw [hS] at hk
  have hilt := (List.getElem?_eq_some_iff.1 hv).1
  have hvne := (h.wf.ver v (List.mem_of_getElem? hv)).1
  have hvlen := hsm v (List.mem_of_getElem? hv)
  obtain ⟨q, cq, hrow, hcq, hat, hRq, hqb, hqv, _⟩ := rrow h2 (D := ⟨D.vs, dec D.left⟩) hv
  refine ⟨_, rfl, _, _, _, rv h2, _, idx_blk hilt, _, _, _, hrow, ?_⟩
  have one : ∀ (u : List Bk), ∀ y ∈ u.map strV, y.oneCell' = true := fun u y hy => by
    obtain ⟨z, _, rfl⟩ := List.mem_map.1 hy; rfl
  obtain ⟨a3, c3, w3, h3, o3, m3⟩ := (Own.nil (P := Tryz.prog) (w := w2) (base := w2.heap.size) elemZ_strs).append (ty := 86) elemZ_strs (by omega) (a2 := some ⟨q, 0, none⟩) (m := v.length) (c2 := cq) (ys := v.map strV) (.inr ⟨_, _, rfl, hat⟩) (by simp) (fun e => by cases e) (one v) (by omega) (by omega) (Nat.le_refl _)
  simp only [Nat.zero_add, List.nil_append] at h3 o3
  have m3' : Mod No w2 w3 := (Mod.refl No w2).up m3 (Nat.le_refl _)
  have hyne : ys ≠ [] := fun e => by rw [e] at hl; simp at hl
  have hb2 : ∀ q', a = some q' → q'.block ≠ b := fun q' hq' e => hdis hyne q' hq' (by rw [e]; exact h.rb)
  have hr3 : Row (drew w3) a (u8L ys) := ((hr.keep m2 fun q' hq' => hb2 q' hq').nos m3').nos (Mod.refl No w3).drew
  have h3R := (h2.nos m3').drew
  refine ⟨_, _, _, w3, h3, _, rfl, _, _, _, rv h3R, _, str_run (by kernel_rfl) hr3 hl, _, _, _, _, built_str _ _, ?_⟩
  have m4 : Mod No (drew w3) ((drew w3).alloc (.cells ⟨[.string ⟨ys.toArray⟩]⟩ 9)) := (Mod.refl No _).alloc _
  refine ⟨rv (h3R.nos m4), ?_⟩
  have hs4 : ((drew w3).alloc (.cells ⟨[.string ⟨ys.toArray⟩]⟩ 9)).heap.size = w3.heap.size + 1 := by simp
  have aty : At ((drew w3).alloc (.cells ⟨[.string ⟨ys.toArray⟩]⟩ 9)) (drew w3).heap.size 0 ([ys].map strV) := AtU.new.at
  have h4R := h3R.nos m4
  have o4 := (o3.nos (Mod.refl No w3).drew).nos m4
  generalize (drew w3).alloc (.cells ⟨[.string ⟨ys.toArray⟩]⟩ 9) = w4 at *
  have hz2 := m2.size
  have hz3 := m3'.size
  obtain ⟨a5, c5, w5, h5, o5, m5⟩ := o4.append (ty := 86) elemZ_strs (by omega) (a2 := some ⟨(drew w3).heap.size, 0, none⟩) (m := 1) (c2 := 1) (ys := [ys].map strV) (.inr ⟨_, _, rfl, aty⟩) (by simp) (fun e => by cases e) (one [ys]) (by omega) (by omega) (by omega)
  have hlt2 : ∀ x, R x → x < w2.heap.size := h2.lt
  have h5R := h4R.keep m5 fun x hx e => by have := hlt2 x hx; omega
  obtain ⟨g, rfl, hg, hgat⟩ := o5.sm (by omega)
  have hz5 := m5.size
  have hglt := hgat.lt
  have hgat' : At w5 g 0 ((v ++ [ys]).map strV) := by rw [List.map_append]; exact hgat.at
  have hcap5 := o5.cap
  refine ⟨_, _, _, w5, h5, rv h5R, _, idx_blk hilt, ?_⟩
  have hrb := hlt2 b h.rb
  have hrvb := hlt2 vb h.rv
  obtain ⟨w6, t1, t2, t3⟩ := RefIn_set h5R (D := ⟨D.vs, dec D.left⟩) (R' := Gro R w w5) (q' := g) (c' := c5) (v' := v ++ [ys]) hv (fun x hx => .inl hx) (.inr ⟨by omega, hglt⟩) (gro_lt h.lt (by omega)) hgat' (by omega) (by omega) (by simp)
    (fun x hx => by
      rcases List.mem_append.1 hx with hx | hx
      · exact (h.wf.ver v (List.mem_of_getElem? hv)).2 x hx
      · simp at hx; subst hx; omega) (by simp; omega)
  have hlv : (v ++ [ys]).length = v.length + 1 := by simp
  rw [hlv] at t1
  refine ⟨w6, t1, ?_⟩
  have M2 : Mod R w w2 := m2.mono fun x _ e => by subst e; exact h.rb
  have M5 : Mod R w w5 := (((M2.no m3').no (Mod.refl No w3).drew).no m4).trans m5 fun x hx e => by omega
  have hz6 := t3.size
  refine hk w6 (hs.set i (g, c5)) (M5.trans t3 fun x _ e => by subst e; exact h.rv) ?_
  exact { cell := t2.cell, vec := t2.vec, cap := t2.cap, hl := t2.hl
          row := fun j u hu => by
            obtain ⟨q, cc, r1, r2, r3, r4, r5⟩ := t2.row j u hu
            exact ⟨q, cc, r1, r2, r3, by rcases r4 with r4 | r4
                                         · exact .inl r4
                                         · exact .inr ⟨r4.1, by omega⟩, r5⟩
          rb := .inl h.rb, rv := .inl h.rv, ne := h.ne, wf := t2.wf
          lt := gro_lt h.lt (by omega) }
end
end Go.Proofs.YtoajelhfiganaaaGreat
end
section
open Go Go.Den Go.Proofs
namespace Go.Proofs.YtoajelhfiganaaaGreat
def updR (D : St) (ks : List Nat) (f : Nat → List Bk → Bk) : St := ⟨D.vs.mapIdx fun i v => if i ∈ ks then [f i v] else v, D.left⟩
section
variable {w : World} {R : Nat → Prop} {b vb vc : Nat} {hs : List (Nat × Nat)} {D : St} {K : Value → World → Prop}
theorem St_ext {A B : St} (h1 : A.vs = B.vs) (h2 : A.left = B.left) : A = B := by
  cases A; cases B; simp only at h1 h2; rw [h1, h2]
theorem updR_get {ks : List Nat} {f : Nat → List Bk → Bk} {i : Nat} {v : List Bk} (hv : D.vs[i]? = some v) : (updR D ks f).vs[i]? = some (if i ∈ ks then [f i v] else v) := by
  simp [updR, List.getElem?_mapIdx, hv]
theorem updR_step {ks : List Nat} {f : Nat → List Bk → Bk} {i : Nat} {v : List Bk} (hv : D.vs[i]? = some v) : (updR D ks f).vs.set i [f i v] = (updR D (ks ++ [i]) f).vs := by
  apply List.ext_getElem?
  intro j
  by_cases hj : i = j
  · subst hj
    have hlt : i < (updR D ks f).vs.length := by simp [updR]; exact (List.getElem?_eq_some_iff.1 hv).1
    rw [List.getElem?_set_self hlt, updR_get hv, if_pos (by simp)]
  · rw [List.getElem?_set_ne hj]
    cases hw : D.vs[j]? with
    | none => simp [updR, List.getElem?_mapIdx, hw]
    | some u =>
      rw [updR_get hw, updR_get hw]
      have : (j ∈ ks ++ [i]) ↔ j ∈ ks := by simp; intro e; exact absurd e.symm hj
      simp only [this]
theorem updR_nil (D : St) (f : Nat → List Bk → Bk) : updR D [] f = D := by
  have : (D.vs.mapIdx fun i v => if i ∈ ([] : List Nat) then [f i v] else v) = D.vs := by
    apply List.ext_getElem?
    intro i
    rw [List.getElem?_mapIdx]
    cases D.vs[i]? <;> simp
  unfold updR; rw [this]
theorem updR_all {ks : List Nat} {f : Nat → List Bk → Bk} (h : ∀ i v, D.vs[i]? = some v → i ∉ ks → v = [f i v]) : (updR D ks f).vs = (put1 D f).vs := by
  unfold updR put1
  apply List.ext_getElem?
  intro i
  rw [List.getElem?_mapIdx, List.getElem?_mapIdx]
  cases hv : D.vs[i]? with
  | none => rfl
  | some v =>
    simp only [Option.map_some]
    by_cases hi : i ∈ ks
    · rw [if_pos hi]
    · rw [if_neg hi, ← h i v hv hi]
theorem Gro_mono {w0 w1 w2 : World} (h : w1.heap.size ≤ w2.heap.size) : ∀ x, Gro R w0 w1 x → Gro R w0 w2 x := fun x hx => by
  rcases hx with hx | hx
  · exact .inl hx
  · exact .inr ⟨hx.1, by omega⟩
theorem _root_.Go.Den.RefIn.widen {R' : Nat → Prop} (h : RefIn w R b vb vc hs D) (h1 : ∀ x, R x → R' x) (h2 : ∀ x, R' x → x < w.heap.size) : RefIn w R' b vb vc hs D where
  cell := h.cell
  vec := h.vec
  cap := h.cap
  hl := h.hl
  row := fun i v hv => by obtain ⟨q, c, r1, r2, r3, r4, r5⟩ := h.row i v hv; exact ⟨q, c, r1, r2, r3, h1 _ r4, r5⟩
  rb := h1 _ h.rb
  rv := h1 _ h.rv
  ne := h.ne
  wf := h.wf
  lt := h2
theorem one_row {w0 : World} (hR : ∀ x, R x → x < w0.heap.size) (hrb : R b) (hrv : R vb) (h : RefIn w (Gro R w0 w) b vb vc hs D) (hz : w0.heap.size ≤ w.heap.size) {i : Nat} {v : List Bk} {x : Bk} (hv : D.vs[i]? = some v) (hx : x.length = 256) :
    RefIn (w.alloc (.cells ⟨[.string ⟨x.toArray⟩]⟩ 9)) (Gro R w0 (w.alloc (.cells ⟨[.string ⟨x.toArray⟩]⟩ 9))) b vb vc hs D ∧
    ∃ w', RuU (Instr.storeAt 86 (.pointer (some (Addr.add (Addr.add ⟨vb, 0, none⟩ i) 0))) (.slice (some ⟨w.heap.size, 0, none⟩) 1 1)) (w.alloc (.cells ⟨[.string ⟨x.toArray⟩]⟩ 9)) w' ∧
      RefIn w' (Gro R w0 w') b vb vc (hs.set i (w.heap.size, 1)) ⟨D.vs.set i [x], D.left⟩ ∧ Mod R w w' := by
  have m1 : Mod No w (w.alloc (.cells ⟨[.string ⟨x.toArray⟩]⟩ 9)) := (Mod.refl No w).alloc _
  have hat : At (w.alloc (.cells ⟨[.string ⟨x.toArray⟩]⟩ 9)) w.heap.size 0 ([x].map strV) := AtU.new.at
  have hs1 : (w.alloc (.cells ⟨[.string ⟨x.toArray⟩]⟩ 9)).heap.size = w.heap.size + 1 := by simp
  generalize w.alloc (.cells ⟨[.string ⟨x.toArray⟩]⟩ 9) = w1 at *
  have h1 := (h.nos m1).widen (R' := Gro R w0 w1) (Gro_mono (by omega)) (gro_lt hR (by omega))
  refine ⟨h1, ?_⟩
  have hb := hR b hrb
  have hvb := hR vb hrv
  obtain ⟨w2, s1, s2, s3⟩ := RefIn_set h1 (R' := Gro R w0 w1) (q' := w.heap.size) (c' := 1) (v' := [x]) hv (fun _ h => h) (.inr ⟨by omega, by omega⟩) h1.lt hat (by omega) (by omega) (by simp) (fun y hy => by simp at hy; subst hy; exact hx) (by simp)
  have hz2 := s3.size
  exact ⟨w2, s1, s2.widen (Gro_mono (by omega)) (gro_lt hR (by omega)), (m1.mono fun _ _ h => h.elim).trans s3 fun y _ e => by subst e; exact hrv⟩
theorem refFlush_c (h : RefIn w R b vb vc hs D) (hsm : Small D) (hk : ∀ w' hs', Mod R w w' → RefIn w' (Gro R w w') b vb vc hs' (flSt D) → K (.int .i64 0) w') : Cal Tryz.prog F_leveeref02_Disk_Flush #[.pointer (some ⟨b, 0, none⟩)] w K := by
  apply C_leveeref02_Disk_Flush
  unfold D_leveeref02_Disk_Flush
  refine refGoes_c h (fun hz => ⟨_, rfl, tt rfl ?_⟩) fun hnz w2 h2 m2 => ⟨_, rfl, ff rfl ?_⟩
  · have e : flSt D = D := by unfold flSt; rw [if_pos hz]
    exact hk w hs (Mod.refl _ _) (by rw [e]; exact h.widen (fun x hx => .inl hx) (gro_lt h.lt (Nat.le_refl _)))
  have eF : flSt D = ⟨D.vs.map fun v => [lastV v], dec D.left⟩ := by unfold flSt; rw [if_neg hnz]
  rw [eF] at hk
  have hhi := h.wf.hi
  have hz2 := m2.size
  have M2 : Mod R w w2 := m2.mono fun x _ e => by subst e; exact h.rb
  generalize hD2 : (⟨D.vs, dec D.left⟩ : St) = D2 at *
  have hvs : D2.vs = D.vs := by rw [← hD2]
  have hn2 : D2.vs.length = D.vs.length := by rw [hvs]
  have hlt2 : D2.left = dec D.left := by rw [← hD2]
  refine ⟨fun x w3 => ∃ (i : Nat) (hs' : List (Nat × Nat)), i ≤ D2.vs.length ∧ x = [.int .i64 i] ∧ RefIn w3 (Gro R w w3) b vb vc hs' (updR D2 (List.range i) fun _ v => lastV v) ∧ Mod R w w3 ∧ w.heap.size ≤ w3.heap.size, fun x _ => (D2.vs.length - nI x 0).toNat,
    ⟨0, hs, by omega, rfl, by rw [List.range_zero, updR_nil]; exact h2.widen (fun x hx => .inl hx) (gro_lt h.lt hz2), M2, hz2⟩, ?_⟩
  rintro x w3 ⟨i, hs', hi, rfl, h3, M3, hz3⟩
  have hn3 : (updR D2 (List.range i) fun _ v => lastV v).vs.length = D2.vs.length := by simp [updR]
  have hrv3 := rv h3
  rw [hn3] at hrv3
  refine ⟨_, rfl, _, rfl, _, _, _, hrv3, cond_of (fun hb => ?_) (fun hb => ?_)⟩
  · have hi : i < D2.vs.length := by have := of_decide_eq_true hb; omega
    have hv : D2.vs[i]? = some D2.vs[i] := by simp [hi]
    have hv3 : (updR D2 (List.range i) fun _ v => lastV v).vs[i]? = some D2.vs[i] := by rw [updR_get hv, if_neg (by simp)]
    have hvm : D2.vs[i] ∈ D.vs := by rw [← hvs]; exact List.getElem_mem hi
    have hvne := (h.wf.ver _ hvm).1
    have hvp := List.length_pos_iff.2 hvne
    have hvl := hsm _ hvm
    have hll : (lastV D2.vs[i]).length = 256 := h2.wf.lastLen hv
    obtain ⟨q, cq, hrow, hcq, hat, _⟩ := rrow h3 hv3
    refine ⟨_, rfl, _, _, _, hrv3, _, idx_blk hi, _, _, _, hrow, _, rfl, ?_⟩
    have h3d := h3.drew
    have hrv3d := rv h3d
    rw [hn3] at hrv3d
    refine ⟨_, _, _, hrv3d, ?_⟩
    rw [wrap64 (x := (D2.vs[i].length : Int) - 1) (by omega) (by omega), show (D2.vs[i].length : Int) - 1 = ((D2.vs[i].length - 1 : Nat) : Int) by omega]
    refine ⟨_, idx_str (by omega), _, strV_get (show At (drew w3) q 0 _ from hat) (last_get hvne), _, _, _, _, built_str _ _, ?_⟩
    have h3g : RefIn (drew w3) (Gro R w (drew w3)) b vb vc hs' (updR D2 (List.range i) fun _ v => lastV v) := h3d
    obtain ⟨h4, w5, s1, s2, s3⟩ := one_row (w0 := w) h.lt h.rb h.rv h3g hz3 hv3 hll
    have hrv4 := rv h4
    rw [hn3] at hrv4
    refine ⟨hrv4, _, idx_blk hi, w5, s1, ?_⟩
    rw [wrap64 (x := (i : Int) + 1) (by omega) (by omega)]
    have M5 : Mod R w w5 := (M3.no (Mod.refl No w3).drew).trans s3 fun _ _ h => h
    refine ⟨⟨i + 1, hs'.set i ((drew w3).heap.size, 1), by omega, rfl, ?_, M5, M5.size⟩, by simp [nI, nth]; omega⟩
    have e := updR_step (ks := List.range i) (f := fun _ v => lastV v) hv
    rw [← List.range_succ] at e
    rw [e] at s2
    exact s2
  · have hik : i = D2.vs.length := by have := of_decide_eq_false hb; omega
    subst hik
    refine hk w3 hs' M3 ?_
    have e : updR D2 (List.range D2.vs.length) (fun _ v => lastV v) = ⟨D.vs.map fun v => [lastV v], dec D.left⟩ := by
      have h1 := updR_all (D := D2) (ks := List.range D2.vs.length) (f := fun _ v => lastV v) (fun i v hv hi => by
        have := (List.getElem?_eq_some_iff.1 hv).1
        simp at hi; omega)
      rw [put1_const] at h1
      exact St_ext (by rw [h1, ← hvs]) hlt2
    rw [e] at h3
    exact h3
end
end Go.Proofs.YtoajelhfiganaaaGreat
end
section
open Go Go.Den Go.Proofs
namespace Go.Proofs.YtoajelhfiganaaaGreat
structure Rs where
  D : St
  base : List Bk
  l : List Ch
  last : Nat
structure WFR (S : Rs) : Prop where
  len : S.base.length = S.D.vs.length
  small : Small S.D
  bl : ∀ b ∈ S.base, b.length = 256
  dat : ∀ x ∈ S.l, 1 ≤ x.data.length ∧ x.frm + x.data.length ≤ 256
  blt : ∀ x ∈ S.l, x.b < S.base.length
  srt : S.l.Pairwise fun x y => x.id < y.id
  idr : ∀ x ∈ S.l, 1 ≤ x.id ∧ x.id ≤ S.last
  aft : ∀ x ∈ S.l, ∀ k ∈ x.after, k < (x.id : Int)
  aftn : ∀ x ∈ S.l, x.after.length ≤ 1000000
  last : S.last ≤ 1000000
theorem WFR.llen {S : Rs} (h : WFR S) : S.l.length ≤ S.last := by
  have hn : (S.l.map (·.id)).Nodup := List.Pairwise.map _ (fun a b h => by have h : a.id < b.id := h; omega) h.srt
  have := List.Nodup.length_le_of_subset hn (l₂ := (List.range S.last).map (· + 1)) fun k hk => by
    obtain ⟨x, hx, rfl⟩ := List.mem_map.1 hk
    have := h.idr x hx
    exact List.mem_map.2 ⟨x.id - 1, List.mem_range.2 (by omega), by omega⟩
  simpa using this
def chV (x : Ch) (h : Option Addr × Nat) : List Value := [.int .i64 x.id, .int .i64 x.b, .int .i64 x.frm, .string ⟨x.data.toArray⟩, .slice h.1 x.after.length h.2, .bool x.out]
def rowL (l : List Ch) (H : List (Option Addr × Nat)) : List Value := (List.zipWith chV l H).flatten
theorem rowL_len : ∀ {l : List Ch} {H : List (Option Addr × Nat)}, H.length = l.length → (rowL l H).length = l.length * 6
  | [], [], _ => rfl
  | x :: l, h :: H, e => by
    have e : H.length = l.length := by simpa using e
    have := rowL_len e
    unfold rowL at this ⊢
    simp only [List.zipWith_cons_cons, List.flatten_cons, List.length_append, this, List.length_cons]
    simp [chV]; omega
theorem rowL_get : ∀ {l : List Ch} {H : List (Option Addr × Nat)} {i : Nat} {x : Ch} {h : Option Addr × Nat}, l[i]? = some x → H[i]? = some h → ((rowL l H).drop (i * 6)).take 6 = chV x h
  | [], _, i, x, h, e, _ => by simp at e
  | _ :: _, [], i, x, h, _, e => by simp at e
  | y :: l, k :: H, 0, x, h, e1, e2 => by
    simp at e1 e2; subst e1; subst e2
    simp [rowL, chV]
  | y :: l, k :: H, i + 1, x, h, e1, e2 => by
    have := rowL_get (l := l) (H := H) (i := i) (x := x) (h := h) (by simpa using e1) (by simpa using e2)
    rw [← this]
    unfold rowL
    rw [List.zipWith_cons_cons, List.flatten_cons, show (i + 1) * 6 = (chV y k).length + i * 6 by simp [chV]; omega, ← List.drop_drop]
    simp
theorem rowL_cell {l : List Ch} {H : List (Option Addr × Nat)} {i j : Nat} {x : Ch} {h : Option Addr × Nat} {v : Value} (h1 : l[i]? = some x) (h2 : H[i]? = some h) (hj : (chV x h)[j]? = some v) : (rowL l H)[i * 6 + j]? = some v := by
  have hj6 : j < 6 := by have := (List.getElem?_eq_some_iff.1 hj).1; simpa [chV] using this
  rw [← rowL_get h1 h2, List.getElem?_take, if_pos hj6, List.getElem?_drop] at hj
  exact hj
structure RIn (w0 : World) (R : Nat → Prop) (rl : Nat → Nat) (w : World) (rp r vb vc : Nat) (hs : List (Nat × Nat)) (ba : Option Addr) (bc : Nat) (la : Option Addr) (lc : Nat) (H : List (Option Addr × Nat)) (S : Rs) : Prop where
  disk : RefIn w (fun x => rl x = 4) r vb vc hs S.D
  cell : AtU w rp 0 [.pointer (some ⟨r, 0, none⟩), .slice ba S.base.length bc, .slice la S.l.length lc, .int .i64 S.last]
  base : Own Tryz.prog w w0.heap.size 86 1 ba S.base.length bc (S.base.map strV)
  row : Own Tryz.prog w w0.heap.size 169 6 la S.l.length lc (rowL S.l H)
  hl : H.length = S.l.length
  aft : ∀ (i : Nat) (x : Ch) (h : Option Addr × Nat), S.l[i]? = some x → H[i]? = some h → Row w h.1 (iL x.after) ∧ (x.after ≠ [] → ∀ q, h.1 = some q → rl q.block = 5)
  rp1 : rl rp = 1
  rba : ∀ q, ba = some q → rl q.block = 2
  rla : ∀ q, la = some q → rl q.block = 3
  wf : WFR S
  reg : ∀ x, rl x ≠ 0 → R x
  lo : ∀ x, R x → w0.heap.size ≤ x ∧ x < w.heap.size
  mod : Mod No w0 w
section
variable {w0 w w' : World} {R : Nat → Prop} {rl : Nat → Nat} {rp r vb vc bc lc : Nat} {hs : List (Nat × Nat)} {ba la : Option Addr} {H : List (Option Addr × Nat)} {S : Rs} {K : Value → World → Prop}
theorem RIn.keepS {Z : Nat → Prop} (h : RIn w0 R rl w rp r vb vc hs ba bc la lc H S) (k : Mod Z w w') (hsr : ∀ x, R x → ¬ Z x) (hw : ∀ x, x < w0.heap.size → ¬ Z x) : RIn w0 R rl w' rp r vb vc hs ba bc la lc H S := by
  have hr : ∀ {x}, rl x ≠ 0 → ¬ Z x := fun hx => hsr _ (h.reg _ hx)
  exact {
    disk := h.disk.keep k fun x hx => hr (by omega)
    cell := h.cell.keep k (hr (by rw [h.rp1]; omega))
    base := h.base.keep k fun q hq => hr (by rw [h.rba q hq]; omega)
    row := h.row.keep k fun q hq => hr (by rw [h.rla q hq]; omega)
    hl := h.hl
    aft := fun i x p h1 h2 => by
      obtain ⟨g1, g2⟩ := h.aft i x p h1 h2
      refine ⟨?_, g2⟩
      by_cases hne : x.after = []
      · rw [hne]; exact .inl rfl
      · exact g1.keep k fun q hq => hr (by rw [g2 hne q hq]; omega)
    rp1 := h.rp1
    rba := h.rba
    rla := h.rla
    wf := h.wf
    reg := h.reg
    lo := fun x hx => by have := h.lo x hx; have := k.size; omega
    mod := h.mod.trans k fun x hx e => absurd e (hw x hx) }
theorem RIn.nos (h : RIn w0 R rl w rp r vb vc hs ba bc la lc H S) (k : Mod No w w') : RIn w0 R rl w' rp r vb vc hs ba bc la lc H S := h.keepS k (fun _ _ => id) fun _ _ => id
theorem RIn.drew (h : RIn w0 R rl w rp r vb vc hs ba bc la lc H S) : RIn w0 R rl (Go.Den.drew w) rp r vb vc hs ba bc la lc H S := h.nos (Mod.refl No w).drew
theorem RIn.widen {R' : Nat → Prop} (h : RIn w0 R rl w rp r vb vc hs ba bc la lc H S) (h1 : ∀ x, R x → R' x) (h2 : ∀ x, R' x → w0.heap.size ≤ x ∧ x < w.heap.size) : RIn w0 R' rl w rp r vb vc hs ba bc la lc H S :=
  { h with reg := fun x hx => h1 x (h.reg x hx), lo := h2 }
theorem RIn.gro (h : RIn w0 R rl w rp r vb vc hs ba bc la lc H S) (k : Mod No w w') : RIn w0 (Gro R w w') rl w' rp r vb vc hs ba bc la lc H S :=
  (h.nos k).widen (fun x hx => .inl hx) fun x hx => by
    have := k.size
    have := h.mod.size
    rcases hx with hx | hx
    · have := h.lo x hx; omega
    · omega
theorem RIn.out_of {x : Nat} (h : RIn w0 R rl w rp r vb vc hs ba bc la lc H S) (hx : w.heap.size ≤ x) : rl x = 0 := by
  by_cases e : rl x = 0
  · exact e
  · have := h.lo x (h.reg x e); omega
theorem RIn.step {Z : Nat → Prop} {rl' : Nat → Nat} {bc' lc' : Nat} {ba' la' : Option Addr} {H' : List (Option Addr × Nat)} {S' : Rs} (h : RIn w0 R rl w rp r vb vc hs ba bc la lc H S) (hD : S'.D = S.D) (k : Mod Z w w') (hx : Ext w w' rl rl')
    (hS : ∀ x, x < w.heap.size → Z x → rl x ≠ 0 ∧ rl x ≠ 4 ∧ rl x ≠ 5)
    (hcell : AtU w' rp 0 [.pointer (some ⟨r, 0, none⟩), .slice ba' S'.base.length bc', .slice la' S'.l.length lc', .int .i64 S'.last])
    (hbase : Own Tryz.prog w' w0.heap.size 86 1 ba' S'.base.length bc' (S'.base.map strV)) (hrow : Own Tryz.prog w' w0.heap.size 169 6 la' S'.l.length lc' (rowL S'.l H')) (hl : H'.length = S'.l.length)
    (haft : ∀ (i : Nat) (x : Ch) (p : Option Addr × Nat), S'.l[i]? = some x → H'[i]? = some p → (∃ (i0 : Nat) (x0 : Ch), S.l[i0]? = some x0 ∧ H[i0]? = some p ∧ x0.after = x.after) ∨ (Row w' p.1 (iL x.after) ∧ (x.after ≠ [] → ∀ q, p.1 = some q → rl' q.block = 5)))
    (hba : ∀ q, ba' = some q → rl' q.block = 2) (hla : ∀ q, la' = some q → rl' q.block = 3) (hwf : WFR S') :
    RIn w0 (Gro R w w') rl' w' rp r vb vc hs ba' bc' la' lc' H' S' where
  disk := by
    rw [hD]
    have e : (fun x => rl' x = 4) = fun x => rl x = 4 := by
      funext x; apply propext
      exact ⟨hx.dsk x, fun e => by rw [hx.old x (by omega)]; exact e⟩
    rw [e]
    exact h.disk.keep k fun x hx e => by
      have := h.lo x (h.reg x (by omega))
      exact (hS x this.2 e).2.1 hx
  cell := hcell
  base := hbase
  row := hrow
  hl := hl
  aft := fun i x p h1 h2 => by
    rcases haft i x p h1 h2 with ⟨i0, x0, e1, e2, e3⟩ | h
    · obtain ⟨g1, g2⟩ := h.aft i0 x0 p e1 e2
      rw [e3] at g1 g2
      refine ⟨?_, fun hne q hq => by rw [hx.old _ (by rw [g2 hne q hq]; omega)]; exact g2 hne q hq⟩
      by_cases hne : x.after = []
      · rw [hne]; exact .inl rfl
      · exact Row.keep2 g1 k fun q hq hlt e => (hS _ hlt e).2.2 (g2 hne q hq)
    · exact h
  rp1 := by rw [hx.old _ (by rw [h.rp1]; omega)]; exact h.rp1
  rba := hba
  rla := hla
  wf := hwf
  reg := fun x hx' => by
    by_cases e : rl x = 0
    · exact .inr (hx.new x e hx')
    · exact .inl (h.reg x e)
  lo := fun x hx => by
    have := k.size
    have := h.mod.size
    rcases hx with hx | hx
    · have := h.lo x hx; omega
    · omega
  mod := h.mod.trans k fun x hx' e => by
    have hsz := h.mod.size
    have := (hS x (by omega) e).1
    have := h.lo x (h.reg x this)
    omega
theorem RIn.dsk {Z : Nat → Prop} {hs' : List (Nat × Nat)} {D' : St} (h : RIn w0 R rl w rp r vb vc hs ba bc la lc H S) (k : Mod Z w w') (hS : ∀ x, Z x → rl x = 4)
    (hd : RefIn w' (Gro (fun x => rl x = 4) w w') r vb vc hs' D') (hsm : Small D') (hn : D'.vs.length = S.D.vs.length) :
    ∃ rl', RIn w0 (Gro R w w') rl' w' rp r vb vc hs' ba bc la lc H { S with D := D' } := by
  classical
  have hz := k.size
  have old : ∀ x, rl x ≠ 0 → x < w.heap.size := fun x hx => (h.lo x (h.reg x hx)).2
  have e4 : (fun x => (if w.heap.size ≤ x ∧ x < w'.heap.size then 4 else rl x) = 4) = Gro (fun x => rl x = 4) w w' := by
    funext x; apply propext
    unfold Gro
    constructor
    · intro e
      split at e
      · right; assumption
      · left; exact e
    · rintro (e | e)
      · have := old x (by omega)
        rw [if_neg (by omega)]; exact e
      · rw [if_pos e]
  have keepr : ∀ {x}, rl x ≠ 0 → (if w.heap.size ≤ x ∧ x < w'.heap.size then 4 else rl x) = rl x := fun {x} hx => by have := old x hx; rw [if_neg (by omega)]
  refine ⟨fun x => if w.heap.size ≤ x ∧ x < w'.heap.size then 4 else rl x, {
    disk := by rw [e4]; exact hd
    cell := h.cell.keep k fun e => by have := hS _ e; rw [h.rp1] at this; omega
    base := h.base.keep k fun q hq e => by have := hS _ e; rw [h.rba q hq] at this; omega
    row := h.row.keep k fun q hq e => by have := hS _ e; rw [h.rla q hq] at this; omega
    hl := h.hl
    aft := fun i x p h1 h2 => by
      obtain ⟨g1, g2⟩ := h.aft i x p h1 h2
      refine ⟨?_, fun hne q hq => by rw [keepr (by rw [g2 hne q hq]; omega)]; exact g2 hne q hq⟩
      by_cases hne : x.after = []
      · rw [hne]; exact .inl rfl
      · exact g1.keep k fun q hq e => by have := hS _ e; rw [g2 hne q hq] at this; omega
    rp1 := by rw [keepr (by rw [h.rp1]; omega)]; exact h.rp1
    rba := fun q hq => by rw [keepr (by rw [h.rba q hq]; omega)]; exact h.rba q hq
    rla := fun q hq => by rw [keepr (by rw [h.rla q hq]; omega)]; exact h.rla q hq
    wf := { h.wf with len := h.wf.len.trans hn.symm, small := hsm }
    reg := fun x hx => by
      by_cases e : w.heap.size ≤ x ∧ x < w'.heap.size
      · exact .inr e
      · rw [if_neg e] at hx; exact .inl (h.reg x hx)
    lo := fun x hx => by
      have := h.mod.size
      rcases hx with hx | hx
      · have := h.lo x hx; omega
      · omega
    mod := h.mod.trans k fun x hx e => by
      have hne : rl x ≠ 0 := by rw [hS x e]; omega
      have := h.lo x (h.reg x hne); omega }⟩
theorem RIn.ld (h : RIn w0 R rl w rp r vb vc hs ba bc la lc H S) : Ru (Instr.loadAt 31 (.pointer (some (Addr.add ⟨rp, 0, none⟩ 0)))) w (.pointer (some ⟨r, 0, none⟩)) w := by
  rw [add_none]; exact h.cell.at.load (by kernel_rfl) rfl
theorem RIn.lb (h : RIn w0 R rl w rp r vb vc hs ba bc la lc H S) : Ru (Instr.loadAt 86 (.pointer (some (Addr.add ⟨rp, 0, none⟩ 1)))) w (.slice ba S.base.length bc) w := by
  rw [add_none]; exact h.cell.at.load (by kernel_rfl) rfl
theorem RIn.ll (h : RIn w0 R rl w rp r vb vc hs ba bc la lc H S) : Ru (Instr.loadAt 169 (.pointer (some (Addr.add ⟨rp, 0, none⟩ 2)))) w (.slice la S.l.length lc) w := by
  rw [add_none]; exact h.cell.at.load (by kernel_rfl) rfl
theorem agg_chg : aggN Tryz.prog 213 = some 6 := by kernel_rfl
theorem RIn.at {i : Nat} {x : Ch} (h : RIn w0 R rl w rp r vb vc hs ba bc la lc H S) (hx : S.l[i]? = some x) : ∃ g p, la = some ⟨g, 0, none⟩ ∧ H[i]? = some p ∧ Al (Instr.indexAt 169 (.slice la S.l.length lc) (.int .i64 i)) (.pointer (some ⟨g, i * 6, none⟩)) ∧
    (∀ (j : Nat) (T : TypeId) (v : Value), scal Tryz.prog T = true → (chV x p)[j]? = some v → Ru (Instr.loadAt T (.pointer (some (Addr.add ⟨g, i * 6, none⟩ j)))) w v w) ∧
    Ru (Instr.loadAt 213 (.pointer (some ⟨g, i * 6, none⟩))) w (.agg ⟨chV x p⟩) w ∧ Row w p.1 (iL x.after) := by
  have hi := (List.getElem?_eq_some_iff.1 hx).1
  obtain ⟨g, rfl, hg, hat⟩ := h.row.sm (by omega)
  obtain ⟨p, hp⟩ : ∃ p, H[i]? = some p := ⟨H[i]'(by rw [h.hl]; exact hi), List.getElem?_eq_getElem (by rw [h.hl]; exact hi)⟩
  refine ⟨g, p, rfl, hp, fun w' => ?_, fun j T v hT hj => ?_, ?_, (h.aft i x p hx hp).1⟩
  · have := index_slice (P := Tryz.prog) (T := 169) (k := 6) (a := ⟨g, 0, none⟩) (n := S.l.length) (c := lc) (kk := .i64) (i := i) (by kernel_rfl) (by omega) (by omega) w'
    rw [add_none, show 0 + (i : Int).toNat * 6 = i * 6 by omega] at this
    exact this
  · rw [add_none]
    have := hat.at.load (P := Tryz.prog) (i := i * 6 + j) hT (rowL_cell hx hp hj)
    rwa [Nat.zero_add] at this
  · have := hat.at.loadAgg (P := Tryz.prog) (i := i * 6) agg_chg (by rw [rowL_len h.hl]; omega)
    rw [rowL_get hx hp, Nat.zero_add] at this
    exact this
theorem rthere_c (h : RIn w0 R rl w rp r vb vc hs ba bc la lc H S) {n : Int} (hk : K (.bool (decide (0 ≤ n ∧ n < S.base.length))) w) : Cal Tryz.prog F_leveeref11_Store_there #[.pointer (some ⟨rp, 0, none⟩), .int .i64 n] w K := by
  apply C_leveeref11_Store_there
  unfold D_leveeref11_Store_there
  refine Share.dup (cond_of (fun hb => ⟨_, rfl, _, _, _, h.lb, _, rfl, ?_⟩) (fun hb => ⟨_, rfl, ?_⟩))
  · have hb := of_decide_eq_true hb
    rw [show decide (n < (S.base.length : Int)) = decide (0 ≤ n ∧ n < S.base.length) by rw [Bool.eq_iff_iff]; simp only [decide_eq_true_eq]; omega]
    exact hk
  · have hb := of_decide_eq_false hb
    rw [show false = decide (0 ≤ n ∧ n < S.base.length) by rw [Bool.eq_iff_iff]; simp; omega]
    exact hk
theorem box_chg (w : World) (cs : List Value) : (Instr.box 213 (.agg ⟨cs⟩)).run Tryz.prog w = .ok (.pointer (some ⟨w.heap.size, 0, none⟩)) (w.alloc (.cells ⟨cs⟩ 213)) := rfl
def meetR (x y : Ch) : Bool := decide (x.b = y.b) && meetB x y
end
end Go.Proofs.YtoajelhfiganaaaGreat
end
section
open Go Go.Den Go.Proofs
namespace Go.Proofs.YtoajelhfiganaaaGreat
section
variable {w0 w w' : World} {R : Nat → Prop} {rl : Nat → Nat} {rp r vb vc bc lc : Nat} {hs : List (Nat × Nat)} {ba la : Option Addr} {H : List (Option Addr × Nat)} {S : Rs} {K : Value → World → Prop}
theorem rLay1_c {a0 a2 : Option Addr} {l0 c0 l2 c2 i : Nat} {b ys : List UInt8} (hb : b.length = l0) (hy : ys.length = l2) (hin : i + l2 ≤ l0) (h63 : l0 ≤ 1048576) (hc : l0 ≤ c0) (h0 : Row w a0 (u8L b)) (h2 : Row w a2 (u8L ys)) (hn0 : a0 ≠ none) (hn2 : a2 ≠ none)
    (hk : ∀ w' a c, Mod No w w' → Own Tryz.prog w' w.heap.size 24 1 a l0 c (u8L (overB b i ys)) → K (.tuple #[.slice a l0 c, .int .i64 0]) w') : Cal Tryz.prog F_leveeref01_Lay #[.slice a0 l0 c0, .int .i64 i, .slice a2 l2 c2] w K := by
  subst hb; subst hy
  apply C_leveeref01_Lay
  unfold D_leveeref01_Lay
  refine Share.cut (fun z w1 => w = w1 ∧ z = [.bool false]) (ff (by simp) (ff (by simp; omega) ⟨rfl, ?_⟩)) ?_
  · rw [wrap64 (x := (b.length : Int) - i) (by omega) (by omega), decide_eq_false (by omega)]
  rintro z w1 ⟨rfl, rfl⟩
  refine ⟨_, rfl, ff rfl ⟨_, _, _, slice_h (k := 1) (by kernel_rfl) (by omega) (by omega), ?_⟩⟩
  rw [show (i : Int).toNat = i by omega]
  have hcut : ∀ k, cutA a0 c0 k 1 ≠ none := fun k => by
    unfold cutA
    split
    · exact hn0
    · obtain ⟨q, rfl⟩ := Option.ne_none_iff_exists'.1 hn0
      simp
  have r1 : Row w (cutA a0 c0 0 1) (u8L (b.take i)) := by
    by_cases hm : i = 0
    · left; rw [hm]; rfl
    · have := h0.sub (i := 0) (m := i) (c := c0) (by omega) hc (by omega)
      rwa [List.drop_zero] at this
  obtain ⟨a3, c3, w2, run2, o2, m2⟩ := (Own.nil (P := Tryz.prog) (w := w) (base := w.heap.size) elemZ_bytes).append' (ty := 24) (m := i) (c2 := c0) elemZ_bytes (by omega) r1 (by simp; omega) (hcut 0) (one_u8L _) (by omega) (by omega) (Nat.le_refl _)
  have M2 : Mod No w w2 := m2.mono fun x _ ⟨q, e, _⟩ => by cases e
  refine ⟨_, _, _, w2, run2, ?_⟩
  have hz2 := M2.size
  obtain ⟨a4, c4, w3, run3, o3, m3⟩ := o2.append' (ty := 24) (m := ys.length) (c2 := c2) elemZ_bytes (by omega) (h2.nos M2) (by simp) hn2 (one_u8L _) (by omega) (by omega) (by omega)
  have M3 : Mod No w w3 := M2.trans m3 fun x hx ⟨q, e, e2⟩ => by have := (o2.base e).1; omega
  refine ⟨_, _, _, w3, run3, ?_⟩
  have hz3 := M3.size
  rw [wrap64 (x := (i : Int) + (ys.length : Int)) (by omega) (by omega)]
  refine ⟨_, _, _, slice_l (k := 1) (by kernel_rfl) (by omega) (by omega), ?_⟩
  rw [show ((i : Int) + (ys.length : Int)).toNat = i + ys.length by omega]
  have r4 : Row w3 (cutA a0 c0 (i + ys.length) 1) (u8L (b.drop (i + ys.length))) := by
    by_cases hm : b.length - (i + ys.length) = 0
    · left; rw [List.drop_eq_nil_of_le (by omega)]; rfl
    · have := (h0.nos M3).sub (i := i + ys.length) (m := b.length - (i + ys.length)) (c := c0) (by omega) hc (by omega)
      rwa [List.take_of_length_le (by simp)] at this
  have hn4 := hcut (i + ys.length)
  obtain ⟨a5, c5, w4, run4, o4, m4⟩ := o3.append' (ty := 24) (m := b.length - (i + ys.length)) (c2 := c0 - (i + ys.length)) elemZ_bytes (by omega) r4 (by simp) hn4 (one_u8L _) (by omega) (by omega) (by omega)
  have M4 : Mod No w w4 := M3.trans m4 fun x hx ⟨q, e, e2⟩ => by have := (o3.base e).1; omega
  refine ⟨_, _, _, w4, run4, ?_⟩
  have hl : 0 + i + ys.length + (b.length - (i + ys.length)) = b.length := by omega
  rw [hl] at o4 ⊢
  refine hk w4 a5 c5 M4 ?_
  have e : [] ++ u8L (b.take i) ++ u8L ys ++ u8L (b.drop (i + ys.length)) = u8L (overB b i ys) := by
    unfold overB u8L; simp
  rwa [e] at o4
theorem upon_c {a0 : Option Addr} {c0 : Nat} {b : Bk} {x : Ch} {p : Option Addr × Nat} (hb : b.length = 256) (hx : x.frm + x.data.length ≤ 256) (hc : 256 ≤ c0) (h0 : Row w a0 (u8L b))
    (hk : ∀ w' a c, Mod No w w' → Own Tryz.prog w' w.heap.size 24 1 a 256 c (u8L (overB b x.frm x.data)) → K (.slice a 256 c) w') : Cal Tryz.prog F_leveeref11_upon #[.slice a0 256 c0, .agg ⟨chV x p⟩] w K := by
  apply C_leveeref11_upon
  unfold D_leveeref11_upon
  refine ⟨_, _, box_chg _ _, ?_⟩
  have a1 : At (w.alloc (.cells ⟨chV x p⟩ 213)) w.heap.size 0 (chV x p) := AtU.new.at
  have m1 : Mod No w (w.alloc (.cells ⟨chV x p⟩ 213)) := (Mod.refl No w).alloc _
  generalize w.alloc (.cells ⟨chV x p⟩ 213) = w1 at *
  have l1 : ∀ (j : Nat) (T : TypeId) (v : Value), scal Tryz.prog T = true → (chV x p)[j]? = some v → Ru (Instr.loadAt T (.pointer (some (Addr.add ⟨w.heap.size, 0, none⟩ j)))) w1 v w1 := fun j T v hT hj => by rw [add_none]; exact a1.load hT hj
  obtain ⟨cc, w2, c1, c2, c3, c4⟩ := bytes_run (P := Tryz.prog) (w := w1) (S := 9) (T := 24) (xs := x.data) (by kernel_rfl)
  refine ⟨_, l1 2 _ _ (by kernel_rfl) rfl, _, l1 3 _ _ (by kernel_rfl) rfl, _, _, _, w2, c1, ?_⟩
  have hz1 := m1.size
  have hz3 := c3.size
  have hn0 : a0 ≠ none := by
    rcases h0 with h0 | ⟨q, o, e, _⟩
    · exact absurd h0 (u8L_ne (fun e => by rw [e] at hb; simp at hb))
    · rw [e]; simp
  refine rLay1_c (b := b) (ys := x.data) hb rfl hx (by omega) hc ((h0.nos m1).nos c3) (.inr ⟨_, _, rfl, c2.at⟩) hn0 (by simp) fun w3 a c m3 o3 => ⟨_, _, _, _, rfl, ?_⟩
  exact hk w3 a c ((m1.no c3).no m3) (o3.mono (by omega))
def rdR (S : Rs) (b : Nat) (f : Ch → Bool) : Bk := withL ((S.base[b]?).getD []) (S.l.filter f)
theorem rdR_take {S : Rs} {b i : Nat} {f : Ch → Bool} (hi : i < S.l.length) : withL ((S.base[b]?).getD []) ((S.l.take (i + 1)).filter f) = if f S.l[i] = true then overB (withL ((S.base[b]?).getD []) ((S.l.take i).filter f)) S.l[i].frm S.l[i].data else withL ((S.base[b]?).getD []) ((S.l.take i).filter f) := by
  rw [List.take_succ_eq_append_getElem hi, List.filter_append]
  split
  · rename_i e
    rw [show [S.l[i]].filter f = [S.l[i]] by simp [e], withL_snoc]
  · rename_i e
    rw [show [S.l[i]].filter f = [] by simp [e], List.append_nil]
theorem RIn.bas (h : RIn w0 R rl w rp r vb vc hs ba bc la lc H S) {b : Nat} (hb : b < S.base.length) : ∃ g, ba = some ⟨g, 0, none⟩ ∧ Al (Instr.indexAt 86 (.slice ba S.base.length bc) (.int .i64 b)) (.pointer (some ⟨g, b, none⟩)) ∧ Ru (Instr.loadAt 9 (.pointer (some ⟨g, b, none⟩))) w (.string ⟨S.base[b].toArray⟩) w ∧ S.base[b].length = 256 := by
  obtain ⟨g, rfl, hg, hat⟩ := h.base.sm (by omega)
  refine ⟨g, rfl, fun w' => ?_, ?_, h.wf.bl _ (List.getElem_mem hb)⟩
  · have := index_slice (P := Tryz.prog) (T := 86) (k := 1) (a := ⟨g, 0, none⟩) (n := S.base.length) (c := bc) (kk := .i64) (i := b) (by kernel_rfl) (by omega) (by omega) w'
    rw [add_none, show 0 + (b : Int).toNat * 1 = b by omega] at this
    exact this
  · have := hat.at.load (P := Tryz.prog) (T := 9) (i := b) (v := strV S.base[b]) (by kernel_rfl) (by simp [hb])
    rwa [Nat.zero_add] at this
theorem rdR_len (h : WFR S) {b n : Nat} {f : Ch → Bool} (hb : b < S.base.length) : (withL ((S.base[b]?).getD []) ((S.l.take n).filter f)).length = 256 := by
  refine withL_len ?_ _ fun x hx => (h.dat x (List.mem_of_mem_take (List.mem_filter.1 hx).1)).2
  rw [List.getElem?_eq_getElem hb]
  exact h.bl _ (List.getElem_mem hb)
theorem srt_uniq {l : List Ch} (h : l.Pairwise fun x y => x.id < y.id) {x y : Ch} (hx : x ∈ l) (hy : y ∈ l) (e : x.id = y.id) : x = y := by
  obtain ⟨i, h1, rfl⟩ := List.getElem_of_mem hx
  obtain ⟨j, h2, rfl⟩ := List.getElem_of_mem hy
  rcases Nat.lt_trichotomy i j with h' | h' | h'
  · have := List.pairwise_iff_getElem.1 h i j h1 h2 h'; omega
  · subst h'; rfl
  · have := List.pairwise_iff_getElem.1 h j i h2 h1 h'; omega
def Mks (S : Rs) (f : Ch → Bool) (i : Nat) (b : Bool) (bs : List Bool) : Prop := bs.length = S.l.length ∧ (∀ j x, j < i → S.l[j]? = some x → bs[j]? = some (f x)) ∧ (i < S.l.length → bs[i]? = some b) ∧ ∀ j, i < j → j < S.l.length → bs[j]? = some false
theorem Mks.set {f : Ch → Bool} {i : Nat} {b b' : Bool} {bs : List Bool} (h : Mks S f i b bs) (hi : i < S.l.length) : Mks S f i b' (bs.set i b') := by
  obtain ⟨h1, h2, h3, h4⟩ := h
  refine ⟨by simpa using h1, fun j x hj hx => ?_, fun _ => ?_, fun j hj hj' => ?_⟩
  · rw [List.getElem?_set_ne (by omega)]; exact h2 j x hj hx
  · rw [List.getElem?_set_self (by omega)]
  · rw [List.getElem?_set_ne (by omega)]; exact h4 j hj hj'
theorem Mks.next {f : Ch → Bool} {i : Nat} {x : Ch} {bs : List Bool} (hx : S.l[i]? = some x) (h : Mks S f i (f x) bs) : Mks S f (i + 1) false bs := by
  obtain ⟨h1, h2, h3, h4⟩ := h
  have hi := (List.getElem?_eq_some_iff.1 hx).1
  refine ⟨h1, fun j y hj hy => ?_, fun hl => h4 _ (by omega) hl, fun j hj hj' => h4 j (by omega) hj'⟩
  by_cases e : j = i
  · subst e; rw [hx] at hy; cases hy; exact h3 hi
  · exact h2 j y (by omega) hy
end
end Go.Proofs.YtoajelhfiganaaaGreat
end
section
open Go Go.Den Go.Proofs
namespace Go.Den
section
variable {P : Program} {w : World}
theorem Own.full {base k bytes l c c2 : Nat} {T ty : TypeId} {a : Option Addr} {ad : Addr} {xs ys : List Value} (hT : elemG P T k bytes) (h : Own P w base T k a l c xs) (hr : Row w (some ad) ys) (hl : ys.length = k)
    (h63 : (l + 1) * bytes ≤ 140737488355328) (hb : 0 < bytes) (hbase : base ≤ w.heap.size) :
    ∃ c' w', (Builtin.append_ #[T, T] ty #[.slice a l l, .slice (some ad) 1 c2]).run P w = .ok (.slice (some ⟨w.heap.size, 0, none⟩) (l + 1) c') w' ∧ Own P w' base T k (some ⟨w.heap.size, 0, none⟩) (l + 1) c' (xs ++ ys) ∧ Mod No w w' ∧ w.heap.size < w'.heap.size := by
  obtain ⟨e, i, zv, he, hi, hsz, hz, hzc, hby⟩ := hT
  obtain ⟨e', he', how⟩ := h
  have : e' = e := by rw [he] at he'; simpa using he'.symm
  subst this
  have hcell : ∀ j u, ys[j]? = some u → w.cell? (ad.add j) = some u := by
    intro j u hj
    rcases hr with hr | ⟨b, o, e, hat⟩
    · subst hr; simp at hj
    · simp at e; subst e; exact hat.cell hj
  have hle : l + 1 ≤ (l + 1) * bytes := Nat.le_mul_of_pos_right _ hb
  have hm : ∀ o : Obj, Mod No w (w.drew.alloc o) := fun o => ((Mod.refl No w).drew (b := w)).alloc o
  have hlen : (xs ++ ys).length = (l + 1) * k := by rw [List.length_append, how.1, hl, Nat.add_mul, Nat.one_mul]
  have hcm : ∀ old, grownCap w (l + 1) old e' ≤ maxLen := fun old => grownCap_le_maxLen w (l + 1) old e' (by simp [maxLen]; omega)
  have hown : ∀ (old : Nat) (arr : Array Value), arr.toList = xs ++ ys → Own P (w.drew.alloc (.cells (arr ++ Builtin.zeroCells zv.cells (grownCap w (l + 1) old e' - (l + 1))) e')) base T k (some ⟨w.heap.size, 0, none⟩) (l + 1) (grownCap w (l + 1) old e') (xs ++ ys) := by
    intro old arr harr
    have hge := grownCap_ge w (l + 1) old e'
    have hasz : arr.size = (l + 1) * k := by rw [← hlen, ← harr, Array.length_toList]
    refine ⟨e', he, hlen, .inr ⟨w.heap.size, _, _, rfl, hbase, heap_new w.drew _, hge, hcm old, ?_, ?_⟩⟩
    · rw [Array.size_append, size_zeroCells, hzc, hasz, ← Nat.add_mul]
      congr 1; omega
    · rw [Array.toList_append, harr, ← hlen]
      exact List.take_left
  rcases how.2 with ⟨hv, hx⟩ | ⟨g, cap, cur, hv, hbg, hg, hnc, hcm', hcs, htake⟩
  · simp at hv
    obtain ⟨rfl, rfl, rfl⟩ := hv
    have hx0 : xs = [] := List.eq_nil_of_length_eq_zero (by have := how.1; omega)
    subst hx0
    have hr2 := run_append_nil (P := P) w T ty e' i zv he hi hz ad 1 c2 ys (by rw [hsz]; omega) hcell (by omega) (by omega) (by rw [hby]; omega)
    refine ⟨_, _, hr2, ?_, hm _, size_drew_alloc _⟩
    have := hown 0 ys.toArray (by simp)
    simpa using this
  · simp at hv
    obtain ⟨rfl, rfl⟩ := hv
    have holds : ∀ j u, xs[j]? = some u → w.cell? ((⟨g, 0, none⟩ : Addr).add j) = some u := how.cells (g := g) rfl
    have hr2 := run_append_grow (P := P) w T ty e' i zv he hi hz ⟨g, 0, none⟩ l l xs (by rw [hsz]; exact how.1) holds ad 1 c2 ys (by rw [hsz]; omega) hcell (by omega) (by omega) (growslice_fits (by omega) (by rw [hby]; exact h63))
    exact ⟨_, _, hr2, hown l (xs.toArray ++ ys.toArray) (by simp), hm _, size_drew_alloc _⟩
end
end Go.Den
namespace Go.Proofs.YtoajelhfiganaaaGreat
def Rx (w0 : World) (R : Nat → Prop) (w : World) (rp r : Nat) (S : Rs) : Prop := ∃ rl vb vc hs ba bc la lc H, RIn w0 R rl w rp r vb vc hs ba bc la lc H S
section
variable {w0 w w' : World} {R : Nat → Prop} {rl : Nat → Nat} {rp r vb vc bc lc : Nat} {hs : List (Nat × Nat)} {ba la : Option Addr} {H : List (Option Addr × Nat)} {S : Rs} {K : Value → World → Prop}
theorem Rx.nos (h : Rx w0 R w rp r S) (k : Mod No w w') : Rx w0 R w' rp r S := by
  obtain ⟨rl, vb, vc, hs, ba, bc, la, lc, H, h⟩ := h; exact ⟨rl, vb, vc, hs, ba, bc, la, lc, H, h.nos k⟩
theorem Rx.keep {Z : Nat → Prop} (h : Rx w0 R w rp r S) (k : Mod Z w w') (hsr : ∀ x, R x → ¬ Z x) (hw : ∀ x, x < w0.heap.size → ¬ Z x) : Rx w0 R w' rp r S := by
  obtain ⟨rl, vb, vc, hs, ba, bc, la, lc, H, h⟩ := h; exact ⟨rl, vb, vc, hs, ba, bc, la, lc, H, h.keepS k hsr hw⟩
theorem Rx.wf (h : Rx w0 R w rp r S) : WFR S ∧ WF S.D ∧ Mod No w0 w ∧ ∀ x, R x → w0.heap.size ≤ x ∧ x < w.heap.size := by
  obtain ⟨rl, vb, vc, hs, ba, bc, la, lc, H, h⟩ := h; exact ⟨h.wf, h.disk.wf, h.mod, h.lo⟩
theorem Rx.gro (h : Rx w0 R w rp r S) (k : Mod No w w') : Rx w0 (Gro R w w') w' rp r S := by
  obtain ⟨rl, vb, vc, hs, ba, bc, la, lc, H, h⟩ := h; exact ⟨rl, vb, vc, hs, ba, bc, la, lc, H, h.gro k⟩
def patER (S : Rs) (n frm : Int) (data : Bk) (after : List Int) : Int :=
  if ¬ (0 ≤ n ∧ n < S.base.length) then 3 else if data.length = 0 ∨ frm < 0 ∨ 256 < frm ∨ 256 - frm < data.length then 4 else if after.any (fun k => !decide (1 ≤ k ∧ k ≤ (S.last : Int))) = true then 1 else 0
def newR (S : Rs) (n frm : Int) (data : Bk) (after : List Int) : Ch := ⟨S.last + 1, n.toNat, frm.toNat, data, after, false⟩
theorem WFR.add {n frm : Int} {data : Bk} {after : List Int} (h : WFR S) (he : patER S n frm data after = 0) (ha6 : after.length ≤ 1000000) (hl : S.last + 1 ≤ 1000000) : WFR { S with last := S.last + 1, l := S.l ++ [newR S n frm data after] } := by
  unfold patER at he
  split at he
  · omega
  rename_i h1
  split at he
  · omega
  rename_i h2
  split at he
  · omega
  rename_i h3
  have hmem : ∀ {x : Ch}, x ∈ S.l ++ [newR S n frm data after] → x ∈ S.l ∨ x = newR S n frm data after := fun hx => by
    rcases List.mem_append.1 hx with hx | hx
    · exact .inl hx
    · exact .inr (List.mem_singleton.1 hx)
  exact {
    len := h.len
    small := h.small
    bl := h.bl
    dat := fun x hx => by
      rcases hmem hx with hx | rfl
      · exact h.dat x hx
      · show 1 ≤ data.length ∧ frm.toNat + data.length ≤ 256
        omega
    blt := fun x hx => by
      rcases hmem hx with hx | rfl
      · exact h.blt x hx
      · show n.toNat < S.base.length
        omega
    srt := by
      rw [List.pairwise_append]
      refine ⟨h.srt, List.pairwise_singleton _ _, fun x hx y hy => ?_⟩
      rw [List.mem_singleton.1 hy]
      have := h.idr x hx
      show x.id < S.last + 1
      omega
    idr := fun x hx => by
      rcases hmem hx with hx | rfl
      · have := h.idr x hx
        show 1 ≤ x.id ∧ x.id ≤ S.last + 1
        omega
      · show 1 ≤ S.last + 1 ∧ S.last + 1 ≤ S.last + 1
        omega
    aft := fun x hx k hk => by
      rcases hmem hx with hx | rfl
      · exact h.aft x hx k hk
      · have hk : k ∈ after := hk
        have h3 : ∀ k ∈ after, 1 ≤ k ∧ k ≤ (S.last : Int) := by simpa using h3
        have := h3 k hk
        show k < ((S.last + 1 : Nat) : Int)
        omega
    aftn := fun x hx => by
      rcases hmem hx with hx | rfl
      · exact h.aftn x hx
      · exact ha6
    last := hl }
end
end Go.Proofs.YtoajelhfiganaaaGreat
end
section
open Go Go.Den Go.Proofs
namespace Go.Proofs.YtoajelhfiganaaaGreat
section
variable {w0 w w' : World} {R : Nat → Prop} {rl : Nat → Nat} {rp r vb vc bc lc : Nat} {hs : List (Nat × Nat)} {ba la : Option Addr} {H : List (Option Addr × Nat)} {S : Rs} {K : Value → World → Prop}
theorem WFR.map {f : Ch → Ch} (h : WFR S) (hf : Like f) : WFR { S with l := S.l.map f } := by
  have hm : ∀ {y : Ch}, y ∈ S.l.map f → ∃ x ∈ S.l, y = f x := fun hy => by obtain ⟨x, hx, rfl⟩ := List.mem_map.1 hy; exact ⟨x, hx, rfl⟩
  exact {
    len := h.len
    small := h.small
    bl := h.bl
    dat := fun y hy => by obtain ⟨x, hx, rfl⟩ := hm hy; rw [hf.data, hf.frm]; exact h.dat x hx
    blt := fun y hy => by obtain ⟨x, hx, rfl⟩ := hm hy; rw [hf.b]; exact h.blt x hx
    srt := List.Pairwise.map _ (fun a b hab => by rw [hf.id, hf.id]; exact hab) h.srt
    idr := fun y hy => by obtain ⟨x, hx, rfl⟩ := hm hy; rw [hf.id]; exact h.idr x hx
    aft := fun y hy => by obtain ⟨x, hx, rfl⟩ := hm hy; rw [hf.after, hf.id]; exact h.aft x hx
    aftn := fun y hy => by obtain ⟨x, hx, rfl⟩ := hm hy; rw [hf.after]; exact h.aftn x hx
    last := h.last }
theorem WFR.dsk {D : St} (h : WFR S) (hs : Small D) (hn : D.vs.length = S.D.vs.length) : WFR { S with D := D } := { h with len := h.len.trans hn.symm, small := hs }
theorem Rx.dsk {Z : Nat → Prop} {rl : Nat → Nat} {hs' : List (Nat × Nat)} {D' : St} (h : RIn w0 R rl w rp r vb vc hs ba bc la lc H S) (k : Mod Z w w') (hS : ∀ x, Z x → rl x = 4)
    (hd : RefIn w' (Gro (fun x => rl x = 4) w w') r vb vc hs' D') (hsm : Small D') (hn : D'.vs.length = S.D.vs.length) : Rx w0 (Gro R w w') w' rp r { S with D := D' } := by
  obtain ⟨rl', h'⟩ := h.dsk k hS hd hsm hn
  exact ⟨rl', vb, vc, hs', ba, bc, la, lc, H, h'⟩
def basR (S : Rs) (l : List Ch) : List Bk := S.base.mapIdx fun b x => withL x (l.filter fun c => decide (c.b = b) && c.out)
theorem basR_len (S : Rs) (l : List Ch) : (basR S l).length = S.base.length := by unfold basR; simp
theorem basR_get {S : Rs} {l : List Ch} {b : Nat} (hb : b < S.base.length) : (basR S l)[b]? = some (withL S.base[b] (l.filter fun c => decide (c.b = b) && c.out)) := by
  unfold basR
  rw [List.getElem?_mapIdx, List.getElem?_eq_getElem hb]; rfl
theorem withL_256 {b : Bk} {l : List Ch} (hb : b.length = 256) (hl : ∀ x ∈ l, x.frm + x.data.length ≤ 256) : (withL b l).length = 256 := withL_len hb l hl
theorem WFR.base {l : List Ch} (h : WFR S) (hl : ∀ x ∈ l, x ∈ S.l) : WFR { S with base := basR S l } := { h with
  len := by rw [← h.len]; exact basR_len S l
  bl := fun b hb => by
    have hb : b ∈ basR S l := hb
    obtain ⟨i, hi, rfl⟩ := List.getElem_of_mem hb
    rw [basR_len] at hi
    have := basR_get (l := l) hi
    rw [List.getElem?_eq_getElem (by rw [basR_len]; exact hi)] at this
    rw [Option.some.inj this]
    exact withL_256 (h.bl _ (List.getElem_mem hi)) fun x hx => (h.dat x (hl x (List.mem_filter.1 hx).1)).2
  blt := fun x hx => by
    show x.b < (basR S l).length
    rw [basR_len]; exact h.blt x hx }
theorem WFR.sub {p : Ch → Bool} (h : WFR S) : WFR { S with l := S.l.filter p } := { h with
  dat := fun x hx => h.dat x (List.mem_filter.1 hx).1
  blt := fun x hx => h.blt x (List.mem_filter.1 hx).1
  srt := h.srt.filter p
  idr := fun x hx => h.idr x (List.mem_filter.1 hx).1
  aft := fun x hx => h.aft x (List.mem_filter.1 hx).1
  aftn := fun x hx => h.aftn x (List.mem_filter.1 hx).1 }
end
end Go.Proofs.YtoajelhfiganaaaGreat
end
section
open Go Go.Den Go.Proofs
namespace Go.Proofs.YtoajelhfiganaaaGreat
def cloR : List Ch → List Int → List Int
  | [], _ => []
  | x :: r, acc => if acc.contains (x.id : Int) = true then cloR r (acc ++ x.after ++ (r.filter fun y => meetR y x).map fun y => (y.id : Int)) ++ [(x.id : Int)] else cloR r acc
def waitsL (l : List Ch) (n : Int) : List Int := cloR l.reverse [n]
theorem cloR_skip {l : List Ch} {x : Ch} {acc : List Int} (h : acc.contains (x.id : Int) = false) : cloR (x :: l) acc = cloR l acc := by
  rw [cloR, if_neg (by rw [h]; simp)]
section
variable {w0 w w' : World} {R : Nat → Prop} {rl : Nat → Nat} {rp r vb vc bc lc : Nat} {hs : List (Nat × Nat)} {ba la : Option Addr} {H : List (Option Addr × Nat)} {S : Rs} {K : Value → World → Prop}
structure Wm (S : Rs) (n : Int) (i : Nat) (bs : List Bool) (acc : List Int) : Prop where
  len : bs.length = S.l.length
  lo : ∀ (j : Nat) (x : Ch), j < i → S.l[j]? = some x → bs[j]? = some (acc.contains (x.id : Int))
  out : waitsL S.l n = cloR (S.l.take i).reverse acc ++ ((S.l.zip bs).drop i |>.filter (·.2)).map fun p => (p.1.id : Int)
theorem take_rev {l : List Ch} {i : Nat} (hi : i < l.length) : (l.take (i + 1)).reverse = l[i] :: (l.take i).reverse := by
  rw [List.take_succ_eq_append_getElem hi, List.reverse_append]; rfl
theorem zdrop (l : List Ch) (bs : List Bool) (i : Nat) : (l.zip bs).drop i = (l.drop i).zip (bs.drop i) := by unfold List.zip; exact List.drop_zipWith
theorem zip_drop {l : List Ch} {bs : List Bool} {i : Nat} {x : Ch} {b : Bool} (hx : l[i]? = some x) (hb : bs[i]? = some b) : (l.zip bs).drop i = (x, b) :: (l.zip bs).drop (i + 1) := by
  have hz : (l.zip bs)[i]? = some (x, b) := by rw [List.getElem?_zip_eq_some]; exact ⟨hx, hb⟩
  obtain ⟨hi, e⟩ := List.getElem?_eq_some_iff.1 hz
  rw [List.drop_eq_getElem_cons hi, e]
theorem Wm.start {k : Nat} {x : Ch} (hw : WFR S) (hx : S.l[k]? = some x) : Wm S x.id (k + 1) ((List.replicate S.l.length false).set k true) [(x.id : Int)] := by
  have hk := (List.getElem?_eq_some_iff.1 hx).1
  refine ⟨by simp, fun j y hj hy => ?_, ?_⟩
  · have hjl := (List.getElem?_eq_some_iff.1 hy).1
    by_cases e : j = k
    · subst e
      rw [List.getElem?_set_self (by simpa using hk)]
      rw [hx] at hy; cases hy; simp
    · rw [List.getElem?_set_ne (fun e' => e e'.symm), List.getElem?_replicate, if_pos hjl]
      have : y.id ≠ x.id := fun e2 => e (by
        have := srt_uniq hw.srt (List.mem_of_getElem? hy) (List.mem_of_getElem? hx) e2
        subst this
        obtain ⟨h1, e1⟩ := List.getElem?_eq_some_iff.1 hx
        obtain ⟨h3, e3⟩ := List.getElem?_eq_some_iff.1 hy
        rcases Nat.lt_trichotomy j k with h | h | h
        · have := List.pairwise_iff_getElem.1 hw.srt j k h3 h1 h; rw [e1, e3] at this; omega
        · exact h
        · have := List.pairwise_iff_getElem.1 hw.srt k j h1 h3 h; rw [e1, e3] at this; omega)
      congr 1
      symm
      rw [Bool.eq_false_iff]
      intro hc
      rw [List.contains_iff_mem, List.mem_singleton] at hc
      omega
  · have e2 : ((S.l.zip ((List.replicate S.l.length false).set k true)).drop (k + 1)).filter (·.2) = [] := by
      rw [List.filter_eq_nil_iff]
      intro p hp
      obtain ⟨j, hj, rfl⟩ := List.getElem_of_mem hp
      have hg := List.getElem?_eq_getElem hj
      rw [List.getElem?_drop, List.getElem?_zip_eq_some, List.getElem?_set_ne (by omega), List.getElem?_replicate] at hg
      have hg2 := hg.2
      split at hg2
      · rw [← Option.some.inj hg2]; simp
      · cases hg2
    rw [e2, List.map_nil, List.append_nil]
    -- those behind it are not wanted
    have key : ∀ m, k + 1 ≤ m → m ≤ S.l.length → cloR (S.l.take m).reverse [(x.id : Int)] = cloR (S.l.take (k + 1)).reverse [(x.id : Int)] := by
      intro m hm
      induction m with
      | zero => omega
      | succ m ih =>
        intro hml
        by_cases e : m = k
        · subst e; rfl
        · rw [take_rev (by omega), cloR_skip, ih (by omega) (by omega)]
          have hlt := List.pairwise_iff_getElem.1 hw.srt k m hk (by omega) (by omega)
          have hxe : S.l[k] = x := by rw [List.getElem?_eq_getElem hk] at hx; exact Option.some.inj hx
          rw [hxe] at hlt
          rw [Bool.eq_false_iff]
          intro hc
          rw [List.contains_iff_mem, List.mem_singleton] at hc
          omega
    have := key S.l.length (by omega) (Nat.le_refl _)
    rw [List.take_length] at this
    exact this
theorem Wm.take (hw : WFR S) {n : Int} {i : Nat} {bs bs' : List Bool} {acc : List Int} {x : Ch} (h : Wm S n (i + 1) bs acc) (hx : S.l[i]? = some x) (hb : bs[i]? = some true) (hl : bs'.length = S.l.length)
    (hlo : ∀ (j : Nat) (y : Ch), j < i → S.l[j]? = some y → bs'[j]? = some (acc.contains (y.id : Int) || x.after.contains (y.id : Int) || meetR y x)) (hhi : ∀ j, i ≤ j → bs'[j]? = bs[j]?) :
    Wm S n i bs' (acc ++ x.after ++ ((S.l.take i).reverse.filter fun y => meetR y x).map fun y => (y.id : Int)) := by
  have hc : acc.contains (x.id : Int) = true := by
    have := h.lo i x (by omega) hx
    rw [hb] at this; exact (Option.some.inj this).symm
  obtain ⟨hi, e⟩ := List.getElem?_eq_some_iff.1 hx
  refine ⟨hl, fun j y hj hy => ?_, ?_⟩
  · rw [hlo j y hj hy]
    congr 1
    rw [Bool.eq_iff_iff, Bool.or_eq_true, Bool.or_eq_true, List.contains_iff_mem, List.contains_iff_mem, List.contains_iff_mem, List.mem_append, List.mem_append]
    refine or_congr_right ?_
    rw [List.mem_map]
    have hym : y ∈ (S.l.take i).reverse := by
      rw [List.mem_reverse]
      obtain ⟨hj2, e2⟩ := List.getElem?_eq_some_iff.1 hy
      rw [List.mem_take_iff_getElem]
      exact ⟨j, by omega, e2⟩
    constructor
    · intro hm; exact ⟨y, List.mem_filter.2 ⟨hym, hm⟩, rfl⟩
    · rintro ⟨z, hz, ez⟩
      obtain ⟨hz1, hz2⟩ := List.mem_filter.1 hz
      have : z = y := srt_uniq hw.srt (List.mem_of_mem_take (List.mem_reverse.1 hz1)) (List.mem_of_getElem? hy) (by omega)
      rw [← this]; exact hz2
  · rw [h.out, take_rev hi, e, cloR, if_pos hc, zip_drop hx (by rw [hhi i (Nat.le_refl _)]; exact hb)]
    have e3 : (S.l.zip bs').drop (i + 1) = (S.l.zip bs).drop (i + 1) := by
      rw [zdrop, zdrop]
      congr 1
      refine List.ext_getElem? fun k => ?_
      rw [List.getElem?_drop, List.getElem?_drop, hhi _ (by omega)]
    rw [e3, List.append_assoc]; rfl
def newRs (D : St) : Rs := ⟨D, (List.range D.vs.length).map fun b => atD D b, [], 0⟩
end
end Go.Proofs.YtoajelhfiganaaaGreat
end
section
open Go Go.Den Go.Proofs
namespace Go.Proofs.YtoajelhfiganaaaGreat
def rootN : Nd := ⟨2, 1, 0, 1, [0, 0, 0, 0, 0, 0, 0, 0]⟩
theorem rootN_wf : nWf rootN := rfl
theorem rootN_ok : nOk rootN = true := by decide
def volB (g : Gm) (k i : Nat) : Bk := if i = 0 then grpB g (hBase g k) else if k = 0 ∧ i = 1 then overB zeroB 64 (inoB rootN) else zeroB
def volX (g : Gm) (k i : Nat) : Int × Bk := (2 + k * g.gr + i, volB g k i)
def volG (g : Gm) (k n : Nat) : List (Int × Bk) := (List.range n).map (volX g k)
def volN (g : Gm) : Nat := 1 + (gTabs g).toNat
def volL (g : Gm) (n : Nat) : List (Int × Bk) := (List.range n).flatMap fun k => volG g k (volN g)
def wrAll (D : St) (l : List (Int × Bk)) : St := l.foldl (fun D x => wrSt D x.1 x.2) D
def fmt0 (D : St) : St := flSt (wrSt (wrSt D 0 zeroB) 1 zeroB)
def fmt1 (D : St) (g : Gm) : St := flSt (wrAll (fmt0 D) (volL g g.gs.toNat))
def fmtSt (D : St) (g : Gm) : St := flSt (wrSt (fmt1 D g) 1 (supB ⟨1, g⟩))
def fmtE (D : St) (g : Gm) : Int := if gOk g = false then 1 else if (D.vs.length : Int) < gSize g then 4 else 0
theorem zeroB_len : zeroB.length = 256 := List.length_replicate
theorem volB_len (g : Gm) (k i : Nat) : (volB g k i).length = 256 := by
  unfold volB
  split
  · exact grpB_len (hBase_wf _ _)
  split
  · rw [overB_len (by rw [inoB_len rootN_wf, zeroB_len]; omega), zeroB_len]
  · exact zeroB_len
theorem volG_succ (g : Gm) (k n : Nat) : volG g k (n + 1) = volG g k n ++ [volX g k n] := by
  unfold volG; rw [List.range_succ, List.map_append]; rfl
theorem volL_succ (g : Gm) (n : Nat) : volL g (n + 1) = volL g n ++ volG g n (volN g) := by
  unfold volL; rw [List.range_succ, List.flatMap_append]; simp
theorem wrAll_snoc (D : St) (l : List (Int × Bk)) (x : Int × Bk) : wrAll D (l ++ [x]) = wrSt (wrAll D l) x.1 x.2 := by
  unfold wrAll; rw [List.foldl_append]; rfl
theorem wrAll_app (D : St) (l m : List (Int × Bk)) : wrAll D (l ++ m) = wrAll (wrAll D l) m := List.foldl_append
theorem wrSt_len (D : St) (n : Int) (ys : Bk) : (wrSt D n ys).vs.length = D.vs.length := by
  unfold wrSt; split
  · rfl
  · simp
theorem wrSt_run {D : St} (h : D.left = -1) (n : Int) (ys : Bk) : (wrSt D n ys).left = -1 := by
  unfold wrSt; split
  · exact h
  · show dec D.left = -1; rw [h]; rfl
theorem flSt_len (D : St) : (flSt D).vs.length = D.vs.length := by
  unfold flSt; split
  · rfl
  · simp
theorem flSt_run {D : St} (h : D.left = -1) : (flSt D).left = -1 := by
  unfold flSt; split
  · exact h
  · show dec D.left = -1; rw [h]; rfl
theorem wrAll_len (D : St) (l : List (Int × Bk)) : (wrAll D l).vs.length = D.vs.length := by
  induction l generalizing D with
  | nil => rfl
  | cons x l ih => exact (ih _).trans (wrSt_len _ _ _)
theorem wrAll_run {D : St} (h : D.left = -1) (l : List (Int × Bk)) : (wrAll D l).left = -1 := by
  induction l generalizing D with
  | nil => exact h
  | cons x l ih => exact ih (wrSt_run h _ _)
theorem Bnd_all {D : St} {m : Nat} (h : Bnd D m) (l : List (Int × Bk)) : Bnd (wrAll D l) (m + l.length) := by
  induction l generalizing D m with
  | nil => exact h
  | cons x l ih =>
    have := ih (Bnd_wr h x.1 x.2)
    rw [List.length_cons]
    exact this.mono (by omega)
theorem volG_len (g : Gm) (k n : Nat) : (volG g k n).length = n := by simp [volG]
theorem volN_b {g : Gm} (h : gOk g = true) : (volN g : Int) = 1 + g.no / 4 ∧ volN g ≤ 17 := by
  have e : gTabs g = g.no / 4 := by unfold gTabs; rw [if_pos h]
  obtain ⟨_, _, _, _, h5, h6, _⟩ := gOk_iff.1 h
  unfold volN
  rw [e]
  constructor <;> omega
theorem volL_len {g : Gm} (h : gOk g = true) (n : Nat) : (volL g n).length ≤ 17 * n := by
  induction n with
  | zero => exact Nat.le_refl _
  | succ n ih =>
    have := (volN_b h).2
    rw [volL_succ, List.length_append, volG_len]; omega
theorem volX_in {g : Gm} (h : gOk g = true) {k i n : Nat} (hk : (k : Int) < g.gs) (hi : i < volN g) (hn : gSize g ≤ n) : 2 ≤ (volX g k i).1 ∧ (volX g k i).1 < n := by
  have hv := (volN_b h).1
  have e : gSize g = 2 + g.gs * g.gr := by unfold gSize; rw [if_pos h]
  obtain ⟨h1, h2, h3, h4, h5, h6, h7, h8, h9⟩ := gOk_iff.1 h
  have hmul : ((k : Int) + 1) * g.gr ≤ g.gs * g.gr := Int.mul_le_mul_of_nonneg_right (by omega) (by omega)
  have hp : 0 ≤ (k : Int) * g.gr := Int.mul_nonneg (by omega) (by omega)
  have hs : ((k : Int) + 1) * g.gr = k * g.gr + g.gr := by rw [Int.add_mul, Int.one_mul]
  show 2 ≤ 2 + (k : Int) * g.gr + i ∧ 2 + (k : Int) * g.gr + i < n
  omega
theorem fmt0_run {D : St} (h : D.left = -1) : (fmt0 D).left = -1 := flSt_run (wrSt_run (wrSt_run h _ _) _ _)
theorem fmt0_len (D : St) : (fmt0 D).vs.length = D.vs.length := by unfold fmt0; rw [flSt_len, wrSt_len, wrSt_len]
theorem fmt1_run {D : St} (h : D.left = -1) (g : Gm) : (fmt1 D g).left = -1 := flSt_run (wrAll_run (fmt0_run h) _)
theorem fmt1_len (D : St) (g : Gm) : (fmt1 D g).vs.length = D.vs.length := by unfold fmt1; rw [flSt_len, wrAll_len, fmt0_len]
theorem fmtSt_run {D : St} (h : D.left = -1) (g : Gm) : (fmtSt D g).left = -1 := flSt_run (wrSt_run (fmt1_run h g) _ _)
theorem fmtSt_len (D : St) (g : Gm) : (fmtSt D g).vs.length = D.vs.length := by unfold fmtSt; rw [flSt_len, wrSt_len, fmt1_len]
theorem fmt0_bnd {D : St} (h : D.left = -1) : Bnd (fmt0 D) 1 := Bnd_fl (wrSt_run (wrSt_run h _ _) _ _) (Nat.le_refl _)
theorem fmt1_bnd {D : St} (h : D.left = -1) (g : Gm) : Bnd (fmt1 D g) 1 := Bnd_fl (wrAll_run (fmt0_run h) _) (Nat.le_refl _)
theorem fmtSt_bnd {D : St} (h : D.left = -1) (g : Gm) : Bnd (fmtSt D g) 1 := Bnd_fl (wrSt_run (fmt1_run h g) _ _) (Nat.le_refl _)
def headAt (D : St) (g : Gm) (k : Int) : Hd × Int := if (gHead g k).2 ≠ 0 then (hZ, (gHead g k).2) else hGet g (rdB D (gHead g k).1)
def slotAt (D : St) (g : Gm) (s : Int) : Nd × Int := if (gPlace g s).2.2 ≠ 0 then (nZ, (gPlace g s).2.2) else inoAt (rdB D (gPlace g s).1) (gPlace g s).2.1
theorem headAt_wf (D : St) (g : Gm) (k : Int) : hWf (headAt D g k).1 := by unfold headAt; split; exact hZ_wf; exact hGet_wf _ _
theorem slotAt_wf (D : St) (g : Gm) (s : Int) : nWf (slotAt D g s).1 := by unfold slotAt; split; exact nZ_wf; exact inoAt_wf _ _
def headOk (D : St) (g : Gm) (k : Nat) : Bool := decide ((headAt D g k).2 = 0 ∧ (headAt D g k).1.no = k)
def rootOk (D : St) (g : Gm) : Bool := decide ((slotAt D g 1).2 = 0 ∧ (slotAt D g 1).1.kind = 2)
def mntOk (D : St) (g : Gm) : Bool := (List.range g.gs.toNat).all (headOk D g) && rootOk D g
def mntS (D : St) : Sp × Int × Int := supChoose (rdB D 0) (rdB D 1) D.vs.length
def mnt (D : St) : Sp × Int := if (mntS D).2.2 ≠ 0 then (sZ, (mntS D).2.2) else if mntOk D (mntS D).1.geo = true then ((mntS D).1, 0) else (sZ, 8)
def nextTo (D : St) (g : Gm) : Nat → Int
  | 0 => 0
  | n + 1 => if (slotAt D g n).1.id > nextTo D g n then (slotAt D g n).1.id else nextTo D g n
theorem nextTo_nn (D : St) (g : Gm) : ∀ n, 0 ≤ nextTo D g n
  | 0 => Int.le_refl _
  | n + 1 => by
    have := nextTo_nn D g n
    unfold nextTo
    split <;> omega
theorem inoG_id (xs : List UInt8) : 0 ≤ (inoG xs).1.id ∧ (inoG xs).1.id ≤ 4611686018427387904 := by
  unfold inoG
  split
  · decide
  split
  · rename_i h
    have := nOk_b h.2.2
    exact ⟨this.2.2.2.2.2.2.1, this.2.2.2.2.2.2.2.1⟩
  · decide
theorem nZ_id : 0 ≤ nZ.id ∧ nZ.id ≤ 4611686018427387904 := by decide
theorem slotAt_id (D : St) (g : Gm) (s : Int) : 0 ≤ (slotAt D g s).1.id ∧ (slotAt D g s).1.id ≤ 4611686018427387904 := by
  unfold slotAt
  split
  · exact nZ_id
  unfold inoAt
  split
  · exact nZ_id
  · exact inoG_id _
theorem nextTo_b (D : St) (g : Gm) : ∀ n, nextTo D g n ≤ 4611686018427387904
  | 0 => by show (0 : Int) ≤ _; decide
  | n + 1 => by
    have := nextTo_b D g n
    have := (slotAt_id D g n).2
    unfold nextTo
    split <;> omega
theorem hOk_base {g : Gm} (h : gOk g = true) {k : Int} (h0 : 0 ≤ k) (h1 : k < g.gs) : hOk g (hBase g k) = true := by
  have hv := volN_b h
  have hn : 1 + (gTabs g).toNat = volN g := rfl
  obtain ⟨g1, g2, g3, g4, g5, g6, g7, g8, g9⟩ := gOk_iff.1 h
  refine hOk_iff.2 ⟨h, ⟨h0, h1⟩, fun i hi => ⟨fun e => ?_, fun e => ?_⟩, fun i hi => ⟨fun e => ?_, fun e e2 => ?_⟩⟩
  · show bitB (baseB (1 + (gTabs g).toNat)) i = true
    rw [hn, bitB_base (by omega), decide_eq_true_iff]; omega
  · show bitB (baseB (1 + (gTabs g).toNat)) i = false
    rw [hn, bitB_base (by omega), decide_eq_false_iff_not]; omega
  · show bitB (baseS k) i = false
    rw [bitB_baseS, Bool.and_eq_false_iff, decide_eq_false_iff_not, decide_eq_false_iff_not]; omega
  · show bitB (baseS k) i = true
    have e1 : k = 0 := e
    rw [bitB_baseS, decide_eq_true e1, decide_eq_true e2]; rfl
theorem wrE_in {D : St} {n : Int} {ys : Bk} (h0 : 0 ≤ n) (h1 : n < D.vs.length) (h : ys.length = 256) : wrE D n ys = 0 := by
  have e : errOf D n = 0 := by unfold errOf; rw [if_neg (by omega)]
  unfold wrE
  rw [e, if_neg (by decide), if_neg (by omega)]
end Go.Proofs.YtoajelhfiganaaaGreat
end
section
open Go Go.Den Go.Proofs
namespace Go.Proofs.YtoajelhfiganaaaGreat
def Dx (wb : World) (R0 : Nat → Prop) (N : Nat) (w : World) (d : Nat) (D : St) : Prop :=
  ∃ R sb mb sc L, DiskIn w R d sb mb sc L D ∧ (∀ x, R x → (R0 x ∨ wb.heap.size ≤ x) ∧ x < N) ∧ Mod R0 wb w ∧ N ≤ w.heap.size
section
variable {wb w w' : World} {R0 : Nat → Prop} {N d : Nat} {D : St} {K : Value → World → Prop}
theorem Dx.nos (h : Dx wb R0 N w d D) (m : Mod No w w') : Dx wb R0 N w' d D := by
  obtain ⟨R, sb, mb, sc, L, h1, h2, h3, h4⟩ := h
  exact ⟨R, sb, mb, sc, L, h1.nos m, h2, h3.no m, Nat.le_trans h4 m.size⟩
theorem Dx.mod (h : Dx wb R0 N w d D) : Mod R0 wb w := by obtain ⟨_, _, _, _, _, _, _, h, _⟩ := h; exact h
theorem Dx.size (h : Dx wb R0 N w d D) : N ≤ w.heap.size := by obtain ⟨_, _, _, _, _, _, _, _, h⟩ := h; exact h
theorem Dx.wf (h : Dx wb R0 N w d D) : WF D := by obtain ⟨_, _, _, _, _, h, _⟩ := h; exact h.wf
theorem Dx.start {R : Nat → Prop} {sb mb sc : Nat} {L : List (Int × Value)} (h : DiskIn w R d sb mb sc L D) (m : Mod No w wb) : Dx wb R w.heap.size wb d D :=
  ⟨R, sb, mb, sc, L, h.nos m, fun x hx => ⟨.inl hx, h.lt x hx⟩, Mod.refl _ _, m.size⟩
theorem Dx.write (h : Dx wb R0 N w d D) (hs : ∀ v ∈ D.vs, v.length ≤ 999999) {n : Int} {a : Option Addr} {l c : Nat} {ys : List UInt8} (hl : ys.length = l) (hr : Row w a (u8L ys)) (hdis : ∀ q, a = some q → N ≤ q.block)
    (hk : ∀ w', Dx wb R0 w'.heap.size w' d (wrSt D n ys) → K (.int .i64 (wrE D n ys)) w') : Cal Tryz.prog F_disk_Disk_Write #[.pointer (some ⟨d, 0, none⟩), .int .i64 n, .slice a l c] w K := by
  obtain ⟨R, sb, mb, sc, L, h1, h2, h3, h4⟩ := h
  refine Write_c h1 hs hl hr (fun q hq hR => ?_) fun w' L' m hd' => hk w' ⟨Gro R w w', sb, mb, sc, L', hd', fun x hx => ?_, h3.trans m fun x hx hR => ?_, Nat.le_refl _⟩
  · have := (h2 _ hR).2
    have := hdis q hq
    omega
  · rcases hx with hx | hx
    · have h5 := h2 x hx; have := m.size
      exact ⟨h5.1, by omega⟩
    · have := h3.size
      exact ⟨.inr (by omega), hx.2⟩
  · exact ((h2 x hR).1).resolve_right (by omega)
theorem Dx.flush (h : Dx wb R0 N w d D) (hs : Small D) (hk : ∀ w', Dx wb R0 w'.heap.size w' d (flSt D) → K (.int .i64 0) w') : Cal Tryz.prog F_disk_Disk_Flush #[.pointer (some ⟨d, 0, none⟩)] w K := by
  obtain ⟨R, sb, mb, sc, L, h1, h2, h3, h4⟩ := h
  refine Flush_c h1 hs fun w' L' m hd' => hk w' ⟨R, sb, mb, sc, L', hd', fun x hx => ?_, h3.trans m fun x hx hR => ?_, Nat.le_refl _⟩
  · have h5 := h2 x hx; have := m.size
    exact ⟨h5.1, by omega⟩
  · exact ((h2 x hR).1).resolve_right (by omega)
theorem Dx.len (h : Dx wb R0 N w d D) (hk : K (.int .i64 D.vs.length) w) : Cal Tryz.prog F_disk_Disk_Len #[.pointer (some ⟨d, 0, none⟩)] w K := by
  obtain ⟨R, sb, mb, sc, L, h1, h2, h3, h4⟩ := h
  exact Len_c h1 hk
theorem build_root : Al (Instr.build 55 #[(0, .int .i64 2), (1, .int .i64 1), (3, .int .i64 1)]) (.agg ⟨nV rootN⟩) := fun w => by kernel_rfl
theorem Bnd9 {m : Nat} (h : Bnd D m) (hm : m ≤ 999999) : ∀ v ∈ D.vs, v.length ≤ 999999 := fun v hv => Nat.le_trans (h v hv) hm
theorem BndS {m : Nat} (h : Bnd D m) (hm : m ≤ 999999) : Small D := fun v hv => Nat.le_trans (h v hv) (by omega)
set_option maxRecDepth 8000 in
theorem each_c {R : Nat → Prop} {sb mb sc : Nat} {L : List (Int × Value)} {g : Gm} (h : DiskIn w R d sb mb sc L D) (hg : gOk g = true) (hn : gSize g ≤ D.vs.length) (hb : Bnd D 1)
    (hk : ∀ w1 N w', Mod No w w1 → w.heap.size ≤ N → Dx w1 R N w' d (wrAll D (volL g g.gs.toNat)) → K (.int .i64 0) w') :
    Cal Tryz.prog F_vol_each #[.agg ⟨gV g⟩, .int .i64 0, .func (.func F_disk_Disk_Write) #[.pointer (some ⟨d, 0, none⟩)] #[]] w K := by
  apply C_vol_each
  unfold D_vol_each
  obtain ⟨w1, a1, a2, a3, a4⟩ := box_u (P := Tryz.prog) (w := w) (T := 23) (cs := gV g)
  have hnR : ¬ R w.heap.size := fun e => Nat.lt_irrefl _ (h.lt _ e)
  have hq : ∀ {w2 : World} {N : Nat} {D' : St}, Dx w1 R N w2 d D' → AtU w2 w.heap.size 0 (gV g) := fun x => a2.keep x.mod hnR
  obtain ⟨g1, g2, g3, g4, g5, g6, g7, g8, g9⟩ := gOk_iff.1 hg
  have hvn := volN_b hg
  have hlen := h.wf.hi
  refine ⟨_, w1, a1, fun x w2 => ∃ (k N : Nat) (y1 y2 y3 : Value), (k : Int) ≤ g.gs ∧ x = [.int .i64 k, y1, y2, y3] ∧ w.heap.size ≤ N ∧ Dx w1 R N w2 d (wrAll D (volL g k)), fun x _ => (g.gs - nI x 0).toNat,
    ⟨0, _, undef, undef, undef, by omega, rfl, Nat.le_refl _, Dx.start h a3⟩, ?_⟩
  rintro x w2 ⟨k, N, y1, y2, y3, hkg, rfl, hN, hx⟩
  refine ⟨_, rfl, _, (hq hx).at.fld sc_int rfl, cond_of (fun hl => ?_) (fun hl => ?_)⟩
  · have hl : (k : Int) < g.gs := of_decide_eq_true hl
    have eF : hFresh g k = (hBase g k, 0) := by unfold hFresh; rw [if_pos ⟨hg, by omega, hl⟩]
    have eH : gHead g k = (2 + k * g.gr, 0) := by unfold gHead; rw [if_pos hg, if_pos ⟨by omega, hl⟩]
    refine ⟨_, (hq hx).at.all agg_geo rfl, fresh_c fun w3 m3 => ⟨_, _, rfl, ?_⟩⟩
    rw [eF]
    have x3 := hx.nos m3
    obtain ⟨w4, b1, b2, b3, b4⟩ := new_u (P := Tryz.prog) (w := w3) (T := 63) zero_head
    have x4 := x3.nos b3
    obtain ⟨w5, c1, c2, c3, c4⟩ := b2.put (T := 63) (vs := hV (hBase g k)) agg_head rfl (hV_len (hBase_wf _ _)) (one_hV _)
    have m5 : Mod No w3 w5 := b3.own c3 (Nat.le_refl _)
    have x5 := x3.nos m5
    refine ⟨_, w4, b1, w5, c1, _, (hq x5).at.all agg_geo rfl, _, c2.at.all agg_head (hV_len (hBase_wf _ _)), hPut_c (hBase_wf _ _) (fun e => by rw [hOk_base hg (by omega) hl] at e; cases e) fun _ w6 q m6 hq6 h6 => ⟨_, _, _, _, rfl, ?_⟩⟩
    have x6 := x5.nos m6
    refine ⟨_, (hq x6).at.all agg_geo rfl, geoHead_c fun w7 m7 => ⟨_, _, rfl, ?_⟩⟩
    have x7 := x6.nos m7
    refine ⟨_, (hq x7).at.all agg_geo rfl, geoTabs_c fun w8 m8 => ⟨_, rfl, ?_⟩⟩
    have x8 := x7.nos m8
    rw [eH]
    have hNq : N ≤ q := by have := hx.size; have := m3.size; have := m5.size; omega
    have hrow := ((h6.keep m7 id).keep m8 id)
    have eT : IntKind.i64.wrap (1 + gTabs g) = (volN g : Int) := by
      have e : gTabs g = g.no / 4 := by unfold gTabs; rw [if_pos hg]
      rw [wrap64 (by omega) (by omega), hvn.1, e]
    refine ⟨fun x w9 => ∃ (i N' : Nat) (a : Option Addr) (l c : Nat) (y : Value), i ≤ volN g ∧ x = [.slice a l c, .int .i64 i, y] ∧ w.heap.size ≤ N' ∧ Dx w1 R N' w9 d (wrAll (wrAll D (volL g k)) (volG g k i)) ∧ (i = 0 → ∃ q, a = some ⟨q, 0, none⟩ ∧ l = 256 ∧ c = 256 ∧ N' ≤ q ∧ AtU w9 q 0 (u8L (grpB g (hBase g k)))),
      fun x _ => (volN g - nI x 1).toNat, ⟨0, N, _, _, _, _, by omega, rfl, hN, x8, fun _ => ⟨q, rfl, rfl, rfl, hNq, hrow⟩⟩, ?_⟩
    rintro x w9 ⟨i, N', a, l, c, y, hi, rfl, hN', x9, hi0⟩
    rw [eT]
    refine ⟨_, rfl, cond_of (fun hl2 => ?_) (fun hl2 => ?_)⟩
    · have hl2 : i < volN g := by have := of_decide_eq_true hl2; omega
      have hvx := volX_in hg (n := D.vs.length) hl hl2 hn
      refine Share.cut (fun z w11 => ∃ q', z = [.slice (some ⟨q', 0, none⟩) 256 256] ∧ N' ≤ q' ∧ AtU w11 q' 0 (u8L (if i = 0 then grpB g (hBase g k) else zeroB)) ∧ Mod No w9 w11) (cond_of (fun hp => ?_) (fun hp => ?_)) ?_
      · have hp : 0 < i := by have := of_decide_eq_true hp; omega
        obtain ⟨w10, s1, s2, s3, s4⟩ := make_z (w := w9) (n := 256) (by omega)
        exact ⟨_, _, _, w10, s1, _, rfl, x9.size, by rw [if_neg (by omega)]; exact s2, s3⟩
      · have hp : i = 0 := by have := of_decide_eq_false hp; omega
        obtain ⟨q', e1, e2, e3, e4, e5⟩ := hi0 hp
        subst e1 e2 e3
        exact ⟨q', rfl, e4, by rw [if_pos hp]; exact e5, Mod.refl _ _⟩
      rintro z w11 ⟨q', rfl, hq', h11, m11⟩
      refine Share.cut (fun z w12 => z = [.bool (decide (k = 0 ∧ i = 1))] ∧ w12 = w11) ?_ ?_
      · rw [beqI]
        refine cond_of (fun hp => ⟨?_, rfl⟩) (fun hp => ⟨?_, rfl⟩)
        · have hp : k = 0 := by have := of_decide_eq_true hp; omega
          congr 2
          rw [beqI, Bool.eq_iff_iff, decide_eq_true_iff, decide_eq_true_iff]; omega
        · have hp : ¬ k = 0 := by have := of_decide_eq_false hp; omega
          rw [decide_eq_false (fun e => hp e.1)]
      rintro z w12 ⟨rfl, rfl⟩
      refine ⟨_, rfl, ?_⟩
      refine Share.cut (fun z w14 => ∃ q', z = [.slice (some ⟨q', 0, none⟩) 256 256] ∧ N' ≤ q' ∧ AtU w14 q' 0 (u8L (volB g k i)) ∧ Mod No w9 w14) (cond_of (fun hp => ?_) (fun hp => ?_)) ?_
      · have hp := of_decide_eq_true hp
        refine ⟨_, _, _, rfl, _, build_root, ?_⟩
        rw [if_neg (by omega)] at h11
        refine inoLay_c rootN_wf zeroB_len (.inr ⟨_, _, rfl, h11.at⟩) (by omega) (by decide) rootN_ok fun w13 q'' m13 hq'' h13 => ⟨_, _, _, _, rfl, q'', rfl, ?_, ?_, m11.no m13⟩
        · have := x9.size; have := m11.size; omega
        · unfold volB
          rw [if_neg (by omega), if_pos hp]; exact h13
      · have hp := of_decide_eq_false hp
        refine ⟨q', rfl, hq', ?_, m11⟩
        unfold volB
        by_cases h0 : i = 0
        · rw [if_pos h0]; rw [if_pos h0] at h11; exact h11
        · rw [if_neg h0, if_neg hp]; rw [if_neg h0] at h11; exact h11
      rintro z w14 ⟨q'', rfl, hq'', h14, m14⟩
      have x14 := x9.nos m14
      have e1 : IntKind.i64.wrap (2 + (k : Int) * g.gr + i) = (volX g k i).1 := by
        show _ = 2 + (k : Int) * g.gr + i
        have := hvx
        unfold volX at this
        simp only at this
        rw [wrap64 (by omega) (by omega)]
      refine ⟨_, _, _, rfl, ?_⟩
      rw [e1]
      have hB : Bnd (wrAll (wrAll D (volL g k)) (volG g k i)) 999999 := by
        have h1 := Bnd_all (Bnd_all hb (volL g k)) (volG g k i)
        have h2 := volL_len hg k
        rw [volG_len] at h1
        exact h1.mono (by omega)
      have hvl : (wrAll (wrAll D (volL g k)) (volG g k i)).vs.length = D.vs.length := by rw [wrAll_len, wrAll_len]
      refine ⟨_, _, _, rfl, ?_⟩
      show Cal Tryz.prog F_disk_Disk_Write #[.pointer (some ⟨d, 0, none⟩), .int .i64 (volX g k i).1, .slice (some ⟨q'', 0, none⟩) 256 256] w14 _
      refine x14.write hB (volB_len g k i) (.inr ⟨_, _, rfl, h14.at⟩) (fun q3 e3 => by cases e3; exact hq'') fun w15 x15 => ⟨_, rfl, ff ?_ ?_⟩
      · rw [wrE_in (by omega) (by rw [hvl]; omega) (volB_len g k i)]; rfl
      have e2 : wrSt (wrAll (wrAll D (volL g k)) (volG g k i)) (volX g k i).1 (volB g k i) = wrAll (wrAll D (volL g k)) (volG g k (i + 1)) := by
        rw [volG_succ, wrAll_snoc]; rfl
      rw [e2] at x15
      rw [wrap64 (x := (i : Int) + 1) (by omega) (by omega)]
      exact ⟨⟨i + 1, _, _, _, _, _, by omega, rfl, by have := x9.size; have := m14.size; have := x15.size; have := x15.mod.size; have := a3.size; omega, x15, fun e => by omega⟩, by simp [nI, nth]; omega⟩
    · have hl2 : i = volN g := by have := of_decide_eq_false hl2; omega
      subst hl2
      rw [wrap64 (x := (k : Int) + 1) (by omega) (by omega)]
      refine ⟨⟨k + 1, N', _, _, _, by omega, rfl, hN', ?_⟩, by simp [nI, nth]; omega⟩
      rw [volL_succ, wrAll_app]; exact x9
  · have hl : (k : Int) = g.gs := by have := of_decide_eq_false hl; omega
    have e : g.gs.toNat = k := by omega
    refine hk w1 N w2 a3 hN ?_
    rw [e]; exact hx
end
end Go.Proofs.YtoajelhfiganaaaGreat
end
section
open Go Go.Den Go.Proofs
namespace Go.Proofs.YtoajelhfiganaaaGreat
section
variable {wb w w' : World} {R0 : Nat → Prop} {N d : Nat} {D : St} {K : Value → World → Prop}
theorem Dx.comp {R' : Nat → Prop} {w1 : World} {N' : Nat} {D' : St} (h2 : ∀ x, R' x → R0 x ∨ wb.heap.size ≤ x) (hm : Mod R0 wb w) (m : Mod No w w1) (k : Dx w1 R' N' w' d D') : Dx wb R0 N' w' d D' := by
  obtain ⟨R, sb, mb, sc, L, k1, k2, k3, k4⟩ := k
  refine ⟨R, sb, mb, sc, L, k1, fun x hx => ⟨?_, (k2 x hx).2⟩, (hm.no m).trans k3 fun x hx e => (h2 x e).resolve_right (by omega), k4⟩
  rcases (k2 x hx).1 with e | e
  · exact h2 x e
  · have := hm.size; have := m.size; exact .inr (by omega)
def wrZ (D : St) : Nat → St
  | 0 => D
  | n + 1 => wrSt (wrZ D n) n zeroB
theorem wrZ_bnd (hb : Bnd D 1) : ∀ n, Bnd (wrZ D n) (n + 1)
  | 0 => hb
  | n + 1 => Bnd_wr (wrZ_bnd hb n) _ _
theorem sOk_new {g : Gm} (h : gOk g = true) : sOk ⟨1, g⟩ = true := sOk_iff.2 ⟨⟨Int.le_refl _, by show (1 : Int) ≤ 4611686018427387904; decide⟩, h⟩
set_option maxRecDepth 8000 in
theorem vFormat_c {R : Nat → Prop} {sb mb sc : Nat} {L : List (Int × Value)} {g : Gm} (h : DiskIn w R d sb mb sc L D) (hrun : D.left = -1) (hb : Bnd D 1)
    (hk0 : fmtE D g ≠ 0 → ∀ w', Mod No w w' → K (.int .i64 (fmtE D g)) w')
    (hk : fmtE D g = 0 → ∀ w1 N w', Mod No w w1 → Dx w1 R N w' d (fmtSt D g) → K (.int .i64 0) w') :
    Cal Tryz.prog F_vol_Format #[.pointer (some ⟨d, 0, none⟩), .agg ⟨gV g⟩] w K := by
  apply C_vol_Format
  unfold D_vol_Format
  obtain ⟨w1, a1, a2, a3, a4⟩ := box_u (P := Tryz.prog) (w := w) (T := 23) (cs := gV g)
  have hnR : ¬ R w.heap.size := fun e => Nat.lt_irrefl _ (h.lt _ e)
  have hq : ∀ {w2 : World} {N : Nat} {D' : St}, Dx w1 R N w2 d D' → AtU w2 w.heap.size 0 (gV g) := fun x => a2.keep x.mod hnR
  refine ⟨_, w1, a1, ff rfl ⟨_, a2.at.all agg_geo rfl, geoRight_c fun w2 m2 => ⟨_, rfl, cond_of (fun hg => ?_) (fun hg => ?_)⟩⟩⟩
  · have e : fmtE D g = 1 := by unfold fmtE; rw [if_pos (by simpa using hg)]
    have := hk0 (by rw [e]; decide) w2 (a3.no m2)
    rwa [e] at this
  have hg : gOk g = true := by simpa using hg
  have md : Mod No w1 (Go.Den.drew w2) := m2.drew
  have xd : Dx w1 R w.heap.size (Go.Den.drew w2) d D := (Dx.start h a3).nos md
  refine ⟨_, (hq xd).at.all agg_geo rfl, xd.len ⟨_, rfl, (hq xd).at.all agg_geo rfl, geoSize_c fun w4 m4 => ⟨_, rfl, cond_of (fun hl => ?_) (fun hl => ?_)⟩⟩⟩
  · have hl := of_decide_eq_true hl
    have e : fmtE D g = 4 := by unfold fmtE; rw [if_neg (by rw [hg]; decide), if_pos hl]
    have := hk0 (by rw [e]; decide) w4 (a3.no (md.no m4))
    rwa [e] at this
  have hl := of_decide_eq_false hl
  have eE : fmtE D g = 0 := by unfold fmtE; rw [if_neg (by rw [hg]; decide), if_neg hl]
  have x4 := xd.nos m4
  refine ⟨fun x w5 => ∃ i N : Nat, i ≤ 2 ∧ x = [.int .i64 i] ∧ Dx w1 R N w5 d (wrZ D i), fun x _ => (2 - nI x 0).toNat, ⟨0, _, by omega, rfl, x4⟩, ?_⟩
  rintro x w5 ⟨i, N, hi, rfl, x5⟩
  refine ⟨_, rfl, cond_of (fun hl2 => ?_) (fun hl2 => ?_)⟩
  · have hl2 := of_decide_eq_true hl2
    obtain ⟨w6, s1, s2, s3, s4⟩ := make_z (w := w5) (n := 256) (by omega)
    refine ⟨_, _, _, w6, s1, ?_⟩
    refine (x5.nos s3).write (Bnd9 (wrZ_bnd hb i) (by omega)) zeroB_len (.inr ⟨_, _, rfl, s2.at⟩) (fun q e => by cases e; exact x5.size) fun w7 x7 => ⟨_, rfl, ?_⟩
    rw [wrap64 (x := (i : Int) + 1) (by omega) (by omega)]
    exact ⟨⟨i + 1, _, by omega, by simp, x7⟩, by simp [nI, nth]; omega⟩
  have hl2 := of_decide_eq_false hl2
  have hi2 : i = 2 := by omega
  subst hi2
  refine x5.flush (BndS (wrZ_bnd hb 2) (by omega)) fun w8 x8 => ⟨_, rfl, ?_⟩
  have x8 : Dx w1 R w8.heap.size w8 d (fmt0 D) := x8
  refine ⟨_, (hq x8).at.all agg_geo rfl, ?_⟩
  have hm8 := x8.mod
  obtain ⟨R8, sb8, mb8, sc8, L8, k1, k2, k3, k4⟩ := x8
  refine each_c k1 hg (by rw [fmt0_len]; omega) (fmt0_bnd hrun) fun w9 N9 w10 m9 hN9 x10 => ⟨_, rfl, ?_⟩
  have x10 := x10.comp (fun x hx => (k2 x hx).1) hm8 m9
  have hB : Bnd (wrAll (fmt0 D) (volL g g.gs.toNat)) 999999 := by
    have h1 := Bnd_all (fmt0_bnd hrun) (volL g g.gs.toNat)
    have h2 := volL_len hg g.gs.toNat
    obtain ⟨_, _, _, g4, _⟩ := gOk_iff.1 hg
    exact h1.mono (by omega)
  refine x10.flush (BndS hB (by omega)) fun w11 x11 => ⟨_, rfl, _, (hq x11).at.all agg_geo rfl, _, build_sup 1 g, ?_⟩
  have x11 : Dx w1 R w11.heap.size w11 d (fmt1 D g) := x11
  refine supPut_c (s := ⟨1, g⟩) (fun e => by rw [sOk_new hg] at e; cases e) fun _ w12 q m12 hq12 h12 => ⟨_, _, _, _, rfl, ?_⟩
  refine (x11.nos m12).write (Bnd9 (fmt1_bnd hrun g) (by omega)) (supB_len _) (.inr ⟨_, _, rfl, h12.at⟩) (fun q' e => by cases e; exact hq12) fun w13 x13 => ⟨_, rfl, ?_⟩
  refine x13.flush (BndS (Bnd_wr (fmt1_bnd hrun g) _ _) (by omega)) fun w14 x14 => ⟨_, rfl, ?_⟩
  exact hk eE w1 _ w14 a3 x14
end
end Go.Proofs.YtoajelhfiganaaaGreat
end
section
open Go Go.Den Go.Proofs
namespace Go.Proofs.YtoajelhfiganaaaGreat
def BlkAt (b0 : Nat) (w : World) (la : Option Addr) (cs : List Value) (B : List (Int × Bk)) : Prop :=
  cs.length = B.length * 2 ∧ ∀ (i : Nat) (x : Int × Bk), B[i]? = some x → ∃ q c, (cs.drop (i * 2)).take 2 = [.int .i64 x.1, .slice (some ⟨q, 0, none⟩) 256 c] ∧ 256 ≤ c ∧ AtU w q 0 (u8L x.2) ∧ b0 ≤ q ∧ ∀ p, la = some p → p.block ≠ q
theorem elemG_blk : elemG Tryz.prog 95 2 32 := elemG_of (by kernel_rfl)
theorem built_bl13 (w : World) (n : Int) (a : Option Addr) (l c : Nat) : (Instr.buildSlice 95 1 #[(0, .agg ⟨[.int .i64 n, .slice a l c]⟩)]).run Tryz.prog w = .ok (.slice (some ⟨w.heap.size, 0, none⟩) 1 1) (w.alloc (.cells ⟨[.int .i64 n, .slice a l c]⟩ 98)) := by kernel_rfl
section
variable {b0 : Nat} {w w' : World} {la : Option Addr} {cs : List Value} {B : List (Int × Bk)} {K : Value → World → Prop}
theorem BlkAt.keep {S : Nat → Prop} (h : BlkAt b0 w la cs B) (m : Mod S w w') (hs : ∀ (i : Nat) (x : Int × Bk) (q c : Nat), B[i]? = some x → (cs.drop (i * 2)).take 2 = [.int .i64 x.1, .slice (some ⟨q, 0, none⟩) 256 c] → ¬ S q) : BlkAt b0 w' la cs B := by
  refine ⟨h.1, fun i x hx => ?_⟩
  obtain ⟨q, c, h1, h2, h3, h4⟩ := h.2 i x hx
  exact ⟨q, c, h1, h2, h3.keep m (hs i x q c hx h1), h4⟩
theorem BlkAt.nos (h : BlkAt b0 w la cs B) (m : Mod No w w') : BlkAt b0 w' la cs B := h.keep m fun _ _ _ _ _ _ => id
theorem BlkAt.snoc {base l c : Nat} {n : Int} {q e : Nat} {ys : Bk} (h : BlkAt b0 w la cs B) (o : Own Tryz.prog w base 95 2 la l c cs) (hat : AtU w q 0 (u8L ys)) (he : 256 ≤ e) (hq0 : b0 ≤ q) (hq : ∀ p, la = some p → p.block ≠ q) (hl : l ≤ 100000) (hb : base ≤ w.heap.size)
    {C : Option Addr → Nat → Nat → World → Prop}
    (hk : ∀ w' la' c' cs', Own Tryz.prog w' base 95 2 la' (l + 1) c' cs' → BlkAt b0 w' la' cs' (B ++ [(n, ys)]) → Mod (fun x => base ≤ x) w w' → C la' (l + 1) c' w') :
    ∃ (a44 : Option Addr) (l44 c44 : Nat), ∃ w8 : World, Ru (Instr.buildSlice 95 1 #[(0, .agg ⟨[.int .i64 n, .slice (some ⟨q, 0, none⟩) 256 e]⟩)]) w (.slice a44 l44 c44) w8 ∧ ∃ (a45 : Option Addr) (l45 c45 : Nat), ∃ w9 : World, Ru (Builtin.append_ #[95, 95] 95 #[.slice la l c, .slice a44 l44 c44]) w8 (.slice a45 l45 c45) w9 ∧ C a45 l45 c45 w9 := by
  obtain ⟨w8, hw8⟩ : ∃ w8, w8 = w.alloc (.cells ⟨[.int .i64 n, .slice (some ⟨q, 0, none⟩) 256 e]⟩ 98) := ⟨_, rfl⟩
  have m8 : Mod No w w8 := by rw [hw8]; exact (Mod.refl No w).alloc _
  have r8 : Row w8 (some ⟨w.heap.size, 0, none⟩) [.int .i64 n, .slice (some ⟨q, 0, none⟩) 256 e] := by rw [hw8]; exact .inr ⟨_, _, rfl, AtU.new.at⟩
  have z8 := m8.size
  refine ⟨_, _, _, w8, by rw [hw8]; exact built_bl13 w _ _ _ _, ?_⟩
  obtain ⟨p, c', w9, run, o9, m9, hp⟩ := (o.nos m8).appG (ty := 95) (m := 1) (c2 := 1) elemG_blk (by omega) r8 rfl (by omega) (by intro v hv; simp at hv; rcases hv with rfl | rfl <;> rfl) (by omega) (by omega) (by omega)
  refine ⟨_, _, _, w9, run, hk w9 _ _ _ o9 ?_ ?_⟩
  · have hlen := o.len
    have hcl := h.1
    refine ⟨by simp; omega, fun i x hx => ?_⟩
    have hpq : ∀ q' : Nat, q' < w.heap.size → (∀ p', la = some p' → p'.block ≠ q') → ∀ p', some p = some p' → p'.block ≠ q' := fun q' hq' hn p' e => by
      cases e
      rcases hp with ⟨p0, e0, e1⟩ | e1
      · rw [e1]; exact hn p0 e0
      · omega
    by_cases hi : i < B.length
    · rw [List.getElem?_append_left hi] at hx
      obtain ⟨q', c2, h1, h2, h3, h5, h4⟩ := h.2 i x hx
      refine ⟨q', c2, ?_, h2, (h3.keep m8 id).keep m9 fun ⟨p0, e0, e1⟩ => h4 p0 e0 e1.symm, h5, hpq q' h3.lt h4⟩
      rw [List.drop_append_of_le_length (by omega), List.take_append_of_le_length (by rw [List.length_drop]; omega)]
      exact h1
    · have hi2 : i = B.length := by
        have := (List.getElem?_eq_some_iff.1 hx).1
        simp at this; omega
      subst hi2
      rw [List.getElem?_append_right (Nat.le_refl _), Nat.sub_self] at hx
      have hx : (n, ys) = x := by simpa using hx
      subst hx
      refine ⟨q, e, ?_, he, (hat.keep m8 id).keep m9 fun ⟨p0, e0, e1⟩ => hq p0 e0 e1.symm, hq0, hpq q hat.lt hq⟩
      rw [List.drop_append, List.drop_eq_nil_of_le (by omega), List.nil_append, show B.length * 2 - cs.length = 0 by omega]
      rfl
  · refine (m8.mono fun _ _ e => e.elim).trans m9 fun x hx ⟨q', e, e'⟩ => ?_
    have := (o.base e).1
    rw [e']; exact this
end
end Go.Proofs.YtoajelhfiganaaaGreat
end
section
open Go Go.Den Go.Proofs
namespace Go.Proofs.YtoajelhfiganaaaGreat
def Dr (wb : World) (R0 : Nat → Prop) (N : Nat) (w : World) (d : Nat) (D : St) : Prop :=
  ∃ R vb vc hs, RefIn w R d vb vc hs D ∧ (∀ x, R x → (R0 x ∨ wb.heap.size ≤ x) ∧ x < N) ∧ Mod R0 wb w ∧ N ≤ w.heap.size
section
variable {wb w w' : World} {R0 : Nat → Prop} {N d : Nat} {D : St} {K : Value → World → Prop}
theorem Dr.nos (h : Dr wb R0 N w d D) (m : Mod No w w') : Dr wb R0 N w' d D := by
  obtain ⟨R, vb, vc, hs, h1, h2, h3, h4⟩ := h
  exact ⟨R, vb, vc, hs, h1.nos m, h2, h3.no m, Nat.le_trans h4 m.size⟩
theorem Dr.mod (h : Dr wb R0 N w d D) : Mod R0 wb w := by obtain ⟨_, _, _, _, _, _, h, _⟩ := h; exact h
theorem Dr.size (h : Dr wb R0 N w d D) : N ≤ w.heap.size := by obtain ⟨_, _, _, _, _, _, _, h⟩ := h; exact h
theorem Dr.wf (h : Dr wb R0 N w d D) : WF D := by obtain ⟨_, _, _, _, h, _⟩ := h; exact h.wf
theorem Dr.start {R : Nat → Prop} {vb vc : Nat} {hs : List (Nat × Nat)} (h : RefIn w R d vb vc hs D) (m : Mod No w wb) : Dr wb R w.heap.size wb d D :=
  ⟨R, vb, vc, hs, h.nos m, fun x hx => ⟨.inl hx, h.lt x hx⟩, Mod.refl _ _, m.size⟩
theorem Dr.write (h : Dr wb R0 N w d D) (hs : ∀ v ∈ D.vs, v.length ≤ 999999) {n : Int} {a : Option Addr} {l c : Nat} {ys : List UInt8} (hl : ys.length = l) (hr : Row w a (u8L ys)) (hdis : ∀ q, a = some q → N ≤ q.block ∨ (q.block < wb.heap.size ∧ ¬ R0 q.block))
    (hk : ∀ w', Dr wb R0 w'.heap.size w' d (wrSt D n ys) → K (.int .i64 (wrE D n ys)) w') : Cal Tryz.prog F_leveeref02_Disk_Write #[.pointer (some ⟨d, 0, none⟩), .int .i64 n, .slice a l c] w K := by
  obtain ⟨R, vb, vc, hs', h1, h2, h3, h4⟩ := h
  refine refWrite_c h1 hs hl hr (fun _ q hq hR => ?_) fun w' hs2 m hd' => hk w' ⟨Gro R w w', vb, vc, hs2, hd', fun x hx => ?_, h3.trans m fun x hx hR => ?_, Nat.le_refl _⟩
  · have h5 := h2 _ hR
    rcases hdis q hq with h6 | ⟨h6, h7⟩
    · omega
    · rcases h5.1 with h8 | h8
      · exact h7 h8
      · omega
  · rcases hx with hx | hx
    · have h5 := h2 x hx; have := m.size
      exact ⟨h5.1, by omega⟩
    · have := h3.size
      exact ⟨.inr (by omega), hx.2⟩
  · exact ((h2 x hR).1).resolve_right (by omega)
theorem Dr.flush (h : Dr wb R0 N w d D) (hs : Small D) (hk : ∀ w', Dr wb R0 w'.heap.size w' d (flSt D) → K (.int .i64 0) w') : Cal Tryz.prog F_leveeref02_Disk_Flush #[.pointer (some ⟨d, 0, none⟩)] w K := by
  obtain ⟨R, vb, vc, hs', h1, h2, h3, h4⟩ := h
  refine refFlush_c h1 hs fun w' hs2 m hd' => hk w' ⟨Gro R w w', vb, vc, hs2, hd', fun x hx => ?_, h3.trans m fun x hx hR => ?_, Nat.le_refl _⟩
  · rcases hx with hx | hx
    · have h5 := h2 x hx; have := m.size
      exact ⟨h5.1, by omega⟩
    · have := h3.size
      exact ⟨.inr (by omega), hx.2⟩
  · exact ((h2 x hR).1).resolve_right (by omega)
theorem Dr.comp {R' : Nat → Prop} {w1 : World} {N' : Nat} {D' : St} (h2 : ∀ x, R' x → R0 x ∨ wb.heap.size ≤ x) (hm : Mod R0 wb w) (m : Mod No w w1) (k : Dr w1 R' N' w' d D') : Dr wb R0 N' w' d D' := by
  obtain ⟨R, vb, vc, hs, k1, k2, k3, k4⟩ := k
  refine ⟨R, vb, vc, hs, k1, fun x hx => ⟨?_, (k2 x hx).2⟩, (hm.no m).trans k3 fun x hx e => (h2 x e).resolve_right (by omega), k4⟩
  rcases (k2 x hx).1 with e | e
  · exact h2 x e
  · have := hm.size; have := m.size; exact .inr (by omega)
end
end Go.Proofs.YtoajelhfiganaaaGreat
end
section
open Go Go.Den Go.Proofs
namespace Go.Proofs.YtoajelhfiganaaaGreat
theorem fldA2 {w : World} {T : TypeId} {b j i n : Nat} {cs vs : List Value} (h : At w b 0 cs) (hT : aggN Tryz.prog T = some n) (hj : j + i + n ≤ cs.length) (hv : (cs.drop (j + i)).take n = vs) : Ru (Instr.loadAt T (.pointer (some (Addr.add (Addr.add ⟨b, 0, none⟩ j) i)))) w (.agg ⟨vs⟩) w := by
  have e : Addr.add (Addr.add ⟨b, 0, none⟩ j) i = Addr.add ⟨b, 0, none⟩ (j + i) := by
    rw [add_none, add_none, add_none, Nat.add_assoc]
  rw [e]
  exact h.fldA hT hj hv
def vV (s : Sp) (sp wk : Nat) (nx : Int) : List Value := sV s ++ [.pointer (some ⟨sp, 0, none⟩), .pointer (some ⟨wk, 0, none⟩), .int .i64 nx]
theorem sc_store : scal Tryz.prog 71 = true := by kernel_rfl
def Vg (wb : World) (R0 : Nat → Prop) (N : Nat) (w : World) (v d : Nat) (s : Sp) (D : St) (nx : Int) : Prop :=
  ∃ R sp wk k w0, Pz w0 R w sp d ⟨⟨D, k, []⟩, 0, []⟩ ∧ AtU w v 0 (vV s sp wk nx) ∧ (¬ R v ∧ w0.heap.size ≤ v ∧ v < N ∧ (R0 v ∨ wb.heap.size ≤ v)) ∧ (∀ x, R x → (R0 x ∨ wb.heap.size ≤ x) ∧ x < N) ∧ Mod R0 wb w ∧ (N ≤ w.heap.size ∧ wb.heap.size ≤ N ∧ w0.heap.size ≤ N)
section
variable {w0 wb w w' : World} {R R0 : Nat → Prop} {N v d sp : Nat} {s : Sp} {D : St} {V : Ps} {nx : Int} {K : Value → World → Prop}
theorem qReadC_c {n : Int} (hP : Pz w0 R w sp d V) {b : Nat} (hb : n = b) (hlt : b < V.C.D.vs.length)
    (hk : ∀ w1 w' g cc, Mod R w w1 → Mod No w1 w' → Pz w0 (Gro R w w1) w' sp d V → w1.heap.size ≤ g → AtU w' g 0 (u8L (contV V b)) → 256 ≤ cc → K (.tuple #[.slice (some ⟨g, 0, none⟩) 256 cc, .int .i64 0]) w') :
    Cal Tryz.prog F_patch_Store_Read #[.pointer (some ⟨sp, 0, none⟩), .int .i64 n] w K := by
  obtain ⟨C, eD, eM, hP⟩ := hP
  have hwf := hP.wf
  refine pRead_c hP (fun he w' m => ?_) fun b' hb' hlt' w1 w' a cc C' m1 m2 h e1 e2 hc o => ?_
  · have he : errOf C.D n ≠ 0 := he
    rw [eD, hb] at he
    exact absurd (rd_at V.C.D hlt).1 he
  · have : b' = b := by omega
    subst this
    obtain ⟨g, rfl, hg, hat⟩ := o.sm (by omega)
    rw [cont_view hwf.1 hwf.2.1 hwf.2.2.1, contV_C eD] at hat
    exact hk w1 w' g cc m1 m2 ⟨C', e1.trans eD, e2.trans eM, h⟩ hg hat o.cap.1
theorem Vg.nos (h : Vg wb R0 N w v d s D nx) (m : Mod No w w') : Vg wb R0 N w' v d s D nx := by
  obtain ⟨R, sp, wk, k, w0, h1, h2, h3, h4, h5, h6, h7⟩ := h
  exact ⟨R, sp, wk, k, w0, h1.nos m, h2.keep m id, h3, h4, h5.no m, Nat.le_trans h6 m.size, h7⟩
theorem Vg.up (h : Vg wb R0 N w v d s D nx) : Vg wb R0 w.heap.size w v d s D nx := by
  obtain ⟨R, sp, wk, k, w0, h1, h2, h3, h4, h5, h6, h7, h8⟩ := h
  exact ⟨R, sp, wk, k, w0, h1, h2, ⟨h3.1, h3.2.1, by omega, h3.2.2.2⟩, fun x hx => ⟨(h4 x hx).1, by have := (h4 x hx).2; omega⟩, h5, Nat.le_refl _, by omega, by omega⟩
theorem Vg.put {q : Nat} (h : Vg wb R0 N w v d s D nx) (hq : N ≤ q) (m : Mod (fun x => x = q) w w') : Vg wb R0 N w' v d s D nx := by
  obtain ⟨R, sp, wk, k, w0, h1, h2, h3, h4, h5, h6, h7, h8⟩ := h
  refine ⟨R, sp, wk, k, w0, h1.keep m (fun x hx e => ?_) (fun x hx e => ?_), h2.keep m (fun e => ?_), h3, h4, h5.trans m fun x hx e => ?_, Nat.le_trans h6 m.size, h7, h8⟩
  · have := (h4 x hx).2
    have e : x = q := e
    omega
  · have e : x = q := e
    omega
  · have := h3.2.2.1
    have e : v = q := e
    omega
  · have e : x = q := e
    omega
theorem Vg.mod (h : Vg wb R0 N w v d s D nx) : Mod R0 wb w := by obtain ⟨_, _, _, _, _, _, _, _, _, h, _⟩ := h; exact h
theorem Vg.size (h : Vg wb R0 N w v d s D nx) : N ≤ w.heap.size := by obtain ⟨_, _, _, _, _, _, _, _, _, _, h, _⟩ := h; exact h
theorem Vg.at (h : Vg wb R0 N w v d s D nx) : ∃ sp wk, AtU w v 0 (vV s sp wk nx) := by obtain ⟨_, sp, wk, _, _, _, h, _⟩ := h; exact ⟨sp, wk, h⟩
theorem Vg.wf (h : Vg wb R0 N w v d s D nx) : WF D := by obtain ⟨_, _, _, _, _, h, _⟩ := h; exact h.wf.2.2.2.2
theorem Vg.geo (h : Vg wb R0 N w v d s D nx) : Ru (Instr.loadAt 23 (.pointer (some (Addr.add (Addr.add ⟨v, 0, none⟩ 0) 1)))) w (.agg ⟨gV s.geo⟩) w := by
  obtain ⟨sp, wk, h⟩ := h.at
  exact fldA2 h.at agg_geo (by show 4 ≤ 7; omega) rfl
theorem Vg.gen (h : Vg wb R0 N w v d s D nx) : Ru (Instr.loadAt 2 (.pointer (some (Addr.add (Addr.add ⟨v, 0, none⟩ 0) 0)))) w (.int .i64 s.gen) w := by
  obtain ⟨sp, wk, h⟩ := h.at
  exact h.at.fld2 sc_i64 rfl
theorem Vg.next (h : Vg wb R0 N w v d s D nx) : Ru (Instr.loadAt 2 (.pointer (some (Addr.add ⟨v, 0, none⟩ 6)))) w (.int .i64 nx) w := by
  obtain ⟨sp, wk, h⟩ := h.at
  exact h.at.fld sc_i64 rfl
theorem Vg.set (h : Vg wb R0 N w v d s D nx) (n : Int) : ∃ w', RuU (Instr.storeAt 2 (.pointer (some (Addr.add ⟨v, 0, none⟩ 6))) (.int .i64 n)) w w' ∧ Vg wb R0 N w' v d s D n := by
  obtain ⟨R, sp, wk, k, w0, h1, h2, h3, h4, h5, h6, h7, h8⟩ := h
  obtain ⟨w', s1, s2, s3, s4⟩ := h2.putF (P := Tryz.prog) (T := 2) (j := 6) (v := .int .i64 n) sc_i64 (by show 6 < 7; omega) rfl
  refine ⟨w', s1, R, sp, wk, k, w0, h1.keep s3 (fun x hx e => ?_) (fun x hx e => ?_), s2, h3, h4, h5.trans s3 fun x hx e => ?_, by omega, h7, h8⟩
  · have e : x = v := e
    rw [e] at hx; exact h3.1 hx
  · have e : x = v := e
    have := h3.2.1; omega
  · have e : x = v := e
    rw [e]
    exact h3.2.2.2.resolve_right (by omega)
theorem Vg.rd (h : Vg wb R0 N w v d s D nx) {n : Int} (h0 : 0 ≤ n) (h1 : n < D.vs.length)
    (hk : ∀ w' g cc, Vg wb R0 w'.heap.size w' v d s D nx → Mod (fun x => x < N) w w' → (∀ q w5 w6, N ≤ q → q < w.heap.size → Mod No w' w5 → Mod (fun x => x = q) w5 w6 → Vg wb R0 w6.heap.size w6 v d s D nx) → AtU w' g 0 (u8L (rdB D n)) → (rdB D n).length = 256 → 256 ≤ cc → K (.tuple #[.slice (some ⟨g, 0, none⟩) 256 cc, .int .i64 0]) w') :
    ∃ p : Option Addr, Ru (Instr.loadAt 71 (.pointer (some (Addr.add ⟨v, 0, none⟩ 4)))) w (.pointer p) w ∧ Cal Tryz.prog F_patch_Store_Read #[.pointer p, .int .i64 n] w K := by
  have hwf := h.wf
  obtain ⟨R, sp, wk, k, w0, a1, a2, a3, a4, a5, a6, a7, a8⟩ := h
  refine ⟨_, a2.at.fld sc_store rfl, ?_⟩
  obtain ⟨b, rfl⟩ := Int.eq_ofNat_of_zero_le h0
  have hb : b < D.vs.length := by omega
  refine qReadC_c a1 rfl hb fun w1 w' g cc m1 m2 hP hg hat hcc => ?_
  have e1 : rdB D b = atD D b := (rd_at D hb).2
  have hz1 := m1.size
  have hz2 := m2.size
  have hz5 := a5.size
  have hv : v < w.heap.size := by have := a3.2.2.1; omega
  have hnv : ¬ Gro R w w1 v := by
    rintro (e | e)
    · exact a3.1 e
    · omega
  have hR : ∀ x, Gro R w w1 x → (R0 x ∨ wb.heap.size ≤ x) ∧ x < w1.heap.size := fun x hx => by
    rcases hx with hx | hx
    · exact ⟨(a4 x hx).1, by have := (a4 x hx).2; omega⟩
    · exact ⟨.inr (by omega), by omega⟩
  have M : Mod R0 wb w' := (a5.trans m1 fun x hx e => ((a4 x e).1).resolve_right (by omega)).no m2
  have hV := (a2.keep m1 a3.1).keep m2 id
  refine hk w' g cc ⟨_, sp, wk, k, w0, hP, hV, ⟨hnv, a3.2.1, by omega, a3.2.2.2⟩, fun x hx => ⟨(hR x hx).1, by have := (hR x hx).2; omega⟩, M, Nat.le_refl _, by omega, by omega⟩ ((m1.mono fun x _ e => (a4 x e).2).no m2) (fun q w5 w6 hq1 hq2 m5 m6 => ?_) ?_ ?_ hcc
  · have hz3 := m5.size
    have hz4 := m6.size
    have hnq : ∀ x, Gro R w w1 x → x ≠ q := fun x hx e => by
      subst e
      rcases hx with hx | hx
      · have := (a4 _ hx).2; omega
      · omega
    refine ⟨_, sp, wk, k, w0, (hP.nos m5).keep m6 hnq (fun x hx e => ?_), (hV.keep m5 id).keep m6 (fun e => ?_), ⟨hnv, a3.2.1, by omega, a3.2.2.2⟩, fun x hx => ⟨(hR x hx).1, by have := (hR x hx).2; omega⟩, (M.no m5).trans m6 fun x hx e => ?_, Nat.le_refl _, by omega, by omega⟩
    · have e : x = q := e
      omega
    · have e : v = q := e
      have := a3.2.2.1; omega
    · have e : x = q := e
      omega
  · rw [e1]; exact hat
  · rw [e1]; unfold atD; rw [ver_at hb]; exact hwf.lastLen (List.getElem?_eq_getElem hb)
theorem gHead_in {g : Gm} {k b : Int} (h : gHead g k = (b, 0)) : 0 ≤ b ∧ b < gSize g := by
  unfold gHead at h
  split at h
  · rename_i hg
    split at h
    · rename_i hk
      have e : gSize g = 2 + g.gs * g.gr := by unfold gSize; rw [if_pos hg]
      obtain ⟨h1, _⟩ := gOk_iff.1 hg
      have hmul : (k + 1) * g.gr ≤ g.gs * g.gr := Int.mul_le_mul_of_nonneg_right (by omega) (by omega)
      have hp : 0 ≤ k * g.gr := Int.mul_nonneg hk.1 (by omega)
      have hs : (k + 1) * g.gr = k * g.gr + g.gr := by rw [Int.add_mul, Int.one_mul]
      cases h
      omega
    · cases h
  · cases h
theorem vhd_c {k : Int} (h : Vg wb R0 N w v d s D nx) (hk : ∀ w', Mod No w w' → K (.tuple #[.int .i64 (gHead s.geo k).1, .int .i64 (gHead s.geo k).2]) w') : Cal Tryz.prog F_vol_Vol_head #[.pointer (some ⟨v, 0, none⟩), .int .i64 k] w K := by
  apply C_vol_Vol_head
  unfold D_vol_Vol_head
  exact ff rfl ⟨_, rfl, _, h.geo, geoHead_c fun w' m => ⟨_, _, rfl, hk w' m⟩⟩
theorem vpl_c {k : Int} (h63 : k ≤ 9223372036854775807) (h : Vg wb R0 N w v d s D nx) (hk : ∀ w', Mod No w w' → K (.tuple #[.int .i64 (gPlace s.geo k).1, .int .i64 (gPlace s.geo k).2.1, .int .i64 (gPlace s.geo k).2.2]) w') : Cal Tryz.prog F_vol_Vol_place #[.pointer (some ⟨v, 0, none⟩), .int .i64 k] w K := by
  apply C_vol_Vol_place
  unfold D_vol_Vol_place
  exact ff rfl ⟨_, rfl, _, h.geo, geoPlace_c h63 fun w' m => ⟨_, _, _, rfl, hk w' m⟩⟩
theorem vHead_c {k : Int} (h : Vg wb R0 N w v d s D nx) (hsz : gSize s.geo ≤ D.vs.length)
    (hk : ∀ w', Vg wb R0 w'.heap.size w' v d s D nx → K (.tuple #[.agg ⟨hV (headAt D s.geo k).1⟩, .int .i64 (headAt D s.geo k).2]) w') : Cal Tryz.prog F_vol_Vol_Head #[.pointer (some ⟨v, 0, none⟩), .int .i64 k] w K := by
  apply C_vol_Vol_Head
  unfold D_vol_Vol_Head
  obtain ⟨w1, b1, b2, b3, b4⟩ := new_u (P := Tryz.prog) (w := w) (T := 63) zero_head
  have hN := h.size
  have fin : ∀ (w' : World) (i : Hd) (e : Int), AtU w' w.heap.size 0 (hV hZ) → (∀ w6, Mod (fun x => x = w.heap.size) w' w6 → Vg wb R0 w6.heap.size w6 v d s D nx) → (i, e) = headAt D s.geo k → ∃ w3 : World, RuU (Instr.storeAt 63 (.pointer (some ⟨w.heap.size, 0, none⟩)) (.agg ⟨hV i⟩)) w' w3 ∧ ∃ gR2 : Array Value, Ru (Instr.loadAt 63 (.pointer (some ⟨w.heap.size, 0, none⟩))) w3 (.agg gR2) w3 ∧ K (.tuple #[.agg gR2, .int .i64 e]) w3 := fun w' i e hat hv he => by
    have hw : hWf i := by have := headAt_wf D s.geo k; rw [← he] at this; exact this
    obtain ⟨w3, c1, c2, c3, c4⟩ := hat.put (T := 63) (vs := hV i) agg_head rfl (hV_len hw) (one_hV _)
    refine ⟨w3, c1, _, c2.at.all agg_head (hV_len hw), ?_⟩
    have := hk w3 (hv w3 c3)
    rw [← he] at this
    exact this
  have h1 := h.nos b3
  refine ⟨_, w1, b1, vhd_c h1 fun w2 m2 => ⟨_, _, rfl, ?_⟩⟩
  have h2 := h1.nos m2
  rw [bneI]
  refine cond_of (fun he => ⟨_, build_head0, ?_⟩) (fun he => ?_)
  · have he := of_decide_eq_true he
    exact fin w2 hZ _ (b2.keep m2 id) (fun w6 m6 => (h2.put hN m6).up) (by unfold headAt; rw [if_pos he])
  have he := Classical.not_not.1 (of_decide_eq_false he)
  have hin := gHead_in (g := s.geo) (k := k) (b := (gHead s.geo k).1) (by rw [← he])
  refine ⟨_, rfl, ?_⟩
  have hs1 := b3.size
  have hs2 := m2.size
  refine h2.rd hin.1 (by omega) fun w4 g cc h4 m4 hput hat hl hcc => ⟨_, _, _, _, rfl, ff rfl ⟨_, rfl, _, h4.geo, ?_⟩⟩
  refine headGet_c hl hcc (.inr ⟨_, _, rfl, hat.at⟩) (by omega) fun w6 m6 => ⟨_, _, rfl, ?_⟩
  exact fin w6 _ _ (((b2.keep m2 id).keep m4 (by show ¬ w.heap.size < N; omega)).keep m6 id) (fun w7 m7 => hput _ w6 w7 hN (by omega) m6 m7) (by unfold headAt; rw [if_neg (by rw [he]; decide)])
theorem vInode_c {k : Int} (h63 : k ≤ 9223372036854775807) (h : Vg wb R0 N w v d s D nx) (hsz : gSize s.geo ≤ D.vs.length)
    (hk : ∀ w', Vg wb R0 w'.heap.size w' v d s D nx → K (.tuple #[.agg ⟨nV (slotAt D s.geo k).1⟩, .int .i64 (slotAt D s.geo k).2]) w') : Cal Tryz.prog F_vol_Vol_Inode #[.pointer (some ⟨v, 0, none⟩), .int .i64 k] w K := by
  apply C_vol_Vol_Inode
  unfold D_vol_Vol_Inode
  obtain ⟨w1, b1, b2, b3, b4⟩ := new_u (P := Tryz.prog) (w := w) (T := 55) zero_ino
  have hN := h.size
  have fin : ∀ (w' : World) (i : Nd) (e : Int), AtU w' w.heap.size 0 (nV nZ) → (∀ w6, Mod (fun x => x = w.heap.size) w' w6 → Vg wb R0 w6.heap.size w6 v d s D nx) → (i, e) = slotAt D s.geo k → ∃ w3 : World, RuU (Instr.storeAt 55 (.pointer (some ⟨w.heap.size, 0, none⟩)) (.agg ⟨nV i⟩)) w' w3 ∧ ∃ gR2 : Array Value, Ru (Instr.loadAt 55 (.pointer (some ⟨w.heap.size, 0, none⟩))) w3 (.agg gR2) w3 ∧ K (.tuple #[.agg gR2, .int .i64 e]) w3 := fun w' i e hat hv he => by
    have hw : nWf i := by have := slotAt_wf D s.geo k; rw [← he] at this; exact this
    obtain ⟨w3, c1, c2, c3, c4⟩ := hat.put (T := 55) (vs := nV i) agg_ino rfl (nV_len hw) (one_nV _)
    refine ⟨w3, c1, _, c2.at.all agg_ino (nV_len hw), ?_⟩
    have := hk w3 (hv w3 c3)
    rw [← he] at this
    exact this
  have h1 := h.nos b3
  refine ⟨_, w1, b1, vpl_c h63 h1 fun w2 m2 => ⟨_, _, _, rfl, ?_⟩⟩
  have h2 := h1.nos m2
  rw [bneI]
  refine cond_of (fun he => ⟨_, build_ino0, ?_⟩) (fun he => ?_)
  · have he := of_decide_eq_true he
    exact fin w2 nZ _ (b2.keep m2 id) (fun w6 m6 => (h2.put hN m6).up) (by unfold slotAt; rw [if_pos he])
  have he := Classical.not_not.1 (of_decide_eq_false he)
  have hin := gPlace_b (g := s.geo) (s := k) (b := (gPlace s.geo k).1) (p := (gPlace s.geo k).2.1) (by rw [← he])
  refine ⟨_, rfl, ?_⟩
  have hs1 := b3.size
  have hs2 := m2.size
  refine h2.rd (by omega) (by omega) fun w4 g cc h4 m4 hput hat hl hcc => ⟨_, _, _, _, rfl, ff rfl ?_⟩
  refine inoRead_c hl hcc (.inr ⟨_, _, rfl, hat.at⟩) (by omega) fun w6 m6 => ⟨_, _, rfl, ?_⟩
  exact fin w6 _ _ (((b2.keep m2 id).keep m4 (by show ¬ w.heap.size < N; omega)).keep m6 id) (fun w7 m7 => hput _ w6 w7 hN (by omega) m6 m7) (by unfold slotAt; rw [if_neg (by rw [he]; decide)])
end
end Go.Proofs.YtoajelhfiganaaaGreat
end
section
open Go Go.Den Go.Proofs
namespace Go.Proofs.YtoajelhfiganaaaGreat
theorem choose_ok {xs ys : List UInt8} {n : Int} (h : (supChoose xs ys n).2.2 = 0) : sOk (supChoose xs ys n).1 = true ∧ gSize (supChoose xs ys n).1.geo ≤ n := by
  have pick : ∀ (i : Int) (zs : List UInt8) (b : Sp), (sOk b = true ∧ gSize b.geo ≤ n) ∨ b = sZ → (sOk (supPick i zs n b) = true ∧ gSize (supPick i zs n b).geo ≤ n) ∨ supPick i zs n b = sZ := by
    intro i zs b hb
    unfold supPick
    split
    · rename_i h
      exact .inl ⟨(supG_ok h.1).1, h.2.2.1⟩
    · exact hb
  have hb := pick 1 ys _ (pick 0 xs sZ (.inr rfl))
  unfold supChoose at *
  by_cases e : supBest xs ys n = sZ
  · rw [if_pos e] at h; cases h
  · rw [if_neg e]
    exact hb.resolve_right e
theorem mnt_ok {D : St} (h : (mntS D).2.2 = 0) : gOk (mntS D).1.geo = true ∧ gSize (mntS D).1.geo ≤ D.vs.length ∧ 1 ≤ (mntS D).1.gen := by
  have := choose_ok h
  exact ⟨(sOk_iff.1 this.1).2, this.2, (sOk_iff.1 this.1).1.1⟩
theorem mnt_no {D : St} (h : (mntS D).2.2 = 0) (h2 : mntOk D (mntS D).1.geo = false) : mnt D = (sZ, 8) := by
  unfold mnt
  rw [if_neg (by omega), if_neg (by rw [h2]; decide)]
theorem mnt_yes {D : St} (h : (mntS D).2.2 = 0) (h2 : mntOk D (mntS D).1.geo = true) : mnt D = ((mntS D).1, 0) := by
  unfold mnt
  rw [if_neg (by omega), if_pos h2]
theorem build_work : Al (Instr.build 165 #[]) (.agg ⟨[.slice none 0 0]⟩) := fun w => by kernel_rfl
theorem build_vol (s : Sp) (sp wk : Nat) : Al (Instr.build 114 #[(0, .agg ⟨sV s⟩), (1, .pointer (some ⟨sp, 0, none⟩)), (2, .pointer (some ⟨wk, 0, none⟩)), (3, .int .i64 0)]) (.agg ⟨vV s sp wk 0⟩) := fun w => by kernel_rfl
section
variable {w0 wb w w' : World} {R R0 : Nat → Prop} {N v d sb mb sc : Nat} {L : List (Int × Value)} {s : Sp} {D : St} {V : Ps} {nx : Int} {K : Value → World → Prop}
theorem ReadC_c (h : DiskIn w R d sb mb sc L D) (hs : Small D) {n : Int} (hk : ∀ w' a c, Mod No w w' → Fresh w w' a (rdB D n) → (rdB D n).length ≤ c → K (.tuple #[.slice a (rdB D n).length c, .int .i64 (errOf D n)]) w') : Cal Tryz.prog F_disk_Disk_Read #[.pointer (some ⟨d, 0, none⟩), .int .i64 n] w K := by
  apply C_disk_Disk_Read
  unfold D_disk_Disk_Read
  refine may_c h ⟨_, rfl, ?_⟩
  rcases err_cases (D := D) n with ⟨he, _⟩ | ⟨he, i, v, rfl, hv, hver⟩
  · have hb : rdB D n = [] := by unfold rdB; rw [if_neg (by omega)]
    refine tt (by rw [he]; rfl) ?_
    have := hk w none 0 (Mod.refl _ _) (.inl ⟨rfl, hb⟩) (by rw [hb]; exact Nat.le_refl _)
    rw [hb] at this; exact this
  · have hb : rdB D i = lastV v := by unfold rdB; rw [if_pos he, hver]
    have hll := h.wf.lastLen hv
    refine ff (by rw [he]; rfl) (last_c h hv (hs v (List.mem_of_getElem? hv)) fun w2 m2 => ⟨_, rfl, _, _, alloc_block w2, _, store_new agg_block (by rw [length_u8L, List.length_replicate]) (by simp [hll]) (one_u8L _), _, _, _, slice_block _, ?_⟩)
    have := hk (w2.alloc (.cells ⟨u8L (lastV v)⟩ 107)) (some ⟨w2.heap.size, 0, none⟩) 256 (m2.alloc _) (.inr ⟨w2.heap.size, rfl, m2.size, by rw [hb]; exact AtU.new⟩) (by rw [hb, hll]; exact Nat.le_refl _)
    rw [hb, hll, he] at this; exact this
theorem diskV (h : Pz w0 R w v d V) : ∃ R4 sb mb sc L, DiskIn w R4 d sb mb sc L V.C.D ∧ Small V.C.D := by
  obtain ⟨C, eD, eM, hw, rl, c, mo, mm, ca, oa, Lo, Lm, h⟩ := h
  obtain ⟨rl2, m, sb, mb, sc, lc, la, L, mp, hC⟩ := h.cx
  have hD : Ps.C (⟨C, V.last, V.ons⟩ : Ps) = C := rfl
  have hd := hC.disk
  have hs := hC.wf.small
  rw [hD, eD] at hd hs
  exact ⟨_, sb, mb, sc, L, hd, hs⟩
theorem Vg.comp {R' : Nat → Prop} {w1 : World} (h2 : ∀ x, R' x → R0 x ∨ wb.heap.size ≤ x) (hm : Mod R0 wb w1) (k : Vg w1 R' N w' v d s D nx) : Vg wb R0 N w' v d s D nx := by
  obtain ⟨R, sp, wk, k, w0, h1, hv, h3, h4, h5, h6, h7, h8⟩ := k
  have hz := hm.size
  refine ⟨R, sp, wk, k, w0, h1, hv, ⟨h3.1, h3.2.1, h3.2.2.1, ?_⟩, fun x hx => ⟨?_, (h4 x hx).2⟩, hm.trans h5 fun x hx e => (h2 x e).resolve_right (by omega), h6, by omega, h8⟩
  · rcases h3.2.2.2 with e | e
    · exact h2 v e
    · exact .inr (by omega)
  · rcases (h4 x hx).1 with e | e
    · exact h2 x e
    · exact .inr (by omega)
theorem rdB_le (h : WF D) (n : Int) : (rdB D n).length ≤ 256 := by
  rcases err_cases (D := D) n with ⟨he, _⟩ | ⟨he, i, v, rfl, hv, hver⟩
  · unfold rdB; rw [if_neg (by omega)]; simp
  · unfold rdB; rw [if_pos he, hver, h.lastLen hv]; exact Nat.le_refl _
set_option maxRecDepth 8000 in
theorem vMount_c (h : DiskIn w R d sb mb sc L D) (hsm : Small D) (hlo : ∀ x, R x → w0.heap.size ≤ x ∧ x < w.heap.size) (hm0 : Mod No w0 w) (hrun : D.left = -1)
    (hk0 : (mnt D).2 ≠ 0 → ∀ w', Mod R w w' → K (.tuple #[.pointer none, .int .i64 (mnt D).2]) w')
    (hk : (mnt D).2 = 0 → ∀ w' N v, Vg w R N w' v d (mnt D).1 D (nextTo D (mnt D).1.geo (gSlots (mnt D).1.geo).toNat + 1) → K (.tuple #[.pointer (some ⟨v, 0, none⟩), .int .i64 0]) w') :
    Cal Tryz.prog F_vol_Mount #[.pointer (some ⟨d, 0, none⟩)] w K := by
  have hlen := h.wf.lo
  have hhi := h.wf.hi
  have hwf := h.wf
  apply C_vol_Mount
  unfold D_vol_Mount
  refine Len_c h ⟨_, rfl, ?_⟩
  have e1 : (if (1 : Int) > (D.vs.length : Int) then (1 : Int) else (D.vs.length : Int)) = (D.vs.length : Int) := by rw [if_neg (by omega)]
  rw [e1]
  refine qNew_c h hsm hlo hm0 hrun hlen hhi (Nat.le_refl _) fun w2 sp m2 P2 => ⟨_, _, rfl, ff rfl ?_⟩
  obtain ⟨R4, sb4, mb4, sc4, L4, hd2, hs2⟩ := diskV P2
  refine ReadC_c hd2 hs2 (n := 0) fun w3 a3 c3 m3 f3 hc3 => ⟨_, _, _, _, rfl, ?_⟩
  refine ReadC_c (hd2.nos m3) hs2 (n := 1) fun w4 a4 c4 m4 f4 hc4 => ⟨_, _, _, _, rfl, ?_⟩
  have M24 : Mod No w2 w4 := m3.no m4
  refine Len_c (hd2.nos M24) ⟨_, rfl, ?_⟩
  have l3 := rdB_le hwf 0
  have l4 := rdB_le hwf 1
  refine supChoose_c (xs := rdB D 0) (ys := rdB D 1) rfl hc3 (f3.nos m4).row (by show (rdB D 0).length ≤ _; omega) rfl hc4 f4.row (by show (rdB D 1).length ≤ _; omega) fun w6 m6 => ⟨_, _, _, rfl, ?_⟩
  have M26 := M24.no m6
  show ∃ q10 : Addr, _
  obtain ⟨w7, b1, b2, b3, b4⟩ := new_u (P := Tryz.prog) (w := w6) (T := 94) zero_sup
  obtain ⟨w8, c1, c2, c3', c4'⟩ := b2.put (T := 94) (vs := sV (mntS D).1) agg_sup rfl rfl (one_sV _)
  have m8 : Mod No w6 w8 := b3.own c3' (Nat.le_refl _)
  refine ⟨_, w7, b1, w8, c1, ?_⟩
  rw [bneI]
  refine cond_of (fun he => ?_) (fun he => ?_)
  · have he : (mntS D).2.2 ≠ 0 := of_decide_eq_true he
    have e : mnt D = (sZ, (mntS D).2.2) := by unfold mnt; rw [if_pos he]
    have := hk0 (by rw [e]; exact he) w8 (((m2.no M26).no m8).mono fun _ _ h => h.elim)
    rw [e] at this
    exact this
  have he : (mntS D).2.2 = 0 := Classical.not_not.1 (of_decide_eq_false he)
  obtain ⟨hg, hsz, hgen⟩ := mnt_ok he
  have m8d : Mod No w6 (Go.Den.drew w8) := m8.drew
  refine ⟨_, c2.drew.at.all agg_sup rfl, ?_⟩
  apply C_push_New
  unfold D_push_New
  obtain ⟨w9, p1, p2, p3, p4⟩ := box_u (P := Tryz.prog) (w := Go.Den.drew w8) (T := 165) (cs := [.slice none 0 0])
  have q9 : AtU w9 w6.heap.size 0 (sV (mntS D).1) := c2.drew.keep p3 id
  refine ⟨_, build_work, _, w9, p1, _, rfl, q9.at.all agg_sup rfl, _, build_vol _ _ _, ?_⟩
  obtain ⟨w10, v1, v2, v3, v4⟩ := box_u (P := Tryz.prog) (w := w9) (T := 114) (cs := vV (mntS D).1 sp (Go.Den.drew w8).heap.size 0)
  refine ⟨_, w10, v1, ?_⟩
  have M69 : Mod No w6 w9 := m8d.no p3
  have M29 : Mod No w2 w9 := M26.no M69
  have M210 : Mod No w2 w10 := M29.no v3
  have hz2 := m2.size
  have hz6 := M26.size
  have hz9 := M29.size
  have hz69 := M69.size
  have hz0 := hm0.size
  have hlt6 := c2.lt
  have hz8 : w8.heap.size ≤ w9.heap.size := p3.size
  have hG : ∀ x, Gro R w w2 x → x < w2.heap.size := fun x hx => by
    rcases hx with hx | hx
    · have := (hlo x hx).2; omega
    · omega
  have X10 : Vg w9 (Gro R w w2) w10.heap.size w10 w9.heap.size d (mntS D).1 D 0 :=
    ⟨Gro R w w2, sp, _, _, w0, P2.nos M210, v2, ⟨fun e => by have := hG _ e; omega, by omega, by omega, .inr (Nat.le_refl _)⟩, fun x hx => ⟨.inl hx, by have := hG _ hx; omega⟩, v3.mono fun _ _ h => h.elim, Nat.le_refl _, by omega, by omega⟩
  have hq : ∀ {w' : World} {N : Nat} {nx : Int}, Vg w9 (Gro R w w2) N w' w9.heap.size d (mntS D).1 D nx → AtU w' w6.heap.size 0 (sV (mntS D).1) := fun X => q9.keep X.mod fun e => by have := hG _ e; omega
  have back : ∀ x, Gro R w w2 x → R x ∨ w.heap.size ≤ x := fun x hx => by
    rcases hx with hx | hx
    · exact .inl hx
    · exact .inr hx.1
  have bm : Mod R w w9 := (m2.no M29).mono fun _ _ h => h.elim
  have hno : ∀ {w' : World} {N : Nat} {nx : Int}, Vg w9 (Gro R w w2) N w' w9.heap.size d (mntS D).1 D nx → mntOk D (mntS D).1.geo = false → ∀ w'', Mod No w' w'' → K (.tuple #[.pointer none, .int .i64 8]) w'' := fun X hf w'' m => by
    have e := mnt_no he hf
    have := hk0 (by rw [e]; decide) w'' ((X.comp back bm).mod.no m)
    rw [e] at this
    exact this
  obtain ⟨g1, g2, g3, g4, g5, g6, g7, g8, g9⟩ := gOk_iff.1 hg
  refine ⟨_, (hq X10).at.fld2 sc_int rfl, ?_⟩
  refine ⟨fun x w11 => ∃ (k N : Nat) (y : Value), (k : Int) ≤ (mntS D).1.geo.gs ∧ x = [.int .i64 k, y] ∧ Vg w9 (Gro R w w2) N w11 w9.heap.size d (mntS D).1 D 0 ∧ ∀ j, j < k → headOk D (mntS D).1.geo j = true, fun x _ => ((mntS D).1.geo.gs - nI x 0).toNat,
    ⟨0, _, undef, by omega, rfl, X10, fun j hj => by omega⟩, ?_⟩
  rintro x w11 ⟨k, N, y, hk2, rfl, X11, hh⟩
  refine ⟨_, rfl, cond_of (fun hl => ?_) (fun hl => ?_)⟩
  · have hl : (k : Int) < (mntS D).1.geo.gs := of_decide_eq_true hl
    refine vHead_c X11 hsz fun w12 X12 => ⟨_, _, rfl, ?_⟩
    obtain ⟨w13, s1, s2, s3, s4⟩ := new_u (P := Tryz.prog) (w := w12) (T := 63) zero_head
    have hwd := headAt_wf D (mntS D).1.geo k
    obtain ⟨w14, t1, t2, t3, t4⟩ := s2.put (T := 63) (vs := hV (headAt D (mntS D).1.geo k).1) agg_head rfl (hV_len hwd) (one_hV _)
    have m14 : Mod No w12 w14 := s3.own t3 (Nat.le_refl _)
    refine ⟨_, w13, s1, w14, t1, ?_⟩
    refine Share.cut (fun z w15 => z = [.bool (!headOk D (mntS D).1.geo k)] ∧ w15 = w14) ?_ ?_
    · rw [bneI]
      refine cond_of (fun hp => ⟨?_, rfl⟩) (fun hp => ⟨_, t2.at.fld (v := .int .i64 (headAt D (mntS D).1.geo k).1.no) sc_int rfl, ?_, rfl⟩)
      · have hp := of_decide_eq_true hp
        have : headOk D (mntS D).1.geo k = false := by unfold headOk; rw [decide_eq_false fun e => hp e.1]
        rw [this]; rfl
      · have hp := Classical.not_not.1 (of_decide_eq_false hp)
        rw [bneI]
        congr 2
        unfold headOk
        by_cases e : (headAt D (mntS D).1.geo k).1.no = k
        · rw [decide_eq_false (fun x => x e), decide_eq_true ⟨hp, e⟩]; rfl
        · rw [decide_eq_true e, decide_eq_false fun x => e x.2]; rfl
    rintro z w15 ⟨rfl, rfl⟩
    refine ⟨_, rfl, cond_of (fun hp => ?_) (fun hp => ?_)⟩
    · refine hno X12 ?_ w15 m14
      unfold mntOk
      rw [Bool.and_eq_false_iff]
      left
      rw [List.all_eq_false]
      exact ⟨k, List.mem_range.2 (by omega), by simpa using hp⟩
    · have hp : headOk D (mntS D).1.geo k = true := by simpa using hp
      rw [wrap64 (x := (k : Int) + 1) (by omega) (by omega)]
      exact ⟨⟨k + 1, _, _, by omega, rfl, X12.nos m14, fun j hj => by
        by_cases e : j = k
        · rw [e]; exact hp
        · exact hh j (by omega)⟩, by simp [nI, nth]; omega⟩
  have hl : (k : Int) = (mntS D).1.geo.gs := by have := of_decide_eq_false hl; omega
  refine vInode_c (by omega) X11 hsz fun w16 X16 => ⟨_, _, rfl, ?_⟩
  obtain ⟨w17, s1, s2, s3, s4⟩ := new_u (P := Tryz.prog) (w := w16) (T := 55) zero_ino
  have hwd := slotAt_wf D (mntS D).1.geo 1
  obtain ⟨w18, t1, t2, t3, t4⟩ := s2.put (T := 55) (vs := nV (slotAt D (mntS D).1.geo 1).1) agg_ino rfl (nV_len hwd) (one_nV _)
  have m18 : Mod No w16 w18 := s3.own t3 (Nat.le_refl _)
  refine ⟨_, w17, s1, w18, t1, ?_⟩
  refine Share.cut (fun z w19 => z = [.bool (!rootOk D (mntS D).1.geo)] ∧ w19 = w18) ?_ ?_
  · rw [bneI]
    refine cond_of (fun hp => ⟨?_, rfl⟩) (fun hp => ⟨_, t2.at.fld (v := .int .i64 (slotAt D (mntS D).1.geo 1).1.kind) sc_int rfl, ?_, rfl⟩)
    · have hp := of_decide_eq_true hp
      have : rootOk D (mntS D).1.geo = false := by unfold rootOk; rw [decide_eq_false fun e => hp e.1]
      rw [this]; rfl
    · have hp := Classical.not_not.1 (of_decide_eq_false hp)
      rw [bneI]
      congr 2
      unfold rootOk
      by_cases e : (slotAt D (mntS D).1.geo 1).1.kind = 2
      · rw [decide_eq_false (fun x => x e), decide_eq_true ⟨hp, e⟩]; rfl
      · rw [decide_eq_true e, decide_eq_false fun x => e x.2]; rfl
  rintro z w19 ⟨rfl, rfl⟩
  refine ⟨_, rfl, cond_of (fun hp => ?_) (fun hp => ?_)⟩
  · refine hno X16 ?_ w19 m18
    unfold mntOk
    rw [Bool.and_eq_false_iff]
    right
    simpa using hp
  have hp : rootOk D (mntS D).1.geo = true := by simpa using hp
  have hok : mntOk D (mntS D).1.geo = true := by
    unfold mntOk
    rw [hp, Bool.and_true, List.all_eq_true]
    intro j hj
    exact hh j (by have := List.mem_range.1 hj; omega)
  have eM := mnt_yes he hok
  have X19 := X16.nos m18
  refine ⟨_, (hq X19).at.fldA agg_geo (by show 4 ≤ 4; omega) rfl, geoSlots_c fun w20 m20 => ⟨_, rfl, ?_⟩⟩
  have hsl := gSlots_b (g := (mntS D).1.geo)
  refine ⟨fun x w21 => ∃ n N : Nat, (n : Int) ≤ gSlots (mntS D).1.geo ∧ x = [.int .i64 n] ∧ Vg w9 (Gro R w w2) N w21 w9.heap.size d (mntS D).1 D (nextTo D (mntS D).1.geo n), fun x _ => (gSlots (mntS D).1.geo - nI x 0).toNat,
    ⟨0, _, by omega, rfl, X19.nos m20⟩, ?_⟩
  rintro x w21 ⟨n, N, hn, rfl, X21⟩
  refine ⟨_, rfl, cond_of (fun hl2 => ?_) (fun hl2 => ?_)⟩
  · have hl2 : (n : Int) < gSlots (mntS D).1.geo := of_decide_eq_true hl2
    refine vInode_c (by omega) X21 hsz fun w22 X22 => ⟨_, _, rfl, ?_⟩
    obtain ⟨w23, s1, s2, s3, s4⟩ := new_u (P := Tryz.prog) (w := w22) (T := 55) zero_ino
    have hwd := slotAt_wf D (mntS D).1.geo n
    obtain ⟨w24, t1, t2, t3, t4⟩ := s2.put (T := 55) (vs := nV (slotAt D (mntS D).1.geo n).1) agg_ino rfl (nV_len hwd) (one_nV _)
    have m24 : Mod No w22 w24 := s3.own t3 (Nat.le_refl _)
    have X24 := (X22.nos m24).nos (Mod.refl No w24).drew
    obtain ⟨w25, u1, u2⟩ := X24.set (if (slotAt D (mntS D).1.geo n).1.id > nextTo D (mntS D).1.geo n then (slotAt D (mntS D).1.geo n).1.id else nextTo D (mntS D).1.geo n)
    refine ⟨_, w23, s1, w24, t1, _, rfl, _, X24.next, _, t2.drew.at.fld (v := .int .i64 (slotAt D (mntS D).1.geo n).1.id) sc_i64 rfl, _, rfl, w25, u1, ?_⟩
    rw [wrap64 (x := (n : Int) + 1) (by omega) (by omega)]
    exact ⟨⟨n + 1, _, by omega, rfl, u2⟩, by simp [nI, nth]; omega⟩
  have hl2 : (n : Int) = gSlots (mntS D).1.geo := by have := of_decide_eq_false hl2; omega
  have hnb := nextTo_b D (mntS D).1.geo n
  have hnn := nextTo_nn D (mntS D).1.geo n
  obtain ⟨w26, u1, u2⟩ := X21.set (nextTo D (mntS D).1.geo n + 1)
  refine ⟨_, rfl, _, X21.next, _, rfl, w26, ?_, ?_⟩
  · rw [wrap64 (by omega) (by omega)]; exact u1
  have := hk (by rw [eM]) w26 N w9.heap.size
  rw [eM] at this
  refine this ?_
  show Vg w R N w26 w9.heap.size d (mntS D).1 D (nextTo D (mntS D).1.geo (gSlots (mntS D).1.geo).toNat + 1)
  rw [← hl2, Int.toNat_natCast]
  exact u2.comp back bm
end
end Go.Proofs.YtoajelhfiganaaaGreat
end
section
open Go Go.Den Go.Proofs
namespace Go.Proofs.YtoajelhfiganaaaGreat
section
variable {w0 w w' : World} {R : Nat → Prop} {rl : Nat → Nat} {rp r vb vc bc lc : Nat} {hs : List (Nat × Nat)} {ba la : Option Addr} {H : List (Option Addr × Nat)} {S : Rs} {K : Value → World → Prop}
theorem rRead11C_c (h : RIn w0 R rl w rp r vb vc hs ba bc la lc H S) {n : Int} (hk0 : ¬ (0 ≤ n ∧ n < S.base.length) → K (.tuple #[.slice none 0 0, .int .i64 3]) w)
    (hk : ∀ b : Nat, n = b → b < S.base.length → ∀ w' a c, Mod No w w' → Row w' a (u8L (rdR S b fun x => decide (x.b = b))) → 256 ≤ c → K (.tuple #[.slice a 256 c, .int .i64 0]) w') :
    Cal Tryz.prog F_leveeref11_Store_Read #[.pointer (some ⟨rp, 0, none⟩), .int .i64 n] w K := by
  have hlen := h.wf.llen
  have hlast := h.wf.last
  apply C_leveeref11_Store_Read
  unfold D_leveeref11_Store_Read
  refine rthere_c h ⟨_, rfl, cond_of (fun hb => ?_) (fun hb => ?_)⟩
  · exact hk0 (by simp only [Bool.not_eq_true', decide_eq_false_iff_not] at hb; exact hb)
  have hb : 0 ≤ n ∧ n < S.base.length := by simp only [Bool.not_eq_false', decide_eq_true_eq] at hb; exact hb
  obtain ⟨b, rfl⟩ := Int.eq_ofNat_of_zero_le hb.1
  have hbl : b < S.base.length := by omega
  obtain ⟨g, hg, hix, hld, hl256⟩ := h.bas hbl
  obtain ⟨cc, w2, c1, c2, c3, c4⟩ := bytes_run (P := Tryz.prog) (w := w) (S := 9) (T := 24) (xs := S.base[b]) (by kernel_rfl)
  rw [hl256] at c1 c4
  refine ⟨_, rfl, _, _, _, h.lb, _, hix, _, hld, _, _, _, w2, c1, ?_⟩
  refine ⟨fun x w3 => ∃ (i : Nat) (a : Option Addr) (c : Nat), x = [.slice a 256 c, .int .i64 i] ∧ i ≤ S.l.length ∧ 256 ≤ c ∧ Row w3 a (u8L (withL ((S.base[b]?).getD []) ((S.l.take i).filter fun x => decide (x.b = b)))) ∧ Mod No w w3 ∧ (∀ q, a = some q → w.heap.size ≤ q.block), fun x _ => (S.l.length - nI x 1).toNat,
    ⟨0, _, cc, rfl, by omega, c4, by rw [List.getElem?_eq_getElem hbl]; exact .inr ⟨_, _, rfl, c2.at⟩, c3, fun q hq => by cases hq; exact Nat.le_refl _⟩, ?_⟩
  rintro x w3 ⟨i, a, c, rfl, hi, hc, hr, hm, hfr⟩
  have h3 := h.nos hm
  have hz3 := hm.size
  refine ⟨_, rfl, _, rfl, _, _, _, h3.ll, cond_of (fun hb => ?_) (fun hb => ?_)⟩
  · have hi : i < S.l.length := by have := of_decide_eq_true hb; omega
    obtain ⟨g, p, hg, hp, hix, hld, hagg, _⟩ := h3.at (List.getElem?_eq_getElem hi)
    have hd := h.wf.dat _ (List.getElem_mem hi)
    refine ⟨_, rfl, _, _, _, h3.ll, _, hix, _, hld 1 _ _ (by kernel_rfl) rfl, ?_⟩
    rw [wrap64 (x := (i : Int) + 1) (by omega) (by omega)]
    have ht := rdR_take (S := S) (b := b) (f := fun x => decide (x.b = b)) hi
    refine Share.dup (cond_of (fun hb => ⟨_, _, _, rfl, _, rfl, _, _, _, h3.ll, _, hix, _, hagg, upon_c (rdR_len h.wf hbl) hd.2 hc hr fun w4 a4 c4 m4 o4 => ⟨_, _, _, rfl, ?_⟩⟩) (fun hb => ?_))
    · have hb : S.l[i].b = b := by
        have : (S.l[i].b : Int) = b := by simpa using hb
        omega
      rw [if_pos (decide_eq_true hb)] at ht
      refine ⟨⟨i + 1, a4, c4, rfl, by omega, o4.cap.1, by rw [ht]; exact o4.rowU.row, hm.no m4, fun q hq => by have := (o4.base hq).1; omega⟩, by simp [nI, nth]; omega⟩
    · have hb : ¬ S.l[i].b = b := fun e => by rw [e] at hb; simp at hb
      rw [if_neg (by simpa using hb)] at ht
      exact ⟨⟨i + 1, a, c, rfl, by omega, hc, by rw [ht]; exact hr, hm, hfr⟩, by simp [nI, nth]; omega⟩
  · have hi : i = S.l.length := by have := of_decide_eq_false hb; omega
    subst hi
    refine ⟨_, _, _, rfl, hk b rfl hbl w3 a c hm ?_ hc⟩
    unfold rdR
    rw [List.take_length] at hr
    exact hr
end
def rvV (s : Sp) (rp wk : Nat) (nx : Int) : List Value := [.pointer (some ⟨rp, 0, none⟩), .pointer (some ⟨wk, 0, none⟩), .int .i64 s.gen, .int .i64 s.geo.gr, .int .i64 s.geo.no, .int .i64 s.geo.gs, .int .i64 nx]
theorem sc_rst : scal Tryz.prog 47 = true := by kernel_rfl
def Rg (wb w : World) (v : Nat) (s : Sp) (D : St) (nx : Int) : Prop :=
  ∃ w0 R rp wk r, Rx w0 R w rp r (newRs D) ∧ AtU w v 0 (rvV s rp wk nx) ∧ (¬ R v ∧ w0.heap.size ≤ v ∧ wb.heap.size ≤ v) ∧ Mod No wb w
section
variable {w0 wb w w' : World} {R R0 : Nat → Prop} {v d vb vc : Nat} {hs : List (Nat × Nat)} {s : Sp} {D : St} {nx : Int} {K : Value → World → Prop}
theorem Rg.nos (h : Rg wb w v s D nx) (m : Mod No w w') : Rg wb w' v s D nx := by
  obtain ⟨w0, R, rp, wk, r, h1, h2, h3, h4⟩ := h
  exact ⟨w0, R, rp, wk, r, h1.nos m, h2.keep m id, h3, h4.no m⟩
theorem Rg.mod (h : Rg wb w v s D nx) : Mod No wb w := by obtain ⟨_, _, _, _, _, _, _, _, h⟩ := h; exact h
theorem Rg.at (h : Rg wb w v s D nx) : ∃ rp wk, AtU w v 0 (rvV s rp wk nx) := by obtain ⟨_, _, rp, wk, _, _, h, _⟩ := h; exact ⟨rp, wk, h⟩
theorem Rg.wf (h : Rg wb w v s D nx) : WF D := by obtain ⟨_, _, _, _, _, h, _⟩ := h; exact h.wf.2.1
theorem Rg.geo (h : Rg wb w v s D nx) : Ru (Instr.loadAt 23 (.pointer (some (Addr.add ⟨v, 0, none⟩ 3)))) w (.agg ⟨gV s.geo⟩) w := by
  obtain ⟨rp, wk, h⟩ := h.at
  exact h.at.fldA agg_geo (by show 6 ≤ 7; omega) rfl
theorem Rg.gs (h : Rg wb w v s D nx) : Ru (Instr.loadAt 3 (.pointer (some (Addr.add (Addr.add ⟨v, 0, none⟩ 3) 2)))) w (.int .i64 s.geo.gs) w := by
  obtain ⟨rp, wk, h⟩ := h.at
  exact h.at.fld2 sc_int rfl
theorem Rg.gen (h : Rg wb w v s D nx) : Ru (Instr.loadAt 2 (.pointer (some (Addr.add ⟨v, 0, none⟩ 2)))) w (.int .i64 s.gen) w := by
  obtain ⟨rp, wk, h⟩ := h.at
  exact h.at.fld sc_i64 rfl
theorem Rg.next (h : Rg wb w v s D nx) : Ru (Instr.loadAt 2 (.pointer (some (Addr.add ⟨v, 0, none⟩ 6)))) w (.int .i64 nx) w := by
  obtain ⟨rp, wk, h⟩ := h.at
  exact h.at.fld sc_i64 rfl
theorem Rg.set (h : Rg wb w v s D nx) (n : Int) : ∃ w', RuU (Instr.storeAt 2 (.pointer (some (Addr.add ⟨v, 0, none⟩ 6))) (.int .i64 n)) w w' ∧ Rg wb w' v s D n ∧ Mod (fun x => x = v) w w' := by
  obtain ⟨w0, R, rp, wk, r, h1, h2, h3, h4⟩ := h
  obtain ⟨w', s1, s2, s3, s4⟩ := h2.putF (P := Tryz.prog) (T := 2) (j := 6) (v := .int .i64 n) sc_i64 (by show 6 < 7; omega) rfl
  refine ⟨w', s1, ⟨w0, R, rp, wk, r, h1.keep s3 (fun x hx e => ?_) (fun x hx e => ?_), s2, h3, h4.own s3 h3.2.2⟩, s3⟩
  · have e : x = v := e
    rw [e] at hx; exact h3.1 hx
  · have e : x = v := e
    have := h3.2.1; omega
theorem Rg.rd (h : Rg wb w v s D nx) {n : Int} (h0 : 0 ≤ n) (h1 : n < D.vs.length)
    (hk : ∀ w' a cc, Mod No w w' → Row w' a (u8L (rdB D n)) → (rdB D n).length = 256 → 256 ≤ cc → K (.tuple #[.slice a 256 cc, .int .i64 0]) w') :
    ∃ p : Option Addr, Ru (Instr.loadAt 47 (.pointer (some (Addr.add ⟨v, 0, none⟩ 0)))) w (.pointer p) w ∧ Cal Tryz.prog F_leveeref11_Store_Read #[.pointer p, .int .i64 n] w K := by
  have hwf := h.wf
  obtain ⟨w0, R, rp, wk, r, a1, a2, a3, a4⟩ := h
  refine ⟨_, a2.at.fld sc_rst rfl, ?_⟩
  obtain ⟨b, rfl⟩ := Int.eq_ofNat_of_zero_le h0
  have hb : b < D.vs.length := by omega
  obtain ⟨rl, vb, vc, hs, ba, bc, la, lc, H, a1⟩ := a1
  have hbl : (newRs D).base.length = D.vs.length := by simp [newRs]
  refine rRead11C_c a1 (fun hn => absurd ⟨by omega, by rw [hbl]; omega⟩ hn) fun b' hb' hlt w' a cc m hrow hcc => ?_
  have : b' = b := by omega
  subst this
  have e1 : rdB D b' = atD D b' := (rd_at D hb).2
  have e2 : rdR (newRs D) b' (fun x => decide (x.b = b')) = atD D b' := by
    unfold rdR newRs
    simp [withL, hb]
  refine hk w' a cc m ?_ ?_ hcc
  · rw [e1, ← e2]; exact hrow
  · rw [e1]; unfold atD; rw [ver_at hb]; exact hwf.lastLen (List.getElem?_eq_getElem hb)
end
end Go.Proofs.YtoajelhfiganaaaGreat
end
section
open Go Go.Den Go.Proofs
namespace Go.Proofs.YtoajelhfiganaaaGreat
def gKn : Gm := ⟨16, 8, 2⟩
def dKn : St := fmtSt (newSt 34) gKn
theorem kn_fmt : fmtE (newSt 34) gKn = 0 := by decide
theorem kn_slot : slotAt dKn gKn 1 = (rootN, 0) := by decide +kernel
theorem kn_next : nextTo dKn gKn 16 = 1 := by decide +kernel
theorem kn_root : rootOk dKn gKn = true := by decide +kernel
theorem kn_head : (List.range 2).all (headOk dKn gKn) = true := by decide +kernel
theorem kn_sup : (mntS dKn).2.2 = 0 ∧ (mntS dKn).1.gen = 1 ∧ (mntS dKn).1.geo = gKn := by decide +kernel
theorem kn_mnt : mnt dKn = (⟨1, gKn⟩, 0) := by
  obtain ⟨h1, h2, h3⟩ := kn_sup
  have e : (mntS dKn).1 = ⟨1, gKn⟩ := by
    cases hs : (mntS dKn).1 with
    | mk a b =>
      rw [hs] at h2 h3
      cases h2; cases h3; rfl
  have hok : mntOk dKn (mntS dKn).1.geo = true := by
    rw [h3]
    unfold mntOk
    rw [kn_root, Bool.and_true]
    exact kn_head
  rw [mnt_yes h1 hok, e]
end Go.Proofs.YtoajelhfiganaaaGreat
end
section
open Go Go.Den Go.Proofs
namespace Go.Proofs.YtoajelhfiganaaaGreat
section
variable {w0 wb w w' : World} {R R0 R2 : Nat → Prop} {N v d r sb mb sc vb vc : Nat} {L : List (Int × Value)} {hs : List (Nat × Nat)} {s : Sp} {D : St} {nx : Int} {K : Value → World → Prop}
theorem Vg.set2 (h : Vg wb R0 N w v d s D nx) (n : Int) : ∃ w', RuU (Instr.storeAt 2 (.pointer (some (Addr.add ⟨v, 0, none⟩ 6))) (.int .i64 n)) w w' ∧ Vg wb R0 N w' v d s D n ∧ Mod (fun x => x = v) w w' := by
  obtain ⟨R, sp, wk, k, w0, h1, h2, h3, h4, h5, h6, h7, h8⟩ := h
  obtain ⟨w', s1, s2, s3, s4⟩ := h2.putF (P := Tryz.prog) (T := 2) (j := 6) (v := .int .i64 n) sc_i64 (by show 6 < 7; omega) rfl
  refine ⟨w', s1, ⟨R, sp, wk, k, w0, h1.keep s3 (fun x hx e => ?_) (fun x hx e => ?_), s2, h3, h4, h5.trans s3 fun x hx e => ?_, by omega, h7, h8⟩, s3⟩
  · have e : x = v := e
    rw [e] at hx; exact h3.1 hx
  · have e : x = v := e
    have := h3.2.1; omega
  · have e : x = v := e
    rw [e]
    exact h3.2.2.2.resolve_right (by omega)
theorem Vg.modno (h : Vg wb R0 N w v d s D nx) (m : Mod No w0 wb) (hlo : ∀ x, R0 x → w0.heap.size ≤ x) : Mod No w0 w := m.trans h.mod fun x hx e => by have := hlo x e; omega
theorem Vg.lt (h : Vg wb R0 N w v d s D nx) : v < N := by obtain ⟨_, _, _, _, _, _, _, h, _⟩ := h; exact h.2.2.1
theorem vGen_c (h : Vg wb R0 N w v d s D nx) (hk : K (.int .i64 s.gen) w) : Cal Tryz.prog F_vol_Vol_Gen #[.pointer (some ⟨v, 0, none⟩)] w K := by
  apply C_vol_Vol_Gen
  unfold D_vol_Vol_Gen
  exact ff rfl ⟨_, rfl, _, h.gen, hk⟩
theorem vNewId_c (h : Vg wb R0 N w v d s D nx) (h0 : 0 ≤ nx) (h1 : nx ≤ 4611686018427387904) (hk : ∀ w', Vg wb R0 N w' v d s D (nx + 1) → Mod (fun x => x = v) w w' → K (.tuple #[.int .i64 nx, .int .i64 0]) w') : Cal Tryz.prog F_vol_Vol_NewId #[.pointer (some ⟨v, 0, none⟩)] w K := by
  apply C_vol_Vol_NewId
  unfold D_vol_Vol_NewId
  refine ff rfl ⟨_, rfl, _, h.next, ff (by rw [decide_eq_false (by omega)]) ⟨_, rfl, _, h.next, _, rfl, ?_⟩⟩
  obtain ⟨w', s1, s2, s3⟩ := h.set2 (nx + 1)
  rw [wrap64 (x := nx + 1) (by omega) (by omega)]
  refine ⟨w', s1, _, rfl, _, s2.next, ?_⟩
  rw [wrap64 (by omega) (by omega), show nx + 1 - 1 = nx by omega]
  exact hk w' s2 s3
theorem bnd_new (k : Nat) : Bnd (newSt k) 1 := fun v hv => by
  have := List.eq_of_mem_replicate hv
  subst this; simp
set_option maxRecDepth 8000 in
theorem known13_c (hk : ∀ w', Mod No w w' → K (.bool true) w') : Cal Tryz.prog F_leveelaw13_known #[] w K := by
  apply C_leveelaw13_known
  unfold D_leveelaw13_known
  refine New_c (by omega) (by omega) (fun h => by omega) fun k hk' _ _ w1 b sb mb m1 hD => ⟨_, _, rfl, _, build_geo3 16 8 2, ?_⟩
  have : k = 34 := by omega
  subst this
  have hz1 := m1.size
  refine vFormat_c (g := gKn) hD rfl (bnd_new 34) (fun h => absurd kn_fmt h) fun _ wb N w2 mb2 X2 => ⟨_, rfl, ?_⟩
  have hz2 := mb2.size
  have kn : ∃ D, D = fmtSt (newSt 34) gKn ∧ mnt D = (⟨1, gKn⟩, 0) ∧ slotAt D gKn 1 = (rootN, 0) ∧ nextTo D gKn 16 = 1 ∧ D.left = -1 ∧ Bnd D 1 ∧ D.vs.length = 34 :=
    ⟨dKn, rfl, kn_mnt, kn_slot, kn_next, fmtSt_run rfl gKn, fmtSt_bnd rfl gKn, (fmtSt_len _ _).trans (by simp [newSt])⟩
  obtain ⟨D, eD, f1, f2, f3, f4, f5, f6⟩ := kn
  rw [← eD] at X2
  clear eD
  obtain ⟨R', sb', mb', sc', L', d1, d2, d3, d4⟩ := X2
  have hR' : ∀ x, R' x → w.heap.size ≤ x ∧ x < w2.heap.size := fun x hx => by
    refine ⟨?_, d1.lt x hx⟩
    rcases (d2 x hx).1 with e | e
    · exact e.1
    · omega
  have M2 : Mod No w w2 := (m1.no mb2).trans d3 fun x hx e => by omega
  refine vMount_c (w0 := w) d1 (BndS f5 (by omega)) hR' M2 f4 (fun h => absurd (by rw [f1]) h) fun _ w3 N3 v X3 => ⟨_, _, rfl, ?_⟩
  rw [f1] at X3
  have X3 : Vg w2 R' N3 w3 v b ⟨1, gKn⟩ D 2 := by
    have e : nextTo D gKn (gSlots gKn).toNat + 1 = 2 := by
      rw [show (gSlots gKn).toNat = 16 by decide, f3]; rfl
    rw [← e]; exact X3
  refine Share.dup (ff rfl (ff rfl ⟨_, rfl, ff rfl ?_⟩))
  have hsz : gSize (⟨1, gKn⟩ : Sp).geo ≤ D.vs.length := by
    rw [f6]; decide
  refine vInode_c (by omega) X3 hsz fun w5 X5 => ⟨_, _, rfl, ?_⟩
  have eS : slotAt D (⟨1, gKn⟩ : Sp).geo 1 = (rootN, 0) := f2
  rw [eS]
  obtain ⟨w6, s1, s2, s3, s4⟩ := new_u (P := Tryz.prog) (w := w5) (T := 55) zero_ino
  obtain ⟨w7, t1, t2, t3, t4⟩ := s2.put (T := 55) (vs := nV rootN) agg_ino rfl rfl (one_nV _)
  have m7 : Mod No w5 w7 := s3.own t3 (Nat.le_refl _)
  have X7 := X5.nos m7
  refine ⟨_, w6, s1, w7, t1, ?_⟩
  refine vNewId_c X7 (by omega) (by omega) fun w8 X8 m8 => ⟨_, _, rfl, ?_⟩
  have hv := X5.lt
  have t8 := t2.keep m8 (fun e => by have e : w5.heap.size = v := e; omega)
  refine Share.dup (vGen_c X8 ⟨_, rfl, tt rfl ⟨_, t8.at.fld (v := .int .i64 2) sc_int rfl, tt rfl ⟨_, t8.at.fld (v := .int .i64 1) sc_i64 rfl, tt rfl (tt rfl (tt rfl ⟨_, rfl, ?_⟩))⟩⟩⟩)
  exact hk w8 (X8.modno M2 fun x hx => (hR' x hx).1)
end
end Go.Proofs.YtoajelhfiganaaaGreat
end
section
open Go Go.Den Go.Proofs
namespace Go.Proofs.YtoajelhfiganaaaGreat
theorem sc_vol : scal Tryz.prog 40 = true := by kernel_rfl
theorem field_gs0 : Al (Instr.field 23 (.agg ⟨gV gZ⟩) 2) (.int .i64 0) := fun w => by kernel_rfl
theorem built_1 (w : World) : (Instr.buildSlice 24 1 #[(0, .int .u8 1)]).run Tryz.prog w = .ok (.slice (some ⟨w.heap.size, 0, none⟩) 1 1) (w.alloc (.cells ⟨[.int .u8 1]⟩ 5)) := by kernel_rfl
section
variable {w : World} {K : Value → World → Prop}
theorem nMount_c (hk : K (.tuple #[.pointer none, .int .i64 2]) w) : Cal Tryz.prog F_vol_Mount #[.pointer none] w K := by
  apply C_vol_Mount
  unfold D_vol_Mount
  apply C_disk_Disk_Len
  unfold D_disk_Disk_Len
  refine tt rfl ⟨_, rfl, ?_⟩
  apply C_patch_Open
  unfold D_patch_Open
  apply C_cache_New
  unfold D_cache_New
  exact tt rfl ⟨_, _, rfl, tt rfl ⟨_, _, rfl, tt rfl hk⟩⟩
theorem npl_c {n : Int} (hk : K (.tuple #[.int .i64 0, .int .i64 0, .int .i64 2]) w) : Cal Tryz.prog F_vol_Vol_place #[.pointer none, .int .i64 n] w K := by
  apply C_vol_Vol_place
  unfold D_vol_Vol_place
  exact tt rfl hk
theorem nhd_c {n : Int} (hk : K (.tuple #[.int .i64 0, .int .i64 2]) w) : Cal Tryz.prog F_vol_Vol_head #[.pointer none, .int .i64 n] w K := by
  apply C_vol_Vol_head
  unfold D_vol_Vol_head
  exact tt rfl hk
theorem nInode_c {n : Int} (hk : ∀ w', Mod No w w' → K (.tuple #[.agg ⟨nV nZ⟩, .int .i64 2]) w') : Cal Tryz.prog F_vol_Vol_Inode #[.pointer none, .int .i64 n] w K := by
  apply C_vol_Vol_Inode
  unfold D_vol_Vol_Inode
  obtain ⟨w1, b1, b2, b3, b4⟩ := new_u (P := Tryz.prog) (w := w) (T := 55) zero_ino
  obtain ⟨w3, c1, c2, c3, c4⟩ := b2.put (T := 55) (vs := nV nZ) agg_ino rfl rfl (one_nV _)
  exact ⟨_, w1, b1, npl_c ⟨_, _, _, rfl, tt rfl ⟨_, build_ino0, w3, c1, _, c2.at.all agg_ino rfl, hk w3 (b3.own c3 (Nat.le_refl _))⟩⟩⟩
theorem nSetInode_c {n : Int} {cs : List Value} {a : Option Addr} {l c : Nat} (hk : ∀ w', Mod No w w' → K (.tuple #[.int .i64 0, .int .i64 2]) w') : Cal Tryz.prog F_vol_Vol_SetInode #[.pointer none, .int .i64 n, .agg ⟨cs⟩, .slice a l c] w K := by
  apply C_vol_Vol_SetInode
  unfold D_vol_Vol_SetInode
  obtain ⟨w1, b1, b2, b3, b4⟩ := box_u (P := Tryz.prog) (w := w) (T := 55) (cs := cs)
  exact ⟨_, w1, b1, npl_c ⟨_, _, _, rfl, tt rfl (hk w1 b3)⟩⟩
theorem nHead_c {n : Int} (hk : ∀ w', Mod No w w' → K (.tuple #[.agg ⟨hV hZ⟩, .int .i64 2]) w') : Cal Tryz.prog F_vol_Vol_Head #[.pointer none, .int .i64 n] w K := by
  apply C_vol_Vol_Head
  unfold D_vol_Vol_Head
  obtain ⟨w1, b1, b2, b3, b4⟩ := new_u (P := Tryz.prog) (w := w) (T := 63) zero_head
  obtain ⟨w3, c1, c2, c3, c4⟩ := b2.put (T := 63) (vs := hV hZ) agg_head rfl (hV_len hZ_wf) (one_hV _)
  exact ⟨_, w1, b1, nhd_c ⟨_, _, rfl, tt rfl ⟨_, build_head0, w3, c1, _, c2.at.all agg_head (hV_len hZ_wf), hk w3 (b3.own c3 (Nat.le_refl _))⟩⟩⟩
theorem nSetHead_c {n : Int} {cs : List Value} {a : Option Addr} {l c : Nat} (hk : ∀ w', Mod No w w' → K (.tuple #[.int .i64 0, .int .i64 2]) w') : Cal Tryz.prog F_vol_Vol_SetHead #[.pointer none, .int .i64 n, .agg ⟨cs⟩, .slice a l c] w K := by
  apply C_vol_Vol_SetHead
  unfold D_vol_Vol_SetHead
  obtain ⟨w1, b1, b2, b3, b4⟩ := box_u (P := Tryz.prog) (w := w) (T := 63) (cs := cs)
  exact ⟨_, w1, b1, nhd_c ⟨_, _, rfl, tt rfl (hk w1 b3)⟩⟩
theorem ndt_c {n : Int} (hk : K (.int .i64 2) w) : Cal Tryz.prog F_vol_Vol_data #[.pointer none, .int .i64 n] w K := by
  apply C_vol_Vol_data
  unfold D_vol_Vol_data
  exact tt rfl hk
theorem nData_c {n : Int} (hk : K (.tuple #[.slice none 0 0, .int .i64 2]) w) : Cal Tryz.prog F_vol_Vol_Data #[.pointer none, .int .i64 n] w K := by
  apply C_vol_Vol_Data
  unfold D_vol_Vol_Data
  exact ndt_c ⟨_, rfl, tt rfl hk⟩
theorem nSetData_c {n f : Int} {a a2 : Option Addr} {l c l2 c2 : Nat} (hk : K (.tuple #[.int .i64 0, .int .i64 2]) w) : Cal Tryz.prog F_vol_Vol_SetData #[.pointer none, .int .i64 n, .int .i64 f, .slice a l c, .slice a2 l2 c2] w K := by
  apply C_vol_Vol_SetData
  unfold D_vol_Vol_SetData
  exact ndt_c ⟨_, rfl, tt rfl hk⟩
theorem nNewId_c (hk : K (.tuple #[.int .i64 0, .int .i64 2]) w) : Cal Tryz.prog F_vol_Vol_NewId #[.pointer none] w K := by
  apply C_vol_Vol_NewId
  unfold D_vol_Vol_NewId
  exact tt rfl hk
theorem nGen_c (hk : K (.int .i64 0) w) : Cal Tryz.prog F_vol_Vol_Gen #[.pointer none] w K := by
  apply C_vol_Vol_Gen
  unfold D_vol_Vol_Gen
  exact tt rfl hk
theorem nStore_c (hk : K (.pointer none) w) : Cal Tryz.prog F_vol_Vol_Store #[.pointer none] w K := by
  apply C_vol_Vol_Store
  unfold D_vol_Vol_Store
  exact tt rfl hk
theorem nWork_c (hk : K (.pointer none) w) : Cal Tryz.prog F_vol_Vol_Work #[.pointer none] w K := by
  apply C_vol_Vol_Work
  unfold D_vol_Vol_Work
  exact tt rfl hk
theorem nGeo_c (hk : ∀ w', Mod No w w' → K (.agg ⟨gV gZ⟩) w') : Cal Tryz.prog F_vol_Vol_Geo #[.pointer none] w K := by
  apply C_vol_Vol_Geo
  unfold D_vol_Vol_Geo
  obtain ⟨w1, b1, b2, b3, b4⟩ := new_u (P := Tryz.prog) (w := w) (T := 23) zero_geo
  obtain ⟨w2, c1, c2, c3, c4⟩ := b2.put (T := 23) (vs := gV gZ) agg_geo rfl rfl (one_gV _)
  exact ⟨_, w1, b1, tt rfl ⟨_, build_geo, w2, c1, _, c2.at.all agg_geo rfl, hk w2 (b3.own c3 (Nat.le_refl _))⟩⟩
theorem nMay_c {g : Gm} {n : Int} (hk : ∀ w', Mod No w w' → K (.int .i64 2) w') : Cal Tryz.prog F_vol_Vol_may #[.pointer none, .agg ⟨gV g⟩, .int .i64 n] w K := by
  apply C_vol_Vol_may
  unfold D_vol_Vol_may
  obtain ⟨w1, b1, b2, b3, b4⟩ := box_u (P := Tryz.prog) (w := w) (T := 23) (cs := gV g)
  exact ⟨_, w1, b1, tt rfl (hk w1 b3)⟩
theorem nPrepare_c {g : Gm} (hk : ∀ w', Mod No w w' → K (.int .i64 2) w') : Cal Tryz.prog F_vol_Vol_Prepare #[.pointer none, .agg ⟨gV g⟩] w K := by
  apply C_vol_Vol_Prepare
  unfold D_vol_Vol_Prepare
  obtain ⟨w1, a1, a2, a3, a4⟩ := box_v (P := Tryz.prog) (w := w) (T := 40) (v := .pointer none) rfl
  obtain ⟨w2, b1, b2, b3, b4⟩ := box_u (P := Tryz.prog) (w := w1) (T := 23) (cs := gV g)
  have a5 := (a2.keep b3 id).drew
  have b5 := b2.drew
  refine ⟨_, w1, a1, _, w2, b1, _, a5.at.one sc_vol, _, b5.at.all agg_geo rfl, _, a5.at.one sc_vol, nGeo_c fun w3 m3 => ⟨_, rfl, (a5.keep m3 id).at.one sc_vol, (b5.keep m3 id).at.all agg_geo rfl, _, field_gs0, nMay_c fun w4 m4 => ⟨_, rfl, tt rfl ?_⟩⟩⟩
  exact hk w4 (((a3.no b3).drew.no m3).no m4)
theorem nSwitch_c {g : Gm} (hk : ∀ w', Mod No w w' → K (.int .i64 2) w') : Cal Tryz.prog F_vol_Vol_Switch #[.pointer none, .agg ⟨gV g⟩] w K := by
  apply C_vol_Vol_Switch
  unfold D_vol_Vol_Switch
  obtain ⟨w1, b1, b2, b3, b4⟩ := box_u (P := Tryz.prog) (w := w) (T := 23) (cs := gV g)
  exact ⟨_, w1, b1, _, b2.at.all agg_geo rfl, nMay_c fun w2 m2 => ⟨_, rfl, tt rfl (hk w2 (b3.no m2))⟩⟩
set_option maxRecDepth 8000 in
theorem VolNil_c {g : Gm} {n : Int} : Cal Tryz.prog F_leveelaw13_VolNil #[.int .i64 n, .agg ⟨gV g⟩] w (fun v w' => v = .bool true ∧ Mod No w w') := by
  apply C_leveelaw13_VolNil
  unfold D_leveelaw13_VolNil
  obtain ⟨w1, a1, a2, a3, a4⟩ := box_u (P := Tryz.prog) (w := w) (T := 23) (cs := gV g)
  refine ⟨_, w1, a1, nMount_c ⟨_, _, rfl, _, build_geo, ?_⟩⟩
  obtain ⟨w3, b1, b2, b3, b4⟩ := new_u (P := Tryz.prog) (w := w1) (T := 23) zero_geo
  obtain ⟨w4, c1, c2, c3, c4⟩ := b2.put (T := 23) (vs := gV gZ) agg_geo rfl rfl (one_gV _)
  have m4 : Mod No w1 w4 := b3.own c3 (Nat.le_refl _)
  refine ⟨_, w3, b1, w4, c1, nInode_c fun w5 m5 => ⟨_, _, rfl, ?_⟩⟩
  obtain ⟨w6, d1, d2, d3, d4⟩ := new_u (P := Tryz.prog) (w := w5) (T := 55) zero_ino
  obtain ⟨w7, e1, e2, e3, e4⟩ := d2.put (T := 55) (vs := nV nZ) agg_ino rfl rfl (one_nV _)
  have m7 : Mod No w5 w7 := d3.own e3 (Nat.le_refl _)
  refine ⟨_, w6, d1, w7, e1, _, build_ino0, nSetInode_c fun w8 m8 => ⟨_, _, rfl, nHead_c fun w9 m9 => ⟨_, _, rfl, ?_⟩⟩⟩
  obtain ⟨w10, f1, f2, f3, f4⟩ := new_u (P := Tryz.prog) (w := w9) (T := 63) zero_head
  obtain ⟨w11, g1, g2, g3, g4⟩ := f2.put (T := 63) (vs := hV hZ) agg_head rfl (hV_len hZ_wf) (one_hV _)
  have m11 : Mod No w9 w11 := f3.own g3 (Nat.le_refl _)
  refine ⟨_, w10, f1, w11, g1, _, build_head0, nSetHead_c fun w12 m12 => ⟨_, _, rfl, nData_c ⟨_, _, _, _, rfl, _, _, _, _, built_1 _, ?_⟩⟩⟩
  have m14 : Mod No w12 (w12.alloc (.cells ⟨[.int .u8 1]⟩ 5)) := (Mod.refl No w12).alloc _
  generalize w12.alloc (.cells ⟨[.int .u8 1]⟩ 5) = w14 at *
  have M : Mod No w4 w14 := (((((m5.no m7).no m8).no m9).no m11).no m12).no m14
  have M1 : Mod No w1 (Go.Den.drew w14) := (m4.no M).drew
  have qz := (c2.keep M id).drew
  have qg : ∀ {w' : World}, Mod No (Go.Den.drew w14) w' → Ru (Instr.loadAt 23 (.pointer (some ⟨w.heap.size, 0, none⟩))) w' (.agg ⟨gV g⟩) w' := fun m => ((a2.keep M1 id).keep m id).at.all agg_geo rfl
  refine nSetData_c ⟨_, _, rfl, nNewId_c ⟨_, _, rfl, ?_⟩⟩
  obtain ⟨b, hbb, he⟩ := geq gZ gZ (o1 := .tmp 80) (o2 := .tmp 81)
  have hbt : b = true := hbb.2 rfl
  subst hbt
  refine Share.dup (tt rfl (tt rfl ⟨_, qz.at.all agg_geo rfl, nGeo_c fun w17 m17 => ⟨_, rfl, (qz.keep m17 id).at.all agg_geo rfl, _, he, tt rfl (nGen_c ⟨_, rfl, tt rfl (nStore_c ⟨_, rfl, tt rfl (nWork_c ⟨_, rfl, tt rfl ?_⟩)⟩)⟩)⟩⟩))
  refine tt rfl (tt rfl (tt rfl (tt rfl (tt rfl (tt rfl (tt rfl ⟨_, qg m17, nPrepare_c fun w21 m21 => ⟨_, rfl, tt rfl ⟨_, qg (m17.no m21), nSwitch_c fun w22 m22 => ⟨_, rfl, tt rfl (known13_c fun w23 m23 => ⟨_, rfl, _, rfl, rfl, ?_⟩)⟩⟩⟩⟩))))))
  exact ((((a3.no M1).no m17).no m21).no m22).no m23
end
end Go.Proofs.YtoajelhfiganaaaGreat
end
section
namespace Go.Proofs.YtoajelhfiganaaaGreat.bulks
theorem append {H : Type} (l r : List (DataW H)) : Rows.uptoBulkAll (l ++ r) = Rows.uptoBulkAll l + Rows.uptoBulkAll r := by
  induction l with
  | nil => simp [Rows.uptoBulkAll]
  | cons x l ih => simp only [List.cons_append, Rows.uptoBulkAll, ih]; omega
end Go.Proofs.YtoajelhfiganaaaGreat.bulks
end
section
open Go Go.Den
namespace Go.Den
open Go.RowKit Go.ChangeShapes Go.WideShapes
section
variable {H : Type} {enc : TypeId × Value → H} {P : Program}
theorem trodAll_below (hl : laidOutB P = true) {W W' : World} (hb : Below W.heap.size W W') : ∀ {ts : List TypeId} {vs : List Value} {ds : List (DataW H)} {ps : List MemPlace},
    (ts.all fun t => P.readableRec t && decide (t < P.types.size)) = true → DataW.TrodAll enc P W 0 (fun _ => true) true ts vs ds ps → (∀ x ∈ ps, x.block < W.heap.size) →
    DataW.TrodAll enc P W' 0 (fun b => decide (b < W.heap.size)) true ts vs ds ps
  | [], [], [], _, _, h, _ => h
  | [], [], _ :: _, _, _, h, _ => h.elim
  | [], _ :: _, _, _, _, h, _ => h.elim
  | _ :: _, [], _, _, _, h, _ => h.elim
  | _ :: _, _ :: _, [], _, _, h, _ => h.elim
  | t :: ts, v :: vs, d :: ds, ps, hr, h, hlt => by
    simp only [List.all_cons, Bool.and_eq_true, decide_eq_true_eq] at hr
    obtain ⟨p, q, h1, h2, rfl⟩ := h
    exact ⟨p, q, Below.trod hl hr.1.1 hr.1.2 h1 hb (fun x hx => hlt x (List.mem_append_left _ hx)), trodAll_below hl hb hr.2 h2 (fun x hx => hlt x (List.mem_append_right _ hx)), rfl⟩
theorem law_post {f : Func} {s : ChangeSpec} {apart handsOn : Bool} {W W' : World} {args : Array Value} {ds gs : List (DataW H)} {before : List MemPlace} {tb : TypeId} (hl : laidOutB P = true)
    (hW : DataW.Whole enc P f.params.toList s.vars apart W args.toList ds gs before) (hv : s.vars = []) (hr : (f.params.toList.all fun t => P.readableRec t && decide (t < P.types.size)) = true)
    (hrt : f.resultTypes = #[tb]) (htb : P.underlying tb = some .bool) (hs : s.fn H ds = { results := [.lit (.bool true)], args := ds }) (hb : Below W.heap.size W W') :
    s.post enc P f apart true handsOn false W args (.bool true) W' := by
  have hlt : ∀ p ∈ before, p.block < W.heap.size := fun p hp => hW.lt p hp
  have hW0 := hW
  obtain ⟨p, q, hA, hV, he, _, _⟩ := hW
  rw [hv] at hV
  have hgs : gs = [] ∧ q = [] := by
    cases gs with
    | nil => exact ⟨rfl, hV⟩
    | cons a r => exact hV.elim
  obtain ⟨rfl, rfl⟩ := hgs
  rw [List.append_nil] at he
  subst he
  refine ⟨ds, [], before, [], before, [], hW0, ?_, ?_, ?_, World.keptBut_mono (fun x hx => ⟨hx, .inr (.inl hx)⟩) (hb.frame (· ∈ before)), fun h => Bool.noConfusion h⟩
  · rw [hrt, List.append_nil, hs]
    exact ⟨[], [], shut_bool htb true, rfl, rfl⟩
  · rw [List.append_nil, hs]
    exact trodAll_below hl hb hr hA hlt
  · rw [hv, List.append_nil, hs]; rfl
end
end Go.Den
end
section
open Go Go.Den
namespace Go.Proofs.YtoajelhfiganaaaGreat
open Go.ChangeShapes Go.WideShapes Go.ChangeAt Go.RowKit
theorem own_none : ownKnob Tryz.prog.godebug = none := by kernel_rfl
theorem laid_out : laidOutB Tryz.prog = true := by kernel_rfl
theorem cal_calls {f : FuncId} {args : Array Value} {w : World} {K : Value → World → Prop} {R : Ending → World → Prop} (h : Cal Tryz.prog f args w K) (hk : ∀ v w', K v w' → R (.returned v) w') : Calls Tryz.prog f args w R :=
  h.2.mono fun e w' he => by cases e <;> first | exact hk _ _ he | exact he.elim
end Go.Proofs.YtoajelhfiganaaaGreat
end
