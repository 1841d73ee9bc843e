/- Layer 2, the document's disk: what it is in memory, and the functions that read it. -/
import Derived.Test.YtgcecmfjpljpcaaDiskS
import Derived.Test.YtgcecmfjpljpcaaTxtA
open Go Go.Den Go.Proofs
namespace Go.Den
section
variable {P : Program} {w : World}
def strBT (P : Program) (S T : TypeId) : Bool :=
  match P.underlying S with
  | some .string => match P.underlying T with
    | some (.slice e) => match P.underlying e with | some (.int .u8) => true | _ => false
    | _ => false
  | _ => false
/-- A string's bytes. -/
theorem bytes_run {S T : TypeId} {xs : List UInt8} (hT : strBT P S T = true) : ∃ c w', (convert S T (.string ⟨xs.toArray⟩)).run P w = .ok (.slice (some ⟨w.heap.size, 0, none⟩) xs.length c) w' ∧ AtU w' w.heap.size 0 (u8L xs) ∧ Mod No w w' ∧ xs.length ≤ c := by
  have hT' : ∃ e, P.underlying S = some .string ∧ P.underlying T = some (.slice e) ∧ P.underlying e = some (.int .u8) := by
    unfold strBT at hT
    split at hT
    · rename_i h0
      split at hT
      · rename_i e he
        split at hT
        · rename_i h1; exact ⟨e, h0, he, h1⟩
        · cases hT
      · cases hT
    · cases hT
  obtain ⟨e, h1, h2, h3⟩ := hT'
  have hsz : (⟨xs.toArray⟩ : ByteArray).size = xs.length := by simp [ByteArray.size]
  have h := run_bytes_of_string (P := P) w S T e ⟨xs.toArray⟩ h1 h2 h3
  rw [hsz] at h
  have hl : (bytesRow ⟨xs.toArray⟩ (grownCap w xs.length 0 e)).toList = u8L xs ++ List.replicate (grownCap w xs.length 0 e - xs.length) (.int .u8 0) := by
    unfold bytesRow; rw [hsz]; simp [u8L, u8]
  have hs2 : xs.length ≤ (bytesRow ⟨xs.toArray⟩ (grownCap w xs.length 0 e)).size := by
    rw [← Array.length_toList, hl]; simp
  generalize bytesRow ⟨xs.toArray⟩ (grownCap w xs.length 0 e) = arr at *
  refine ⟨_, _, h, ⟨arr.toList, e, (arr.size, arr.size + 1), heap_new w.drew _, ?_, ?_, fun j _ hj hc => ?_⟩, (((Mod.refl No w).drew (b := w)).alloc _ : Mod No w (w.drew.alloc _)), grownCap_ge w xs.length 0 e⟩
  · rw [hl]; simp
  · rw [hl]; simp
  · simp at hj; omega
theorem Spoil_any {w0 : World} : True := trivial
end
def strV (x : Bk) : Value := .string ⟨x.toArray⟩
def hdrs (hs : List (Nat × Nat)) (vs : List (List Bk)) : List Value := List.zipWith (fun h v => .slice (some ⟨h.1, 0, none⟩) (List.length v) h.2) hs vs
def heldB (D : St) : Bool := decide (D.left ≠ -1)
def leftB (D : St) : Int := if D.left = -1 then 0 else D.left
structure RefIn (w : World) (R : Nat → Prop) (b vb vc : Nat) (hs : List (Nat × Nat)) (D : St) : Prop where
  cell : AtU w b 0 [.slice (some ⟨vb, 0, none⟩) D.vs.length vc, .bool (heldB D), .int .i64 (leftB D)]
  vec : AtU w vb 0 (hdrs hs D.vs)
  cap : D.vs.length ≤ vc
  hl : hs.length = D.vs.length
  row : ∀ (i : Nat) (v : List Bk), D.vs[i]? = some v → ∃ q c, hs[i]? = some (q, c) ∧ v.length ≤ c ∧ At w q 0 (v.map strV) ∧ R q ∧ q ≠ b ∧ q ≠ vb
  rb : R b
  rv : R vb
  ne : b ≠ vb
  wf : WF D
  lt : ∀ x, R x → x < w.heap.size
section
variable {w : World} {R : Nat → Prop} {b vb vc : Nat} {hs : List (Nat × Nat)} {D : St}
theorem RefIn.keep {S : Nat → Prop} {w' : World} (h : RefIn w R b vb vc hs D) (m : Mod S w w') (hS : ∀ x, R x → ¬ S x) : RefIn w' R b vb vc hs D where
  cell := h.cell.keep m (hS _ h.rb)
  vec := h.vec.keep m (hS _ h.rv)
  cap := h.cap
  hl := h.hl
  row := fun i v hv => by
    obtain ⟨q, c, h1, h2, h3, h4, h5⟩ := h.row i v hv
    exact ⟨q, c, h1, h2, h3.keep m (hS _ h4), h4, h5⟩
  rb := h.rb
  rv := h.rv
  ne := h.ne
  wf := h.wf
  lt := fun x hx => Nat.lt_of_lt_of_le (h.lt x hx) m.size
theorem RefIn.nos {w' : World} (h : RefIn w R b vb vc hs D) (m : Mod No w w') : RefIn w' R b vb vc hs D := h.keep m fun _ _ => id
theorem RefIn.drew (h : RefIn w R b vb vc hs D) : RefIn (drew w) R b vb vc hs D := h.nos (Mod.refl No w).drew
theorem hdrs_get {i q c : Nat} {vs : List (List Bk)} {v : List Bk} (h1 : hs[i]? = some (q, c)) (h2 : vs[i]? = some v) : (hdrs hs vs)[i]? = some (.slice (some ⟨q, 0, none⟩) v.length c) := by
  simp [hdrs, List.getElem?_zipWith, h1, h2]
end
end Go.Den
namespace Go.Proofs.Ytgcecmfjpljpcaa
section
variable {w : World} {R : Nat → Prop} {b vb vc : Nat} {hs : List (Nat × Nat)} {D : St} {K : Value → World → Prop}
theorem rv (h : RefIn w R b vb vc hs D) : Ru (Instr.loadAt 104 (.pointer (some (Addr.add ⟨b, 0, none⟩ 0)))) w (.slice (some ⟨vb, 0, none⟩) D.vs.length vc) w := by
  rw [add_none]; exact h.cell.at.load (by kernel_rfl) rfl
theorem rh (h : RefIn w R b vb vc hs D) : Ru (Instr.loadAt 4 (.pointer (some (Addr.add ⟨b, 0, none⟩ 1)))) w (.bool (heldB D)) w := by
  rw [add_none]; exact h.cell.at.load (by kernel_rfl) rfl
theorem rl (h : RefIn w R b vb vc hs D) : Ru (Instr.loadAt 3 (.pointer (some (Addr.add ⟨b, 0, none⟩ 2)))) w (.int .i64 (leftB D)) w := by
  rw [add_none]; exact h.cell.at.load (by kernel_rfl) rfl
theorem idx_blk {a : Addr} {n c i : Nat} (hi : i < n) : Al (Instr.indexAt 104 (.slice (some a) n c) (.int .i64 i)) (.pointer (some (a.add i))) := by
  intro w'
  have := index_slice (P := Try.prog) (T := 104) (k := 1) (a := a) (n := n) (c := c) (kk := .i64) (i := i) (by kernel_rfl) (by omega) (by omega) w'
  rwa [Int.toNat_natCast, Nat.mul_one] at this
theorem idx_str {a : Addr} {n c i : Nat} (hi : i < n) : Al (Instr.indexAt 44 (.slice (some a) n c) (.int .i64 i)) (.pointer (some (a.add i))) := by
  intro w'
  have := index_slice (P := Try.prog) (T := 44) (k := 1) (a := a) (n := n) (c := c) (kk := .i64) (i := i) (by kernel_rfl) (by omega) (by omega) w'
  rwa [Int.toNat_natCast, Nat.mul_one] at this
/-- The versions of a block, as they are loaded. -/
theorem rrow (h : RefIn w R b vb vc hs D) {i : Nat} {v : List Bk} (hv : D.vs[i]? = some v) : ∃ q c, Ru (Instr.loadAt 44 (.pointer (some (Addr.add (Addr.add ⟨vb, 0, none⟩ i) 0)))) w (.slice (some ⟨q, 0, none⟩) v.length c) w ∧ v.length ≤ c ∧ At w q 0 (v.map strV) ∧ R q ∧ q ≠ b ∧ q ≠ vb ∧ hs[i]? = some (q, c) := by
  obtain ⟨q, c, h1, h2, h3, h4, h5, h6⟩ := h.row i v hv
  refine ⟨q, c, ?_, h2, h3, h4, h5, h6, h1⟩
  rw [add_none, add_none, Nat.add_zero]
  exact h.vec.at.load (by kernel_rfl) (hdrs_get h1 hv)
theorem strV_get {w : World} {q i : Nat} {v : List Bk} {x : Bk} (h : At w q 0 (v.map strV)) (hx : v[i]? = some x) : Ru (Instr.loadAt 9 (.pointer (some (Addr.add ⟨q, 0, none⟩ i)))) w (.string ⟨x.toArray⟩) w := by
  rw [add_none]
  exact h.load (by kernel_rfl) (by rw [List.getElem?_map, hx]; rfl)
theorem last_get {v : List Bk} (h : v ≠ []) : v[v.length - 1]? = some (lastV v) := by
  rw [← List.getLast?_eq_getElem?]; unfold lastV
  rw [List.getLastD_eq_getLast?, List.getLast?_eq_some_getLast h]; rfl
theorem hd_get {v : List Bk} (h : v ≠ []) : v[0]? = some (hd v) := by
  cases v with
  | nil => exact absurd rfl h
  | cons a r => rfl

theorem there_c (h : RefIn w R b vb vc hs D) {n : Int} (hk : K (.bool (decide (errOf D n = 0))) w) : Cal Try.prog F_leveeref02_Disk_there #[.pointer (some ⟨b, 0, none⟩), .int .i64 n] w K := by
  apply C_leveeref02_Disk_there
  unfold D_leveeref02_Disk_there
  refine Share.cut (fun x w' => x = [.bool (decide (errOf D n = 0))] ∧ w' = w) (cond_of (fun hb => ?_) (fun hb => ?_)) ?_
  · have hb := of_decide_eq_true hb
    refine ⟨_, rfl, _, _, _, rv h, ?_, rfl⟩
    congr 2; rw [Bool.eq_iff_iff]; simp only [decide_eq_true_eq]
    unfold errOf; split <;> omega
  · have hb := of_decide_eq_false hb
    refine ⟨?_, rfl⟩
    have : errOf D n = 3 := by unfold errOf; rw [if_pos (by omega)]
    rw [this]; rfl
  · rintro x w' ⟨rfl, rfl⟩
    exact ⟨_, rfl, hk⟩
theorem refRead_c (h : RefIn w R b vb vc hs D) (hsm : Small D) {n : Int} (hk : ∀ w' a c, Mod No w w' → Fresh w w' a (rdB D n) → K (.tuple #[.slice a (rdB D n).length c, .int .i64 (errOf D n)]) w') : Cal Try.prog F_leveeref02_Disk_Read #[.pointer (some ⟨b, 0, none⟩), .int .i64 n] w K := by
  apply C_leveeref02_Disk_Read
  unfold D_leveeref02_Disk_Read
  refine there_c h ⟨_, rfl, ?_⟩
  rcases err_cases (D := D) n with ⟨he, _⟩ | ⟨he, i, v, rfl, hv, hver⟩
  · have hb : rdB D n = [] := by unfold rdB; rw [if_neg (by omega)]
    refine tt (by rw [he]; rfl) ?_
    have := hk w none 0 (Mod.refl _ _) (.inl ⟨rfl, hb⟩)
    rw [hb, he] at this; exact this
  · have hb : rdB D i = lastV v := by unfold rdB; rw [if_pos he, hver]
    have hvne := (h.wf.ver v (List.mem_of_getElem? hv)).1
    have hvp := List.length_pos_iff.2 hvne
    have hvl := hsm v (List.mem_of_getElem? hv)
    obtain ⟨q, c, hl, hc, hat, _⟩ := rrow h hv
    refine ff (by rw [he]; rfl) ⟨_, rfl, _, _, _, rv h, _, idx_blk (List.getElem?_eq_some_iff.1 hv).1, _, _, _, hl, ?_⟩
    rw [wrap64 (x := (v.length : Int) - 1) (by omega) (by omega), show (v.length : Int) - 1 = ((v.length - 1 : Nat) : Int) by omega]
    refine ⟨_, idx_str (by omega), _, strV_get hat (last_get hvne), ?_⟩
    obtain ⟨c2, w2, h2, at2, m2, _⟩ := bytes_run (P := Try.prog) (w := w) (S := 9) (T := 32) (xs := lastV v) (by kernel_rfl)
    refine ⟨_, _, _, w2, h2, ?_⟩
    have := hk w2 (some ⟨w.heap.size, 0, none⟩) c2 m2 (.inr ⟨_, rfl, Nat.le_refl _, by rw [hb]; exact at2⟩)
    rw [hb, he] at this; exact this
theorem refSafe_c (h : RefIn w R b vb vc hs D) {n : Int} (hk : ∀ w' a c, Mod No w w' → Fresh w w' a (sfB D n) → K (.tuple #[.slice a (sfB D n).length c, .int .i64 (errOf D n)]) w') : Cal Try.prog F_leveeref02_Disk_Safe #[.pointer (some ⟨b, 0, none⟩), .int .i64 n] w K := by
  apply C_leveeref02_Disk_Safe
  unfold D_leveeref02_Disk_Safe
  refine there_c h ⟨_, rfl, ?_⟩
  rcases err_cases (D := D) n with ⟨he, _⟩ | ⟨he, i, v, rfl, hv, hver⟩
  · have hb : sfB D n = [] := by unfold sfB; rw [if_neg (by omega)]
    refine tt (by rw [he]; rfl) ?_
    have := hk w none 0 (Mod.refl _ _) (.inl ⟨rfl, hb⟩)
    rw [hb, he] at this; exact this
  · have hb : sfB D i = hd v := by unfold sfB; rw [if_pos he, hver]
    have hvne := (h.wf.ver v (List.mem_of_getElem? hv)).1
    have hvp := List.length_pos_iff.2 hvne
    obtain ⟨q, c, hl, hc, hat, _⟩ := rrow h hv
    refine ff (by rw [he]; rfl) ⟨_, rfl, _, _, _, rv h, _, idx_blk (List.getElem?_eq_some_iff.1 hv).1, _, _, _, hl, _, idx_str (i := 0) (by omega), _, strV_get hat (hd_get hvne), ?_⟩
    obtain ⟨c2, w2, h2, at2, m2, _⟩ := bytes_run (P := Try.prog) (w := w) (S := 9) (T := 32) (xs := hd v) (by kernel_rfl)
    refine ⟨_, _, _, w2, h2, ?_⟩
    have := hk w2 (some ⟨w.heap.size, 0, none⟩) c2 m2 (.inr ⟨_, rfl, Nat.le_refl _, by rw [hb]; exact at2⟩)
    rw [hb, he] at this; exact this
theorem refWrites_c (h : RefIn w R b vb vc hs D) (hsm : Small D) {n : Int} (hk : K (.int .i64 (verOf D n).tail.length) w) : Cal Try.prog F_leveeref02_Disk_Writes #[.pointer (some ⟨b, 0, none⟩), .int .i64 n] w K := by
  apply C_leveeref02_Disk_Writes
  unfold D_leveeref02_Disk_Writes
  refine there_c h ⟨_, rfl, ?_⟩
  rcases err_cases (D := D) n with ⟨he, ho⟩ | ⟨he, i, v, rfl, hv, hver⟩
  · rw [verOf_none ho] at hk
    exact tt (by rw [he]; rfl) hk
  · rw [hver] at hk
    have hvne := (h.wf.ver v (List.mem_of_getElem? hv)).1
    have hvp := List.length_pos_iff.2 hvne
    have hvl := hsm v (List.mem_of_getElem? hv)
    obtain ⟨q, c, hl, hc, hat, _⟩ := rrow h hv
    refine ff (by rw [he]; rfl) ⟨_, rfl, _, _, _, rv h, _, idx_blk (List.getElem?_eq_some_iff.1 hv).1, _, _, _, hl, ?_⟩
    rw [wrap64 (x := (v.length : Int) - 1) (by omega) (by omega)]
    have : (v.length : Int) - 1 = ((v.tail.length : Nat) : Int) := by rw [List.length_tail]; omega
    rw [this]; exact hk
theorem refStopped_c (h : RefIn w R b vb vc hs D) (hk : K (.bool (decide (D.left = 0))) w) : Cal Try.prog F_leveeref02_Disk_Stopped #[.pointer (some ⟨b, 0, none⟩)] w K := by
  apply C_leveeref02_Disk_Stopped
  unfold D_leveeref02_Disk_Stopped
  refine Share.dup ⟨_, rfl, _, rh h, cond_of (fun hb => ?_) (fun hb => ?_)⟩
  · have hb : D.left ≠ -1 := by unfold heldB at hb; exact of_decide_eq_true hb
    refine ⟨_, rfl, _, rl h, _, rfl, ?_⟩
    have : (leftB D == 0) = decide (D.left = 0) := by unfold leftB; rw [if_neg hb]; rfl
    rw [this]; exact hk
  · have hb : D.left = -1 := by unfold heldB at hb; simpa using of_decide_eq_false hb
    refine ⟨_, rfl, ?_⟩
    rw [hb] at hk; exact hk
end
end Go.Proofs.Ytgcecmfjpljpcaa
