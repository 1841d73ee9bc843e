/- Rows of cells in memory, slices over them, bytes; what the operations do there. -/
import Derived.Test.YtocjjigmpgekfaaWords
import Derived.Laws.MakeOwn
open Go Go.Den
namespace Go.Den
section
variable {P : Program} {w : World}

/-- The cells cs stand in block b from o on. -/
def At (w : World) (b o : Nat) (cs : List Value) : Prop :=
  ∃ l t fz, w.heap[b]? = some (.cells ⟨l⟩ t fz) ∧ o + cs.length ≤ l.length ∧ (l.drop o).take cs.length = cs
/-- And none of them is frozen. -/
def AtU (w : World) (b o : Nat) (cs : List Value) : Prop :=
  ∃ l t fz, w.heap[b]? = some (.cells ⟨l⟩ t fz) ∧ o + cs.length ≤ l.length ∧ (l.drop o).take cs.length = cs ∧ ∀ j, o ≤ j → j < o + cs.length → ¬ (fz.1 ≤ j ∧ j < fz.2)

theorem AtU.at {b o : Nat} {cs : List Value} (h : AtU w b o cs) : At w b o cs := by obtain ⟨l, t, fz, h1, h2, h3, _⟩ := h; exact ⟨l, t, fz, h1, h2, h3⟩
theorem At.lt {b o : Nat} {cs : List Value} (h : At w b o cs) : b < w.heap.size := by obtain ⟨l, t, fz, h1, _⟩ := h; exact lt_of_heap h1
theorem AtU.lt {b o : Nat} {cs : List Value} (h : AtU w b o cs) : b < w.heap.size := h.at.lt
theorem At.of_eq {b o : Nat} {cs : List Value} {w' : World} (h : At w b o cs) (e : w'.heap[b]? = w.heap[b]?) : At w' b o cs := by
  obtain ⟨l, t, fz, h1, h2⟩ := h; exact ⟨l, t, fz, e.trans h1, h2⟩
theorem AtU.of_eq {b o : Nat} {cs : List Value} {w' : World} (h : AtU w b o cs) (e : w'.heap[b]? = w.heap[b]?) : AtU w' b o cs := by
  obtain ⟨l, t, fz, h1, h2⟩ := h; exact ⟨l, t, fz, e.trans h1, h2⟩
theorem At.keep {b o : Nat} {cs : List Value} {w' : World} {S : Nat → Prop} (h : At w b o cs) (m : Mod S w w') (hb : ¬ S b) : At w' b o cs := h.of_eq (m.block b h.lt hb)
theorem AtU.keep {b o : Nat} {cs : List Value} {w' : World} {S : Nat → Prop} (h : AtU w b o cs) (m : Mod S w w') (hb : ¬ S b) : AtU w' b o cs := h.of_eq (m.block b h.lt hb)
theorem At.drew {b o : Nat} {cs : List Value} (h : At w b o cs) : At (drew w) b o cs := h
theorem AtU.drew {b o : Nat} {cs : List Value} (h : AtU w b o cs) : AtU (drew w) b o cs := h

theorem take_drop_get {l cs : List Value} {o : Nat} (h3 : (l.drop o).take cs.length = cs) (i : Nat) (hi : i < cs.length) : l[o + i]? = some cs[i] := by
  have : cs[i]? = some cs[i] := by simp [hi]
  rw [← this]
  conv => rhs; rw [← h3]
  rw [List.getElem?_take, if_pos hi, List.getElem?_drop]

theorem sub_take {l cs : List Value} {o i m : Nat} (h3 : (l.drop o).take cs.length = cs) (him : i + m ≤ cs.length) : (l.drop (o + i)).take m = (cs.drop i).take m := by
  conv => rhs; rw [← h3]
  rw [← List.drop_drop, List.drop_take, List.take_take]
  congr 1; omega

theorem At.sub {b o : Nat} {cs : List Value} (h : At w b o cs) {i m : Nat} (him : i + m ≤ cs.length) : At w b (o + i) ((cs.drop i).take m) := by
  obtain ⟨l, t, fz, h1, h2, h3⟩ := h
  have hl : ((cs.drop i).take m).length = m := by simp; omega
  refine ⟨l, t, fz, h1, by omega, ?_⟩
  rw [hl]; exact sub_take h3 him
theorem AtU.sub {b o : Nat} {cs : List Value} (h : AtU w b o cs) {i m : Nat} (him : i + m ≤ cs.length) : AtU w b (o + i) ((cs.drop i).take m) := by
  obtain ⟨l, t, fz, h1, h2, h3, h4⟩ := h
  have hl : ((cs.drop i).take m).length = m := by simp; omega
  refine ⟨l, t, fz, h1, by omega, ?_, fun j hj1 hj2 => h4 j (by omega) (by omega)⟩
  rw [hl]; exact sub_take h3 him

theorem At.load {T : TypeId} {b o i : Nat} {cs : List Value} {v : Value} (hT : scal P T = true) (h : At w b o cs) (hv : cs[i]? = some v) : (Instr.loadAt T (.pointer (some ⟨b, o + i, none⟩))).run P w = .ok v w := by
  obtain ⟨l, t, fz, h1, h2, h3⟩ := h
  have hi : i < cs.length := (List.getElem?_eq_some_iff.1 hv).1
  refine load_cell hT h1 ?_
  rw [take_drop_get h3 i hi]
  rw [← hv]; simp [hi]
theorem At.loadAgg {T : TypeId} {b o i n : Nat} {cs : List Value} (hT : aggN P T = some n) (h : At w b o cs) (hi : i + n ≤ cs.length) : (Instr.loadAt T (.pointer (some ⟨b, o + i, none⟩))).run P w = .ok (.agg ⟨(cs.drop i).take n⟩) w := by
  obtain ⟨l, t, fz, h1, h2, h3⟩ := h
  rw [load_agg hT h1 (by omega), sub_take h3 hi]

theorem splice_at {l cs vs : List Value} {o i : Nat} (h2 : o + cs.length ≤ l.length) (h3 : (l.drop o).take cs.length = cs) (hi : i + vs.length ≤ cs.length) :
    ((splice l (o + i) vs).drop o).take (splice cs i vs).length = splice cs i vs := by
  rw [length_splice hi]
  have e : splice l (o + i) vs = l.take o ++ (splice cs i vs ++ l.drop (o + cs.length)) := by
    have hl : l = l.take o ++ (cs ++ l.drop (o + cs.length)) := by
      conv => lhs; rw [← List.take_append_drop o l, ← List.take_append_drop cs.length (l.drop o), h3, List.drop_drop]
    have hlen : (l.take o).length = o := by simp; omega
    unfold splice
    have e1 : l.take (o + i) = l.take o ++ cs.take i := by
      conv => lhs; rw [hl]
      rw [List.take_append, hlen, List.take_of_length_le (by omega), show o + i - o = i by omega, List.take_append, show i - cs.length = 0 by omega]; simp
    have e2 : l.drop (o + i + vs.length) = cs.drop (i + vs.length) ++ l.drop (o + cs.length) := by
      conv => lhs; rw [hl]
      rw [List.drop_append, hlen, List.drop_eq_nil_of_le (by omega), List.nil_append, show o + i + vs.length - o = i + vs.length by omega, List.drop_append, show i + vs.length - cs.length = 0 by omega]; simp
    rw [e1, e2]; simp
  have hlen : (l.take o).length = o := by simp; omega
  rw [e, List.drop_append, hlen, List.drop_eq_nil_of_le (by omega), List.nil_append, Nat.sub_self, List.drop_zero, List.take_append_of_le_length (by rw [length_splice hi]; omega), List.take_of_length_le (by rw [length_splice hi]; omega)]

theorem AtU.store {T : TypeId} {b o i : Nat} {cs : List Value} {v : Value} (hT : scal P T = true) (h : AtU w b o cs) (hi : i < cs.length) (hv : v.oneCell' = true) :
    ∃ w', (Instr.storeAt T (.pointer (some ⟨b, o + i, none⟩)) v).run P w = .ok () w' ∧ AtU w' b o (cs.set i v) ∧ Mod (fun x => x = b) w w' ∧ w'.heap.size = w.heap.size := by
  obtain ⟨l, t, fz, h1, h2, h3, h4⟩ := h
  refine ⟨_, store_cell hT h1 (by omega) (h4 _ (by omega) (by omega)) hv, ⟨l.set (o + i) v, t, fz, heap_put_same (lt_of_heap h1), by simp; omega, ?_, fun j a1 a2 => h4 j a1 (by simpa using a2)⟩, (Mod.refl (fun x => x = b) w).put (.inr rfl) _, by simp⟩
  have e1 : l.set (o + i) v = splice l (o + i) [v] := by
    unfold splice; rw [List.set_eq_take_append_cons_drop, if_pos (by omega)]; simp
  have e2 : cs.set i v = splice cs i [v] := by
    unfold splice; rw [List.set_eq_take_append_cons_drop, if_pos hi]; simp
  rw [e1, e2]; exact splice_at h2 h3 (by simp; omega)

theorem AtU.storeAgg {T : TypeId} {b o i n : Nat} {cs vs : List Value} (hT : aggN P T = some n) (h : AtU w b o cs) (hn : vs.length = n) (hi : i + n ≤ cs.length) (hv : ∀ v ∈ vs, v.oneCell' = true) :
    ∃ w', (Instr.storeAt T (.pointer (some ⟨b, o + i, none⟩)) (.agg ⟨vs⟩)).run P w = .ok () w' ∧ AtU w' b o (splice cs i vs) ∧ Mod (fun x => x = b) w w' ∧ w'.heap.size = w.heap.size := by
  obtain ⟨l, t, fz, h1, h2, h3, h4⟩ := h
  subst hn
  refine ⟨_, store_agg hT h1 rfl (by omega) (fun j a1 a2 => h4 j (by omega) (by omega)) hv, ⟨splice l (o + i) vs, t, fz, heap_put_same (lt_of_heap h1), ?_, splice_at h2 h3 hi, fun j a1 a2 => h4 j a1 (by rwa [length_splice hi] at a2)⟩, (Mod.refl (fun x => x = b) w).put (.inr rfl) _, by simp⟩
  rw [length_splice hi, length_splice (by omega)]; exact h2

theorem AtU.new {cs : List Value} {t : TypeId} : AtU (w.alloc (.cells ⟨cs⟩ t)) w.heap.size 0 cs :=
  ⟨cs, t, (0, 0), heap_new w _, by simp, by simp, fun j _ _ => by simp⟩

/-- What an element's type lays: its size, its cells, its bytes. -/
def elemC (P : Program) (T : TypeId) : Option (Nat × Array Value × Nat) :=
  match P.underlying T with
  | some (.slice e) => match P.info? e with
    | some i => match i.zero with
      | some z => some (i.size, z.cells, i.bytes)
      | none => none
    | none => none
  | _ => none
def elemZ (P : Program) (T : TypeId) (k : Nat) (z : Value) (bytes : Nat) : Prop := elemC P T = some (k, ⟨List.replicate k z⟩, bytes)
theorem elemZ.is {T : TypeId} {k bytes : Nat} {z : Value} (h : elemZ P T k z bytes) : ∃ e i zv, P.underlying T = some (.slice e) ∧ P.info? e = some i ∧ i.size = k ∧ i.zero = some zv ∧ zv.cells = ⟨List.replicate k z⟩ ∧ i.bytes = bytes := by
  unfold elemZ elemC at h
  split at h
  · rename_i e he
    split at h
    · rename_i i hi
      split at h
      · rename_i zv hz
        have h := Option.some.inj h
        simp only [Prod.mk.injEq] at h
        exact ⟨e, i, zv, he, hi, h.1, hz, h.2.1, h.2.2⟩
      · cases h
    · cases h
  · cases h
theorem splice_all {cs old : List Value} (h : cs.length = old.length) : splice old 0 cs = cs := by
  unfold splice; simp [h]
theorem splice_snoc {cs vs : List Value} {i : Nat} {v : Value} (h : i + vs.length < cs.length) : (splice cs i vs).set (i + vs.length) v = splice cs i (vs ++ [v]) := by
  have hlen : (cs.take i ++ vs).length = i + vs.length := by simp; omega
  unfold splice
  rw [List.set_append_right _ _ (by omega), hlen, Nat.sub_self]
  have : cs.drop (i + vs.length) = cs[i + vs.length] :: cs.drop (i + vs.length + 1) := List.drop_eq_getElem_cons h
  rw [this]; simp [Nat.add_assoc]

theorem makeSlice_run {T : TypeId} {k bytes : Nat} {z : Value} {n : Nat} (hT : elemZ P T k z bytes) (hk0 : 0 < k) (hb : bytes * n ≤ 281474976710656) (hn : n ≤ 9223372036854775807) :
    ∃ w', (Instr.makeSlice T (.int .i64 n) (.int .i64 n)).run P w = .ok (.slice (some ⟨w.heap.size, 0, none⟩) n n) w' ∧ AtU w' w.heap.size 0 (List.replicate (n * k) z) ∧ Mod No w w' ∧ w'.heap.size = w.heap.size + 1 := by
  obtain ⟨e, i, zv, he, hi, hk, hz, hzc, hby⟩ := hT.is
  have hcells : madeCells zv.cells (n * k) = ⟨List.replicate (n * k) z⟩ := by
    rw [hzc]
    unfold madeCells
    apply Array.ext
    · simp
    · intro j hj1 hj2
      simp at hj1
      have : j % k < k := Nat.mod_lt _ hk0
      simp [this]
  have h := run_make w T e i zv he hi hz .i64 .i64 (n : Int) (n : Int) (by omega) (by omega) (by rw [hby]; have := Int.ofNat_le.2 hb; rw [Int.natCast_mul] at this; exact this) (by omega)
  rw [hk, Int.toNat_natCast, hcells] at h
  exact ⟨_, h, AtU.new, (Mod.refl No w).alloc _, World.size_alloc _ _⟩
end
end Go.Den
namespace Go.Den
section
variable {P : Program} {w : World}
theorem At.cells {b o n : Nat} {cs : List Value} (h : At w b o cs) (hn : n ≤ cs.length) : (loadCells ⟨b, o, none⟩ n).run P w = .ok ⟨cs.take n⟩ w := by
  obtain ⟨l, t, fz, h1, h2, h3⟩ := h
  have hl : (cs.take n).length = n := by simp; omega
  have := run_loadCells_list (P := P) w ⟨b, o, none⟩ (cs.take n) (fun j v hj => by
    have hjn : j < n := by have := (List.getElem?_eq_some_iff.1 hj).1; omega
    rw [add_none, cell_of h1, take_drop_get h3 j (by omega)]
    rw [List.getElem?_take, if_pos hjn] at hj
    rw [← hj]; simp)
  rwa [hl] at this
theorem AtU.stores {b o i : Nat} {cs vs : List Value} (h : AtU w b o cs) (hi : i + vs.length ≤ cs.length) (hv : ∀ v ∈ vs, v.oneCell' = true) :
    ∃ w', (storeCells ⟨b, o + i, none⟩ vs).run P w = .ok () w' ∧ AtU w' b o (splice cs i vs) ∧ Mod (fun x => x = b) w w' ∧ w'.heap.size = w.heap.size := by
  obtain ⟨l, t, fz, h1, h2, h3, h4⟩ := h
  have := store_cells (P := P) vs (o := o + i) (i := 0) h1 (by omega) (fun j a1 a2 => h4 j (by omega) (by omega)) hv
  refine ⟨_, this, ⟨splice l (o + i) vs, t, fz, heap_put_same (lt_of_heap h1), ?_, splice_at h2 h3 hi, fun j a1 a2 => h4 j a1 (by rwa [length_splice hi] at a2)⟩, (Mod.refl (fun x => x = b) w).put (.inr rfl) _, by simp⟩
  rw [length_splice hi, length_splice (by omega)]; exact h2

/-- copy, from a row into a row. -/
theorem copy_run {T T2 ty : TypeId} {k b o n c n2 c2 : Nat} {a2 : Option Addr} {old src : List Value} (hT : elemN P T = some k) (hd : AtU w b o old) (hold : old.length = n * k)
    (hs : src = [] ∨ ∃ b2 o2, a2 = some ⟨b2, o2, none⟩ ∧ At w b2 o2 src) (hsrc : src.length = n2 * k) (hv : ∀ v ∈ src, v.oneCell' = true) :
    ∃ w', (Builtin.copy_ #[T, T2] ty #[.slice (some ⟨b, o, none⟩) n c, .slice a2 n2 c2]).run P w = .ok (.int .i64 (Nat.min n2 n : Nat)) w' ∧
      AtU w' b o (splice old 0 (src.take (Nat.min n2 n * k))) ∧ Mod (fun x => x = b) w w' ∧ w'.heap.size = w.heap.size := by
  obtain ⟨e, i, he, hi, hk⟩ := elem_is hT
  have hm1 : Nat.min n2 n * k ≤ src.length := by rw [hsrc]; exact Nat.mul_le_mul_right _ (Nat.min_le_left _ _)
  have hm2 : Nat.min n2 n * k ≤ old.length := by rw [hold]; exact Nat.mul_le_mul_right _ (Nat.min_le_right _ _)
  have hf : (Builtin.firstCells k (Nat.min n2 n) (.slice a2 n2 c2)).run P w = .ok ⟨src.take (Nat.min n2 n * k)⟩ w := by
    rcases hs with rfl | ⟨b2, o2, rfl, hat⟩
    · cases a2 with
      | none => simp [Builtin.firstCells]
      | some a =>
        have h0 : Nat.min n2 n * k = 0 := by simpa using hm1
        simp only [Builtin.firstCells, h0]
        rfl
    · simp only [Builtin.firstCells]; exact hat.cells hm1
  obtain ⟨w', h1, h2, h3, h4⟩ := hd.stores (P := P) (i := 0) (vs := src.take (Nat.min n2 n * k)) (by simp; omega) (fun v hv' => hv v (List.mem_of_mem_take hv'))
  refine ⟨w', ?_, h2, h3, h4⟩
  have h1 : (storeCells ⟨b, o, none⟩ (src.take (Nat.min n2 n * k))).run P w = .ok () w' := h1
  simp [Builtin.copy_, run_und he, Builtin.lenOf, sizeOf, typeInfo, hi, hk, hf, h1, goInt]
/-- copy, from a row into a part of a row. -/
theorem copy_in {T T2 ty : TypeId} {k b o i n c n2 c2 : Nat} {a2 : Option Addr} {cs src : List Value} (hT : elemN P T = some k) (hd : AtU w b o cs) (hin : i + n * k ≤ cs.length)
    (hs : src = [] ∨ ∃ b2 o2, a2 = some ⟨b2, o2, none⟩ ∧ At w b2 o2 src) (hsrc : src.length = n2 * k) (hv : ∀ v ∈ src, v.oneCell' = true) :
    ∃ w', (Builtin.copy_ #[T, T2] ty #[.slice (some ⟨b, o + i, none⟩) n c, .slice a2 n2 c2]).run P w = .ok (.int .i64 (Nat.min n2 n : Nat)) w' ∧
      AtU w' b o (splice cs i (src.take (Nat.min n2 n * k))) ∧ Mod (fun x => x = b) w w' ∧ w'.heap.size = w.heap.size := by
  obtain ⟨e, inf, he, hi, hk⟩ := elem_is hT
  have hm1 : Nat.min n2 n * k ≤ src.length := by rw [hsrc]; exact Nat.mul_le_mul_right _ (Nat.min_le_left _ _)
  have hm2 : Nat.min n2 n * k ≤ n * k := Nat.mul_le_mul_right _ (Nat.min_le_right _ _)
  have hf : (Builtin.firstCells k (Nat.min n2 n) (.slice a2 n2 c2)).run P w = .ok ⟨src.take (Nat.min n2 n * k)⟩ w := by
    rcases hs with rfl | ⟨b2, o2, rfl, hat⟩
    · cases a2 with
      | none => simp [Builtin.firstCells]
      | some a =>
        have h0 : Nat.min n2 n * k = 0 := by simpa using hm1
        simp only [Builtin.firstCells, h0]
        rfl
    · simp only [Builtin.firstCells]; exact hat.cells hm1
  obtain ⟨w', h1, h2, h3, h4⟩ := hd.stores (P := P) (i := i) (vs := src.take (Nat.min n2 n * k)) (by simp; omega) (fun v hv' => hv v (List.mem_of_mem_take hv'))
  refine ⟨w', ?_, h2, h3, h4⟩
  simp [Builtin.copy_, run_und he, Builtin.lenOf, sizeOf, typeInfo, hi, hk, hf, h1, goInt]
end
end Go.Den
