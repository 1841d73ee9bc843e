/- Parts of the proof, in order: what the statement leans on. -/
import Derived.Test.YtiahkkekcmgkfaaDoorBa
section
/- Rows of cells in memory, slices over them, bytes; what the operations do there. -/
open Go Go.Den
namespace Go.Den
section
variable {P : Program} {w : World}

/-- The cells cs stand in block b from o on. -/
def At (w : World) (b o : Nat) (cs : List Value) : Prop :=
  ∃ l t fz, w.heap[b]? = some (.cells ⟨l⟩ t fz) ∧ o + cs.length ≤ l.length ∧ (l.drop o).take cs.length = cs
/-- And none of them is frozen. -/
def AtU (w : World) (b o : Nat) (cs : List Value) : Prop :=
  ∃ l t fz, w.heap[b]? = some (.cells ⟨l⟩ t fz) ∧ o + cs.length ≤ l.length ∧ (l.drop o).take cs.length = cs ∧ ∀ j, o ≤ j → j < o + cs.length → ¬ (fz.1 ≤ j ∧ j < fz.2)

theorem AtU.at {b o : Nat} {cs : List Value} (h : AtU w b o cs) : At w b o cs := by obtain ⟨l, t, fz, h1, h2, h3, _⟩ := h; exact ⟨l, t, fz, h1, h2, h3⟩
theorem At.lt {b o : Nat} {cs : List Value} (h : At w b o cs) : b < w.heap.size := by obtain ⟨l, t, fz, h1, _⟩ := h; exact lt_of_heap h1
theorem AtU.lt {b o : Nat} {cs : List Value} (h : AtU w b o cs) : b < w.heap.size := h.at.lt
theorem At.of_eq {b o : Nat} {cs : List Value} {w' : World} (h : At w b o cs) (e : w'.heap[b]? = w.heap[b]?) : At w' b o cs := by
  obtain ⟨l, t, fz, h1, h2⟩ := h; exact ⟨l, t, fz, e.trans h1, h2⟩
theorem AtU.of_eq {b o : Nat} {cs : List Value} {w' : World} (h : AtU w b o cs) (e : w'.heap[b]? = w.heap[b]?) : AtU w' b o cs := by
  obtain ⟨l, t, fz, h1, h2⟩ := h; exact ⟨l, t, fz, e.trans h1, h2⟩
theorem At.keep {b o : Nat} {cs : List Value} {w' : World} {S : Nat → Prop} (h : At w b o cs) (m : Mod S w w') (hb : ¬ S b) : At w' b o cs := h.of_eq (m.block b h.lt hb)
theorem AtU.keep {b o : Nat} {cs : List Value} {w' : World} {S : Nat → Prop} (h : AtU w b o cs) (m : Mod S w w') (hb : ¬ S b) : AtU w' b o cs := h.of_eq (m.block b h.lt hb)
theorem At.drew {b o : Nat} {cs : List Value} (h : At w b o cs) : At (drew w) b o cs := h
theorem AtU.drew {b o : Nat} {cs : List Value} (h : AtU w b o cs) : AtU (drew w) b o cs := h

theorem take_drop_get {l cs : List Value} {o : Nat} (h3 : (l.drop o).take cs.length = cs) (i : Nat) (hi : i < cs.length) : l[o + i]? = some cs[i] := by
  have : cs[i]? = some cs[i] := by simp [hi]
  rw [← this]
  conv => rhs; rw [← h3]
  rw [List.getElem?_take, if_pos hi, List.getElem?_drop]

theorem sub_take {l cs : List Value} {o i m : Nat} (h3 : (l.drop o).take cs.length = cs) (him : i + m ≤ cs.length) : (l.drop (o + i)).take m = (cs.drop i).take m := by
  conv => rhs; rw [← h3]
  rw [← List.drop_drop, List.drop_take, List.take_take]
  congr 1; omega

theorem At.sub {b o : Nat} {cs : List Value} (h : At w b o cs) {i m : Nat} (him : i + m ≤ cs.length) : At w b (o + i) ((cs.drop i).take m) := by
  obtain ⟨l, t, fz, h1, h2, h3⟩ := h
  have hl : ((cs.drop i).take m).length = m := by simp; omega
  refine ⟨l, t, fz, h1, by omega, ?_⟩
  rw [hl]; exact sub_take h3 him
theorem AtU.sub {b o : Nat} {cs : List Value} (h : AtU w b o cs) {i m : Nat} (him : i + m ≤ cs.length) : AtU w b (o + i) ((cs.drop i).take m) := by
  obtain ⟨l, t, fz, h1, h2, h3, h4⟩ := h
  have hl : ((cs.drop i).take m).length = m := by simp; omega
  refine ⟨l, t, fz, h1, by omega, ?_, fun j hj1 hj2 => h4 j (by omega) (by omega)⟩
  rw [hl]; exact sub_take h3 him

theorem At.load {T : TypeId} {b o i : Nat} {cs : List Value} {v : Value} (hT : scal P T = true) (h : At w b o cs) (hv : cs[i]? = some v) : (Instr.loadAt T (.pointer (some ⟨b, o + i, none⟩))).run P w = .ok v w := by
  obtain ⟨l, t, fz, h1, h2, h3⟩ := h
  have hi : i < cs.length := (List.getElem?_eq_some_iff.1 hv).1
  refine load_cell hT h1 ?_
  rw [take_drop_get h3 i hi]
  rw [← hv]; simp [hi]
theorem At.loadAgg {T : TypeId} {b o i n : Nat} {cs : List Value} (hT : aggN P T = some n) (h : At w b o cs) (hi : i + n ≤ cs.length) : (Instr.loadAt T (.pointer (some ⟨b, o + i, none⟩))).run P w = .ok (.agg ⟨(cs.drop i).take n⟩) w := by
  obtain ⟨l, t, fz, h1, h2, h3⟩ := h
  rw [load_agg hT h1 (by omega), sub_take h3 hi]

theorem splice_at {l cs vs : List Value} {o i : Nat} (h2 : o + cs.length ≤ l.length) (h3 : (l.drop o).take cs.length = cs) (hi : i + vs.length ≤ cs.length) :
    ((splice l (o + i) vs).drop o).take (splice cs i vs).length = splice cs i vs := by
  rw [length_splice hi]
  have e : splice l (o + i) vs = l.take o ++ (splice cs i vs ++ l.drop (o + cs.length)) := by
    have hl : l = l.take o ++ (cs ++ l.drop (o + cs.length)) := by
      conv => lhs; rw [← List.take_append_drop o l, ← List.take_append_drop cs.length (l.drop o), h3, List.drop_drop]
    have hlen : (l.take o).length = o := by simp; omega
    unfold splice
    have e1 : l.take (o + i) = l.take o ++ cs.take i := by
      conv => lhs; rw [hl]
      rw [List.take_append, hlen, List.take_of_length_le (by omega), show o + i - o = i by omega, List.take_append, show i - cs.length = 0 by omega]; simp
    have e2 : l.drop (o + i + vs.length) = cs.drop (i + vs.length) ++ l.drop (o + cs.length) := by
      conv => lhs; rw [hl]
      rw [List.drop_append, hlen, List.drop_eq_nil_of_le (by omega), List.nil_append, show o + i + vs.length - o = i + vs.length by omega, List.drop_append, show i + vs.length - cs.length = 0 by omega]; simp
    rw [e1, e2]; simp
  have hlen : (l.take o).length = o := by simp; omega
  rw [e, List.drop_append, hlen, List.drop_eq_nil_of_le (by omega), List.nil_append, Nat.sub_self, List.drop_zero, List.take_append_of_le_length (by rw [length_splice hi]; omega), List.take_of_length_le (by rw [length_splice hi]; omega)]

theorem AtU.store {T : TypeId} {b o i : Nat} {cs : List Value} {v : Value} (hT : scal P T = true) (h : AtU w b o cs) (hi : i < cs.length) (hv : v.oneCell' = true) :
    ∃ w', (Instr.storeAt T (.pointer (some ⟨b, o + i, none⟩)) v).run P w = .ok () w' ∧ AtU w' b o (cs.set i v) ∧ Mod (fun x => x = b) w w' ∧ w'.heap.size = w.heap.size := by
  obtain ⟨l, t, fz, h1, h2, h3, h4⟩ := h
  refine ⟨_, store_cell hT h1 (by omega) (h4 _ (by omega) (by omega)) hv, ⟨l.set (o + i) v, t, fz, heap_put_same (lt_of_heap h1), by simp; omega, ?_, fun j a1 a2 => h4 j a1 (by simpa using a2)⟩, (Mod.refl (fun x => x = b) w).put (.inr rfl) _, by simp⟩
  have e1 : l.set (o + i) v = splice l (o + i) [v] := by
    unfold splice; rw [List.set_eq_take_append_cons_drop, if_pos (by omega)]; simp
  have e2 : cs.set i v = splice cs i [v] := by
    unfold splice; rw [List.set_eq_take_append_cons_drop, if_pos hi]; simp
  rw [e1, e2]; exact splice_at h2 h3 (by simp; omega)

theorem AtU.storeAgg {T : TypeId} {b o i n : Nat} {cs vs : List Value} (hT : aggN P T = some n) (h : AtU w b o cs) (hn : vs.length = n) (hi : i + n ≤ cs.length) (hv : ∀ v ∈ vs, v.oneCell' = true) :
    ∃ w', (Instr.storeAt T (.pointer (some ⟨b, o + i, none⟩)) (.agg ⟨vs⟩)).run P w = .ok () w' ∧ AtU w' b o (splice cs i vs) ∧ Mod (fun x => x = b) w w' ∧ w'.heap.size = w.heap.size := by
  obtain ⟨l, t, fz, h1, h2, h3, h4⟩ := h
  subst hn
  refine ⟨_, store_agg hT h1 rfl (by omega) (fun j a1 a2 => h4 j (by omega) (by omega)) hv, ⟨splice l (o + i) vs, t, fz, heap_put_same (lt_of_heap h1), ?_, splice_at h2 h3 hi, fun j a1 a2 => h4 j a1 (by rwa [length_splice hi] at a2)⟩, (Mod.refl (fun x => x = b) w).put (.inr rfl) _, by simp⟩
  rw [length_splice hi, length_splice (by omega)]; exact h2

theorem AtU.new {cs : List Value} {t : TypeId} : AtU (w.alloc (.cells ⟨cs⟩ t)) w.heap.size 0 cs :=
  ⟨cs, t, (0, 0), heap_new w _, by simp, by simp, fun j _ _ => by simp⟩

/-- What an element's type lays: its size, its cells, its bytes. -/
def elemC (P : Program) (T : TypeId) : Option (Nat × Array Value × Nat) :=
  match P.underlying T with
  | some (.slice e) => match P.info? e with
    | some i => match i.zero with
      | some z => some (i.size, z.cells, i.bytes)
      | none => none
    | none => none
  | _ => none
def elemZ (P : Program) (T : TypeId) (k : Nat) (z : Value) (bytes : Nat) : Prop := elemC P T = some (k, ⟨List.replicate k z⟩, bytes)
theorem elemZ.is {T : TypeId} {k bytes : Nat} {z : Value} (h : elemZ P T k z bytes) : ∃ e i zv, P.underlying T = some (.slice e) ∧ P.info? e = some i ∧ i.size = k ∧ i.zero = some zv ∧ zv.cells = ⟨List.replicate k z⟩ ∧ i.bytes = bytes := by
  unfold elemZ elemC at h
  split at h
  · rename_i e he
    split at h
    · rename_i i hi
      split at h
      · rename_i zv hz
        have h := Option.some.inj h
        simp only [Prod.mk.injEq] at h
        exact ⟨e, i, zv, he, hi, h.1, hz, h.2.1, h.2.2⟩
      · cases h
    · cases h
  · cases h
end
end Go.Den
namespace Go.Den
section
variable {P : Program} {w : World}
theorem At.cells {b o n : Nat} {cs : List Value} (h : At w b o cs) (hn : n ≤ cs.length) : (loadCells ⟨b, o, none⟩ n).run P w = .ok ⟨cs.take n⟩ w := by
  obtain ⟨l, t, fz, h1, h2, h3⟩ := h
  have hl : (cs.take n).length = n := by simp; omega
  have := run_loadCells_list (P := P) w ⟨b, o, none⟩ (cs.take n) (fun j v hj => by
    have hjn : j < n := by have := (List.getElem?_eq_some_iff.1 hj).1; omega
    rw [add_none, cell_of h1, take_drop_get h3 j (by omega)]
    rw [List.getElem?_take, if_pos hjn] at hj
    rw [← hj]; simp)
  rwa [hl] at this
end
end Go.Den
end
section
/- Layer 1, numbers as bytes: num.Get, num.Put. -/
open Go Go.Den Go.Proofs
namespace Go.Den

def u8 (x : UInt8) : Value := .int .u8 (x.toNat : Int)
def u8L (xs : List UInt8) : List Value := xs.map u8
@[simp] theorem length_u8L (xs : List UInt8) : (u8L xs).length = xs.length := by simp [u8L]
theorem u8L_get {xs : List UInt8} {i : Nat} (hi : i < xs.length) : (u8L xs)[i]? = some (.int .u8 (xs[i].toNat : Int)) := by simp [u8L, hi, u8]
/-- A row of bytes that a slice shows. -/
def Row (w : World) (a : Option Addr) (cs : List Value) : Prop := cs = [] ∨ ∃ b o, a = some ⟨b, o, none⟩ ∧ At w b o cs
def RowU (w : World) (a : Option Addr) (cs : List Value) : Prop := cs = [] ∨ ∃ b o, a = some ⟨b, o, none⟩ ∧ AtU w b o cs
end Go.Den

namespace Go.Proofs.YtiahkkekcmgkfaaDoor
/-- A number's lowest bytes. -/
def toLe : Nat → Nat → List UInt8
  | 0, _ => []
  | k + 1, n => UInt8.ofNat (n % 256) :: toLe k (n / 256)
@[simp] theorem length_toLe : ∀ k n, (toLe k n).length = k
  | 0, _ => rfl
  | k + 1, n => by simp [toLe, length_toLe k]
end Go.Proofs.YtiahkkekcmgkfaaDoor
end
section
/- The ways of layer 9: blocks of names, spans, and back. -/
open Go Go.Den Go.Proofs
namespace Go.Den
def I (n : Int) : Value := .int .i64 n
def iL (ns : List Int) : List Value := ns.map I
@[simp] theorem length_iL (ns : List Int) : (iL ns).length = ns.length := by simp [iL]
theorem one_u8L (xs : List UInt8) : ∀ v ∈ u8L xs, v.oneCell' = true := by
  intro v hv; simp [u8L] at hv; obtain ⟨x, _, rfl⟩ := hv; rfl
theorem u8L_sub (xs : List UInt8) (i m : Nat) : ((u8L xs).drop i).take m = u8L ((xs.drop i).take m) := by simp [u8L, List.map_drop, List.map_take]
theorem Row.sub {w : World} {a : Option Addr} {c i m : Nat} {xs : List UInt8} (h : Row w a (u8L xs)) (him : i + m ≤ xs.length) (hc : xs.length ≤ c) (hm : 0 < m) : Row w (cutA a c i 1) (u8L ((xs.drop i).take m)) := by
  rcases h with h | ⟨b, o, rfl, hat⟩
  · have := congrArg List.length h; simp at this; rw [this] at him; simp at him; omega
  · refine .inr ⟨b, o + i, ?_, ?_⟩
    · unfold cutA; rw [if_neg (by omega)]; simp [add_none]
    · rw [← u8L_sub]; exact hat.sub (by simpa using him)
end Go.Den

namespace Go.Proofs.YtiahkkekcmgkfaaDoor
theorem elemZ_bytes : elemZ Tryd.prog 62 1 (.int .u8 0) 1 := by unfold elemZ; kernel_rfl

end Go.Proofs.YtiahkkekcmgkfaaDoor
end
section
/- Slices that grow: append, and bytes as strings. -/
open Go Go.Den
namespace Go.Den
section
variable {P : Program} {w : World}

theorem Mod.grown {b : World} {row : Option Nat} (h : w.grownBy b row) : Mod (fun x => row = some x) w b :=
  ⟨h.tape, h.os, h.output, h.size, fun k hk hn => h.block k hk (fun e => hn e.symm)⟩

/-- A row of one's own: in a block from base on. -/
def Own (P : Program) (w : World) (base : Nat) (T : TypeId) (k : Nat) (a : Option Addr) (l c : Nat) (xs : List Value) : Prop :=
  ∃ e, P.underlying T = some (.slice e) ∧ w.ownsRow base e k (.slice a l c) l xs

theorem Own.len {base k l c : Nat} {T : TypeId} {a : Option Addr} {xs : List Value} (h : Own P w base T k a l c xs) : xs.length = l * k := by obtain ⟨e, _, h⟩ := h; exact h.1
theorem Own.nil {base k bytes : Nat} {T : TypeId} {z : Value} (hT : elemZ P T k z bytes) : Own P w base T k none 0 0 [] := by
  obtain ⟨e, i, zv, he, _⟩ := hT.is
  exact ⟨e, he, World.ownsRow_nil w base e k⟩
theorem Own.base {base k l c : Nat} {T : TypeId} {a : Option Addr} {xs : List Value} (h : Own P w base T k a l c xs) {q : Addr} (hq : a = some q) : base ≤ q.block ∧ q.block < w.heap.size := by
  obtain ⟨e, _, h⟩ := h
  exact h.lt q.block (by rw [hq]; rfl)
theorem Own.zero {base k l c : Nat} {T : TypeId} {xs : List Value} (h : Own P w base T k none l c xs) : l = 0 ∧ c = 0 := by
  obtain ⟨e, _, h⟩ := h
  rcases h.2 with ⟨h1, h2⟩ | ⟨g, cap, cur, h1, _⟩
  · simp at h1; exact ⟨h2, h1.2⟩
  · simp at h1
theorem Own.cap {base k l c : Nat} {T : TypeId} {a : Option Addr} {xs : List Value} (h : Own P w base T k a l c xs) : l ≤ c ∧ c ≤ maxLen := by
  obtain ⟨e, _, h⟩ := h
  rcases h.2 with ⟨h1, h2⟩ | ⟨g, cap, cur, h1, _, _, h3, h4, _⟩
  · simp at h1; omega
  · simp at h1; obtain ⟨_, rfl⟩ := h1; exact ⟨h3, h4⟩
theorem Own.keep {base k l c : Nat} {T : TypeId} {a : Option Addr} {xs : List Value} {S : Nat → Prop} {w' : World} (h : Own P w base T k a l c xs) (m : Mod S w w') (hs : ∀ q, a = some q → ¬ S q.block) : Own P w' base T k a l c xs := by
  obtain ⟨e, he, h1, h2⟩ := h
  refine ⟨e, he, h1, ?_⟩
  rcases h2 with hn | ⟨g, cap, cur, hv, hb, hg, rest⟩
  · exact .inl hn
  · refine .inr ⟨g, cap, cur, hv, hb, ?_, rest⟩
    simp at hv
    exact m.keep hg (hs _ hv.1)
theorem Own.mono {base base' k l c : Nat} {T : TypeId} {a : Option Addr} {xs : List Value} (h : Own P w base T k a l c xs) (hb : base' ≤ base) : Own P w base' T k a l c xs := by
  obtain ⟨e, he, h1, h2⟩ := h
  refine ⟨e, he, h1, ?_⟩
  rcases h2 with hn | ⟨g, cap, cur, hv, hb', rest⟩
  · exact .inl hn
  · exact .inr ⟨g, cap, cur, hv, by omega, rest⟩
/-- The cells up to the capacity. -/
theorem Own.rowU {base k l c : Nat} {T : TypeId} {a : Option Addr} {xs : List Value} (h : Own P w base T k a l c xs) : RowU w a xs := by
  obtain ⟨e, he, h1, h2⟩ := h
  rcases h2 with ⟨hn, hz⟩ | ⟨g, cap, cur, hv, hb, hg, hle, _, hsz, ht⟩
  · left; exact List.eq_nil_of_length_eq_zero (by rw [h1, hz]; omega)
  · right
    simp at hv
    have hm : l * k ≤ cap * k := Nat.mul_le_mul_right _ hle
    refine ⟨g, 0, hv.1, cur.toList, e, (0, 0), hg, ?_, ?_, fun j _ _ => by simp⟩
    · rw [h1]; simp [hsz]; exact hm
    · rw [h1]; simpa using ht
theorem RowU.row {a : Option Addr} {xs : List Value} (h : RowU w a xs) : Row w a xs := by
  rcases h with h | ⟨b, o, e, h⟩
  · exact .inl h
  · exact .inr ⟨b, o, e, h.at⟩
theorem Row.keep {a : Option Addr} {xs : List Value} {S : Nat → Prop} {w' : World} (h : Row w a xs) (m : Mod S w w') (hs : ∀ q, a = some q → ¬ S q.block) : Row w' a xs := by
  rcases h with h | ⟨b, o, e, h⟩
  · exact .inl h
  · exact .inr ⟨b, o, e, h.keep m (hs _ e)⟩
theorem RowU.keep {a : Option Addr} {xs : List Value} {S : Nat → Prop} {w' : World} (h : RowU w a xs) (m : Mod S w w') (hs : ∀ q, a = some q → ¬ S q.block) : RowU w' a xs := by
  rcases h with h | ⟨b, o, e, h⟩
  · exact .inl h
  · exact .inr ⟨b, o, e, h.keep m (hs _ e)⟩
theorem Row.nos {a : Option Addr} {xs : List Value} {w' : World} (h : Row w a xs) (m : Mod No w w') : Row w' a xs := h.keep m fun _ _ => id
theorem Own.nos {base k l c : Nat} {T : TypeId} {a : Option Addr} {xs : List Value} {w' : World} (h : Own P w base T k a l c xs) (m : Mod No w w') : Own P w' base T k a l c xs := h.keep m fun _ _ => id

theorem At.cell {b o j : Nat} {xs : List Value} {v : Value} (h : At w b o xs) (hj : xs[j]? = some v) : w.cell? (Addr.add ⟨b, o, none⟩ j) = some v := by
  obtain ⟨l, t, fz, h1, h2, h3⟩ := h
  have hjn : j < xs.length := (List.getElem?_eq_some_iff.1 hj).1
  rw [add_none, cell_of h1, take_drop_get h3 j hjn, ← hj]; simp [hjn]

/-- append, of a row to a row of one's own. -/
theorem Own.append {base k bytes l c m c2 : Nat} {T ty : TypeId} {z : Value} {a a2 : Option Addr} {xs ys : List Value} (hT : elemZ P T k z bytes) (hk : 0 < k) (h : Own P w base T k a l c xs)
    (hr : Row w a2 ys) (hl : ys.length = m * k) (h0 : a2 = none → m = 0 ∧ c2 = 0) (h1 : ∀ v ∈ ys, v.oneCell' = true) (h63 : (l + m) * bytes ≤ 140737488355328) (hb : 0 < bytes) (hbase : base ≤ w.heap.size) :
    ∃ a' c' w', (Builtin.append_ #[T, T] ty #[.slice a l c, .slice a2 m c2]).run P w = .ok (.slice a' (l + m) c') w' ∧ Own P w' base T k a' (l + m) c' (xs ++ ys) ∧ Mod (fun x => base ≤ x) w w' := by
  obtain ⟨e, i, zv, he, hi, hsz, hz, hzc, hby⟩ := hT.is
  obtain ⟨e', he', how⟩ := h
  have : e' = e := by rw [he] at he'; simpa using he'.symm
  subst this
  have h63' : l + m ≤ maxLen := by
    have : l + m ≤ (l + m) * bytes := Nat.le_mul_of_pos_right _ hb
    simp [maxLen]; omega
  cases a2 with
  | none =>
    obtain ⟨rfl, rfl⟩ := h0 rfl
    have hy : ys = [] := List.eq_nil_of_length_eq_zero (by omega)
    subst hy
    refine ⟨a, c, w, ?_, ⟨e', he, by simpa using how⟩, Mod.refl _ _⟩
    exact run_append_owned_none w base T ty e' i k he hi _ l xs how
  | some ad =>
    have hcell : ∀ j u, ys[j]? = some u → w.cell? (ad.add j) = some u := by
      intro j u hj
      rcases hr with hr | ⟨b, o, e, hat⟩
      · subst hr; simp at hj
      · simp at e; subst e; exact hat.cell hj
    obtain ⟨v', w', hrun, how', hgr, _⟩ := run_append_own w base T ty e' i zv k bytes he hi hz hsz hby (by rw [hzc]; simp) hk (.slice a l c) l xs how ad m c2 ys hl hcell h1 h63' h63 hbase
    have hv : ∃ a' c', v' = .slice a' (l + m) c' := by
      rcases how'.2 with ⟨hn, hz⟩ | ⟨g, cap, cur, hv, _⟩
      · exact ⟨none, 0, by rw [hn, hz]⟩
      · exact ⟨_, cap, hv⟩
    obtain ⟨a', c', rfl⟩ := hv
    refine ⟨a', c', w', hrun, ⟨e', he, how'⟩, (Mod.grown hgr).mono fun x hx e => ?_⟩
    exact (how.lt x e).1

end
end Go.Den
end
section
/- Layer 1 of the document's answers: bytes of numbers, bytes over bytes, lent rows and whether they are kept. -/
open Go Go.Den Go.Proofs
namespace Go.Den
def nI (x : List Value) (i : Nat) : Int := match nth x i with | .int _ n => n | _ => 0
section
variable {P : Program} {w : World}
/-- append of one new value. -/
theorem Own.snoc {base k bytes l c : Nat} {T ty : TypeId} {t : TypeId} {z : Value} {a : Option Addr} {xs ys : List Value} (hT : elemZ P T k z bytes) (hk : 0 < k) (h : Own P w base T k a l c xs)
    (hl : ys.length = k) (h1 : ∀ v ∈ ys, v.oneCell' = true) (h63 : (l + 1) * bytes ≤ 140737488355328) (hb : 0 < bytes) (hbase : base ≤ w.heap.size) :
    ∃ a' c' w', (Builtin.append_ #[T, T] ty #[.slice a l c, .slice (some ⟨w.heap.size, 0, none⟩) 1 1]).run P (w.alloc (.cells ⟨ys⟩ t)) = .ok (.slice a' (l + 1) c') w' ∧ Own P w' base T k a' (l + 1) c' (xs ++ ys) ∧ Mod (fun x => base ≤ x) w w' := by
  have hm : Mod No w (w.alloc (.cells ⟨ys⟩ t)) := (Mod.refl No w).alloc _
  obtain ⟨a', c', w', h2, h3, h4⟩ := (h.nos hm).append (ty := ty) hT hk (a2 := some ⟨w.heap.size, 0, none⟩) (m := 1) (c2 := 1) (ys := ys) (.inr ⟨_, _, rfl, AtU.new.at⟩) (by omega) (fun e => by cases e) h1 h63 hb (Nat.le_trans hbase hm.size)
  exact ⟨a', c', w', h2, h3, (hm.mono fun _ _ h => h.elim).trans h4 fun _ _ h => h⟩
theorem Mod.up {base : Nat} {a b c : World} (h : Mod No a b) (m : Mod (fun x => base ≤ x) b c) (hb : a.heap.size ≤ base) : Mod No a c := h.trans m fun x hx e => by omega
end
end Go.Den
namespace Go.Proofs.YtiahkkekcmgkfaaDoor

def a5 : List UInt8 := [165, 165, 165, 165, 165, 165, 165, 165]
/-- A row lent: its bytes, with eight bytes of room behind. -/
def LentAt (w : World) (b l c : Nat) (xs : List UInt8) : Prop := l = xs.length ∧ l + 8 ≤ c ∧ AtU w b 0 (u8L (xs ++ a5))
theorem LentAt.row {w : World} {b l c : Nat} {xs : List UInt8} (h : LentAt w b l c xs) : Row w (some ⟨b, 0, none⟩) (u8L xs) := by
  obtain ⟨h1, h2, h3⟩ := h
  refine .inr ⟨b, 0, rfl, ?_⟩
  have := h3.at.sub (i := 0) (m := xs.length) (by simp)
  simpa [u8L] using this
theorem LentAt.keep {w w' : World} {b l c : Nat} {xs : List UInt8} {S : Nat → Prop} (h : LentAt w b l c xs) (m : Mod S w w') (hb : ¬ S b) : LentAt w' b l c xs := ⟨h.1, h.2.1, h.2.2.keep m hb⟩

end Go.Proofs.YtiahkkekcmgkfaaDoor
end
section
/- A loop whose measure is known to the proof alone. -/
open Go Go.Den
namespace Go.Den
theorem least_ex {p : Nat → Prop} (h : ∃ m, p m) : ∃ m, p m ∧ ∀ k, p k → m ≤ k := by
  obtain ⟨m, hm⟩ := h
  induction m using Nat.strongRecOn with
  | _ m ih =>
    by_cases e : ∃ k, k < m ∧ p k
    · obtain ⟨k, hk, hp⟩ := e
      exact ih k hk hp
    · exact ⟨m, hm, fun k hk => Nat.le_of_not_lt fun hl => e ⟨k, hl, hk⟩⟩
/-- A loop whose measure is known to the proof alone. -/
theorem LoopC.by {B : (List Value → World → Prop) → List Value → World → Prop} (J : Nat → List Value → World → Prop) {m : Nat} {x : List Value} {w : World} (h : J m x w)
    (hs : ∀ m x w, J m x w → B (fun x' w' => ∃ m', m' < m ∧ J m' x' w') x w) : LoopC B x w := by
  classical
  let μ : List Value → World → Nat := fun x w => if h : ∃ m, J m x w then Classical.choose (least_ex h) else 0
  have hμ : ∀ x w, (∃ m, J m x w) → J (μ x w) x w ∧ ∀ k, J k x w → μ x w ≤ k := fun x w h => by
    show J (if h : ∃ m, J m x w then Classical.choose (least_ex h) else 0) x w ∧ ∀ k, J k x w → (if h : ∃ m, J m x w then Classical.choose (least_ex h) else 0) ≤ k
    rw [dif_pos h]
    exact Classical.choose_spec (least_ex h)
  refine ⟨fun x w => ∃ m, J m x w, μ, ⟨m, h⟩, fun x w hI => ?_⟩
  have e : (fun x' w' => (∃ m, J m x' w') ∧ μ x' w' < μ x w) = fun x' w' => ∃ m', m' < μ x w ∧ J m' x' w' := by
    funext x' w'
    apply propext
    constructor
    · rintro ⟨h1, h2⟩
      exact ⟨_, h2, (hμ x' w' h1).1⟩
    · rintro ⟨m', hm, hJ⟩
      exact ⟨⟨m', hJ⟩, Nat.lt_of_le_of_lt ((hμ x' w' ⟨m', hJ⟩).2 m' hJ) hm⟩
  show B (fun x' w' => (∃ m, J m x' w') ∧ μ x' w' < μ x w) x w
  rw [e]
  exact hs _ x w (hμ x w hI).1
end Go.Den
end
section
/- Patterns, in plain terms: what a text must be to be as a pattern says; one step of the way with a star to go back to; one row of the table. -/
namespace Go.Den
abbrev Bs := List UInt8
def okG (c : UInt8) (seg : Bs) : Prop := if c = 42 then True else ∃ x, seg = [x] ∧ (c = 63 ∨ c = x)
inductive Mt : Bs → Bs → Prop
  | nil : Mt [] []
  | cons {c : UInt8} {seg p s : Bs} : okG c seg → Mt p s → Mt (c :: p) (seg ++ s)
theorem Mt.nil_iff {s : Bs} : Mt [] s ↔ s = [] := by
  constructor
  · intro h; cases h; rfl
  · rintro rfl; exact .nil
theorem Mt.cons_iff {c : UInt8} {p s : Bs} : Mt (c :: p) s ↔ ∃ seg t, s = seg ++ t ∧ okG c seg ∧ Mt p t := by
  constructor
  · intro h
    cases h with
    | cons ho hm => exact ⟨_, _, rfl, ho, hm⟩
  · rintro ⟨seg, t, rfl, ho, hm⟩; exact .cons ho hm
theorem Mt.app : ∀ {p q s t : Bs}, Mt p s → Mt q t → Mt (p ++ q) (s ++ t)
  | _, _, _, _, .nil, h => h
  | _, _, _, _, .cons ho hm, h => by
    rw [List.cons_append, List.append_assoc]
    exact .cons ho (hm.app h)
theorem Mt.split : ∀ {p q u : Bs}, Mt (p ++ q) u → ∃ s t, u = s ++ t ∧ Mt p s ∧ Mt q t
  | [], q, u, h => ⟨[], u, rfl, .nil, h⟩
  | c :: p, q, u, h => by
    rw [List.cons_append, Mt.cons_iff] at h
    obtain ⟨seg, t, rfl, ho, hm⟩ := h
    obtain ⟨s, t', rfl, h1, h2⟩ := Mt.split hm
    exact ⟨seg ++ s, t', by rw [List.append_assoc], .cons ho h1, h2⟩
theorem okG_star (seg : Bs) : okG 42 seg := by unfold okG; rw [if_pos rfl]; trivial
theorem okG_one {c : UInt8} (h : c ≠ 42) {seg : Bs} : okG c seg ↔ ∃ x, seg = [x] ∧ (c = 63 ∨ c = x) := by unfold okG; rw [if_neg h]
/-- A pattern without stars takes as many bytes as it has. -/
theorem Mt.len : ∀ {p s : Bs}, (∀ c ∈ p, c ≠ 42) → Mt p s → s.length = p.length
  | _, _, _, .nil => rfl
  | _, _, hp, .cons ho hm => by
    obtain ⟨x, rfl, _⟩ := (okG_one (hp _ List.mem_cons_self)).1 ho
    have := Mt.len (fun c hc => hp c (List.mem_cons_of_mem _ hc)) hm
    simp [this]
/-- Nothing is left: all that is left of the pattern is stars. -/
theorem Mt.stars {p : Bs} : Mt p [] ↔ ∀ c ∈ p, c = 42 := by
  induction p with
  | nil => exact ⟨fun _ c hc => (by cases hc), fun _ => Mt.nil⟩
  | cons c p ih =>
    rw [Mt.cons_iff]
    constructor
    · rintro ⟨seg, t, e, ho, hm⟩
      obtain ⟨e1, e2⟩ := List.append_eq_nil_iff.1 e.symm
      subst e1 e2
      intro d hd
      rcases List.mem_cons.1 hd with rfl | hd
      · by_cases e : d = 42
        · exact e
        · obtain ⟨x, e, _⟩ := (okG_one e).1 ho; cases e
      · exact ih.1 hm d hd
    · intro h
      have := h c List.mem_cons_self
      subst this
      exact ⟨[], [], rfl, okG_star _, ih.2 fun d hd => h d (List.mem_cons_of_mem _ hd)⟩
theorem Mt.one {c x : UInt8} {p s : Bs} (hc : c ≠ 42) : Mt (c :: p) (x :: s) ↔ (c = 63 ∨ c = x) ∧ Mt p s := by
  rw [Mt.cons_iff]
  constructor
  · rintro ⟨seg, t, e, ho, hm⟩
    obtain ⟨y, rfl, hy⟩ := (okG_one hc).1 ho
    simp at e
    obtain ⟨rfl, rfl⟩ := e
    exact ⟨hy, hm⟩
  · rintro ⟨hx, hm⟩
    exact ⟨[x], s, rfl, (okG_one hc).2 ⟨x, rfl, hx⟩, hm⟩
theorem Mt.more {p s : Bs} (u : Bs) (h : Mt (42 :: p) s) : Mt (42 :: p) (u ++ s) := by
  rw [Mt.cons_iff] at h ⊢
  obtain ⟨seg, t, rfl, _, hm⟩ := h
  exact ⟨u ++ seg, t, by rw [List.append_assoc], okG_star _, hm⟩
/-- Behind a star and bytes that were found, another star: the first one need not be asked again. -/
theorem Mt.newStar {Q r seg t : Bs} (hQ : ∀ c ∈ Q, c ≠ 42) (hm : Mt Q seg) : Mt (42 :: (Q ++ 42 :: r)) (seg ++ t) ↔ Mt (42 :: r) t := by
  constructor
  · intro h
    obtain ⟨u, v, e, _, h2⟩ := Mt.cons_iff.1 h
    obtain ⟨a, b, rfl, h3, h4⟩ := Mt.split h2
    have l1 := Mt.len hQ hm
    have l2 := Mt.len hQ h3
    have : ∃ z, t = z ++ b := by
      rw [← List.append_assoc] at e
      have hl : seg.length ≤ (u ++ a).length := by rw [List.length_append]; omega
      obtain ⟨z, hz⟩ : ∃ z, u ++ a = seg ++ z := by
        refine ⟨(u ++ a).drop seg.length, ?_⟩
        have h1 : (seg ++ t).take seg.length = seg := by simp
        have h2 : ((u ++ a) ++ b).take seg.length = (u ++ a).take seg.length := by rw [List.take_append_of_le_length hl]
        rw [e, h2] at h1
        have h3 := List.take_append_drop seg.length (u ++ a)
        rw [h1] at h3
        exact h3.symm
      rw [hz, List.append_assoc] at e
      exact ⟨z, List.append_cancel_left e⟩
    obtain ⟨z, rfl⟩ := this
    exact h4.more z
  · intro h
    exact Mt.cons_iff.2 ⟨[], seg ++ t, rfl, okG_star _, hm.app h⟩
/-- A star, bytes that were found, and then one that is not: the star takes one byte more. -/
theorem Mt.goOn {Q R seg t : Bs} {x : UInt8} (hQ : ∀ c ∈ Q, c ≠ 42) (hm : Mt Q seg) (hno : ¬ Mt R t) (y : Bs) (hy : seg ++ t = x :: y) : Mt (42 :: (Q ++ R)) (seg ++ t) ↔ Mt (42 :: (Q ++ R)) y := by
  constructor
  · intro h
    obtain ⟨u, v, e, _, h2⟩ := Mt.cons_iff.1 h
    cases u with
    | nil =>
      exfalso
      obtain ⟨a, b, rfl, h3, h4⟩ := Mt.split h2
      have l1 := Mt.len hQ hm
      have l2 := Mt.len hQ h3
      rw [List.nil_append] at e
      obtain ⟨_, rfl⟩ := List.append_inj e (by omega)
      exact hno h4
    | cons z u =>
      rw [e] at hy
      rw [List.cons_append] at hy
      obtain ⟨_, rfl⟩ := List.cons_eq_cons.1 hy
      exact Mt.cons_iff.2 ⟨u, v, rfl, okG_star _, h2⟩
  · intro h
    rw [hy]
    exact h.more [x]
/-- At the end, with a star. -/
theorem Mt.atEnd {Q R seg : Bs} (hQ : ∀ c ∈ Q, c ≠ 42) (hm : Mt Q seg) : Mt (42 :: (Q ++ R)) seg ↔ Mt R [] := by
  constructor
  · intro h
    obtain ⟨u, v, e, _, h2⟩ := Mt.cons_iff.1 h
    obtain ⟨a, b, rfl, h3, h4⟩ := Mt.split h2
    have l1 := Mt.len hQ hm
    have l2 := Mt.len hQ h3
    have := congrArg List.length e
    simp at this
    have hb : b = [] := List.eq_nil_of_length_eq_zero (by omega)
    rw [hb] at h4; exact h4
  · intro h
    refine Mt.cons_iff.2 ⟨[], seg, rfl, okG_star _, ?_⟩
    have := hm.app h
    rwa [List.append_nil] at this
theorem Mt.snoc {Q s : Bs} {c x : UInt8} (hm : Mt Q s) (hc : c ≠ 42) (hx : c = 63 ∨ c = x) : Mt (Q ++ [c]) (s ++ [x]) :=
  hm.app ((Mt.one hc).2 ⟨hx, .nil⟩)
/-- The way with a star to go back to: where it is. -/
structure Gw (P S : Bs) (p k star frm : Nat) (st : Bool) : Prop where
  hp : p ≤ P.length
  hk : k ≤ S.length
  no : st = false → (∀ c ∈ P.take p, c ≠ 42) ∧ (Mt P S ↔ Mt (P.drop p) (S.drop k))
  yes : st = true → star < p ∧ P[star]? = some 42 ∧ frm ≤ k ∧ (∀ c ∈ (P.take p).drop (star + 1), c ≠ 42) ∧ Mt ((P.take p).drop (star + 1)) ((S.take k).drop frm) ∧ (Mt P S ↔ Mt (P.drop star) (S.drop frm))
theorem Gw.start (P S : Bs) (a b : Nat) : Gw P S 0 0 a b false := ⟨Nat.zero_le _, Nat.zero_le _, fun _ => ⟨by simp, by simp⟩, fun h => by cases h⟩
theorem drop_cons {l : Bs} {i : Nat} {c : UInt8} (h : l[i]? = some c) : l.drop i = c :: l.drop (i + 1) := by
  obtain ⟨hi, e⟩ := List.getElem?_eq_some_iff.1 h
  rw [List.drop_eq_getElem_cons hi, e]
theorem parts {P : Bs} {star p : Nat} (h1 : star < p) (h2 : p ≤ P.length) (hs : P[star]? = some 42) : P.drop star = 42 :: ((P.take p).drop (star + 1) ++ P.drop p) := by
  rw [drop_cons hs]
  congr 1
  conv => lhs; rw [← List.take_append_drop p P]
  rw [List.drop_append_of_le_length (by rw [List.length_take]; omega)]
theorem cut {S : Bs} {frm k : Nat} (h1 : frm ≤ k) (h2 : k ≤ S.length) : S.drop frm = (S.take k).drop frm ++ S.drop k := by
  conv => lhs; rw [← List.take_append_drop k S]
  rw [List.drop_append_of_le_length (by rw [List.length_take]; omega)]
theorem take_snoc' {l : Bs} {i : Nat} {c : UInt8} (h : l[i]? = some c) : l.take (i + 1) = l.take i ++ [c] := by
  obtain ⟨hi, e⟩ := List.getElem?_eq_some_iff.1 h
  rw [List.take_succ_eq_append_getElem hi, e]
section
variable {P S : Bs} {p k sr frm : Nat} {st : Bool}
/-- A star in the pattern. -/
theorem Gw.aStar (h : Gw P S p k sr frm st) (hc : P[p]? = some 42) : Gw P S (p + 1) k p k true := by
  have hpl := (List.getElem?_eq_some_iff.1 hc).1
  refine ⟨hpl, h.hk, fun e => (by cases e), fun _ => ⟨Nat.lt_succ_self _, hc, Nat.le_refl _, ?_, ?_, ?_⟩⟩
  · rw [List.drop_eq_nil_of_le (by rw [List.length_take]; omega)]; intro c hc; cases hc
  · rw [List.drop_eq_nil_of_le (by rw [List.length_take]; omega), List.drop_eq_nil_of_le (by rw [List.length_take]; omega)]; exact .nil
  · cases st with
    | false => exact (h.no rfl).2
    | true =>
      obtain ⟨h1, h2, h3, h4, h5, h6⟩ := h.yes rfl
      rw [h6, parts h1 h.hp h2, cut h3 h.hk, drop_cons hc]
      exact Mt.newStar h4 h5
/-- A byte that is as the pattern says. -/
theorem Gw.byte (h : Gw P S p k sr frm st) {c x : UInt8} (hc : P[p]? = some c) (hx : S[k]? = some x) (hn : c ≠ 42) (ho : c = 63 ∨ c = x) : Gw P S (p + 1) (k + 1) sr frm st := by
  have hpl := (List.getElem?_eq_some_iff.1 hc).1
  have hkl := (List.getElem?_eq_some_iff.1 hx).1
  refine ⟨hpl, hkl, fun e => ?_, fun e => ?_⟩
  · obtain ⟨h1, h2⟩ := h.no e
    refine ⟨?_, ?_⟩
    · rw [take_snoc' hc]
      intro d hd
      rcases List.mem_append.1 hd with hd | hd
      · exact h1 d hd
      · rw [List.mem_singleton.1 hd]; exact hn
    · rw [h2, drop_cons hc, drop_cons hx, Mt.one hn]
      exact ⟨fun h => h.2, fun h => ⟨ho, h⟩⟩
  · obtain ⟨h1, h2, h3, h4, h5, h6⟩ := h.yes e
    have e1 : (P.take (p + 1)).drop (sr + 1) = (P.take p).drop (sr + 1) ++ [c] := by rw [take_snoc' hc, List.drop_append_of_le_length (by rw [List.length_take]; omega)]
    have e2 : (S.take (k + 1)).drop frm = (S.take k).drop frm ++ [x] := by rw [take_snoc' hx, List.drop_append_of_le_length (by rw [List.length_take]; omega)]
    refine ⟨by omega, h2, by omega, ?_, ?_, h6⟩
    · rw [e1]
      intro d hd
      rcases List.mem_append.1 hd with hd | hd
      · exact h4 d hd
      · rw [List.mem_singleton.1 hd]; exact hn
    · rw [e1, e2]; exact h5.snoc hn ho
/-- One that is not: not matched from here on. -/
theorem no_match {x : UInt8} (hx : S[k]? = some x) (hno : ∀ c, P[p]? = some c → c ≠ 42 ∧ ¬ (c = 63 ∨ c = x)) : ¬ Mt (P.drop p) (S.drop k) := by
  rw [drop_cons hx]
  cases hc : P[p]? with
  | none =>
    rw [List.drop_eq_nil_of_le (List.getElem?_eq_none_iff.1 hc), Mt.nil_iff]
    intro e; cases e
  | some c =>
    obtain ⟨h1, h2⟩ := hno c hc
    rw [drop_cons hc, Mt.one h1]
    exact fun h => h2 h.1
theorem Gw.back (h : Gw P S p k sr frm true) {x : UInt8} (hx : S[k]? = some x) (hno : ∀ c, P[p]? = some c → c ≠ 42 ∧ ¬ (c = 63 ∨ c = x)) : Gw P S (sr + 1) (frm + 1) sr (frm + 1) true := by
  obtain ⟨h1, h2, h3, h4, h5, h6⟩ := h.yes rfl
  have hkl := (List.getElem?_eq_some_iff.1 hx).1
  have hp := h.hp
  refine ⟨by omega, by omega, fun e => (by cases e), fun _ => ⟨Nat.lt_succ_self _, h2, Nat.le_refl _, ?_, ?_, ?_⟩⟩
  · rw [List.drop_eq_nil_of_le (by rw [List.length_take]; omega)]; intro c hc; cases hc
  · rw [List.drop_eq_nil_of_le (by rw [List.length_take]; omega), List.drop_eq_nil_of_le (by rw [List.length_take]; omega)]; exact .nil
  · have hf : frm < S.length := by omega
    have e : (S.take k).drop frm ++ S.drop k = S[frm] :: S.drop (frm + 1) := by rw [← cut h3 h.hk, List.drop_eq_getElem_cons hf]
    rw [h6, parts h1 h.hp h2, cut h3 h.hk]
    exact Mt.goOn h4 h5 (no_match hx hno) _ e
theorem Gw.fail (h : Gw P S p k sr frm false) {x : UInt8} (hx : S[k]? = some x) (hno : ∀ c, P[p]? = some c → c ≠ 42 ∧ ¬ (c = 63 ∨ c = x)) : ¬ Mt P S := by
  rw [(h.no rfl).2]; exact no_match hx hno
/-- All of the text is taken. -/
theorem Gw.done (h : Gw P S p k sr frm st) (hk : k = S.length) : Mt P S ↔ ∀ c ∈ P.drop p, c = 42 := by
  rw [← Mt.stars]
  cases st with
  | false => rw [(h.no rfl).2, hk, List.drop_length]
  | true =>
    obtain ⟨h1, h2, h3, h4, h5, h6⟩ := h.yes rfl
    rw [h6, parts h1 h.hp h2, cut h3 h.hk, hk, List.drop_length, List.append_nil]
    rw [hk] at h5
    exact Mt.atEnd h4 h5
end
end Go.Den
end
section
/- Paths, in plain terms: the pieces between slashes; the order of two paths, as the program and as the document has it. -/
namespace Go.Den
/-- Bytes ahead of bytes. -/
def bl : Bs → Bs → Bool
  | _, [] => false
  | [], _ :: _ => true
  | a :: x, b :: y => a < b || (a == b && bl x y)
theorem bl_irrefl : ∀ x : Bs, bl x x = false
  | [] => rfl
  | a :: x => by
    unfold bl
    rw [bl_irrefl x, Bool.and_false, Bool.or_false]
    exact decide_eq_false (by intro h; exact absurd h (by simp))
theorem u8_tri (a b : UInt8) : a < b ∨ a = b ∨ b < a := by
  rcases Nat.lt_trichotomy a.toNat b.toNat with h | h | h
  · exact .inl (UInt8.lt_iff_toNat_lt.2 h)
  · exact .inr (.inl (UInt8.toNat_inj.1 h))
  · exact .inr (.inr (UInt8.lt_iff_toNat_lt.2 h))
theorem u8_trans {a b c : UInt8} (h : a < b) (h' : b < c) : a < c := UInt8.lt_iff_toNat_lt.2 (by have := UInt8.lt_iff_toNat_lt.1 h; have := UInt8.lt_iff_toNat_lt.1 h'; omega)
theorem bl_cons {a b : UInt8} {x y : Bs} : bl (a :: x) (b :: y) = true ↔ a < b ∨ (a = b ∧ bl x y = true) := by
  show (decide (a < b) || (a == b && bl x y)) = true ↔ _
  simp
theorem bl_tri : ∀ x y : Bs, bl x y = true ∨ x = y ∨ bl y x = true
  | [], [] => .inr (.inl rfl)
  | [], _ :: _ => .inl rfl
  | _ :: _, [] => .inr (.inr rfl)
  | a :: x, b :: y => by
    rcases u8_tri a b with h | h | h
    · exact .inl (bl_cons.2 (.inl h))
    · subst h
      rcases bl_tri x y with h | h | h
      · exact .inl (bl_cons.2 (.inr ⟨rfl, h⟩))
      · exact .inr (.inl (by rw [h]))
      · exact .inr (.inr (bl_cons.2 (.inr ⟨rfl, h⟩)))
    · exact .inr (.inr (bl_cons.2 (.inl h)))
theorem bl_trans : ∀ {x y z : Bs}, bl x y = true → bl y z = true → bl x z = true
  | _, [], _, h, _ => by
    rename_i x z
    cases x <;> exact absurd h (by unfold bl; simp)
  | _, _ :: _, [], _, h => absurd h (by unfold bl; simp)
  | [], _ :: _, _ :: _, _, _ => rfl
  | a :: x, b :: y, c :: z, h1, h2 => by
    rw [bl_cons] at h1 h2 ⊢
    rcases h1 with h1 | ⟨rfl, h1⟩
    · rcases h2 with h2 | ⟨rfl, h2⟩
      · exact .inl (u8_trans h1 h2)
      · exact .inl h1
    · rcases h2 with h2 | ⟨rfl, h2⟩
      · exact .inl h2
      · exact .inr ⟨rfl, bl_trans h1 h2⟩
theorem bl_asym {x y : Bs} (h : bl x y = true) : bl y x = false := by
  cases h' : bl y x with
  | false => rfl
  | true => have := bl_trans h h'; rw [bl_irrefl] at this; cases this
/-- How two rows of texts stand to each other. -/
def clp : List Bs → List Bs → Int
  | [], [] => 0
  | [], _ :: _ => -1
  | _ :: _, [] => 1
  | a :: x, b :: y => if bl a b = true then -1 else if bl b a = true then 1 else clp x y
theorem clp_cons (a b : Bs) (x y : List Bs) : clp (a :: x) (b :: y) = if bl a b = true then -1 else if bl b a = true then 1 else clp x y := rfl
theorem clp_self : ∀ x : List Bs, clp x x = 0
  | [] => rfl
  | a :: x => by rw [clp_cons, bl_irrefl, if_neg (by simp), if_neg (by simp), clp_self x]
theorem clp_neg : ∀ x y : List Bs, clp y x = - clp x y
  | [], [] => rfl
  | [], _ :: _ => rfl
  | _ :: _, [] => rfl
  | a :: x, b :: y => by
    rw [clp_cons, clp_cons]
    by_cases h1 : bl a b = true
    · rw [if_pos h1, if_neg (by rw [bl_asym h1]; simp), if_pos h1]; rfl
    · rw [if_neg h1]
      by_cases h2 : bl b a = true
      · rw [if_pos h2, if_pos h2, if_neg h1]
      · rw [if_neg h2, if_neg h2, if_neg h1, clp_neg x y]
theorem clp_zero : ∀ {x y : List Bs}, clp x y = 0 → x = y
  | [], [], _ => rfl
  | [], _ :: _, h => by unfold clp at h; omega
  | _ :: _, [], h => by unfold clp at h; omega
  | a :: x, b :: y, h => by
    rw [clp_cons] at h
    split at h
    · omega
    · split at h
      · omega
      · rename_i h1 h2
        rcases bl_tri a b with h3 | h3 | h3
        · exact absurd h3 h1
        · rw [h3, clp_zero h]
        · exact absurd h3 h2
theorem clp_lt : ∀ {x y : List Bs}, clp x y < 0 ↔ (x = [] ∧ y ≠ []) ∨ ∃ a x' b y', x = a :: x' ∧ y = b :: y' ∧ (bl a b = true ∨ (a = b ∧ clp x' y' < 0))
  | [], [] => by unfold clp; simp
  | [], _ :: _ => by unfold clp; simp
  | _ :: _, [] => by unfold clp; simp
  | a :: x, b :: y => by
    rw [clp_cons]
    constructor
    · intro h
      right
      refine ⟨a, x, b, y, rfl, rfl, ?_⟩
      split at h
      · rename_i h1; exact .inl h1
      · split at h
        · omega
        · rename_i h1 h2
          rcases bl_tri a b with h3 | h3 | h3
          · exact .inl h3
          · exact .inr ⟨h3, h⟩
          · exact absurd h3 h2
    · rintro (⟨h, _⟩ | ⟨a', x', b', y', e1, e2, h⟩)
      · cases h
      · cases e1; cases e2
        rcases h with h | ⟨rfl, h⟩
        · rw [if_pos h]; omega
        · rw [bl_irrefl, if_neg (by simp), if_neg (by simp)]; exact h
theorem clp_trans : ∀ {x y z : List Bs}, clp x y < 0 → clp y z < 0 → clp x z < 0
  | x, y, z, h1, h2 => by
    rw [clp_lt] at h1 h2
    rcases h1 with ⟨rfl, h1⟩ | ⟨a, x', b, y', rfl, rfl, h1⟩
    · refine clp_lt.2 (.inl ⟨rfl, ?_⟩)
      rcases h2 with ⟨h2, _⟩ | ⟨_, _, _, _, _, rfl, _⟩
      · exact absurd h2 h1
      · simp
    · rcases h2 with ⟨h2, _⟩ | ⟨b', y2, c, z', e, rfl, h2⟩
      · cases h2
      · cases e
        refine clp_lt.2 (.inr ⟨a, x', c, z', rfl, rfl, ?_⟩)
        rcases h1 with h1 | ⟨rfl, h1⟩
        · rcases h2 with h2 | ⟨rfl, h2⟩
          · exact .inl (bl_trans h1 h2)
          · exact .inl h1
        · rcases h2 with h2 | ⟨rfl, h2⟩
          · exact .inl h2
          · exact .inr ⟨rfl, clp_trans h1 h2⟩
/-- The pieces between slashes. -/
def pieces : Bs → List Bs
  | [] => [[]]
  | c :: r => if c = 47 then [] :: pieces r else match pieces r with | [] => [[c]] | h :: t => (c :: h) :: t
theorem pieces_cons (c : UInt8) (r : Bs) : pieces (c :: r) = if c = 47 then [] :: pieces r else match pieces r with | [] => [[c]] | h :: t => (c :: h) :: t := rfl
theorem pieces_ne : ∀ s : Bs, pieces s ≠ []
  | [] => by unfold pieces; simp
  | c :: r => by
    unfold pieces
    split
    · simp
    · split <;> simp
def glue : List Bs → Bs
  | [] => []
  | [h] => h
  | h :: t :: r => h ++ 47 :: glue (t :: r)
theorem glue_pieces : ∀ s : Bs, glue (pieces s) = s
  | [] => rfl
  | c :: r => by
    have ih := glue_pieces r
    have hn := pieces_ne r
    rw [pieces_cons]
    cases hp : pieces r with
    | nil => exact absurd hp hn
    | cons h t =>
      rw [hp] at ih
      split
      · rename_i e
        subst e
        show [] ++ 47 :: glue (h :: t) = _
        rw [ih]; rfl
      · cases t with
        | nil =>
          show c :: h = c :: r
          rw [show h = r from ih]
        | cons t1 t2 =>
          show (c :: h) ++ 47 :: glue (t1 :: t2) = c :: r
          have ih : h ++ 47 :: glue (t1 :: t2) = r := ih
          rw [← ih]; rfl
theorem pieces_inj {a b : Bs} (h : pieces a = pieces b) : a = b := by rw [← glue_pieces a, ← glue_pieces b, h]
/-- A path that is none, or begins with a slash. -/
def Rooted (s : Bs) : Prop := s = [] ∨ ∃ r, s = 47 :: r
theorem pieces_rooted {s : Bs} (h : Rooted s) : pieces s = [] :: (pieces s).tail := by
  rcases h with rfl | ⟨r, rfl⟩
  · rfl
  · rw [pieces_cons, if_pos rfl]; rfl
def ordP (a b : Bs) : Int := clp (pieces a) (pieces b)
theorem ord_zero {a b : Bs} : ordP a b = 0 ↔ a = b := ⟨fun h => pieces_inj (clp_zero h), fun h => by rw [h]; exact clp_self _⟩
theorem ord_neg (a b : Bs) : ordP b a = - ordP a b := clp_neg _ _
theorem ord_trans {a b c : Bs} (h1 : ordP a b < 0) (h2 : ordP b c < 0) : ordP a c < 0 := clp_trans h1 h2
end Go.Den
end
section
/- Changes from a tree to another one, in plain terms: side by side, and put in their places. -/
namespace Go.Den
abbrev Chg := Int × Bs
def Asc (l : List Chg) : Prop := l.Pairwise fun x y => ordP x.2 y.2 < 0
def AscP (l : List Bs) : Prop := l.Pairwise fun x y => ordP x y < 0
theorem ord_irr (x : Bs) : ¬ ordP x x < 0 := by rw [ord_zero.2 rfl]; omega
theorem ord_tri (x y : Bs) : ordP x y < 0 ∨ x = y ∨ ordP y x < 0 := by
  have h := ord_neg x y
  rcases Int.lt_trichotomy (ordP x y) 0 with h1 | h1 | h1
  · exact .inl h1
  · exact .inr (.inl (ord_zero.1 h1))
  · exact .inr (.inr (by omega))
theorem asc_eq {l r : List Chg} (h1 : Asc l) (h2 : Asc r) (hm : ∀ x, x ∈ l ↔ x ∈ r) : l = r := by
  have hn : ∀ {l : List Chg}, Asc l → l.Nodup := fun h => h.imp fun h e => by rw [e] at h; exact ord_irr _ h
  have hp : l.Perm r := (List.perm_ext_iff_of_nodup (hn h1) (hn h2)).2 hm
  exact hp.eq_of_pairwise (fun a b _ _ h1 h2 => absurd (ord_trans h1 h2) (ord_irr _)) h1 h2
/-- A change more, in its place. -/
def ins (c : Chg) : List Chg → List Chg
  | [] => [c]
  | e :: r => if ordP c.2 e.2 < 0 then c :: e :: r else e :: ins c r
theorem ins_mem {c x : Chg} : ∀ {l : List Chg}, x ∈ ins c l ↔ x = c ∨ x ∈ l
  | [] => by unfold ins; simp
  | e :: r => by
    show x ∈ (if ordP c.2 e.2 < 0 then c :: e :: r else e :: ins c r) ↔ _
    split
    · rw [List.mem_cons]
    · rw [List.mem_cons, ins_mem, List.mem_cons]
      constructor
      · rintro (h | h | h)
        · exact .inr (.inl h)
        · exact .inl h
        · exact .inr (.inr h)
      · rintro (h | h | h)
        · exact .inr (.inl h)
        · exact .inl h
        · exact .inr (.inr h)
theorem ins_asc {c : Chg} : ∀ {l : List Chg}, Asc l → (∀ e ∈ l, e.2 ≠ c.2) → Asc (ins c l)
  | [], _, _ => List.pairwise_singleton _ _
  | e :: r, h, hn => by
    have h' := List.pairwise_cons.1 h
    show Asc (if ordP c.2 e.2 < 0 then c :: e :: r else e :: ins c r)
    split
    · rename_i h1
      exact List.pairwise_cons.2 ⟨fun y hy => by
        rcases List.mem_cons.1 hy with rfl | hy
        · exact h1
        · exact ord_trans h1 (h'.1 y hy), h⟩
    · rename_i h1
      refine List.pairwise_cons.2 ⟨fun y hy => ?_, ins_asc h'.2 fun e he => hn e (List.mem_cons_of_mem _ he)⟩
      rcases ins_mem.1 hy with rfl | hy
      · rcases ord_tri e.2 y.2 with h2 | h2 | h2
        · exact h2
        · exact absurd h2 (hn e List.mem_cons_self)
        · exact absurd h2 h1
      · exact h'.1 y hy
/-- What a change must be. -/
def Sp (PA PB : List Bs) (al : Nat → Nat → Bool) (c : Chg) : Prop :=
  (c.1 = 1 ∧ c.2 ∈ PA ∧ c.2 ∉ PB) ∨ (c.1 = 2 ∧ c.2 ∉ PA ∧ c.2 ∈ PB) ∨ (c.1 = 3 ∧ ∃ i k, PA[i]? = some c.2 ∧ PB[k]? = some c.2 ∧ al i k = false)
/-- Side by side, so far. -/
structure Mg (PA PB : List Bs) (al : Nat → Nat → Bool) (i k : Nat) (out : List Chg) : Prop where
  hi : i ≤ PA.length
  hk : k ≤ PB.length
  asc : Asc out
  ab : ∀ x ∈ PA.take i, ∀ y ∈ PB.drop k, ordP x y < 0
  ba : ∀ y ∈ PB.take k, ∀ x ∈ PA.drop i, ordP y x < 0
  mem : ∀ c, c ∈ out ↔ Sp PA PB al c ∧ (c.2 ∈ PA.take i ∨ c.2 ∈ PB.take k)
theorem Mg.start (PA PB : List Bs) (al : Nat → Nat → Bool) : Mg PA PB al 0 0 [] := ⟨Nat.zero_le _, Nat.zero_le _, List.Pairwise.nil, by simp, by simp, by simp⟩
section
variable {PA PB : List Bs} {al : Nat → Nat → Bool} {i k : Nat} {out : List Chg}
theorem asc_take_drop {l : List Bs} (h : AscP l) {i : Nat} {x y : Bs} (hx : x ∈ l.take i) (hy : y ∈ l.drop i) : ordP x y < 0 := by
  have := h
  rw [← List.take_append_drop i l] at this
  exact (List.pairwise_append.1 this).2.2 x hx y hy
theorem dropCons {l : List Bs} {i : Nat} {x : Bs} (h : l[i]? = some x) : l.drop i = x :: l.drop (i + 1) := by
  obtain ⟨hi, e⟩ := List.getElem?_eq_some_iff.1 h
  rw [List.drop_eq_getElem_cons hi, e]
theorem takeSnoc {l : List Bs} {i : Nat} {x : Bs} (h : l[i]? = some x) : l.take (i + 1) = l.take i ++ [x] := by
  obtain ⟨hi, e⟩ := List.getElem?_eq_some_iff.1 h
  rw [List.take_succ_eq_append_getElem hi, e]
theorem asc_head {l : List Bs} (h : AscP l) {i : Nat} {x y : Bs} (hx : l[i]? = some x) (hy : y ∈ l.drop (i + 1)) : ordP x y < 0 :=
  asc_take_drop h (by rw [takeSnoc hx]; simp) hy
theorem asc_inj {l : List Bs} (h : AscP l) {i j : Nat} {x : Bs} (hi : l[i]? = some x) (hj : l[j]? = some x) : i = j := by
  obtain ⟨h1, e1⟩ := List.getElem?_eq_some_iff.1 hi
  obtain ⟨h2, e2⟩ := List.getElem?_eq_some_iff.1 hj
  have hp := List.pairwise_iff_getElem.1 h
  rcases Nat.lt_trichotomy i j with hlt | hlt | hlt
  · have := hp i j h1 h2 hlt; rw [e1, e2] at this; exact absurd this (ord_irr x)
  · exact hlt
  · have := hp j i h2 h1 hlt; rw [e1, e2] at this; exact absurd this (ord_irr x)
/-- All that was told comes ahead of what is left. -/
theorem Mg.ahead (h : Mg PA PB al i k out) (hA : AscP PA) (hB : AscP PB) {c : Chg} (hc : c ∈ out) {x : Bs} (hx : x ∈ PA.drop i ∨ x ∈ PB.drop k) : ordP c.2 x < 0 := by
  rcases ((h.mem c).1 hc).2 with h1 | h1
  · rcases hx with hx | hx
    · exact asc_take_drop hA h1 hx
    · exact h.ab _ h1 _ hx
  · rcases hx with hx | hx
    · exact h.ba _ h1 _ hx
    · exact asc_take_drop hB h1 hx
theorem Mg.snoc (h : Mg PA PB al i k out) (hA : AscP PA) (hB : AscP PB) {c : Chg} (hx : c.2 ∈ PA.drop i ∨ c.2 ∈ PB.drop k) : Asc (out ++ [c]) :=
  List.pairwise_append.2 ⟨h.asc, List.pairwise_singleton _ _, fun y hy z hz => by rw [List.mem_singleton.1 hz]; exact h.ahead hA hB hy hx⟩
theorem mem_split {l : List Bs} {i : Nat} {x : Bs} (h : x ∈ l) : x ∈ l.take i ∨ x ∈ l.drop i := by
  rw [← List.take_append_drop i l] at h
  exact List.mem_append.1 h
/-- Only the first one has it. -/
theorem Mg.gone (h : Mg PA PB al i k out) (hA : AscP PA) (hB : AscP PB) {x : Bs} (hx : PA[i]? = some x) (hlt : ∀ y, PB[k]? = some y → ordP x y < 0) : Mg PA PB al (i + 1) k (out ++ [(1, x)]) := by
  have hil := (List.getElem?_eq_some_iff.1 hx).1
  have hxd : x ∈ PA.drop i := by rw [dropCons hx]; simp
  have hxB : ∀ y ∈ PB.drop k, ordP x y < 0 := fun y hy => by
    cases hk : PB[k]? with
    | none => rw [List.drop_eq_nil_of_le (List.getElem?_eq_none_iff.1 hk)] at hy; cases hy
    | some z =>
      rw [dropCons hk] at hy
      rcases List.mem_cons.1 hy with rfl | hy
      · exact hlt _ hk
      · exact ord_trans (hlt z hk) (asc_head hB hk hy)
  have hno : x ∉ PB := fun hm => by
    rcases mem_split (i := k) hm with h1 | h1
    · exact ord_irr _ (h.ba _ h1 _ hxd)
    · exact ord_irr _ (hxB _ h1)
  refine ⟨hil, h.hk, h.snoc hA hB (.inl hxd), fun u hu y hy => ?_, fun y hy u hu => h.ba y hy u ?_, fun c => ?_⟩
  · rw [takeSnoc hx] at hu
    rcases List.mem_append.1 hu with hu | hu
    · exact h.ab u hu y hy
    · rw [List.mem_singleton.1 hu]; exact hxB y hy
  · rw [dropCons hx]; exact List.mem_cons_of_mem _ hu
  · rw [List.mem_append, h.mem, List.mem_singleton, takeSnoc hx, List.mem_append, List.mem_singleton]
    constructor
    · rintro (⟨h1, h2⟩ | rfl)
      · refine ⟨h1, ?_⟩
        rcases h2 with h2 | h2
        · exact .inl (.inl h2)
        · exact .inr h2
      · exact ⟨.inl ⟨rfl, List.mem_of_getElem? hx, hno⟩, .inl (.inr rfl)⟩
    · rintro ⟨h1, (h2 | h2) | h2⟩
      · exact .inl ⟨h1, .inl h2⟩
      · right
        rcases h1 with ⟨e, _⟩ | ⟨_, e, _⟩ | ⟨_, _, k', _, e, _⟩
        · exact Prod.ext e h2
        · rw [h2] at e; exact absurd (List.mem_of_getElem? hx) e
        · rw [h2] at e; exact absurd (List.mem_of_getElem? e) hno
      · exact .inl ⟨h1, .inr h2⟩
/-- Only the second one has it. -/
theorem Mg.new (h : Mg PA PB al i k out) (hA : AscP PA) (hB : AscP PB) {y : Bs} (hy : PB[k]? = some y) (hlt : ∀ x, PA[i]? = some x → ordP y x < 0) : Mg PA PB al i (k + 1) (out ++ [(2, y)]) := by
  have hkl := (List.getElem?_eq_some_iff.1 hy).1
  have hyd : y ∈ PB.drop k := by rw [dropCons hy]; simp
  have hyA : ∀ x ∈ PA.drop i, ordP y x < 0 := fun x hx => by
    cases hi : PA[i]? with
    | none => rw [List.drop_eq_nil_of_le (List.getElem?_eq_none_iff.1 hi)] at hx; cases hx
    | some z =>
      rw [dropCons hi] at hx
      rcases List.mem_cons.1 hx with rfl | hx
      · exact hlt _ hi
      · exact ord_trans (hlt z hi) (asc_head hA hi hx)
  have hno : y ∉ PA := fun hm => by
    rcases mem_split (i := i) hm with h1 | h1
    · exact ord_irr _ (h.ab _ h1 _ hyd)
    · exact ord_irr _ (hyA _ h1)
  refine ⟨h.hi, hkl, h.snoc hA hB (.inr hyd), fun u hu z hz => h.ab u hu z ?_, fun z hz u hu => ?_, fun c => ?_⟩
  · rw [dropCons hy]; exact List.mem_cons_of_mem _ hz
  · rw [takeSnoc hy] at hz
    rcases List.mem_append.1 hz with hz | hz
    · exact h.ba z hz u hu
    · rw [List.mem_singleton.1 hz]; exact hyA u hu
  · rw [List.mem_append, h.mem, List.mem_singleton, takeSnoc hy, List.mem_append, List.mem_singleton]
    constructor
    · rintro (⟨h1, h2⟩ | rfl)
      · refine ⟨h1, ?_⟩
        rcases h2 with h2 | h2
        · exact .inl h2
        · exact .inr (.inl h2)
      · exact ⟨.inr (.inl ⟨rfl, hno, List.mem_of_getElem? hy⟩), .inr (.inr rfl)⟩
    · rintro ⟨h1, h2 | (h2 | h2)⟩
      · exact .inl ⟨h1, .inl h2⟩
      · exact .inl ⟨h1, .inr h2⟩
      · right
        rcases h1 with ⟨_, e, _⟩ | ⟨e, _⟩ | ⟨_, i', _, e, _, _⟩
        · rw [h2] at e; exact absurd e hno
        · exact Prod.ext e h2
        · rw [h2] at e; exact absurd (List.mem_of_getElem? e) hno
/-- Both have it. -/
theorem Mg.both (h : Mg PA PB al i k out) (hA : AscP PA) (hB : AscP PB) {x : Bs} (hx : PA[i]? = some x) (hy : PB[k]? = some x) : Mg PA PB al (i + 1) (k + 1) (if al i k = true then out else out ++ [(3, x)]) := by
  have hil := (List.getElem?_eq_some_iff.1 hx).1
  have hkl := (List.getElem?_eq_some_iff.1 hy).1
  have hxd : x ∈ PA.drop i := by rw [dropCons hx]; simp
  refine ⟨hil, hkl, ?_, fun u hu z hz => ?_, fun z hz u hu => ?_, fun c => ?_⟩
  · split
    · exact h.asc
    · exact h.snoc hA hB (.inl hxd)
  · rw [takeSnoc hx] at hu
    rcases List.mem_append.1 hu with hu | hu
    · exact h.ab u hu z (by rw [dropCons hy]; exact List.mem_cons_of_mem _ hz)
    · rw [List.mem_singleton.1 hu]; exact asc_head hB hy hz
  · rw [takeSnoc hy] at hz
    rcases List.mem_append.1 hz with hz | hz
    · exact h.ba z hz u (by rw [dropCons hx]; exact List.mem_cons_of_mem _ hu)
    · rw [List.mem_singleton.1 hz]; exact asc_head hA hx hu
  · have hsp : ∀ c : Chg, c.2 = x → (Sp PA PB al c ↔ c.1 = 3 ∧ al i k = false) := fun c e => by
      constructor
      · rintro (⟨_, _, h2⟩ | ⟨_, h2, _⟩ | ⟨e1, i', k', h1, h2, h3⟩)
        · rw [e] at h2; exact absurd (List.mem_of_getElem? hy) h2
        · rw [e] at h2; exact absurd (List.mem_of_getElem? hx) h2
        · rw [e] at h1 h2
          have e2 := asc_inj hA h1 hx
          have e3 := asc_inj hB h2 hy
          subst e2 e3
          exact ⟨e1, h3⟩
      · rintro ⟨e1, h3⟩
        exact .inr (.inr ⟨e1, i, k, by rw [e]; exact hx, by rw [e]; exact hy, h3⟩)
    have hcore : c ∈ (if al i k = true then out else out ++ [(3, x)]) ↔ c ∈ out ∨ (c.2 = x ∧ Sp PA PB al c) := by
      split
      · rename_i ha
        constructor
        · exact .inl
        · rintro (h1 | ⟨e, h1⟩)
          · exact h1
          · have := ((hsp c e).1 h1).2
            rw [ha] at this; cases this
      · rename_i ha
        rw [List.mem_append, List.mem_singleton]
        constructor
        · rintro (h1 | rfl)
          · exact .inl h1
          · exact .inr ⟨rfl, (hsp (3, x) rfl).2 ⟨rfl, by simpa using ha⟩⟩
        · rintro (h1 | ⟨e, h1⟩)
          · exact .inl h1
          · exact .inr (Prod.ext ((hsp c e).1 h1).1 e)
    rw [hcore, h.mem, takeSnoc hx, takeSnoc hy, List.mem_append, List.mem_append, List.mem_singleton]
    constructor
    · rintro (⟨h1, h2 | h2⟩ | ⟨e, h1⟩)
      · exact ⟨h1, .inl (.inl h2)⟩
      · exact ⟨h1, .inr (.inl h2)⟩
      · exact ⟨h1, .inl (.inr e)⟩
    · rintro ⟨h1, (h2 | h2) | (h2 | h2)⟩
      · exact .inl ⟨h1, .inl h2⟩
      · exact .inr ⟨h2, h1⟩
      · exact .inl ⟨h1, .inr h2⟩
      · exact .inr ⟨h2, h1⟩
theorem Sp.in_ {c : Chg} (h : Sp PA PB al c) : (c.1 ≠ 2 ∧ c.2 ∈ PA) ∨ (c.1 = 2 ∧ c.2 ∈ PB) := by
  rcases h with ⟨e, h, _⟩ | ⟨e, _, h⟩ | ⟨e, _, _, h, _, _⟩
  · exact .inl ⟨by omega, h⟩
  · exact .inr ⟨e, h⟩
  · exact .inl ⟨by omega, List.mem_of_getElem? h⟩
/-- The document's way, so far: those of the first one, then those that are new. -/
structure Rf (PA PB : List Bs) (al : Nat → Nat → Bool) (i k : Nat) (out : List Chg) : Prop where
  asc : Asc out
  mem : ∀ c, c ∈ out ↔ Sp PA PB al c ∧ ((c.1 ≠ 2 ∧ c.2 ∈ PA.take i) ∨ (c.1 = 2 ∧ c.2 ∈ PB.take k))
theorem Rf.start (PA PB : List Bs) (al : Nat → Nat → Bool) : Rf PA PB al 0 0 [] := ⟨List.Pairwise.nil, by simp⟩
theorem Rf.notIn (h : Rf PA PB al i k out) (hA : AscP PA) {x : Bs} (hx : PA[i]? = some x) : ∀ e ∈ out, e.2 ≠ x := fun e he e2 => by
  obtain ⟨h1, h2⟩ := (h.mem e).1 he
  rcases h2 with ⟨_, h2⟩ | ⟨h3, h2⟩
  · rw [e2] at h2
    exact ord_irr _ (asc_take_drop hA h2 (by rw [dropCons hx]; simp))
  · rcases h1 with ⟨e3, _⟩ | ⟨_, h4, _⟩ | ⟨e3, _⟩
    · omega
    · rw [e2] at h4; exact h4 (List.mem_of_getElem? hx)
    · omega
theorem Rf.none (h : Rf PA PB al i k out) (hA : AscP PA) {x : Bs} (hx : PA[i]? = some x) (hno : x ∉ PB) : Rf PA PB al (i + 1) k (ins (1, x) out) := by
  refine ⟨ins_asc h.asc (h.notIn hA hx), fun c => ?_⟩
  rw [ins_mem, h.mem, takeSnoc hx, List.mem_append, List.mem_singleton]
  constructor
  · rintro (rfl | ⟨h1, ⟨h2, h3⟩ | h2⟩)
    · exact ⟨.inl ⟨rfl, List.mem_of_getElem? hx, hno⟩, .inl ⟨(fun e => by have e : (1 : Int) = 2 := e; omega), .inr rfl⟩⟩
    · exact ⟨h1, .inl ⟨h2, .inl h3⟩⟩
    · exact ⟨h1, .inr h2⟩
  · rintro ⟨h1, ⟨h2, h3 | h3⟩ | h2⟩
    · exact .inr ⟨h1, .inl ⟨h2, h3⟩⟩
    · left
      rcases h1 with ⟨e, _⟩ | ⟨e, _⟩ | ⟨_, _, k', _, e, _⟩
      · exact Prod.ext e h3
      · exact absurd e h2
      · rw [h3] at e; exact absurd (List.mem_of_getElem? e) hno
    · exact .inr ⟨h1, .inr h2⟩
theorem Rf.both (h : Rf PA PB al i k out) (hA : AscP PA) (hB : AscP PB) {x : Bs} {j : Nat} (hx : PA[i]? = some x) (hy : PB[j]? = some x) : Rf PA PB al (i + 1) k (if al i j = true then out else ins (3, x) out) := by
  have hsp : ∀ c : Chg, c.2 = x → (Sp PA PB al c ↔ c.1 = 3 ∧ al i j = false) := fun c e => by
    constructor
    · rintro (⟨_, _, h2⟩ | ⟨_, h2, _⟩ | ⟨e1, i', k', h1, h2, h3⟩)
      · rw [e] at h2; exact absurd (List.mem_of_getElem? hy) h2
      · rw [e] at h2; exact absurd (List.mem_of_getElem? hx) h2
      · rw [e] at h1 h2
        have e2 := asc_inj hA h1 hx
        have e3 := asc_inj hB h2 hy
        subst e2 e3
        exact ⟨e1, h3⟩
    · rintro ⟨e1, h3⟩
      exact .inr (.inr ⟨e1, i, j, by rw [e]; exact hx, by rw [e]; exact hy, h3⟩)
  have hcore : ∀ c, c ∈ (if al i j = true then out else ins (3, x) out) ↔ c ∈ out ∨ (c.2 = x ∧ Sp PA PB al c) := fun c => by
    split
    · rename_i ha
      constructor
      · exact .inl
      · rintro (h1 | ⟨e, h1⟩)
        · exact h1
        · have := ((hsp c e).1 h1).2
          rw [ha] at this; cases this
    · rename_i ha
      rw [ins_mem]
      constructor
      · rintro (rfl | h1)
        · exact .inr ⟨rfl, (hsp (3, x) rfl).2 ⟨rfl, by simpa using ha⟩⟩
        · exact .inl h1
      · rintro (h1 | ⟨e, h1⟩)
        · exact .inr h1
        · exact .inl (Prod.ext ((hsp c e).1 h1).1 e)
  refine ⟨?_, fun c => ?_⟩
  · split
    · exact h.asc
    · exact ins_asc h.asc (h.notIn hA hx)
  · rw [hcore, h.mem, takeSnoc hx, List.mem_append, List.mem_singleton]
    constructor
    · rintro (⟨h1, ⟨h2, h3⟩ | h2⟩ | ⟨e, h1⟩)
      · exact ⟨h1, .inl ⟨h2, .inl h3⟩⟩
      · exact ⟨h1, .inr h2⟩
      · exact ⟨h1, .inl ⟨by have := ((hsp c e).1 h1).1; omega, .inr e⟩⟩
    · rintro ⟨h1, ⟨h2, h3 | h3⟩ | h2⟩
      · exact .inl ⟨h1, .inl ⟨h2, h3⟩⟩
      · exact .inr ⟨h3, h1⟩
      · exact .inl ⟨h1, .inr h2⟩
theorem Rf.new (h : Rf PA PB al i k out) (hB : AscP PB) {y : Bs} (hy : PB[k]? = some y) (hno : y ∉ PA) : Rf PA PB al i (k + 1) (ins (2, y) out) := by
  refine ⟨ins_asc h.asc fun e he e2 => ?_, fun c => ?_⟩
  · obtain ⟨h1, h2⟩ := (h.mem e).1 he
    have e2 : e.2 = y := e2
    rcases h2 with ⟨_, h2⟩ | ⟨_, h2⟩
    · rw [e2] at h2; exact hno (List.mem_of_mem_take h2)
    · rw [e2] at h2; exact ord_irr _ (asc_take_drop hB h2 (by rw [dropCons hy]; simp))
  · rw [ins_mem, h.mem, takeSnoc hy, List.mem_append, List.mem_singleton]
    constructor
    · rintro (rfl | ⟨h1, h2 | ⟨h2, h3⟩⟩)
      · exact ⟨.inr (.inl ⟨rfl, hno, List.mem_of_getElem? hy⟩), .inr ⟨rfl, .inr rfl⟩⟩
      · exact ⟨h1, .inl h2⟩
      · exact ⟨h1, .inr ⟨h2, .inl h3⟩⟩
    · rintro ⟨h1, h2 | ⟨h2, h3 | h3⟩⟩
      · exact .inr ⟨h1, .inl h2⟩
      · exact .inr ⟨h1, .inr ⟨h2, h3⟩⟩
      · exact .inl (Prod.ext h2 h3)
end
end Go.Den
end
section
/- Can entries be a tree's? In plain terms, as the program and as the document has it. -/
namespace Go.Den
structure Tn where
  path : Bs
  kind : Int
  link : Bs
  data : Bs
  same : Int
/-- Can a text name a thing? -/
def nameB (s : Bs) : Bool := decide (s ≠ []) && decide (s ≠ [46]) && decide (s ≠ [46, 46]) && s.all (fun c => decide (c ≠ 47) && decide (c ≠ 0)) && decide (s.length ≤ 24)
/-- The names of a path, and whether it is one. -/
def tNames (s : Bs) : List Bs := (pieces s).filter fun p => decide (p ≠ []) && decide (p ≠ [46])
def tOk (s : Bs) : Bool := decide (1 ≤ s.length) && decide (s.length ≤ 255) && (tNames s).all (fun p => decide (p = [46, 46]) || nameB p) && decide ((tNames s).length ≤ 16)
/-- A path's directory and its last name. -/
def Cut (s d n : Bs) : Prop := s = d ++ 47 :: n ∧ (47 : UInt8) ∉ n
theorem Cut.inj {s d n d' n' : Bs} (h : Cut s d n) (h' : Cut s d' n') : d = d' ∧ n = n' := by
  obtain ⟨rfl, hn⟩ := h
  obtain ⟨e, hn'⟩ := h'
  rcases List.append_eq_append_iff.1 e with ⟨t, e1, e2⟩ | ⟨t, e1, e2⟩
  · cases t with
    | nil => simp at e1 e2; exact ⟨e1.symm, e2⟩
    | cons a r =>
      simp at e2
      exact absurd (by rw [e2.2]; simp) hn
  · cases t with
    | nil => simp at e1 e2; exact ⟨e1, e2.symm⟩
    | cons a r =>
      simp at e2
      exact absurd (by rw [e2.2]; simp) hn'
theorem Cut.ex : ∀ {s : Bs}, (47 : UInt8) ∈ s → ∃ d n, Cut s d n
  | c :: r, h => by
    by_cases hr : (47 : UInt8) ∈ r
    · obtain ⟨d, n, e, hn⟩ := Cut.ex hr
      exact ⟨c :: d, n, by rw [e]; rfl, hn⟩
    · have hc : c = 47 := by
        rcases List.mem_cons.1 h with h | h
        · exact h.symm
        · exact absurd h hr
      exact ⟨[], r, by rw [hc]; rfl, hr⟩
/-- Is an entry as its kind must be, among those ahead? -/
def OneE (l : List Tn) (i : Nat) (e : Tn) : Prop :=
  1 ≤ e.kind ∧ e.kind ≤ 3 ∧ e.data.length ≤ 65536 ∧ (e.kind ≠ 1 → e.data = []) ∧ (e.kind ≠ 3 → e.link = []) ∧
  ((e.same = -1 ∧ (e.kind = 3 → tOk e.link = true)) ∨ (0 ≤ e.same ∧ e.same < i ∧ e.kind ≠ 2 ∧ e.data = [] ∧ e.link = [] ∧ ∃ q, l[e.same.toNat]? = some q ∧ q.kind = e.kind ∧ q.same = -1))
def InDir (l : List Tn) (i : Nat) (d : Bs) : Prop := ∃ (k : Nat) (q : Tn), k < i ∧ l[k]? = some q ∧ q.path = d ∧ q.kind = 2
def OkAt (l : List Tn) (i : Nat) : Prop :=
  ∃ p e, l[i - 1]? = some p ∧ l[i]? = some e ∧ (∃ d n, Cut e.path d n ∧ InDir l i d ∧ nameB n = true) ∧ ordP p.path e.path < 0 ∧ OneE l i e
def Head0 (l : List Tn) : Prop := ∃ e, l[0]? = some e ∧ e.path = [] ∧ e.kind = 2 ∧ e.link = [] ∧ e.data = [] ∧ e.same = -1
/-- The first entries are right. -/
def RightTo (l : List Tn) (i : Nat) : Prop := Head0 l ∧ ∀ j, 1 ≤ j → j < i → OkAt l j
def RightL (l : List Tn) : Prop := RightTo l l.length
theorem RightTo.mono {l : List Tn} {i j : Nat} (h : RightTo l i) (hj : j ≤ i) : RightTo l j := ⟨h.1, fun k h1 h2 => h.2 k h1 (by omega)⟩
theorem nameB_len {n : Bs} (h : nameB n = true) : 1 ≤ n.length ∧ n.length ≤ 24 := by
  unfold nameB at h
  simp only [Bool.and_eq_true, decide_eq_true_eq] at h
  refine ⟨?_, h.2⟩
  have := h.1.1.1.1
  cases n with
  | nil => exact absurd rfl this
  | cons a r => simp
theorem RightTo.path {l : List Tn} {i : Nat} (h : RightTo l i) : ∀ {k : Nat} {e : Tn}, k < i → l[k]? = some e → Rooted e.path ∧ e.path.length ≤ 25 * k := by
  intro k
  induction k using Nat.strongRecOn with
  | ind k ih =>
    intro e hk he
    by_cases h0 : k = 0
    · subst h0
      obtain ⟨e0, h1, h2, _⟩ := h.1
      rw [he] at h1; cases h1
      rw [h2]
      exact ⟨.inl rfl, by simp⟩
    · obtain ⟨p, e', hp, he', ⟨d, n, hc, ⟨m, q, hm, hq, hqd, _⟩, hn⟩, _⟩ := h.2 k (by omega) hk
      rw [he] at he'; cases he'
      obtain ⟨r1, r2⟩ := ih m hm (by omega) hq
      have hl := nameB_len hn
      rw [hqd] at r1 r2
      refine ⟨?_, ?_⟩
      · rw [hc.1]
        rcases r1 with rfl | ⟨r, rfl⟩
        · exact .inr ⟨n, rfl⟩
        · exact .inr ⟨_, rfl⟩
      · rw [hc.1]; simp; omega
theorem RightTo.asc {l : List Tn} {i : Nat} (h : RightTo l i) : ∀ {j k : Nat} {a b : Tn}, j < k → k < i → l[j]? = some a → l[k]? = some b → ordP a.path b.path < 0 := by
  intro j k
  induction k with
  | zero => intro a b h1; omega
  | succ k ih =>
    intro a b hjk hki ha hb
    obtain ⟨p, e, hp, he, _, ho, _⟩ := h.2 (k + 1) (by omega) hki
    rw [hb] at he; cases he
    rw [Nat.add_sub_cancel] at hp
    by_cases hjk' : j = k
    · subst hjk'
      rw [ha] at hp; cases hp
      exact ho
    · exact ord_trans (ih (by omega) (by omega) ha hp) ho
theorem RightL.ascP {l : List Tn} (h : RightL l) : AscP (l.map (·.path)) := by
  refine List.pairwise_iff_getElem.2 fun i j hi hj hij => ?_
  simp only [List.length_map] at hi hj
  simp only [List.getElem_map]
  exact RightTo.asc h hij hj (List.getElem?_eq_getElem hi) (List.getElem?_eq_getElem hj)
theorem RightTo.one {l : List Tn} {i : Nat} (h : RightTo l i) {k : Nat} {e : Tn} (hk : k < i) (he : l[k]? = some e) : OneE l k e := by
  by_cases h0 : k = 0
  · subst h0
    obtain ⟨e0, h1, h2, h3, h4, h5, h6⟩ := h.1
    rw [he] at h1; cases h1
    exact ⟨by omega, by omega, by rw [h5]; simp, fun _ => h5, fun _ => h4, .inl ⟨h6, fun e => by omega⟩⟩
  · obtain ⟨p, e', hp, he', _, _, h1⟩ := h.2 k (by omega) hk
    rw [he] at he'; cases he'
    exact h1
/- As the document says it. -/
end Go.Den
end
section
/- Changes, the other way round, of a tree and itself, of a tree and one with a name more; totals; in plain terms. -/
namespace Go.Den
section
variable {PA PB : List Bs} {al al' : Nat → Nat → Bool} {out : List Chg}
theorem Sp.kind {c : Chg} (h : Sp PA PB al c) : c.1 = 1 ∨ c.1 = 2 ∨ c.1 = 3 := by
  rcases h with h | h | h
  · exact .inl h.1
  · exact .inr (.inl h.1)
  · exact .inr (.inr h.1)
/-- All changes. -/
def All (PA PB : List Bs) (al : Nat → Nat → Bool) (out : List Chg) : Prop := Asc out ∧ ∀ c, c ∈ out ↔ Sp PA PB al c
theorem Mg.all (h : Mg PA PB al PA.length PB.length out) : All PA PB al out := by
  refine ⟨h.asc, fun c => ?_⟩
  rw [h.mem, List.take_length, List.take_length]
  constructor
  · exact fun h => h.1
  · intro h
    refine ⟨h, ?_⟩
    rcases h.in_ with ⟨_, h⟩ | ⟨_, h⟩
    · exact .inl h
    · exact .inr h
theorem Rf.all (h : Rf PA PB al PA.length PB.length out) : All PA PB al out := by
  refine ⟨h.asc, fun c => ?_⟩
  rw [h.mem, List.take_length, List.take_length]
  exact ⟨fun h => h.1, fun h => ⟨h, h.in_⟩⟩
theorem All.eq {o1 o2 : List Chg} (h1 : All PA PB al o1) (h2 : All PA PB al o2) : o1 = o2 := asc_eq h1.1 h2.1 fun c => (h1.2 c).trans (h2.2 c).symm
theorem All.more {x : Bs} (h : All PA (PA ++ [x]) al out) (hA : AscP (PA ++ [x])) (hal : ∀ i y, PA[i]? = some y → al i i = true) : out = [(2, x)] := by
  have hx : x ∉ PA := fun hm => by
    obtain ⟨i, hi, e⟩ := List.getElem_of_mem hm
    have h1 : (PA ++ [x])[i]? = some x := by rw [List.getElem?_append_left hi, List.getElem?_eq_getElem hi, e]
    have h2 : (PA ++ [x])[PA.length]? = some x := by simp
    have := asc_inj hA h1 h2
    omega
  have h1 : All PA (PA ++ [x]) al [(2, x)] := by
    refine ⟨List.pairwise_singleton _ _, fun c => ?_⟩
    rw [List.mem_singleton]
    constructor
    · rintro rfl
      exact .inr (.inl ⟨rfl, hx, by simp⟩)
    · rintro (⟨_, h1, h2⟩ | ⟨e, h1, h2⟩ | ⟨_, i, k, h1, h2, h3⟩)
      · exact absurd (by simp [h1]) h2
      · rcases List.mem_append.1 h2 with h2 | h2
        · exact absurd h2 h1
        · exact Prod.ext e (by simpa using h2)
      · have hi := (List.getElem?_eq_some_iff.1 h1).1
        have h1' : (PA ++ [x])[i]? = some c.2 := by rw [List.getElem?_append_left hi]; exact h1
        have := asc_inj hA h1' h2
        subst this
        rw [hal i _ h1] at h3; cases h3
  exact All.eq h h1
end
/-- The entry that one is the same as, or itself. -/
def thingI (l : List Tn) (i : Nat) : Nat := match l[i]? with | some e => if 0 ≤ e.same then e.same.toNat else i | none => i
theorem OneE.thing {l : List Tn} {i : Nat} {e : Tn} (h : OneE l i e) (he : l[i]? = some e) : ∃ q, l[thingI l i]? = some q ∧ q.kind = e.kind ∧ thingI l i ≤ i ∧ q.same = -1 ∧ (thingI l i = i ↔ e.same < 0) ∧ (e.same ≥ 0 → e.data = [] ∧ e.link = []) := by
  unfold thingI
  rw [he]
  simp only
  obtain ⟨_, _, _, _, _, h | ⟨h1, h2, _, h3, h4, q, h5, h6, h7⟩⟩ := h
  · rw [if_neg (by omega)]
    exact ⟨e, he, rfl, Nat.le_refl _, h.1, ⟨fun _ => by omega, fun _ => rfl⟩, fun _ => by omega⟩
  · rw [if_pos h1]
    exact ⟨q, h5, h6, by omega, h7, ⟨fun _ => by omega, fun _ => by omega⟩, fun _ => ⟨h3, h4⟩⟩
/-- Are two entries alike, but for their paths? -/
def alE (a b : List Tn) (i k : Nat) : Bool :=
  match a[thingI a i]?, b[thingI b k]? with
  | some x, some y => decide (x.kind = y.kind) && decide (x.link = y.link) && decide (x.data = y.data)
  | _, _ => false
theorem paths_get {a : List Tn} {i : Nat} {x : Bs} (h : (a.map (·.path))[i]? = some x) : ∃ e, a[i]? = some e ∧ e.path = x := by
  rw [List.getElem?_map] at h
  cases he : a[i]? with
  | none => rw [he] at h; cases h
  | some e => rw [he] at h; exact ⟨e, rfl, by simpa using h⟩
def AllE (a b : List Tn) (out : List Chg) : Prop := All (a.map (·.path)) (b.map (·.path)) (alE a b) out
theorem one_more {l : List Tn} {e0 : Tn} (h : RightL (l ++ [e0])) {i : Nat} {e : Tn} (he : l[i]? = some e) : alE l (l ++ [e0]) i i = true := by
  have hi := (List.getElem?_eq_some_iff.1 he).1
  have he' : (l ++ [e0])[i]? = some e := by rw [List.getElem?_append_left hi]; exact he
  obtain ⟨q, hq, _, hle, _⟩ := (RightTo.one h (by simp; omega) he').thing he'
  have e1 : thingI (l ++ [e0]) i = thingI l i := by unfold thingI; rw [he, he']
  rw [e1] at hq hle
  have hq' : l[thingI l i]? = some q := by rw [List.getElem?_append_left (by omega)] at hq; exact hq
  unfold alE
  rw [e1, hq, hq']; simp
theorem AllE.more {l : List Tn} {e0 : Tn} {out : List Chg} (h : AllE l (l ++ [e0]) out) (hr : RightL (l ++ [e0])) : out = [(2, e0.path)] := by
  have h' := h
  have ha := hr.ascP
  unfold AllE at h'
  rw [List.map_append, List.map_cons, List.map_nil] at h' ha
  exact All.more h' ha fun i y hy => by obtain ⟨e, he, _⟩ := paths_get hy; exact one_more hr he
/-- What a tree has in all. -/
structure Tot where
  dirs : Int
  files : Int
  links : Int
  bytes : Int
def totStep (t : Tot) (e : Tn) : Tot :=
  if 0 ≤ e.same then t else
  if e.kind = 2 then { t with dirs := t.dirs + 1, bytes := t.bytes + e.data.length } else
  if e.kind = 1 then { t with files := t.files + 1, bytes := t.bytes + e.data.length } else { t with links := t.links + 1, bytes := t.bytes + e.data.length }
def tot (l : List Tn) : Tot := l.foldl totStep ⟨0, 0, 0, 0⟩
theorem tot_take {l : List Tn} {i : Nat} {e : Tn} (h : l[i]? = some e) : tot (l.take (i + 1)) = totStep (tot (l.take i)) e := by
  obtain ⟨hi, he⟩ := List.getElem?_eq_some_iff.1 h
  unfold tot
  rw [List.take_succ_eq_append_getElem hi, List.foldl_append, he]; rfl
theorem tot_bounds {l : List Tn} (h : RightL l) (h40 : l.length ≤ 1000) : ∀ i, i ≤ l.length → 0 ≤ (tot (l.take i)).dirs ∧ (tot (l.take i)).dirs ≤ i ∧ 0 ≤ (tot (l.take i)).files ∧ (tot (l.take i)).files ≤ i ∧ 0 ≤ (tot (l.take i)).links ∧ (tot (l.take i)).links ≤ i ∧ 0 ≤ (tot (l.take i)).bytes ∧ (tot (l.take i)).bytes ≤ 65536 * i
  | 0, _ => by simp [tot]
  | i + 1, hi => by
    have ih := tot_bounds h h40 i (by omega)
    have he : l[i]? = some l[i] := List.getElem?_eq_getElem (by omega)
    have hone := RightTo.one h (by omega : i < l.length) he
    rw [tot_take he]
    generalize tot (l.take i) = t at *
    generalize l[i] = e at *
    have := hone.2.2.1
    unfold totStep
    split
    · omega
    · split
      · simp only; omega
      · split
        · simp only; omega
        · simp only; omega
end Go.Den
end
section
/- What stands below a path of a tree, in plain terms: it is a tree; below the top it is the tree itself. -/
namespace Go.Den
/-- What is left of a path behind another one that it stands below. -/
def restOf (path p : Bs) : Option Bs :=
  if path.isPrefixOf p = true then (if p.drop path.length = [] ∨ (p.drop path.length).head? = some 47 then some (p.drop path.length) else none) else none
theorem restOf_some {path p r : Bs} : restOf path p = some r ↔ p = path ++ r ∧ Rooted r := by
  unfold restOf Rooted
  constructor
  · intro h
    split at h
    · rename_i hp
      obtain ⟨t, rfl⟩ := List.isPrefixOf_iff_prefix.1 hp
      rw [List.drop_left] at h
      split at h
      · rename_i ht
        cases h
        refine ⟨rfl, ?_⟩
        rcases ht with ht | ht
        · exact .inl ht
        · cases r with
          | nil => exact .inl rfl
          | cons a t => simp at ht; exact .inr ⟨t, by rw [ht]⟩
      · cases h
    · cases h
  · rintro ⟨rfl, h⟩
    rw [if_pos (List.isPrefixOf_iff_prefix.2 ⟨r, rfl⟩), List.drop_left, if_pos]
    rcases h with rfl | ⟨t, rfl⟩
    · exact .inl rfl
    · exact .inr rfl
theorem pieces_app : ∀ (x r : Bs), Rooted r → pieces (x ++ r) = pieces x ++ (pieces r).tail
  | [], r, h => by rw [List.nil_append, pieces_rooted h]; rfl
  | c :: x, r, h => by
    rw [List.cons_append, pieces_cons, pieces_cons, pieces_app x r h]
    split
    · rfl
    · cases hp : pieces x with
      | nil => exact absurd hp (pieces_ne x)
      | cons a t => rfl
theorem bl_irr (x : Bs) : bl x x = false := bl_irrefl x
theorem clp_app : ∀ (x a b : List Bs), clp (x ++ a) (x ++ b) = clp a b
  | [], _, _ => rfl
  | y :: x, a, b => by
    rw [List.cons_append, List.cons_append, clp_cons, bl_irr, if_neg (by simp), if_neg (by simp), clp_app x a b]
theorem ord_app {x a b : Bs} (ha : Rooted a) (hb : Rooted b) : ordP (x ++ a) (x ++ b) = ordP a b := by
  unfold ordP
  rw [pieces_app x a ha, pieces_app x b hb, clp_app, pieces_rooted ha, pieces_rooted hb, clp_cons, bl_irr, if_neg (by simp), if_neg (by simp)]; rfl
theorem ord_nil {b : Bs} (hb : Rooted b) : ordP [] b ≤ 0 := by
  unfold ordP
  rw [pieces_rooted hb]
  show clp [[]] _ ≤ 0
  rw [clp_cons, bl_irr, if_neg (by simp), if_neg (by simp)]
  cases (pieces b).tail with
  | nil => exact Int.le_refl _
  | cons a r => show (-1 : Int) ≤ 0; omega
theorem ahead_none {l : List Tn} (h : RightL l) {path : Bs} {i top : Nat} {e q : Tn} (hi : i < top) (he : l[i]? = some e) (hq : l[top]? = some q) (hp : q.path = path) : restOf path e.path = none := by
  cases hr : restOf path e.path with
  | none => rfl
  | some r =>
    obtain ⟨h1, h2⟩ := restOf_some.1 hr
    have h3 := RightTo.asc h hi (List.getElem?_eq_some_iff.1 hq).1 he hq
    have h4 : ordP path (path ++ r) ≤ 0 := by
      have := ord_app (x := path) (a := []) (.inl rfl) h2
      rw [List.append_nil] at this
      rw [this]; exact ord_nil h2
    rw [hp, h1, ord_neg] at h3
    omega
/-- The first place of a number; -1: it stands nowhere. -/
def atI (k : Nat) : List Nat → Nat → Int
  | [], _ => -1
  | x :: r, i => if x = k then i else atI k r (i + 1)
theorem atI_app (k x : Nat) : ∀ (l : List Nat) (i : Nat), atI k (l ++ [x]) i = if 0 ≤ atI k l i then atI k l i else if x = k then ((i + l.length : Nat) : Int) else -1
  | [], i => by
    show (if x = k then (i : Int) else -1) = _
    simp [atI]
  | y :: r, i => by
    rw [List.cons_append]
    unfold atI
    by_cases e : y = k
    · rw [if_pos e, if_pos e, if_pos (by omega)]
    · rw [if_neg e, if_neg e, atI_app k x r (i + 1), List.length_cons, show i + 1 + r.length = i + (r.length + 1) by omega]
def mkE (e : Tn) (r : Bs) (q : Tn) (a : Int) : Tn := if a < 0 then ⟨r, e.kind, q.link, q.data, -1⟩ else ⟨r, e.kind, [], [], a⟩
structure BelS where
  out : List Tn
  src : List Nat
def belStep (l : List Tn) (path : Bs) (s : BelS) (i : Nat) : BelS :=
  match l[i]? with
  | none => s
  | some e => match restOf path e.path with
    | none => s
    | some r => match l[thingI l i]? with
      | none => s
      | some q => ⟨s.out ++ [mkE e r q (atI (thingI l i) (s.src.map (thingI l)) 0)], s.src ++ [i]⟩
def bel (l : List Tn) (path : Bs) : Nat → BelS
  | 0 => ⟨[], []⟩
  | i + 1 => belStep l path (bel l path i) i
theorem bel_skip {l : List Tn} {path : Bs} {i : Nat} {e : Tn} (he : l[i]? = some e) (hr : restOf path e.path = none) : bel l path (i + 1) = bel l path i := by
  show belStep l path (bel l path i) i = _
  unfold belStep
  rw [he]; simp only; rw [hr]
theorem bel_step {l : List Tn} {path : Bs} {i : Nat} {e q : Tn} {r : Bs} (he : l[i]? = some e) (hr : restOf path e.path = some r) (hq : l[thingI l i]? = some q) :
    bel l path (i + 1) = ⟨(bel l path i).out ++ [mkE e r q (atI (thingI l i) ((bel l path i).src.map (thingI l)) 0)], (bel l path i).src ++ [i]⟩ := by
  show belStep l path (bel l path i) i = _
  unfold belStep
  rw [he]; simp only; rw [hr]; simp only; rw [hq]
theorem bel_top {l : List Tn} (h : RightL l) {path : Bs} {top : Nat} {q : Tn} (hq : l[top]? = some q) (hp : q.path = path) : ∀ i, i ≤ top → bel l path i = ⟨[], []⟩
  | 0, _ => rfl
  | i + 1, hi => by
    have ht := (List.getElem?_eq_some_iff.1 hq).1
    have he : l[i]? = some l[i] := List.getElem?_eq_getElem (by omega)
    rw [bel_skip he (ahead_none h (by omega : i < top) he hq hp), bel_top h hq hp i (by omega)]
structure Bel (l : List Tn) (path : Bs) (i : Nat) (s : BelS) : Prop where
  len : s.out.length = s.src.length
  asc : s.src.Pairwise (· < ·)
  at_ : ∀ (j m : Nat), s.src[j]? = some m → m < i ∧ ∃ e r q, l[m]? = some e ∧ restOf path e.path = some r ∧ l[thingI l m]? = some q ∧ s.out[j]? = some (mkE e r q (atI (thingI l m) ((s.src.take j).map (thingI l)) 0))
  all : ∀ (m : Nat) (e : Tn) (r : Bs), m < i → l[m]? = some e → restOf path e.path = some r → m ∈ s.src
theorem bel_inv {l : List Tn} (h : RightL l) (path : Bs) : ∀ i, i ≤ l.length → Bel l path i (bel l path i)
  | 0, _ => ⟨rfl, List.Pairwise.nil, by intro j m hm; simp [bel] at hm, by intro m e r hm; omega⟩
  | i + 1, hi => by
    have ih := bel_inv h path i (by omega)
    have he : l[i]? = some l[i] := List.getElem?_eq_getElem (by omega)
    obtain ⟨q, hq, _⟩ := (RightTo.one h (by omega : i < l.length) he).thing he
    generalize l[i] = e at *
    cases hr : restOf path e.path with
    | none =>
      rw [bel_skip he hr]
      refine ⟨ih.len, ih.asc, fun j m hm => ?_, fun m e' r hm he' hr' => ?_⟩
      · obtain ⟨h1, h2⟩ := ih.at_ j m hm
        exact ⟨by omega, h2⟩
      · by_cases e1 : m = i
        · subst e1; rw [he] at he'; cases he'; rw [hr] at hr'; cases hr'
        · exact ih.all m e' r (by omega) he' hr'
    | some r =>
      rw [bel_step he hr hq]
      generalize bel l path i = s at *
      refine ⟨by simp [ih.len], ?_, fun j m hm => ?_, fun m e' r' hm he' hr' => ?_⟩
      · refine List.pairwise_append.2 ⟨ih.asc, List.pairwise_singleton _ _, fun a ha b hb => ?_⟩
        rw [List.mem_singleton] at hb; subst hb
        obtain ⟨j, hj⟩ := List.mem_iff_getElem?.1 ha
        exact (ih.at_ j a hj).1
      · by_cases hj : j < s.src.length
        · simp only at hm ⊢
          rw [List.getElem?_append_left hj] at hm
          obtain ⟨h1, e', r', q', h2, h3, h4, h5⟩ := ih.at_ j m hm
          refine ⟨by omega, e', r', q', h2, h3, h4, ?_⟩
          rw [List.getElem?_append_left (by rw [ih.len]; exact hj), List.take_append_of_le_length (by omega)]
          exact h5
        · simp only at hm ⊢
          have hjl : j = s.src.length := by
            have := (List.getElem?_eq_some_iff.1 hm).1
            simp at this; omega
          subst hjl
          simp at hm; subst hm
          refine ⟨by omega, e, r, q, he, hr, hq, ?_⟩
          rw [List.take_left, ← ih.len]
          simp
      · simp only
        by_cases e1 : m = i
        · subst e1; simp
        · exact List.mem_append_left _ (ih.all m e' r' (by omega) he' hr')
theorem Cut.restOf {path r d n : Bs} (hr : Rooted r) (hne : r ≠ []) (h : Cut (path ++ r) d n) : ∃ d', d = path ++ d' ∧ Rooted d' ∧ Cut r d' n := by
  have hs : (47 : UInt8) ∈ r := by
    rcases hr with e | ⟨t, rfl⟩
    · exact absurd e hne
    · simp
  obtain ⟨d', n', hc⟩ := Cut.ex hs
  have hc' : Cut (path ++ r) (path ++ d') n' := ⟨by rw [hc.1]; simp, hc.2⟩
  obtain ⟨e1, e2⟩ := h.inj hc'
  subst e2
  refine ⟨d', e1, ?_, hc⟩
  rcases hr with e | ⟨t, rfl⟩
  · exact absurd e hne
  · cases d' with
    | nil => exact .inl rfl
    | cons a d' =>
      have := hc.1
      simp at this
      exact .inr ⟨d', by rw [this.1]⟩
end Go.Den
end
section
/- Texts, in plain terms: cut at slashes by the library; the last slash; a text's runes. -/
namespace Go.Den
theorem pieces_none : ∀ {s : Bs}, (47 : UInt8) ∉ s → pieces s = [s]
  | [], _ => rfl
  | c :: r, h => by
    have h1 : c ≠ 47 := fun e => h (by simp [e])
    have h2 : (47 : UInt8) ∉ r := fun e => h (by simp [e])
    rw [pieces_cons, if_neg h1, pieces_none h2]
theorem pieces_hit : ∀ {x t : Bs}, (47 : UInt8) ∉ x → pieces (x ++ 47 :: t) = x :: pieces t
  | [], t, _ => by rw [List.nil_append, pieces_cons, if_pos rfl]
  | c :: r, t, h => by
    have h1 : c ≠ 47 := fun e => h (by simp [e])
    have h2 : (47 : UInt8) ∉ r := fun e => h (by simp [e])
    rw [List.cons_append, pieces_cons, if_neg h1, pieces_hit h2]
theorem occ_one {s : Bs} {c : UInt8} {i : Nat} : Lib.occAt s [c] i = true ↔ s[i]? = some c := by
  unfold Lib.occAt
  constructor
  · intro h
    have := List.isPrefixOf_iff_prefix.1 h
    obtain ⟨t, ht⟩ := this
    have e : (s.drop i)[0]? = some c := by rw [← ht]; rfl
    rw [List.getElem?_drop] at e
    simpa using e
  · intro h
    refine List.isPrefixOf_iff_prefix.2 ⟨s.drop (i + 1), ?_⟩
    obtain ⟨hi, e⟩ := List.getElem?_eq_some_iff.1 h
    rw [List.drop_eq_getElem_cons hi, e]; rfl
theorem splitK_pieces : ∀ (n : Nat) (s : Bs), s.length ≤ n → Lib.splitK [47] 0 (Lib.count s [47]) s = pieces s
  | 0, s, h => by
    have : s = [] := List.eq_nil_of_length_eq_zero (by omega)
    subst this; rfl
  | n + 1, s, h => by
    rcases Lib.index_spec s [47] with ⟨h1, h2⟩ | ⟨i, h1, h2, h3, h4⟩
    · have hno : (47 : UInt8) ∉ s := fun hm => by
        obtain ⟨j, hj⟩ := List.mem_iff_getElem?.1 hm
        have := h2 j (by have := (List.getElem?_eq_some_iff.1 hj).1; omega)
        rw [occ_one.2 hj] at this; cases this
      rw [Lib.count_miss h1, pieces_none hno]; rfl
    · have hi := occ_one.1 h3
      obtain ⟨hil, e⟩ := List.getElem?_eq_some_iff.1 hi
      have hno : (47 : UInt8) ∉ s.take i := fun hm => by
        obtain ⟨j, hj⟩ := List.mem_iff_getElem?.1 hm
        have hji : j < i := by
          have := (List.getElem?_eq_some_iff.1 hj).1
          simp at this; omega
        rw [List.getElem?_take, if_pos hji] at hj
        have := h4 j hji
        rw [occ_one.2 hj] at this; cases this
      have hs : s = s.take i ++ 47 :: s.drop (i + 1) := by
        conv => lhs; rw [← List.take_append_drop i s, List.drop_eq_getElem_cons hil, e]
      rw [Lib.count_hit (by simp) h1, Nat.add_comm]
      show (if Lib.index s [47] == -1 then [s] else s.take ((Lib.index s [47]).toNat + 0) :: Lib.splitK [47] 0 _ (s.drop ((Lib.index s [47]).toNat + 1))) = _
      rw [h1, if_neg (by simp), Int.toNat_natCast, Nat.add_zero]
      have ih := splitK_pieces n (s.drop (i + 1)) (by rw [List.length_drop]; omega)
      have e1 : ([47] : Bs).length = 1 := rfl
      rw [e1, ih]
      conv => rhs; rw [hs]
      rw [pieces_hit hno]
theorem split_pieces (s : ByteArray) (sep : ByteArray) (hsep : sep.data.toList = [47]) : (Lib.splitB sep 0 (Lib.countB s sep) s).map (·.data.toList) = pieces s.data.toList := by
  rw [Lib.splitB_data, hsep]
  have : Lib.countB s sep = Lib.count s.data.toList [47] := by unfold Lib.countB; rw [hsep]
  rw [this]
  exact splitK_pieces _ _ (Nat.le_refl _)
/-- The last slash. -/
theorem cut_at {s : Bs} {i : Nat} (h : s[i]? = some 47) (hn : ∀ j, i < j → s[j]? ≠ some 47) : Cut s (s.take i) (s.drop (i + 1)) := by
  obtain ⟨hi, e⟩ := List.getElem?_eq_some_iff.1 h
  refine ⟨?_, fun hm => ?_⟩
  · conv => lhs; rw [← List.take_append_drop i s, List.drop_eq_getElem_cons hi, e]
  · obtain ⟨j, hj⟩ := List.mem_iff_getElem?.1 hm
    rw [List.getElem?_drop] at hj
    exact hn _ (by omega) hj
/-- A rune of a text: one byte, or bytes from 128 on. -/
theorem decode_spec (s : ByteArray) (i : Nat) (h : i < s.size) :
    ((s.get! i).toNat < 128 ∧ Utf8.decode s i = ((s.get! i).toNat, 1)) ∨
    (128 ≤ (Utf8.decode s i).1 ∧ (Utf8.decode s i).1 < 2147483648 ∧ 1 ≤ (Utf8.decode s i).2 ∧ i + (Utf8.decode s i).2 ≤ s.size ∧ ∀ k, k < (Utf8.decode s i).2 → 128 ≤ (s.get! (i + k)).toNat) := by
  have hb : ∀ k, (s.get! (i + k)).toNat < 256 := fun k => (s.get! (i + k)).toNat_lt
  have hb0 := hb 0
  rw [Nat.add_zero] at hb0
  by_cases h0 : (s.get! i).toNat < 128
  · left
    refine ⟨h0, ?_⟩
    unfold Utf8.decode
    simp only [Nat.add_zero]
    rw [if_pos h0]
  · right
    have c1 : ∀ k, (decide (i + k < s.size) && (s.get! (i + k)).toNat / 64 == 2) = true → i + k < s.size ∧ 128 ≤ (s.get! (i + k)).toNat := fun k hk => by
      simp only [Bool.and_eq_true, decide_eq_true_eq, beq_iff_eq] at hk
      omega
    have h1 := hb 1
    have h2 := hb 2
    have h3 := hb 3
    have one : ∀ k, k < 1 → 128 ≤ (s.get! (i + k)).toNat := fun k hk => by
      have : k = 0 := by omega
      subst this; rw [Nat.add_zero]; omega
    unfold Utf8.decode
    simp only [Nat.add_zero]
    rw [if_neg h0]
    split
    · rename_i hc
      simp only [Bool.and_eq_true] at hc
      have k1 := c1 1 (by simpa using hc.2)
      split
      · refine ⟨by omega, by simp only; omega, by simp, by simp; omega, fun k hk => ?_⟩
        simp only at hk
        rcases (by omega : k = 0 ∨ k = 1) with rfl | rfl
        · exact one 0 (by omega)
        · exact k1.2
      · exact ⟨by simp [Utf8.runeError], by simp [Utf8.runeError], by simp, by simp; omega, one⟩
    · split
      · rename_i hc
        simp only [Bool.and_eq_true] at hc
        have k1 := c1 1 (by simpa using hc.1.2)
        have k2 := c1 2 (by simpa using hc.2)
        split
        · rename_i hv
          simp only [ge_iff_le, Bool.and_eq_true, decide_eq_true_eq] at hv
          refine ⟨by simp only; omega, by simp only; omega, by simp, by simp; omega, fun k hk => ?_⟩
          simp only at hk
          rcases (by omega : k = 0 ∨ k = 1 ∨ k = 2) with rfl | rfl | rfl
          · exact one 0 (by omega)
          · exact k1.2
          · exact k2.2
        · exact ⟨by simp [Utf8.runeError], by simp [Utf8.runeError], by simp, by simp; omega, one⟩
      · split
        · rename_i hc
          simp only [Bool.and_eq_true] at hc
          have k1 := c1 1 (by simpa using hc.1.1.2)
          have k2 := c1 2 (by simpa using hc.1.2)
          have k3 := c1 3 (by simpa using hc.2)
          split
          · rename_i hv
            simp only [ge_iff_le, Bool.and_eq_true, decide_eq_true_eq] at hv
            refine ⟨by simp only; omega, by simp only; omega, by simp, by simp; omega, fun k hk => ?_⟩
            simp only at hk
            rcases (by omega : k = 0 ∨ k = 1 ∨ k = 2 ∨ k = 3) with rfl | rfl | rfl | rfl
            · exact one 0 (by omega)
            · exact k1.2
            · exact k2.2
            · exact k3.2
          · exact ⟨by simp [Utf8.runeError], by simp [Utf8.runeError], by simp, by simp; omega, one⟩
        · exact ⟨by simp [Utf8.runeError], by simp [Utf8.runeError], by simp, by simp; omega, one⟩
end Go.Den
end
section
/- Texts over the denotation: indexing, cutting, joining, comparing. -/
open Go Go.Den Go.Proofs
namespace Go.Den
def sB (xs : Bs) : ByteArray := ⟨xs.toArray⟩
theorem sB_size (xs : Bs) : (sB xs).size = xs.length := by simp [sB, ByteArray.size]
theorem sB_data (xs : Bs) : (sB xs).data.toList = xs := rfl
theorem sB_list (xs : Bs) : (sB xs).toList = xs := by rw [ByteArray.toList_eq]; rfl
theorem sB_of (s : ByteArray) : s = sB s.data.toList := by cases s; rfl
theorem beq_bs (x y : Bs) : (x == y) = decide (x = y) := by rw [Bool.eq_iff_iff, beq_iff_eq, decide_eq_true_eq]
theorem beq_sB (x y : Bs) : ((sB x).toList == (sB y).toList) = decide (x = y) := by rw [sB_list, sB_list, beq_bs]
theorem beq_empty (x : Bs) : ((sB x).toList == ByteArray.empty.toList) = decide (x = []) := beq_sB x []
theorem beq_dot (x : Bs) : ((sB x).toList == (⟨#[46]⟩ : ByteArray).toList) = decide (x = [46]) := beq_sB x [46]
theorem beq_dots (x : Bs) : ((sB x).toList == (⟨#[46, 46]⟩ : ByteArray).toList) = decide (x = [46, 46]) := beq_sB x [46, 46]
theorem sB_extract (x : Bs) (i j : Nat) : (sB x).extract i j = sB ((x.drop i).take (j - i)) := ByteArray.extract_mk x i j
theorem sB_append (x y : Bs) : sB x ++ sB y = sB (x ++ y) := ByteArray.mk_append_mk x y
theorem bl_less : ∀ x y : Bs, Op.bytesLess x y = bl x y
  | x, [] => by cases x <;> rfl
  | [], _ :: _ => rfl
  | a :: x, b :: y => by
    show (a < b || (a == b && Op.bytesLess x y)) = _
    rw [bl_less x y]; rfl
theorem bl_gtr (x y : Bs) : (!(bl x y || (x == y))) = bl y x := by
  rcases bl_tri x y with h | h | h
  · rw [h, bl_asym h]; rfl
  · subst h; rw [bl_irrefl]; simp
  · have h2 : x ≠ y := fun e => by rw [e, bl_irrefl] at h; cases h
    rw [h, bl_asym h, beq_bs]; simp [h2]
theorem beq_c (c d : UInt8) : (((c.toNat : Int)) == (d.toNat : Int)) = decide (c = d) := by
  rw [Bool.eq_iff_iff, beq_iff_eq, decide_eq_true_eq]
  exact ⟨fun h => UInt8.toNat_inj.1 (by omega), fun h => by rw [h]⟩
theorem beq_47 (c : UInt8) : ((c.toNat : Int) == 47) = decide (c = 47) := beq_c c 47
theorem beq_0 (c : UInt8) : ((c.toNat : Int) == 0) = decide (c = 0) := beq_c c 0
theorem bne_47 (c : UInt8) : ((c.toNat : Int) != 47) = decide (c ≠ 47) := by show (!((c.toNat : Int) == 47)) = _; rw [beq_47, decide_not]
theorem Mod.iter {S : Nat → Prop} {a b : World} (h : Mod S a b) (s : ByteArray) (pos : Nat) : Mod S a (b.iter s pos) := h.alloc _
end Go.Den
namespace Go.Proofs.YtiahkkekcmgkfaaDoor
theorem elemZ_strings : elemZ Tryd.prog 52 1 (.string ByteArray.empty) 16 := by unfold elemZ; kernel_rfl
theorem ix_run {x : Bs} {i : Nat} {c : UInt8} (h : x[i]? = some c) : Al (Instr.index 9 (.string (sB x)) (.int .i64 i)) (.int .u8 (c.toNat : Int)) := fun w => by
  obtain ⟨hi, e⟩ := List.getElem?_eq_some_iff.1 h
  have hi2 : i < (sB x).size := by rw [sB_size]; exact hi
  rw [run_index_string w _ (sB x) .i64 i (by kernel_rfl), dif_pos ⟨by omega, by omega⟩]
  have : (sB x)[(i : Int).toNat]'(by omega) = c := by rw [← e]; rfl
  rw [this]
theorem to_run {x : Bs} {j : Nat} (h : j ≤ x.length) : Al (Instr.sliceAt 9 (.string (sB x)) none (some (.int .i64 j)) none) (.string (sB (x.take j))) := fun w => by
  have hs := sB_size x
  rw [run_sliceAt_string (h := by kernel_rfl), run_slice_string_to_if w _ (sB x) .i64 j (by kernel_rfl), if_pos ⟨by omega, by omega⟩, sB_extract]; simp
theorem from_run {x : Bs} {i : Nat} (h : i ≤ x.length) : Al (Instr.sliceAt 9 (.string (sB x)) (some (.int .i64 i)) none none) (.string (sB (x.drop i))) := fun w => by
  have hs := sB_size x
  rw [run_sliceAt_string (h := by kernel_rfl), run_slice_string_from_if w _ (sB x) .i64 i (by kernel_rfl), if_pos ⟨by omega, by omega⟩, sB_extract, hs, Int.toNat_natCast, List.take_of_length_le (by simp)]
theorem add_run {x y : Bs} {a b : Operand} (h : x.length + y.length ≤ 9223372036854775807) : Al (eqS .add 9 a b (.string (sB x)) (.string (sB y))) (.string (sB (x ++ y))) := fun w => by
  have h1 := sB_size x
  have h2 := sB_size y
  rw [eqS_run (fun w => by simp [eqGuard])]
  show (Op.stringOp .add (sB x) (sB y)).run Tryd.prog w = _
  rw [run_string_add_sum _ _ _ (by omega), sB_append]
theorem lss_run {x y : Bs} {a b : Operand} : Al (eqS .lss 9 a b (.string (sB x)) (.string (sB y))) (.bool (bl x y)) := fun w => by
  rw [eqS_run (fun w => by simp [eqGuard])]
  show (Op.stringOp .lss (sB x) (sB y)).run Tryd.prog w = _
  simp [Op.stringOp, sB_list, bl_less]
theorem gtr_run {x y : Bs} {a b : Operand} : Al (eqS .gtr 9 a b (.string (sB x)) (.string (sB y))) (.bool (bl y x)) := fun w => by
  rw [eqS_run (fun w => by simp [eqGuard])]
  show (Op.stringOp .gtr (sB x) (sB y)).run Tryd.prog w = _
  simp only [Op.stringOp, sB_list, bl_less]
  rw [bl_gtr]; rfl
theorem range_str {w : World} {s : ByteArray} : Ru (Instr.range 9 (.string s)) w (.pointer (some ⟨w.heap.size, 0, none⟩)) (w.iter s 0) := run_range_string w _ s (by kernel_rfl)
theorem next_str {w : World} {s : ByteArray} {pos : Nat} {ty : TypeId} (h : pos < s.size) :
    Ru (Instr.next (.pointer (some ⟨w.heap.size, 0, none⟩)) true ty) (w.iter s pos) (.tuple #[.bool true, .int .i64 pos, .int .i32 ((Utf8.decode s pos).1 : Int)]) (w.iter s (pos + (Utf8.decode s pos).2)) := by
  unfold Ru
  simp only [Instr.next, getObj, setObj, Sem.run_bind, Sem.run, World.iter_heap, Result.andThen, h, if_true, World.iter_set]
  simp [goInt, Sem.run, World.iter_heap, World.iter_set]
theorem end_str {w : World} {s : ByteArray} {pos : Nat} {ty : TypeId} (h : ¬ pos < s.size) : Ru (Instr.next (.pointer (some ⟨w.heap.size, 0, none⟩)) true ty) (w.iter s pos) (.tuple #[.bool false]) (w.iter s pos) := run_next_end w s pos ty h
end Go.Proofs.YtiahkkekcmgkfaaDoor
end
section
/- Texts, walked: the last slash, names, prefixes, cut at slashes, the order of paths. -/
open Go Go.Den Go.Proofs
namespace Go.Den
def sL (l : List Bs) : List Value := l.map fun x => .string (sB x)
theorem sL_get {l : List Bs} {i : Nat} {x : Bs} (h : l[i]? = some x) : (sL l)[i]? = some (.string (sB x)) := by unfold sL; rw [List.getElem?_map, h]; rfl
theorem length_sL (l : List Bs) : (sL l).length = l.length := by simp [sL]
theorem sL_append (l r : List Bs) : sL (l ++ r) = sL l ++ sL r := by simp [sL]
/-- The first package variable holds a number. -/
def Gl (w : World) : Prop := ∃ m, w.cell? ⟨0, 0, none⟩ = some (.int .i64 m)
theorem Gl.pos {w : World} (h : Gl w) : 0 < w.heap.size := by
  obtain ⟨m, h⟩ := h
  unfold World.cell? at h
  split at h
  · rename_i c t fz hc; exact lt_of_heap hc
  · cases h
theorem Gl.keep {S : Nat → Prop} {w w' : World} (h : Gl w) (m : Mod S w w') (hs : ¬ S 0) : Gl w' := by
  have hp := h.pos
  obtain ⟨n, h⟩ := h
  refine ⟨n, ?_⟩
  unfold World.cell? at h ⊢
  rw [m.block 0 hp hs]; exact h
theorem Gl.nos {w w' : World} (h : Gl w) (m : Mod No w w') : Gl w' := h.keep m id
/-- Where a byte stands last. -/
def LastAt (x : Bs) (c : UInt8) (n : Int) : Prop := (n = -1 ∧ c ∉ x) ∨ ∃ i : Nat, n = i ∧ x[i]? = some c ∧ ∀ j, i < j → x[j]? ≠ some c
theorem row_str {w : World} {a : Option Addr} {l : List Bs} {i : Nat} (h : Row w a (sL l)) (hi : i < l.length) : ∃ b o, a = some ⟨b, o, none⟩ ∧ At w b o (sL l) := by
  refine h.resolve_left fun e => ?_
  have := congrArg List.length e
  rw [length_sL] at this; simp at this; rw [this] at hi; simp at hi
end Go.Den
namespace Go.Proofs.YtiahkkekcmgkfaaDoor
section
variable {w : World} {K : Value → World → Prop}
theorem LastIndexS_c {x : Bs} {c : UInt8} (hx : x.length ≤ 9223372036854775807) (hk : ∀ n, LastAt x c n → K (.int .i64 n) w) : Cal Tryd.prog F_bytealg_LastIndexByteString #[.string (sB x), .int .u8 (c.toNat : Int)] w K := by
  apply C_bytealg_LastIndexByteString
  unfold D_bytealg_LastIndexByteString
  have hs := sB_size x
  refine ⟨fun z w1 => w1 = w ∧ ∃ n : Nat, n ≤ x.length ∧ z = [.int .i64 ((n : Int) - 1)] ∧ ∀ j, n ≤ j → x[j]? ≠ some c, fun z _ => (nI z 0 + 1).toNat, ⟨rfl, x.length, Nat.le_refl _, ?_, fun j hj e => ?_⟩, ?_⟩
  · rw [hs, wrap64 (by omega) (by omega)]
  · rw [List.getElem?_eq_none hj] at e; cases e
  rintro z w1 ⟨rfl, n, hn, rfl, hno⟩
  refine ⟨_, rfl, cond_of (fun hb => ?_) (fun hb => ?_)⟩
  · have hb := of_decide_eq_true hb
    have hnx : n - 1 < x.length := by omega
    have e : (n : Int) - 1 = ((n - 1 : Nat) : Int) := by omega
    have hg : x[n - 1]? = some x[n - 1] := List.getElem?_eq_getElem hnx
    rw [e]
    refine ⟨_, ix_run hg, cond_of (fun hc => ?_) (fun hc => ?_)⟩
    · rw [beq_c] at hc
      refine hk _ (.inr ⟨n - 1, rfl, by rw [hg, of_decide_eq_true hc], fun j hj => hno j (by omega)⟩)
    · rw [beq_c] at hc
      have hc := of_decide_eq_false hc
      rw [wrap64 (by omega) (by omega)]
      refine ⟨⟨rfl, n - 1, by omega, rfl, fun j hj => ?_⟩, by simp [nI, nth] <;> omega⟩
      by_cases e2 : j = n - 1
      · subst e2; rw [hg]; exact fun e3 => hc (by simpa using e3)
      · exact hno j (by omega)
  · have hb := of_decide_eq_false hb
    have h0 : n = 0 := by omega
    subst h0
    refine hk _ (.inl ⟨rfl, fun hm => ?_⟩)
    obtain ⟨j, hj⟩ := List.mem_iff_getElem?.1 hm
    exact hno j (Nat.zero_le _) hj
theorem LastIndexByte_c {x : Bs} {c : UInt8} (hx : x.length ≤ 9223372036854775807) (hk : ∀ n, LastAt x c n → K (.int .i64 n) w) : Cal Tryd.prog F_strings_LastIndexByte #[.string (sB x), .int .u8 (c.toNat : Int)] w K := by
  apply C_strings_LastIndexByte
  unfold D_strings_LastIndexByte
  exact LastIndexS_c hx fun n hn => ⟨_, rfl, hk n hn⟩
theorem parent_c {x : Bs} (hx : x.length ≤ 9223372036854775806) (h0 : (47 : UInt8) ∉ x → K (.tuple #[.string (sB []), .string (sB []), .bool false]) w)
    (hk : ∀ w' d n, Mod No w w' → Cut x d n → K (.tuple #[.string (sB d), .string (sB n), .bool true]) w') : Cal Tryd.prog F_dump_parent #[.string (sB x)] w K := by
  apply C_dump_parent
  unfold D_dump_parent
  refine LastIndexByte_c (c := 47) (by omega) fun n hn => ⟨_, rfl, ?_⟩
  rcases hn with ⟨rfl, hno⟩ | ⟨i, rfl, hi, hl⟩
  · exact tt rfl (h0 hno)
  · have hil := (List.getElem?_eq_some_iff.1 hi).1
    refine ff (decide_eq_false (by omega)) ⟨_, to_run (by omega), ?_⟩
    rw [wrap64 (by omega) (by omega)]
    exact ⟨_, from_run (i := i + 1) (by omega), hk _ _ _ (Mod.refl No w).drew (cut_at hi hl)⟩
theorem all_take {p : UInt8 → Bool} {x : Bs} {i : Nat} {c : UInt8} (h : x[i]? = some c) : (x.take (i + 1)).all p = ((x.take i).all p && p c) := by
  obtain ⟨hi, e⟩ := List.getElem?_eq_some_iff.1 h
  rw [List.take_succ_eq_append_getElem hi, List.all_append, e]; simp
def okc (c : UInt8) : Bool := decide (c ≠ 47) && decide (c ≠ 0)
theorem nameB_of (x : Bs) : nameB x = (!decide (x = [] ∨ x = [46] ∨ x = [46, 46]) && x.all okc && decide (x.length ≤ 24)) := by
  unfold nameB okc
  congr 2
  by_cases h1 : x = [] <;> by_cases h2 : x = [46] <;> by_cases h3 : x = [46, 46] <;> simp [h1, h2, h3]
theorem get_bang {x : Bs} {i : Nat} {c : UInt8} (h : x[i]? = some c) : (sB x).get! i = c := by
  obtain ⟨hi, e⟩ := List.getElem?_eq_some_iff.1 h
  unfold sB ByteArray.get!
  simp [hi, e]
theorem dName_c {x : Bs} (hx : x.length ≤ 9223372036854775807) (hk : ∀ w', Mod No w w' → K (.bool (nameB x)) w') : Cal Tryd.prog F_dirent_Name #[.string (sB x)] w K := by
  apply C_dirent_Name
  unfold D_dirent_Name
  have hs := sB_size x
  refine Share.cut (fun z w1 => w1 = w ∧ z = [.bool (decide (x = [] ∨ x = [46] ∨ x = [46, 46]))]) ?_ ?_
  · rw [beq_empty, beq_dot, beq_dots]
    refine cond_of (fun hb => ⟨rfl, ?_⟩) (fun hb => Share.dup (cond_of (fun hb2 => ⟨rfl, ?_⟩) (fun hb2 => ⟨rfl, ?_⟩)))
    · have := of_decide_eq_true hb; simp [this]
    · have := of_decide_eq_true hb2; simp [nth, this]
    · have h1 := of_decide_eq_false hb
      have h2 := of_decide_eq_false hb2
      simp [nth, h1, h2]
  rintro z w1 ⟨rfl, rfl⟩
  refine ⟨_, rfl, cond_of (fun hb => ?_) (fun hb => ?_)⟩
  · have e : nameB x = false := by rw [nameB_of, hb]; rfl
    rw [← e]; exact hk _ (Mod.refl _ _)
  · refine ⟨_, _, range_str, LoopC.by (fun m z w2 => ∃ (pos : Nat) (y : Value), z = [y] ∧ w2 = w1.iter (sB x) pos ∧ pos ≤ x.length ∧ m = x.length - pos ∧ (x.take pos).all okc = true) ⟨0, _, rfl, rfl, Nat.zero_le _, rfl, by simp⟩ ?_⟩
    rintro m z w2 ⟨pos, y, rfl, rfl, hpos, rfl, hall⟩
    by_cases hp : pos < x.length
    · refine ⟨_, _, next_str (by omega), true, fun w => rfl, tt rfl ⟨_, fun w => rfl, ?_⟩⟩
      have hg : x[pos]? = some x[pos] := List.getElem?_eq_getElem hp
      have hspec := decode_spec (sB x) pos (by omega)
      rw [get_bang hg] at hspec
      rcases hspec with ⟨h128, hd⟩ | ⟨h1, h1', h2, h3, h4⟩
      · rw [hd]
        simp only
        refine Share.cut (fun z w3 => w3 = w1.iter (sB x) (pos + 1) ∧ z = [.bool (!okc x[pos])]) (cond_of (fun hc => ⟨rfl, ?_⟩) (fun hc => ⟨rfl, ?_⟩)) ?_
        · rw [beq_47] at hc
          have := of_decide_eq_true hc
          simp [okc, this]
        · rw [beq_47] at hc
          have := of_decide_eq_false hc
          rw [beq_0]
          simp [okc, this]
        rintro z w3 ⟨rfl, rfl⟩
        refine ⟨_, rfl, cond_of (fun hc => ?_) (fun hc => ?_)⟩
        · have e : nameB x = false := by
            rw [nameB_of]
            have : x.all okc = false := by
              rw [Bool.eq_false_iff]
              intro ha
              have := (List.all_eq_true.1 ha) _ (List.getElem_mem hp)
              simp [this] at hc
            rw [this]; simp
          rw [← e]; exact hk _ ((Mod.refl No w1).iter _ _)
        · exact ⟨x.length - (pos + 1), by omega, pos + 1, _, rfl, rfl, by omega, rfl, by rw [all_take hg, hall]; simpa using hc⟩
      · generalize hdd : Utf8.decode (sB x) pos = dd at *
        have e1 : ((dd.1 : Int) == 47) = false := by rw [beq_eq_false_iff_ne]; omega
        have e2 : ((dd.1 : Int) == 0) = false := by rw [beq_eq_false_iff_ne]; omega
        rw [e1, e2]
        refine Share.cut (fun z w3 => w3 = w1.iter (sB x) (pos + dd.2) ∧ z = [.bool false]) ⟨rfl, rfl⟩ ?_
        rintro z w3 ⟨rfl, rfl⟩
        refine ⟨_, rfl, ff rfl ⟨x.length - (pos + dd.2), by omega, pos + dd.2, _, rfl, rfl, by omega, rfl, ?_⟩⟩
        have hall2 : ∀ k, k ≤ dd.2 → (x.take (pos + k)).all okc = true := by
          intro k
          induction k with
          | zero => intro _; exact hall
          | succ k ih =>
            intro hk'
            have hpk : pos + k < x.length := by omega
            have hgk : x[pos + k]? = some x[pos + k] := List.getElem?_eq_getElem hpk
            have h5 := h4 k (by omega)
            rw [get_bang hgk] at h5
            rw [← Nat.add_assoc, all_take hgk, ih (by omega)]
            have n1 : x[pos + k] ≠ 47 := fun e => by rw [e] at h5; simp at h5
            have n2 : x[pos + k] ≠ 0 := fun e => by rw [e] at h5; simp at h5
            simp [okc, n1, n2]
        exact hall2 _ (Nat.le_refl _)
    · have hpl : pos = x.length := by omega
      subst hpl
      rw [List.take_length] at hall
      refine ⟨_, _, end_str (by omega), false, fun w => rfl, ff rfl ?_⟩
      have e : nameB x = decide (((sB x).size : Int) ≤ 24) := by
        rw [nameB_of, hb, hall, hs]
        simp only [Bool.not_false, Bool.true_and, Bool.and_true, decide_eq_decide]
        omega
      rw [← e]; exact hk _ ((Mod.refl No w1).iter _ _)
theorem HasPrefix_c {x p : Bs} (hk : K (.bool (p.isPrefixOf x)) w) : Cal Tryd.prog F_stringslite_HasPrefix #[.string (sB x), .string (sB p)] w K := by
  apply C_stringslite_HasPrefix
  unfold D_stringslite_HasPrefix
  have hs := sB_size x
  have hp := sB_size p
  refine Share.cut (fun z w1 => w1 = w ∧ z = [.bool (p.isPrefixOf x)]) (cond_of (fun hb => ?_) (fun hb => ⟨rfl, ?_⟩)) ?_
  · have hb := of_decide_eq_true hb
    rw [hp]
    refine ⟨_, to_run (by omega), rfl, ?_⟩
    rw [beq_sB]
    congr 2
    rw [Bool.eq_iff_iff, decide_eq_true_eq, List.isPrefixOf_iff_prefix]
    exact ⟨fun e => ⟨x.drop p.length, by rw [← e, List.length_take, Nat.min_eq_left (by omega), List.take_append_drop]⟩, fun ⟨t, e⟩ => by rw [← e]; simp⟩
  · have hb := of_decide_eq_false hb
    have : p.isPrefixOf x = false := by
      rw [Bool.eq_false_iff]
      intro h
      obtain ⟨t, rfl⟩ := List.isPrefixOf_iff_prefix.1 h
      simp at hs; omega
    rw [this]
  rintro z w1 ⟨rfl, rfl⟩
  exact ⟨_, rfl, hk⟩
theorem CutPrefix_c {x p : Bs} (hk : K (.tuple #[.string (sB (if p.isPrefixOf x = true then x.drop p.length else x)), .bool (p.isPrefixOf x)]) w) : Cal Tryd.prog F_strings_CutPrefix #[.string (sB x), .string (sB p)] w K := by
  apply C_strings_CutPrefix
  unfold D_strings_CutPrefix
  apply C_stringslite_CutPrefix
  unfold D_stringslite_CutPrefix
  refine HasPrefix_c ⟨_, rfl, cond_of (fun hb => ?_) (fun hb => ?_)⟩
  · have hb : p.isPrefixOf x = false := by simpa using hb
    rw [hb, if_neg (by simp)] at hk
    exact ⟨_, _, rfl, hk⟩
  · have hb : p.isPrefixOf x = true := by simpa using hb
    rw [hb, if_pos rfl] at hk
    have hp := sB_size p
    rw [hp]
    have hle : p.length ≤ x.length := (List.isPrefixOf_iff_prefix.1 hb).length_le
    exact ⟨_, from_run hle, _, _, rfl, hk⟩
theorem Split_c {x : Bs} (hx : x.length < 4294967281) (hg : Gl w)
    (hk : ∀ w', Mod No w w' → At w' w.heap.size 0 (sL (pieces x)) → K (.slice (some ⟨w.heap.size, 0, none⟩) (pieces x).length (pieces x).length) w') : Cal Tryd.prog F_strings_Split #[.string (sB x), .string ⟨#[47]⟩] w K := by
  obtain ⟨m, hm⟩ := hg
  refine ⟨⟨_, Tryd.func60, by kernel_rfl, by kernel_rfl⟩, (Tryd.strings_Split (sB x) ⟨#[47]⟩ m w (by rw [sB_size]; exact hx) hm (by decide)).mono fun e w' he => ?_⟩
  obtain ⟨rfl, rfl⟩ := he
  have hp := split_pieces (sB x) ⟨#[47]⟩ rfl
  rw [sB_data] at hp
  have hl : Lib.countB (sB x) ⟨#[47]⟩ + 1 = (pieces x).length := by
    rw [← hp, List.length_map]
    exact (Lib.splitB_all ⟨#[47]⟩ (by decide) 0 _ (sB x) rfl).symm
  rw [hl]
  refine hk _ ((Mod.refl No w).alloc _) ?_
  have e : (Lib.splitB ⟨#[47]⟩ 0 (Lib.countB (sB x) ⟨#[47]⟩) (sB x)).map Value.string = sL (pieces x) := by
    rw [← hp]
    unfold sL
    rw [List.map_map]
    refine List.map_congr_left fun s _ => ?_
    simp only [Function.comp]
    rw [← sB_of]
  rw [e]
  exact AtU.new.at
theorem Compare_c {x y : Bs} (hk : K (.int .i64 (if bl x y = true then -1 else if bl y x = true then 1 else 0)) w) : Cal Tryd.prog F_cmp_Compare_string #[.string (sB x), .string (sB y)] w K := by
  have nan : ∀ {x : Bs} {w : World} {K : Value → World → Prop}, K (.bool false) w → Cal Tryd.prog F_cmp_isNaN_string #[.string (sB x)] w K := fun {x w K} h => by
    apply C_cmp_isNaN_string
    unfold D_cmp_isNaN_string
    rw [beq_sB]; simpa using h
  apply C_cmp_Compare_string
  unfold D_cmp_Compare_string
  refine nan ⟨_, rfl, nan ⟨_, rfl, ff rfl (ff rfl ⟨_, lss_run, cond_of (fun hb => ?_) (fun hb => ⟨_, gtr_run, cond_of (fun hb2 => ?_) (fun hb2 => ?_)⟩)⟩)⟩⟩
  · rw [if_pos hb] at hk; exact hk
  · rw [if_neg (by rw [hb]; simp), if_pos hb2] at hk; exact hk
  · rw [if_neg (by rw [hb]; simp), if_neg (by rw [hb2]; simp)] at hk; exact hk
theorem CompareL_c {a0 a1 : Option Addr} {l0 c0 l1 c1 : Nat} {x y : List Bs} (hx : x.length = l0) (hy : y.length = l1) (h0 : Row w a0 (sL x)) (h1 : Row w a1 (sL y)) (h63 : l0 ≤ 9223372036854775806)
    (hk : K (.int .i64 (clp x y)) w) : Cal Tryd.prog F_slices_Compare_string #[.slice a0 l0 c0, .slice a1 l1 c1] w K := by
  apply C_slices_Compare_string
  unfold D_slices_Compare_string
  refine ⟨fun z w1 => w1 = w ∧ ∃ n : Nat, n ≤ l0 ∧ n ≤ l1 ∧ z = [.int .i64 n] ∧ clp x y = clp (x.drop n) (y.drop n), fun z _ => (l0 - nI z 0).toNat, ⟨rfl, 0, by omega, by omega, rfl, rfl⟩, ?_⟩
  rintro z w1 ⟨rfl, n, hn0, hn1, rfl, he⟩
  refine ⟨_, rfl, cond_of (fun hb => ?_) (fun hb => ?_)⟩
  · have hb := of_decide_eq_true hb
    have hnx : n < x.length := by omega
    have hgx : x[n]? = some x[n] := List.getElem?_eq_getElem hnx
    obtain ⟨b0, o0, rfl, hat0⟩ := row_str h0 hnx
    refine ⟨_, index_slice (k := 1) (by kernel_rfl) (by omega) (by omega), ?_⟩
    rw [add_none, show (n : Int).toNat * 1 = n by omega]
    refine ⟨_, hat0.load (by kernel_rfl) (sL_get hgx), cond_of (fun hc => ?_) (fun hc => ?_)⟩
    · have hc := of_decide_eq_true hc
      have e1 : clp x y = 1 := by
        rw [he, List.drop_eq_getElem_cons hnx, List.drop_eq_nil_of_le (by omega : y.length ≤ n)]; rfl
      rw [← e1]; exact hk
    · have hc := of_decide_eq_false hc
      have hny : n < y.length := by omega
      have hgy : y[n]? = some y[n] := List.getElem?_eq_getElem hny
      obtain ⟨b1, o1, rfl, hat1⟩ := row_str h1 hny
      refine ⟨_, index_slice (k := 1) (by kernel_rfl) (by omega) (by omega), ?_⟩
      rw [add_none, show (n : Int).toNat * 1 = n by omega]
      refine ⟨_, hat1.load (by kernel_rfl) (sL_get hgy), Compare_c ⟨_, rfl, ?_⟩⟩
      rw [List.drop_eq_getElem_cons hnx, List.drop_eq_getElem_cons hny, clp_cons] at he
      refine cond_of (fun hd => ?_) (fun hd => ?_)
      · have e1 : clp x y = (if bl x[n] y[n] = true then -1 else if bl y[n] x[n] = true then 1 else 0) := by
          rw [he]
          by_cases g1 : bl x[n] y[n] = true
          · rw [if_pos g1, if_pos g1]
          · rw [if_neg g1, if_neg g1]
            by_cases g2 : bl y[n] x[n] = true
            · rw [if_pos g2, if_pos g2]
            · rw [if_neg g1, if_neg g2] at hd
              simp at hd
        rw [← e1]; exact hk
      · rw [wrap64 (by omega) (by omega)]
        refine ⟨⟨rfl, n + 1, by omega, by omega, rfl, ?_⟩, by simp [nI, nth]; omega⟩
        rw [he]
        by_cases g1 : bl x[n] y[n] = true
        · rw [if_pos g1] at hd; simp at hd
        · rw [if_neg g1] at hd ⊢
          by_cases g2 : bl y[n] x[n] = true
          · rw [if_pos g2] at hd; simp at hd
          · rw [if_neg g2]
  · have hb := of_decide_eq_false hb
    have hxl : x.drop n = [] := List.drop_eq_nil_of_le (by omega)
    rw [hxl] at he
    refine cond_of (fun hc => ?_) (fun hc => ?_)
    · have hc := of_decide_eq_true hc
      rw [List.drop_eq_getElem_cons (by omega : n < y.length)] at he
      have e1 : clp x y = -1 := he
      rw [← e1]; exact hk
    · have hc := of_decide_eq_false hc
      rw [List.drop_eq_nil_of_le (by omega : y.length ≤ n)] at he
      have e1 : clp x y = 0 := he
      rw [← e1]; exact hk
theorem pieces_len : ∀ x : Bs, (pieces x).length ≤ x.length + 1
  | [] => by simp [pieces]
  | c :: r => by
    have ih := pieces_len r
    rw [pieces_cons]
    split
    · simp; omega
    · split
      · simp
      · rename_i h; rw [h] at ih; simp at ih ⊢; omega
theorem order_c {x y : Bs} (hx : x.length < 4294967281) (hy : y.length < 4294967281) (hg : Gl w) (hk : ∀ w', Mod No w w' → K (.int .i64 (ordP x y)) w') : Cal Tryd.prog F_diff_order #[.string (sB x), .string (sB y)] w K := by
  apply C_diff_order
  unfold D_diff_order
  have hl := pieces_len x
  refine Split_c hx hg fun w1 m1 r1 => ⟨_, _, _, rfl, Split_c hy (hg.nos m1) fun w2 m2 r2 => ⟨_, _, _, rfl, CompareL_c rfl rfl (.inr ⟨_, _, rfl, r1.keep m2 id⟩) (.inr ⟨_, _, rfl, r2⟩) (by omega) ⟨_, rfl, hk _ (m1.no m2)⟩⟩⟩
theorem ahead_c {x y : Bs} (hx : x.length < 4294967281) (hy : y.length < 4294967281) (hg : Gl w) (hk : ∀ w', Mod No w w' → K (.bool (decide (ordP x y < 0))) w') : Cal Tryd.prog F_dump_ahead #[.string (sB x), .string (sB y)] w K := by
  apply C_dump_ahead
  unfold D_dump_ahead
  have hl := pieces_len x
  refine Split_c hx hg fun w1 m1 r1 => ⟨_, _, _, rfl, Split_c hy (hg.nos m1) fun w2 m2 r2 => ⟨_, _, _, rfl, CompareL_c rfl rfl (.inr ⟨_, _, rfl, r1.keep m2 id⟩) (.inr ⟨_, _, rfl, r2⟩) (by omega) ⟨_, rfl, hk _ (m1.no m2)⟩⟩⟩
end
end Go.Proofs.YtiahkkekcmgkfaaDoor
end
section
/- The library's slices functions that layer 10 calls, at rows of ints and of bytes. -/
open Go Go.Den Go.Proofs
namespace Go.Den
section
variable {P : Program} {w : World}
/-- A store into a row of one's own. -/
theorem Own.set {base l c g i : Nat} {T T' : TypeId} {ys : List Value} {v : Value} (h : Own P w base T 1 (some ⟨g, 0, none⟩) l c ys) (hT : scal P T' = true) (hi : i < l) (hv : v.oneCell' = true) :
    ∃ w', (Instr.storeAt T' (.pointer (some ⟨g, i, none⟩)) v).run P w = .ok () w' ∧ Own P w' base T 1 (some ⟨g, 0, none⟩) l c (ys.set i v) ∧ Mod (fun x => x = g) w w' := by
  have hlen := h.len
  obtain ⟨e, he, h1, h2⟩ := h
  rcases h2 with ⟨hn, _⟩ | ⟨g', cap, cur, hw, hb, hg, hle, hm, hsz, ht⟩
  · cases hn
  · simp at hw
    obtain ⟨rfl, rfl⟩ := hw
    have hcur : w.heap[g]? = some (.cells ⟨cur.toList⟩ e (0, 0)) := hg
    have hci : i < cur.toList.length := by simp [hsz]; omega
    refine ⟨_, store_cell hT hcur hci (by simp) hv, ⟨e, he, by simpa using h1, .inr ⟨g, c, ⟨cur.toList.set i v⟩, rfl, hb, heap_put_same (lt_of_heap hg), hle, hm, by simp [hsz], ?_⟩⟩, (Mod.refl (fun x => x = g) w).put (.inr rfl) _⟩
    show (cur.toList.set i v).take (l * 1) = ys.set i v
    rw [List.take_set, ht]
/-- clear of a row's end. -/
theorem Own.clear {base bytes l c g i : Nat} {T ty : TypeId} {z : Value} {ys : List Value} (hT : elemZ P T 1 z bytes) (h : Own P w base T 1 (some ⟨g, 0, none⟩) l c ys) (hi : i ≤ l) (hz : z.oneCell' = true) :
    ∃ w' zs, (Builtin.clear_ #[T] ty #[.slice (cutA (some ⟨g, 0, none⟩) c i 1) (l - i) (c - i)]).run P w = .ok (.tuple #[]) w' ∧ Own P w' base T 1 (some ⟨g, 0, none⟩) l c (ys.take i ++ zs) ∧ Mod (fun x => x = g) w w' := by
  have hlen := h.len
  have hcap := h.cap
  obtain ⟨e0, inf, zv, he0, hinf, hsz0, hz0, hzc, hby⟩ := hT.is
  by_cases h0 : l - i = 0
  · refine ⟨w, [], ?_, ?_, Mod.refl _ _⟩
    · rw [h0]
      unfold cutA
      split <;> simp [Builtin.clear_, run_und he0]
    · have : ys.take i = ys := List.take_of_length_le (by omega)
      rw [this, List.append_nil]; exact h
  · obtain ⟨e, he, h1, h2⟩ := h
    have hee : e = e0 := by rw [he0] at he; simpa using he.symm
    subst hee
    rcases h2 with ⟨hn, _⟩ | ⟨g', cap, cur, hw, hb, hg, hle, hm, hsz, ht⟩
    · cases hn
    · simp at hw
      obtain ⟨rfl, rfl⟩ := hw
      have hcur : w.heap[g]? = some (.cells ⟨cur.toList⟩ e (0, 0)) := hg
      have hcut : cutA (some ⟨g, 0, none⟩) c i 1 = some ⟨g, i, none⟩ := by
        unfold cutA; rw [if_neg (by omega)]; simp [add_none]
      have hzl : (Builtin.zeroCells zv.cells (l - i)).toList.length = l - i := by
        rw [Array.length_toList, size_zeroCells, hzc]; simp
      have hzone : ∀ v ∈ (Builtin.zeroCells zv.cells (l - i)).toList, v.oneCell' = true := by
        intro v hv
        have : v = z := by
          unfold Builtin.zeroCells at hv
          rw [hzc] at hv
          simp at hv
          obtain ⟨_, _, rfl⟩ := hv
          rw [Nat.mod_one]; rfl
        rw [this]; exact hz
      have hs := store_cells (P := P) (Builtin.zeroCells zv.cells (l - i)).toList (o := i) (i := 0) hcur (by rw [hzl]; simp [hsz]; omega) (fun j _ _ => by simp) hzone
      refine ⟨_, (Builtin.zeroCells zv.cells (l - i)).toList, ?_, ⟨e, he, by simp [hzl]; omega, .inr ⟨g, c, ⟨splice cur.toList i (Builtin.zeroCells zv.cells (l - i)).toList⟩, rfl, hb, heap_put_same (lt_of_heap hg), hle, hm, ?_, ?_⟩⟩, (Mod.refl (fun x => x = g) w).put (.inr rfl) _⟩
      · rw [hcut]
        obtain ⟨k, hk⟩ : ∃ k, l - i = k + 1 := ⟨l - i - 1, by omega⟩
        rw [hk] at hs ⊢
        have hund : (underlying T).run P w = .ok (.slice e) w := run_und he w
        simp [Builtin.clear_, hund, zeroValue, typeInfo, hinf, hz0, hs]
      · show (splice cur.toList i _).length = c * 1
        rw [length_splice (by rw [hzl]; simp [hsz]; omega)]; simp [hsz]
      · show (splice cur.toList i _).take (l * 1) = _
        unfold splice
        rw [Nat.mul_one] at ht ⊢
        have e1 : ys.take i = cur.toList.take i := by rw [← ht, List.take_take, Nat.min_eq_left hi]
        have hl2 : (cur.toList.take i ++ (Builtin.zeroCells zv.cells (l - i)).toList).length = l := by rw [List.length_append, hzl]; simp [hsz]; omega
        rw [e1, List.take_append_of_le_length (by omega), List.take_of_length_le (by omega)]
end
end Go.Den
end
section
/- Texts, walked: the names of a path, as the program and as the document has them. -/
open Go Go.Den Go.Proofs
namespace Go.Den
theorem piece_len : ∀ {x p : Bs}, p ∈ pieces x → p.length ≤ x.length
  | [], p, h => by simp [pieces] at h; simp [h]
  | c :: r, p, h => by
    rw [pieces_cons] at h
    split at h
    · rcases List.mem_cons.1 h with rfl | h
      · simp
      · have := piece_len h; simp; omega
    · cases hp : pieces r with
      | nil => exact absurd hp (pieces_ne r)
      | cons d t =>
        rw [hp] at h
        rcases List.mem_cons.1 h with rfl | h
        · have := piece_len (x := r) (p := d) (by rw [hp]; simp)
          simp; omega
        · have := piece_len (x := r) (p := p) (by rw [hp]; exact List.mem_cons_of_mem _ h)
          simp; omega
def keepP (p : Bs) : Bool := decide (p ≠ []) && decide (p ≠ [46])
def okP (p : Bs) : Bool := decide (p = [46, 46]) || nameB p
theorem tNames_eq (x : Bs) : tNames x = (pieces x).filter keepP := rfl
theorem tOk_eq (x : Bs) : tOk x = (decide (1 ≤ x.length) && decide (x.length ≤ 255) && (tNames x).all okP && decide ((tNames x).length ≤ 16)) := rfl
theorem filter_take {p : Bs → Bool} {l : List Bs} {n : Nat} {c : Bs} (h : l[n]? = some c) : (l.take (n + 1)).filter p = (l.take n).filter p ++ (if p c = true then [c] else []) := by
  obtain ⟨hi, e⟩ := List.getElem?_eq_some_iff.1 h
  rw [List.take_succ_eq_append_getElem hi, List.filter_append, e]
  congr 1
  cases h : p c <;> simp [h]
theorem filter_sub {p : Bs → Bool} {l : List Bs} {n : Nat} (h : ((l.take n).filter p).all okP = false) : (l.filter p).all okP = false := by
  rw [Bool.eq_false_iff] at h ⊢
  intro h2
  apply h
  rw [List.all_eq_true] at h2 ⊢
  exact fun x hx => h2 x (List.mem_filter.2 ⟨List.mem_of_mem_take (List.mem_filter.1 hx).1, (List.mem_filter.1 hx).2⟩)
end Go.Den
namespace Go.Proofs.YtiahkkekcmgkfaaDoor
theorem builtS (w : World) (v : ByteArray) : (Instr.buildSlice 52 1 #[(0, .string v)]).run Tryd.prog w = .ok (.slice (some ⟨w.heap.size, 0, none⟩) 1 1) (w.alloc (.cells ⟨[.string v]⟩ 9)) := by kernel_rfl
section
variable {w : World} {K : Value → World → Prop}
/-- A name more. -/
theorem snocS {w0 : World} {base l c : Nat} {a : Option Addr} {L : List Bs} (x : Bs) (h : Own Tryd.prog w0 base 52 1 a l c (sL L)) (hl : l ≤ 1000000000) (hb : base ≤ w0.heap.size) :
    ∃ (a' : Option Addr) (l' c' : Nat) (w1 : World), Ru (Instr.buildSlice 52 1 #[(0, .string (sB x))]) w0 (.slice a' l' c') w1 ∧ ∃ a2 c2 w2, Ru (Builtin.append_ #[52, 52] 52 #[.slice a l c, .slice a' l' c']) w1 (.slice a2 (l + 1) c2) w2 ∧
      Own Tryd.prog w2 base 52 1 a2 (l + 1) c2 (sL (L ++ [x])) ∧ Mod (fun x => base ≤ x) w0 w2 := by
  obtain ⟨a2, c2, w2, h2, h3, h4⟩ := h.snoc (ty := 52) (t := 9) (ys := [.string (sB x)]) elemZ_strings (by omega) rfl (by simp; rfl) (by omega) (by omega) hb
  refine ⟨_, _, _, _, builtS w0 (sB x), a2, c2, w2, h2, ?_, h4⟩
  rw [sL_append]; exact h3
theorem head47 {x : Bs} {c : UInt8} (h : x[0]? = some c) : ((c.toNat : Int) == 47) = decide (x.head? = some 47) := by
  rw [beq_47]
  cases x with
  | nil => simp at h
  | cons a r => simp at h; subst h; simp
theorem tSplit_c {x : Bs} (hx : x.length ≤ 9223372036854775807) (hg : Gl w) (hk0 : tOk x = false → ∀ w', Mod No w w' → K (.tuple #[.slice none 0 0, .bool false, .int .i64 25]) w')
    (hk1 : tOk x = true → ∀ w' a c, Mod No w w' → Own Tryd.prog w' w.heap.size 52 1 a (tNames x).length c (sL (tNames x)) → K (.tuple #[.slice a (tNames x).length c, .bool (decide (x.head? = some 47)), .int .i64 0]) w') : Cal Tryd.prog F_tree_Split #[.string (sB x)] w K := by
  apply C_tree_Split
  unfold D_tree_Split
  have hs := sB_size x
  refine Share.cut (fun z w1 => w1 = w ∧ z = [.bool (decide (¬ (1 ≤ x.length ∧ x.length ≤ 255)))]) ?_ ?_
  · rw [beq_empty, hs]
    refine cond_of (fun hb => ⟨rfl, ?_⟩) (fun hb => ⟨rfl, ?_⟩)
    · have := of_decide_eq_true hb; subst this; simp
    · have := of_decide_eq_false hb
      have : 1 ≤ x.length := by cases x with | nil => exact absurd rfl this | cons a r => simp
      congr 2
      rw [Bool.eq_iff_iff, decide_eq_true_eq, decide_eq_true_eq]; omega
  rintro z w1 ⟨rfl, rfl⟩
  refine ⟨_, rfl, cond_of (fun hb => ?_) (fun hb => ?_)⟩
  · have hb := of_decide_eq_true hb
    refine hk0 ?_ _ (Mod.refl _ _)
    rw [tOk_eq, Bool.eq_false_iff]
    intro h
    simp only [Bool.and_eq_true, decide_eq_true_eq] at h
    exact hb ⟨h.1.1.1, h.1.1.2⟩
  have hb := Classical.not_not.1 (of_decide_eq_false hb)
  have hpl := pieces_len x
  refine Split_c (by omega) hg fun w2 m2 hat => ⟨_, _, _, rfl, ?_⟩
  refine ⟨fun z w3 => ∃ (n : Nat) (a : Option Addr) (c : Nat) (y2 y3 : Value), n ≤ (pieces x).length ∧ z = [.slice a (((pieces x).take n).filter keepP).length c, .int .i64 n, y2, y3] ∧ (((pieces x).take n).filter keepP).all okP = true ∧
    Own Tryd.prog w3 w2.heap.size 52 1 a (((pieces x).take n).filter keepP).length c (sL (((pieces x).take n).filter keepP)) ∧ Mod No w2 w3, fun z _ => ((pieces x).length - nI z 1).toNat, ⟨0, none, 0, _, _, by omega, rfl, rfl, Own.nil elemZ_strings, Mod.refl _ _⟩, ?_⟩
  rintro z w3 ⟨n, a, c, y2, y3, hn, rfl, hall, how, m3⟩
  refine ⟨_, rfl, cond_of (fun hb2 => ?_) (fun hb2 => ?_)⟩
  · have hb2 := of_decide_eq_true hb2
    have hnx : n < (pieces x).length := by omega
    have hgx : (pieces x)[n]? = some (pieces x)[n] := List.getElem?_eq_getElem hnx
    have hft := filter_take (p := keepP) hgx
    generalize (pieces x)[n] = p at *
    have hplen : p.length ≤ x.length := piece_len (List.mem_of_getElem? hgx)
    have hlt : (((pieces x).take n).filter keepP).length ≤ n := Nat.le_trans (List.length_filter_le _ _) (by rw [List.length_take]; omega)
    refine Share.cut (fun z w4 => Mod No w2 w4 ∧ ∃ (a : Option Addr) (c : Nat) (y2 y3 : Value), z = [.slice a (((pieces x).take (n + 1)).filter keepP).length c, y2, y3] ∧ (((pieces x).take (n + 1)).filter keepP).all okP = true ∧
      Own Tryd.prog w4 w2.heap.size 52 1 a (((pieces x).take (n + 1)).filter keepP).length c (sL (((pieces x).take (n + 1)).filter keepP))) ?_ ?_
    · refine ⟨_, index_slice (k := 1) (by kernel_rfl) (by omega) (by omega), ?_⟩
      rw [add_none, show 0 + (n : Int).toNat * 1 = 0 + n by omega]
      refine ⟨_, (hat.keep m3 id).load (by kernel_rfl) (sL_get hgx), ?_⟩
      refine Share.cut (fun z w4 => w4 = w3 ∧ z = [.bool (!keepP p)]) ?_ ?_
      · rw [beq_empty, beq_dot]
        refine cond_of (fun hc => ⟨rfl, ?_⟩) (fun hc => ⟨rfl, ?_⟩)
        · have hc := of_decide_eq_true hc; simp [keepP, hc]
        · have hc := of_decide_eq_false hc; simp [keepP, hc]
      rintro z w4 ⟨rfl, rfl⟩
      refine ⟨_, rfl, cond_of (fun hc => ?_) (fun hc => ?_)⟩
      · have hkp : keepP p = false := by simpa using hc
        rw [hkp, if_neg (by simp), List.append_nil] at hft
        rw [hft]
        exact ⟨m3, a, c, _, _, rfl, hall, how⟩
      · have hkp : keepP p = true := by simpa using hc
        rw [hkp, if_pos rfl] at hft
        refine Share.cut (fun z w5 => Mod No w4 w5 ∧ z = [.bool (!okP p)]) ?_ ?_
        · rw [beq_dots]
          refine cond_of (fun hd => dName_c (by omega) fun w5 m5 => ⟨_, rfl, m5, ?_⟩) (fun hd => ⟨Mod.refl _ _, ?_⟩)
          · have hd : p ≠ [46, 46] := by simpa using hd
            simp [okP, hd]
          · have hd : p = [46, 46] := by simpa using hd
            simp [okP, hd]
        rintro z w5 ⟨m5, rfl⟩
        refine ⟨_, rfl, cond_of (fun hd => ?_) (fun hd => ?_)⟩
        · refine hk0 ?_ _ (m2.no (m3.no m5))
          have hno : okP p = false := by simpa using hd
          have : (tNames x).all okP = false := by
            rw [tNames_eq]
            refine filter_sub (n := n + 1) ?_
            rw [hft, List.all_append]
            simp [hno]
          rw [tOk_eq, this]; simp
        · have hok : okP p = true := by simpa using hd
          obtain ⟨a1, l1, c1, w6, h1, a2, c2, w7, h2, h3, h4⟩ := snocS p (how.nos m5) (by omega) (Nat.le_trans m3.size m5.size)
          refine ⟨_, _, _, rfl, a1, l1, c1, w6, h1, a2, _, c2, w7, h2, ?_⟩
          rw [hft, List.length_append, List.length_singleton]
          refine ⟨(m3.no m5).up h4 (Nat.le_refl _), a2, c2, _, _, rfl, ?_, h3⟩
          rw [List.all_append, hall]; simp [hok]
    · rintro z w4 ⟨m4, a', c', y2', y3', rfl, hall', how'⟩
      rw [wrap64 (by omega) (by omega)]
      exact ⟨⟨n + 1, a', c', _, _, by omega, rfl, hall', how', m4⟩, by simp [nI, nth]; omega⟩
  · have hb2 := of_decide_eq_false hb2
    have hnl : n = (pieces x).length := by omega
    subst hnl
    rw [List.take_length] at hall how ⊢
    refine ⟨_, _, _, rfl, cond_of (fun hc => ?_) (fun hc => ?_)⟩
    · refine hk0 ?_ _ (m2.no m3)
      have hc := of_decide_eq_true hc
      have : decide ((tNames x).length ≤ 16) = false := decide_eq_false (by rw [tNames_eq]; omega)
      rw [tOk_eq, this]; simp
    · have hc := of_decide_eq_false hc
      have hok : tOk x = true := by
        rw [tOk_eq, tNames_eq, hall]
        have h1 : decide (1 ≤ x.length) = true := decide_eq_true hb.1
        have h2 : decide (x.length ≤ 255) = true := decide_eq_true hb.2
        have h3 : decide (((pieces x).filter keepP).length ≤ 16) = true := decide_eq_true (by omega)
        rw [h1, h2, h3]; rfl
      have h0 : x[0]? = some x[0] := List.getElem?_eq_getElem (by omega)
      refine ⟨_, ix_run (i := 0) h0, ?_⟩
      rw [head47 h0]
      exact hk1 hok _ a c (m2.no m3).drew ((how.mono m2.size).nos (Mod.refl No w3).drew)
end
end Go.Proofs.YtiahkkekcmgkfaaDoor
end
section
/- A row of one's own that grows, of any elements. -/
open Go Go.Den Go.Proofs
namespace Go.Den
section
variable {P : Program} {w : World}
/-- What an element's type lays: its size, its bytes. -/
def elemG (P : Program) (T : TypeId) (k bytes : Nat) : Prop := ∃ e i zv, P.underlying T = some (.slice e) ∧ P.info? e = some i ∧ i.size = k ∧ i.zero = some zv ∧ zv.cells.size = k ∧ i.bytes = bytes
def elemGb (P : Program) (T : TypeId) : Option (Nat × Nat × Nat) :=
  match P.underlying T with
  | some (.slice e) => match P.info? e with
    | some i => match i.zero with
      | some z => some (i.size, z.cells.size, i.bytes)
      | none => none
    | none => none
  | _ => none
theorem elemG_of {T : TypeId} {k bytes : Nat} (h : elemGb P T = some (k, k, bytes)) : elemG P T k bytes := by
  unfold elemGb at h
  split at h
  · rename_i e he
    split at h
    · rename_i i hi
      split at h
      · rename_i zv hz
        have h := Option.some.inj h
        simp only [Prod.mk.injEq] at h
        exact ⟨e, i, zv, he, hi, h.1, hz, h.2.1, h.2.2⟩
      · cases h
    · cases h
  · cases h
theorem Own.nilG {base k bytes : Nat} {T : TypeId} (hT : elemG P T k bytes) : Own P w base T k none 0 0 [] := by
  obtain ⟨e, i, zv, he, _⟩ := hT
  exact ⟨e, he, World.ownsRow_nil w base e k⟩
/-- append of some new values: the row is where it was, or new. -/
theorem Own.appG {base k bytes l c m c2 : Nat} {T ty : TypeId} {a : Option Addr} {ad : Addr} {xs ys : List Value} (hT : elemG P T k bytes) (hk : 0 < k) (h : Own P w base T k a l c xs)
    (hr : Row w (some ad) ys) (hl : ys.length = m * k) (hm : 0 < m) (h1 : ∀ v ∈ ys, v.oneCell' = true) (h63 : (l + m) * bytes ≤ 140737488355328) (hb : 0 < bytes) (hbase : base ≤ w.heap.size) :
    ∃ q c' w', (Builtin.append_ #[T, T] ty #[.slice a l c, .slice (some ad) m c2]).run P w = .ok (.slice (some q) (l + m) c') w' ∧ Own P w' base T k (some q) (l + m) c' (xs ++ ys) ∧ Mod (fun x => ∃ q, a = some q ∧ x = q.block) w w' ∧
      ((∃ q', a = some q' ∧ q.block = q'.block) ∨ w.heap.size ≤ q.block) := by
  obtain ⟨e, i, zv, he, hi, hsz, hz, hzc, hby⟩ := hT
  obtain ⟨e', he', how⟩ := h
  have : e' = e := by rw [he] at he'; simpa using he'.symm
  subst this
  have hlm : l + m ≤ (l + m) * bytes := Nat.le_mul_of_pos_right _ hb
  have hmb : m * bytes ≤ (l + m) * bytes := Nat.mul_le_mul_right _ (by omega)
  have hcell : ∀ j u, ys[j]? = some u → w.cell? (ad.add j) = some u := by
    intro j u hj
    rcases hr with hr | ⟨b, o, e, hat⟩
    · subst hr; simp at hj
    · simp at e; subst e; exact hat.cell hj
  obtain ⟨v', w', hrun, how', hgr, _⟩ := run_append_own w base T ty e' i zv k bytes he hi hz hsz hby hzc hk (.slice a l c) l xs how ad m c2 ys hl hcell h1 (by simp [maxLen]; omega) h63 hbase
  have hmod : Mod (fun x => ∃ q, a = some q ∧ x = q.block) w w' := (Mod.grown hgr).mono fun x hx e => by
    cases a with
    | none => cases e
    | some q => exact ⟨q, rfl, by simpa [Value.ownBlock] using e.symm⟩
  rcases how.2 with ⟨hv, hx⟩ | ⟨g, cap, cur, hv, hbg, hg, hnc, hcm, hcs, htake⟩
  · simp at hv
    obtain ⟨rfl, rfl, rfl⟩ := hv
    have hr2 := run_append_nil (P := P) w T ty e' i zv he hi hz ad m c2 ys (by rw [hsz]; exact hl) hcell hm (by omega) (by rw [hby]; omega)
    have hrun' := hrun
    rw [hr2] at hrun'
    simp only [Result.ok.injEq] at hrun'
    obtain ⟨rfl, _⟩ := hrun'
    rw [Nat.zero_add] at how' ⊢
    exact ⟨_, _, w', hrun, ⟨e', he, how'⟩, hmod, .inr (Nat.le_refl _)⟩
  · simp at hv
    obtain ⟨rfl, rfl⟩ := hv
    by_cases hroom : l + m ≤ c
    · have hr2 := run_append_room (P := P) w T ty e' i he hi g l c cur hg ad m c2 ys (by rw [hsz]; exact hl) hcell h1 hroom (by rw [hsz, hl, hcs, ← Nat.add_mul]; exact Nat.mul_le_mul_right _ hroom)
      have hrun' := hrun
      rw [hr2] at hrun'
      simp only [Result.ok.injEq] at hrun'
      obtain ⟨rfl, _⟩ := hrun'
      exact ⟨_, _, w', hrun, ⟨e', he, how'⟩, hmod, .inl ⟨_, rfl, rfl⟩⟩
    · have holds : ∀ j u, xs[j]? = some u → w.cell? ((⟨g, 0, none⟩ : Addr).add j) = some u := how.cells (g := g) rfl
      have hr2 := run_append_grow (P := P) w T ty e' i zv he hi hz ⟨g, 0, none⟩ l c xs (by rw [hsz]; exact how.1) holds ad m c2 ys (by rw [hsz]; exact hl) hcell (by omega) (by omega) (growslice_fits (by omega) (by rw [hby]; exact h63))
      have hrun' := hrun
      rw [hr2] at hrun'
      simp only [Result.ok.injEq] at hrun'
      obtain ⟨rfl, _⟩ := hrun'
      exact ⟨_, _, w', hrun, ⟨e', he, how'⟩, hmod, .inr (Nat.le_refl _)⟩
end
end Go.Den
end
section
/- Maps with keys that are ints, in memory: what the operations do there. -/
open Go Go.Den
namespace Go.Den
abbrev Ent := Int × Value × Nat
def toE (e : Ent) : MapEntry := ⟨.int .i64 e.1, e.2.1, e.2.2⟩
def kv (e : Ent) : Int × Value := (e.1, e.2.1)
def findE (k : Int) : List Ent → Nat → Option (Nat × Value)
  | [], _ => none
  | e :: r, i => if e.1 = k then some (i, e.2.1) else findE k r (i + 1)
def putE (k : Int) (v : Value) (b : Nat) : List Ent → List Ent
  | [] => [(k, v, b)]
  | e :: r => if e.1 = k then (k, v, e.2.2) :: r else e :: putE k v b r
def lookupL : List (Int × Value) → Int → Option Value
  | [], _ => none
  | p :: r, k => if p.1 = k then some p.2 else lookupL r k
def putL (k : Int) (v : Value) : List (Int × Value) → List (Int × Value)
  | [] => [(k, v)]
  | p :: r => if p.1 = k then (k, v) :: r else p :: putL k v r

theorem findE_look (k : Int) : ∀ (Es : List Ent) (i : Nat), (findE k Es i).map (·.2) = lookupL (Es.map kv) k
  | [], _ => rfl
  | e :: r, i => by
    simp only [findE, List.map_cons, lookupL, kv]
    by_cases h : e.1 = k
    · rw [if_pos h, if_pos h]; rfl
    · rw [if_neg h, if_neg h]; exact findE_look k r (i + 1)
theorem putE_kv (k : Int) (v : Value) (b : Nat) : ∀ Es : List Ent, (putE k v b Es).map kv = putL k v (Es.map kv)
  | [] => rfl
  | e :: r => by
    simp only [putE, List.map_cons, putL, kv]
    by_cases h : e.1 = k
    · rw [if_pos h, if_pos h]; rfl
    · rw [if_neg h, if_neg h, List.map_cons, putE_kv k v b r]; rfl
theorem findNow_E (q : IntKind) (k : Int) : ∀ (Es : List Ent) (i : Nat), Instr.findNow (.int q) (.int .i64 k) (Es.map toE) i = some (findE k Es i)
  | [], _ => rfl
  | e :: r, i => by
    simp only [List.map_cons, Instr.findNow, toE, Instr.sameNow, findE, if_true]
    by_cases h : e.1 = k
    · have : (k == e.1) = true := by simp [h]
      rw [if_pos h, this]
    · have : (k == e.1) = false := by simp; exact fun e => h e.symm
      rw [if_neg h, this]
      exact findNow_E q k r (i + 1)
theorem findE_modify (k : Int) (v : Value) (b : Nat) : ∀ (Es : List Ent) (i j : Nat) (u : Value), findE k Es i = some (j, u) → i ≤ j ∧ (Es.map toE).modify (j - i) (fun e => { e with key := .int .i64 k, val := v }) = (putE k v b Es).map toE ∧ ((Es.map toE)[j - i]?.map (·.key)) = some (.int .i64 k)
  | [], i, j, u, h => by cases h
  | e :: r, i, j, u, h => by
    simp only [findE] at h
    by_cases he : e.1 = k
    · rw [if_pos he] at h
      have h := Option.some.inj h
      simp only [Prod.mk.injEq] at h
      obtain ⟨rfl, _⟩ := h
      refine ⟨Nat.le_refl _, ?_, ?_⟩
      · simp only [putE, if_pos he, List.map_cons, Nat.sub_self, List.modify_zero_cons, toE]
      · simp [toE, he]
    · rw [if_neg he] at h
      obtain ⟨h1, h2, h3⟩ := findE_modify k v b r (i + 1) j u h
      refine ⟨by omega, ?_, ?_⟩
      · rw [show j - i = (j - (i + 1)) + 1 by omega]
        simp only [putE, if_neg he, List.map_cons, List.modify_succ_cons, h2]
      · rw [show j - i = (j - (i + 1)) + 1 by omega]
        simpa using h3
theorem findE_none (k : Int) (v : Value) (b : Nat) : ∀ (Es : List Ent) (i : Nat), findE k Es i = none → putE k v b Es = Es ++ [(k, v, b)] ∧ ∀ e ∈ Es, e.1 ≠ k
  | [], _, _ => ⟨rfl, by simp⟩
  | e :: r, i, h => by
    simp only [findE] at h
    by_cases he : e.1 = k
    · rw [if_pos he] at h; cases h
    · rw [if_neg he] at h
      obtain ⟨h1, h2⟩ := findE_none k v b r (i + 1) h
      refine ⟨by simp only [putE, if_neg he, h1, List.cons_append], fun x hx => ?_⟩
      rcases List.mem_cons.1 hx with rfl | hx
      · exact he
      · exact h2 x hx
theorem putE_born (k : Int) (v : Value) (b : Nat) : ∀ (Es : List Ent) (i : Nat), findE k Es i ≠ none → (putE k v b Es).map (·.2.2) = Es.map (·.2.2) ∧ (putE k v b Es).map (·.1) = Es.map (·.1)
  | [], _, h => absurd rfl h
  | e :: r, i, h => by
    simp only [findE] at h
    by_cases he : e.1 = k
    · simp [putE, he]
    · rw [if_neg he] at h
      obtain ⟨h1, h2⟩ := putE_born k v b r (i + 1) h
      simp [putE, he, h1, h2]

/-- A map in memory. -/
def MapAt (w : World) (m : Nat) (L : List (Int × Value)) : Prop :=
  ∃ (Es : List Ent) (clock : Nat), w.heap[m]? = some (.map (Es.map toE).toArray clock) ∧ Es.map kv = L ∧ (Es.map (·.1)).Nodup ∧ (∀ e ∈ Es, e.2.2 < clock) ∧ (Es.map (·.2.2)).Nodup
section
variable {P : Program} {w : World}
theorem MapAt.lt {m : Nat} {L : List (Int × Value)} (h : MapAt w m L) : m < w.heap.size := by obtain ⟨_, _, h, _⟩ := h; exact lt_of_heap h
theorem MapAt.keep {m : Nat} {L : List (Int × Value)} {S : Nat → Prop} {w' : World} (h : MapAt w m L) (hm : Mod S w w') (hs : ¬ S m) : MapAt w' m L := by
  obtain ⟨Es, c, h1, h2⟩ := h; exact ⟨Es, c, hm.keep h1 hs, h2⟩
theorem MapAt.drew {m : Nat} {L : List (Int × Value)} (h : MapAt w m L) : MapAt (drew w) m L := h
theorem MapAt.nodup {m : Nat} {L : List (Int × Value)} (h : MapAt w m L) : (L.map (·.1)).Nodup := by
  obtain ⟨Es, c, _, rfl, h, _⟩ := h
  rw [List.map_map]; exact h
def mapZ (P : Program) (T : TypeId) : Option Value :=
  match P.underlying T with
  | some (.map k e) => match P.underlying k with
    | some (.int .i64) => match P.info? e with | some i => i.zero | none => none
    | _ => none
  | _ => none
theorem mapZ_is {T : TypeId} {z : Value} (h : mapZ P T = some z) : ∃ k e i, P.underlying T = some (.map k e) ∧ P.underlying k = some (.int .i64) ∧ P.info? e = some i ∧ i.zero = some z := by
  unfold mapZ at h
  split at h
  · rename_i k e h1
    split at h
    · rename_i h2
      split at h
      · rename_i i h3; exact ⟨k, e, i, h1, h2, h3, h⟩
      · cases h
    · cases h
  · cases h
theorem run_checkKey {k : TypeId} {empty : Bool} {n : Int} (hk : P.underlying k = some (.int .i64)) : (Instr.checkKey empty 10000 k (.int .i64 n)).run P w = .ok () w := by
  rw [show (10000 : Nat) = 9999 + 1 from rfl, Instr.checkKey]
  simp [run_und hk]
theorem run_findKey {k : TypeId} {n : Int} {Es : List Ent} (hk : P.underlying k = some (.int .i64)) : (Instr.findKey k (.int .i64 n) (Es.map toE)).run P w = .ok (findE n Es 0) w := by
  simp [Instr.findKey, run_und hk, findNow_E]
theorem run_getMap {m : Nat} {es : Array MapEntry} {c : Nat} (h : w.heap[m]? = some (.map es c)) : (getObj m).run P w = .ok (.map es c) w := by
  simp [getObj, Sem.run, h]

theorem run_setMap {m : Nat} {es : Array MapEntry} {c : Nat} {o' : Obj} (h : w.heap[m]? = some (.map es c)) : (setObj m o').run P w = .ok () (put w m o') := by
  have hlt := lt_of_heap h
  simp only [setObj, Sem.run]
  rw [h]; rfl

theorem update_run {T : TypeId} {z : Value} {m : Nat} {L : List (Int × Value)} {k : Int} {v : Value} (hT : mapZ P T = some z) (h : MapAt w m L) :
    ∃ w', (Instr.mapUpdate T (.map (some m)) (.int .i64 k) v).run P w = .ok () w' ∧ MapAt w' m (putL k v L) ∧ Mod (fun x => x = m) w w' ∧ w'.heap.size = w.heap.size := by
  obtain ⟨kt, e, i, h1, h2, h3, h4⟩ := mapZ_is hT
  obtain ⟨Es, c, g1, rfl, g3, g4, g5⟩ := h
  have hm : ∀ o, Mod (fun x => x = m) w (put w m o) := fun o => (Mod.refl (fun x => x = m) w).put (.inr rfl) _
  cases hf : findE k Es 0 with
  | none =>
    obtain ⟨e1, e2⟩ := findE_none k v c Es 0 hf
    refine ⟨put w m (.map ((putE k v c Es).map toE).toArray (c + 1)), ?_, ⟨putE k v c Es, c + 1, heap_put_same (lt_of_heap g1), putE_kv k v c Es, ?_, ?_, ?_⟩, hm _, by simp⟩
    · simp only [Instr.mapUpdate, Sem.run_bind, run_und h1, Result.andThen_ok, run_getMap g1, run_checkKey h2, run_findKey h2, hf]
      rw [run_setMap g1, e1]
      simp [toE]
    · rw [e1, List.map_append]
      refine List.nodup_append.2 ⟨g3, by simp, ?_⟩
      intro a ha b hb
      simp at hb; subst hb
      obtain ⟨x, hx, rfl⟩ := List.mem_map.1 ha
      exact e2 x hx
    · intro x hx
      rw [e1] at hx
      rcases List.mem_append.1 hx with hx | hx
      · have := g4 x hx; omega
      · simp at hx; subst hx; simp
    · rw [e1, List.map_append]
      refine List.nodup_append.2 ⟨g5, by simp, ?_⟩
      intro a ha b hb
      simp at hb; subst hb
      obtain ⟨x, hx, rfl⟩ := List.mem_map.1 ha
      have := g4 x hx; omega
  | some r =>
    obtain ⟨j, u⟩ := r
    obtain ⟨_, e1, e2⟩ := findE_modify k v c Es 0 j u hf
    rw [Nat.sub_zero] at e1 e2
    obtain ⟨b1, b2⟩ := putE_born k v c Es 0 (by rw [hf]; simp)
    refine ⟨put w m (.map ((putE k v c Es).map toE).toArray c), ?_, ⟨putE k v c Es, c, heap_put_same (lt_of_heap g1), putE_kv k v c Es, by rw [b2]; exact g3, ?_, by rw [b1]; exact g5⟩, hm _, by simp⟩
    · have hkey : (((Es.map toE).toArray[j]?).map (·.key)).getD (.int .i64 k) = .int .i64 k := by
        rw [List.getElem?_toArray, e2]; rfl
      have hstay : (Instr.keyThatStays (.int .i64 k) (.int .i64 k)).run P w = .ok (.int .i64 k) w := by
        have : Instr.sameBits 10000 (.int .i64 k) (.int .i64 k) = true := by simp [Instr.sameBits]
        simp [Instr.keyThatStays, this]
      simp only [Instr.mapUpdate, Sem.run_bind, run_und h1, Result.andThen_ok, run_getMap g1, run_checkKey h2, run_findKey h2, hf, hkey, hstay]
      rw [run_setMap g1, ← e1]
      simp
    · intro x hx
      have hx' : x.2.2 ∈ Es.map (·.2.2) := by rw [← b1]; exact List.mem_map.2 ⟨x, hx, rfl⟩
      obtain ⟨y, hy, hye⟩ := List.mem_map.1 hx'
      rw [← hye]; exact g4 y hy

theorem makeMap_run {T : TypeId} : (Instr.makeMap T none).run P w = .ok (.map (some w.heap.size)) (w.alloc (.map #[] 0)) := rfl
theorem MapAt.new : MapAt (w.alloc (.map #[] 0)) w.heap.size [] := ⟨[], 0, heap_new w _, rfl, by simp, by simp, by simp⟩
end
end Go.Den
end
section
/- A map of texts that are marked: a set of texts in memory. -/
open Go Go.Den
namespace Go.Den
def toS (e : Bs × Nat) : MapEntry := ⟨.string (sB e.1), .bool true, e.2⟩
def findS (k : Bs) : List (Bs × Nat) → Nat → Option (Nat × Value)
  | [], _ => none
  | e :: r, i => if e.1 = k then some (i, .bool true) else findS k r (i + 1)
theorem beq_bytes (x y : Bs) : (sB x == sB y) = decide (x = y) := by
  have e : (sB x == sB y) = ((sB x).data == (sB y).data) := rfl
  rw [e, Bool.eq_iff_iff, beq_iff_eq, decide_eq_true_eq]
  constructor
  · intro h
    have := congrArg Array.toList h
    exact this
  · rintro rfl; rfl
theorem findNow_S (k : Bs) : ∀ (Es : List (Bs × Nat)) (i : Nat), Instr.findNow .string (.string (sB k)) (Es.map toS) i = some (findS k Es i)
  | [], _ => rfl
  | e :: r, i => by
    simp only [List.map_cons, Instr.findNow, toS, Instr.sameNow, findS]
    by_cases h : e.1 = k
    · have : (sB k == sB e.1) = true := by rw [beq_bytes, h]; simp
      rw [if_pos h, this]
    · have : (sB k == sB e.1) = false := by rw [beq_bytes]; exact decide_eq_false fun e2 => h e2.symm
      rw [if_neg h, this]
      exact findNow_S k r (i + 1)
theorem findS_cases (k : Bs) : ∀ (Es : List (Bs × Nat)) (i : Nat), (findS k Es i = none ∧ k ∉ Es.map (·.1)) ∨ ∃ j, findS k Es i = some (j, .bool true) ∧ k ∈ Es.map (·.1)
  | [], _ => .inl ⟨rfl, by simp⟩
  | e :: r, i => by
    unfold findS
    by_cases h : e.1 = k
    · rw [if_pos h]; exact .inr ⟨i, rfl, by simp [h]⟩
    · rw [if_neg h]
      rcases findS_cases k r (i + 1) with ⟨h1, h2⟩ | ⟨j, h1, h2⟩
      · exact .inl ⟨h1, by rw [List.map_cons, List.mem_cons]; rintro (h3 | h3); exact h h3.symm; exact h2 h3⟩
      · exact .inr ⟨j, h1, by rw [List.map_cons]; exact List.mem_cons_of_mem _ h2⟩
/-- A set of texts in memory. -/
def SetAt (w : World) (m : Nat) (L : List Bs) : Prop := ∃ (Es : List (Bs × Nat)) (clock : Nat), w.heap[m]? = some (.map (Es.map toS).toArray clock) ∧ Es.map (·.1) = L
section
variable {P : Program} {w : World}
theorem SetAt.lt {m : Nat} {L : List Bs} (h : SetAt w m L) : m < w.heap.size := by obtain ⟨_, _, h, _⟩ := h; exact lt_of_heap h
theorem SetAt.keep {m : Nat} {L : List Bs} {S : Nat → Prop} {w' : World} (h : SetAt w m L) (hm : Mod S w w') (hs : ¬ S m) : SetAt w' m L := by
  obtain ⟨Es, c, h1, h2⟩ := h; exact ⟨Es, c, hm.keep h1 hs, h2⟩
theorem SetAt.nos {m : Nat} {L : List Bs} {w' : World} (h : SetAt w m L) (hm : Mod No w w') : SetAt w' m L := h.keep hm id
theorem SetAt.new : SetAt (w.alloc (.map #[] 0)) w.heap.size [] := ⟨[], 0, heap_new w _, rfl⟩
def setZ (P : Program) (T : TypeId) : Bool :=
  match P.underlying T with
  | some (.map k e) => match P.underlying k with
    | some .string => match P.info? e with | some i => (match i.zero with | some (.bool false) => true | _ => false) | none => false
    | _ => false
  | _ => false
theorem setZ_is {T : TypeId} (h : setZ P T = true) : ∃ k e i, P.underlying T = some (.map k e) ∧ P.underlying k = some .string ∧ P.info? e = some i ∧ i.zero = some (.bool false) := by
  unfold setZ at h
  split at h
  · rename_i k e h1
    split at h
    · rename_i h2
      split at h
      · rename_i i h3
        split at h
        · rename_i h4; exact ⟨k, e, i, h1, h2, h3, h4⟩
        · cases h
      · cases h
    · cases h
  · cases h
theorem run_checkStr {k : TypeId} {empty : Bool} {s : ByteArray} (hk : P.underlying k = some .string) : (Instr.checkKey empty 10000 k (.string s)).run P w = .ok () w := by
  rw [show (10000 : Nat) = 9999 + 1 from rfl, Instr.checkKey]
  simp [run_und hk]
theorem run_findStr {k : TypeId} {s : Bs} {Es : List (Bs × Nat)} (hk : P.underlying k = some .string) : (Instr.findKey k (.string (sB s)) (Es.map toS)).run P w = .ok (findS s Es 0) w := by
  simp [Instr.findKey, run_und hk, findNow_S]
theorem inSet_run {T : TypeId} {m : Nat} {L : List Bs} {k : Bs} (hT : setZ P T = true) (h : SetAt w m L) : (Instr.lookup T (.map (some m)) (.string (sB k)) false).run P w = .ok (.bool (decide (k ∈ L))) w := by
  obtain ⟨kt, e, i, h1, h2, h3, h4⟩ := setZ_is hT
  obtain ⟨Es, c, g1, rfl⟩ := h
  have hzero : (zeroValue e).run P w = .ok (.bool false) w := by simp [zeroValue, typeInfo, h3, h4]
  simp only [Instr.lookup, Sem.run_bind, run_und h1, Result.andThen_ok, run_getMap g1, Sem.run_pure, run_checkStr h2, run_findStr h2]
  rcases findS_cases k Es 0 with ⟨hf, hn⟩ | ⟨j, hf, hn⟩
  · rw [hf, decide_eq_false hn]; simp [hzero]
  · rw [hf, decide_eq_true hn]; simp
theorem addSet_run {T : TypeId} {m : Nat} {L : List Bs} {k : Bs} (hT : setZ P T = true) (h : SetAt w m L) (hk : k ∉ L) :
    ∃ w', (Instr.mapUpdate T (.map (some m)) (.string (sB k)) (.bool true)).run P w = .ok () w' ∧ SetAt w' m (L ++ [k]) ∧ Mod (fun x => x = m) w w' ∧ w'.heap.size = w.heap.size := by
  obtain ⟨kt, e, i, h1, h2, h3, h4⟩ := setZ_is hT
  obtain ⟨Es, c, g1, rfl⟩ := h
  rcases findS_cases k Es 0 with ⟨hf, hn⟩ | ⟨j, hf, hn⟩
  · refine ⟨put w m (.map ((Es ++ [(k, c)]).map toS).toArray (c + 1)), ?_, ⟨Es ++ [(k, c)], c + 1, heap_put_same (lt_of_heap g1), by simp⟩, (Mod.refl (fun x => x = m) w).put (.inr rfl) _, by simp⟩
    simp only [Instr.mapUpdate, Sem.run_bind, run_und h1, Result.andThen_ok, run_getMap g1, run_checkStr h2, run_findStr h2, hf]
    rw [run_setMap g1]
    simp [toS]
  · exact absurd hn hk
end
end Go.Den
end
section
/- Entries of a tree in memory, as the program and as the document has them; is one as its kind must be? -/
open Go Go.Den Go.Proofs
namespace Go.Den
theorem flat5_len : ∀ {L : List (List Value)}, (∀ c ∈ L, c.length = 5) → L.flatten.length = L.length * 5
  | [], _ => rfl
  | x :: r, h => by
    rw [List.flatten_cons, List.length_append, h x (by simp), flat5_len (fun c hc => h c (List.mem_cons_of_mem _ hc)), List.length_cons]; omega
theorem flat5_get : ∀ {L : List (List Value)}, (∀ c ∈ L, c.length = 5) → ∀ {i : Nat} {c : List Value}, L[i]? = some c → (L.flatten.drop (i * 5)).take 5 = c
  | [], _, i, c, e => by simp at e
  | x :: r, h, 0, c, e => by
    simp at e; subst e
    have := h x (by simp)
    rw [List.flatten_cons, Nat.zero_mul, List.drop_zero, List.take_append_of_le_length (by omega), List.take_of_length_le (by omega)]
  | x :: r, h, i + 1, c, e => by
    have hx := h x (by simp)
    rw [List.flatten_cons, show (i + 1) * 5 = x.length + i * 5 by omega, List.drop_append, List.drop_eq_nil_of_le (by omega), List.nil_append, show x.length + i * 5 - x.length = i * 5 by omega]
    exact flat5_get (fun c hc => h c (List.mem_cons_of_mem _ hc)) (by simpa using e)
theorem flat5_cell {L : List (List Value)} (h : ∀ c ∈ L, c.length = 5) {i j : Nat} {c : List Value} {v : Value} (hc : L[i]? = some c) (hj : c[j]? = some v) : L.flatten[i * 5 + j]? = some v := by
  have hj5 : j < 5 := by
    have h1 := (List.getElem?_eq_some_iff.1 hj).1
    have h2 := h c (List.mem_of_getElem? hc)
    omega
  rw [← flat5_get h hc, List.getElem?_take, if_pos hj5, List.getElem?_drop] at hj
  exact hj
def pV (z : Tn × Option Addr × Nat) : List Value := [.string (sB z.1.path), .int .i64 z.1.kind, .string (sB z.1.link), .slice z.2.1 z.1.data.length z.2.2, .int .i64 z.1.same]
def rV (e : Tn) : List Value := [.string (sB e.path), .int .i64 e.kind, .string (sB e.link), .string (sB e.data), .int .i64 e.same]
theorem pV_all (Z : List (Tn × Option Addr × Nat)) : ∀ c ∈ Z.map pV, c.length = 5 := by
  intro c hc
  obtain ⟨z, _, rfl⟩ := List.mem_map.1 hc
  rfl
theorem rV_all (l : List Tn) : ∀ c ∈ l.map rV, c.length = 5 := by
  intro c hc
  obtain ⟨z, _, rfl⟩ := List.mem_map.1 hc
  rfl
theorem one_pV (z : Tn × Option Addr × Nat) : ∀ v ∈ pV z, v.oneCell' = true := by
  intro v hv
  simp [pV] at hv
  rcases hv with rfl | rfl | rfl | rfl | rfl <;> rfl
/-- Entries as the program has them. -/
def PE (w : World) (a : Option Addr) (l : List Tn) : Prop :=
  ∃ Z : List (Tn × Option Addr × Nat), Z.map (·.1) = l ∧ Row w a (Z.map pV).flatten ∧ ∀ z ∈ Z, Row w z.2.1 (u8L z.1.data) ∧ (z.2.1 = none → z.1.data = [] ∧ z.2.2 = 0)
/-- Entries as the document has them. -/
def RE (w : World) (a : Option Addr) (l : List Tn) : Prop := Row w a (l.map rV).flatten
def BdE (l : List Tn) : Prop := ∀ e ∈ l, e.path.length ≤ 140737488355328 ∧ e.link.length ≤ 140737488355328 ∧ e.data.length ≤ 140737488355328
theorem PE.nos {w w' : World} {a : Option Addr} {l : List Tn} (h : PE w a l) (m : Mod No w w') : PE w' a l := by
  obtain ⟨Z, h1, h2, h3⟩ := h
  exact ⟨Z, h1, h2.nos m, fun z hz => ⟨(h3 z hz).1.nos m, (h3 z hz).2⟩⟩
theorem RE.nos {w w' : World} {a : Option Addr} {l : List Tn} (h : RE w a l) (m : Mod No w w') : RE w' a l := Row.nos h m
theorem box_at {P : Program} {w : World} {T : TypeId} {cs : List Value} : ∃ w1, (Instr.box T (.agg ⟨cs⟩)).run P w = .ok (.pointer (some ⟨w.heap.size, 0, none⟩)) w1 ∧ At w1 w.heap.size 0 cs ∧ Mod No w w1 ∧ w1.heap.size = w.heap.size + 1 :=
  ⟨_, box_run, AtU.new.at, (Mod.refl No w).alloc _, World.size_alloc _ _⟩
theorem vyes {P : Prop} (h : P) : ∃ b, [Value.bool true] = [.bool b] ∧ (b = true ↔ P) := ⟨true, rfl, fun _ => h, fun _ => rfl⟩
theorem vno {P : Prop} (h : ¬ P) : ∃ b, [Value.bool false] = [.bool b] ∧ (b = true ↔ P) := ⟨false, rfl, fun e => (by cases e), fun e => absurd e h⟩
theorem viff {P : Prop} {c : Bool} (h : c = true ↔ P) : ∃ b, [Value.bool c] = [.bool b] ∧ (b = true ↔ P) := ⟨c, rfl, h⟩
theorem beq_int (a b : Int) : (a == b) = decide (a = b) := by rw [Bool.eq_iff_iff, beq_iff_eq, decide_eq_true_eq]
theorem bne_int (a b : Int) : (a != b) = decide (a ≠ b) := by show (!(a == b)) = _; rw [beq_int, decide_not]
end Go.Den
namespace Go.Proofs.YtiahkkekcmgkfaaDoor
theorem agg_pE : aggN Tryd.prog 64 = some 5 := by kernel_rfl
theorem agg_rE : aggN Tryd.prog 58 = some 5 := by kernel_rfl
section
variable {w : World} {K : Value → World → Prop}
theorem PE.at {a : Option Addr} {l : List Tn} {i : Nat} {e : Tn} (h : PE w a l) (hi : l[i]? = some e) :
    ∃ g o hd, a = some ⟨g, o, none⟩ ∧ (∀ n c : Nat, i < n → Al (Instr.indexAt 28 (.slice (some ⟨g, o, none⟩) n c) (.int .i64 i)) (.pointer (some ⟨g, o + i * 5, none⟩))) ∧
      (∀ (j : Nat) (T : TypeId) (v : Value), scal Tryd.prog T = true → (pV (e, hd))[j]? = some v → ∀ w', Mod No w w' → Ru (Instr.loadAt T (.pointer (some (Addr.add ⟨g, o + i * 5, none⟩ j)))) w' v w') ∧
      (∀ w', Mod No w w' → Ru (Instr.loadAt 64 (.pointer (some ⟨g, o + i * 5, none⟩))) w' (.agg ⟨pV (e, hd)⟩) w') ∧ Row w hd.1 (u8L e.data) ∧ (hd.1 = none → e.data = [] ∧ hd.2 = 0) := by
  obtain ⟨Z, rfl, h2, h3⟩ := h
  rw [List.getElem?_map] at hi
  cases hz : Z[i]? with
  | none => rw [hz] at hi; cases hi
  | some z =>
    rw [hz] at hi
    obtain ⟨e', hd⟩ := z
    have hi : e' = e := by simpa using hi
    subst hi
    have hZ := pV_all Z
    have hzi : (Z.map pV)[i]? = some (pV (e', hd)) := by rw [List.getElem?_map, hz]; rfl
    have hil : i < Z.length := (List.getElem?_eq_some_iff.1 hz).1
    have hlen := flat5_len hZ
    rw [List.length_map] at hlen
    obtain ⟨g, o, rfl, hat⟩ := h2.resolve_left fun e => by rw [e] at hlen; simp at hlen; omega
    have h4 := h3 _ (List.mem_of_getElem? hz)
    refine ⟨g, o, hd, rfl, fun n c hn w => ?_, fun j T v hT hj w' m => ?_, fun w' m => ?_, h4.1, h4.2⟩
    · rw [index_slice (k := 5) (by kernel_rfl) (by omega) (by omega) w, add_none, Int.toNat_natCast]
    · rw [add_none, Nat.add_assoc]
      exact (hat.keep m id).load hT (flat5_cell hZ hzi hj)
    · have := (hat.keep m id).loadAgg (P := Tryd.prog) (i := i * 5) agg_pE (by rw [hlen]; omega)
      rw [flat5_get hZ hzi] at this
      exact this
theorem RE.at {a : Option Addr} {l : List Tn} {i : Nat} {e : Tn} (h : RE w a l) (hi : l[i]? = some e) :
    ∃ g o, a = some ⟨g, o, none⟩ ∧ (∀ n c : Nat, i < n → Al (Instr.indexAt 22 (.slice (some ⟨g, o, none⟩) n c) (.int .i64 i)) (.pointer (some ⟨g, o + i * 5, none⟩))) ∧
      (∀ (j : Nat) (T : TypeId) (v : Value), scal Tryd.prog T = true → (rV e)[j]? = some v → ∀ w', Mod No w w' → Ru (Instr.loadAt T (.pointer (some (Addr.add ⟨g, o + i * 5, none⟩ j)))) w' v w') ∧
      (∀ w', Mod No w w' → Ru (Instr.loadAt 58 (.pointer (some ⟨g, o + i * 5, none⟩))) w' (.agg ⟨rV e⟩) w') := by
  have hZ := rV_all l
  have hzi : (l.map rV)[i]? = some (rV e) := by rw [List.getElem?_map, hi]; rfl
  have hil : i < l.length := (List.getElem?_eq_some_iff.1 hi).1
  have hlen := flat5_len hZ
  rw [List.length_map] at hlen
  obtain ⟨g, o, rfl, hat⟩ := h.resolve_left fun e => by rw [e] at hlen; simp at hlen; omega
  refine ⟨g, o, rfl, fun n c hn w => ?_, fun j T v hT hj w' m => ?_, fun w' m => ?_⟩
  · rw [index_slice (k := 5) (by kernel_rfl) (by omega) (by omega) w, add_none, Int.toNat_natCast]
  · rw [add_none, Nat.add_assoc]
    exact (hat.keep m id).load hT (flat5_cell hZ hzi hj)
  · have := (hat.keep m id).loadAgg (P := Tryd.prog) (i := i * 5) agg_rE (by rw [hlen]; omega)
    rw [flat5_get hZ hzi] at this
    exact this
theorem plain_c {e : Tn} {hd : Option Addr × Nat} {l : List Tn} {i : Nat} {a : Option Addr} {c : Nat} (hi : i ≤ l.length) (hP : 0 < i → PE w a l) (hb : e.link.length ≤ 140737488355328) (hg : Gl w)
    (hk : ∀ w' b, Mod No w w' → (b = true ↔ OneE l i e) → K (.bool b) w') : Cal Tryd.prog F_dump_Entry_plain #[.agg ⟨pV (e, hd)⟩, .slice a i c] w K := by
  apply C_dump_Entry_plain
  unfold D_dump_Entry_plain
  obtain ⟨w1, hbx, hat, m1, _⟩ := box_at (P := Tryd.prog) (w := w) (T := 64) (cs := pV (e, hd))
  have hgw := hg.nos m1
  have ld : ∀ (j : Nat) (T : TypeId) (v : Value), scal Tryd.prog T = true → (pV (e, hd))[j]? = some v → ∀ w', Mod No w1 w' → Ru (Instr.loadAt T (.pointer (some (Addr.add ⟨w.heap.size, 0, none⟩ j)))) w' v w' := fun j T v hT hj w' m => by
    rw [add_none]; exact (hat.keep m id).load hT hj
  have l1 := ld 1 3 (.int .i64 e.kind) (by kernel_rfl) rfl
  have l2 := ld 2 9 (.string (sB e.link)) (by kernel_rfl) rfl
  have l3 := ld 3 62 (.slice hd.1 e.data.length hd.2) (by kernel_rfl) rfl
  have l4 := ld 4 3 (.int .i64 e.same) (by kernel_rfl) rfl
  have r1 := Mod.refl No w1
  refine ⟨_, _, hbx, _, l4 _ r1, Share.cut (fun z w2 => w2 = w1 ∧ ∃ b, z = [.bool b] ∧ (b = true ↔ ¬ (1 ≤ e.kind ∧ e.kind ≤ 3 ∧ -1 ≤ e.same ∧ e.data.length ≤ 65536))) ⟨_, l1 _ r1, ?_⟩ ?_⟩
  · refine cond_of (fun h => ⟨rfl, vyes ?_⟩) fun h => ⟨_, l1 _ r1, cond_of (fun h2 => ⟨rfl, vyes ?_⟩) fun h2 => ⟨_, l4 _ r1, cond_of (fun h3 => ⟨rfl, vyes ?_⟩) fun h3 => ⟨_, _, _, l3 _ r1, rfl, viff ?_⟩⟩⟩
    · have h := of_decide_eq_true h; omega
    · have h2 := of_decide_eq_true h2; omega
    · have h3 := of_decide_eq_true h3; omega
    · have h := of_decide_eq_false h
      have h2 := of_decide_eq_false h2
      have h3 := of_decide_eq_false h3
      rw [decide_eq_true_eq]; omega
  rintro z w2 ⟨rfl, b, rfl, hbi⟩
  refine ⟨_, rfl, cond_of (fun h => ?_) (fun h => ?_)⟩
  · refine hk _ false m1 ⟨fun e => (by cases e), fun ho => absurd (hbi.1 h) ?_⟩
    obtain ⟨o1, o2, o3, _, _, o6⟩ := ho
    refine fun hn => hn ⟨o1, o2, ?_, o3⟩
    rcases o6 with o6 | o6 <;> omega
  have hA : 1 ≤ e.kind ∧ e.kind ≤ 3 ∧ -1 ≤ e.same ∧ e.data.length ≤ 65536 := Classical.not_not.1 fun hn => by
    have := hbi.2 hn; rw [h] at this; cases this
  refine Share.cut (fun z w3 => w3 = w2 ∧ ∃ b, z = [.bool b] ∧ (b = true ↔ ¬ ((e.kind ≠ 1 → e.data = []) ∧ (e.kind ≠ 3 → e.link = [])))) ⟨_, l1 _ r1, ?_⟩ ?_
  · have hlk : ∀ {P : Prop}, e.kind ≠ 3 → ((e.link ≠ []) ↔ P) → ∃ b, [Value.bool (!((ByteArray.toList (sB e.link)) == (ByteArray.toList ByteArray.empty)))] = [.bool b] ∧ (b = true ↔ P) := fun h1 h2 => viff (by rw [beq_empty, Bool.not_eq_true', decide_eq_false_iff_not]; exact h2)
    refine cond_of (fun h1 => ⟨_, _, _, l3 _ r1, cond_of (fun h2 => ⟨rfl, vyes ?_⟩) fun h2 => ⟨_, l1 _ r1, cond_of (fun h3 => ⟨_, l2 _ r1, rfl, hlk ?_ ?_⟩) fun h3 => ⟨rfl, vno ?_⟩⟩⟩) fun h1 => ⟨_, l1 _ r1, cond_of (fun h3 => ⟨_, l2 _ r1, rfl, hlk ?_ ?_⟩) fun h3 => ⟨rfl, vno ?_⟩⟩
    · have h1 : e.kind ≠ 1 := by simpa using h1
      have h2 := of_decide_eq_true h2
      intro ho
      have := ho.1 h1
      simp only [this] at h2; simp at h2
    · simpa using h3
    · have h1 : e.kind ≠ 1 := by simpa using h1
      have h3 : e.kind ≠ 3 := by simpa using h3
      have h2 := of_decide_eq_false h2
      have h2 : e.data = [] := List.eq_nil_of_length_eq_zero (by omega)
      exact ⟨fun a b => a (b.2 h3), fun a b => a ⟨fun _ => h2, fun _ => b⟩⟩
    · have h3 : e.kind = 3 := by simpa using h3
      have h2 := of_decide_eq_false h2
      have h2 : e.data = [] := List.eq_nil_of_length_eq_zero (by omega)
      exact fun a => a ⟨fun _ => h2, fun b => absurd h3 b⟩
    · simpa using h3
    · have h1 : e.kind = 1 := by simpa using h1
      have h3 : e.kind ≠ 3 := by simpa using h3
      exact ⟨fun a b => a (b.2 h3), fun a b => a ⟨fun c => absurd h1 c, fun _ => b⟩⟩
    · have h1 : e.kind = 1 := by simpa using h1
      have h3 : e.kind = 3 := by simpa using h3
      omega
  rintro z w3 ⟨rfl, b, rfl, hbi⟩
  refine ⟨_, rfl, cond_of (fun h => ?_) (fun h => ?_)⟩
  · refine hk _ false m1 ⟨fun e => (by cases e), fun ho => absurd ?_ (hbi.1 h)⟩
    exact ⟨ho.2.2.2.1, ho.2.2.2.2.1⟩
  have hB : (e.kind ≠ 1 → e.data = []) ∧ (e.kind ≠ 3 → e.link = []) := Classical.not_not.1 fun hn => by
    have := hbi.2 hn; rw [h] at this; cases this
  refine cond_of (fun hs => ?_) (fun hs => ?_)
  · have hs := of_decide_eq_true hs
    have rd := (Mod.refl No w3).drew
    have hone : OneE l i e ↔ (e.same < i ∧ e.kind ≠ 2 ∧ e.data = [] ∧ e.link = [] ∧ ∃ q, l[e.same.toNat]? = some q ∧ q.kind = e.kind ∧ q.same = -1) := by
      unfold OneE
      constructor
      · rintro ⟨_, _, _, _, _, o | ⟨_, o1, o2, o3, o4, o5⟩⟩
        · omega
        · exact ⟨o1, o2, o3, o4, o5⟩
      · rintro ⟨o1, o2, o3, o4, o5⟩
        exact ⟨hA.1, hA.2.1, hA.2.2.2, hB.1, hB.2, .inr ⟨hs, o1, o2, o3, o4, o5⟩⟩
    refine Share.cut (fun z w4 => w4 = drew w3 ∧ ∃ b, z = [.bool b] ∧ (b = true ↔ OneE l i e)) ⟨_, l1 _ rd, cond_of (fun h1 => ⟨_, l4 _ rd, cond_of (fun h2 => ?_) (fun h2 => ⟨rfl, vno ?_⟩)⟩) (fun h1 => ⟨rfl, vno ?_⟩)⟩ ?_
    · have h1 : e.kind ≠ 2 := by simpa using h1
      have h2 := of_decide_eq_true h2
      have hqi : l[e.same.toNat]? = some l[e.same.toNat] := List.getElem?_eq_getElem (by omega)
      generalize l[e.same.toNat] = q at hqi
      obtain ⟨g, o, hq, rfl, ix, lq, _, _⟩ := PE.at (hP (by omega)) hqi
      have ix := ix i c (by omega)
      rw [show ((e.same.toNat : Nat) : Int) = e.same by omega] at ix
      have mq := m1.drew
      refine ⟨_, l4 _ rd, _, ix, _, lq 1 3 (.int .i64 q.kind) (by kernel_rfl) rfl _ mq, _, l1 _ rd, cond_of (fun h3 => ⟨_, l4 _ rd, _, ix, _, lq 4 3 (.int .i64 q.same) (by kernel_rfl) rfl _ mq, cond_of (fun h4 => ⟨_, _, _, l3 _ rd, cond_of (fun h5 => ⟨_, l2 _ rd, rfl, viff ?_⟩) (fun h5 => ⟨rfl, vno ?_⟩)⟩) (fun h4 => ⟨rfl, vno ?_⟩)⟩) (fun h3 => ⟨rfl, vno ?_⟩)⟩
      · rw [beq_int] at h3 h4 h5
        have h3 := of_decide_eq_true h3
        have h4 := of_decide_eq_true h4
        have h5 := of_decide_eq_true h5
        have h5 : e.data = [] := List.eq_nil_of_length_eq_zero (by omega)
        rw [beq_empty, decide_eq_true_eq, hone]
        exact ⟨fun e1 => ⟨h2, h1, h5, e1, q, hqi, h3, h4⟩, fun e1 => e1.2.2.2.1⟩
      · rw [beq_int] at h5
        have h5 := of_decide_eq_false h5
        intro ho
        rw [hone] at ho
        rw [ho.2.2.1] at h5; simp at h5
      · rw [beq_int] at h4
        have h4 := of_decide_eq_false h4
        intro ho
        rw [hone] at ho
        obtain ⟨_, _, _, _, q', h6, h7, h8⟩ := ho
        rw [hqi] at h6; cases h6
        exact h4 h8
      · rw [beq_int] at h3
        have h3 := of_decide_eq_false h3
        intro ho
        rw [hone] at ho
        obtain ⟨_, _, _, _, q', h6, h7, h8⟩ := ho
        rw [hqi] at h6; cases h6
        exact h3 h7
    · have h2 := of_decide_eq_false h2
      intro ho
      rw [hone] at ho
      exact h2 ho.1
    · have h1 : e.kind = 2 := by simpa using h1
      intro ho
      rw [hone] at ho
      exact ho.2.1 h1
    rintro z w4 ⟨rfl, b, rfl, hb3⟩
    exact ⟨_, rfl, hk _ b m1.drew hb3⟩
  · have hs := of_decide_eq_false hs
    have hone : OneE l i e ↔ (e.kind = 3 → tOk e.link = true) := by
      unfold OneE
      constructor
      · rintro ⟨_, _, _, _, _, ⟨_, o⟩ | ⟨o, _⟩⟩
        · exact o
        · omega
      · intro o
        exact ⟨hA.1, hA.2.1, hA.2.2.2, hB.1, hB.2, .inl ⟨by omega, o⟩⟩
    refine ⟨_, l1 _ r1, cond_of (fun h1 => ?_) (fun h1 => ?_)⟩
    · rw [beq_int] at h1
      have h1 := of_decide_eq_true h1
      refine ⟨_, l2 _ r1, tSplit_c (by omega) hgw (fun hn w5 m5 => ⟨_, _, _, _, _, rfl, hk _ _ (m1.no m5) ?_⟩) (fun hy w5 a5 c5 m5 _ => ⟨_, _, _, _, _, rfl, hk _ _ (m1.no m5) ?_⟩)⟩
      · rw [hone]
        exact ⟨fun e => (by cases e), fun e => by have := e h1; rw [hn] at this; cases this⟩
      · rw [hone]
        exact ⟨fun _ _ => hy, fun _ => rfl⟩
    · rw [beq_int] at h1
      have h1 := of_decide_eq_false h1
      exact hk _ _ m1 (by rw [hone]; exact ⟨fun _ e => absurd e h1, fun _ => rfl⟩)
end
end Go.Proofs.YtiahkkekcmgkfaaDoor
end
section
/- Can entries be a tree's, as the program tells it: walked. -/
open Go Go.Den Go.Proofs
namespace Go.Den
/-- The directories among the first entries. -/
def dirsTo (l : List Tn) (n : Nat) : List Bs := ((l.take n).filter fun e => decide (e.kind = 2)).map (·.path)
theorem inDir_iff {l : List Tn} {n : Nat} {d : Bs} : InDir l n d ↔ d ∈ dirsTo l n := by
  unfold InDir dirsTo
  rw [List.mem_map]
  constructor
  · rintro ⟨k, q, hk, hq, rfl, h2⟩
    refine ⟨q, List.mem_filter.2 ⟨List.mem_iff_getElem?.2 ⟨k, by rw [List.getElem?_take, if_pos hk]; exact hq⟩, decide_eq_true h2⟩, rfl⟩
  · rintro ⟨q, hq, rfl⟩
    obtain ⟨h1, h2⟩ := List.mem_filter.1 hq
    obtain ⟨k, hk⟩ := List.mem_iff_getElem?.1 h1
    have hkn : k < n := by
      have := (List.getElem?_eq_some_iff.1 hk).1
      rw [List.length_take] at this; omega
    rw [List.getElem?_take, if_pos hkn] at hk
    exact ⟨k, q, hkn, hk, rfl, of_decide_eq_true h2⟩
theorem dirsTo_succ {l : List Tn} {n : Nat} {e : Tn} (h : l[n]? = some e) : dirsTo l (n + 1) = dirsTo l n ++ (if e.kind = 2 then [e.path] else []) := by
  obtain ⟨hi, he⟩ := List.getElem?_eq_some_iff.1 h
  unfold dirsTo
  rw [List.take_succ_eq_append_getElem hi, List.filter_append, List.map_append, he]
  congr 1
  by_cases h2 : e.kind = 2
  · rw [if_pos h2]; simp [h2]
  · rw [if_neg h2]; simp [h2]
theorem RightTo.succ {l : List Tn} {n : Nat} (h : RightTo l n) (ho : OkAt l n) : RightTo l (n + 1) := ⟨h.1, fun j h1 h2 => by
  by_cases e : j = n
  · subst e; exact ho
  · exact h.2 j h1 (by omega)⟩
theorem cutA_zero {b o : Nat} {c k : Nat} : cutA (some ⟨b, o, none⟩) c 0 k = some ⟨b, o, none⟩ := by
  unfold cutA
  split
  · rfl
  · simp [add_none]
end Go.Den
namespace Go.Proofs.YtiahkkekcmgkfaaDoor
def zPE : List Value := [.string ByteArray.empty, .int .i64 0, .string ByteArray.empty, .slice none 0 0, .int .i64 0]
theorem alloc_pE (w : World) : (Instr.alloc 64 true (.tuple #[])).run Tryd.prog w = .ok (.pointer (some ⟨w.heap.size, 0, none⟩)) (w.alloc (.cells ⟨zPE⟩ 64)) := by kernel_rfl
theorem setZ_dirs : setZ Tryd.prog 88 = true := by kernel_rfl
section
variable {w : World} {K : Value → World → Prop}
/-- A copy of an entry. -/
theorem copy_pE {T : TypeId} {z : Tn × Option Addr × Nat} (hT : T = 64) : ∃ w1 w2, Ru (Instr.alloc T true (.tuple #[])) w (.pointer (some ⟨w.heap.size, 0, none⟩)) w1 ∧ RuU (Instr.storeAt T (.pointer (some ⟨w.heap.size, 0, none⟩)) (.agg ⟨pV z⟩)) w1 w2 ∧ At w2 w.heap.size 0 (pV z) ∧ Mod No w w2 := by
  subst hT
  exact ⟨_, _, alloc_pE w, store_new (T := 64) (n := 5) agg_pE rfl rfl (one_pV z), AtU.new.at, (Mod.refl No w).alloc _⟩
theorem dRight_c {a : Option Addr} {l : List Tn} {c : Nat} (hP : PE w a l) (hbd : BdE l) (hn : l.length ≤ 1000) (hc : l.length ≤ c) (hg : Gl w)
    (hk : ∀ w' b, Mod No w w' → (b = true ↔ RightL l) → K (.bool b) w') : Cal Tryd.prog F_dump_Right #[.slice a l.length c] w K := by
  apply C_dump_Right
  unfold D_dump_Right
  refine cond_of (fun h => ?_) (fun h => ?_)
  · rw [beq_int] at h
    have h := of_decide_eq_true h
    have h0 : l = [] := List.eq_nil_of_length_eq_zero (by omega)
    subst h0
    refine hk _ _ (Mod.refl _ _) ⟨fun e => (by cases e), fun e => ?_⟩
    obtain ⟨e0, h1, _⟩ := e.1
    simp at h1
  rw [beq_int] at h
  have h := of_decide_eq_false h
  have hpos : 0 < l.length := by omega
  have h0 : l[0]? = some l[0] := List.getElem?_eq_getElem hpos
  generalize l[0] = e0 at h0
  obtain ⟨w2, s1, s2, s3, s4⟩ := addSet_run (P := Tryd.prog) (k := []) setZ_dirs (SetAt.new (w := w)) (by simp)
  have m2 : Mod No w w2 := ((Mod.refl No w).alloc (.map #[] 0)).trans s3 fun x hx e => by subst e; omega
  refine ⟨_, _, makeMap_run, w2, s1, ?_⟩
  obtain ⟨g, o, hd, rfl, ix, lq, la, _, _⟩ := PE.at (hP.nos m2) h0
  have ix0 := ix l.length c hpos
  obtain ⟨w3, w4, c1, c2, hat, m4⟩ := copy_pE (w := w2) (z := (e0, hd)) (T := 64) rfl
  refine ⟨_, ix0, _, la _ (Mod.refl _ _), _, w3, c1, w4, c2, ?_⟩
  have M4 := m2.no m4
  have ld : ∀ (j : Nat) (T : TypeId) (v : Value), scal Tryd.prog T = true → (pV (e0, hd))[j]? = some v → ∀ w', Mod No w4 w' → Ru (Instr.loadAt T (.pointer (some (Addr.add ⟨w2.heap.size, 0, none⟩ j)))) w' v w' := fun j T v hT hj w' m => by
    rw [add_none]; exact (hat.keep m id).load hT hj
  have r4 := Mod.refl No w4
  have hb0 := hbd e0 (List.mem_of_getElem? h0)
  have hH : Head0 l ↔ e0.path = [] ∧ e0.kind = 2 ∧ OneE l 0 e0 := by
    unfold Head0 OneE
    rw [h0]
    constructor
    · rintro ⟨e, he, h1, h2, h3, h4, h5⟩
      cases he
      exact ⟨h1, h2, by omega, by omega, by rw [h4]; simp, fun _ => h4, fun _ => h3, .inl ⟨h5, fun h => by omega⟩⟩
    · rintro ⟨h1, h2, _, _, _, h3, h4, h5 | h5⟩
      · exact ⟨e0, rfl, h1, h2, h4 (by omega), h3 (by omega), h5.1⟩
      · omega
  refine Share.cut (fun z w6 => Mod No w4 w6 ∧ ∃ b, z = [.bool b] ∧ (b = true ↔ ¬ Head0 l)) ⟨_, ld 0 9 (.string (sB e0.path)) (by kernel_rfl) rfl _ r4, ?_⟩ ?_
  · rw [beq_empty]
    refine cond_of (fun h1 => ⟨r4, vyes ?_⟩) (fun h1 => ⟨_, ld 1 3 (.int .i64 e0.kind) (by kernel_rfl) rfl _ r4, cond_of (fun h2 => ⟨r4, vyes ?_⟩) (fun h2 => ?_)⟩)
    · rw [hH]
      have h1 : e0.path ≠ [] := by simpa using h1
      exact fun e => h1 e.1
    · rw [hH]
      have h2 : e0.kind ≠ 2 := by simpa using h2
      exact fun e => h2 e.2.1
    · have h1 : e0.path = [] := by simpa using h1
      have h2 : e0.kind = 2 := by simpa using h2
      have hla := hat.loadAgg (P := Tryd.prog) (T := 64) (i := 0) agg_pE (by simp [pV])
      refine ⟨⟨pV (e0, hd)⟩, hla, ?_⟩
      refine plain_c (e := e0) (hd := hd) (l := l) (i := 0) (by omega) (fun h => by omega) hb0.2.1 (hg.nos M4) fun w5 b m5 hb => ⟨_, rfl, m5, viff ?_⟩
      rw [hH, ← hb]
      cases b <;> simp [h1, h2]
  rintro z w6 ⟨m6, b, rfl, hb⟩
  have M6 := M4.no m6
  refine ⟨_, rfl, cond_of (fun h1 => ?_) (fun h1 => ?_)⟩
  · exact hk _ _ M6 ⟨fun e => (by cases e), fun e => absurd e.1 (hb.1 h1)⟩
  have hH0 : Head0 l := Classical.not_not.1 fun hn => by
    have := hb.2 hn; rw [h1] at this; cases this
  have hd0 : dirsTo l 1 = [[]] := by
    obtain ⟨e', h2, h3, h4, _⟩ := hH0
    rw [h0] at h2; cases h2
    rw [dirsTo_succ h0, if_pos h4, h3]; rfl
  have hset : SetAt w6 w.heap.size [[]] := (s2.nos m4).nos m6
  clear ld hat lq la ix ix0 c1 c2 s1 s2 s3 s4
  refine ⟨fun z w7 => ∃ (n : Nat) (y : Value), 1 ≤ n ∧ n ≤ l.length ∧ z = [.int .i64 n, y] ∧ Mod No w w7 ∧ RightTo l n ∧ SetAt w7 w.heap.size (dirsTo l n), fun z _ => (l.length - nI z 0).toNat,
    ⟨1, _, Nat.le_refl _, hpos, rfl, M6, ⟨hH0, fun j h1 h2 => by omega⟩, by rw [hd0]; exact hset⟩, ?_⟩
  rintro z w7 ⟨n, y, hn1, hnl, rfl, M7, hR, hS⟩
  refine ⟨_, rfl, cond_of (fun h2 => ?_) (fun h2 => ?_)⟩
  · have h2 := of_decide_eq_true h2
    have hnx : n < l.length := by omega
    have he : l[n]? = some l[n] := List.getElem?_eq_getElem hnx
    have hp : l[n - 1]? = some l[n - 1] := List.getElem?_eq_getElem (by omega)
    generalize l[n] = e at he
    generalize l[n - 1] = p at hp
    have hPw := hP.nos M7
    obtain ⟨g1, o1, hd1, hga, ix, lq, la, _, _⟩ := PE.at hPw he
    cases hga
    obtain ⟨w8, w9, c1, c2, hat, m9⟩ := copy_pE (w := w7) (z := (e, hd1)) (T := 64) rfl
    have ld : ∀ (j : Nat) (T : TypeId) (v : Value), scal Tryd.prog T = true → (pV (e, hd1))[j]? = some v → ∀ w', Mod No w9 w' → Ru (Instr.loadAt T (.pointer (some (Addr.add ⟨w7.heap.size, 0, none⟩ j)))) w' v w' := fun j T v hT hj w' m => by
      rw [add_none]; exact (hat.keep m id).load hT hj
    have r9 := Mod.refl No w9
    have hbe := hbd e (List.mem_of_getElem? he)
    have l0 := ld 0 9 (.string (sB e.path)) (by kernel_rfl) rfl
    have l1 := ld 1 3 (.int .i64 e.kind) (by kernel_rfl) rfl
    have M9 := M7.no m9
    refine ⟨_, ix l.length c hnx, _, la _ (Mod.refl _ _), _, w8, c1, w9, c2, _, l0 _ r9, ?_⟩
    have key : ∀ (w10 : World) (ok : Bool) (d nm : Bs), Mod No w9 w10 → (ok = true → Cut e.path d nm) → (ok = false → (47 : UInt8) ∉ e.path) →
        ∃ s44a : ByteArray, ∃ s44b : ByteArray, ∃ b44c : Bool, (Value.tuple #[.string (sB d), .string (sB nm), .bool ok]) = .tuple #[.string s44a, .string s44b, .bool b44c] ∧ (s44a = sB d ∧ s44b = sB nm ∧ b44c = ok) := fun w10 ok d nm _ _ _ => ⟨_, _, _, rfl, rfl, rfl, rfl⟩
    clear key
    have main : ∀ (w10 : World) (ok : Bool) (d nm : Bs), Mod No w9 w10 → (ok = true → Cut e.path d nm) → (ok = false → (47 : UInt8) ∉ e.path) →
        Share (fun k_3 => (bif !ok then k_3 [.bool true] (Go.Den.drew w10) else ∃ b53 : Bool, Ru (Instr.lookup 88 (.map (some w.heap.size)) (.string (sB d)) false) (Go.Den.drew w10) (.bool b53) (Go.Den.drew w10) ∧ (bif !b53 then k_3 [.bool true] (Go.Den.drew w10) else Cal Tryd.prog F_dirent_Name #[.string (sB nm)] (Go.Den.drew w10) fun r58 w11 => ∃ b58 : Bool, r58 = .bool b58 ∧ (bif !b58 then k_3 [.bool true] w11 else ∃ q65 : Addr, Al (Instr.indexAt 28 (.slice (some ⟨g, o, none⟩) l.length c) (.int .i64 (IntKind.i64.wrap ((n : Int) - 1)))) (.pointer (some q65)) ∧ ∃ s67 : ByteArray, Ru (Instr.loadAt 9 (.pointer (some (Addr.add q65 0)))) w11 (.string s67) w11 ∧ ∃ s69 : ByteArray, Ru (Instr.loadAt 9 (.pointer (some (Addr.add ⟨w7.heap.size, 0, none⟩ 0)))) w11 (.string s69) w11 ∧ Cal Tryd.prog F_dump_ahead #[.string s67, .string s69] w11 fun r70 w12 => ∃ b70 : Bool, r70 = .bool b70 ∧ (bif !b70 then k_3 [.bool true] w12 else ∃ g74 : Array Value, Ru (Instr.loadAt 64 (.pointer (some ⟨w7.heap.size, 0, none⟩))) w12 (.agg g74) w12 ∧ ∃ (a77 : Option Addr) (l77 c77 : Nat), Al (Instr.sliceAt 28 (.slice (some ⟨g, o, none⟩) l.length c) none (some (.int .i64 n)) none) (.slice a77 l77 c77) ∧ Cal Tryd.prog F_dump_Entry_plain #[.agg g74, .slice a77 l77 c77] w12 fun r78 w13 => ∃ b78 : Bool, r78 = .bool b78 ∧ k_3 [.bool (!b78)] w13)))))
        (fun x_3 w14 => ∃ b80 : Bool, nth x_3 0 = .bool b80 ∧ (bif b80 then K (.bool false) w14 else ∃ n82 : Int, Ru (Instr.loadAt 3 (.pointer (some (Addr.add ⟨w7.heap.size, 0, none⟩ 1)))) w14 (.int .i64 n82) w14 ∧ Share (fun k_4 => (bif n82 == 2 then ∃ s86 : ByteArray, Ru (Instr.loadAt 9 (.pointer (some (Addr.add ⟨w7.heap.size, 0, none⟩ 0)))) w14 (.string s86) w14 ∧ ∃ w15 : World, RuU (Instr.mapUpdate 88 (.map (some w.heap.size)) (.string s86) (.bool true)) w14 w15 ∧ k_4 [] w15 else k_4 [] w14)) fun x_4 w16 =>
          ((∃ (n' : Nat) (y : Value), 1 ≤ n' ∧ n' ≤ l.length ∧ [Value.int .i64 (IntKind.i64.wrap ((n : Int) + 1)), .bool b80] = [.int .i64 n', y] ∧ Mod No w w16 ∧ RightTo l n' ∧ SetAt w16 w.heap.size (dirsTo l n')) ∧ (l.length - nI [Value.int .i64 (IntKind.i64.wrap ((n : Int) + 1)), .bool b80] 0).toNat < (l.length - nI [Value.int .i64 n, y] 0).toNat))) := by
      intro w10 ok d nm m10 hcut hno
      have rd : Mod No w9 (Go.Den.drew w10) := m10.drew
      have hokat : ∀ {d' n' : Bs}, Cut e.path d' n' → (OkAt l n ↔ InDir l n d' ∧ nameB n' = true ∧ ordP p.path e.path < 0 ∧ OneE l n e) := by
        intro d' n' hc'
        unfold OkAt
        constructor
        · rintro ⟨p', e', h3, h4, ⟨d2, n2, h5, h6, h7⟩, h8, h9⟩
          rw [hp] at h3; cases h3
          rw [he] at h4; cases h4
          obtain ⟨rfl, rfl⟩ := hc'.inj h5
          exact ⟨h6, h7, h8, h9⟩
        · rintro ⟨h6, h7, h8, h9⟩
          exact ⟨p, e, hp, he, ⟨d', n', hc', h6, h7⟩, h8, h9⟩
      refine Share.cut (fun z w14 => Mod No w9 w14 ∧ ∃ b, z = [.bool b] ∧ (b = true ↔ ¬ OkAt l n)) (cond_of (fun h3 => ⟨rd, vyes ?_⟩) (fun h3 => ?_)) ?_
      · have h3 : ok = false := by simpa using h3
        rintro ⟨p', e', _, h4, ⟨d2, n2, h5, _⟩, _⟩
        rw [he] at h4; cases h4
        exact hno h3 (by rw [h5.1]; simp)
      · have h3 : ok = true := by simpa using h3
        have hc1 := hcut h3
        have hon := hokat hc1
        have hSd : SetAt (Go.Den.drew w10) w.heap.size (dirsTo l n) := hS.nos (m9.no rd)
        refine ⟨_, inSet_run setZ_dirs hSd, cond_of (fun h4 => ⟨rd, vyes ?_⟩) (fun h4 => ?_)⟩
        · have h4 : d ∉ dirsTo l n := by simpa using h4
          rw [hon]
          exact fun h => h4 (inDir_iff.1 h.1)
        have h4 : d ∈ dirsTo l n := by simpa using h4
        have hin := inDir_iff.2 h4
        have hdl : d.length ≤ 25 * n := by
          obtain ⟨k, q, hk, hq, hqd, _⟩ := hin
          have := (RightTo.path hR hk hq).2
          rw [hqd] at this; omega
        have hplen : p.path.length ≤ 25 * n := by
          have := (RightTo.path hR (by omega) hp).2; omega
        have hnml : nm.length ≤ 140737488355328 := by
          have := congrArg List.length hc1.1
          simp at this; omega
        refine dName_c (by omega) fun w11 m11 => ⟨_, rfl, cond_of (fun h5 => ⟨rd.no m11, vyes ?_⟩) (fun h5 => ?_)⟩
        · have h5 : nameB nm = false := by simpa using h5
          rw [hon, h5]
          exact fun h => by cases h.2.1
        have h5 : nameB nm = true := by simpa using h5
        have hnl2 := nameB_len h5
        have helen : e.path.length ≤ 25 * n + 25 := by rw [hc1.1]; simp; omega
        have M11 := rd.no m11
        obtain ⟨g2, o2, hd2, hga2, ix2, lq2, _, _, _⟩ := PE.at (hPw.nos (m9.no M11)) hp
        cases hga2
        have ix3 := ix2 l.length c (by omega)
        rw [show ((n - 1 : Nat) : Int) = (n : Int) - 1 by omega] at ix3
        rw [wrap64 (by omega) (by omega)]
        refine ⟨_, ix3, _, lq2 0 9 (.string (sB p.path)) (by kernel_rfl) rfl _ (Mod.refl _ _), _, l0 _ M11, ahead_c (by omega) (by omega) ((hg.nos M9).nos M11) fun w12 m12 => ⟨_, rfl, cond_of (fun h6 => ⟨M11.no m12, vyes ?_⟩) (fun h6 => ?_)⟩⟩
        · have h6 : ¬ ordP p.path e.path < 0 := by simpa using h6
          rw [hon]
          exact fun h => h6 h.2.2.1
        have h6 : ordP p.path e.path < 0 := by simpa using h6
        have M12 := M11.no m12
        have hla2 := (hat.keep M12 id).loadAgg (P := Tryd.prog) (T := 64) (i := 0) agg_pE (by simp [pV])
        have hsl := fun w => slice_h (P := Tryd.prog) (T := 28) (k := 5) (n := l.length) (c := c) (a := some ⟨g, o, none⟩) (k2 := .i64) (h := (n : Int)) (by kernel_rfl) (by omega) (by omega) w
        rw [cutA_zero, Int.toNat_natCast] at hsl
        refine ⟨⟨pV (e, hd1)⟩, hla2, _, _, _, hsl, plain_c (e := e) (hd := hd1) (l := l) (i := n) (by omega) (fun _ => hPw.nos (m9.no M12)) hbe.2.1 ((hg.nos M9).nos M12) fun w13 b m13 hb2 => ⟨_, rfl, M12.no m13, viff ?_⟩⟩
        rw [hon, ← hb2]
        cases b <;> simp [hin, h5, h6]
      rintro z w14 ⟨m14, b, rfl, hb2⟩
      refine ⟨_, rfl, cond_of (fun h3 => ?_) (fun h3 => ?_)⟩
      · exact hk _ _ (M9.no m14) ⟨fun e => (by cases e), fun hr => absurd (hr.2 n hn1 hnx) (hb2.1 h3)⟩
      have hok : OkAt l n := Classical.not_not.1 fun hn => by
        have := hb2.2 hn; rw [h3] at this; cases this
      have hR1 := hR.succ hok
      have hds := dirsTo_succ he
      have hSd : SetAt w14 w.heap.size (dirsTo l n) := hS.nos (m9.no m14)
      refine ⟨_, l1 _ m14, Share.cut (fun z w16 => z = [] ∧ Mod No w w16 ∧ SetAt w16 w.heap.size (dirsTo l (n + 1))) (cond_of (fun h4 => ?_) (fun h4 => ?_)) ?_⟩
      · rw [beq_int] at h4
        have h4 := of_decide_eq_true h4
        rw [if_pos h4] at hds
        have hfresh : e.path ∉ dirsTo l n := fun hm => by
          obtain ⟨k, q, hk, hq, hqd, _⟩ := inDir_iff.2 hm
          have := RightTo.asc hR1 hk (by omega) hq he
          rw [hqd] at this; exact ord_irr _ this
        obtain ⟨w15, t1, t2, t3, _⟩ := addSet_run (P := Tryd.prog) (T := 88) (k := e.path) setZ_dirs hSd hfresh
        refine ⟨_, l0 _ m14, w15, t1, rfl, (M9.no m14).trans t3 fun x hx e => by subst e; omega, ?_⟩
        rw [hds]; exact t2
      · rw [beq_int] at h4
        have h4 := of_decide_eq_false h4
        rw [if_neg h4, List.append_nil] at hds
        rw [hds]
        exact ⟨rfl, M9.no m14, hSd⟩
      rintro z w16 ⟨rfl, m16, hS16⟩
      rw [wrap64 (by omega) (by omega)]
      exact ⟨⟨n + 1, _, by omega, by omega, rfl, m16, hR1, hS16⟩, by simp [nI, nth]; omega⟩
    refine parent_c (by omega) (fun hno => ⟨_, _, _, rfl, main w9 false [] [] r9 (fun h => by cases h) (fun _ => hno)⟩) (fun w10 d nm m10 hc1 => ⟨_, _, _, rfl, main w10 true d nm m10 (fun _ => hc1) (fun h => by cases h)⟩)
  · have h2 := of_decide_eq_false h2
    have hnl2 : n = l.length := by omega
    subst hnl2
    exact hk _ _ M7 ⟨fun _ => hR, fun _ => rfl⟩
end
end Go.Proofs.YtiahkkekcmgkfaaDoor
end
section
/- == and != between structs of numbers, texts and truth values; rows of cells, so many an element. -/
open Go Go.Den
namespace Go.Den
theorem flatK_len {k : Nat} : ∀ {L : List (List Value)}, (∀ c ∈ L, c.length = k) → L.flatten.length = L.length * k
  | [], _ => by simp
  | x :: r, h => by
    rw [List.flatten_cons, List.length_append, h x (by simp), flatK_len (fun c hc => h c (List.mem_cons_of_mem _ hc)), List.length_cons, Nat.add_mul]; omega
theorem flatK_get {k : Nat} : ∀ {L : List (List Value)}, (∀ c ∈ L, c.length = k) → ∀ {i : Nat} {c : List Value}, L[i]? = some c → (L.flatten.drop (i * k)).take k = c
  | [], _, i, c, e => by simp at e
  | x :: r, h, 0, c, e => by
    simp at e; subst e
    have := h x (by simp)
    rw [List.flatten_cons, Nat.zero_mul, List.drop_zero, List.take_append_of_le_length (by omega), List.take_of_length_le (by omega)]
  | x :: r, h, i + 1, c, e => by
    have hx := h x (by simp)
    rw [List.flatten_cons, show (i + 1) * k = x.length + i * k by rw [Nat.add_mul]; omega, List.drop_append, List.drop_eq_nil_of_le (by omega), List.nil_append, show x.length + i * k - x.length = i * k by omega]
    exact flatK_get (fun c hc => h c (List.mem_cons_of_mem _ hc)) (by simpa using e)
theorem flatK_cell {k : Nat} {L : List (List Value)} (h : ∀ c ∈ L, c.length = k) {i j : Nat} {c : List Value} {v : Value} (hc : L[i]? = some c) (hj : c[j]? = some v) : L.flatten[i * k + j]? = some v := by
  have hj5 : j < k := by
    have h1 := (List.getElem?_eq_some_iff.1 hj).1
    have h2 := h c (List.mem_of_getElem? hc)
    omega
  rw [← flatK_get h hc, List.getElem?_take, if_pos hj5, List.getElem?_drop] at hj
  exact hj
section
variable {P : Program} {w : World}
end
end Go.Den
end
section
/- Layer 34, the program: things, whether two entries are alike, two trees side by side. -/
open Go Go.Den Go.Proofs
namespace Go.Den
theorem thing_at {l : List Tn} {i : Nat} {e : Tn} (h : OneE l i e) (he : l[i]? = some e) : ∃ q, l[thingI l i]? = some q ∧ thingI l i ≤ i := by
  obtain ⟨q, h1, _, h2, _⟩ := h.thing he
  exact ⟨q, h1, h2⟩
theorem put_under {w : World} {o o1 o2 : Obj} : put ((w.alloc o).alloc o2) w.heap.size o1 = (w.alloc o1).alloc o2 := by
  unfold put World.alloc
  congr 1
  apply Array.ext'
  rw [Array.toList_setIfInBounds, Array.toList_push, Array.toList_push, Array.toList_push, Array.toList_push, List.append_assoc, List.append_assoc, List.set_append_right _ _ (by simp)]
  simp
end Go.Den
namespace Go.Proofs.YtiahkkekcmgkfaaDoor
section
variable {w : World} {K : Value → World → Prop}
theorem thing_c {a : Option Addr} {l : List Tn} {i c : Nat} {e : Tn} (hP : PE w a l) (he : l[i]? = some e) (hk : K (.int .i64 (thingI l i)) w) : Cal Tryd.prog F_diff_thing #[.slice a l.length c, .int .i64 i] w K := by
  apply C_diff_thing
  unfold D_diff_thing
  have hil := (List.getElem?_eq_some_iff.1 he).1
  obtain ⟨g, o, hd, rfl, ix, lq, _⟩ := PE.at hP he
  have ix := ix l.length c hil
  have l4 := lq 4 3 (.int .i64 e.same) (by kernel_rfl) rfl _ (Mod.refl _ _)
  have ht : thingI l i = if 0 ≤ e.same then e.same.toNat else i := by unfold thingI; rw [he]
  rw [ht] at hk
  refine ⟨_, ix, _, l4, cond_of (fun h => ?_) (fun h => ?_)⟩
  · have h := of_decide_eq_true h
    rw [if_pos h, Int.toNat_of_nonneg h] at hk
    exact ⟨_, ix, _, l4, hk⟩
  · have h := of_decide_eq_false h
    rw [if_neg h] at hk
    exact hk
theorem EqualB_c {a0 a1 : Option Addr} {c0 c1 : Nat} {x y : Bs} (h0 : Row w a0 (u8L x)) (h1 : Row w a1 (u8L y)) (hx : x.length ≤ 140737488355328)
    (hk : ∀ w', Mod No w w' → K (.bool (decide (x = y))) w') : Cal Tryd.prog F_slices_Equal_byte #[.slice a0 x.length c0, .slice a1 y.length c1] w K := by
  apply C_slices_Equal_byte
  unfold D_slices_Equal_byte
  rw [bne_int]
  refine cond_of (fun h => ?_) (fun h => ?_)
  · have h := of_decide_eq_true h
    have : x ≠ y := fun e => h (by rw [e])
    rw [decide_eq_false this] at hk
    exact hk _ (Mod.refl _ _)
  have h : (x.length : Int) = (y.length : Int) := by simpa using h
  have hxy : x.length = y.length := by omega
  refine ⟨fun z w1 => Mod No w w1 ∧ ∃ n : Nat, n ≤ x.length ∧ z = [.int .i64 n] ∧ x.take n = y.take n, fun z _ => (x.length - nI z 0).toNat, ⟨Mod.refl _ _, 0, Nat.zero_le _, rfl, rfl⟩, ?_⟩
  rintro z w1 ⟨m1, n, hn, rfl, ht⟩
  refine ⟨_, rfl, cond_of (fun h => ?_) (fun h => ?_)⟩
  · have h := of_decide_eq_true h
    have hnx : n < x.length := by omega
    have hny : n < y.length := by omega
    obtain ⟨b0, o0, rfl, hat0⟩ := (h0.nos m1).resolve_left (by intro e; have := congrArg List.length e; simp [u8L] at this; rw [this] at hnx; simp at hnx)
    obtain ⟨b1, o1, rfl, hat1⟩ := (h1.nos m1).resolve_left (by intro e; have := congrArg List.length e; simp [u8L] at this; rw [this] at hny; simp at hny)
    refine ⟨_, index_slice (k := 1) (by kernel_rfl) (by omega) (by omega), ?_⟩
    rw [add_none, show (n : Int).toNat * 1 = n by omega]
    refine ⟨_, hat0.drew.load (by kernel_rfl) (u8L_get hnx), _, index_slice (k := 1) (by kernel_rfl) (by omega) (by omega), ?_⟩
    rw [add_none, show (n : Int).toNat * 1 = n by omega]
    refine ⟨_, hat1.drew.load (by kernel_rfl) (u8L_get hny), ?_⟩
    have hne : ((x[n].toNat : Int) != (y[n].toNat : Int)) = decide (x[n] ≠ y[n]) := by show (!((x[n].toNat : Int) == (y[n].toNat : Int))) = _; rw [beq_c, decide_not]
    rw [hne]
    refine cond_of (fun h2 => ?_) (fun h2 => ?_)
    · have h2 := of_decide_eq_true h2
      have : x ≠ y := fun e => h2 (by subst e; rfl)
      rw [decide_eq_false this] at hk
      exact hk _ m1.drew
    · have h2 : x[n] = y[n] := by simpa using h2
      rw [wrap64 (by omega) (by omega)]
      refine ⟨⟨m1.drew, n + 1, by omega, rfl, ?_⟩, by simp [nI, nth]; omega⟩
      rw [List.take_succ_eq_append_getElem hnx, List.take_succ_eq_append_getElem hny, ht, h2]
  · have h := of_decide_eq_false h
    have hnl : n = x.length := by omega
    have : x = y := by
      have e1 : x.take n = x := List.take_of_length_le (by omega)
      have e2 : y.take n = y := List.take_of_length_le (by omega)
      rw [← e1, ← e2]; exact ht
    rw [decide_eq_true this] at hk
    exact hk _ m1
def alT (x y : Tn) : Bool := decide (x.kind = y.kind) && decide (x.link = y.link) && decide (x.data = y.data)
theorem alike_leaf {W : World} {x y : Tn} {hx hy : Option Addr × Nat} {g9 g10 : Nat} (h9 : At W g9 0 (pV (x, hx))) (h10 : At W g10 0 (pV (y, hy))) (r1 : Row W hx.1 (u8L x.data)) (r2 : Row W hy.1 (u8L y.data)) (hb : x.data.length ≤ 140737488355328)
    (hk : ∀ w', Mod No W w' → K (.bool (alT x y)) w') :
    Share (fun k => ∃ n24 : Int, Ru (Instr.loadAt 3 (.pointer (some (Addr.add ⟨g9, 0, none⟩ 1)))) W (.int .i64 n24) W ∧ ∃ n26 : Int, Ru (Instr.loadAt 3 (.pointer (some (Addr.add ⟨g10, 0, none⟩ 1)))) W (.int .i64 n26) W ∧ (bif n24 == n26 then ∃ s30 : ByteArray, Ru (Instr.loadAt 9 (.pointer (some (Addr.add ⟨g9, 0, none⟩ 2)))) W (.string s30) W ∧ ∃ s32 : ByteArray, Ru (Instr.loadAt 9 (.pointer (some (Addr.add ⟨g10, 0, none⟩ 2)))) W (.string s32) W ∧ (bif (ByteArray.toList s30) == (ByteArray.toList s32) then ∃ (a37 : Option Addr) (l37 c37 : Nat), Ru (Instr.loadAt 62 (.pointer (some (Addr.add ⟨g9, 0, none⟩ 3)))) W (.slice a37 l37 c37) W ∧ ∃ (a39 : Option Addr) (l39 c39 : Nat), Ru (Instr.loadAt 62 (.pointer (some (Addr.add ⟨g10, 0, none⟩ 3)))) W (.slice a39 l39 c39) W ∧ Cal Tryd.prog F_slices_Equal_byte #[.slice a37 l37 c37, .slice a39 l39 c39] W fun r40 w7 => ∃ b40 : Bool, r40 = .bool b40 ∧ k [.bool b40] w7 else k [.bool false] W) else k [.bool false] W)) fun x w8 => ∃ b8 : Bool, nth x 0 = .bool b8 ∧ K (.bool b8) w8 := by
  have ld : ∀ {g : Nat} {z : Tn × Option Addr × Nat}, At W g 0 (pV z) → ∀ (j : Nat) (T : TypeId) (v : Value), scal Tryd.prog T = true → (pV z)[j]? = some v → Ru (Instr.loadAt T (.pointer (some (Addr.add ⟨g, 0, none⟩ j)))) W v W := fun hat j T v hT hj => by
    rw [add_none]; exact hat.load hT hj
  refine Share.cut (fun z w8 => Mod No W w8 ∧ z = [.bool (alT x y)]) ⟨_, ld h9 1 3 (.int .i64 x.kind) (by kernel_rfl) rfl, _, ld h10 1 3 (.int .i64 y.kind) (by kernel_rfl) rfl, ?_⟩ ?_
  · rw [beq_int]
    refine cond_of (fun h1 => ⟨_, ld h9 2 9 (.string (sB x.link)) (by kernel_rfl) rfl, _, ld h10 2 9 (.string (sB y.link)) (by kernel_rfl) rfl, ?_⟩) (fun h1 => ⟨Mod.refl _ _, ?_⟩)
    · rw [beq_sB]
      refine cond_of (fun h2 => ⟨_, _, _, ld h9 3 62 (.slice hx.1 x.data.length hx.2) (by kernel_rfl) rfl, _, _, _, ld h10 3 62 (.slice hy.1 y.data.length hy.2) (by kernel_rfl) rfl, EqualB_c r1 r2 hb fun w7 m7 => ⟨_, rfl, m7, ?_⟩⟩) (fun h2 => ⟨Mod.refl _ _, ?_⟩)
      · unfold alT; rw [h1, h2]; rfl
      · unfold alT; rw [h1, h2]; rfl
    · unfold alT; rw [h1]; rfl
  rintro z w8 ⟨m8, rfl⟩
  exact ⟨_, rfl, hk _ m8⟩
set_option maxRecDepth 100000 in
theorem alike_c {a b : Option Addr} {l m : List Tn} {i k c d : Nat} {e f : Tn} (hP : PE w a l) (hQ : PE w b m) (he : l[i]? = some e) (hf : m[k]? = some f) (ho : OneE l i e) (hp : OneE m k f) (hb : BdE l)
    (hk : ∀ w', Mod No w w' → K (.bool (alE l m i k)) w') : Cal Tryd.prog F_diff_alike #[.slice a l.length c, .int .i64 i, .slice b m.length d, .int .i64 k] w K := by
  obtain ⟨x, hx, hxi⟩ := thing_at ho he
  obtain ⟨y, hy, hyi⟩ := thing_at hp hf
  have hal : alE l m i k = alT x y := by unfold alE alT; rw [hx, hy]
  rw [hal] at hk
  have hil := (List.getElem?_eq_some_iff.1 he).1
  have hkl := (List.getElem?_eq_some_iff.1 hf).1
  have ht1 : ∀ {w' : World} {K : Value → World → Prop}, Mod No w w' → K (.int .i64 (thingI l i)) w' → Cal Tryd.prog F_diff_thing #[.slice a l.length c, .int .i64 i] w' K := fun m h => thing_c (hP.nos m) he h
  have ht2 : ∀ {w' : World} {K : Value → World → Prop}, Mod No w w' → K (.int .i64 (thingI m k)) w' → Cal Tryd.prog F_diff_thing #[.slice b m.length d, .int .i64 k] w' K := fun m h => thing_c (hQ.nos m) hf h
  obtain ⟨g1, o1, hd1, rfl, ix1, _, la1, r1, _⟩ := PE.at hP hx
  obtain ⟨g2, o2, hd2, rfl, ix2, _, la2, r2, _⟩ := PE.at hQ hy
  have ix1 := ix1 l.length c (by omega)
  have ix2 := ix2 m.length d (by omega)
  have hbx := (hb x (List.mem_of_getElem? hx)).2.2
  obtain ⟨W, hW⟩ : ∃ W, W = drew w := ⟨_, rfl⟩
  have hmW : Mod No w W := by rw [hW]; exact (Mod.refl No w).drew
  let Z : Obj := .cells ⟨zPE⟩ 64
  let X : Obj := .cells ⟨pV (x, hd1)⟩ 64
  let Y : Obj := .cells ⟨pV (y, hd2)⟩ 64
  have hs1 : ∀ o, (W.alloc o).heap.size = W.heap.size + 1 := fun o => World.size_alloc _ _
  have A1 : Ru (Instr.alloc 64 true (.tuple #[])) W (.pointer (some ⟨W.heap.size, 0, none⟩)) (W.alloc Z) := alloc_pE W
  have A2 : ∀ o, Ru (Instr.alloc 64 true (.tuple #[])) (W.alloc o) (.pointer (some ⟨W.heap.size + 1, 0, none⟩)) ((W.alloc o).alloc Z) := fun o => by
    have := alloc_pE (W.alloc o); rw [hs1] at this; exact this
  have S2 : ∀ (o : Obj) (z : Tn × Option Addr × Nat), RuU (Instr.storeAt 64 (.pointer (some ⟨W.heap.size + 1, 0, none⟩)) (.agg ⟨pV z⟩)) ((W.alloc o).alloc Z) ((W.alloc o).alloc (.cells ⟨pV z⟩ 64)) := fun o z => by
    have := store_new (P := Tryd.prog) (w := W.alloc o) (T := 64) (n := 5) (z := zPE) (l := pV z) (t := 64) agg_pE rfl rfl (one_pV z)
    rw [hs1] at this; exact this
  have S1 : ∀ (o : Obj) (z : Tn × Option Addr × Nat), RuU (Instr.storeAt 64 (.pointer (some ⟨W.heap.size, 0, none⟩)) (.agg ⟨pV z⟩)) ((W.alloc Z).alloc o) ((W.alloc (.cells ⟨pV z⟩ 64)).alloc o) := fun o z => by
    have hh : ((W.alloc Z).alloc o).heap[W.heap.size]? = some (.cells ⟨zPE⟩ 64 (0, 0)) := by rw [heap_old (by rw [hs1]; omega)]; exact heap_new W Z
    have := store_agg (P := Tryd.prog) (T := 64) (o := 0) (n := 5) (cs := pV z) agg_pE hh rfl (by simp [zPE]) (fun j h1 h2 => by simp) (one_pV z)
    unfold RuU
    rw [this]
    have e1 : splice zPE 0 (pV z) = pV z := by unfold splice; simp [zPE, pV]
    rw [e1]
    rw [put_under]
  have B1 : ∀ o o', At ((W.alloc (.cells ⟨o⟩ 64)).alloc o') W.heap.size 0 o := fun o o' => (AtU.new (w := W) (cs := o)).at.keep ((Mod.refl No _).alloc _) id
  have B2 : ∀ (o : Obj) o', At ((W.alloc o).alloc (.cells ⟨o'⟩ 64)) (W.heap.size + 1) 0 o' := fun o o' => by
    have := (AtU.new (w := W.alloc o) (cs := o') (t := 64)).at
    rw [hs1] at this; exact this
  have M0 : ∀ o o', Mod No w ((W.alloc o).alloc o') := fun o o' => (hmW.alloc o).alloc o'
  have L1 : Share (fun k => ∃ n24 : Int, Ru (Instr.loadAt 3 (.pointer (some (Addr.add ⟨W.heap.size, 0, none⟩ 1)))) ((W.alloc X).alloc Y) (.int .i64 n24) ((W.alloc X).alloc Y) ∧ ∃ n26 : Int, Ru (Instr.loadAt 3 (.pointer (some (Addr.add ⟨W.heap.size + 1, 0, none⟩ 1)))) ((W.alloc X).alloc Y) (.int .i64 n26) ((W.alloc X).alloc Y) ∧ _) _ := alike_leaf (K := K) (B1 _ _) (B2 _ _) (r1.nos (M0 _ _)) (r2.nos (M0 _ _)) hbx fun w' m' => hk w' ((M0 _ _).no m')
  have L2 : Share (fun k => ∃ n24 : Int, Ru (Instr.loadAt 3 (.pointer (some (Addr.add ⟨W.heap.size + 1, 0, none⟩ 1)))) ((W.alloc Y).alloc X) (.int .i64 n24) ((W.alloc Y).alloc X) ∧ ∃ n26 : Int, Ru (Instr.loadAt 3 (.pointer (some (Addr.add ⟨W.heap.size, 0, none⟩ 1)))) ((W.alloc Y).alloc X) (.int .i64 n26) ((W.alloc Y).alloc X) ∧ _) _ := alike_leaf (K := K) (B2 _ _) (B1 _ _) (r1.nos (M0 _ _)) (r2.nos (M0 _ _)) hbx fun w' m' => hk w' ((M0 _ _).no m')
  apply C_diff_alike
  unfold D_diff_alike
  rw [← hW]
  exact ⟨ht1 hmW ⟨_, rfl, _, ix1, _, la1 _ hmW, ⟨ht2 hmW ⟨_, rfl, la1 _ hmW, _, ix2, _, la2 _ hmW, ⟨⟨_, _, A1, la1 _ (hmW.alloc _), la2 _ (hmW.alloc _), _, _, A2 _, la1 _ (M0 _ _), la2 _ (M0 _ _), _, S1 _ (x, hd1), la2 _ (M0 _ _), _, S2 _ (y, hd2), L1⟩,
 ⟨_, _, A1, la1 _ (hmW.alloc _), la2 _ (hmW.alloc _), _, _, A2 _, la1 _ (M0 _ _), la2 _ (M0 _ _), _, S2 _ (x, hd1), la2 _ (M0 _ _), _, S1 _ (y, hd2), L2⟩⟩⟩,
 ⟨⟨_, _, A1, la1 _ (hmW.alloc _), ⟨ht2 (hmW.alloc _) ⟨_, rfl, la1 _ (hmW.alloc _), _, ix2, _, la2 _ (hmW.alloc _), _, _, A2 _, la1 _ (M0 _ _), la2 _ (M0 _ _), _, S1 _ (x, hd1), la2 _ (M0 _ _), _, S2 _ (y, hd2), L1⟩,
 ⟨_, _, A2 _, la1 _ (M0 _ _), ht2 (M0 _ _) ⟨_, rfl, la1 _ (M0 _ _), _, ix2, _, la2 _ (M0 _ _), _, S1 _ (x, hd1), la2 _ (M0 _ _), _, S2 _ (y, hd2), L1⟩⟩⟩⟩,
 ⟨_, _, A1, la1 _ (hmW.alloc _), ⟨ht2 (hmW.alloc _) ⟨_, rfl, la1 _ (hmW.alloc _), _, ix2, _, la2 _ (hmW.alloc _), _, _, A2 _, la1 _ (M0 _ _), la2 _ (M0 _ _), _, S2 _ (x, hd1), la2 _ (M0 _ _), _, S1 _ (y, hd2), L2⟩,
 ⟨_, _, A2 _, la1 _ (M0 _ _), ht2 (M0 _ _) ⟨_, rfl, la1 _ (M0 _ _), _, ix2, _, la2 _ (M0 _ _), _, S2 _ (x, hd1), la2 _ (M0 _ _), _, S1 _ (y, hd2), L2⟩⟩⟩⟩⟩⟩⟩,
 ⟨⟨_, _, A1, ⟨ht1 (hmW.alloc _) ⟨_, rfl, _, ix1, _, la1 _ (hmW.alloc _), ⟨ht2 (hmW.alloc _) ⟨_, rfl, la1 _ (hmW.alloc _), _, ix2, _, la2 _ (hmW.alloc _), _, _, A2 _, la1 _ (M0 _ _), la2 _ (M0 _ _), _, S1 _ (x, hd1), la2 _ (M0 _ _), _, S2 _ (y, hd2), L1⟩,
 ⟨_, _, A2 _, la1 _ (M0 _ _), ht2 (M0 _ _) ⟨_, rfl, la1 _ (M0 _ _), _, ix2, _, la2 _ (M0 _ _), _, S1 _ (x, hd1), la2 _ (M0 _ _), _, S2 _ (y, hd2), L1⟩⟩⟩⟩,
 ⟨_, _, A2 _, ht1 (M0 _ _) ⟨_, rfl, _, ix1, _, la1 _ (M0 _ _), ht2 (M0 _ _) ⟨_, rfl, la1 _ (M0 _ _), _, ix2, _, la2 _ (M0 _ _), _, S1 _ (x, hd1), la2 _ (M0 _ _), _, S2 _ (y, hd2), L1⟩⟩⟩⟩⟩,
 ⟨_, _, A1, ⟨ht1 (hmW.alloc _) ⟨_, rfl, _, ix1, _, la1 _ (hmW.alloc _), ⟨ht2 (hmW.alloc _) ⟨_, rfl, la1 _ (hmW.alloc _), _, ix2, _, la2 _ (hmW.alloc _), _, _, A2 _, la1 _ (M0 _ _), la2 _ (M0 _ _), _, S2 _ (x, hd1), la2 _ (M0 _ _), _, S1 _ (y, hd2), L2⟩,
 ⟨_, _, A2 _, la1 _ (M0 _ _), ht2 (M0 _ _) ⟨_, rfl, la1 _ (M0 _ _), _, ix2, _, la2 _ (M0 _ _), _, S2 _ (x, hd1), la2 _ (M0 _ _), _, S1 _ (y, hd2), L2⟩⟩⟩⟩,
 ⟨_, _, A2 _, ht1 (M0 _ _) ⟨_, rfl, _, ix1, _, la1 _ (M0 _ _), ht2 (M0 _ _) ⟨_, rfl, la1 _ (M0 _ _), _, ix2, _, la2 _ (M0 _ _), _, S2 _ (x, hd1), la2 _ (M0 _ _), _, S1 _ (y, hd2), L2⟩⟩⟩⟩⟩⟩⟩
end
end Go.Proofs.YtiahkkekcmgkfaaDoor
end
section
/- Layer 34, the program: all changes from a tree to another one. -/
open Go Go.Den Go.Proofs
namespace Go.Den
def chgV (c : Chg) : List Value := [.int .i64 c.1, .string (sB c.2)]
theorem chgV_all (l : List Chg) : ∀ c ∈ l.map chgV, c.length = 2 := by
  intro c hc
  obtain ⟨z, _, rfl⟩ := List.mem_map.1 hc
  rfl
def chgL (l : List Chg) : List Value := (l.map chgV).flatten
theorem chgL_len (l : List Chg) : (chgL l).length = l.length * 2 := by
  unfold chgL; rw [flatK_len (chgV_all l), List.length_map]
theorem chgL_snoc (l : List Chg) (c : Chg) : chgL (l ++ [c]) = chgL l ++ chgV c := by simp [chgL]
theorem one_chgV (z : Chg) : ∀ v ∈ chgV z, v.oneCell' = true := by
  intro v hv
  simp [chgV] at hv
  rcases hv with rfl | rfl <;> rfl
/-- Changes in memory. -/
def CE (w : World) (a : Option Addr) (l : List Chg) : Prop := Row w a (chgL l)
theorem CE.nos {w w' : World} {a : Option Addr} {l : List Chg} (h : CE w a l) (m : Mod No w w') : CE w' a l := Row.nos h m
end Go.Den
namespace Go.Proofs.YtiahkkekcmgkfaaDoor
theorem elemG_chg : elemG Tryd.prog 24 2 24 := elemG_of (by kernel_rfl)
theorem build_chg (n : Int) (s : ByteArray) : Al (Instr.build 36 #[(0, .int .i64 n), (1, .string s)]) (.agg ⟨[.int .i64 n, .string s]⟩) := fun w => by kernel_rfl
theorem built_chg (w : World) (x y : Value) : (Instr.buildSlice 24 1 #[(0, .agg ⟨[x, y]⟩)]).run Tryd.prog w = .ok (.slice (some ⟨w.heap.size, 0, none⟩) 1 1) (w.alloc (.cells ⟨[x, y]⟩ 36)) := by kernel_rfl
section
variable {w : World} {K : Value → World → Prop}
/-- Two trees side by side: a step for each path. -/
theorem sides_c {a b : Option Addr} {A B : List Tn} {c d : Nat} {v : Value} {J : Nat → Nat → World → Prop} (hn : A.length ≤ 1000) (hm : B.length ≤ 1000)
    (hsA : ∀ e ∈ A, e.path.length < 4294967281) (hsB : ∀ e ∈ B, e.path.length < 4294967281) (hJ0 : J 0 0 w) (hJp : ∀ i k w', J i k w' → PE w' a A ∧ PE w' b B ∧ Gl w') (hJn : ∀ i k w' w'', J i k w' → Mod No w' w'' → J i k w'')
    (h1 : ∀ i k w' x, J i k w' → A[i]? = some x → (∀ y, B[k]? = some y → ordP x.path y.path < 0) → ∀ K : Value → World → Prop, (∀ w'', J (i + 1) k w'' → K (.tuple #[]) w'') → Dyn Tryd.prog v #[.int .i64 i, .int .i64 (-1)] w' K)
    (h2 : ∀ i k w' y, J i k w' → B[k]? = some y → (∀ x, A[i]? = some x → ordP y.path x.path < 0) → ∀ K : Value → World → Prop, (∀ w'', J i (k + 1) w'' → K (.tuple #[]) w'') → Dyn Tryd.prog v #[.int .i64 (-1), .int .i64 k] w' K)
    (h3 : ∀ i k w' x y, J i k w' → A[i]? = some x → B[k]? = some y → x.path = y.path → ∀ K : Value → World → Prop, (∀ w'', J (i + 1) (k + 1) w'' → K (.tuple #[]) w'') → Dyn Tryd.prog v #[.int .i64 i, .int .i64 k] w' K)
    (hk : ∀ w', J A.length B.length w' → K (.tuple #[]) w') : Cal Tryd.prog F_diff_sides #[.slice a A.length c, .slice b B.length d, v] w K := by
  apply C_diff_sides
  unfold D_diff_sides
  refine ⟨fun z w1 => ∃ (i k : Nat) (y1 y2 : Value), i ≤ A.length ∧ k ≤ B.length ∧ z = [.int .i64 i, .int .i64 k, y1, y2] ∧ J i k w1, fun z _ => (A.length - nI z 0).toNat + (B.length - nI z 1).toNat, ⟨0, 0, _, _, Nat.zero_le _, Nat.zero_le _, rfl, hJ0⟩, ?_⟩
  rintro z w1 ⟨i, k, y1, y2, hi, hkk, rfl, hJ⟩
  refine Share.cut (fun z w2 => w2 = w1 ∧ z = [.bool (decide (i < A.length ∨ k < B.length))]) ⟨_, rfl, cond_of (fun h => ⟨rfl, ?_⟩) (fun h => ⟨_, rfl, rfl, ?_⟩)⟩ ?_
  · have h := of_decide_eq_true h
    congr 2; symm; exact decide_eq_true (.inl (by omega))
  · have h := of_decide_eq_false h
    congr 2; rw [Bool.eq_iff_iff, decide_eq_true_eq, decide_eq_true_eq]; omega
  rintro z w2 ⟨rfl, rfl⟩
  refine ⟨_, rfl, cond_of (fun h => ?_) (fun h => ?_)⟩
  · have h := of_decide_eq_true h
    obtain ⟨hPw, hQw, hgw⟩ := hJp _ _ _ hJ
    -- which way
    refine ⟨_, rfl, Share.cut (fun z w5 => J i k w5 ∧ ∃ n : Int, z = [.int .i64 n] ∧ ((n < 0 ∧ ∃ x, A[i]? = some x ∧ ∀ y, B[k]? = some y → ordP x.path y.path < 0) ∨ (0 < n ∧ ∃ y, B[k]? = some y ∧ ∀ x, A[i]? = some x → ordP y.path x.path < 0) ∨ (n = 0 ∧ ∃ x y, A[i]? = some x ∧ B[k]? = some y ∧ x.path = y.path)))
      (cond_of (fun h4 => ?_) (fun h4 => ⟨_, rfl, ?_⟩)) ?_⟩
    · rw [beq_int] at h4
      have h4 := of_decide_eq_true h4
      have hkB : k < B.length := by omega
      refine ⟨hJ, 1, rfl, .inr (.inl ⟨by omega, B[k], List.getElem?_eq_getElem hkB, fun x hx => ?_⟩)⟩
      have := (List.getElem?_eq_some_iff.1 hx).1
      omega
    · rw [beq_int] at h4
      have h4 := of_decide_eq_false h4
      have hiA : i < A.length := by omega
      have hx : A[i]? = some A[i] := List.getElem?_eq_getElem hiA
      generalize A[i] = x at hx
      refine Share.cut (fun z w4 => J i k w4 ∧ ∃ n : Int, z = [.int .i64 n] ∧ ((n < 0 ∧ ∃ x, A[i]? = some x ∧ ∀ y, B[k]? = some y → ordP x.path y.path < 0) ∨ (0 < n ∧ ∃ y, B[k]? = some y ∧ ∀ x, A[i]? = some x → ordP y.path x.path < 0) ∨ (n = 0 ∧ ∃ x y, A[i]? = some x ∧ B[k]? = some y ∧ x.path = y.path)))
        (cond_of (fun h5 => ?_) (fun h5 => ?_)) (fun z w4 h => by obtain ⟨hJ4, n, rfl, hn⟩ := h; exact ⟨hJ4, n, rfl, hn⟩)
      · rw [beq_int] at h5
        have h5 := of_decide_eq_true h5
        refine ⟨hJ, -1, rfl, .inl ⟨by omega, x, hx, fun y hy => ?_⟩⟩
        have := (List.getElem?_eq_some_iff.1 hy).1
        omega
      · rw [beq_int] at h5
        have h5 := of_decide_eq_false h5
        have hkB : k < B.length := by omega
        have hy : B[k]? = some B[k] := List.getElem?_eq_getElem hkB
        generalize B[k] = y at hy
        have rd := (Mod.refl No w2).drew
        obtain ⟨g1, o1, hd1, rfl, ix1, lq1, _⟩ := PE.at hPw hx
        obtain ⟨g2, o2, hd2, rfl, ix2, lq2, _⟩ := PE.at hQw hy
        refine ⟨_, ix1 A.length c hiA, _, lq1 0 9 (.string (sB x.path)) (by kernel_rfl) rfl _ rd, _, ix2 B.length d hkB, _, lq2 0 9 (.string (sB y.path)) (by kernel_rfl) rfl _ rd,
          order_c (hsA x (List.mem_of_getElem? hx)) (hsB y (List.mem_of_getElem? hy)) (hgw.nos rd) fun w3 m3 => ⟨_, rfl, hJn _ _ _ _ hJ (rd.no m3), _, rfl, ?_⟩⟩
        rcases Int.lt_trichotomy (ordP x.path y.path) 0 with h6 | h6 | h6
        · exact .inl ⟨h6, x, hx, fun y' hy' => by rw [hy] at hy'; cases hy'; exact h6⟩
        · exact .inr (.inr ⟨h6, x, y, hx, hy, ord_zero.1 h6⟩)
        · refine .inr (.inl ⟨h6, y, hy, fun x' hx' => ?_⟩)
          rw [hx] at hx'; cases hx'
          rw [ord_neg]; omega
    rintro z w5 ⟨hJ5, n, rfl, hway⟩
    refine ⟨_, rfl, Share.cut (fun z w10 => ∃ i' k' : Nat, z = [.int .i64 i', .int .i64 k'] ∧ J i' k' w10 ∧ i' ≤ A.length ∧ k' ≤ B.length ∧ i ≤ i' ∧ k ≤ k' ∧ i + k < i' + k') (cond_of (fun h6 => ?_) (fun h6 => ?_)) ?_⟩
    · have h6 := of_decide_eq_true h6
      obtain ⟨_, x, hx, hlt⟩ := hway.resolve_right (by rintro (⟨h7, _⟩ | ⟨h7, _⟩) <;> omega)
      have hiA := (List.getElem?_eq_some_iff.1 hx).1
      refine h1 i k w5 x hJ5 hx hlt _ fun w6 hJ6 => ⟨rfl, ?_⟩
      rw [wrap64 (by omega) (by omega)]
      exact ⟨i + 1, k, rfl, hJ6, by omega, hkk, by omega, by omega, by omega⟩
    · have h6 := of_decide_eq_false h6
      refine Share.cut (fun z w10 => ∃ i' k' : Nat, z = [.int .i64 i', .int .i64 k'] ∧ J i' k' w10 ∧ i' ≤ A.length ∧ k' ≤ B.length ∧ i ≤ i' ∧ k ≤ k' ∧ i + k < i' + k') (cond_of (fun h7 => ?_) (fun h7 => ?_)) (fun z w9 h => by obtain ⟨i', k', rfl, h⟩ := h; exact ⟨i', k', rfl, h⟩)
      · have h7 := of_decide_eq_true h7
        obtain ⟨_, y, hy, hlt⟩ : 0 < n ∧ ∃ y, B[k]? = some y ∧ ∀ x, A[i]? = some x → ordP y.path x.path < 0 := by
          rcases hway with ⟨h8, _⟩ | h8 | ⟨h8, _⟩
          · omega
          · exact h8
          · omega
        have hkB := (List.getElem?_eq_some_iff.1 hy).1
        refine ⟨_, rfl, h2 i k w5 y hJ5 hy hlt _ fun w6 hJ6 => ⟨rfl, ?_⟩⟩
        rw [wrap64 (by omega) (by omega)]
        exact ⟨i, k + 1, rfl, hJ6, hi, by omega, by omega, by omega, by omega⟩
      · have h7 := of_decide_eq_false h7
        obtain ⟨_, x, y, hx, hy, he⟩ : n = 0 ∧ ∃ x y, A[i]? = some x ∧ B[k]? = some y ∧ x.path = y.path := by
          rcases hway with ⟨h8, _⟩ | ⟨h8, _⟩ | h8
          · omega
          · omega
          · exact h8
        have hiA := (List.getElem?_eq_some_iff.1 hx).1
        have hkB := (List.getElem?_eq_some_iff.1 hy).1
        refine ⟨_, rfl, h3 i k w5 x y hJ5 hx hy he _ fun w6 hJ6 => ⟨rfl, ?_⟩⟩
        rw [wrap64 (by omega) (by omega), wrap64 (by omega) (by omega)]
        exact ⟨i + 1, k + 1, rfl, hJ6, by omega, by omega, by omega, by omega, by omega⟩
    rintro z w10 ⟨i', k', rfl, hJ10, hi', hk', hii, hkk2, hlt⟩
    exact ⟨⟨i', k', _, _, hi', hk', rfl, hJ10⟩, by simp [nI, nth]; omega⟩
  · have h := of_decide_eq_false h
    have e1 : i = A.length := by omega
    have e2 : k = B.length := by omega
    subst e1 e2
    exact hk w2 hJ
theorem Dyn_of {f : FuncId} {cap args : Array Value} (h : Cal Tryd.prog f (args ++ cap) w K) : Dyn Tryd.prog (.func (.func f) #[] cap) args w K := ⟨f, #[], cap, rfl, by rw [Array.empty_append]; exact h⟩
/-- What the step of diff.Trees has: the changes so far in a box, and both trees. -/
structure Bx (w0 w : World) (p q r : Nat) (a b : Option Addr) (la ca lb cb : Nat) (out : List Chg) : Prop where
  m : Mod No w0 w
  hp : w0.heap.size ≤ p
  ex : ∃ (x : Option Addr) (cx : Nat), AtU w p 0 [.slice x out.length cx] ∧ Own Tryd.prog w (p + 1) 24 2 x out.length cx (chgL out)
  h2 : At w q 0 [.slice a la ca]
  h3 : At w r 0 [.slice b lb cb]
  hq : q < p
  hr : r < p
theorem Bx.nos {w0 w w' : World} {p q r : Nat} {a b : Option Addr} {la ca lb cb : Nat} {out : List Chg} (h : Bx w0 w p q r a b la ca lb cb out) (m : Mod No w w') : Bx w0 w' p q r a b la ca lb cb out := by
  obtain ⟨x, cx, h1, h2⟩ := h.ex
  exact ⟨h.m.no m, h.hp, ⟨x, cx, h1.keep m id, h2.nos m⟩, h.h2.keep m id, h.h3.keep m id, h.hq, h.hr⟩
/-- A change more. -/
theorem Bx.push {w0 w : World} {p q r : Nat} {a b : Option Addr} {la ca lb cb : Nat} {out : List Chg} (h : Bx w0 w p q r a b la ca lb cb out) (hl : out.length ≤ 10000) (c : Chg) :
    ∃ (x : Option Addr) (cx : Nat) (w1 w2 w3 : World) (x' : Option Addr) (cx' : Nat), Ru (Instr.loadAt 24 (.pointer (some ⟨p, 0, none⟩))) (drew w) (.slice x out.length cx) (drew w) ∧
      Ru (Instr.buildSlice 24 1 #[(0, .agg ⟨chgV c⟩)]) (drew w) (.slice (some ⟨w.heap.size, 0, none⟩) 1 1) w1 ∧ Ru (Instr.loadAt 24 (.pointer (some ⟨p, 0, none⟩))) w1 (.slice x out.length cx) w1 ∧
      Ru (Builtin.append_ #[24, 24] 24 #[.slice x out.length cx, .slice (some ⟨w.heap.size, 0, none⟩) 1 1]) w1 (.slice x' (out.length + 1) cx') w2 ∧
      RuU (Instr.storeAt 24 (.pointer (some ⟨p, 0, none⟩)) (.slice x' (out.length + 1) cx')) w2 w3 ∧ Bx w0 w3 p q r a b la ca lb cb (out ++ [c]) := by
  obtain ⟨x, cx, h1, h2⟩ := h.ex
  have hpw := h1.lt
  have hT : scal Tryd.prog 24 = true := by kernel_rfl
  have l1 : ∀ {w'}, Mod No w w' → Ru (Instr.loadAt 24 (.pointer (some ⟨p, 0, none⟩))) w' (.slice x out.length cx) w' := fun m => (h1.at.keep m id).load (i := 0) hT rfl
  have rd := (Mod.refl No w).drew
  let w1 := (drew w).alloc (.cells ⟨chgV c⟩ 36)
  have m1 : Mod No w w1 := rd.alloc _
  have hsz : w1.heap.size = w.heap.size + 1 := World.size_alloc _ _
  obtain ⟨q', cx', w2, a1, a2, a3, a4⟩ := (h2.nos m1).appG (ty := 24) elemG_chg (by omega) (ad := ⟨w.heap.size, 0, none⟩) (m := 1) (c2 := 1) (ys := chgV c) (.inr ⟨_, _, rfl, AtU.new.at⟩) rfl (by omega) (one_chgV c) (by omega) (by omega) (by rw [hsz]; omega)
  have hown : ∀ {y}, (∃ q', x = some q' ∧ y = q'.block) → p < y := fun {y} ⟨q', e1, e2⟩ => by
    have := (h2.base e1).1
    rw [e2]; omega
  have a3' : Mod (fun y => p < y) w1 w2 := a3.mono fun y _ hy => hown hy
  have hp2 : AtU w2 p 0 [.slice x out.length cx] := (h1.keep m1 id).keep a3' (Nat.lt_irrefl p)
  obtain ⟨w3, s1, s2, s3, s4⟩ := hp2.store (P := Tryd.prog) (T := 24) (i := 0) (v := .slice (some q') (out.length + 1) cx') hT (by simp) rfl
  have hq2 := a2.base rfl
  refine ⟨x, cx, w1, w2, w3, some q', cx', l1 rd, built_chg (drew w) _ _, l1 m1, a1, s1, ⟨?_, h.hp, ⟨some q', cx', ?_, ?_⟩, ?_, ?_, h.hq, h.hr⟩⟩
  · have M2 : Mod No w0 w2 := (h.m.no m1).trans a3' fun y hy e => by have := h.hp; omega
    exact M2.trans s3 fun y hy e => by have := h.hp; omega
  · simpa using s2
  · rw [List.length_append, List.length_singleton, chgL_snoc]
    exact a2.keep s3 fun q'' e1 e2 => by have := (a2.base e1).1; omega
  · refine ((h.h2.keep m1 id).keep a3' (by have := h.hq; omega)).keep s3 (by have := h.hq; omega)
  · refine ((h.h3.keep m1 id).keep a3' (by have := h.hr; omega)).keep s3 (by have := h.hr; omega)
set_option maxRecDepth 100000 in
/-- The step. -/
theorem treeStep_c {w0 : World} {p q r : Nat} {a b : Option Addr} {A B : List Tn} {ca cb : Nat} {out : List Chg} (hB : Bx w0 w p q r a b A.length ca B.length cb out) (hl : out.length ≤ 10000) (hP : PE w0 a A) (hQ : PE w0 b B)
    {i k : Int} {c : Option Chg}
    (hc : (k = -1 ∧ ∃ (j : Nat) (x : Tn), i = j ∧ A[j]? = some x ∧ c = some (1, x.path)) ∨ (i = -1 ∧ ∃ (j : Nat) (y : Tn), k = j ∧ B[j]? = some y ∧ c = some (2, y.path)) ∨
      (∃ (j m : Nat) (x y : Tn), i = j ∧ k = m ∧ A[j]? = some x ∧ B[m]? = some y ∧ OneE A j x ∧ OneE B m y ∧ BdE A ∧ c = if alE A B j m = true then none else some (3, x.path)))
    (hk : ∀ w', Bx w0 w' p q r a b A.length ca B.length cb (out ++ c.toList) → K (.tuple #[]) w') :
    Cal Tryd.prog F_diff_Trees_1 #[.int .i64 i, .int .i64 k, .pointer (some ⟨p, 0, none⟩), .pointer (some ⟨q, 0, none⟩), .pointer (some ⟨r, 0, none⟩)] w K := by
  apply C_diff_Trees_1
  unfold D_diff_Trees_1
  have hT : scal Tryd.prog 28 = true := by kernel_rfl
  have l2 : ∀ {w'}, Mod No w w' → Ru (Instr.loadAt 28 (.pointer (some ⟨q, 0, none⟩))) w' (.slice a A.length ca) w' := fun m => (hB.h2.keep m id).load (i := 0) hT rfl
  have l3 : ∀ {w'}, Mod No w w' → Ru (Instr.loadAt 28 (.pointer (some ⟨r, 0, none⟩))) w' (.slice b B.length cb) w' := fun m => (hB.h3.keep m id).load (i := 0) hT rfl
  have rd := (Mod.refl No w).drew
  refine Share.cut (fun z w' => z = [] ∧ Bx w0 w' p q r a b A.length ca B.length cb (out ++ c.toList)) (cond_of (fun h => ?_) (fun h => ?_)) (fun z w' h => hk w' h.2)
  · have h := of_decide_eq_true h
    obtain ⟨_, j, x, rfl, hx, rfl⟩ : k = -1 ∧ ∃ (j : Nat) (x : Tn), i = j ∧ A[j]? = some x ∧ c = some (1, x.path) := by
      rcases hc with h1 | ⟨_, j, y, h1, _⟩ | ⟨j, m, x, y, h1, h2, _⟩
      · exact h1
      · omega
      · omega
    obtain ⟨x0, cx, w1, w2, w3, x', cx', p1, p2, p3, p4, p5, p6⟩ := hB.push hl (1, x.path)
    obtain ⟨g, o, hd, rfl, ix, lq, _⟩ := PE.at (hP.nos hB.m) hx
    exact ⟨_, _, _, p1, _, _, _, l2 rd, _, ix A.length ca (List.getElem?_eq_some_iff.1 hx).1, _, lq 0 9 (.string (sB x.path)) (by kernel_rfl) rfl _ rd, _, build_chg _ _, _, _, _, w1, p2, p3, _, _, _, w2, p4, w3, p5, rfl, p6⟩
  · have h := of_decide_eq_false h
    refine Share.cut (fun z w' => z = [] ∧ Bx w0 w' p q r a b A.length ca B.length cb (out ++ c.toList)) (cond_of (fun h1 => ?_) (fun h1 => ?_)) (fun z w' h => ⟨rfl, h.2⟩)
    · have h1 := of_decide_eq_true h1
      obtain ⟨_, j, x, rfl, hx, rfl⟩ : i = -1 ∧ ∃ (j : Nat) (y : Tn), k = j ∧ B[j]? = some y ∧ c = some (2, y.path) := by
        rcases hc with ⟨h2, _⟩ | h2 | ⟨j, m, x, y, h2, _⟩
        · omega
        · exact h2
        · omega
      obtain ⟨x0, cx, w1, w2, w3, x', cx', p1, p2, p3, p4, p5, p6⟩ := hB.push hl (2, x.path)
      obtain ⟨g, o, hd, rfl, ix, lq, _⟩ := PE.at (hQ.nos hB.m) hx
      exact ⟨_, _, _, p1, _, _, _, l3 rd, _, ix B.length cb (List.getElem?_eq_some_iff.1 hx).1, _, lq 0 9 (.string (sB x.path)) (by kernel_rfl) rfl _ rd, _, build_chg _ _, _, _, _, w1, p2, p3, _, _, _, w2, p4, w3, p5, rfl, p6⟩
    · have h1 := of_decide_eq_false h1
      obtain ⟨j, m, x, y, rfl, rfl, hx, hy, ox, oy, hbd, rfl⟩ : ∃ (j m : Nat) (x y : Tn), i = j ∧ k = m ∧ A[j]? = some x ∧ B[m]? = some y ∧ OneE A j x ∧ OneE B m y ∧ BdE A ∧ c = if alE A B j m = true then none else some (3, x.path) := by
        rcases hc with ⟨h2, _⟩ | ⟨h2, _⟩ | h2
        · omega
        · omega
        · exact h2
      refine ⟨_, _, _, l2 (Mod.refl _ _), _, _, _, l3 (Mod.refl _ _), alike_c (hP.nos hB.m) (hQ.nos hB.m) hx hy ox oy hbd fun w7 m7 => ⟨_, rfl, ?_⟩⟩
      have hB7 := hB.nos m7
      refine Share.cut (fun z w' => z = [] ∧ Bx w0 w' p q r a b A.length ca B.length cb (out ++ (if alE A B j m = true then none else some (3, x.path)).toList)) (cond_of (fun h2 => ?_) (fun h2 => ?_)) (fun z w' h => ⟨rfl, h.2⟩)
      · have h2 : alE A B j m = false := by simpa using h2
        rw [h2, if_neg (by simp)]
        obtain ⟨x0, cx, w1, w2, w3, x', cx', p1, p2, p3, p4, p5, p6⟩ := hB7.push hl (3, x.path)
        obtain ⟨g, o, hd, rfl, ix, lq, _⟩ := PE.at (hP.nos hB7.m) hx
        have rd7 := m7.drew
        exact ⟨_, _, _, p1, _, _, _, l2 rd7, _, ix A.length ca (List.getElem?_eq_some_iff.1 hx).1, _, lq 0 9 (.string (sB x.path)) (by kernel_rfl) rfl _ (Mod.refl No w7).drew, _, build_chg _ _, _, _, _, w1, p2, p3, _, _, _, w2, p4, w3, p5, rfl, p6⟩
      · have h2 : alE A B j m = true := by simpa using h2
        rw [if_pos h2]
        exact ⟨rfl, by simpa using hB7⟩
theorem alloc_chgs (w : World) : (Instr.alloc 24 true (.tuple #[])).run Tryd.prog w = .ok (.pointer (some ⟨w.heap.size, 0, none⟩)) (w.alloc (.cells ⟨[.slice none 0 0]⟩ 24)) := by kernel_rfl
theorem Trees_c {a b : Option Addr} {A B : List Tn} {ca cb : Nat} (hP : PE w a A) (hQ : PE w b B) (hbA : BdE A) (hbB : BdE B) (hn : A.length ≤ 1000) (hm : B.length ≤ 1000) (hca : A.length ≤ ca) (hcb : B.length ≤ cb) (hg : Gl w)
    (hbad : ¬ (RightL A ∧ RightL B) → ∀ w', Mod No w w' → K (.tuple #[.slice none 0 0, .int .i64 1]) w')
    (hok : RightL A → RightL B → ∀ w' x c out, Mod No w w' → AllE A B out → CE w' x out → out.length ≤ 2000 → K (.tuple #[.slice x out.length c, .int .i64 0]) w') :
    Cal Tryd.prog F_diff_Trees #[.slice a A.length ca, .slice b B.length cb] w K := by
  apply C_diff_Trees
  unfold D_diff_Trees
  have hT : scal Tryd.prog 28 = true := by kernel_rfl
  let w1 := w.alloc (.cells ⟨[.slice a A.length ca]⟩ 28)
  let w2 := w1.alloc (.cells ⟨[.slice b B.length cb]⟩ 28)
  have hs1 : w1.heap.size = w.heap.size + 1 := World.size_alloc _ _
  have hs2 : w2.heap.size = w.heap.size + 2 := by rw [World.size_alloc, hs1]
  have m2 : Mod No w w2 := ((Mod.refl No w).alloc _).alloc _
  have h2 : At w2 w.heap.size 0 [.slice a A.length ca] := (AtU.new (w := w)).at.keep ((Mod.refl No w1).alloc _) id
  have h3 : At w2 w1.heap.size 0 [.slice b B.length cb] := (AtU.new (w := w1)).at
  have l2 : ∀ {w'}, Mod No w2 w' → Ru (Instr.loadAt 28 (.pointer (some ⟨w.heap.size, 0, none⟩))) w' (.slice a A.length ca) w' := fun m => (h2.keep m id).load (i := 0) hT rfl
  have l3 : ∀ {w'}, Mod No w2 w' → Ru (Instr.loadAt 28 (.pointer (some ⟨w1.heap.size, 0, none⟩))) w' (.slice b B.length cb) w' := fun m => (h3.keep m id).load (i := 0) hT rfl
  refine ⟨_, w1, box_run, _, w2, box_run, Share.cut (fun z w5 => Mod No w2 w5 ∧ ∃ b, z = [.bool b] ∧ (b = true ↔ ¬ (RightL A ∧ RightL B))) ⟨_, _, _, l2 (Mod.refl _ _), dRight_c (hP.nos m2) hbA hn hca (hg.nos m2) fun w3 b3 m3 hb3 => ⟨_, rfl, cond_of (fun h => ⟨m3, vyes ?_⟩) (fun h => ⟨_, _, _, l3 m3, dRight_c (hQ.nos (m2.no m3)) hbB hm hcb ((hg.nos m2).nos m3) fun w4 b4 m4 hb4 => ⟨_, rfl, m3.no m4, viff ?_⟩⟩)⟩⟩ ?_⟩
  · have h : b3 = false := by simpa using h
    exact fun hr => by have := hb3.2 hr.1; rw [h] at this; cases this
  · have h : b3 = true := by simpa using h
    have h5 := hb3.1 h
    rw [← hb4]
    constructor
    · intro e hr
      cases b4
      · cases hr.2
      · cases e
    · intro e
      cases b4
      · rfl
      · exact absurd ⟨h5, rfl⟩ e
  rintro z w5 ⟨m5, b5, rfl, hb5⟩
  refine ⟨_, rfl, cond_of (fun h => ?_) (fun h => ?_)⟩
  · exact hbad (hb5.1 h) _ (m2.no m5)
  obtain ⟨hA, hB⟩ : RightL A ∧ RightL B := Classical.not_not.1 fun hn => by
    have := hb5.2 hn; rw [h] at this; cases this
  let w6 := w5.alloc (.cells ⟨[.slice none 0 0]⟩ 24)
  have m6 : Mod No w5 w6 := (Mod.refl No w5).alloc _
  have M6 : Mod No w w6 := (m2.no m5).no m6
  have hs5 := m5.size
  have hu : Tryd.prog.underlying 24 = some (.slice 36) := by kernel_rfl
  have hBx : Bx w w6 w5.heap.size w.heap.size w1.heap.size a b A.length ca B.length cb [] :=
    ⟨M6, by omega, ⟨none, 0, AtU.new, Own.nilG elemG_chg⟩, h2.keep (m5.no m6) id, h3.keep (m5.no m6) id, by omega, by omega⟩
  have hshA : ∀ e ∈ A, e.path.length < 4294967281 := fun e he => by
    obtain ⟨k, hk⟩ := List.mem_iff_getElem?.1 he
    have h4 := (List.getElem?_eq_some_iff.1 hk).1
    have := (RightTo.path hA h4 hk).2; omega
  have hshB : ∀ e ∈ B, e.path.length < 4294967281 := fun e he => by
    obtain ⟨k, hk⟩ := List.mem_iff_getElem?.1 he
    have h4 := (List.getElem?_eq_some_iff.1 hk).1
    have := (RightTo.path hB h4 hk).2; omega
  have hpa : ∀ {l : List Tn} {i : Nat} {e : Tn}, l[i]? = some e → (l.map (·.path))[i]? = some e.path := fun h => by rw [List.getElem?_map, h]; rfl
  refine ⟨_, w6, alloc_chgs w5, _, _, _, l2 (m5.no m6), _, _, _, l3 (m5.no m6), ?_⟩
  refine sides_c (J := fun i k w' => ∃ out, Mg (A.map (·.path)) (B.map (·.path)) (alE A B) i k out ∧ out.length ≤ i + k ∧ Bx w w' w5.heap.size w.heap.size w1.heap.size a b A.length ca B.length cb out) hn hm hshA hshB
    ⟨[], Mg.start _ _ _, by simp, hBx⟩ ?_ ?_ ?_ ?_ ?_ ?_
  · rintro i k w' ⟨out, h1, h4, h5⟩
    exact ⟨hP.nos h5.m, hQ.nos h5.m, hg.nos h5.m⟩
  · rintro i k w' w'' ⟨out, h1, h4, h5⟩ m'
    exact ⟨out, h1, h4, h5.nos m'⟩
  · rintro i k w' x ⟨out, h1, h4, h5⟩ hx hlt K hK
    have hi := h1.hi
    have hk := h1.hk
    rw [List.length_map] at hi hk
    refine Dyn_of (treeStep_c (A := A) (B := B) (c := some (1, x.path)) h5 (by omega) hP hQ (.inl ⟨rfl, i, x, rfl, hx, rfl⟩) fun w'' h6 => hK w'' ⟨_, h1.gone hA.ascP hB.ascP (hpa hx) ?_, by simp; omega, h6⟩)
    intro y hy
    obtain ⟨e, he, rfl⟩ := paths_get hy
    exact hlt e he
  · rintro i k w' y ⟨out, h1, h4, h5⟩ hy hlt K hK
    have hi := h1.hi
    have hk := h1.hk
    rw [List.length_map] at hi hk
    refine Dyn_of (treeStep_c (A := A) (B := B) (c := some (2, y.path)) h5 (by omega) hP hQ (.inr (.inl ⟨rfl, k, y, rfl, hy, rfl⟩)) fun w'' h6 => hK w'' ⟨_, h1.new hA.ascP hB.ascP (hpa hy) ?_, by simp; omega, h6⟩)
    intro x hx
    obtain ⟨e, he, rfl⟩ := paths_get hx
    exact hlt e he
  · rintro i k w' x y ⟨out, h1, h4, h5⟩ hx hy he K hK
    have hi := h1.hi
    have hk := h1.hk
    rw [List.length_map] at hi hk
    have ox := RightTo.one hA (List.getElem?_eq_some_iff.1 hx).1 hx
    have oy := RightTo.one hB (List.getElem?_eq_some_iff.1 hy).1 hy
    refine Dyn_of (treeStep_c (A := A) (B := B) (c := if alE A B i k = true then none else some (3, x.path)) h5 (by omega) hP hQ (.inr (.inr ⟨i, k, x, y, rfl, rfl, hx, hy, ox, oy, hbA, rfl⟩)) fun w'' h6 => hK w'' ⟨_, ?_, ?_, h6⟩)
    · have := h1.both hA.ascP hB.ascP (hpa hx) (by rw [hpa hy, he])
      by_cases h7 : alE A B i k = true
      · rw [if_pos h7] at this ⊢; simpa using this
      · rw [if_neg h7] at this ⊢; exact this
    · by_cases h7 : alE A B i k = true
      · rw [if_pos h7]; simp; omega
      · rw [if_neg h7]; simp; omega
  · rintro w7 ⟨out, h1, h4, h5⟩
    obtain ⟨x, cx, h6, h7⟩ := h5.ex
    have hall : AllE A B out := by
      have e1 : A.length = (A.map (·.path)).length := by simp
      have e2 : B.length = (B.map (·.path)).length := by simp
      rw [e1, e2] at h1
      exact h1.all
    exact ⟨rfl, _, _, _, h6.at.load (i := 0) (by kernel_rfl) rfl, hok hA hB w7 x cx out h5.m hall h7.rowU.row (by omega)⟩
end
end Go.Proofs.YtiahkkekcmgkfaaDoor
end
section
/- Layer 34: entries and changes handed over; the document's answer: all changes from a tree to another one. -/
open Go Go.Den Go.Proofs
namespace Go.Den
theorem chgL_get {l : List Chg} {i : Nat} {c : Chg} (h : l[i]? = some c) : ((chgL l).drop (i * 2)).take 2 = chgV c := flatK_get (chgV_all l) (by rw [List.getElem?_map, h]; rfl)
theorem chgL_cell {l : List Chg} {i j : Nat} {c : Chg} {v : Value} (h : l[i]? = some c) (hj : (chgV c)[j]? = some v) : (chgL l)[i * 2 + j]? = some v := flatK_cell (chgV_all l) (by rw [List.getElem?_map, h]; rfl) hj
end Go.Den
namespace Go.Proofs.YtiahkkekcmgkfaaDoor
theorem agg_rC : aggN Tryd.prog 71 = some 2 := by kernel_rfl
theorem elemG_pE : elemG Tryd.prog 28 5 72 := elemG_of (by kernel_rfl)
theorem built_pE (w : World) (z : Tn × Option Addr × Nat) : (Instr.buildSlice 28 1 #[(0, .agg ⟨pV z⟩)]).run Tryd.prog w = .ok (.slice (some ⟨w.heap.size, 0, none⟩) 1 1) (w.alloc (.cells ⟨pV z⟩ 64)) := by kernel_rfl
section
variable {w : World} {K : Value → World → Prop}
theorem CE.at {a : Option Addr} {l : List Chg} {i : Nat} {e : Chg} {T : TypeId} (hT : T = 30 ∨ T = 24) (h : CE w a l) (hi : l[i]? = some e) :
    ∃ g o, a = some ⟨g, o, none⟩ ∧ (∀ n c : Nat, i < n → Al (Instr.indexAt T (.slice (some ⟨g, o, none⟩) n c) (.int .i64 i)) (.pointer (some ⟨g, o + i * 2, none⟩))) ∧
      (∀ (j : Nat) (T : TypeId) (v : Value), scal Tryd.prog T = true → (chgV e)[j]? = some v → ∀ w', Mod No w w' → Ru (Instr.loadAt T (.pointer (some (Addr.add ⟨g, o + i * 2, none⟩ j)))) w' v w') ∧
      (∀ w', Mod No w w' → Ru (Instr.loadAt 71 (.pointer (some ⟨g, o + i * 2, none⟩))) w' (.agg ⟨chgV e⟩) w') := by
  have hil : i < l.length := (List.getElem?_eq_some_iff.1 hi).1
  have hlen := chgL_len l
  obtain ⟨g, o, rfl, hat⟩ := h.resolve_left fun e => by rw [e] at hlen; simp at hlen; omega
  refine ⟨g, o, rfl, fun n c hn w => ?_, fun j T v hT hj w' m => ?_, fun w' m => ?_⟩
  · have hel : elemN Tryd.prog T = some 2 := by
      rcases hT with rfl | rfl
      · kernel_rfl
      · kernel_rfl
    rw [index_slice (k := 2) hel (by omega) (by omega) w, add_none, Int.toNat_natCast]
  · rw [add_none, Nat.add_assoc]
    exact (hat.keep m id).load hT (chgL_cell hi hj)
  · have := (hat.keep m id).loadAgg (P := Tryd.prog) (i := i * 2) agg_rC (by rw [hlen]; omega)
    rw [chgL_get hi] at this
    exact this
end
end Go.Proofs.YtiahkkekcmgkfaaDoor
end
section
/- Layer 34: what a tree has in all. -/
open Go Go.Den Go.Proofs
namespace Go.Den
def TotV (t : Tot) (n : Int) : List Value := [.int .i64 t.dirs, .int .i64 t.files, .int .i64 t.links, .int .i64 n, .int .i64 t.bytes]
def tot0 : Tot := ⟨0, 0, 0, 0⟩
theorem one_TotV (t : Tot) (n : Int) : ∀ v ∈ TotV t n, v.oneCell' = true := by
  intro v hv
  simp [TotV] at hv
  rcases hv with rfl | rfl | rfl | rfl | rfl <;> rfl
def totK (t : Tot) (e : Tn) : Tot := if e.kind = 2 then { t with dirs := t.dirs + 1 } else if e.kind = 1 then { t with files := t.files + 1 } else { t with links := t.links + 1 }
theorem totStep_eq (t : Tot) (e : Tn) (h : ¬ 0 ≤ e.same) : totStep t e = { totK t e with bytes := t.bytes + e.data.length } := by
  unfold totStep totK
  rw [if_neg h]
  split
  · rfl
  · split <;> rfl
end Go.Den
namespace Go.Proofs.YtiahkkekcmgkfaaDoor
theorem agg_pT : aggN Tryd.prog 39 = some 5 := by kernel_rfl
theorem alloc_pT (w : World) : (Instr.alloc 39 true (.tuple #[])).run Tryd.prog w = .ok (.pointer (some ⟨w.heap.size, 0, none⟩)) (w.alloc (.cells ⟨TotV tot0 0⟩ 39)) := by kernel_rfl
theorem build_pT0 : Al (Instr.build 39 #[]) (.agg ⟨TotV tot0 0⟩) := fun w => by kernel_rfl
theorem build_pT (n : Int) : Al (Instr.build 39 #[(3, .int .i64 n)]) (.agg ⟨TotV tot0 n⟩) := fun w => by kernel_rfl
section
variable {w : World} {K : Value → World → Prop}
theorem tot_store {g j : Nat} {t : Tot} {n v : Int} {T : TypeId} (hT : scal Tryd.prog T = true) (h : AtU w g 0 (TotV t n)) (hj : j < 5) :
    ∃ w', RuU (Instr.storeAt T (.pointer (some (Addr.add ⟨g, 0, none⟩ j))) (.int .i64 v)) w w' ∧ AtU w' g 0 ((TotV t n).set j (.int .i64 v)) ∧ Mod (fun x => x = g) w w' := by
  obtain ⟨w', h1, h2, h3, _⟩ := h.store (P := Tryd.prog) (T := T) (i := j) (v := .int .i64 v) hT (by simpa [TotV] using hj) rfl
  exact ⟨w', by rw [add_none]; exact h1, h2, h3⟩
theorem tot_load {g j : Nat} {t : Tot} {n : Int} {T : TypeId} {v : Value} (hT : scal Tryd.prog T = true) (h : At w g 0 (TotV t n)) (hj : (TotV t n)[j]? = some v) : Ru (Instr.loadAt T (.pointer (some (Addr.add ⟨g, 0, none⟩ j)))) w v w := by
  rw [add_none]; exact h.load hT hj
theorem tot_put {g : Nat} {t u : Tot} {n m : Int} {T : TypeId} (hT : aggN Tryd.prog T = some 5) (h : AtU w g 0 (TotV t n)) :
    ∃ w', RuU (Instr.storeAt T (.pointer (some ⟨g, 0, none⟩)) (.agg ⟨TotV u m⟩)) w w' ∧ At w' g 0 (TotV u m) ∧ Mod (fun x => x = g) w w' := by
  obtain ⟨w', h1, h2, h3, _⟩ := h.storeAgg (P := Tryd.prog) (T := T) (i := 0) (n := 5) (vs := TotV u m) hT rfl (by simp [TotV]) (one_TotV u m)
  refine ⟨w', h1, ?_, h3⟩
  have e : splice (TotV t n) 0 (TotV u m) = TotV u m := by unfold splice; simp [TotV]
  rw [e] at h2; exact h2.at
theorem tot_get {g : Nat} {t : Tot} {n : Int} {T : TypeId} (hT : aggN Tryd.prog T = some 5) (h : At w g 0 (TotV t n)) : Ru (Instr.loadAt T (.pointer (some ⟨g, 0, none⟩))) w (.agg ⟨TotV t n⟩) w :=
  h.loadAgg (P := Tryd.prog) (i := 0) hT (by simp [TotV])
theorem Sum_c {a : Option Addr} {l : List Tn} {c : Nat} (hP : PE w a l) (hbd : BdE l) (hn : l.length ≤ 1000) (hc : l.length ≤ c) (hg : Gl w)
    (hbad : ¬ RightL l → ∀ w', Mod No w w' → K (.tuple #[.agg ⟨TotV tot0 0⟩, .int .i64 1]) w')
    (hok : RightL l → ∀ w', Mod No w w' → K (.tuple #[.agg ⟨TotV (tot l) ((l.length : Int) - 1)⟩, .int .i64 0]) w') : Cal Tryd.prog F_diff_Sum #[.slice a l.length c] w K := by
  apply C_diff_Sum
  unfold D_diff_Sum
  let w1 := w.alloc (.cells ⟨TotV tot0 0⟩ 39)
  have m1 : Mod No w w1 := (Mod.refl No w).alloc _
  have hs1 : w1.heap.size = w.heap.size + 1 := World.size_alloc _ _
  have hq2 : AtU w1 w.heap.size 0 (TotV tot0 0) := AtU.new
  refine ⟨_, w1, alloc_pT w, dRight_c (hP.nos m1) hbd hn hc (hg.nos m1) fun w2 b m2 hb => ⟨_, rfl, cond_of (fun h => ?_) (fun h => ?_)⟩⟩
  · have h : b = false := by simpa using h
    obtain ⟨w3, s1, s2, s3⟩ := tot_put (u := tot0) (m := 0) agg_pT (hq2.keep m2 id)
    refine ⟨_, build_pT0, w3, s1, _, tot_get agg_pT s2, hbad (fun hr => ?_) _ ((m1.no m2).trans s3 fun x hx e => by omega)⟩
    have := hb.2 hr; rw [h] at this; cases this
  have h : b = true := by simpa using h
  have hR := hb.1 h
  have hlpos : 0 < l.length := by
    obtain ⟨e, he, _⟩ := hR.1
    exact (List.getElem?_eq_some_iff.1 he).1
  rw [wrap64 (by omega) (by omega)]
  let w4 := w2.alloc (.cells ⟨TotV tot0 0⟩ 39)
  have m4 : Mod No w2 w4 := (Mod.refl No w2).alloc _
  have hs4 : w4.heap.size = w2.heap.size + 1 := World.size_alloc _ _
  have hq4 : AtU w4 w2.heap.size 0 (TotV tot0 0) := AtU.new
  have h5 := hq4.storeAgg (P := Tryd.prog) (T := 39) (i := 0) (n := 5) (vs := TotV tot0 ((l.length : Int) - 1)) agg_pT rfl (by simp [TotV]) (one_TotV _ _)
  obtain ⟨w5, s1, s2, s3, _⟩ := h5
  have e5 : splice (TotV tot0 0) 0 (TotV tot0 ((l.length : Int) - 1)) = TotV tot0 ((l.length : Int) - 1) := by unfold splice; simp [TotV]
  rw [e5] at s2
  have hg2 : w1.heap.size ≤ w2.heap.size := m2.size
  have M5 : Mod No w w5 := ((m1.no m2).no m4).trans s3 fun x hx e => by omega
  have hq25 : AtU w5 w.heap.size 0 (TotV tot0 0) := (((hq2.keep m2 id).keep m4 id).keep s3 (by omega))
  refine ⟨_, build_pT _, _, w4, alloc_pT w2, w5, s1, ?_⟩
  refine ⟨fun z w6 => Mod No w w6 ∧ ∃ n : Nat, n ≤ l.length ∧ z = [.int .i64 n] ∧ AtU w6 w.heap.size 0 (TotV tot0 0) ∧ AtU w6 w2.heap.size 0 (TotV (tot (l.take n)) ((l.length : Int) - 1)), fun z _ => (l.length - nI z 0).toNat, ⟨M5, 0, Nat.zero_le _, rfl, hq25, s2⟩, ?_⟩
  clear s1 s2 s3 hq25 M5 hq4
  rintro z w6 ⟨m6, n, hnl, rfl, hz2, hz4⟩
  refine ⟨_, rfl, cond_of (fun h2 => ?_) (fun h2 => ?_)⟩
  · have h2 := of_decide_eq_true h2
    have hnx : n < l.length := by omega
    have he : l[n]? = some l[n] := List.getElem?_eq_getElem hnx
    have htt := tot_take he
    have hbnd := tot_bounds hR hn n (by omega)
    generalize l[n] = e at he htt
    have hbe := (RightTo.one hR hnx he).2.2.1
    obtain ⟨g, o, hd, rfl, ix, lq, la, _, _⟩ := PE.at (hP.nos m6) he
    obtain ⟨w7, w8, c1, c2, hat, m8⟩ := copy_pE (w := w6) (z := (e, hd)) (T := 64) rfl
    have ld : ∀ (j : Nat) (T : TypeId) (v : Value), scal Tryd.prog T = true → (pV (e, hd))[j]? = some v → ∀ w', At w' w6.heap.size 0 (pV (e, hd)) → Ru (Instr.loadAt T (.pointer (some (Addr.add ⟨w6.heap.size, 0, none⟩ j)))) w' v w' := fun j T v hT hj w' m => by
      rw [add_none]; exact m.load hT hj
    have hsz6 := hz4.lt
    have hsz2 := hz2.lt
    have hne : w.heap.size ≠ w2.heap.size := by omega
    rw [wrap64 (x := (n : Int) + 1) (by omega) (by omega)]
    refine Share.cut (fun z w15 => z = [] ∧ Mod No w w15 ∧ AtU w15 w.heap.size 0 (TotV tot0 0) ∧ AtU w15 w2.heap.size 0 (TotV (tot (l.take (n + 1))) ((l.length : Int) - 1)))
      ⟨_, ix l.length c hnx, _, la _ (Mod.refl _ _), _, w7, c1, w8, c2, _, ld 4 3 (.int .i64 e.same) (by kernel_rfl) rfl _ hat, cond_of (fun h3 => ?_) (fun h3 => ⟨_, ld 1 3 (.int .i64 e.kind) (by kernel_rfl) rfl _ hat, ?_⟩)⟩
      (fun z w15 h => by obtain ⟨rfl, h1, h2, h3⟩ := h; exact ⟨⟨h1, n + 1, by omega, rfl, h2, h3⟩, by simp [nI, nth]; omega⟩)
    · have h3 := of_decide_eq_true h3
      have : tot (l.take (n + 1)) = tot (l.take n) := by rw [htt]; unfold totStep; rw [if_pos h3]
      rw [this]
      exact ⟨rfl, m6.no m8, hz2.keep m8 id, hz4.keep m8 id⟩
    · have h3 := of_decide_eq_false h3
      rw [totStep_eq _ _ h3] at htt
      have hz4' : AtU w8 w2.heap.size 0 (TotV (tot (l.take n)) ((l.length : Int) - 1)) := hz4.keep m8 id
      have hz2' : AtU w8 w.heap.size 0 (TotV tot0 0) := hz2.keep m8 id
      generalize tot (l.take n) = t at *
      refine Share.cut (fun z w13 => z = [] ∧ Mod (fun x => x = w2.heap.size) w8 w13 ∧ AtU w13 w2.heap.size 0 (TotV (totK t e) ((l.length : Int) - 1))) ?_ ?_
      · rw [beq_int]
        refine cond_of (fun h4 => ?_) (fun h4 => ⟨_, ld 1 3 (.int .i64 e.kind) (by kernel_rfl) rfl _ hat, Share.cut (fun z w12 => z = [] ∧ Mod (fun x => x = w2.heap.size) w8 w12 ∧ AtU w12 w2.heap.size 0 (TotV (totK t e) ((l.length : Int) - 1))) (cond_of (fun h5 => ?_) (fun h5 => ?_)) (fun z w12 h => ⟨rfl, h.2⟩)⟩)
        · have h4 := of_decide_eq_true h4
          obtain ⟨w9, t1, t2, t3⟩ := tot_store (T := 3) (j := 0) (v := t.dirs + 1) (by kernel_rfl) hz4' (by omega)
          refine ⟨_, tot_load (by kernel_rfl) hz4'.at rfl, w9, by rw [wrap64 (by omega) (by omega)]; exact t1, rfl, t3, ?_⟩
          unfold totK; rw [if_pos h4]; exact t2
        · have h4 := of_decide_eq_false h4
          rw [beq_int] at h5
          have h5 := of_decide_eq_true h5
          obtain ⟨w9, t1, t2, t3⟩ := tot_store (T := 3) (j := 1) (v := t.files + 1) (by kernel_rfl) hz4' (by omega)
          refine ⟨_, tot_load (by kernel_rfl) hz4'.at rfl, w9, by rw [wrap64 (by omega) (by omega)]; exact t1, rfl, t3, ?_⟩
          unfold totK; rw [if_neg h4, if_pos h5]; exact t2
        · have h4 := of_decide_eq_false h4
          rw [beq_int] at h5
          have h5 := of_decide_eq_false h5
          obtain ⟨w9, t1, t2, t3⟩ := tot_store (T := 3) (j := 2) (v := t.links + 1) (by kernel_rfl) hz4' (by omega)
          refine ⟨_, tot_load (by kernel_rfl) hz4'.at rfl, w9, by rw [wrap64 (by omega) (by omega)]; exact t1, rfl, t3, ?_⟩
          unfold totK; rw [if_neg h4, if_neg h5]; exact t2
      rintro z w13 ⟨rfl, m13, hz13⟩
      have hat13 : At w13 w6.heap.size 0 (pV (e, hd)) := hat.keep m13 (by omega)
      obtain ⟨w14, t1, t2, t3⟩ := tot_store (T := 2) (j := 4) (v := t.bytes + e.data.length) (by kernel_rfl) hz13 (by omega)
      have hbt : (totK t e).bytes = t.bytes := by unfold totK; split; rfl; split <;> rfl
      refine ⟨_, tot_load (T := 2) (v := .int .i64 t.bytes) (by kernel_rfl) hz13.at (by rw [← hbt]; rfl), _, _, _, ld 3 62 (.slice hd.1 e.data.length hd.2) (by kernel_rfl) rfl _ hat13, w14, ?_, rfl, ?_, ?_, ?_⟩
      · rw [wrap64 (by omega) (by omega)]; exact t1
      · refine ((m6.no m8).trans m13 fun x hx e => ?_).trans t3 fun x hx e => ?_
        · omega
        · omega
      · exact (hz2'.keep m13 (by omega)).keep t3 (by omega)
      · rw [htt]; exact t2
  · have h2 := of_decide_eq_false h2
    have hnl2 : n = l.length := by omega
    subst hnl2
    rw [List.take_length] at hz4
    obtain ⟨w16, t1, t2, t3⟩ := tot_put (u := tot l) (m := (l.length : Int) - 1) agg_pT hz2
    exact ⟨_, tot_get agg_pT hz4.at, w16, t1, _, tot_get agg_pT t2, hok hR _ (m6.trans t3 fun x hx e => by omega)⟩
end
end Go.Proofs.YtiahkkekcmgkfaaDoor
end
section
/- Maps with int keys in memory: lookup with a word on whether it is there, delete. -/
open Go Go.Den
namespace Go.Den
section
variable {P : Program} {w : World}
theorem look2_run {T : TypeId} {z : Value} {m : Nat} {L : List (Int × Value)} {k : Int} (hT : mapZ P T = some z) (h : MapAt w m L) :
    (Instr.lookup T (.map (some m)) (.int .i64 k) true).run P w = .ok (.tuple #[(lookupL L k).getD z, .bool (lookupL L k).isSome]) w := by
  obtain ⟨kt, e, i, h1, h2, h3, h4⟩ := mapZ_is hT
  obtain ⟨Es, c, g1, rfl, _⟩ := h
  have hl := findE_look k Es 0
  have hzero : (zeroValue e).run P w = .ok z w := by simp [zeroValue, typeInfo, h3, h4]
  simp only [Instr.lookup, Sem.run_bind, run_und h1, Result.andThen_ok, run_getMap g1, Sem.run_pure, run_checkKey h2, run_findKey h2]
  cases hf : findE k Es 0 with
  | none =>
    rw [hf] at hl
    simp only [Option.map_none] at hl
    simp [← hl, hzero]
  | some r =>
    rw [hf] at hl
    simp only [Option.map_some] at hl
    simp [← hl]
end
end Go.Den
end
section
/- The library's slices functions that layer 10 calls: clones, what a row has; num.Diff. -/
open Go Go.Den Go.Proofs
namespace Go.Proofs.YtiahkkekcmgkfaaDoor
section
variable {w : World} {K : Value → World → Prop}
theorem nil_bytes : Al (eqS .eql 62 (.tmp 3) (.const (.slice none 0 0)) (.slice none 0 0) (.slice none 0 0)) (.bool true) := fun _ => by kernel_rfl
theorem some_bytes (a : Addr) (l c : Nat) : Al (eqS .eql 62 (.tmp 3) (.const (.slice none 0 0)) (.slice (some a) l c) (.slice none 0 0)) (.bool false) := fun _ => by kernel_rfl
theorem builtB0 (w : World) : (Instr.buildSlice 62 0 #[]).run Tryd.prog w = .ok (.slice (some ⟨w.heap.size, 0, none⟩) 0 0) (w.alloc (.cells #[] 5)) := by kernel_rfl
theorem own_empty {T e : TypeId} {k : Nat} (hu : Tryd.prog.underlying T = some (.slice e)) : Own Tryd.prog (w.alloc (.cells #[] e)) w.heap.size T k (some ⟨w.heap.size, 0, none⟩) 0 0 [] :=
  ⟨_, hu, by simp, .inr ⟨w.heap.size, 0, #[], rfl, Nat.le_refl _, heap_new w _, Nat.le_refl _, Nat.zero_le _, by simp, by simp⟩⟩
theorem CloneB_c {a : Option Addr} {l c : Nat} {xs : List UInt8} (hr : Row w a (u8L xs)) (hl : xs.length = l) (h0 : a = none → l = 0 ∧ c = 0) (h63 : l ≤ 1000000000)
    (hk : ∀ w' a' c', Own Tryd.prog w' w.heap.size 62 1 a' l c' (u8L xs) → Mod No w w' → K (.slice a' l c') w') : Cal Tryd.prog F_slices_Clone_byte #[.slice a l c] w K := by
  apply C_slices_Clone_byte
  unfold D_slices_Clone_byte
  cases a with
  | none =>
    obtain ⟨rfl, rfl⟩ := h0 rfl
    have hx : xs = [] := List.eq_nil_of_length_eq_zero hl
    subst hx
    exact ⟨_, nil_bytes, tt rfl (hk w none 0 (Own.nil elemZ_bytes) (Mod.refl _ _))⟩
  | some q =>
    refine ⟨_, some_bytes _ _ _, ff rfl ⟨_, _, _, _, builtB0 w, ?_⟩⟩
    have m1 : Mod No w (w.alloc (.cells #[] 5)) := (Mod.refl No w).alloc _
    have hu : Tryd.prog.underlying 62 = some (.slice 5) := by kernel_rfl
    obtain ⟨a', c', w2, h2, o2, m2⟩ := (own_empty (w := w) (k := 1) hu).append (ty := 62) elemZ_bytes (by omega) (a2 := some q) (m := l) (c2 := c) (ys := u8L xs) (hr.nos m1) (by simp [hl]) (fun e => by cases e) (one_u8L xs) (by omega) (by omega) (by simp)
    rw [Nat.zero_add, List.nil_append] at *
    exact ⟨_, _, _, w2, h2, hk w2 a' c' o2 (m1.up m2 (Nat.le_refl _))⟩
end
end Go.Proofs.YtiahkkekcmgkfaaDoor
end
