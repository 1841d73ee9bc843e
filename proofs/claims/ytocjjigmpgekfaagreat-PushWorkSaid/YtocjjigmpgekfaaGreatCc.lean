/- Parts of the proof, in order: what the statement leans on. -/
import Derived.Test.YtocjjigmpgekfaaGreatCb
section
/- Slices that grow: append, and bytes as strings. -/
open Go Go.Den
namespace Go.Den
section
variable {P : Program} {w : World}

theorem Mod.grown {b : World} {row : Option Nat} (h : w.grownBy b row) : Mod (fun x => row = some x) w b :=
  ⟨h.tape, h.os, h.output, h.size, fun k hk hn => h.block k hk (fun e => hn e.symm)⟩

/-- A row of one's own: in a block from base on. -/
def Own (P : Program) (w : World) (base : Nat) (T : TypeId) (k : Nat) (a : Option Addr) (l c : Nat) (xs : List Value) : Prop :=
  ∃ e, P.underlying T = some (.slice e) ∧ w.ownsRow base e k (.slice a l c) l xs

theorem Own.len {base k l c : Nat} {T : TypeId} {a : Option Addr} {xs : List Value} (h : Own P w base T k a l c xs) : xs.length = l * k := by obtain ⟨e, _, h⟩ := h; exact h.1
theorem Own.nil {base k bytes : Nat} {T : TypeId} {z : Value} (hT : elemZ P T k z bytes) : Own P w base T k none 0 0 [] := by
  obtain ⟨e, i, zv, he, _⟩ := hT.is
  exact ⟨e, he, World.ownsRow_nil w base e k⟩
theorem Own.base {base k l c : Nat} {T : TypeId} {a : Option Addr} {xs : List Value} (h : Own P w base T k a l c xs) {q : Addr} (hq : a = some q) : base ≤ q.block ∧ q.block < w.heap.size := by
  obtain ⟨e, _, h⟩ := h
  exact h.lt q.block (by rw [hq]; rfl)
theorem Own.zero {base k l c : Nat} {T : TypeId} {xs : List Value} (h : Own P w base T k none l c xs) : l = 0 ∧ c = 0 := by
  obtain ⟨e, _, h⟩ := h
  rcases h.2 with ⟨h1, h2⟩ | ⟨g, cap, cur, h1, _⟩
  · simp at h1; exact ⟨h2, h1.2⟩
  · simp at h1
theorem Own.cap {base k l c : Nat} {T : TypeId} {a : Option Addr} {xs : List Value} (h : Own P w base T k a l c xs) : l ≤ c ∧ c ≤ maxLen := by
  obtain ⟨e, _, h⟩ := h
  rcases h.2 with ⟨h1, h2⟩ | ⟨g, cap, cur, h1, _, _, h3, h4, _⟩
  · simp at h1; omega
  · simp at h1; obtain ⟨_, rfl⟩ := h1; exact ⟨h3, h4⟩
theorem Own.keep {base k l c : Nat} {T : TypeId} {a : Option Addr} {xs : List Value} {S : Nat → Prop} {w' : World} (h : Own P w base T k a l c xs) (m : Mod S w w') (hs : ∀ q, a = some q → ¬ S q.block) : Own P w' base T k a l c xs := by
  obtain ⟨e, he, h1, h2⟩ := h
  refine ⟨e, he, h1, ?_⟩
  rcases h2 with hn | ⟨g, cap, cur, hv, hb, hg, rest⟩
  · exact .inl hn
  · refine .inr ⟨g, cap, cur, hv, hb, ?_, rest⟩
    simp at hv
    exact m.keep hg (hs _ hv.1)
theorem Own.mono {base base' k l c : Nat} {T : TypeId} {a : Option Addr} {xs : List Value} (h : Own P w base T k a l c xs) (hb : base' ≤ base) : Own P w base' T k a l c xs := by
  obtain ⟨e, he, h1, h2⟩ := h
  refine ⟨e, he, h1, ?_⟩
  rcases h2 with hn | ⟨g, cap, cur, hv, hb', rest⟩
  · exact .inl hn
  · exact .inr ⟨g, cap, cur, hv, by omega, rest⟩
/-- The cells up to the capacity. -/
theorem Own.rowU {base k l c : Nat} {T : TypeId} {a : Option Addr} {xs : List Value} (h : Own P w base T k a l c xs) : RowU w a xs := by
  obtain ⟨e, he, h1, h2⟩ := h
  rcases h2 with ⟨hn, hz⟩ | ⟨g, cap, cur, hv, hb, hg, hle, _, hsz, ht⟩
  · left; exact List.eq_nil_of_length_eq_zero (by rw [h1, hz]; omega)
  · right
    simp at hv
    have hm : l * k ≤ cap * k := Nat.mul_le_mul_right _ hle
    refine ⟨g, 0, hv.1, cur.toList, e, (0, 0), hg, ?_, ?_, fun j _ _ => by simp⟩
    · rw [h1]; simp [hsz]; exact hm
    · rw [h1]; simpa using ht
theorem RowU.row {a : Option Addr} {xs : List Value} (h : RowU w a xs) : Row w a xs := by
  rcases h with h | ⟨b, o, e, h⟩
  · exact .inl h
  · exact .inr ⟨b, o, e, h.at⟩
theorem Row.keep {a : Option Addr} {xs : List Value} {S : Nat → Prop} {w' : World} (h : Row w a xs) (m : Mod S w w') (hs : ∀ q, a = some q → ¬ S q.block) : Row w' a xs := by
  rcases h with h | ⟨b, o, e, h⟩
  · exact .inl h
  · exact .inr ⟨b, o, e, h.keep m (hs _ e)⟩
theorem RowU.keep {a : Option Addr} {xs : List Value} {S : Nat → Prop} {w' : World} (h : RowU w a xs) (m : Mod S w w') (hs : ∀ q, a = some q → ¬ S q.block) : RowU w' a xs := by
  rcases h with h | ⟨b, o, e, h⟩
  · exact .inl h
  · exact .inr ⟨b, o, e, h.keep m (hs _ e)⟩
theorem Row.nos {a : Option Addr} {xs : List Value} {w' : World} (h : Row w a xs) (m : Mod No w w') : Row w' a xs := h.keep m fun _ _ => id
theorem Own.nos {base k l c : Nat} {T : TypeId} {a : Option Addr} {xs : List Value} {w' : World} (h : Own P w base T k a l c xs) (m : Mod No w w') : Own P w' base T k a l c xs := h.keep m fun _ _ => id

theorem At.cell {b o j : Nat} {xs : List Value} {v : Value} (h : At w b o xs) (hj : xs[j]? = some v) : w.cell? (Addr.add ⟨b, o, none⟩ j) = some v := by
  obtain ⟨l, t, fz, h1, h2, h3⟩ := h
  have hjn : j < xs.length := (List.getElem?_eq_some_iff.1 hj).1
  rw [add_none, cell_of h1, take_drop_get h3 j hjn, ← hj]; simp [hjn]

/-- append, of a row to a row of one's own. -/
theorem Own.append {base k bytes l c m c2 : Nat} {T ty : TypeId} {z : Value} {a a2 : Option Addr} {xs ys : List Value} (hT : elemZ P T k z bytes) (hk : 0 < k) (h : Own P w base T k a l c xs)
    (hr : Row w a2 ys) (hl : ys.length = m * k) (h0 : a2 = none → m = 0 ∧ c2 = 0) (h1 : ∀ v ∈ ys, v.oneCell' = true) (h63 : (l + m) * bytes ≤ 140737488355328) (hb : 0 < bytes) (hbase : base ≤ w.heap.size) :
    ∃ a' c' w', (Builtin.append_ #[T, T] ty #[.slice a l c, .slice a2 m c2]).run P w = .ok (.slice a' (l + m) c') w' ∧ Own P w' base T k a' (l + m) c' (xs ++ ys) ∧ Mod (fun x => base ≤ x) w w' := by
  obtain ⟨e, i, zv, he, hi, hsz, hz, hzc, hby⟩ := hT.is
  obtain ⟨e', he', how⟩ := h
  have : e' = e := by rw [he] at he'; simpa using he'.symm
  subst this
  have h63' : l + m ≤ maxLen := by
    have : l + m ≤ (l + m) * bytes := Nat.le_mul_of_pos_right _ hb
    simp [maxLen]; omega
  cases a2 with
  | none =>
    obtain ⟨rfl, rfl⟩ := h0 rfl
    have hy : ys = [] := List.eq_nil_of_length_eq_zero (by omega)
    subst hy
    refine ⟨a, c, w, ?_, ⟨e', he, by simpa using how⟩, Mod.refl _ _⟩
    exact run_append_owned_none w base T ty e' i k he hi _ l xs how
  | some ad =>
    have hcell : ∀ j u, ys[j]? = some u → w.cell? (ad.add j) = some u := by
      intro j u hj
      rcases hr with hr | ⟨b, o, e, hat⟩
      · subst hr; simp at hj
      · simp at e; subst e; exact hat.cell hj
    obtain ⟨v', w', hrun, how', hgr, _⟩ := run_append_own w base T ty e' i zv k bytes he hi hz hsz hby (by rw [hzc]; simp) hk (.slice a l c) l xs how ad m c2 ys hl hcell h1 h63' h63 hbase
    have hv : ∃ a' c', v' = .slice a' (l + m) c' := by
      rcases how'.2 with ⟨hn, hz⟩ | ⟨g, cap, cur, hv, _⟩
      · exact ⟨none, 0, by rw [hn, hz]⟩
      · exact ⟨_, cap, hv⟩
    obtain ⟨a', c', rfl⟩ := hv
    refine ⟨a', c', w', hrun, ⟨e', he, how'⟩, (Mod.grown hgr).mono fun x hx e => ?_⟩
    exact (how.lt x e).1

/-- append, that turns no other block than the row's own. -/
theorem Own.append' {base k bytes l c m c2 : Nat} {T ty : TypeId} {z : Value} {a a2 : Option Addr} {xs ys : List Value} (hT : elemZ P T k z bytes) (hk : 0 < k) (h : Own P w base T k a l c xs)
    (hr : Row w a2 ys) (hl : ys.length = m * k) (h0 : a2 ≠ none) (h1 : ∀ v ∈ ys, v.oneCell' = true) (h63 : (l + m) * bytes ≤ 140737488355328) (hb : 0 < bytes) (hbase : base ≤ w.heap.size) :
    ∃ a' c' w', (Builtin.append_ #[T, T] ty #[.slice a l c, .slice a2 m c2]).run P w = .ok (.slice a' (l + m) c') w' ∧ Own P w' base T k a' (l + m) c' (xs ++ ys) ∧ Mod (fun x => ∃ q, a = some q ∧ x = q.block) w w' := by
  obtain ⟨e, i, zv, he, hi, hsz, hz, hzc, hby⟩ := hT.is
  obtain ⟨e', he', how⟩ := h
  have : e' = e := by rw [he] at he'; simpa using he'.symm
  subst this
  have h63' : l + m ≤ maxLen := by
    have : l + m ≤ (l + m) * bytes := Nat.le_mul_of_pos_right _ hb
    simp [maxLen]; omega
  cases a2 with
  | none => exact absurd rfl h0
  | some ad =>
    have hcell : ∀ j u, ys[j]? = some u → w.cell? (ad.add j) = some u := by
      intro j u hj
      rcases hr with hr | ⟨b, o, e, hat⟩
      · subst hr; simp at hj
      · simp at e; subst e; exact hat.cell hj
    obtain ⟨v', w', hrun, how', hgr, _⟩ := run_append_own w base T ty e' i zv k bytes he hi hz hsz hby (by rw [hzc]; simp) hk (.slice a l c) l xs how ad m c2 ys hl hcell h1 h63' h63 hbase
    have hv : ∃ a' c', v' = .slice a' (l + m) c' := by
      rcases how'.2 with ⟨hn, hz⟩ | ⟨g, cap, cur, hv, _⟩
      · exact ⟨none, 0, by rw [hn, hz]⟩
      · exact ⟨_, cap, hv⟩
    obtain ⟨a', c', rfl⟩ := hv
    refine ⟨a', c', w', hrun, ⟨e', he, how'⟩, (Mod.grown hgr).mono fun x hx e => ?_⟩
    cases a with
    | none => cases e
    | some q => exact ⟨q, rfl, by simpa [Value.ownBlock] using e.symm⟩

theorem foldl_push : ∀ (xs : List UInt8) (r : List UInt8), (xs.map fun x => (x.toNat : Int)).foldl (fun r n => r.push (UInt8.ofNat n.toNat)) (⟨r.toArray⟩ : ByteArray) = ⟨(r ++ xs).toArray⟩
  | [], r => by simp
  | x :: xs, r => by
    have := foldl_push xs (r ++ [x])
    simp only [List.map_cons, List.foldl_cons]
    have e : ByteArray.push (⟨r.toArray⟩ : ByteArray) (UInt8.ofNat ((x.toNat : Int)).toNat) = ⟨(r ++ [x]).toArray⟩ := by
      simp [ByteArray.push]
    rw [e, this]; simp

def bytesT (P : Program) (S T : TypeId) : Bool :=
  match P.underlying S with
  | some (.slice e) => match P.underlying e with
    | some (.int .u8) => match P.underlying T with | some .string => true | _ => false
    | _ => false
  | _ => false
/-- Bytes as a string. -/
theorem str_run {S T : TypeId} {a : Option Addr} {l c : Nat} {xs : List UInt8} (hT : bytesT P S T = true) (hr : Row w a (u8L xs)) (hl : xs.length = l) : (convert S T (.slice a l c)).run P w = .ok (.string ⟨xs.toArray⟩) w := by
  have hT' : ∃ e, P.underlying S = some (.slice e) ∧ P.underlying e = some (.int .u8) ∧ P.underlying T = some .string := by
    unfold bytesT at hT
    split at hT
    · rename_i e he
      split at hT
      · rename_i h1
        split at hT
        · rename_i h2; exact ⟨e, he, h1, h2⟩
        · cases hT
      · cases hT
    · cases hT
  obtain ⟨e, h1, h2, h3⟩ := hT'
  rw [run_convert_bytes_string w S T e a l c h1 h2 h3]
  have hmap : u8L xs = (xs.map fun x => (x.toNat : Int)).map (Value.int .u8) := by simp [u8L, u8]
  cases a with
  | none =>
    rcases hr with hr | ⟨b, o, e, _⟩
    · have : xs = [] := by simpa [u8L] using hr
      subst this; rfl
    · cases e
  | some ad =>
    have hload : (loadCells ad l).run P w = .ok ((xs.map fun x => (x.toNat : Int)).map (Value.int .u8)).toArray w := by
      rcases hr with hr | ⟨b, o, e, hat⟩
      · have : xs = [] := by simpa [u8L] using hr
        subst this; subst hl; rfl
      · simp at e; subst e
        have := hat.cells (P := P) (n := l) (by simp; omega)
        rw [this, ← hmap]
        congr 1
        have : (u8L xs).take l = u8L xs := List.take_of_length_le (by simp; omega)
        rw [this]
    rw [run_bytesToString w ad l c _ hload]
    have := foldl_push xs []
    simp only [List.nil_append] at this
    rw [← this]; rfl
end
end Go.Den
end
section
/- Layer 1 of the document's answers: bytes of numbers, bytes over bytes, lent rows and whether they are kept. -/
open Go Go.Den Go.Proofs
namespace Go.Den
def nI (x : List Value) (i : Nat) : Int := match nth x i with | .int _ n => n | _ => 0
section
variable {P : Program} {w : World}
theorem Own.sm {base k l c : Nat} {T : TypeId} {a : Option Addr} {xs : List Value} (h : Own P w base T k a l c xs) (hl : 0 < l) : ∃ g, a = some ⟨g, 0, none⟩ ∧ base ≤ g ∧ AtU w g 0 xs := by
  obtain ⟨e, he, h1, h2⟩ := h
  rcases h2 with ⟨hn, hz⟩ | ⟨g, cap, cur, hv, hb, hg, hle, _, hsz, ht⟩
  · omega
  · simp at hv
    have hm : l * k ≤ cap * k := Nat.mul_le_mul_right _ hle
    refine ⟨g, hv.1, hb, cur.toList, e, (0, 0), hg, ?_, ?_, fun j _ _ => by simp⟩
    · rw [h1]; simp [hsz]; exact hm
    · rw [h1]; simpa using ht
/-- append of one new value. -/
theorem Own.snoc {base k bytes l c : Nat} {T ty : TypeId} {t : TypeId} {z : Value} {a : Option Addr} {xs ys : List Value} (hT : elemZ P T k z bytes) (hk : 0 < k) (h : Own P w base T k a l c xs)
    (hl : ys.length = k) (h1 : ∀ v ∈ ys, v.oneCell' = true) (h63 : (l + 1) * bytes ≤ 140737488355328) (hb : 0 < bytes) (hbase : base ≤ w.heap.size) :
    ∃ a' c' w', (Builtin.append_ #[T, T] ty #[.slice a l c, .slice (some ⟨w.heap.size, 0, none⟩) 1 1]).run P (w.alloc (.cells ⟨ys⟩ t)) = .ok (.slice a' (l + 1) c') w' ∧ Own P w' base T k a' (l + 1) c' (xs ++ ys) ∧ Mod (fun x => base ≤ x) w w' := by
  have hm : Mod No w (w.alloc (.cells ⟨ys⟩ t)) := (Mod.refl No w).alloc _
  obtain ⟨a', c', w', h2, h3, h4⟩ := (h.nos hm).append (ty := ty) hT hk (a2 := some ⟨w.heap.size, 0, none⟩) (m := 1) (c2 := 1) (ys := ys) (.inr ⟨_, _, rfl, AtU.new.at⟩) (by omega) (fun e => by cases e) h1 h63 hb (Nat.le_trans hbase hm.size)
  exact ⟨a', c', w', h2, h3, (hm.mono fun _ _ h => h.elim).trans h4 fun _ _ h => h⟩
theorem Mod.up {base : Nat} {a b c : World} (h : Mod No a b) (m : Mod (fun x => base ≤ x) b c) (hb : a.heap.size ≤ base) : Mod No a c := h.trans m fun x hx e => by omega
theorem u8L_append (xs ys : List UInt8) : u8L (xs ++ ys) = u8L xs ++ u8L ys := by simp [u8L]
end
end Go.Den
namespace Go.Proofs.YtocjjigmpgekfaaGreat

theorem built1 (w : World) (v : Int) : (Instr.buildSlice 36 1 #[(0, .int .u8 v)]).run Tryz.prog w = .ok (.slice (some ⟨w.heap.size, 0, none⟩) 1 1) (w.alloc (.cells ⟨[.int .u8 v]⟩ 5)) := by kernel_rfl
theorem builtI (w : World) (v : Int) : (Instr.buildSlice 49 1 #[(0, .int .i64 v)]).run Tryz.prog w = .ok (.slice (some ⟨w.heap.size, 0, none⟩) 1 1) (w.alloc (.cells ⟨[.int .i64 v]⟩ 3)) := by kernel_rfl
def a5 : List UInt8 := [165, 165, 165, 165, 165, 165, 165, 165]
/-- A row lent: its bytes, with eight bytes of room behind. -/
def LentAt (w : World) (b l c : Nat) (xs : List UInt8) : Prop := l = xs.length ∧ l + 8 ≤ c ∧ AtU w b 0 (u8L (xs ++ a5))
theorem LentAt.row {w : World} {b l c : Nat} {xs : List UInt8} (h : LentAt w b l c xs) : Row w (some ⟨b, 0, none⟩) (u8L xs) := by
  obtain ⟨h1, h2, h3⟩ := h
  refine .inr ⟨b, 0, rfl, ?_⟩
  have := h3.at.sub (i := 0) (m := xs.length) (by simp)
  simpa [u8L] using this
theorem LentAt.keep {w w' : World} {b l c : Nat} {xs : List UInt8} {S : Nat → Prop} (h : LentAt w b l c xs) (m : Mod S w w') (hb : ¬ S b) : LentAt w' b l c xs := ⟨h.1, h.2.1, h.2.2.keep m hb⟩

end Go.Proofs.YtocjjigmpgekfaaGreat
end
section
/- The library's slices functions that layer 10 calls, at rows of ints and of bytes. -/
open Go Go.Den Go.Proofs
namespace Go.Den
section
variable {P : Program} {w : World}
/-- A store into a row of one's own. -/
theorem Own.set {base l c g i : Nat} {T T' : TypeId} {ys : List Value} {v : Value} (h : Own P w base T 1 (some ⟨g, 0, none⟩) l c ys) (hT : scal P T' = true) (hi : i < l) (hv : v.oneCell' = true) :
    ∃ w', (Instr.storeAt T' (.pointer (some ⟨g, i, none⟩)) v).run P w = .ok () w' ∧ Own P w' base T 1 (some ⟨g, 0, none⟩) l c (ys.set i v) ∧ Mod (fun x => x = g) w w' := by
  have hlen := h.len
  obtain ⟨e, he, h1, h2⟩ := h
  rcases h2 with ⟨hn, _⟩ | ⟨g', cap, cur, hw, hb, hg, hle, hm, hsz, ht⟩
  · cases hn
  · simp at hw
    obtain ⟨rfl, rfl⟩ := hw
    have hcur : w.heap[g]? = some (.cells ⟨cur.toList⟩ e (0, 0)) := hg
    have hci : i < cur.toList.length := by simp [hsz]; omega
    refine ⟨_, store_cell hT hcur hci (by simp) hv, ⟨e, he, by simpa using h1, .inr ⟨g, c, ⟨cur.toList.set i v⟩, rfl, hb, heap_put_same (lt_of_heap hg), hle, hm, by simp [hsz], ?_⟩⟩, (Mod.refl (fun x => x = g) w).put (.inr rfl) _⟩
    show (cur.toList.set i v).take (l * 1) = ys.set i v
    rw [List.take_set, ht]
/-- A row of one's own, shorter. -/
theorem Own.shrink {base l c i : Nat} {T : TypeId} {a : Option Addr} {ys : List Value} (h : Own P w base T 1 a l c ys) (hi : i ≤ l) (ha : a ≠ none) : Own P w base T 1 a i c (ys.take i) := by
  have hlen := h.len
  obtain ⟨e, he, h1, h2⟩ := h
  rcases h2 with ⟨hn, _⟩ | ⟨g', cap, cur, hw, hb, hg, hle, hm, hsz, ht⟩
  · simp at hn; exact absurd hn.1 ha
  · simp at hw
    obtain ⟨rfl, rfl⟩ := hw
    refine ⟨e, he, by simp; omega, .inr ⟨g', c, cur, rfl, hb, hg, by omega, hm, hsz, ?_⟩⟩
    rw [← ht, List.take_take, Nat.min_eq_left (by omega)]; simp
/-- clear of a row's end. -/
theorem Own.clear {base bytes l c g i : Nat} {T ty : TypeId} {z : Value} {ys : List Value} (hT : elemZ P T 1 z bytes) (h : Own P w base T 1 (some ⟨g, 0, none⟩) l c ys) (hi : i ≤ l) (hz : z.oneCell' = true) :
    ∃ w' zs, (Builtin.clear_ #[T] ty #[.slice (cutA (some ⟨g, 0, none⟩) c i 1) (l - i) (c - i)]).run P w = .ok (.tuple #[]) w' ∧ Own P w' base T 1 (some ⟨g, 0, none⟩) l c (ys.take i ++ zs) ∧ Mod (fun x => x = g) w w' := by
  have hlen := h.len
  have hcap := h.cap
  obtain ⟨e0, inf, zv, he0, hinf, hsz0, hz0, hzc, hby⟩ := hT.is
  by_cases h0 : l - i = 0
  · refine ⟨w, [], ?_, ?_, Mod.refl _ _⟩
    · rw [h0]
      unfold cutA
      split <;> simp [Builtin.clear_, run_und he0]
    · have : ys.take i = ys := List.take_of_length_le (by omega)
      rw [this, List.append_nil]; exact h
  · obtain ⟨e, he, h1, h2⟩ := h
    have hee : e = e0 := by rw [he0] at he; simpa using he.symm
    subst hee
    rcases h2 with ⟨hn, _⟩ | ⟨g', cap, cur, hw, hb, hg, hle, hm, hsz, ht⟩
    · cases hn
    · simp at hw
      obtain ⟨rfl, rfl⟩ := hw
      have hcur : w.heap[g]? = some (.cells ⟨cur.toList⟩ e (0, 0)) := hg
      have hcut : cutA (some ⟨g, 0, none⟩) c i 1 = some ⟨g, i, none⟩ := by
        unfold cutA; rw [if_neg (by omega)]; simp [add_none]
      have hzl : (Builtin.zeroCells zv.cells (l - i)).toList.length = l - i := by
        rw [Array.length_toList, size_zeroCells, hzc]; simp
      have hzone : ∀ v ∈ (Builtin.zeroCells zv.cells (l - i)).toList, v.oneCell' = true := by
        intro v hv
        have : v = z := by
          unfold Builtin.zeroCells at hv
          rw [hzc] at hv
          simp at hv
          obtain ⟨_, _, rfl⟩ := hv
          rw [Nat.mod_one]; rfl
        rw [this]; exact hz
      have hs := store_cells (P := P) (Builtin.zeroCells zv.cells (l - i)).toList (o := i) (i := 0) hcur (by rw [hzl]; simp [hsz]; omega) (fun j _ _ => by simp) hzone
      refine ⟨_, (Builtin.zeroCells zv.cells (l - i)).toList, ?_, ⟨e, he, by simp [hzl]; omega, .inr ⟨g, c, ⟨splice cur.toList i (Builtin.zeroCells zv.cells (l - i)).toList⟩, rfl, hb, heap_put_same (lt_of_heap hg), hle, hm, ?_, ?_⟩⟩, (Mod.refl (fun x => x = g) w).put (.inr rfl) _⟩
      · rw [hcut]
        obtain ⟨k, hk⟩ : ∃ k, l - i = k + 1 := ⟨l - i - 1, by omega⟩
        rw [hk] at hs ⊢
        have hund : (underlying T).run P w = .ok (.slice e) w := run_und he w
        simp [Builtin.clear_, hund, zeroValue, typeInfo, hinf, hz0, hs]
      · show (splice cur.toList i _).length = c * 1
        rw [length_splice (by rw [hzl]; simp [hsz]; omega)]; simp [hsz]
      · show (splice cur.toList i _).take (l * 1) = _
        unfold splice
        rw [Nat.mul_one] at ht ⊢
        have e1 : ys.take i = cur.toList.take i := by rw [← ht, List.take_take, Nat.min_eq_left hi]
        have hl2 : (cur.toList.take i ++ (Builtin.zeroCells zv.cells (l - i)).toList).length = l := by rw [List.length_append, hzl]; simp [hsz]; omega
        rw [e1, List.take_append_of_le_length (by omega), List.take_of_length_le (by omega)]
end
end Go.Den
end
section
/- The library's slices functions that layer 10 calls: contracts. -/
open Go Go.Den Go.Proofs
namespace Go.Den
/-- The first place with a mark. -/
def idxF {α : Type} (p : α → Bool) : List α → Nat → Int
  | [], _ => -1
  | x :: r, i => if p x = true then i else idxF p r (i + 1)
theorem idxF_cases {α : Type} (p : α → Bool) : ∀ (xs : List α) (i : Nat), (idxF p xs i = -1 ∧ ∀ x ∈ xs, p x = false) ∨ ∃ j x, idxF p xs i = ((i + j : Nat) : Int) ∧ xs[j]? = some x ∧ p x = true ∧ ∀ y ∈ xs.take j, p y = false
  | [], _ => .inl ⟨rfl, by simp⟩
  | x :: r, i => by
    simp only [idxF]
    by_cases hp : p x = true
    · rw [if_pos hp]
      exact .inr ⟨0, x, by simp, rfl, hp, by simp⟩
    · rw [if_neg hp]
      have hp : p x = false := by simpa using hp
      rcases idxF_cases p r (i + 1) with ⟨h1, h2⟩ | ⟨j, y, h1, h2, h3, h4⟩
      · refine .inl ⟨h1, fun y hy => ?_⟩
        rcases List.mem_cons.1 hy with rfl | hy
        · exact hp
        · exact h2 y hy
      · refine .inr ⟨j + 1, y, by rw [h1]; congr 1; omega, by simpa using h2, h3, fun z hz => ?_⟩
        rw [List.take_succ_cons] at hz
        rcases List.mem_cons.1 hz with rfl | hz
        · exact hp
        · exact h4 z hz
theorem drop_get {α : Type} {xs : List α} {i : Nat} (hi : i < xs.length) : xs.drop i = xs[i] :: xs.drop (i + 1) := List.drop_eq_getElem_cons hi
theorem row_some {w : World} {a : Option Addr} {xs : List Int} {i : Nat} (h : Row w a (iL xs)) (hi : i < xs.length) : ∃ b o, a = some ⟨b, o, none⟩ ∧ At w b o (iL xs) := by
  refine h.resolve_left fun e => ?_
  have := congrArg List.length e
  simp at this; rw [this] at hi; simp at hi
end Go.Den
namespace Go.Proofs.YtocjjigmpgekfaaGreat
/-- A function value that tells of each of some numbers, whatever turns in S. -/
def Tells (v : Value) (w0 : World) (S : Nat → Prop) (p : Int → Bool) (xs : List Int) : Prop :=
  ∀ w', Mod S w0 w' → ∀ x ∈ xs, ∀ K : Value → World → Prop, (∀ w'', Mod No w' w'' → K (.bool (p x)) w'') → Dyn Tryz.prog v #[.int .i64 x] w' K
section
variable {w : World} {K : Value → World → Prop}
theorem IndexFunc_c {a : Option Addr} {l c : Nat} {xs : List Int} {v : Value} {p : Int → Bool} {S : Nat → Prop} (hl : xs.length = l) (h63 : l ≤ 9223372036854775806) (hr : Row w a (iL xs)) (ht : Tells v w S p xs)
    (hk : ∀ w', Mod No w w' → K (.int .i64 (idxF p xs 0)) w') : Cal Tryz.prog F_slices_IndexFunc_int #[.slice a l c, v] w K := by
  apply C_slices_IndexFunc_int
  unfold D_slices_IndexFunc_int
  refine ⟨fun x w1 => ∃ i : Nat, i ≤ l ∧ x = [.int .i64 i] ∧ Mod No w w1 ∧ idxF p xs 0 = idxF p (xs.drop i) i, fun x _ => (l - nI x 0).toNat, ⟨0, by omega, rfl, Mod.refl _ _, rfl⟩, ?_⟩
  rintro x w1 ⟨i, hi, rfl, hm, hidx⟩
  refine ⟨_, rfl, cond_of (fun hb => ?_) (fun hb => ?_)⟩
  · have hi : i < l := by have := of_decide_eq_true hb; omega
    have hix : i < xs.length := by omega
    obtain ⟨b, o, rfl, hat⟩ := row_some hr hix
    refine ⟨_, index_slice (k := 1) (by kernel_rfl) (by omega) (by omega), ?_⟩
    rw [add_none, show (i : Int).toNat * 1 = i by omega]
    refine ⟨_, (hat.keep hm id).load (by kernel_rfl) (iL_get hix), ht w1 (hm.mono fun _ _ h => h.elim) _ (List.getElem_mem hix) _ fun w2 m2 => ⟨_, rfl, cond_of (fun hp => ?_) (fun hp => ?_)⟩⟩
    · have e : idxF p xs 0 = i := by rw [hidx, drop_get hix]; simp only [idxF]; rw [if_pos hp]
      rw [← e]; exact hk w2 (hm.no m2)
    · rw [wrap64 (x := (i : Int) + 1) (by omega) (by omega)]
      refine ⟨⟨i + 1, by omega, rfl, hm.no m2, ?_⟩, by simp [nI, nth]; omega⟩
      rw [hidx, drop_get hix]; simp only [idxF]; rw [if_neg (by rw [hp]; simp)]
  · have hil : i = l := by have := of_decide_eq_false hb; omega
    have e : idxF p xs 0 = -1 := by rw [hidx, List.drop_eq_nil_of_le (by omega)]; rfl
    rw [← e]; exact hk w1 hm

/-- The block of a row. -/
def Of (a : Option Addr) : Nat → Prop := fun x => ∃ q, a = some q ∧ x = q.block
theorem keep_step {α : Type} {p : α → Bool} {xs ys : List α} {i j : Nat} (h1 : ys.take i = (xs.take j).filter fun x => !p x) (h2 : ys.drop j = xs.drop j) (h3 : ys.length = xs.length) (hij : i < j) (hj : j < xs.length) (hp : p xs[j] = false) :
    (ys.set i xs[j]).take (i + 1) = (xs.take (j + 1)).filter (fun x => !p x) ∧ (ys.set i xs[j]).drop (j + 1) = xs.drop (j + 1) := by
  constructor
  · rw [List.take_succ_eq_append_getElem (by simp; omega), List.take_set_of_le (by omega), h1, List.take_succ_eq_append_getElem hj, List.filter_append]
    simp [hp]
  · rw [List.drop_set_of_lt (by omega), ← List.drop_drop, h2, List.drop_drop]
theorem DeleteFunc_c {base : Nat} {a : Option Addr} {l c : Nat} {xs : List Int} {v : Value} {p : Int → Bool} (h : Own Tryz.prog w base 49 1 a l c (iL xs)) (h63 : l ≤ 1000000000) (ht : Tells v w (Of a) p xs)
    (hk : ∀ w' l', Own Tryz.prog w' base 49 1 a l' c (iL (xs.filter fun x => !p x)) → l' = (xs.filter fun x => !p x).length → Mod (Of a) w w' → K (.slice a l' c) w') : Cal Tryz.prog F_slices_DeleteFunc_int #[.slice a l c, v] w K := by
  have hlen : xs.length = l := by have := h.len; simpa using this
  apply C_slices_DeleteFunc_int
  unfold D_slices_DeleteFunc_int
  refine IndexFunc_c hlen (by omega) h.rowU.row ht fun w1 m1 => ⟨_, rfl, ?_⟩
  rcases idxF_cases p xs 0 with ⟨e, hno⟩ | ⟨i0, x0, e, hx0, hp0, hbef⟩
  · rw [e]
    refine tt rfl ?_
    have hf : xs.filter (fun x => !p x) = xs := List.filter_eq_self.2 fun x hx => by simp [hno x hx]
    exact hk w1 l (by rw [hf]; exact h.nos m1) (by rw [hf]; exact hlen.symm) (m1.mono fun _ _ h => h.elim)
  rw [e, Nat.zero_add]
  obtain ⟨hi0, hx0'⟩ := List.getElem?_eq_some_iff.1 hx0
  have hla : 0 < l := by omega
  obtain ⟨g, rfl, hg, _⟩ := h.sm hla
  have hcap := h.cap
  refine ff (by simp <;> omega) ⟨fun x w2 => ∃ (i j : Nat) (ys : List Int), x = [.int .i64 i, .int .i64 j] ∧ i < j ∧ j ≤ l ∧ Own Tryz.prog w2 base 49 1 (some ⟨g, 0, none⟩) l c (iL ys) ∧ ys.take i = ((xs.take j).filter fun x => !p x) ∧ ys.drop j = xs.drop j ∧ Mod (Of (some ⟨g, 0, none⟩)) w w2,
    fun x _ => (l - nI x 1).toNat, ⟨i0, i0 + 1, xs, ?_, by omega, by omega, h.nos m1, ?_, rfl, m1.mono fun _ _ h => h.elim⟩, ?_⟩
  · rw [wrap64 (x := (i0 : Int) + 1) (by omega) (by omega)]; rfl
  · rw [List.take_succ_eq_append_getElem hi0, List.filter_append, hx0']
    have e1 : (xs.take i0).filter (fun x => !p x) = xs.take i0 := List.filter_eq_self.2 fun x hx => by simp [hbef x hx]
    rw [e1]; simp [hp0]
  rintro x w2 ⟨i, j, ys, rfl, hij, hjl, o2, h1, h2, M2⟩
  have hyl : ys.length = l := by have := o2.len; simpa using this
  refine ⟨_, rfl, cond_of (fun hb => ?_) (fun hb => ?_)⟩
  · have hj : j < l := by have := of_decide_eq_true hb; omega
    have hjx : j < xs.length := by omega
    have hjy : j < ys.length := by omega
    have hyx : ys[j] = xs[j] := by
      have e1 := (drop_get hjy).symm.trans (h2.trans (drop_get hjx))
      exact (List.cons.inj e1).1
    obtain ⟨b2, o, e2, hat⟩ := row_some o2.rowU.row hjy
    simp at e2
    obtain ⟨rfl, rfl⟩ := e2
    refine ⟨_, index_slice (k := 1) (by kernel_rfl) (by omega) (by omega), ?_⟩
    rw [add_none, show (j : Int).toNat * 1 = j by omega]
    refine ⟨_, hat.load (by kernel_rfl) (iL_get hjy), ht w2 M2 _ (by rw [hyx]; exact List.getElem_mem hjx) _ fun w3 m3 => ⟨_, rfl, ?_⟩⟩
    rw [hyx]
    refine Share.cut (fun z w4 => ∃ (i' : Nat) (ys' : List Int), z = [.int .i64 i'] ∧ i' < j + 1 ∧ Own Tryz.prog w4 base 49 1 (some ⟨g, 0, none⟩) l c (iL ys') ∧ ys'.take i' = ((xs.take (j + 1)).filter fun x => !p x) ∧ ys'.drop (j + 1) = xs.drop (j + 1) ∧ Mod (Of (some ⟨g, 0, none⟩)) w w4)
      (cond_of (fun hp => ?_) (fun hp => ?_)) ?_
    · have hp : p xs[j] = false := by simpa using hp
      refine ⟨_, rfl, _, index_slice (k := 1) (by kernel_rfl) (by omega) (by omega), ?_⟩
      rw [add_none, show 0 + (i : Int).toNat * 1 = i by omega]
      obtain ⟨w4, s1, s2, s3⟩ := (o2.nos m3).set (T' := 3) (i := i) (v := .int .i64 xs[j]) (by kernel_rfl) (by omega) rfl
      refine ⟨w4, s1, ?_⟩
      obtain ⟨k1, k2⟩ := keep_step h1 h2 (by omega) hij hjx hp
      rw [wrap64 (x := (i : Int) + 1) (by omega) (by omega)]
      refine ⟨i + 1, ys.set i xs[j], rfl, by omega, ?_, k1, k2, (M2.no m3).trans s3 fun x _ e => ⟨_, rfl, e⟩⟩
      have e3 : (iL ys).set i (.int .i64 xs[j]) = iL (ys.set i xs[j]) := by simp [iL, List.map_set, I]
      rw [e3] at s2; exact s2
    · have hp : p xs[j] = true := by simpa using hp
      refine ⟨i, ys, rfl, by omega, o2.nos m3, ?_, ?_, M2.no m3⟩
      · rw [h1, List.take_succ_eq_append_getElem hjx, List.filter_append]; simp [hp]
      · rw [← List.drop_drop, h2, List.drop_drop]
    · rintro z w4 ⟨i', ys', rfl, hij', o4, k1, k2, M4⟩
      rw [wrap64 (x := (j : Int) + 1) (by omega) (by omega)]
      exact ⟨⟨i', j + 1, ys', rfl, hij', by omega, o4, k1, k2, M4⟩, by simp [nI, nth]; omega⟩
  · have hjl : j = l := by have := of_decide_eq_false hb; omega
    subst hjl
    refine ⟨_, rfl, _, _, _, slice_l (k := 1) (by kernel_rfl) (by omega) (by omega), ?_⟩
    rw [Int.toNat_natCast]
    obtain ⟨w3, zs, s1, s2, s3⟩ := o2.clear (ty := 0) elemZ_ints (i := i) (by omega) rfl
    refine ⟨w3, s1, _, _, _, slice_h (k := 1) (by kernel_rfl) (by omega) (by omega), ?_⟩
    have hcut : cutA (some ⟨g, 0, none⟩) c 0 1 = some ⟨g, 0, none⟩ := by
      unfold cutA; rw [if_neg (by omega)]; simp [add_none]
    rw [hcut, Int.toNat_natCast]
    have hxall : xs.take j = xs := List.take_of_length_le (by omega)
    rw [hxall] at h1
    have hsh := s2.shrink (i := i) (by omega) (by simp)
    have e5 : ((iL ys).take i ++ zs).take i = iL (xs.filter fun x => !p x) := by
      rw [← h1]
      have : ((iL ys).take i).length = i := by simp; omega
      rw [List.take_append_of_le_length (by omega), List.take_of_length_le (by omega)]
      simp [iL, List.map_take]
    rw [e5] at hsh
    refine hk w3 i hsh ?_ (M2.trans s3 fun x _ e => ⟨_, rfl, e⟩)
    rw [← h1]; simp; omega
end
end Go.Proofs.YtocjjigmpgekfaaGreat
end
section
/- Maps with keys that are ints, in memory: what the operations do there. -/
open Go Go.Den
namespace Go.Den
abbrev Ent := Int × Value × Nat
def toE (e : Ent) : MapEntry := ⟨.int .i64 e.1, e.2.1, e.2.2⟩
def kv (e : Ent) : Int × Value := (e.1, e.2.1)
def findE (k : Int) : List Ent → Nat → Option (Nat × Value)
  | [], _ => none
  | e :: r, i => if e.1 = k then some (i, e.2.1) else findE k r (i + 1)
def putE (k : Int) (v : Value) (b : Nat) : List Ent → List Ent
  | [] => [(k, v, b)]
  | e :: r => if e.1 = k then (k, v, e.2.2) :: r else e :: putE k v b r
def lookupL : List (Int × Value) → Int → Option Value
  | [], _ => none
  | p :: r, k => if p.1 = k then some p.2 else lookupL r k
def putL (k : Int) (v : Value) : List (Int × Value) → List (Int × Value)
  | [] => [(k, v)]
  | p :: r => if p.1 = k then (k, v) :: r else p :: putL k v r

theorem findE_look (k : Int) : ∀ (Es : List Ent) (i : Nat), (findE k Es i).map (·.2) = lookupL (Es.map kv) k
  | [], _ => rfl
  | e :: r, i => by
    simp only [findE, List.map_cons, lookupL, kv]
    by_cases h : e.1 = k
    · rw [if_pos h, if_pos h]; rfl
    · rw [if_neg h, if_neg h]; exact findE_look k r (i + 1)
theorem putE_kv (k : Int) (v : Value) (b : Nat) : ∀ Es : List Ent, (putE k v b Es).map kv = putL k v (Es.map kv)
  | [] => rfl
  | e :: r => by
    simp only [putE, List.map_cons, putL, kv]
    by_cases h : e.1 = k
    · rw [if_pos h, if_pos h]; rfl
    · rw [if_neg h, if_neg h, List.map_cons, putE_kv k v b r]; rfl
theorem findNow_E (q : IntKind) (k : Int) : ∀ (Es : List Ent) (i : Nat), Instr.findNow (.int q) (.int .i64 k) (Es.map toE) i = some (findE k Es i)
  | [], _ => rfl
  | e :: r, i => by
    simp only [List.map_cons, Instr.findNow, toE, Instr.sameNow, findE, if_true]
    by_cases h : e.1 = k
    · have : (k == e.1) = true := by simp [h]
      rw [if_pos h, this]
    · have : (k == e.1) = false := by simp; exact fun e => h e.symm
      rw [if_neg h, this]
      exact findNow_E q k r (i + 1)
theorem findE_modify (k : Int) (v : Value) (b : Nat) : ∀ (Es : List Ent) (i j : Nat) (u : Value), findE k Es i = some (j, u) → i ≤ j ∧ (Es.map toE).modify (j - i) (fun e => { e with key := .int .i64 k, val := v }) = (putE k v b Es).map toE ∧ ((Es.map toE)[j - i]?.map (·.key)) = some (.int .i64 k)
  | [], i, j, u, h => by cases h
  | e :: r, i, j, u, h => by
    simp only [findE] at h
    by_cases he : e.1 = k
    · rw [if_pos he] at h
      have h := Option.some.inj h
      simp only [Prod.mk.injEq] at h
      obtain ⟨rfl, _⟩ := h
      refine ⟨Nat.le_refl _, ?_, ?_⟩
      · simp only [putE, if_pos he, List.map_cons, Nat.sub_self, List.modify_zero_cons, toE]
      · simp [toE, he]
    · rw [if_neg he] at h
      obtain ⟨h1, h2, h3⟩ := findE_modify k v b r (i + 1) j u h
      refine ⟨by omega, ?_, ?_⟩
      · rw [show j - i = (j - (i + 1)) + 1 by omega]
        simp only [putE, if_neg he, List.map_cons, List.modify_succ_cons, h2]
      · rw [show j - i = (j - (i + 1)) + 1 by omega]
        simpa using h3
theorem findE_none (k : Int) (v : Value) (b : Nat) : ∀ (Es : List Ent) (i : Nat), findE k Es i = none → putE k v b Es = Es ++ [(k, v, b)] ∧ ∀ e ∈ Es, e.1 ≠ k
  | [], _, _ => ⟨rfl, by simp⟩
  | e :: r, i, h => by
    simp only [findE] at h
    by_cases he : e.1 = k
    · rw [if_pos he] at h; cases h
    · rw [if_neg he] at h
      obtain ⟨h1, h2⟩ := findE_none k v b r (i + 1) h
      refine ⟨by simp only [putE, if_neg he, h1, List.cons_append], fun x hx => ?_⟩
      rcases List.mem_cons.1 hx with rfl | hx
      · exact he
      · exact h2 x hx
theorem putE_born (k : Int) (v : Value) (b : Nat) : ∀ (Es : List Ent) (i : Nat), findE k Es i ≠ none → (putE k v b Es).map (·.2.2) = Es.map (·.2.2) ∧ (putE k v b Es).map (·.1) = Es.map (·.1)
  | [], _, h => absurd rfl h
  | e :: r, i, h => by
    simp only [findE] at h
    by_cases he : e.1 = k
    · simp [putE, he]
    · rw [if_neg he] at h
      obtain ⟨h1, h2⟩ := putE_born k v b r (i + 1) h
      simp [putE, he, h1, h2]

/-- A map in memory. -/
def MapAt (w : World) (m : Nat) (L : List (Int × Value)) : Prop :=
  ∃ (Es : List Ent) (clock : Nat), w.heap[m]? = some (.map (Es.map toE).toArray clock) ∧ Es.map kv = L ∧ (Es.map (·.1)).Nodup ∧ (∀ e ∈ Es, e.2.2 < clock) ∧ (Es.map (·.2.2)).Nodup
section
variable {P : Program} {w : World}
theorem MapAt.lt {m : Nat} {L : List (Int × Value)} (h : MapAt w m L) : m < w.heap.size := by obtain ⟨_, _, h, _⟩ := h; exact lt_of_heap h
theorem MapAt.keep {m : Nat} {L : List (Int × Value)} {S : Nat → Prop} {w' : World} (h : MapAt w m L) (hm : Mod S w w') (hs : ¬ S m) : MapAt w' m L := by
  obtain ⟨Es, c, h1, h2⟩ := h; exact ⟨Es, c, hm.keep h1 hs, h2⟩
theorem MapAt.drew {m : Nat} {L : List (Int × Value)} (h : MapAt w m L) : MapAt (drew w) m L := h
theorem MapAt.nodup {m : Nat} {L : List (Int × Value)} (h : MapAt w m L) : (L.map (·.1)).Nodup := by
  obtain ⟨Es, c, _, rfl, h, _⟩ := h
  rw [List.map_map]; exact h
theorem MapAt.ne_cells {m b o : Nat} {L : List (Int × Value)} {cs : List Value} (h : MapAt w m L) (k : At w b o cs) : b ≠ m := by
  rintro rfl
  obtain ⟨Es, c, h, _⟩ := h
  obtain ⟨l, t, fz, k, _⟩ := k
  rw [h] at k; cases k

def mapZ (P : Program) (T : TypeId) : Option Value :=
  match P.underlying T with
  | some (.map k e) => match P.underlying k with
    | some (.int .i64) => match P.info? e with | some i => i.zero | none => none
    | _ => none
  | _ => none
theorem mapZ_is {T : TypeId} {z : Value} (h : mapZ P T = some z) : ∃ k e i, P.underlying T = some (.map k e) ∧ P.underlying k = some (.int .i64) ∧ P.info? e = some i ∧ i.zero = some z := by
  unfold mapZ at h
  split at h
  · rename_i k e h1
    split at h
    · rename_i h2
      split at h
      · rename_i i h3; exact ⟨k, e, i, h1, h2, h3, h⟩
      · cases h
    · cases h
  · cases h
theorem run_checkKey {k : TypeId} {empty : Bool} {n : Int} (hk : P.underlying k = some (.int .i64)) : (Instr.checkKey empty 10000 k (.int .i64 n)).run P w = .ok () w := by
  rw [show (10000 : Nat) = 9999 + 1 from rfl, Instr.checkKey]
  simp [run_und hk]
theorem run_findKey {k : TypeId} {n : Int} {Es : List Ent} (hk : P.underlying k = some (.int .i64)) : (Instr.findKey k (.int .i64 n) (Es.map toE)).run P w = .ok (findE n Es 0) w := by
  simp [Instr.findKey, run_und hk, findNow_E]
theorem run_getMap {m : Nat} {es : Array MapEntry} {c : Nat} (h : w.heap[m]? = some (.map es c)) : (getObj m).run P w = .ok (.map es c) w := by
  simp [getObj, Sem.run, h]

theorem lookup_run {T : TypeId} {z : Value} {m : Nat} {L : List (Int × Value)} {k : Int} (hT : mapZ P T = some z) (h : MapAt w m L) :
    (Instr.lookup T (.map (some m)) (.int .i64 k) false).run P w = .ok ((lookupL L k).getD z) w := by
  obtain ⟨kt, e, i, h1, h2, h3, h4⟩ := mapZ_is hT
  obtain ⟨Es, c, g1, rfl, _⟩ := h
  have hl := findE_look k Es 0
  have hzero : (zeroValue e).run P w = .ok z w := by simp [zeroValue, typeInfo, h3, h4]
  simp only [Instr.lookup, Sem.run_bind, run_und h1, Result.andThen_ok, run_getMap g1, Sem.run_pure, run_checkKey h2, run_findKey h2]
  cases hf : findE k Es 0 with
  | none =>
    rw [hf] at hl
    simp only [Option.map_none] at hl
    simp [← hl, hzero]
  | some r =>
    rw [hf] at hl
    simp only [Option.map_some] at hl
    simp [← hl]

theorem run_setMap {m : Nat} {es : Array MapEntry} {c : Nat} {o' : Obj} (h : w.heap[m]? = some (.map es c)) : (setObj m o').run P w = .ok () (put w m o') := by
  have hlt := lt_of_heap h
  simp only [setObj, Sem.run]
  rw [h]; rfl

theorem update_run {T : TypeId} {z : Value} {m : Nat} {L : List (Int × Value)} {k : Int} {v : Value} (hT : mapZ P T = some z) (h : MapAt w m L) :
    ∃ w', (Instr.mapUpdate T (.map (some m)) (.int .i64 k) v).run P w = .ok () w' ∧ MapAt w' m (putL k v L) ∧ Mod (fun x => x = m) w w' ∧ w'.heap.size = w.heap.size := by
  obtain ⟨kt, e, i, h1, h2, h3, h4⟩ := mapZ_is hT
  obtain ⟨Es, c, g1, rfl, g3, g4, g5⟩ := h
  have hm : ∀ o, Mod (fun x => x = m) w (put w m o) := fun o => (Mod.refl (fun x => x = m) w).put (.inr rfl) _
  cases hf : findE k Es 0 with
  | none =>
    obtain ⟨e1, e2⟩ := findE_none k v c Es 0 hf
    refine ⟨put w m (.map ((putE k v c Es).map toE).toArray (c + 1)), ?_, ⟨putE k v c Es, c + 1, heap_put_same (lt_of_heap g1), putE_kv k v c Es, ?_, ?_, ?_⟩, hm _, by simp⟩
    · simp only [Instr.mapUpdate, Sem.run_bind, run_und h1, Result.andThen_ok, run_getMap g1, run_checkKey h2, run_findKey h2, hf]
      rw [run_setMap g1, e1]
      simp [toE]
    · rw [e1, List.map_append]
      refine List.nodup_append.2 ⟨g3, by simp, ?_⟩
      intro a ha b hb
      simp at hb; subst hb
      obtain ⟨x, hx, rfl⟩ := List.mem_map.1 ha
      exact e2 x hx
    · intro x hx
      rw [e1] at hx
      rcases List.mem_append.1 hx with hx | hx
      · have := g4 x hx; omega
      · simp at hx; subst hx; simp
    · rw [e1, List.map_append]
      refine List.nodup_append.2 ⟨g5, by simp, ?_⟩
      intro a ha b hb
      simp at hb; subst hb
      obtain ⟨x, hx, rfl⟩ := List.mem_map.1 ha
      have := g4 x hx; omega
  | some r =>
    obtain ⟨j, u⟩ := r
    obtain ⟨_, e1, e2⟩ := findE_modify k v c Es 0 j u hf
    rw [Nat.sub_zero] at e1 e2
    obtain ⟨b1, b2⟩ := putE_born k v c Es 0 (by rw [hf]; simp)
    refine ⟨put w m (.map ((putE k v c Es).map toE).toArray c), ?_, ⟨putE k v c Es, c, heap_put_same (lt_of_heap g1), putE_kv k v c Es, by rw [b2]; exact g3, ?_, by rw [b1]; exact g5⟩, hm _, by simp⟩
    · have hkey : (((Es.map toE).toArray[j]?).map (·.key)).getD (.int .i64 k) = .int .i64 k := by
        rw [List.getElem?_toArray, e2]; rfl
      have hstay : (Instr.keyThatStays (.int .i64 k) (.int .i64 k)).run P w = .ok (.int .i64 k) w := by
        have : Instr.sameBits 10000 (.int .i64 k) (.int .i64 k) = true := by simp [Instr.sameBits]
        simp [Instr.keyThatStays, this]
      simp only [Instr.mapUpdate, Sem.run_bind, run_und h1, Result.andThen_ok, run_getMap g1, run_checkKey h2, run_findKey h2, hf, hkey, hstay]
      rw [run_setMap g1, ← e1]
      simp
    · intro x hx
      have hx' : x.2.2 ∈ Es.map (·.2.2) := by rw [← b1]; exact List.mem_map.2 ⟨x, hx, rfl⟩
      obtain ⟨y, hy, hye⟩ := List.mem_map.1 hx'
      rw [← hye]; exact g4 y hy

theorem clear_run {T ty : TypeId} {z : Value} {m : Nat} {L : List (Int × Value)} (hT : mapZ P T = some z) (h : MapAt w m L) :
    ∃ w', (Builtin.clear_ #[T] ty #[.map (some m)]).run P w = .ok (.tuple #[]) w' ∧ MapAt w' m [] ∧ Mod (fun x => x = m) w w' ∧ w'.heap.size = w.heap.size := by
  obtain ⟨kt, e, i, h1, h2, h3, h4⟩ := mapZ_is hT
  obtain ⟨Es, c, g1, rfl, g3, g4, g5⟩ := h
  refine ⟨put w m (.map #[] c), ?_, ⟨[], c, heap_put_same (lt_of_heap g1), rfl, by simp, by simp, by simp⟩, (Mod.refl (fun x => x = m) w).put (.inr rfl) _, by simp⟩
  simp [Builtin.clear_, run_und h1, run_getMap g1, run_setMap g1]
theorem makeMap_run {T : TypeId} : (Instr.makeMap T none).run P w = .ok (.map (some w.heap.size)) (w.alloc (.map #[] 0)) := rfl
theorem MapAt.new : MapAt (w.alloc (.map #[] 0)) w.heap.size [] := ⟨[], 0, heap_new w _, rfl, by simp, by simp, by simp⟩
end
end Go.Den
end
section
/- slices.Sort on a row of one's own: its contract, off the shelf, as a proof over the denotation takes it. -/
open Go Go.Den Go.Proofs
namespace Go.Proofs.YtocjjigmpgekfaaGreat
def sorted (zs : List Int) : List Int := zs.mergeSort fun x y => decide (x ≤ y)
theorem Sort_c {base l c : Nat} {a : Option Addr} {zs : List Int} {w : World} {K : Value → World → Prop} (h : Own Tryz.prog w base 49 1 a l c (iL zs))
    (hk : ∀ w', Own Tryz.prog w' base 49 1 a l c (iL (sorted zs)) → Mod (fun x => base ≤ x) w w' → K (.tuple #[]) w') (hl62 : zs.length < 4611686018427387904) :
    Cal Tryz.prog F_slices_Sort_int #[.slice a l c] w K := by
  refine ⟨⟨_, Tryz.func101, by kernel_rfl, by kernel_rfl⟩, ?_⟩
  have hlen : zs.length = l := by have := h.len; simpa using this
  obtain ⟨e, he, h1, h2⟩ := h
  rcases h2 with ⟨hv, hz⟩ | ⟨g, cap, cur, hv, hb, hg, hle, hm, hsz, ht⟩
  · subst hz
    simp at hv
    obtain ⟨rfl, rfl⟩ := hv
    have hzs : zs = [] := List.eq_nil_of_length_eq_zero hlen
    subst hzs
    refine (Tryz.slices_Sort_int_none none 0 w).mono fun e' w' he' => ?_
    obtain ⟨rfl, rfl⟩ := he'
    exact hk w' ⟨e, he, by simp [sorted, iL], .inl ⟨rfl, rfl⟩⟩ (Mod.refl _ _)
  · simp at hv
    obtain ⟨rfl, rfl⟩ := hv
    subst hlen
    have hmap : iL zs = zs.map (Value.int .i64) := rfl
    rw [Nat.mul_one, hmap] at ht
    have hH := holds_of_blockI hg ht
    refine (Tryz.slices_Sort_int g 0 c zs w hH (lt_of_heap hg) hl62).mono fun e' w' he' => ?_
    obtain ⟨rfl, n, os, rfl⟩ := he'
    refine hk _ ⟨e, he, ?_⟩ ((Mod.grown (grownBy_sortedI _)).mono fun x _ e => by cases e; exact hb)
    exact ownsRow_sortedI (ts := sorted zs) (by simp [sorted]) hb hg hle hm hsz
end Go.Proofs.YtocjjigmpgekfaaGreat
end
section
/- Layer 2, the program's disk: what it is in memory, and the functions that read it. -/
open Go Go.Den Go.Proofs
namespace Go.Den
abbrev Bk := List UInt8
/-- A disk: each block's versions, the first one safe; how many writes more take place (-1: all). -/
structure St where
  vs : List (List Bk)
  left : Int
def St.n (D : St) : Nat := D.vs.length
structure WF (D : St) : Prop where
  ver : ∀ v ∈ D.vs, v ≠ [] ∧ ∀ x ∈ v, x.length = 256
  lo : 1 ≤ D.vs.length
  hi : D.vs.length ≤ 4096
  l0 : -1 ≤ D.left
  l1 : D.left ≤ 9223372036854775807
def hd (v : List Bk) : Bk := v.headD []
def lastV (v : List Bk) : Bk := v.getLastD []
theorem flat_len : ∀ (xs : List Bk), (∀ x ∈ xs, x.length = 256) → xs.flatten.length = xs.length * 256
  | [], _ => rfl
  | x :: r, h => by
    rw [List.flatten_cons, List.length_append, h x (by simp), flat_len r (fun y hy => h y (by simp [hy])), List.length_cons]; omega
theorem flat_get : ∀ (xs : List Bk), (∀ x ∈ xs, x.length = 256) → ∀ (i : Nat) (x : Bk), xs[i]? = some x → (xs.flatten.drop (i * 256)).take 256 = x
  | [], _, i, x, h => by simp at h
  | y :: r, hx, i, x, h => by
    have hy := hx y (by simp)
    cases i with
    | zero =>
      simp at h; subst h
      rw [Nat.zero_mul, List.drop_zero, List.flatten_cons, List.take_append_of_le_length (by omega), List.take_of_length_le (by omega)]
    | succ i =>
      have h' : r[i]? = some x := by simpa using h
      rw [List.flatten_cons, List.drop_append, List.drop_eq_nil_of_le (by omega), List.nil_append, show (i + 1) * 256 - y.length = i * 256 by omega]
      exact flat_get r (fun z hz => hx z (by simp [hz])) i x h'
theorem flat_set : ∀ (xs : List Bk), (∀ x ∈ xs, x.length = 256) → ∀ (i : Nat) (y : Bk), i < xs.length → y.length = 256 → xs.flatten.take (i * 256) ++ y ++ xs.flatten.drop (i * 256 + 256) = (xs.set i y).flatten
  | [], _, i, y, h, _ => by simp at h
  | x :: r, hx, i, y, h, hy => by
    have hxl := hx x (by simp)
    cases i with
    | zero =>
      simp only [List.set_cons_zero, List.flatten_cons, Nat.zero_mul, List.take_zero, List.nil_append, Nat.zero_add]
      rw [List.drop_append, List.drop_eq_nil_of_le (by omega), List.nil_append, hxl]; simp
    | succ i =>
      have ih := flat_set r (fun z hz => hx z (by simp [hz])) i y (by simpa using h) hy
      simp only [List.set_cons_succ, List.flatten_cons]
      rw [← ih, List.take_append, List.take_of_length_le (by omega), List.drop_append, List.drop_eq_nil_of_le (by omega), hxl]
      rw [show (i + 1) * 256 - 256 = i * 256 by omega, show (i + 1) * 256 + 256 - 256 = i * 256 + 256 by omega]
      simp

/-- What the map holds of a block: nothing, or its open versions. -/
def OpenIn (w : World) (R : Nat → Prop) (b sb : Nat) (L : List (Int × Value)) (i : Nat) (v : List Bk) : Prop :=
  (v.tail = [] ∧ lookupL L i = none) ∨ (v.tail ≠ [] ∧ ∃ vb c, lookupL L i = some (.slice (some ⟨vb, 0, none⟩) v.tail.length c) ∧ v.tail.length ≤ c ∧ At w vb 0 (u8L v.tail.flatten) ∧ R vb ∧ vb ≠ b ∧ vb ≠ sb)
structure DiskIn (w : World) (R : Nat → Prop) (b sb mb sc : Nat) (L : List (Int × Value)) (D : St) : Prop where
  cell : AtU w b 0 [.slice (some ⟨sb, 0, none⟩) D.vs.length sc, .map (some mb), .int .i64 D.left]
  cap : D.vs.length ≤ sc
  safe : AtU w sb 0 (u8L (D.vs.map hd).flatten)
  map : MapAt w mb L
  rb : R b
  rs : R sb
  rm : R mb
  ne : b ≠ sb
  opn : ∀ i v, D.vs[i]? = some v → OpenIn w R b sb L i v
  keys : ∀ p ∈ L, ∃ i : Nat, p.1 = i ∧ i < D.vs.length
  wf : WF D
  lt : ∀ x, R x → x < w.heap.size

section
variable {w : World} {R : Nat → Prop} {b sb mb sc : Nat} {L : List (Int × Value)} {D : St}
theorem OpenIn.keep {S : Nat → Prop} {w' : World} {i : Nat} {v : List Bk} (h : OpenIn w R b sb L i v) (m : Mod S w w') (hs : ∀ x, R x → S x → x = b ∨ x = sb) : OpenIn w' R b sb L i v := by
  rcases h with h | ⟨h1, vb, c, h2, h3, h4, h5, h6, h7⟩
  · exact .inl h
  · exact .inr ⟨h1, vb, c, h2, h3, h4.keep m (fun e => by rcases hs vb h5 e with e | e; exact h6 e; exact h7 e), h5, h6, h7⟩
theorem DiskIn.keep {S : Nat → Prop} {w' : World} (h : DiskIn w R b sb mb sc L D) (m : Mod S w w') (hs : ∀ x, R x → ¬ S x) : DiskIn w' R b sb mb sc L D where
  cell := h.cell.keep m (hs _ h.rb)
  cap := h.cap
  safe := h.safe.keep m (hs _ h.rs)
  map := h.map.keep m (hs _ h.rm)
  rb := h.rb
  rs := h.rs
  rm := h.rm
  ne := h.ne
  opn := fun i v hv => (h.opn i v hv).keep m fun x hx e => absurd e (hs x hx)
  keys := h.keys
  wf := h.wf
  lt := fun x hx => Nat.lt_of_lt_of_le (h.lt x hx) m.size
theorem DiskIn.nos {w' : World} (h : DiskIn w R b sb mb sc L D) (m : Mod No w w') : DiskIn w' R b sb mb sc L D := h.keep m fun _ _ => id
theorem DiskIn.drew (h : DiskIn w R b sb mb sc L D) : DiskIn (drew w) R b sb mb sc L D := h.nos (Mod.refl No w).drew
theorem DiskIn.nbm (h : DiskIn w R b sb mb sc L D) : b ≠ mb := h.map.ne_cells h.cell.at
theorem DiskIn.nsm (h : DiskIn w R b sb mb sc L D) : sb ≠ mb := h.map.ne_cells h.safe.at
theorem WF.hd {D : St} (h : WF D) : ∀ x ∈ D.vs.map hd, x.length = 256 := by
  intro x hx
  obtain ⟨v, hv, rfl⟩ := List.mem_map.1 hx
  obtain ⟨h1, h2⟩ := h.ver v hv
  cases v with
  | nil => exact absurd rfl h1
  | cons a r => exact h2 a (by simp)
theorem WF.tl {D : St} (h : WF D) {i : Nat} {v : List Bk} (hv : D.vs[i]? = some v) : ∀ x ∈ v.tail, x.length = 256 := fun x hx => (h.ver v (List.mem_of_getElem? hv)).2 x (List.mem_of_mem_tail hx)
theorem WF.lastLen {D : St} (h : WF D) {i : Nat} {v : List Bk} (hv : D.vs[i]? = some v) : (lastV v).length = 256 := by
  obtain ⟨h1, h2⟩ := h.ver v (List.mem_of_getElem? hv)
  refine h2 _ ?_
  unfold lastV
  rw [List.getLastD_eq_getLast?, List.getLast?_eq_some_getLast h1]
  exact List.getLast_mem h1
theorem last_tail {v : List Bk} (h : v.tail ≠ []) : v.tail[v.tail.length - 1]? = some (lastV v) := by
  cases v with
  | nil => exact absurd rfl h
  | cons a r =>
    simp only [List.tail_cons] at h ⊢
    rw [← List.getLast?_eq_getElem?]
    unfold lastV
    rw [List.getLastD_eq_getLast?, List.getLast?_cons]
    cases r with
    | nil => exact absurd rfl h
    | cons b r => simp [List.getLast?_cons]
theorem last_one {v : List Bk} (h : v.tail = []) : lastV v = hd v := by
  cases v with
  | nil => rfl
  | cons a r => simp only [List.tail_cons] at h; subst h; rfl
end
end Go.Den

namespace Go.Proofs.YtocjjigmpgekfaaGreat
section
variable {w : World} {R : Nat → Prop} {b sb mb sc : Nat} {L : List (Int × Value)} {D : St} {K : Value → World → Prop}
theorem mapDisk : mapZ Tryz.prog 142 = some (.slice none 0 0) := by kernel_rfl
theorem look_none {w : World} {m : Nat} {L : List (Int × Value)} {k : Int} (h : MapAt w m L) (hl : lookupL L k = none) : Ru (Instr.lookup 142 (.map (some m)) (.int .i64 k) false) w (.slice none 0 0) w := by
  have := lookup_run (P := Tryz.prog) mapDisk h (k := k)
  rwa [hl] at this
theorem look_some {w : World} {m : Nat} {L : List (Int × Value)} {k : Int} {v : Value} (h : MapAt w m L) (hl : lookupL L k = some v) : Ru (Instr.lookup 142 (.map (some m)) (.int .i64 k) false) w v w := by
  have := lookup_run (P := Tryz.prog) mapDisk h (k := k)
  rwa [hl] at this
theorem elemZ_blocks : elemZ Tryz.prog 141 256 (.int .u8 0) 256 := by unfold elemZ; kernel_rfl
theorem alloc_block (w : World) : (Instr.alloc 164 true (.tuple #[])).run Tryz.prog w = .ok (.pointer (some ⟨w.heap.size, 0, none⟩)) (w.alloc (.cells ⟨u8L (List.replicate 256 0)⟩ 164)) := by kernel_rfl
theorem agg_block : aggN Tryz.prog 164 = some 256 := by kernel_rfl
theorem slice_block (q : Addr) : Al (Instr.sliceAt 164 (.pointer (some q)) none none none) (.slice (some q) 256 256) := fun _ => by kernel_rfl

theorem _root_.Go.Den.DiskIn.ld (h : DiskIn w R b sb mb sc L D) : Ru (Instr.loadAt 3 (.pointer (some (Addr.add ⟨b, 0, none⟩ 2)))) w (.int .i64 D.left) w := by
  rw [add_none]; exact h.cell.at.load (by kernel_rfl) rfl
theorem _root_.Go.Den.DiskIn.lm (h : DiskIn w R b sb mb sc L D) : Ru (Instr.loadAt 142 (.pointer (some (Addr.add ⟨b, 0, none⟩ 1)))) w (.map (some mb)) w := by
  rw [add_none]; exact h.cell.at.load (by kernel_rfl) rfl
theorem _root_.Go.Den.DiskIn.ls (h : DiskIn w R b sb mb sc L D) : Ru (Instr.loadAt 141 (.pointer (some (Addr.add ⟨b, 0, none⟩ 0)))) w (.slice (some ⟨sb, 0, none⟩) D.vs.length sc) w := by
  rw [add_none]; exact h.cell.at.load (by kernel_rfl) rfl

def errOf (D : St) (n : Int) : Int := if n < 0 ∨ D.vs.length ≤ n then 3 else 0
theorem may_c (h : DiskIn w R b sb mb sc L D) {n : Int} (hk : K (.int .i64 (errOf D n)) w) : Cal Tryz.prog F_disk_Disk_may #[.pointer (some ⟨b, 0, none⟩), .int .i64 n] w K := by
  apply C_disk_Disk_may
  unfold D_disk_Disk_may
  refine ff rfl (Share.cut (fun x w' => x = [.bool (decide (n < 0 ∨ D.vs.length ≤ n))] ∧ w' = w) (cond_of (fun hb => ?_) (fun hb => ?_)) ?_)
  · have := of_decide_eq_true hb
    exact ⟨by simp [this], rfl⟩
  · have := of_decide_eq_false hb
    exact ⟨_, rfl, _, _, _, h.ls, by simp [this], rfl⟩
  · rintro x w' ⟨rfl, rfl⟩
    refine ⟨_, rfl, cond_of (fun hb => ?_) (fun hb => ?_)⟩
    · have := of_decide_eq_true hb
      rw [errOf, if_pos this] at hk; exact hk
    · have := of_decide_eq_false hb
      rw [errOf, if_neg this] at hk; exact hk

theorem goes_c (h : DiskIn w R b sb mb sc L D) (h0 : D.left = 0 → K (.bool false) w)
    (h1 : D.left ≠ 0 → ∀ w', DiskIn w' R b sb mb sc L { D with left := if -1 > D.left - 1 then -1 else D.left - 1 } → Mod (fun x => x = b) w w' → K (.bool true) w') : Cal Tryz.prog F_disk_Disk_goes #[.pointer (some ⟨b, 0, none⟩)] w K := by
  apply C_disk_Disk_goes
  unfold D_disk_Disk_goes
  refine ⟨_, rfl, _, h.ld, cond_of (fun hb => ?_) (fun hb => ?_)⟩
  · exact h0 (by simpa using hb)
  have hne : D.left ≠ 0 := by simpa using hb
  have hl0 := h.wf.l0
  have hl1 := h.wf.l1
  obtain ⟨w', s1, s2, s3, s4⟩ := h.cell.store (P := Tryz.prog) (T := 3) (i := 2) (v := .int .i64 (if -1 > D.left - 1 then -1 else D.left - 1)) (by kernel_rfl) (by simp) rfl
  refine ⟨_, rfl, _, h.ld, _, rfl, w', ?_, ?_⟩
  · rw [wrap64 (x := D.left - 1) (by omega) (by omega), add_none]; exact s1
  refine h1 hne w' ?_ s3
  exact { cell := by simpa using s2, cap := h.cap, safe := h.safe.keep s3 h.ne.symm, map := h.map.keep s3 h.nbm.symm, rb := h.rb, rs := h.rs, rm := h.rm, ne := h.ne,
          opn := fun i v hv => (h.opn i v hv).keep s3 fun x _ e => .inl e, keys := h.keys,
          wf := { ver := h.wf.ver, lo := h.wf.lo, hi := h.wf.hi, l0 := by show -1 ≤ ite _ _ _; split <;> omega, l1 := by show ite _ _ _ ≤ _; split <;> omega },
          lt := fun x hx => Nat.lt_of_lt_of_le (h.lt x hx) s3.size }

theorem idx_block {a : Addr} {n c : Nat} {i : Nat} (hi : i < n) (w : World) : (Instr.indexAt 141 (.slice (some a) n c) (.int .i64 i)).run Tryz.prog w = .ok (.pointer (some (a.add (i * 256)))) w := by
  have := index_slice (P := Tryz.prog) (T := 141) (k := 256) (a := a) (n := n) (c := c) (kk := .i64) (i := i) (by kernel_rfl) (by omega) (by omega) w
  rwa [Int.toNat_natCast] at this
theorem load_block {b : Nat} {xs : List Bk} (h : At w b 0 (u8L xs.flatten)) (hx : ∀ x ∈ xs, x.length = 256) {i : Nat} {x : Bk} (hi : xs[i]? = some x) : Ru (Instr.loadAt 164 (.pointer (some (Addr.add ⟨b, 0, none⟩ (i * 256))))) w (.agg ⟨u8L x⟩) w := by
  have hlt : i < xs.length := (List.getElem?_eq_some_iff.1 hi).1
  have hl := flat_len xs hx
  have := h.loadAgg (P := Tryz.prog) (i := i * 256) agg_block (by rw [length_u8L, hl]; (have : (i + 1) * 256 ≤ xs.length * 256 := Nat.mul_le_mul_right _ hlt); omega)
  rw [add_none]
  rw [u8L_sub, flat_get xs hx i x hi] at this
  exact this

theorem last_c (h : DiskIn w R b sb mb sc L D) {i : Nat} {v : List Bk} (hv : D.vs[i]? = some v) (hlen : v.length ≤ 1000000) (hk : ∀ w', Mod No w w' → K (.agg ⟨u8L (lastV v)⟩) w') : Cal Tryz.prog F_disk_Disk_last #[.pointer (some ⟨b, 0, none⟩), .int .i64 i] w K := by
  apply C_disk_Disk_last
  unfold D_disk_Disk_last
  refine ⟨_, _, alloc_block w, _, rfl, some mb, ?_⟩
  have m1 : Mod No w (w.alloc (.cells ⟨u8L (List.replicate 256 0)⟩ 164)) := (Mod.refl No w).alloc _
  have h' := h.nos m1
  refine ⟨h'.lm, ?_⟩
  have hll := h.wf.lastLen hv
  have fin : K (.agg ⟨u8L (lastV v)⟩) (w.alloc (.cells ⟨u8L (lastV v)⟩ 164)) := hk _ ((Mod.refl No w).alloc _)
  have st : ∃ w2, RuU (Instr.storeAt 164 (.pointer (some ⟨w.heap.size, 0, none⟩)) (.agg ⟨u8L (lastV v)⟩)) (w.alloc (.cells ⟨u8L (List.replicate 256 0)⟩ 164)) w2 ∧
      ∃ g : Array Value, Ru (Instr.loadAt 164 (.pointer (some ⟨w.heap.size, 0, none⟩))) w2 (.agg g) w2 ∧ K (.agg g) w2 :=
    ⟨_, store_new agg_block (by rw [length_u8L, List.length_replicate]) (by simp [hll]) (one_u8L _), _, load_new agg_block (by simp [hll]), fin⟩
  rcases h'.opn i v hv with ⟨ht, hl⟩ | ⟨ht, vb, c, hl, hc, hat, _⟩
  · refine ⟨_, _, _, look_none h'.map hl, ff (by simp) ⟨_, rfl, _, _, _, h'.ls, _, fun _ => idx_block (List.getElem?_eq_some_iff.1 hv).1 _, ⟨u8L (lastV v)⟩, ?_, st⟩⟩
    rw [last_one ht]
    exact load_block h'.safe.at h.wf.hd (by rw [List.getElem?_map, hv]; rfl)
  · refine ⟨_, _, _, look_some h'.map hl, ?_⟩
    have hpos : 0 < v.tail.length := List.length_pos_iff.2 ht
    have htl : v.tail.length ≤ v.length := by simp
    refine tt (decide_eq_true (by omega)) ?_
    rw [wrap64 (x := (v.tail.length : Int) - 1) (by omega) (by omega), show (v.tail.length : Int) - 1 = ((v.tail.length - 1 : Nat) : Int) by omega]
    refine ⟨_, fun _ => idx_block (by omega) _, _, load_block hat (h.wf.tl hv) (last_tail ht), st⟩
end
end Go.Proofs.YtocjjigmpgekfaaGreat
end
section
/- A range over a map with int keys: its steps, and that at its end all entries have been met. -/
open Go Go.Den
namespace Go.Den
section
variable {P : Program} {w : World}
theorem next_run {r mb since c0 : Nat} {ty : TypeId} {seen : Array Nat} {es : Array MapEntry} {clock : Nat} (hr : w.heap[r]? = some (.mapIter (some mb) since seen c0)) (hb : w.heap[mb]? = some (.map es clock))
    (hold : ∀ x ∈ es.toList, x.born < since) (hsc : since ≤ c0) :
    ((leftOf es seen).size = 0 ∧ (Instr.next (.pointer (some ⟨r, 0, none⟩)) false ty).run P w = .ok (.tuple #[.bool false]) w) ∨
    ∃ e ∈ (leftOf es seen).toList, ∃ w', (Instr.next (.pointer (some ⟨r, 0, none⟩)) false ty).run P w = .ok (.tuple #[.bool true, e.key, e.val]) w' ∧ w'.heap[r]? = some (.mapIter (some mb) since (seen.push e.born) clock) ∧
      Mod (fun x => x = r) w w' ∧ w'.heap.size = w.heap.size := by
  simp only [Instr.next, getObj, Sem.run_bind, Sem.run, hr, hb, Result.andThen, next_test_false seen es since c0 hold hsc, Bool.false_eq_true, if_false]
  unfold leftOf
  have hmem : ∀ x ∈ (Array.filter (fun e => !seen.contains e.born) es).toList, x.born < since := fun x hx => hold x (by simp at hx ⊢; exact hx.1)
  generalize Array.filter (fun e => !seen.contains e.born) es = L at hmem ⊢
  have e1 : L.filter (fun x => decide (x.born < since)) = L := Array.filter_eq_self.2 (fun x hx => by simpa using hmem x (by simpa using hx))
  have e2 : L.filter (fun x => decide (x.born ≥ since)) = #[] := by
    rw [Array.filter_eq_empty_iff]
    intro x hx
    have := hmem x (by simpa using hx)
    simp
    omega
  simp only [e1, e2, Array.append_empty]
  by_cases h0 : L.size = 0
  · left
    have : L = #[] := Array.eq_empty_of_size_eq_zero h0
    subst this
    refine ⟨rfl, ?_⟩
    simp [choose, Sem.run, Question.forced]
  · right
    have hne : L.isEmpty = false := by simp [Array.isEmpty, h0]
    simp only [hne, Bool.false_eq_true, if_false, Array.empty_append, Array.size_map]
    have hch : ∃ (j : Nat) (w1 : World), j < L.size ∧ w1.heap = w.heap ∧ Mod (fun x => x = r) w w1 ∧ (choose (Question.mapNext L.size)).run P w = .ok j w1 := by
      by_cases hf : L.size ≤ 1
      · exact ⟨0, w, by omega, rfl, Mod.refl _ _, by simp [choose, Sem.run, Question.forced, hf]⟩
      · exact ⟨_, drew w, Nat.mod_lt _ (by omega), rfl, (Mod.refl _ _).drew, by
          simp only [choose, Sem.run, Question.forced, decide_eq_true_eq, hf, if_false, Question.cut]
          rfl⟩
    obtain ⟨j, w1, hj, hh, hm, hrun⟩ := hch
    have hr1 : w1.heap[r]? = some (.mapIter (some mb) since seen c0) := by rw [hh]; exact hr
    refine ⟨L[j], by simp, put w1 r (.mapIter (some mb) since (seen.push L[j].born) clock), ?_, heap_put_same (lt_of_heap hr1), ?_, by simp [hh]⟩
    · simp only [hrun, Array.getElem?_map, Array.getElem?_eq_getElem hj, Option.map_some, Sem.run_bind, setObj, Sem.run, hr1, Result.andThen]
      rfl
    · exact hm.trans ((Mod.refl (fun x => x = r) w1).put (.inr rfl) _) fun _ _ h => h
theorem entry_run {r mb since : Nat} {seen : Array Nat} {es : Array MapEntry} {clock : Nat} {e : MapEntry} (hr : w.heap[r]? = some (.mapIter (some mb) since (seen.push e.born) clock)) (hb : w.heap[mb]? = some (.map es clock))
    (he : e ∈ es.toList) (hn : (es.toList.map (·.born)).Nodup) : (Instr.entry (.pointer (some ⟨r, 0, none⟩))).run P w = .ok (.tuple #[e.key, e.val]) w := by
  have hf : es.find? (·.born == e.born) = some e := by rw [← Array.find?_toList]; exact find_born e es.toList hn he
  simp only [Instr.entry, getObj, Sem.run_bind, Sem.run, hr, hb, Result.andThen, Array.back?_push, bne_self_eq_false, Bool.false_eq_true, if_false, hf]
  rfl
theorem range_run {T k e : TypeId} {mb : Nat} {es : Array MapEntry} {clock : Nat} (ht : P.underlying T = some (.map k e)) (hb : w.heap[mb]? = some (.map es clock)) :
    (Instr.range T (.map (some mb))).run P w = .ok (.pointer (some ⟨w.heap.size, 0, none⟩)) (w.alloc (.mapIter (some mb) clock #[] clock)) := run_range_map w T k e mb es clock ht hb
theorem iterSeen_of {r : Nat} {a : Option Nat} {b c : Nat} {s : Array Nat} (h : w.heap[r]? = some (.mapIter a b s c)) : w.iterSeen r = s := by
  unfold World.iterSeen; rw [h]
/-- What a range has met so far. -/
structure Ranged (w : World) (r mb : Nat) (Es : List Ent) (clock : Nat) (vis : List Ent) : Prop where
  map : w.heap[mb]? = some (.map (Es.map toE).toArray clock)
  iter : w.heap[r]? = some (.mapIter (some mb) clock (vis.map (·.2.2)).toArray clock)
  sub : ∀ e ∈ vis, e ∈ Es
  nodup : (vis.map (·.2.2)).Nodup
  born : ∀ e ∈ Es, e.2.2 < clock
  all : (Es.map (·.2.2)).Nodup
def togo (mb r : Nat) (w : World) : Nat := match w.heap[mb]? with | some (.map es _) => (leftOf es (w.iterSeen r)).size | _ => 0
theorem Ranged.keep {S : Nat → Prop} {r mb clock : Nat} {Es vis : List Ent} {w' : World} (h : Ranged w r mb Es clock vis) (m : Mod S w w') (h1 : ¬ S r) (h2 : ¬ S mb) : Ranged w' r mb Es clock vis :=
  ⟨m.keep h.map h2, m.keep h.iter h1, h.sub, h.nodup, h.born, h.all⟩
theorem Ranged.togo {r mb clock : Nat} {Es vis : List Ent} (h : Ranged w r mb Es clock vis) : togo mb r w = (leftOf (Es.map toE).toArray (vis.map (·.2.2)).toArray).size := by
  unfold Go.Den.togo; rw [h.map, iterSeen_of h.iter]
theorem nodup_of_map {α β : Type} {f : α → β} : ∀ {l : List α}, (l.map f).Nodup → l.Nodup
  | [], _ => List.nodup_nil
  | x :: r, h => by
    rw [List.map_cons, List.nodup_cons] at h
    exact List.nodup_cons.2 ⟨fun hx => h.1 (List.mem_map.2 ⟨x, hx, rfl⟩), nodup_of_map h.2⟩
theorem born_eq {Es : List Ent} (hn : (Es.map (·.2.2)).Nodup) : ∀ {x e : Ent}, x ∈ Es → e ∈ Es → x.2.2 = e.2.2 → x = e := by
  induction Es with
  | nil => intro x e hx; cases hx
  | cons y r ih =>
    rw [List.map_cons, List.nodup_cons] at hn
    intro x e hx he h
    rcases List.mem_cons.1 hx with rfl | hx
    · rcases List.mem_cons.1 he with rfl | he
      · rfl
      · exact absurd (List.mem_map.2 ⟨e, he, h.symm⟩) hn.1
    · rcases List.mem_cons.1 he with he | he
      · exact absurd (List.mem_map.2 ⟨x, hx, by rw [h, he]⟩) hn.1
      · exact ih hn.2 hx he h
/-- One step of a range: over, and all have been met; or one that has not been met. -/
theorem Ranged.next {r mb clock : Nat} {ty : TypeId} {Es vis : List Ent} (h : Ranged w r mb Es clock vis) :
    (vis.Perm Es ∧ (Instr.next (.pointer (some ⟨r, 0, none⟩)) false ty).run P w = .ok (.tuple #[.bool false]) w) ∨
    ∃ e ∈ Es, ∃ w', (Instr.next (.pointer (some ⟨r, 0, none⟩)) false ty).run P w = .ok (.tuple #[.bool true, .int .i64 e.1, e.2.1]) w' ∧ (Instr.entry (.pointer (some ⟨r, 0, none⟩))).run P w' = .ok (.tuple #[.int .i64 e.1, e.2.1]) w' ∧
      Ranged w' r mb Es clock (vis ++ [e]) ∧ e ∉ vis ∧ Mod (fun x => x = r) w w' ∧ Go.Den.togo mb r w' < Go.Den.togo mb r w := by
  have hborn : ∀ x ∈ ((Es.map toE).toArray).toList, x.born < clock := by
    intro x hx
    simp only [List.mem_map] at hx
    obtain ⟨e, he, rfl⟩ := hx
    exact h.born e he
  have hnd : (((Es.map toE).toArray).toList.map (·.born)).Nodup := by
    have := h.all
    rw [List.map_map]; exact this
  rcases next_run (P := P) (ty := ty) h.iter h.map hborn (Nat.le_refl _) with ⟨h0, hrun⟩ | ⟨e, he, w', hrun, hit, hm, hsz⟩
  · refine .inl ⟨?_, hrun⟩
    refine (List.perm_ext_iff_of_nodup (nodup_of_map h.nodup) (nodup_of_map h.all)).2 fun a => ⟨h.sub a, fun ha => ?_⟩
    have := all_seen _ _ h0 (toE a) (by simp only [List.mem_map]; exact ⟨a, ha, rfl⟩)
    have hb : a.2.2 ∈ vis.map (·.2.2) := by simpa [toE] using this
    obtain ⟨v, hv, hve⟩ := List.mem_map.1 hb
    rw [← born_eq h.all (h.sub v hv) ha hve]; exact hv
  · right
    obtain ⟨hin, hns⟩ := mem_left he
    simp only [List.mem_map] at hin
    obtain ⟨x, hx, rfl⟩ := hin
    have hnx : x.2.2 ∉ vis.map (·.2.2) := by
      intro hc
      have : (vis.map (·.2.2)).toArray.contains (toE x).born = true := by simpa [toE] using hc
      rw [this] at hns; cases hns
    have hne : mb ≠ r := by
      rintro rfl
      have h1 := h.map; rw [h.iter] at h1; cases h1
    have hmap' := hm.keep h.map hne
    have hR : Ranged w' r mb Es clock (vis ++ [x]) := by
      refine ⟨hmap', ?_, ?_, ?_, h.born, h.all⟩
      · rw [hit]; simp [toE]
      · intro e he
        rcases List.mem_append.1 he with he | he
        · exact h.sub e he
        · simp at he; subst he; exact hx
      · rw [List.map_append]
        refine List.nodup_append.2 ⟨h.nodup, by simp, ?_⟩
        intro a ha b hb
        simp at hb; subst hb
        exact fun e => hnx (e ▸ ha)
    refine ⟨x, hx, w', hrun, ?_, hR, fun hc => hnx (List.mem_map.2 ⟨x, hc, rfl⟩), hm, ?_⟩
    · exact entry_run (e := toE x) hit hmap' (by simp only [List.mem_map]; exact ⟨x, hx, rfl⟩) hnd
    · rw [hR.togo, h.togo]
      have := left_shrinks _ _ _ he
      simpa [toE] using this
end
end Go.Den
end
section
/- Layer 2, the program's disk: what is open, what is read. -/
open Go Go.Den Go.Proofs
namespace Go.Den
theorem look_mem : ∀ {L : List (Int × Value)} {k : Int} {v : Value}, lookupL L k = some v → (k, v) ∈ L
  | p :: r, k, v, h => by
    simp only [lookupL] at h
    by_cases hp : p.1 = k
    · rw [if_pos hp] at h
      have := Option.some.inj h
      subst hp; subst this; simp
    · rw [if_neg hp] at h
      exact List.mem_cons_of_mem _ (look_mem h)
theorem look_notin : ∀ {L : List (Int × Value)} {k : Int}, lookupL L k = none → ∀ p ∈ L, p.1 ≠ k
  | p :: r, k, h, q, hq => by
    simp only [lookupL] at h
    by_cases hp : p.1 = k
    · rw [if_pos hp] at h; cases h
    · rw [if_neg hp] at h
      rcases List.mem_cons.1 hq with rfl | hq
      · exact hp
      · exact look_notin h q hq
def isOpen (D : St) (i : Nat) : Bool := !((D.vs[i]?.getD []).tail.isEmpty)
def openN (D : St) : List Nat := (List.range D.vs.length).filter (isOpen D)
def openS (D : St) : List Int := (openN D).map fun i : Nat => (i : Int)
theorem openS_sorted (D : St) : List.Pairwise (fun a b : Int => a ≤ b) (openS D) := by
  unfold openS
  rw [List.pairwise_map]
  refine List.Pairwise.imp ?_ ((List.pairwise_lt_range (n := D.vs.length)).filter (isOpen D))
  intro a b h; omega
theorem openS_nodup (D : St) : (openS D).Nodup := by
  unfold openS
  rw [List.Nodup, List.pairwise_map]
  refine List.Pairwise.imp ?_ ((List.pairwise_lt_range (n := D.vs.length)).filter (isOpen D))
  intro a b h; omega
theorem keys_open {w : World} {R : Nat → Prop} {b sb mb sc : Nat} {L : List (Int × Value)} {D : St} (h : DiskIn w R b sb mb sc L D) (k : Int) : k ∈ L.map (·.1) ↔ k ∈ openS D := by
  constructor
  · intro hk
    obtain ⟨p, hp, rfl⟩ := List.mem_map.1 hk
    obtain ⟨i, hi, hlt⟩ := h.keys p hp
    have hv : D.vs[i]? = some (D.vs[i]) := by simp [hlt]
    rcases h.opn i _ hv with ⟨_, hl⟩ | ⟨ht, _⟩
    · exact absurd hi (look_notin hl p hp)
    · unfold openS openN
      refine List.mem_map.2 ⟨i, List.mem_filter.2 ⟨List.mem_range.2 hlt, ?_⟩, hi.symm⟩
      unfold isOpen; rw [hv]
      simpa [List.isEmpty_iff] using ht
  · intro hk
    unfold openS openN at hk
    obtain ⟨i, hi, rfl⟩ := List.mem_map.1 hk
    obtain ⟨hr, ho⟩ := List.mem_filter.1 hi
    have hlt := List.mem_range.1 hr
    have hv : D.vs[i]? = some (D.vs[i]) := by simp [hlt]
    unfold isOpen at ho; rw [hv] at ho
    rcases h.opn i _ hv with ⟨ht, _⟩ | ⟨_, vb, c, hl, _⟩
    · simp [ht] at ho
    · exact List.mem_map.2 ⟨_, look_mem hl, rfl⟩
end Go.Den

namespace Go.Proofs.YtocjjigmpgekfaaGreat
section
variable {w : World} {R : Nat → Prop} {b sb mb sc : Nat} {L : List (Int × Value)} {D : St} {K : Value → World → Prop}
theorem sorted_open {zs : List Int} (hn : zs.Nodup) (hm : ∀ k, k ∈ zs ↔ k ∈ openS D) : sorted zs = openS D := by
  have hp : zs.Perm (openS D) := (List.perm_ext_iff_of_nodup hn (openS_nodup D)).2 hm
  refine List.Perm.eq_of_pairwise (le := fun a b : Int => a ≤ b) (fun a b _ _ h1 h2 => by omega) ?_ (openS_sorted D) ((List.mergeSort_perm _ _).trans hp)
  have := List.pairwise_mergeSort (le := fun x y : Int => decide (x ≤ y)) (fun a b c h1 h2 => by simp only [decide_eq_true_eq] at *; omega) (fun a b => by simp only [Bool.or_eq_true, decide_eq_true_eq]; omega) zs
  refine List.Pairwise.imp ?_ this
  intro a b h; exact of_decide_eq_true h

theorem Open_c (h : DiskIn w R b sb mb sc L D) (hk : ∀ w' a l c, Mod No w w' → Own Tryz.prog w' w.heap.size 49 1 a l c (iL (openS D)) → K (.slice a l c) w') : Cal Tryz.prog F_disk_Disk_Open #[.pointer (some ⟨b, 0, none⟩)] w K := by
  apply C_disk_Disk_Open
  unfold D_disk_Disk_Open
  obtain ⟨Es, clock, g1, g2, g3, g4, g5⟩ := h.map
  have hu : Tryz.prog.underlying 142 = some (.map 3 141) := by kernel_rfl
  refine ff rfl ⟨_, rfl, some mb, h.lm, _, _, range_run hu g1, ?_⟩
  have m1 : Mod No w (w.alloc (.mapIter (some mb) clock #[] clock)) := (Mod.refl No w).alloc _
  have hmb := lt_of_heap g1
  have hlenE : Es.length ≤ 4096 := by
    have hsub : (L.map (·.1)).length ≤ (openS D).length := List.Nodup.length_le_of_subset h.map.nodup fun k hk => (keys_open h k).1 hk
    have h1 : (openS D).length ≤ D.vs.length := by
      unfold openS openN; rw [List.length_map]
      exact Nat.le_trans (List.length_filter_le _ _) (by simp)
    have := h.wf.hi
    rw [← g2] at hsub; simp at hsub; omega
  refine ⟨fun x w2 => ∃ vis a l c, x = [.slice a l c] ∧ Own Tryz.prog w2 (w.heap.size + 1) 49 1 a l c (iL (vis.map (·.1))) ∧ Ranged w2 w.heap.size mb Es clock vis ∧ Mod No w w2 ∧ w.heap.size + 1 ≤ w2.heap.size,
    fun _ w2 => togo mb w.heap.size w2, ⟨[], none, 0, 0, rfl, Own.nil elemZ_ints, ⟨m1.keep g1 id, heap_new w _, by simp, by simp, g4, g5⟩, m1, by simp⟩, ?_⟩
  rintro x w2 ⟨vis, a, l, c, rfl, how, hR, hm, hsz⟩
  have hvl : vis.length ≤ Es.length := by
    have := List.Nodup.length_le_of_subset (nodup_of_map hR.nodup) (fun e he => hR.sub e he); exact this
  have hl : l = vis.length := by have := how.len; simpa using this.symm
  rcases hR.next (P := Tryz.prog) (ty := 0) with ⟨hp, hrun⟩ | ⟨e, he, w3, hrun, hent, hR3, hnin, hm3, hlt⟩
  · refine ⟨_, _, hrun, false, fun _ => rfl, ff rfl ⟨_, _, _, rfl, Sort_c how (fun w4 o4 m4 => ⟨rfl, ?_⟩) (by rw [List.length_map]; omega)⟩⟩
    have hs : sorted (vis.map (·.1)) = openS D := by
      refine sorted_open ?_ fun k => ?_
      · exact (hp.map (·.1)).nodup_iff.2 g3
      · rw [(hp.map (·.1)).mem_iff, ← keys_open h k, ← g2, List.map_map]; rfl
    rw [hs] at o4
    exact hk w4 a l c (hm.up m4 (by omega)) (o4.mono (by omega))
  · refine ⟨_, w3, hrun, true, fun _ => rfl, tt rfl ⟨_, hent, _, fun _ => rfl, _, _, _, rfl, _, _, _, _, builtI _ _, ?_⟩⟩
    have how3 := how.keep hm3 (fun q hq e => by have := (how.base hq).1; omega)
    obtain ⟨a4, c4, w4, h4, o4, m4⟩ := how3.snoc (ty := 49) (t := 3) (ys := [.int .i64 e.1]) elemZ_ints (by omega) rfl (by simp; rfl) (by omega) (by omega) (by have := hm3.size; omega)
    have hmb' : mb < w.heap.size + 1 := by omega
    have hR4 := hR3.keep m4 (by omega) (by omega)
    refine ⟨_, _, _, w4, h4, ⟨vis ++ [e], a4, _, c4, rfl, ?_, hR4, (hm.trans hm3 fun x hx e => by omega).trans m4 fun x hx e => by omega, by have := hm3.size; have := m4.size; omega⟩, ?_⟩
    · rw [List.map_append]; simpa [iL, I] using o4
    · have e1 : togo mb w.heap.size w4 = togo mb w.heap.size w3 := by rw [hR4.togo, hR3.togo]
      show togo mb w.heap.size w4 < togo mb w.heap.size w2
      rw [e1]; exact hlt

def verOf (D : St) (n : Int) : List Bk := if n < 0 then [] else D.vs[n.toNat]?.getD []
/-- New bytes that a call hands out. -/
def Fresh (w0 w : World) (a : Option Addr) (xs : List UInt8) : Prop := (a = none ∧ xs = []) ∨ ∃ q, a = some ⟨q, 0, none⟩ ∧ w0.heap.size ≤ q ∧ AtU w q 0 (u8L xs)
theorem Fresh.row {w0 w : World} {a : Option Addr} {xs : List UInt8} (h : Fresh w0 w a xs) : Row w a (u8L xs) := by
  rcases h with ⟨_, rfl⟩ | ⟨q, rfl, _, h⟩
  · exact .inl rfl
  · exact .inr ⟨q, 0, rfl, h.at⟩
theorem Fresh.nos {w0 w w' : World} {a : Option Addr} {xs : List UInt8} (h : Fresh w0 w a xs) (m : Mod No w w') : Fresh w0 w' a xs := by
  rcases h with h | ⟨q, rfl, hq, h⟩
  · exact .inl h
  · exact .inr ⟨q, rfl, hq, h.keep m id⟩
theorem err_cases (n : Int) : (errOf D n = 3 ∧ (n < 0 ∨ D.vs.length ≤ n)) ∨ (errOf D n = 0 ∧ ∃ i v, n = (i : Nat) ∧ D.vs[i]? = some v ∧ verOf D n = v) := by
  unfold errOf verOf
  by_cases h : n < 0 ∨ D.vs.length ≤ n
  · rw [if_pos h]; exact .inl ⟨rfl, h⟩
  · rw [if_neg h, if_neg (by omega)]
    refine .inr ⟨rfl, n.toNat, D.vs[n.toNat]'(by omega), by omega, by simp, ?_⟩
    have : n.toNat < D.vs.length := by omega
    simp [this]
def rdB (D : St) (n : Int) : List UInt8 := if errOf D n = 0 then lastV (verOf D n) else []
def Small (D : St) : Prop := ∀ v ∈ D.vs, v.length ≤ 1000000

theorem Read_c (h : DiskIn w R b sb mb sc L D) (hs : Small D) {n : Int} (hk : ∀ w' a c, Mod No w w' → Fresh w w' a (rdB D n) → K (.tuple #[.slice a (rdB D n).length c, .int .i64 (errOf D n)]) w') : Cal Tryz.prog F_disk_Disk_Read #[.pointer (some ⟨b, 0, none⟩), .int .i64 n] w K := by
  apply C_disk_Disk_Read
  unfold D_disk_Disk_Read
  refine may_c h ⟨_, rfl, ?_⟩
  rcases err_cases (D := D) n with ⟨he, _⟩ | ⟨he, i, v, rfl, hv, hver⟩
  · have hb : rdB D n = [] := by unfold rdB; rw [if_neg (by omega)]
    refine tt (by rw [he]; rfl) ?_
    have := hk w none 0 (Mod.refl _ _) (.inl ⟨rfl, hb⟩)
    rw [hb] at this; exact this
  · have hb : rdB D i = lastV v := by unfold rdB; rw [if_pos he, hver]
    have hll := h.wf.lastLen hv
    refine ff (by rw [he]; rfl) (last_c h hv (hs v (List.mem_of_getElem? hv)) fun w2 m2 => ⟨_, rfl, _, _, alloc_block w2, _, store_new agg_block (by rw [length_u8L, List.length_replicate]) (by simp [hll]) (one_u8L _), _, _, _, slice_block _, ?_⟩)
    have := hk (w2.alloc (.cells ⟨u8L (lastV v)⟩ 164)) (some ⟨w2.heap.size, 0, none⟩) 256 (m2.alloc _) (.inr ⟨w2.heap.size, rfl, m2.size, by rw [hb]; exact AtU.new⟩)
    rw [hb, hll, he] at this; exact this

theorem Len_c (h : DiskIn w R b sb mb sc L D) (hk : K (.int .i64 D.vs.length) w) : Cal Tryz.prog F_disk_Disk_Len #[.pointer (some ⟨b, 0, none⟩)] w K := by
  apply C_disk_Disk_Len
  unfold D_disk_Disk_Len
  exact ff rfl ⟨_, rfl, _, _, _, h.ls, hk⟩
theorem verOf_none {n : Int} (h : n < 0 ∨ D.vs.length ≤ n) : verOf D n = [] := by
  unfold verOf
  split
  · rfl
  · rw [List.getElem?_eq_none (by omega)]; rfl
end
end Go.Proofs.YtocjjigmpgekfaaGreat
end
section
/- Layer 2, the program's disk: new disks, blocks filled, writes. -/
open Go Go.Den Go.Proofs
namespace Go.Den
section
variable {P : Program} {w : World}
theorem slice_3 {T : TypeId} {k n c : Nat} {a : Option Addr} (hT : elemN P T = some k) (h2 : n ≤ c) (w : World) :
    (Instr.sliceAt T (.slice a n c) none (some (.int .i64 n)) (some (.int .i64 n))).run P w = .ok (.slice (cutA a n 0 k) n n) w := by
  obtain ⟨e, inf, he, hi, hk⟩ := elem_is hT
  have hb1 := fun code => bound_ok (P := P) (kk := .i64) (i := n) (y := c) (code := code) (by omega) (by omega) w
  have hb2 := fun code => bound_ok (P := P) (kk := .i64) (i := n) (y := n) (code := code) (by omega) (by omega) w
  simp only [Instr.sliceAt, Sem.run_bind, run_und he, Result.andThen_ok, Instr.slice, Instr.sliceBounds, Sem.run_pure, if_true, hb1, hb2, Int.toNat_natCast, run_sizeOf hi, hk]
  unfold cutA
  split <;> rfl
theorem look_put : ∀ (L : List (Int × Value)) (k : Int) (v : Value) (k' : Int), lookupL (putL k v L) k' = if k = k' then some v else lookupL L k'
  | [], k, v, k' => by simp [putL, lookupL]
  | p :: r, k, v, k' => by
    simp only [putL]
    by_cases hp : p.1 = k
    · rw [if_pos hp]
      simp only [lookupL]
      by_cases hk : k = k'
      · rw [if_pos hk, if_pos hk]
      · rw [if_neg hk, if_neg hk, if_neg (by omega)]
    · rw [if_neg hp]
      simp only [lookupL]
      by_cases hp' : p.1 = k'
      · rw [if_pos hp', if_neg (by omega), if_pos hp']
      · rw [if_neg hp', if_neg hp', look_put r k v k']
theorem put_keys {L : List (Int × Value)} {k : Int} {v : Value} : ∀ p ∈ putL k v L, p.1 = k ∨ p ∈ L := by
  induction L with
  | nil => intro p hp; simp [putL] at hp; exact .inl (by rw [hp])
  | cons q r ih =>
    intro p hp
    simp only [putL] at hp
    by_cases hq : q.1 = k
    · rw [if_pos hq] at hp
      rcases List.mem_cons.1 hp with rfl | hp
      · exact .inl rfl
      · exact .inr (List.mem_cons_of_mem _ hp)
    · rw [if_neg hq] at hp
      rcases List.mem_cons.1 hp with rfl | hp
      · exact .inr (by simp)
      · rcases ih p hp with h | h
        · exact .inl h
        · exact .inr (List.mem_cons_of_mem _ h)
end
def zeroB : Bk := List.replicate 256 0
def newSt (n : Nat) : St := ⟨List.replicate n [zeroB], -1⟩
theorem WF.new {n : Nat} (h0 : 1 ≤ n) (h1 : n ≤ 4096) : WF (newSt n) where
  ver := by
    intro v hv
    have := List.eq_of_mem_replicate hv
    subst this
    exact ⟨by simp, by intro x hx; simp at hx; subst hx; exact List.length_replicate⟩
  lo := by simp [newSt]; exact h0
  hi := by simp [newSt]; exact h1
  l0 := by simp [newSt]
  l1 := by simp [newSt]
theorem flat_rep : ∀ n : Nat, (List.replicate n zeroB).flatten = List.replicate (n * 256) 0
  | 0 => by simp
  | n + 1 => by
    rw [List.replicate_succ, List.flatten_cons, flat_rep n, zeroB, List.replicate_append_replicate]
    congr 1; omega
/-- A region grown by new blocks. -/
def Gro (R : Nat → Prop) (w w' : World) : Nat → Prop := fun x => R x ∨ (w.heap.size ≤ x ∧ x < w'.heap.size)
def dec (l : Int) : Int := if -1 > l - 1 then -1 else l - 1
end Go.Den

namespace Go.Proofs.YtocjjigmpgekfaaGreat
section
variable {w : World} {R : Nat → Prop} {b sb mb sc : Nat} {L : List (Int × Value)} {D : St} {K : Value → World → Prop}

theorem build_disk (w : World) (a : Option Addr) (l c : Nat) (m : Option Nat) : (Instr.build 144 #[(0, .slice a l c), (1, .map m), (2, .int .i64 (-1))]).run Tryz.prog w = .ok (.agg ⟨[.slice a l c, .map m, .int .i64 (-1)]⟩) w := by kernel_rfl
theorem New_c {n : Int} (h0 : -9223372036854775808 ≤ n) (h1 : n ≤ 9223372036854775807) (hbad : n < 1 ∨ 4096 < n → K (.tuple #[.pointer none, .int .i64 1]) w)
    (hok : ∀ k : Nat, n = k → 1 ≤ k → k ≤ 4096 → ∀ w' b sb mb, Mod No w w' → DiskIn w' (fun x => w.heap.size ≤ x ∧ x < w'.heap.size) b sb mb k [] (newSt k) → K (.tuple #[.pointer (some ⟨b, 0, none⟩), .int .i64 0]) w') :
    Cal Tryz.prog F_disk_New #[.int .i64 n] w K := by
  apply C_disk_New
  unfold D_disk_New
  refine Share.or ⟨_, rfl, cond_of (fun hb => ?_) (fun hb => ?_)⟩
  · exact hbad (by simpa using hb)
  have hn : ¬ (n < 1 ∨ 4096 < n) := by simpa using hb
  obtain ⟨k, rfl⟩ := Int.eq_ofNat_of_zero_le (show 0 ≤ n by omega)
  obtain ⟨w1, hm1, hat1, hmod1, hsz1⟩ := makeSlice_run (P := Tryz.prog) (w := w) (n := k) elemZ_blocks (by omega) (by omega) (by omega)
  refine ⟨_, _, _, w1, hm1, _, _, makeMap_run, _, fun w => build_disk w _ _ _ _, _, _, box_run, ?_⟩
  have m2 : Mod No w1 (w1.alloc (.map #[] 0)) := (Mod.refl No w1).alloc _
  have m3 : Mod No (w1.alloc (.map #[] 0)) ((w1.alloc (.map #[] 0)).alloc (.cells ⟨[.slice (some ⟨w.heap.size, 0, none⟩) k k, .map (some w1.heap.size), .int .i64 (-1)]⟩ 144)) := (Mod.refl No _).alloc _
  have hz : List.replicate (k * 256) (Value.int .u8 0) = u8L ((newSt k).vs.map hd).flatten := by
    have : (newSt k).vs.map hd = List.replicate k zeroB := by simp [newSt, hd]
    rw [this, flat_rep]; simp [u8L, u8]
  rw [hz] at hat1
  refine hok k rfl (by omega) (by omega) _ _ w.heap.size w1.heap.size ((hmod1.no m2).no m3) ?_
  have hs2 : (w1.alloc (.map #[] 0)).heap.size = w.heap.size + 2 := by simp [hsz1]
  have hs3 : ((w1.alloc (.map #[] 0)).alloc (.cells (Value.agg ⟨[.slice (some ⟨w.heap.size, 0, none⟩) k k, .map (some w1.heap.size), .int .i64 (-1)]⟩).cells 144)).heap.size = w.heap.size + 3 := by simp [hsz1]
  exact { cell := by
            have : (newSt k).vs.length = k := by simp [newSt]
            rw [this]; exact AtU.new
          cap := by simp [newSt]
          safe := (hat1.keep m2 id).keep m3 id
          map := MapAt.new.keep m3 id
          rb := by rw [hs3]; omega
          rs := by rw [hs3]; omega
          rm := by rw [hs3]; omega
          ne := by omega
          opn := fun i v hv => .inl ⟨by
            have := List.eq_of_mem_replicate (List.mem_of_getElem? hv)
            subst this; rfl, rfl⟩
          keys := by simp
          wf := WF.new (by omega) (by omega)
          lt := fun x hx => hx.2 }

def fillB (xs : List UInt8) : Bk := (List.range 256).map fun i => xs.getD (i % xs.length) 0
@[simp] theorem length_fillB (xs : List UInt8) : (fillB xs).length = 256 := by simp [fillB]
theorem rem_run {P : Program} {T : TypeId} {x y : Operand} {a b : Int} (hb : b ≠ 0) (w : World) : (eqS .rem T x y (.int .i64 a) (.int .i64 b)).run P w = .ok (.int .i64 (a.tmod b)) w := by
  rw [eqS_run (fun w => guard_int _ _ _ _ _ _ _ _ w)]
  simp [binOp, Op.intDiv, hb]
end
end Go.Proofs.YtocjjigmpgekfaaGreat
end
section
/- Layer 2, the program's disk: a write. -/
open Go Go.Den Go.Proofs
namespace Go.Den
section
variable {P : Program} {w : World}
theorem At.pre {g : Nat} {e : TypeId} {fz : Nat × Nat} {arr : Array Value} {cs rest : List Value} (h : w.heap[g]? = some (.cells arr e fz)) (ha : arr.toList = cs ++ rest) : At w g 0 cs :=
  ⟨arr.toList, e, fz, h, by rw [ha]; simp, by rw [ha]; simp⟩
theorem size_drew_alloc (o : Obj) : w.heap.size < (w.drew.alloc o).heap.size := by
  show w.heap.size < (w.heap.push o).size
  simp
/-- append of one element to a row that has no room: the row anew. -/
theorem append_full {T ty : TypeId} {k bytes l q : Nat} {z : Value} {a : Option Addr} {xs ys : List Value} (hT : elemZ P T k z bytes) (hk : 0 < k) (hx : xs.length = l * k)
    (hr : (l = 0 ∧ a = none) ∨ (0 < l ∧ ∃ b, a = some ⟨b, 0, none⟩ ∧ At w b 0 xs)) (hy : ys.length = k) (hyr : At w q 0 ys) (h63 : (l + 1) * bytes ≤ 140737488355328) (hb : 0 < bytes) :
    ∃ c' w', (Builtin.append_ #[T, T] ty #[.slice a l l, .slice (some ⟨q, 0, none⟩) 1 1]).run P w = .ok (.slice (some ⟨w.heap.size, 0, none⟩) (l + 1) c') w' ∧ l + 1 ≤ c' ∧ At w' w.heap.size 0 (xs ++ ys) ∧ Mod No w w' ∧ w.heap.size < w'.heap.size := by
  obtain ⟨e, i, zv, he, hi, hsz, hz, hzc, hby⟩ := hT.is
  have hnews : ∀ j v, ys[j]? = some v → w.cell? (Addr.add ⟨q, 0, none⟩ j) = some v := fun j v hj => hyr.cell hj
  have hle : l + 1 ≤ (l + 1) * bytes := Nat.le_mul_of_pos_right _ hb
  have hm : ∀ o : Obj, Mod No w (w.drew.alloc o) := fun o => ((Mod.refl No w).drew (b := w)).alloc o
  rcases hr with ⟨rfl, rfl⟩ | ⟨hl, b, rfl, hat⟩
  · have hx0 : xs = [] := List.eq_nil_of_length_eq_zero (by omega)
    subst hx0
    refine ⟨_, _, run_append_nil w T ty e i zv he hi hz ⟨q, 0, none⟩ 1 1 ys (by rw [hsz]; omega) hnews (by omega) (by omega) (by rw [hby]; omega), ?_, ?_, hm _, size_drew_alloc _⟩
    · exact grownCap_ge w 1 0 e
    · exact At.pre (heap_new w.drew _) (by rw [Array.toList_append]; rfl)
  · have holds : ∀ j v, xs[j]? = some v → w.cell? (Addr.add ⟨b, 0, none⟩ j) = some v := fun j v hj => hat.cell hj
    refine ⟨_, _, run_append_grow w T ty e i zv he hi hz ⟨b, 0, none⟩ l l xs (by rw [hsz]; exact hx) holds ⟨q, 0, none⟩ 1 1 ys (by rw [hsz]; omega) hnews (by omega) (by omega) (growslice_fits (by omega) (by rw [hby]; exact h63)), ?_, ?_, hm _, size_drew_alloc _⟩
    · exact grownCap_ge w (l + 1) l e
    · exact At.pre (heap_new w.drew _) (by rw [Array.toList_append, Array.toList_append])
end
/-- The blocks that a call on a disk may turn. -/
def Wr (b sb mb : Nat) : Nat → Prop := fun x => x = b ∨ x = sb ∨ x = mb
theorem DiskIn.wr {w : World} {R : Nat → Prop} {b sb mb sc : Nat} {L : List (Int × Value)} {D : St} (h : DiskIn w R b sb mb sc L D) {x : Nat} (hx : Wr b sb mb x) : R x := by
  rcases hx with rfl | rfl | rfl
  · exact h.rb
  · exact h.rs
  · exact h.rm
theorem DiskIn.gro {w' : World} {R : Nat → Prop} {b sb mb sc : Nat} {L : List (Int × Value)} {D : St} (w0 : World) (h : DiskIn w' R b sb mb sc L D) : DiskIn w' (Gro R w0 w') b sb mb sc L D where
  cell := h.cell
  cap := h.cap
  safe := h.safe
  map := h.map
  rb := .inl h.rb
  rs := .inl h.rs
  rm := .inl h.rm
  ne := h.ne
  opn := fun i v hv => by
    rcases h.opn i v hv with h | ⟨h1, vb, c, h2, h3, h4, h5, h6⟩
    · exact .inl h
    · exact .inr ⟨h1, vb, c, h2, h3, h4, .inl h5, h6⟩
  keys := h.keys
  wf := h.wf
  lt := fun x hx => by
    rcases hx with hx | hx
    · exact h.lt x hx
    · exact hx.2
end Go.Den

namespace Go.Proofs.YtocjjigmpgekfaaGreat
section
variable {w : World} {R : Nat → Prop} {b sb mb sc : Nat} {L : List (Int × Value)} {D : St} {K : Value → World → Prop}
def wrE (D : St) (n : Int) (ys : List UInt8) : Int := if errOf D n ≠ 0 then errOf D n else if ys.length ≠ 256 then 4 else 0
def wrSt (D : St) (n : Int) (ys : List UInt8) : St := if wrE D n ys ≠ 0 ∨ D.left = 0 then D else ⟨D.vs.set n.toNat (verOf D n ++ [ys]), dec D.left⟩

theorem arrayAt_block (a : Option Addr) (c : Nat) : Al (Instr.arrayAt 164 (.slice a 256 c)) (.pointer a) := fun _ => by kernel_rfl
theorem built_block {ys : List UInt8} (hy : ys.length = 256) (w : World) : (Instr.buildSlice 141 1 #[(0, .agg ⟨u8L ys⟩)]).run Tryz.prog w = .ok (.slice (some ⟨w.heap.size, 0, none⟩) 1 1) (w.alloc (.cells ⟨u8L ys⟩ 164)) := by
  obtain ⟨e, i, zv, he, hi, hsz, hz, hzc, hby⟩ := elemZ_blocks.is
  have hee : e = 164 := by
    have : Tryz.prog.underlying 141 = some (.slice 164) := by kernel_rfl
    rw [this] at he; simpa using he.symm
  subst hee
  have hf := Go.Great.fill_whole (s := 256) (by omega) [Value.agg ⟨u8L ys⟩] ((Array.range (1 * i.size)).map (zv.cells[· % zv.cells.size]!)) (by simp [Value.cells, hy]) (by simp [hsz])
  have := run_buildSlice w 141 164 1 #[(0, .agg ⟨u8L ys⟩)] ⟨u8L ys⟩ i zv he hi hz (by rw [hsz]; decide) (by rw [hsz]; decide) (by rw [hsz] at hf ⊢; simpa [Value.cells] using hf)
  exact this

theorem tail_set {v : List Bk} (hv : v ≠ []) (y : Bk) : (v ++ [y]).tail = v.tail ++ [y] ∧ hd (v ++ [y]) = hd v := by
  cases v with
  | nil => exact absurd rfl hv
  | cons a r => exact ⟨rfl, rfl⟩

set_option maxRecDepth 100000 in
theorem Write_p (h : DiskIn w R b sb mb sc L D) (hs : ∀ v ∈ D.vs, v.length ≤ 999999) {n : Int} {a : Option Addr} {l c : Nat} {ys : List UInt8} (hl : ys.length = l) (hr : Row w a (u8L ys)) (hdis : ∀ q, a = some q → ¬ R q.block)
    (hk : ∀ w' L', Mod (Wr b sb mb) w w' → DiskIn w' (Gro R w w') b sb mb sc L' (wrSt D n ys) → K (.int .i64 (wrE D n ys)) w') : Cal Tryz.prog F_disk_Disk_Write #[.pointer (some ⟨b, 0, none⟩), .int .i64 n, .slice a l c] w K := by
  apply C_disk_Disk_Write
  unfold D_disk_Disk_Write
  refine may_c h ⟨_, rfl, ?_⟩
  rcases err_cases (D := D) n with ⟨he, ho⟩ | ⟨he, i, v, rfl, hv, hver⟩
  · have hw : wrE D n ys = 3 := by unfold wrE; rw [he, if_pos (by omega)]
    have hS : wrSt D n ys = D := by unfold wrSt; rw [if_pos (.inl (by omega))]
    refine tt (by rw [he]; rfl) ?_
    have := hk w L (Mod.refl _ _) (by rw [hS]; exact h.gro w)
    rw [hw] at this; rw [he]; exact this
  refine ff (by rw [he]; rfl) (cond_of (fun hb => ?_) (fun hb => ?_))
  · have hne : ys.length ≠ 256 := by simp at hb; omega
    have hw : wrE D i ys = 4 := by unfold wrE; rw [he, if_neg (by omega), if_pos hne]
    have hS : wrSt D i ys = D := by unfold wrSt; rw [if_pos (.inl (by omega))]
    have := hk w L (Mod.refl _ _) (by rw [hS]; exact h.gro w)
    rw [hw] at this; exact this
  have hl2 : l = 256 := by simp at hb; omega
  subst hl2
  have hw : wrE D i ys = 0 := by unfold wrE; rw [he, if_neg (by omega), if_neg (by omega)]
  rw [hw] at hk
  have hvlen := hs v (List.mem_of_getElem? hv)
  have hvne := (h.wf.ver v (List.mem_of_getElem? hv)).1
  have hilt : i < D.vs.length := (List.getElem?_eq_some_iff.1 hv).1
  have htl : v.tail.length ≤ v.length := by simp
  -- what stands in the map
  have hopen : ∃ a0 l0 c0, Ru (Instr.lookup 142 (.map (some mb)) (.int .i64 i) false) w (.slice a0 l0 c0) w ∧ l0 = v.tail.length ∧ l0 ≤ c0 ∧ ((l0 = 0 ∧ a0 = none) ∨ (0 < l0 ∧ ∃ vb, a0 = some ⟨vb, 0, none⟩ ∧ At w vb 0 (u8L v.tail.flatten) ∧ vb ≠ b)) := by
    rcases h.opn i v hv with ⟨ht, hl⟩ | ⟨ht, vb, c, hl, hc, hat, _, hvb, _⟩
    · exact ⟨none, 0, 0, look_none h.map hl, by rw [ht]; rfl, Nat.le_refl _, .inl ⟨rfl, rfl⟩⟩
    · exact ⟨_, _, c, look_some h.map hl, rfl, hc, .inr ⟨List.length_pos_iff.2 ht, vb, rfl, hat, hvb⟩⟩
  obtain ⟨a0, l0, c0, hlook, hl0, hc0, hrow0⟩ := hopen
  refine ⟨_, rfl, some mb, h.lm, a0, l0, c0, hlook, ?_⟩
  refine goes_c h (fun hz => ⟨_, rfl, Share.dup (ff rfl ?_)⟩) fun hnz w2 h2 m2 => ⟨_, rfl, Share.dup (tt rfl ?_)⟩
  · have hS : wrSt D i ys = D := by unfold wrSt; rw [if_pos (.inr hz)]
    exact hk w L (Mod.refl _ _) (by rw [hS]; exact h.gro w)
  have hS : wrSt D i ys = ⟨D.vs.set i (v ++ [ys]), dec D.left⟩ := by unfold wrSt; rw [if_neg (by omega), hver]; rfl
  rw [hS] at hk
  have h2d := h2.drew
  have hrne : ¬ u8L ys = [] := fun e => by have := congrArg List.length e; simp [hl] at this
  obtain ⟨b2, o2, rfl, hat2⟩ := hr.resolve_left hrne
  have hb2 : b2 ≠ b := fun e => hdis _ rfl (by rw [e]; exact h.rb)
  have hat2' : At (Go.Den.drew w2) b2 o2 (u8L ys) := (hat2.keep m2 hb2).drew
  have hload : Ru (Instr.loadAt 164 (.pointer (some ⟨b2, o2, none⟩))) (Go.Den.drew w2) (.agg ⟨u8L ys⟩) (Go.Den.drew w2) := by
    have := hat2'.loadAgg (P := Tryz.prog) (i := 0) agg_block (by simp; omega)
    have e : (u8L ys).take 256 = u8L ys := List.take_of_length_le (by simp; omega)
    simpa [e] using this
  have m3 : Mod No (Go.Den.drew w2) ((Go.Den.drew w2).alloc (.cells ⟨u8L ys⟩ 164)) := (Mod.refl No _).alloc _
  refine ⟨_, rfl, some mb, h2d.lm, _, _, _, slice_3 (k := 256) (by kernel_rfl) hc0, ⟨b2, o2, none⟩, arrayAt_block _ _, ⟨u8L ys⟩, hload, _, _, _, _, built_block hl _, (h2d.nos m3).lm, ?_⟩
  have hq : AtU ((Go.Den.drew w2).alloc (.cells ⟨u8L ys⟩ 164)) (Go.Den.drew w2).heap.size 0 (u8L ys) := AtU.new
  have hsz3 : w2.heap.size < ((Go.Den.drew w2).alloc (.cells ⟨u8L ys⟩ 164)).heap.size := by simp
  have h3 := h2d.nos m3
  have hqs : (Go.Den.drew w2).heap.size = w2.heap.size := rfl
  generalize (Go.Den.drew w2).alloc (.cells ⟨u8L ys⟩ 164) = w3 at *
  have htfl := flat_len v.tail (h.wf.tl hv)
  obtain ⟨c4, w4, happ, hc4, hat4, m4, hsz4⟩ := append_full (P := Tryz.prog) (w := w3) (T := 141) (ty := 141) (l := l0) (a := cutA a0 l0 0 256) (xs := u8L v.tail.flatten) (ys := u8L ys) (q := (Go.Den.drew w2).heap.size) elemZ_blocks (by omega) (by simp [htfl, hl0])
    (by
      rcases hrow0 with ⟨h1, h2⟩ | ⟨h1, vb, h2, h3, h4⟩
      · refine .inl ⟨h1, ?_⟩
        rw [h2]; unfold cutA; split <;> rfl
      · refine .inr ⟨h1, vb, ?_, ((h3.keep m2 h4).drew).keep m3 id⟩
        rw [h2]; unfold cutA; split
        · rfl
        · simp [add_none]) (by simp [hl]) hq.at (by omega) (by omega)
  refine ⟨_, _, _, w4, happ, (h3.nos m4).lm, ?_⟩
  have h4 := h3.nos m4
  obtain ⟨w5, hupd, hmap5, m5, hsz5⟩ := update_run (P := Tryz.prog) (k := (i : Int)) (v := .slice (some ⟨w3.heap.size, 0, none⟩) (l0 + 1) c4) mapDisk h4.map
  refine ⟨w5, hupd, ?_⟩
  have hb3 := h3.lt b h3.rb
  have hs3 := h3.lt sb h3.rs
  have hm3 := h3.lt mb h3.rm
  have M4 : Mod (fun x => x = b) w w4 := ((m2.drew).no m3).no m4
  have M5 : Mod (Wr b sb mb) w w5 := (M4.mono fun x _ e => .inl e).trans m5 fun x _ e => .inr (.inr e)
  have hws := M4.size
  have hw23 := m2.size
  obtain ⟨tl1, tl2⟩ := tail_set hvne ys
  refine hk w5 (putL (i : Int) (.slice (some ⟨w3.heap.size, 0, none⟩) (l0 + 1) c4) L) M5 ?_
  have hset : (D.vs.set i (v ++ [ys])).map hd = D.vs.map hd := by
    rw [List.map_set, tl2]
    apply List.ext_getElem?
    intro j
    by_cases hj : i = j
    · subst hj; rw [List.getElem?_set_self (by simpa using hilt), List.getElem?_map, hv]; rfl
    · rw [List.getElem?_set_ne hj]
  exact { cell := by
            have := h4.cell.keep m5 h4.nbm
            simpa [dec] using this
          cap := by simpa using h.cap
          safe := by
            rw [hset]; exact h4.safe.keep m5 h4.nsm
          map := hmap5
          rb := .inl h.rb
          rs := .inl h.rs
          rm := .inl h.rm
          ne := h.ne
          opn := fun j v' hv' => by
            by_cases hj : i = j
            · subst hj
              have : v' = v ++ [ys] := by
                rw [List.getElem?_set_self hilt] at hv'; exact (Option.some.inj hv').symm
              subst this
              refine .inr ⟨by rw [tl1]; simp, w3.heap.size, c4, ?_, ?_, ?_, .inr ⟨by omega, by omega⟩, by omega, by omega⟩
              · rw [look_put, if_pos rfl, tl1, List.length_append, ← hl0]; rfl
              · rw [tl1, List.length_append, ← hl0]; exact hc4
              · rw [tl1, List.flatten_append, u8L_append]
                have e : [ys].flatten = ys := by simp
                rw [e]
                exact hat4.keep m5 (by omega)
            · rw [List.getElem?_set_ne hj] at hv'
              rcases h4.opn j v' hv' with ⟨t1, t2⟩ | ⟨t1, vb, c', t2, t3, t4, t5, t6, t7⟩
              · exact .inl ⟨t1, by rw [look_put, if_neg (by omega)]; exact t2⟩
              · refine .inr ⟨t1, vb, c', by rw [look_put, if_neg (by omega)]; exact t2, t3, t4.keep m5 ?_, .inl t5, t6, t7⟩
                exact h4.map.ne_cells t4
          keys := fun p hp => by
            rcases put_keys p hp with e | hp
            · exact ⟨i, e, by simpa using hilt⟩
            · obtain ⟨j, e, hj⟩ := h.keys p hp
              exact ⟨j, e, by simpa using hj⟩
          wf := { ver := fun x hx => by
                    rcases List.mem_or_eq_of_mem_set hx with hx | rfl
                    · exact h.wf.ver x hx
                    · refine ⟨by simp, fun y hy => ?_⟩
                      rcases List.mem_append.1 hy with hy | hy
                      · exact (h.wf.ver v (List.mem_of_getElem? hv)).2 y hy
                      · simp at hy; subst hy; omega
                  lo := by simpa using h.wf.lo
                  hi := by simpa using h.wf.hi
                  l0 := h2.wf.l0
                  l1 := h2.wf.l1 }
          lt := fun x hx => by
            rcases hx with hx | hx
            · have := h.lt x hx; have := M5.size; omega
            · exact hx.2 }
theorem Write_c (h : DiskIn w R b sb mb sc L D) (hs : ∀ v ∈ D.vs, v.length ≤ 999999) {n : Int} {a : Option Addr} {l c : Nat} {ys : List UInt8} (hl : ys.length = l) (hr : Row w a (u8L ys)) (hdis : ∀ q, a = some q → ¬ R q.block)
    (hk : ∀ w' L', Mod R w w' → DiskIn w' (Gro R w w') b sb mb sc L' (wrSt D n ys) → K (.int .i64 (wrE D n ys)) w') : Cal Tryz.prog F_disk_Disk_Write #[.pointer (some ⟨b, 0, none⟩), .int .i64 n, .slice a l c] w K :=
  Write_p h hs hl hr hdis fun w' L' m hd => hk w' L' (m.mono fun _ _ e => h.wr e) hd
end
end Go.Proofs.YtocjjigmpgekfaaGreat
end
section
/- Layer 2, the program's disk: a flush, a crash. -/
open Go Go.Den Go.Proofs
namespace Go.Den
def upd (D : St) (ks : List Nat) (f : Nat → List Bk → Bk) : St := ⟨D.vs.mapIdx fun i v => if i ∈ ks then f i v :: v.tail else v, D.left⟩
def clr (D : St) : St := ⟨D.vs.map fun v => [hd v], D.left⟩
def put1 (D : St) (f : Nat → List Bk → Bk) : St := ⟨D.vs.mapIdx fun i v => [f i v], D.left⟩
theorem upd_get {D : St} {ks : List Nat} {f : Nat → List Bk → Bk} {i : Nat} {v : List Bk} (hv : D.vs[i]? = some v) : (upd D ks f).vs[i]? = some (if i ∈ ks then f i v :: v.tail else v) := by
  simp [upd, List.getElem?_mapIdx, hv]
theorem upd_step {D : St} {ks : List Nat} {f : Nat → List Bk → Bk} {i : Nat} {v : List Bk} (hv : D.vs[i]? = some v) : (upd D ks f).vs.set i (f i v :: v.tail) = (upd D (ks ++ [i]) f).vs := by
  apply List.ext_getElem?
  intro j
  by_cases hj : i = j
  · subst hj
    have hlt : i < (upd D ks f).vs.length := by simp [upd]; exact (List.getElem?_eq_some_iff.1 hv).1
    rw [List.getElem?_set_self hlt, upd_get hv, if_pos (by simp)]
  · rw [List.getElem?_set_ne hj]
    cases hw : D.vs[j]? with
    | none => simp [upd, List.getElem?_mapIdx, hw]
    | some u =>
      rw [upd_get hw, upd_get hw]
      have : (j ∈ ks ++ [i]) ↔ j ∈ ks := by simp; intro e; exact absurd e.symm hj
      simp only [this]
theorem clr_upd {D : St} {f : Nat → List Bk → Bk} (hf : ∀ i v, D.vs[i]? = some v → v.tail = [] → f i v = hd v) : clr (upd D (openN D) f) = put1 D f := by
  unfold clr put1
  congr 1
  apply List.ext_getElem?
  intro j
  cases hw : D.vs[j]? with
  | none => simp [upd, List.getElem?_mapIdx, hw]
  | some u =>
    rw [List.getElem?_map, upd_get hw, List.getElem?_mapIdx, hw]
    by_cases hj : j ∈ openN D
    · rw [if_pos hj]; rfl
    · rw [if_neg hj]
      have ht : u.tail = [] := by
        unfold openN at hj
        rw [List.mem_filter] at hj
        have hlt := (List.getElem?_eq_some_iff.1 hw).1
        simp only [List.mem_range, hlt, true_and, isOpen, hw, Option.getD_some] at hj
        simpa [List.isEmpty_iff] using hj
      simp [hf j u hw ht]
theorem upd_nil (D : St) (f : Nat → List Bk → Bk) : upd D [] f = D := by
  have : (D.vs.mapIdx fun i v => if i ∈ ([] : List Nat) then f i v :: v.tail else v) = D.vs := by
    apply List.ext_getElem?
    intro i
    rw [List.getElem?_mapIdx]
    cases D.vs[i]? <;> simp
  unfold upd; rw [this]
theorem put1_const (D : St) (g : List Bk → Bk) : put1 D (fun _ v => g v) = ⟨D.vs.map fun v => [g v], D.left⟩ := by
  unfold put1; congr 1
  apply List.ext_getElem?
  intro i
  rw [List.getElem?_mapIdx, List.getElem?_map]
theorem openN_lt {D : St} {i : Nat} (h : i ∈ openN D) : ∃ v, D.vs[i]? = some v ∧ v.tail ≠ [] := by
  unfold openN at h
  obtain ⟨h1, h2⟩ := List.mem_filter.1 h
  have hlt := List.mem_range.1 h1
  refine ⟨D.vs[i], by simp [hlt], ?_⟩
  unfold isOpen at h2
  simp [hlt, List.isEmpty_iff] at h2
  exact fun e => h2 e
theorem openN_nodup (D : St) : (openN D).Nodup := List.Pairwise.imp (fun h => by omega) ((List.pairwise_lt_range (n := D.vs.length)).filter (isOpen D))
theorem not_taken {ks : List Nat} (hn : ks.Nodup) {j i : Nat} (hj : ks[j]? = some i) : i ∉ ks.take j := by
  intro hc
  obtain ⟨hlt, hi⟩ := List.getElem?_eq_some_iff.1 hj
  obtain ⟨m, hm, he⟩ := List.getElem_of_mem hc
  have hml : m < j := by simp at hm; omega
  rw [List.getElem_take] at he
  have := (List.pairwise_iff_getElem.1 hn) m j (by omega) hlt hml
  exact this (by rw [he, hi])
end Go.Den

namespace Go.Proofs.YtocjjigmpgekfaaGreat
section
variable {w : World} {R : Nat → Prop} {b sb mb sc : Nat} {L : List (Int × Value)} {D : St} {K : Value → World → Prop}

theorem DiskIn_upd (h : DiskIn w R b sb mb sc L D) {i : Nat} {v : List Bk} {x : Bk} {w' : World} (hv : D.vs[i]? = some v) (hx : x.length = 256) (s2 : AtU w' sb 0 (splice (u8L (D.vs.map hd).flatten) (i * 256) (u8L x))) (s3 : Mod (fun x => x = sb) w w') :
    DiskIn w' R b sb mb sc L ⟨D.vs.set i (x :: v.tail), D.left⟩ := by
  have hlt := (List.getElem?_eq_some_iff.1 hv).1
  have hvne := h.wf.ver v (List.mem_of_getElem? hv)
  exact { cell := by
            have := h.cell.keep s3 h.ne
            simpa using this
          cap := by simpa using h.cap
          safe := by
            rw [splice_u8L, hx, flat_set (D.vs.map hd) h.wf.hd i x (by simpa using hlt) hx] at s2
            rw [List.map_set]; exact s2
          map := h.map.keep s3 h.nsm.symm
          rb := h.rb
          rs := h.rs
          rm := h.rm
          ne := h.ne
          opn := fun j v' hv' => by
            by_cases hj : i = j
            · subst hj
              have e : v' = x :: v.tail := by
                rw [List.getElem?_set_self hlt] at hv'; exact (Option.some.inj hv').symm
              subst e
              have := (h.opn i v hv).keep s3 fun y _ e => .inr e
              exact this
            · rw [List.getElem?_set_ne hj] at hv'
              exact (h.opn j v' hv').keep s3 fun y _ e => .inr e
          keys := fun p hp => by
            obtain ⟨j, e, hj⟩ := h.keys p hp
            exact ⟨j, e, by simpa using hj⟩
          wf := { ver := fun y hy => by
                    rcases List.mem_or_eq_of_mem_set hy with hy | rfl
                    · exact h.wf.ver y hy
                    · refine ⟨by simp, fun z hz => ?_⟩
                      rcases List.mem_cons.1 hz with rfl | hz
                      · exact hx
                      · exact hvne.2 z (List.mem_of_mem_tail hz)
                  lo := by simpa using h.wf.lo
                  hi := by simpa using h.wf.hi
                  l0 := h.wf.l0
                  l1 := h.wf.l1 }
          lt := fun y hy => Nat.lt_of_lt_of_le (h.lt y hy) s3.size }

theorem DiskIn_store (h : DiskIn w R b sb mb sc L D) {i : Nat} {v : List Bk} {x : Bk} (hv : D.vs[i]? = some v) (hx : x.length = 256) :
    ∃ w', RuU (Instr.storeAt 164 (.pointer (some (Addr.add ⟨sb, 0, none⟩ (i * 256)))) (.agg ⟨u8L x⟩)) w w' ∧ DiskIn w' R b sb mb sc L ⟨D.vs.set i (x :: v.tail), D.left⟩ ∧ Mod (fun x => x = sb) w w' := by
  have hlt := (List.getElem?_eq_some_iff.1 hv).1
  have hfl := flat_len (D.vs.map hd) h.wf.hd
  have hfl' : (D.vs.map hd).flatten.length = D.vs.length * 256 := by rw [hfl, List.length_map]
  have hle : (i + 1) * 256 ≤ D.vs.length * 256 := Nat.mul_le_mul_right _ hlt
  obtain ⟨w', s1, s2, s3, s4⟩ := h.safe.storeAgg (P := Tryz.prog) (T := 164) (i := i * 256) (n := 256) (vs := u8L x) agg_block (by simp [hx]) (by rw [length_u8L, hfl']; omega) (one_u8L x)
  exact ⟨w', by rw [add_none]; exact s1, DiskIn_upd h hv hx s2 s3, s3⟩

theorem DiskIn_clear (h : DiskIn w R b sb mb sc L D) {ty : TypeId} : ∃ w', Ru (Builtin.clear_ #[142] ty #[.map (some mb)]) w (.tuple #[]) w' ∧ DiskIn w' R b sb mb sc [] (clr D) ∧ Mod (fun x => x = mb) w w' := by
  obtain ⟨w', s1, s2, s3, s4⟩ := clear_run (P := Tryz.prog) (ty := ty) mapDisk h.map
  refine ⟨w', s1, ?_, s3⟩
  have hh : (clr D).vs.map hd = D.vs.map hd := by
    unfold clr; rw [List.map_map]; rfl
  exact { cell := by
            have := h.cell.keep s3 h.nbm
            simpa [clr] using this
          cap := by simpa [clr] using h.cap
          safe := by rw [hh]; exact h.safe.keep s3 h.nsm
          map := s2
          rb := h.rb
          rs := h.rs
          rm := h.rm
          ne := h.ne
          opn := fun j v' hv' => by
            refine .inl ⟨?_, rfl⟩
            simp [clr] at hv'
            obtain ⟨u, _, rfl⟩ := hv'
            rfl
          keys := by simp
          wf := { ver := fun y hy => by
                    simp [clr] at hy
                    obtain ⟨u, hu, rfl⟩ := hy
                    refine ⟨by simp, fun z hz => ?_⟩
                    simp at hz; subst hz
                    exact h.wf.hd _ (List.mem_map.2 ⟨u, hu, rfl⟩)
                  lo := by simpa [clr] using h.wf.lo
                  hi := by simpa [clr] using h.wf.hi
                  l0 := h.wf.l0
                  l1 := h.wf.l1 }
          lt := fun y hy => Nat.lt_of_lt_of_le (h.lt y hy) s3.size }
theorem openS_get {D : St} {j : Nat} (hj : j < (openN D).length) : (iL (openS D))[j]? = some (.int .i64 ((openN D)[j] : Nat)) := by
  simp [iL, openS, hj, I]
theorem openN_len {D : St} : (openN D).length ≤ D.vs.length := by
  unfold openN; exact Nat.le_trans (List.length_filter_le _ _) (by simp)
def flSt (D : St) : St := if D.left = 0 then D else ⟨D.vs.map fun v => [lastV v], dec D.left⟩
theorem take_snoc {ks : List Nat} {j : Nat} (hj : j < ks.length) : ks.take (j + 1) = ks.take j ++ [ks[j]] := List.take_succ_eq_append_getElem hj

theorem Flush_c (h : DiskIn w R b sb mb sc L D) (hs : Small D) (hk : ∀ w' L', Mod R w w' → DiskIn w' R b sb mb sc L' (flSt D) → K (.int .i64 0) w') : Cal Tryz.prog F_disk_Disk_Flush #[.pointer (some ⟨b, 0, none⟩)] w K := by
  apply C_disk_Disk_Flush
  unfold D_disk_Disk_Flush
  refine ff rfl (goes_c h (fun hz => ⟨_, rfl, tt rfl ?_⟩) fun hnz w2 h2 m2 => ⟨_, rfl, ff rfl ?_⟩)
  · have e : flSt D = D := by unfold flSt; rw [if_pos hz]
    exact hk w L (Mod.refl _ _) (by rw [e]; exact h)
  have eF : flSt D = ⟨D.vs.map fun v => [lastV v], dec D.left⟩ := by unfold flSt; rw [if_neg hnz]
  rw [eF] at hk
  have M2 : Mod R w w2 := m2.mono fun x _ e => by subst e; exact h.rb
  have hs2 : Small ⟨D.vs, dec D.left⟩ := hs
  have h2' : DiskIn w2 R b sb mb sc L ⟨D.vs, dec D.left⟩ := h2
  clear h2
  generalize hD2 : (⟨D.vs, dec D.left⟩ : St) = D2 at *
  refine Open_c h2' fun w3 a l c m3 o3 => ⟨_, _, _, rfl, ?_⟩
  have h3 := h2'.nos m3
  have hl : (openN D2).length = l := by have := o3.len; simpa [openS] using this
  have hlb := openN_len (D := D2)
  have hhi := h2'.wf.hi
  refine ⟨fun x w4 => ∃ j : Nat, j ≤ l ∧ x = [.int .i64 j] ∧ DiskIn w4 R b sb mb sc L (upd D2 ((openN D2).take j) fun _ v => lastV v) ∧ Own Tryz.prog w4 w2.heap.size 49 1 a l c (iL (openS D2)) ∧ Mod R w2 w4, fun x _ => (l - nI x 0).toNat,
    ⟨0, by omega, rfl, by rw [List.take_zero, upd_nil]; exact h3, o3, m3.mono fun _ _ h => h.elim⟩, ?_⟩
  rintro x w4 ⟨j, hj, rfl, h4, o4, M4⟩
  refine ⟨_, rfl, cond_of (fun hb => ?_) (fun hb => ?_)⟩
  · have hj : j < l := by have := of_decide_eq_true hb; omega
    obtain ⟨g, rfl, hg, hrow⟩ := o4.sm (by omega)
    have hjo : j < (openN D2).length := by omega
    have hget : (openN D2)[j]? = some (openN D2)[j] := by simp [hjo]
    obtain ⟨v, hv, hvt⟩ := openN_lt (List.getElem_mem hjo)
    have hnt := not_taken (openN_nodup D2) hget
    have hv4 : (upd D2 ((openN D2).take j) fun _ v => lastV v).vs[(openN D2)[j]]? = some v := by rw [upd_get hv, if_neg hnt]
    refine ⟨_, index_slice (k := 1) (by kernel_rfl) (by omega) (by omega), ?_⟩
    rw [add_none, Int.toNat_natCast, Nat.mul_one]
    refine ⟨_, hrow.at.load (by kernel_rfl) (openS_get hjo), _, rfl, _, _, _, h4.drew.ls, ?_⟩
    refine last_c h4.drew hv4 (hs2 v (List.mem_of_getElem? hv)) fun w5 m5 => ⟨_, rfl, (h4.drew.nos m5).ls, ?_⟩
    have h5 := h4.drew.nos m5
    obtain ⟨w6, s1, s2, s3⟩ := DiskIn_store h5 hv4 (h2'.wf.lastLen hv)
    have hlt : (openN D2)[j] < (upd D2 ((openN D2).take j) fun _ v => lastV v).vs.length := (List.getElem?_eq_some_iff.1 hv4).1
    refine ⟨_, fun _ => idx_block hlt _, w6, s1, ?_⟩
    rw [wrap64 (x := (j : Int) + 1) (by omega) (by omega)]
    have M45 : Mod No w4 w5 := ((Mod.refl No w4).drew).no m5
    refine ⟨⟨j + 1, by omega, rfl, ?_, (o4.nos M45).keep s3 fun q hq e => ?_, (M4.no M45).trans s3 fun x _ e => by subst e; exact h.rs⟩, by simp [nI, nth]; omega⟩
    · rw [take_snoc hjo]
      have := upd_step (ks := (openN D2).take j) (f := fun _ v => lastV v) hv
      rw [this] at s2
      exact s2
    · have := (o4.base hq).1
      have := h2'.lt sb h2'.rs
      omega
  · have hjl : j = l := by have := of_decide_eq_false hb; omega
    subst hjl
    have e1 : (openN D2).take j = openN D2 := List.take_of_length_le (by omega)
    rw [e1] at h4
    obtain ⟨w6, s1, s2, s3⟩ := DiskIn_clear h4 (ty := 0)
    refine ⟨_, rfl, some mb, h4.lm, w6, s1, ?_⟩
    refine hk w6 [] ((M2.trans M4 fun _ _ h => h).trans s3 fun x _ e => by subst e; exact h.rm) ?_
    rw [clr_upd (fun i v _ ht => last_one ht)] at s2
    rw [put1_const, ← hD2] at s2
    exact s2
end
end Go.Proofs.YtocjjigmpgekfaaGreat
end
section
/- Layer 2, the program's disk: a crash. -/
open Go Go.Den Go.Proofs
namespace Go.Proofs.YtocjjigmpgekfaaGreat
section
variable {w : World} {R : Nat → Prop} {b sb mb sc : Nat} {L : List (Int × Value)} {D : St} {K : Value → World → Prop}
/-- Which version of a block is left: of the j-th open one, of m writes. -/
def kOf (pick : List Int) (j m : Nat) : Int := if j < pick.length then (if (m : Int) < (if 0 > pick.getD j 0 then 0 else pick.getD j 0) then (m : Int) else (if 0 > pick.getD j 0 then 0 else pick.getD j 0)) else 0
def pickV (D : St) (pick : List Int) (i : Nat) (v : List Bk) : Bk := v.getD (kOf pick ((openN D).idxOf i) v.tail.length).toNat []
end
end Go.Proofs.YtocjjigmpgekfaaGreat
end
section
/- Layer 2: a disk of one's own, made since a world; the fixed calls. -/
open Go Go.Den Go.Proofs
namespace Go.Proofs.YtocjjigmpgekfaaGreat
/-- A disk that has been made since w0, of blocks below N. -/
def Dk (w0 : World) (N : Nat) (w : World) (b : Nat) (D : St) : Prop :=
  ∃ R sb mb sc L, DiskIn w R b sb mb sc L D ∧ (∀ x, R x → w0.heap.size ≤ x ∧ x < N) ∧ Mod No w0 w ∧ N ≤ w.heap.size
section
variable {w0 w : World} {N b : Nat} {D : St} {K : Value → World → Prop}
theorem Dk.nos {w' : World} (h : Dk w0 N w b D) (m : Mod No w w') : Dk w0 N w' b D := by
  obtain ⟨R, sb, mb, sc, L, h1, h2, h3, h4⟩ := h
  exact ⟨R, sb, mb, sc, L, h1.nos m, h2, h3.no m, Nat.le_trans h4 m.size⟩
theorem Dk.mod (h : Dk w0 N w b D) : Mod No w0 w := by obtain ⟨_, _, _, _, _, _, _, h, _⟩ := h; exact h
theorem Dk.size (h : Dk w0 N w b D) : N ≤ w.heap.size := by obtain ⟨_, _, _, _, _, _, _, _, h⟩ := h; exact h
theorem Dk.wf (h : Dk w0 N w b D) : WF D := by obtain ⟨_, _, _, _, _, h, _⟩ := h; exact h.wf
theorem Dk.le (h : Dk w0 N w b D) : w0.heap.size ≤ N := by
  obtain ⟨R, _, _, _, _, h1, h2, _⟩ := h
  have := h2 _ h1.rb; omega

theorem Small.one {D : St} (h : ∀ v ∈ D.vs, v.length ≤ 999999) : Small D := fun v hv => by have := h v hv; omega

theorem conv_lit (w : World) (v : UInt8) : (convert 36 36 (.slice (some ⟨w.heap.size, 0, none⟩) 1 1)).run Tryz.prog (w.alloc (.cells ⟨[.int .u8 (v.toNat : Int)]⟩ 5)) =
    .ok (.slice (some ⟨w.heap.size, 0, none⟩) 1 1) (w.alloc (.cells ⟨[.int .u8 (v.toNat : Int)]⟩ 5 (1, 2))) :=
  Go.Lib.run_convert_bytes_const (P := Tryz.prog) w 36 5 ⟨[.int .u8 (v.toNat : Int)]⟩ 1 1 (by kernel_rfl) (by kernel_rfl)

def D1 : St := wrSt (newSt 3) 1 (fillB [65])
def D2 : St := flSt D1
theorem sm (D : St) (h : (D.vs.all fun v => decide (v.length ≤ 999999)) = true) : ∀ v ∈ D.vs, v.length ≤ 999999 := by
  intro v hv
  have := List.all_eq_true.1 h v hv
  exact of_decide_eq_true this
end
end Go.Proofs.YtocjjigmpgekfaaGreat
end
section
/- Look-ups in lists of pairs; how many versions a disk's blocks have. -/
open Go Go.Den Go.Proofs
namespace Go.Den
theorem look_of_mem : ∀ {L : List (Int × Value)} {k : Int} {v : Value}, (L.map (·.1)).Nodup → (k, v) ∈ L → lookupL L k = some v
  | p :: r, k, v, hn, hm => by
    rw [List.map_cons, List.nodup_cons] at hn
    simp only [lookupL]
    rcases List.mem_cons.1 hm with e | hm
    · subst e; rw [if_pos rfl]
    · have hne : p.1 ≠ k := fun e => hn.1 (by rw [e]; exact List.mem_map.2 ⟨_, hm, rfl⟩)
      rw [if_neg hne]; exact look_of_mem hn.2 hm
theorem putL_new {L : List (Int × Value)} {k : Int} {v : Value} (h : ∀ p ∈ L, p.1 ≠ k) : putL k v L = L ++ [(k, v)] := by
  induction L with
  | nil => rfl
  | cons p r ih =>
    simp only [putL]
    rw [if_neg (h p (by simp)), ih fun q hq => h q (by simp [hq])]; rfl
theorem map_inj {α β : Type} {f : α → β} : ∀ {l : List α}, (l.map f).Nodup → ∀ {x e : α}, x ∈ l → e ∈ l → f x = f e → x = e
  | [], _, x, e, hx, _, _ => by cases hx
  | y :: r, hn, x, e, hx, he, h => by
    rw [List.map_cons, List.nodup_cons] at hn
    rcases List.mem_cons.1 hx with hx | hx
    · rcases List.mem_cons.1 he with he | he
      · rw [hx, he]
      · exact absurd (List.mem_map.2 ⟨e, he, by rw [← h, hx]⟩) hn.1
    · rcases List.mem_cons.1 he with he | he
      · exact absurd (List.mem_map.2 ⟨x, hx, by rw [h, he]⟩) hn.1
      · exact map_inj hn.2 hx he h
end Go.Den
namespace Go.Proofs.YtocjjigmpgekfaaGreat
section
variable {D : St}
def Bnd (D : St) (m : Nat) : Prop := ∀ v ∈ D.vs, v.length ≤ m
theorem Bnd.mono {m m' : Nat} (h : Bnd D m) (hm : m ≤ m') : Bnd D m' := fun v hv => Nat.le_trans (h v hv) hm
theorem Bnd_wr {m : Nat} (h : Bnd D m) (n : Int) (ys : List UInt8) : Bnd (wrSt D n ys) (m + 1) := by
  unfold wrSt
  split
  · exact h.mono (by omega)
  · intro v hv
    rcases List.mem_or_eq_of_mem_set hv with hv | rfl
    · have := h v hv; omega
    · have : (verOf D n).length ≤ m := by
        rcases err_cases (D := D) n with ⟨_, ho⟩ | ⟨_, i, u, rfl, hu, hver⟩
        · rw [verOf_none ho]; simp
        · rw [hver]; exact h u (List.mem_of_getElem? hu)
      simp; omega
theorem len_wr (D : St) (n : Int) (ys : List UInt8) : (wrSt D n ys).vs.length = D.vs.length := by unfold wrSt; split <;> simp
end
end Go.Proofs.YtocjjigmpgekfaaGreat
end
section
/- Maps with int keys in memory: lookup with a word on whether it is there, delete. -/
open Go Go.Den
namespace Go.Den
def delL (k : Int) (L : List (Int × Value)) : List (Int × Value) := L.filter fun p => !decide (p.1 = k)
theorem findE_erase (k : Int) : ∀ (Es : List Ent) (i j : Nat) (u : Value), (Es.map (·.1)).Nodup → findE k Es i = some (j, u) → i ≤ j ∧ j - i < Es.length ∧ Es.eraseIdx (j - i) = Es.filter fun e => !decide (e.1 = k)
  | [], _, _, _, _, h => by cases h
  | e :: r, i, j, u, hn, h => by
    rw [List.map_cons, List.nodup_cons] at hn
    simp only [findE] at h
    by_cases he : e.1 = k
    · rw [if_pos he] at h
      have h := Option.some.inj h
      simp only [Prod.mk.injEq] at h
      obtain ⟨rfl, _⟩ := h
      refine ⟨Nat.le_refl _, by simp, ?_⟩
      rw [Nat.sub_self, List.eraseIdx_cons_zero, List.filter_cons_of_neg (by simp [he])]
      refine (List.filter_eq_self.2 fun x hx => ?_).symm
      have : x.1 ≠ k := fun e' => hn.1 (List.mem_map.2 ⟨x, hx, by rw [e', he]⟩)
      simp [this]
    · rw [if_neg he] at h
      obtain ⟨h1, h2, h3⟩ := findE_erase k r (i + 1) j u hn.2 h
      refine ⟨by omega, by simp; omega, ?_⟩
      rw [show j - i = (j - (i + 1)) + 1 by omega, List.eraseIdx_cons_succ, h3, List.filter_cons_of_pos (by simp [he])]
theorem findE_all (k : Int) : ∀ (Es : List Ent) (i : Nat), findE k Es i = none → (Es.filter fun e => !decide (e.1 = k)) = Es
  | [], _, _ => rfl
  | e :: r, i, h => by
    simp only [findE] at h
    by_cases he : e.1 = k
    · rw [if_pos he] at h; cases h
    · rw [if_neg he] at h
      rw [List.filter_cons_of_pos (by simp [he]), findE_all k r (i + 1) h]
theorem erase_map {α β : Type} (f : α → β) : ∀ (l : List α) (j : Nat), (l.map f).eraseIdx j = (l.eraseIdx j).map f
  | [], _ => rfl
  | x :: r, 0 => rfl
  | x :: r, j + 1 => by simp [erase_map f r j]
theorem look_del (L : List (Int × Value)) (k k' : Int) : lookupL (delL k L) k' = if k' = k then none else lookupL L k' := by
  induction L with
  | nil => simp [delL, lookupL]
  | cons p r ih =>
    unfold delL at ih ⊢
    by_cases hp : p.1 = k
    · rw [List.filter_cons_of_neg (by simp [hp]), ih]
      by_cases hk : k' = k
      · rw [if_pos hk, if_pos hk]
      · rw [if_neg hk, if_neg hk]; simp only [lookupL]; rw [if_neg (by omega)]
    · rw [List.filter_cons_of_pos (by simp [hp])]
      simp only [lookupL]
      by_cases hk : p.1 = k'
      · rw [if_pos hk, if_pos hk, if_neg (by omega)]
      · rw [if_neg hk, if_neg hk, ih]
theorem del_mem {L : List (Int × Value)} {k : Int} {p : Int × Value} : p ∈ delL k L ↔ p ∈ L ∧ p.1 ≠ k := by
  unfold delL; rw [List.mem_filter]; simp
section
variable {P : Program} {w : World}
theorem look2_run {T : TypeId} {z : Value} {m : Nat} {L : List (Int × Value)} {k : Int} (hT : mapZ P T = some z) (h : MapAt w m L) :
    (Instr.lookup T (.map (some m)) (.int .i64 k) true).run P w = .ok (.tuple #[(lookupL L k).getD z, .bool (lookupL L k).isSome]) w := by
  obtain ⟨kt, e, i, h1, h2, h3, h4⟩ := mapZ_is hT
  obtain ⟨Es, c, g1, rfl, _⟩ := h
  have hl := findE_look k Es 0
  have hzero : (zeroValue e).run P w = .ok z w := by simp [zeroValue, typeInfo, h3, h4]
  simp only [Instr.lookup, Sem.run_bind, run_und h1, Result.andThen_ok, run_getMap g1, Sem.run_pure, run_checkKey h2, run_findKey h2]
  cases hf : findE k Es 0 with
  | none =>
    rw [hf] at hl
    simp only [Option.map_none] at hl
    simp [← hl, hzero]
  | some r =>
    rw [hf] at hl
    simp only [Option.map_some] at hl
    simp [← hl]
theorem delete_run {T T2 ty : TypeId} {z : Value} {m : Nat} {L : List (Int × Value)} {k : Int} (hT : mapZ P T = some z) (h : MapAt w m L) :
    ∃ w', (Builtin.delete_ #[T, T2] ty #[.map (some m), .int .i64 k]).run P w = .ok (.tuple #[]) w' ∧ MapAt w' m (delL k L) ∧ Mod (fun x => x = m) w w' ∧ w'.heap.size = w.heap.size := by
  obtain ⟨kt, e, i, h1, h2, h3, h4⟩ := mapZ_is hT
  obtain ⟨Es, c, g1, rfl, g3, g4, g5⟩ := h
  have hund : (underlying T).run P w = .ok (.map kt e) w := run_und h1 w
  have hmod : ∀ o, Mod (fun x => x = m) w (put w m o) := fun o => (Mod.refl (fun x => x = m) w).put (.inr rfl) _
  have hkv : (Es.filter fun e => !decide (e.1 = k)).map kv = delL k (Es.map kv) := by
    unfold delL; rw [List.filter_map]; rfl
  have hsub : (Es.filter fun e => !decide (e.1 = k)).Sublist Es := List.filter_sublist
  cases hf : findE k Es 0 with
  | none =>
    have hall := findE_all k Es 0 hf
    refine ⟨put w m (.map (Es.map toE).toArray c), ?_, ⟨Es, c, heap_put_same (lt_of_heap g1), by rw [← hkv, hall], g3, g4, g5⟩, hmod _, by simp⟩
    simp [Builtin.delete_, hund, run_getMap g1, run_checkKey h2, run_findKey h2, hf, run_setMap g1]
  | some r =>
    obtain ⟨j, u⟩ := r
    obtain ⟨_, e2, e3⟩ := findE_erase k Es 0 j u g3 hf
    rw [Nat.sub_zero] at e2 e3
    refine ⟨put w m (.map ((Es.eraseIdx j).map toE).toArray c), ?_, ⟨Es.eraseIdx j, c, heap_put_same (lt_of_heap g1), by rw [e3, hkv], ?_, ?_, ?_⟩, hmod _, by simp⟩
    · simp [Builtin.delete_, hund, run_getMap g1, run_checkKey h2, run_findKey h2, hf, run_setMap g1, erase_map]
    · rw [e3]; exact (hsub.map _).nodup g3
    · rw [e3]; exact fun x hx => g4 x (hsub.subset hx)
    · rw [e3]; exact (hsub.map _).nodup g5
end
end Go.Den
end
section
/- Layer 10, the program's cache: what it is, and what it is in memory. -/
open Go Go.Den Go.Proofs
namespace Go.Proofs.YtocjjigmpgekfaaGreat
/-- A block in memory: its number, its bytes, how often it is pinned. -/
structure Bf where
  b : Nat
  data : Bk
  pins : Nat
deriving DecidableEq
/-- A cache: a disk, how many there may be, those that there are (the one asked last at the end). -/
structure Ca where
  D : St
  most : Nat
  l : List Bf
def nums (l : List Bf) : List Int := l.map fun x => (x.b : Int)
def atD (D : St) (b : Nat) : Bk := lastV (verOf D b)
def clean (D : St) (x : Bf) : Bool := decide (x.data = atD D x.b)
def others (l : List Bf) (b : Nat) : List Bf := l.filter fun x => !decide (x.b = b)
def findB (l : List Bf) (b : Nat) : Option Bf := l.find? fun x => decide (x.b = b)
def idleB (D : St) (x : Bf) : Bool := decide (x.pins = 0) && clean D x
def roomC (C : Ca) : Option Ca := if C.l.length < C.most then some C else (C.l.find? (idleB C.D)).map fun x => { C with l := others C.l x.b }
def askC (C : Ca) (b : Nat) : Option Ca :=
  match findB C.l b with
  | some x => some { C with l := others C.l b ++ [x] }
  | none => (roomC C).map fun C' => { C' with l := C'.l ++ [⟨b, atD C.D b, 0⟩] }
structure WFC (C : Ca) : Prop where
  small : Small C.D
  most0 : 1 ≤ C.most
  most1 : C.most ≤ 4096
  len : C.l.length ≤ C.most
  nodup : (C.l.map (·.b)).Nodup
  lt : ∀ x ∈ C.l, x.b < C.D.vs.length
  data : ∀ x ∈ C.l, x.data.length = 256
  pins : ∀ x ∈ C.l, x.pins ≤ 1000000

theorem findB_some {l : List Bf} {b : Nat} {x : Bf} (h : findB l b = some x) : x ∈ l ∧ x.b = b := by
  unfold findB at h
  exact ⟨List.mem_of_find?_eq_some h, by simpa using List.find?_some h⟩
theorem findB_none {l : List Bf} {b : Nat} (h : findB l b = none) : ∀ x ∈ l, x.b ≠ b := by
  unfold findB at h
  intro x hx
  have := List.find?_eq_none.1 h x hx
  simpa using this
theorem findB_mem {l : List Bf} (hn : (l.map (·.b)).Nodup) {x : Bf} (hx : x ∈ l) : findB l x.b = some x := by
  cases h : findB l x.b with
  | none => exact absurd rfl (findB_none h x hx)
  | some y =>
    obtain ⟨hy, e⟩ := findB_some h
    rw [map_inj hn hy hx e]
theorem mem_others {l : List Bf} {b : Nat} {x : Bf} : x ∈ others l b ↔ x ∈ l ∧ x.b ≠ b := by
  unfold others; rw [List.mem_filter]; simp
theorem nums_others (l : List Bf) (b : Nat) : nums (others l b) = (nums l).filter fun k => !decide (k = (b : Int)) := by
  unfold nums others
  rw [List.filter_map]
  congr 1
  apply List.filter_congr
  intro x _
  simp only [Function.comp]
  congr 2
  rw [eq_iff_iff]; omega
theorem others_nodup {l : List Bf} (hn : (l.map (·.b)).Nodup) (b : Nat) : ((others l b).map (·.b)).Nodup := (List.filter_sublist.map _).nodup hn
theorem others_len (l : List Bf) (b : Nat) : (others l b).length ≤ l.length := List.length_filter_le _ _
theorem others_lt {l : List Bf} {x : Bf} (hx : x ∈ l) : (others l x.b).length < l.length := by
  unfold others
  rw [List.length_filter_lt_length_iff_exists]
  exact ⟨x, hx, by simp⟩
theorem snoc_nodup {l : List Bf} (hn : (l.map (·.b)).Nodup) {x : Bf} (hx : ∀ y ∈ l, y.b ≠ x.b) : ((l ++ [x]).map (·.b)).Nodup := by
  rw [List.map_append]
  refine List.nodup_append.2 ⟨hn, by simp, ?_⟩
  intro a ha b hb
  simp at hb; subst hb
  obtain ⟨y, hy, rfl⟩ := List.mem_map.1 ha
  exact hx y hy

theorem WFC.move {C : Ca} (h : WFC C) {x : Bf} (hx : x ∈ C.l) : WFC { C with l := others C.l x.b ++ [x] } where
  small := h.small
  most0 := h.most0
  most1 := h.most1
  len := by have := others_lt hx; have := h.len; simp; omega
  nodup := snoc_nodup (others_nodup h.nodup _) fun y hy => (mem_others.1 hy).2
  lt := fun y hy => by
    rcases List.mem_append.1 hy with hy | hy
    · exact h.lt y (mem_others.1 hy).1
    · simp at hy; subst hy; exact h.lt _ hx
  data := fun y hy => by
    rcases List.mem_append.1 hy with hy | hy
    · exact h.data y (mem_others.1 hy).1
    · simp at hy; subst hy; exact h.data _ hx
  pins := fun y hy => by
    rcases List.mem_append.1 hy with hy | hy
    · exact h.pins y (mem_others.1 hy).1
    · simp at hy; subst hy; exact h.pins _ hx
theorem WFC.out {C : Ca} (h : WFC C) (b : Nat) : WFC { C with l := others C.l b } where
  small := h.small
  most0 := h.most0
  most1 := h.most1
  len := Nat.le_trans (others_len _ _) h.len
  nodup := others_nodup h.nodup _
  lt := fun y hy => h.lt y (mem_others.1 hy).1
  data := fun y hy => h.data y (mem_others.1 hy).1
  pins := fun y hy => h.pins y (mem_others.1 hy).1
theorem WFC.add {C : Ca} (h : WFC C) {x : Bf} (hr : C.l.length < C.most) (hx : ∀ y ∈ C.l, y.b ≠ x.b) (h1 : x.b < C.D.vs.length) (h2 : x.data.length = 256) (h3 : x.pins ≤ 1000000) : WFC { C with l := C.l ++ [x] } where
  small := h.small
  most0 := h.most0
  most1 := h.most1
  len := by simp; omega
  nodup := snoc_nodup h.nodup hx
  lt := fun y hy => by
    rcases List.mem_append.1 hy with hy | hy
    · exact h.lt y hy
    · simp at hy; subst hy; exact h1
  data := fun y hy => by
    rcases List.mem_append.1 hy with hy | hy
    · exact h.data y hy
    · simp at hy; subst hy; exact h2
  pins := fun y hy => by
    rcases List.mem_append.1 hy with hy | hy
    · exact h.pins y hy
    · simp at hy; subst hy; exact h3
/-- One block's bytes and pins turned. -/
def turn (l : List Bf) (y : Bf) : List Bf := l.map fun x => if x.b = y.b then y else x
theorem turn_b (l : List Bf) (y : Bf) : (turn l y).map (·.b) = l.map (·.b) := by
  unfold turn
  rw [List.map_map]
  apply List.map_congr_left
  intro x _
  simp only [Function.comp]
  split
  · rename_i h; exact h.symm
  · rfl
theorem turn_nums (l : List Bf) (y : Bf) : nums (turn l y) = nums l := by
  have := turn_b l y
  unfold nums
  have e : ∀ l : List Bf, (l.map fun x => (x.b : Int)) = (l.map (·.b)).map fun n : Nat => (n : Int) := fun l => by rw [List.map_map]; rfl
  rw [e, e, this]
theorem mem_turn {l : List Bf} {y z : Bf} (h : z ∈ turn l y) : z = y ∨ (z ∈ l ∧ z.b ≠ y.b) := by
  unfold turn at h
  obtain ⟨x, hx, e⟩ := List.mem_map.1 h
  split at e
  · exact .inl e.symm
  · rename_i hne; subst e; exact .inr ⟨hx, hne⟩
theorem WFC.turn {C : Ca} (h : WFC C) {y : Bf} (h1 : y.b < C.D.vs.length) (h2 : y.data.length = 256) (h3 : y.pins ≤ 1000000) : WFC { C with l := turn C.l y } where
  small := h.small
  most0 := h.most0
  most1 := h.most1
  len := by have := h.len; simpa [Go.Proofs.YtocjjigmpgekfaaGreat.turn] using this
  nodup := by rw [turn_b]; exact h.nodup
  lt := fun z hz => by
    rcases mem_turn hz with rfl | ⟨hz, _⟩
    · exact h1
    · exact h.lt z hz
  data := fun z hz => by
    rcases mem_turn hz with rfl | ⟨hz, _⟩
    · exact h2
    · exact h.data z hz
  pins := fun z hz => by
    rcases mem_turn hz with rfl | ⟨hz, _⟩
    · exact h3
    · exact h.pins z hz
end Go.Proofs.YtocjjigmpgekfaaGreat
end
section
/- Layer 10, the program's cache in memory: the parts, kept and turned. -/
open Go Go.Den Go.Proofs
namespace Go.Proofs.YtocjjigmpgekfaaGreat
/-- The cache's region, by what a block is: 1 the cache itself, 2 its map, 3 its row, 4 the disk's, 5 bytes, 6 + b the buffer of block b. -/
structure CIn (w0 : World) (R : Nat → Prop) (rl : Nat → Nat) (w : World) (c d m sb mb sc lc : Nat) (la : Option Addr) (L mp : List (Int × Value)) (C : Ca) : Prop where
  disk : DiskIn w (fun x => rl x = 4) d sb mb sc L C.D
  cell : AtU w c 0 [.pointer (some ⟨d, 0, none⟩), .int .i64 C.most, .map (some m), .slice la C.l.length lc]
  map : MapAt w m mp
  row : Own Tryz.prog w w0.heap.size 49 1 la C.l.length lc (iL (nums C.l))
  rc : rl c = 1
  rm : rl m = 2
  rrow : ∀ q, la = some q → rl q.block = 3
  bufs : ∀ x ∈ C.l, ∃ q g cc, lookupL mp x.b = some (.pointer (some ⟨q, 0, none⟩)) ∧ rl q = 6 + x.b ∧ rl g = 5 ∧ AtU w q 0 [.slice (some ⟨g, 0, none⟩) 256 cc, .int .i64 x.pins] ∧ At w g 0 (u8L x.data)
  keys : ∀ p ∈ mp, ∃ x ∈ C.l, p.1 = (x.b : Int)
  wf : WFC C
  reg : ∀ x, rl x ≠ 0 → R x
  lo : ∀ x, R x → w0.heap.size ≤ x ∧ x < w.heap.size
  mod : Mod No w0 w
section
variable {w0 w w' : World} {R : Nat → Prop} {rl : Nat → Nat} {c d m sb mb sc lc : Nat} {la : Option Addr} {L mp : List (Int × Value)} {C : Ca}
theorem CIn.nos (h : CIn w0 R rl w c d m sb mb sc lc la L mp C) (k : Mod No w w') : CIn w0 R rl w' c d m sb mb sc lc la L mp C where
  disk := h.disk.nos k
  cell := h.cell.keep k id
  map := h.map.keep k id
  row := h.row.nos k
  rc := h.rc
  rm := h.rm
  rrow := h.rrow
  bufs := fun x hx => by
    obtain ⟨q, g, cc, h1, h2, h3, h4, h6⟩ := h.bufs x hx
    exact ⟨q, g, cc, h1, h2, h3, h4.keep k id, h6.keep k id⟩
  keys := h.keys
  wf := h.wf
  reg := h.reg
  lo := fun x hx => by have := h.lo x hx; have := k.size; omega
  mod := h.mod.no k
theorem CIn.drew (h : CIn w0 R rl w c d m sb mb sc lc la L mp C) : CIn w0 R rl (Go.Den.drew w) c d m sb mb sc lc la L mp C := h.nos (Mod.refl No w).drew
theorem CIn.widen {R' : Nat → Prop} (h : CIn w0 R rl w c d m sb mb sc lc la L mp C) (h1 : ∀ x, R x → R' x) (h2 : ∀ x, R' x → w0.heap.size ≤ x ∧ x < w.heap.size) : CIn w0 R' rl w c d m sb mb sc lc la L mp C :=
  { h with reg := fun x hx => h1 x (h.reg x hx), lo := h2 }
/-- Roles that new blocks take. -/
def ro (rl : Nat → Nat) (a r : Nat) : Nat → Nat := fun z => if z = a then r else rl z
theorem ro_same (rl : Nat → Nat) (a r : Nat) : ro rl a r a = r := by unfold ro; rw [if_pos rfl]
theorem ro_ne (rl : Nat → Nat) {a r x : Nat} (h : x ≠ a) : ro rl a r x = rl x := by unfold ro; rw [if_neg h]
structure Ext (w w' : World) (rl rl' : Nat → Nat) : Prop where
  old : ∀ x, rl x ≠ 0 → rl' x = rl x
  new : ∀ x, rl x = 0 → rl' x ≠ 0 → w.heap.size ≤ x ∧ x < w'.heap.size
  dsk : ∀ x, rl' x = 4 → rl x = 4
theorem Ext.refl (w w' : World) (rl : Nat → Nat) : Ext w w' rl rl := ⟨fun _ _ => rfl, fun _ h k => absurd h k, fun _ h => h⟩
theorem Ext.ro {rl' : Nat → Nat} (h : Ext w w' rl rl') {a r : Nat} (ha : rl' a = r ∨ (w.heap.size ≤ a ∧ a < w'.heap.size ∧ rl' a = 0)) (h4 : r ≠ 4) (h0 : r ≠ 0) : Ext w w' rl (ro rl' a r) where
  old := fun x hx => by
    by_cases e : x = a
    · subst e
      rw [ro_same]
      have := h.old x hx
      rcases ha with ha | ⟨_, _, ha⟩
      · rw [← this, ha]
      · omega
    · rw [ro_ne _ e]; exact h.old x hx
  new := fun x hx hn => by
    by_cases e : x = a
    · subst e
      rcases ha with ha | ⟨h1, h2, _⟩
      · exact h.new x hx (by omega)
      · exact ⟨h1, h2⟩
    · rw [ro_ne _ e] at hn; exact h.new x hx hn
  dsk := fun x hx => by
    by_cases e : x = a
    · subst e; rw [ro_same] at hx; exact absurd hx h4
    · rw [ro_ne _ e] at hx; exact h.dsk x hx
/-- A step in memory: the parts anew. -/
theorem CIn.step {S : Nat → Prop} {rl' : Nat → Nat} {lc' : Nat} {la' : Option Addr} {mp' : List (Int × Value)} {l' : List Bf} (h : CIn w0 R rl w c d m sb mb sc lc la L mp C) (k : Mod S w w') (hx : Ext w w' rl rl')
    (hS : ∀ x, x < w.heap.size → S x → rl x ≠ 0 ∧ rl x ≠ 4 ∧ rl x ≠ 5)
    (hcell : AtU w' c 0 [.pointer (some ⟨d, 0, none⟩), .int .i64 C.most, .map (some m), .slice la' l'.length lc']) (hmap : MapAt w' m mp')
    (hrow : Own Tryz.prog w' w0.heap.size 49 1 la' l'.length lc' (iL (nums l'))) (hla : ∀ q, la' = some q → rl' q.block = 3)
    (hl : ∀ x ∈ l', (x ∈ C.l ∧ lookupL mp' x.b = lookupL mp x.b ∧ ∀ q, S q → rl q ≠ 6 + x.b) ∨
      ∃ q g cc, lookupL mp' x.b = some (.pointer (some ⟨q, 0, none⟩)) ∧ rl' q = 6 + x.b ∧ rl' g = 5 ∧ AtU w' q 0 [.slice (some ⟨g, 0, none⟩) 256 cc, .int .i64 x.pins] ∧ At w' g 0 (u8L x.data))
    (hk : ∀ p ∈ mp', ∃ x ∈ l', p.1 = (x.b : Int)) (hwf : WFC { C with l := l' }) :
    CIn w0 (Gro R w w') rl' w' c d m sb mb sc lc' la' L mp' { C with l := l' } where
  disk := by
    have h4 := h.disk.keep k fun x hx e => by
      have := hS x (h.disk.lt x hx) e
      omega
    have e : (fun x => rl' x = 4) = fun x => rl x = 4 := by
      funext x
      exact propext ⟨hx.dsk x, fun e => by rw [hx.old x (by omega)]; exact e⟩
    rw [e]; exact h4
  cell := hcell
  map := hmap
  row := hrow
  rc := by rw [hx.old c (by rw [h.rc]; omega)]; exact h.rc
  rm := by rw [hx.old m (by rw [h.rm]; omega)]; exact h.rm
  rrow := hla
  bufs := fun x hx' => by
    rcases hl x hx' with ⟨hx1, hx2, hx3⟩ | hn
    · obtain ⟨q, g, cc, h1, h2, h3, h4, h6⟩ := h.bufs x hx1
      refine ⟨q, g, cc, hx2.trans h1, ?_, ?_, h4.keep k fun e => hx3 q e h2, h6.keep k fun e => ?_⟩
      · rw [hx.old q (by omega)]; exact h2
      · rw [hx.old g (by omega)]; exact h3
      · exact (hS g h6.lt e).2.2 h3
    · exact hn
  keys := hk
  wf := hwf
  reg := fun x hn => by
    by_cases e : rl x = 0
    · exact .inr (hx.new x e hn)
    · exact .inl (h.reg x e)
  lo := fun x hx => by
    have := k.size
    have := h.mod.size
    rcases hx with hx | hx
    · have := h.lo x hx; omega
    · omega
  mod := h.mod.trans k fun x hx e => by
    have := h.mod.size
    have := hS x (by omega) e
    have := h.lo x (h.reg x (by omega))
    omega
/-- The disk is another one. -/
theorem CIn.dsk {S : Nat → Prop} {L' : List (Int × Value)} {D' : St} (h : CIn w0 R rl w c d m sb mb sc lc la L mp C) (k : Mod S w w') (hS : ∀ x, S x → rl x = 4)
    (hd : DiskIn w' (Gro (fun x => rl x = 4) w w') d sb mb sc L' D') (hsm : Small D') (hn : D'.vs.length = C.D.vs.length) :
    ∃ rl', CIn w0 (Gro R w w') rl' w' c d m sb mb sc lc la L' mp { C with D := D' } := by
  have hold : ∀ x, rl x ≠ 0 → x < w.heap.size := fun x hx => (h.lo x (h.reg x hx)).2
  have hsame : ∀ x, rl x ≠ 0 → (if w.heap.size ≤ x ∧ x < w'.heap.size then 4 else rl x) = rl x := by
    intro x hx
    rw [if_neg (by have := hold x hx; omega)]
  have hz := k.size
  have hw0 := h.mod.size
  refine ⟨fun x => if w.heap.size ≤ x ∧ x < w'.heap.size then 4 else rl x, ?_⟩
  exact { disk := by
            have e : (fun x => (if w.heap.size ≤ x ∧ x < w'.heap.size then 4 else rl x) = 4) = Gro (fun x => rl x = 4) w w' := by
              funext x
              unfold Gro
              apply propext
              constructor
              · intro e
                split at e
                · rename_i hn; exact .inr hn
                · exact .inl e
              · rintro (e | e)
                · rw [hsame x (by omega)]; exact e
                · rw [if_pos e]
            rw [e]; exact hd
          cell := h.cell.keep k fun e => by have := hS c e; have := h.rc; omega
          map := h.map.keep k fun e => by have := hS m e; have := h.rm; omega
          row := h.row.keep k fun q hq e => by have := hS _ e; have := h.rrow q hq; omega
          rc := by show (if _ then 4 else rl c) = 1; rw [hsame c (by rw [h.rc]; omega)]; exact h.rc
          rm := by show (if _ then 4 else rl m) = 2; rw [hsame m (by rw [h.rm]; omega)]; exact h.rm
          rrow := fun q hq => by
            show (if _ then 4 else rl q.block) = 3
            rw [hsame q.block (by rw [h.rrow q hq]; omega)]; exact h.rrow q hq
          bufs := fun x hx => by
            obtain ⟨q, g, cc, h1, h2, h3, h4, h6⟩ := h.bufs x hx
            refine ⟨q, g, cc, h1, ?_, ?_, h4.keep k fun e => by have := hS q e; omega, h6.keep k fun e => by have := hS g e; omega⟩
            · show (if _ then 4 else rl q) = _; rw [hsame q (by omega)]; exact h2
            · show (if _ then 4 else rl g) = _; rw [hsame g (by omega)]; exact h3
          keys := h.keys
          wf := { small := hsm, most0 := h.wf.most0, most1 := h.wf.most1, len := h.wf.len, nodup := h.wf.nodup, lt := fun x hx => by rw [hn]; exact h.wf.lt x hx, data := h.wf.data, pins := h.wf.pins }
          reg := fun x hx => by
            by_cases hn : w.heap.size ≤ x ∧ x < w'.heap.size
            · exact .inr hn
            · simp only [if_neg hn] at hx
              exact .inl (h.reg x hx)
          lo := fun x hx => by
            rcases hx with hx | hx
            · have := h.lo x hx; omega
            · omega
          mod := h.mod.trans k fun x hx e => by
            have := hS x e
            have := h.lo x (h.reg x (by omega))
            omega }
end
end Go.Proofs.YtocjjigmpgekfaaGreat
end
section
/- The library's slices functions that layer 10 calls: clones, what a row has; num.Diff. -/
open Go Go.Den Go.Proofs
namespace Go.Proofs.YtocjjigmpgekfaaGreat
section
variable {w : World} {K : Value → World → Prop}
theorem nil_bytes : Al (eqS .eql 36 (.tmp 3) (.const (.slice none 0 0)) (.slice none 0 0) (.slice none 0 0)) (.bool true) := fun _ => by kernel_rfl
theorem some_bytes (a : Addr) (l c : Nat) : Al (eqS .eql 36 (.tmp 3) (.const (.slice none 0 0)) (.slice (some a) l c) (.slice none 0 0)) (.bool false) := fun _ => by kernel_rfl
theorem builtB0 (w : World) : (Instr.buildSlice 36 0 #[]).run Tryz.prog w = .ok (.slice (some ⟨w.heap.size, 0, none⟩) 0 0) (w.alloc (.cells #[] 5)) := by kernel_rfl
theorem own_empty {T e : TypeId} {k : Nat} (hu : Tryz.prog.underlying T = some (.slice e)) : Own Tryz.prog (w.alloc (.cells #[] e)) w.heap.size T k (some ⟨w.heap.size, 0, none⟩) 0 0 [] :=
  ⟨_, hu, by simp, .inr ⟨w.heap.size, 0, #[], rfl, Nat.le_refl _, heap_new w _, Nat.le_refl _, Nat.zero_le _, by simp, by simp⟩⟩
theorem CloneB_c {a : Option Addr} {l c : Nat} {xs : List UInt8} (hr : Row w a (u8L xs)) (hl : xs.length = l) (h0 : a = none → l = 0 ∧ c = 0) (h63 : l ≤ 1000000000)
    (hk : ∀ w' a' c', Own Tryz.prog w' w.heap.size 36 1 a' l c' (u8L xs) → Mod No w w' → K (.slice a' l c') w') : Cal Tryz.prog F_slices_Clone_byte #[.slice a l c] w K := by
  apply C_slices_Clone_byte
  unfold D_slices_Clone_byte
  cases a with
  | none =>
    obtain ⟨rfl, rfl⟩ := h0 rfl
    have hx : xs = [] := List.eq_nil_of_length_eq_zero hl
    subst hx
    exact ⟨_, nil_bytes, tt rfl (hk w none 0 (Own.nil elemZ_bytes) (Mod.refl _ _))⟩
  | some q =>
    refine ⟨_, some_bytes _ _ _, ff rfl ⟨_, _, _, _, builtB0 w, ?_⟩⟩
    have m1 : Mod No w (w.alloc (.cells #[] 5)) := (Mod.refl No w).alloc _
    have hu : Tryz.prog.underlying 36 = some (.slice 5) := by kernel_rfl
    obtain ⟨a', c', w2, h2, o2, m2⟩ := (own_empty (w := w) (k := 1) hu).append (ty := 36) elemZ_bytes (by omega) (a2 := some q) (m := l) (c2 := c) (ys := u8L xs) (hr.nos m1) (by simp [hl]) (fun e => by cases e) (one_u8L xs) (by omega) (by omega) (by simp)
    rw [Nat.zero_add, List.nil_append] at *
    exact ⟨_, _, _, w2, h2, hk w2 a' c' o2 (m1.up m2 (Nat.le_refl _))⟩
theorem Index_c {a : Option Addr} {l c : Nat} {xs : List Int} {n : Int} (hl : xs.length = l) (h63 : l ≤ 9223372036854775806) (hr : Row w a (iL xs))
    (hk : K (.int .i64 (idxF (fun x => n == x) xs 0)) w) : Cal Tryz.prog F_slices_Index_int #[.slice a l c, .int .i64 n] w K := by
  apply C_slices_Index_int
  unfold D_slices_Index_int
  refine ⟨fun x w1 => w1 = w ∧ ∃ i : Nat, i ≤ l ∧ x = [.int .i64 i] ∧ idxF (fun x => n == x) xs 0 = idxF (fun x => n == x) (xs.drop i) i, fun x _ => (l - nI x 0).toNat, ⟨rfl, 0, by omega, rfl, rfl⟩, ?_⟩
  rintro x w1 ⟨rfl, i, hi, rfl, hidx⟩
  refine ⟨_, rfl, cond_of (fun hb => ?_) (fun hb => ?_)⟩
  · have hi : i < l := by have := of_decide_eq_true hb; omega
    have hix : i < xs.length := by omega
    obtain ⟨b, o, rfl, hat⟩ := row_some hr hix
    refine ⟨_, index_slice (k := 1) (by kernel_rfl) (by omega) (by omega), ?_⟩
    rw [add_none, show (i : Int).toNat * 1 = i by omega]
    refine ⟨_, hat.load (by kernel_rfl) (iL_get hix), cond_of (fun hp => ?_) (fun hp => ?_)⟩
    · have e : idxF (fun x => n == x) xs 0 = i := by rw [hidx, drop_get hix]; simp only [idxF]; rw [if_pos hp]
      rw [← e]; exact hk
    · rw [wrap64 (x := (i : Int) + 1) (by omega) (by omega)]
      refine ⟨⟨rfl, i + 1, by omega, rfl, ?_⟩, by simp [nI, nth]; omega⟩
      rw [hidx, drop_get hix]; simp only [idxF]; rw [if_neg (by rw [hp]; simp)]
  · have hil : i = l := by have := of_decide_eq_false hb; omega
    have e : idxF (fun x => n == x) xs 0 = -1 := by rw [hidx, List.drop_eq_nil_of_le (by omega)]; rfl
    rw [← e]; exact hk
theorem Contains_c {a : Option Addr} {l c : Nat} {xs : List Int} {n : Int} (hl : xs.length = l) (h63 : l ≤ 9223372036854775806) (hr : Row w a (iL xs))
    (hk : K (.bool (decide (n ∈ xs))) w) : Cal Tryz.prog F_slices_Contains_int #[.slice a l c, .int .i64 n] w K := by
  apply C_slices_Contains_int
  unfold D_slices_Contains_int
  refine Index_c hl h63 hr ⟨_, rfl, ?_⟩
  have e : decide (idxF (fun x => n == x) xs 0 ≥ 0) = decide (n ∈ xs) := by
    rcases idxF_cases (fun x => n == x) xs 0 with ⟨h1, h2⟩ | ⟨j, x, h1, h2, h3, _⟩
    · have : n ∉ xs := fun h => by have := h2 n h; simp at this
      simp [h1, this]
    · have : n = x := by simpa using h3
      subst this
      have hm := List.mem_of_getElem? h2
      simp [h1, hm]
  rw [e]; exact hk
theorem Diff_c {a0 a1 : Option Addr} {l c0 c1 : Nat} {xs ys : List UInt8} (hx : xs.length = l) (hy : ys.length = l) (h63 : l ≤ 1000000000) (h0 : Row w a0 (u8L xs)) (h1 : Row w a1 (u8L ys))
    (hk : ∀ w' (f la : Int), Mod No w w' → (0 ≤ f ↔ xs ≠ ys) → K (.tuple #[.int .i64 f, .int .i64 la]) w') : Cal Tryz.prog F_num_Diff #[.slice a0 l c0, .slice a1 l c1] w K := by
  apply C_num_Diff
  unfold D_num_Diff
  refine ⟨fun x w1 => ∃ (i : Nat) (f la : Int) (y : Value), i ≤ l ∧ x = [.int .i64 f, .int .i64 la, .int .i64 i, y] ∧ Mod No w w1 ∧ (0 ≤ f ↔ xs.take i ≠ ys.take i), fun x _ => (l - nI x 2).toNat, ⟨0, -1, -1, _, by omega, rfl, Mod.refl _ _, by simp⟩, ?_⟩
  rintro x w1 ⟨i, f, la, y, hi, rfl, hm, hf⟩
  have hself : (if (l : Int) > (l : Int) then (l : Int) else (l : Int)) = l := by simp
  have hself2 : (if (l : Int) < (l : Int) then (l : Int) else (l : Int)) = l := by simp
  refine ⟨_, rfl, cond_of (fun hb => ?_) (fun hb => ?_)⟩
  · rw [hself] at hb
    have hi : i < l := by have := of_decide_eq_true hb; omega
    have hix : i < xs.length := by omega
    have hiy : i < ys.length := by omega
    obtain ⟨b0, o0, rfl, hat0⟩ := h0.resolve_left (by intro e; have := congrArg List.length e; simp at this; rw [this] at hix; simp at hix)
    obtain ⟨b1, o1, rfl, hat1⟩ := h1.resolve_left (by intro e; have := congrArg List.length e; simp at this; rw [this] at hiy; simp at hiy)
    have hm' : Mod No w (drew w1) := hm.drew
    have tk : (xs.take (i + 1) ≠ ys.take (i + 1)) ↔ (xs.take i ≠ ys.take i ∨ xs[i] ≠ ys[i]) := by
      rw [List.take_succ_eq_append_getElem hix, List.take_succ_eq_append_getElem hiy]
      constructor
      · intro h
        by_cases e : xs.take i = ys.take i
        · right; intro e2; exact h (by rw [e, e2])
        · exact .inl e
      · intro h e
        have := List.append_inj e (by simp; omega)
        simp at this
        rcases h with h | h
        · exact h this.1
        · exact h this.2
    refine Share.cut (fun z w3 => ∃ (f' la' : Int) (y' : Value), z = [.int .i64 f', .int .i64 la', y'] ∧ Mod No w w3 ∧ (0 ≤ f' ↔ xs.take (i + 1) ≠ ys.take (i + 1))) ?_ ?_
    · refine Share.cut (fun z w3 => z = [.bool (decide (xs[i] = ys[i]))] ∧ w3 = drew w1) (tt (by rw [hself2]; exact decide_eq_true (by omega)) ?_) ?_
      · refine ⟨_, index_slice (k := 1) (by kernel_rfl) (by omega) (by omega), ?_⟩
        rw [add_none, show (i : Int).toNat * 1 = i by omega]
        refine ⟨_, (hat0.keep hm' id).load (by kernel_rfl) (u8L_get hix), _, index_slice (k := 1) (by kernel_rfl) (by omega) (by omega), ?_⟩
        rw [add_none, show (i : Int).toNat * 1 = i by omega]
        refine ⟨_, (hat1.keep hm' id).load (by kernel_rfl) (u8L_get hiy), ?_, rfl⟩
        congr 2
        rw [Bool.eq_iff_iff]
        simp only [beq_iff_eq, decide_eq_true_eq]
        constructor
        · intro e; exact UInt8.toNat_inj.1 (by omega)
        · intro e; rw [e]
      rintro z w3 ⟨rfl, rfl⟩
      refine ⟨_, rfl, cond_of (fun hb => ?_) (fun hb => ?_)⟩
      · have he : xs[i] = ys[i] := of_decide_eq_true hb
        refine ⟨f, la, _, rfl, hm', ?_⟩
        rw [hf, tk]
        exact ⟨fun h => .inl h, fun h => h.resolve_right fun h => h he⟩
      · have he : xs[i] ≠ ys[i] := of_decide_eq_false hb
        refine ⟨_, rfl, Share.cut (fun z w4 => ∃ f' : Int, z = [.int .i64 f'] ∧ 0 ≤ f' ∧ w4 = drew w1) (cond_of (fun hb => ⟨_, rfl, by omega, rfl⟩) (fun hb => ⟨_, rfl, by have := of_decide_eq_false hb; omega, rfl⟩)) ?_⟩
        rintro z w4 ⟨f', rfl, hf', rfl⟩
        refine ⟨f', _, _, rfl, hm', ?_⟩
        rw [tk]
        exact ⟨fun _ => .inr he, fun _ => hf'⟩
    · rintro z w3 ⟨f', la', y', rfl, hm3, hf3⟩
      rw [wrap64 (x := (i : Int) + 1) (by omega) (by omega)]
      exact ⟨⟨i + 1, f', la', y', by omega, rfl, hm3, hf3⟩, by simp [nI, nth]; omega⟩
  · rw [hself] at hb
    have hil : i = l := by have := of_decide_eq_false hb; omega
    subst hil
    refine ⟨_, rfl, _, rfl, hk w1 f la hm ?_⟩
    rw [hf, List.take_of_length_le (by omega), List.take_of_length_le (by omega)]
end
end Go.Proofs.YtocjjigmpgekfaaGreat
end
section
/- Layer 10, the program's cache: what its inner functions do. -/
open Go Go.Den Go.Proofs
namespace Go.Den
section
variable {P : Program} {w : World}
/-- append of some new values: the row is where it was, or new. -/
theorem Own.app {base k bytes l c m c2 : Nat} {T ty : TypeId} {z : Value} {a : Option Addr} {ad : Addr} {xs ys : List Value} (hT : elemZ P T k z bytes) (hk : 0 < k) (h : Own P w base T k a l c xs)
    (hr : Row w (some ad) ys) (hl : ys.length = m * k) (hm : 0 < m) (h1 : ∀ v ∈ ys, v.oneCell' = true) (h63 : (l + m) * bytes ≤ 140737488355328) (hb : 0 < bytes) (hbase : base ≤ w.heap.size) :
    ∃ q c' w', (Builtin.append_ #[T, T] ty #[.slice a l c, .slice (some ad) m c2]).run P w = .ok (.slice (some q) (l + m) c') w' ∧ Own P w' base T k (some q) (l + m) c' (xs ++ ys) ∧ Mod (fun x => ∃ q, a = some q ∧ x = q.block) w w' ∧
      ((∃ q', a = some q' ∧ q.block = q'.block) ∨ w.heap.size ≤ q.block) := by
  obtain ⟨a', c', w', hrun, ho, hmod⟩ := h.append' (ty := ty) hT hk hr hl (c2 := c2) (by simp) h1 h63 hb hbase
  obtain ⟨e, i, zv, he, hi, hsz, hz, hzc, hby⟩ := hT.is
  obtain ⟨e', he', how⟩ := h
  have : e' = e := by rw [he] at he'; simpa using he'.symm
  subst this
  have hlm : l + m ≤ (l + m) * bytes := Nat.le_mul_of_pos_right _ hb
  have hmb : m * bytes ≤ (l + m) * bytes := Nat.mul_le_mul_right _ (by omega)
  have hcell : ∀ j u, ys[j]? = some u → w.cell? (ad.add j) = some u := by
    intro j u hj
    rcases hr with hr | ⟨b, o, e, hat⟩
    · subst hr; simp at hj
    · simp at e; subst e; exact hat.cell hj
  rcases how.2 with ⟨hv, hx⟩ | ⟨g, cap, cur, hv, hbg, hg, hnc, hcm, hcs, htake⟩
  · simp at hv
    obtain ⟨rfl, rfl, rfl⟩ := hv
    have hr2 := run_append_nil (P := P) w T ty e' i zv he hi hz ad m c2 ys (by rw [hsz]; exact hl) hcell hm (by omega) (by rw [hby]; omega)
    have hrun' := hrun
    rw [hr2] at hrun'
    simp only [Result.ok.injEq, Value.slice.injEq] at hrun'
    obtain ⟨⟨rfl, _, _⟩, _⟩ := hrun'
    exact ⟨_, c', w', hrun, ho, hmod, .inr (Nat.le_refl _)⟩
  · simp at hv
    obtain ⟨rfl, rfl⟩ := hv
    by_cases hroom : l + m ≤ c
    · have hr2 := run_append_room (P := P) w T ty e' i he hi g l c cur hg ad m c2 ys (by rw [hsz]; exact hl) hcell h1 hroom (by rw [hsz, hl, hcs, ← Nat.add_mul]; exact Nat.mul_le_mul_right _ hroom)
      have hrun' := hrun
      rw [hr2] at hrun'
      simp only [Result.ok.injEq, Value.slice.injEq] at hrun'
      obtain ⟨⟨rfl, _, _⟩, _⟩ := hrun'
      exact ⟨_, c', w', hrun, ho, hmod, .inl ⟨_, rfl, rfl⟩⟩
    · have holds : ∀ j u, xs[j]? = some u → w.cell? ((⟨g, 0, none⟩ : Addr).add j) = some u := how.cells (g := g) rfl
      have hr2 := run_append_grow (P := P) w T ty e' i zv he hi hz ⟨g, 0, none⟩ l c xs (by rw [hsz]; exact how.1) holds ad m c2 ys (by rw [hsz]; exact hl) hcell (by omega) (by omega) (growslice_fits (by omega) (by rw [hby]; exact h63))
      have hrun' := hrun
      rw [hr2] at hrun'
      simp only [Result.ok.injEq, Value.slice.injEq] at hrun'
      obtain ⟨⟨rfl, _, _⟩, _⟩ := hrun'
      exact ⟨_, c', w', hrun, ho, hmod, .inr (Nat.le_refl _)⟩
end
theorem gro_gro {R : Nat → Prop} {w w1 w2 : World} (h1 : w.heap.size ≤ w1.heap.size) (h2 : w1.heap.size ≤ w2.heap.size) : Gro (Gro R w w1) w1 w2 = Gro R w w2 := by
  funext x
  unfold Gro
  apply propext
  constructor
  · rintro ((h | h) | h)
    · exact .inl h
    · exact .inr (by omega)
    · exact .inr (by omega)
  · rintro (h | h)
    · exact .inl (.inl h)
    · by_cases hx : x < w1.heap.size
      · exact .inl (.inr (by omega))
      · exact .inr (by omega)
theorem Mod.gro {R : Nat → Prop} {w w1 w2 : World} (h1 : Mod R w w1) (h2 : Mod (Gro R w w1) w1 w2) : Mod R w w2 :=
  h1.trans h2 fun x hx e => by rcases e with e | e; exact e; omega
theorem Mod.anys {R : Nat → Prop} {w w1 : World} (h1 : Mod No w w1) : Mod R w w1 := h1.mono fun _ _ h => h.elim
end Go.Den
namespace Go.Proofs.YtocjjigmpgekfaaGreat
section
variable {w0 w w' : World} {R : Nat → Prop} {rl : Nat → Nat} {c d m sb mb sc lc : Nat} {la : Option Addr} {L mp : List (Int × Value)} {C : Ca} {K : Value → World → Prop}
theorem mapCache : mapZ Tryz.prog 227 = some (.pointer none) := by kernel_rfl
theorem CIn.ld (h : CIn w0 R rl w c d m sb mb sc lc la L mp C) : Ru (Instr.loadAt 23 (.pointer (some (Addr.add ⟨c, 0, none⟩ 0)))) w (.pointer (some ⟨d, 0, none⟩)) w := by
  rw [add_none]; exact h.cell.at.load (by kernel_rfl) rfl
theorem CIn.lmost (h : CIn w0 R rl w c d m sb mb sc lc la L mp C) : Ru (Instr.loadAt 3 (.pointer (some (Addr.add ⟨c, 0, none⟩ 1)))) w (.int .i64 C.most) w := by
  rw [add_none]; exact h.cell.at.load (by kernel_rfl) rfl
theorem CIn.lm (h : CIn w0 R rl w c d m sb mb sc lc la L mp C) : Ru (Instr.loadAt 227 (.pointer (some (Addr.add ⟨c, 0, none⟩ 2)))) w (.map (some m)) w := by
  rw [add_none]; exact h.cell.at.load (by kernel_rfl) rfl
theorem lrow {l0 : Nat} {v0 v1 v2 : Value} (h : AtU w c 0 [v0, v1, v2, .slice la l0 lc]) : Ru (Instr.loadAt 49 (.pointer (some (Addr.add ⟨c, 0, none⟩ 3)))) w (.slice la l0 lc) w := by
  rw [add_none]; exact h.at.load (by kernel_rfl) rfl
theorem CIn.gro (h : CIn w0 R rl w c d m sb mb sc lc la L mp C) (k : Mod No w w') : CIn w0 (Gro R w w') rl w' c d m sb mb sc lc la L mp C :=
  (h.nos k).widen (fun x hx => .inl hx) fun x hx => by
    have := k.size
    have := h.mod.size
    rcases hx with hx | hx
    · have := h.lo x hx; omega
    · omega
theorem CIn.out_of {x : Nat} (h : CIn w0 R rl w c d m sb mb sc lc la L mp C) (hx : w.heap.size ≤ x) : rl x = 0 := by
  by_cases e : rl x = 0
  · exact e
  · have := h.lo x (h.reg x e); omega
theorem rd_at (D : St) {b : Nat} (hb : b < D.vs.length) : errOf D (b : Int) = 0 ∧ rdB D (b : Int) = atD D b := by
  have e : errOf D (b : Int) = 0 := by unfold errOf; rw [if_neg (by omega)]
  exact ⟨e, by unfold rdB atD; rw [if_pos e]⟩
theorem CIn.atLen (h : CIn w0 R rl w c d m sb mb sc lc la L mp C) {b : Nat} (hb : b < C.D.vs.length) : (atD C.D b).length = 256 := by
  have hv : C.D.vs[b]? = some C.D.vs[b] := by simp [hb]
  have e : verOf C.D b = C.D.vs[b] := by
    unfold verOf
    rw [if_neg (by omega), Int.toNat_natCast, hv]; rfl
  unfold atD
  rw [e]
  exact h.disk.wf.lastLen hv
theorem CIn.look (h : CIn w0 R rl w c d m sb mb sc lc la L mp C) {k : Int} {v : Value} (hl : lookupL mp k = some v) : Ru (Instr.lookup 227 (.map (some m)) (.int .i64 k) false) w v w := by
  have := lookup_run (P := Tryz.prog) mapCache h.map (k := k)
  rwa [hl] at this
theorem lbytes {q g cc : Nat} {v : Value} (h : AtU w q 0 [.slice (some ⟨g, 0, none⟩) 256 cc, v]) : Ru (Instr.loadAt 36 (.pointer (some (Addr.add (Addr.add ⟨q, 0, none⟩ 0) 0)))) w (.slice (some ⟨g, 0, none⟩) 256 cc) w := by
  rw [add_none, add_none]; exact h.at.load (by kernel_rfl) rfl
theorem lpins {q : Nat} {v : Value} {n : Int} (h : AtU w q 0 [v, .int .i64 n]) : Ru (Instr.loadAt 3 (.pointer (some (Addr.add ⟨q, 0, none⟩ 1)))) w (.int .i64 n) w := by
  rw [add_none]; exact h.at.load (by kernel_rfl) rfl

theorem dirty_c (h : CIn w0 R rl w c d m sb mb sc lc la L mp C) {x : Bf} (hx : x ∈ C.l) (hk : ∀ w', Mod No w w' → K (.bool (!clean C.D x)) w') : Cal Tryz.prog F_cache_Cache_dirty #[.pointer (some ⟨c, 0, none⟩), .int .i64 x.b] w K := by
  apply C_cache_Cache_dirty
  unfold D_cache_Cache_dirty
  obtain ⟨q, g, cc, b1, b2, b3, b4, b6⟩ := h.bufs x hx
  obtain ⟨r1, r2⟩ := rd_at C.D (h.wf.lt x hx)
  have hal := h.atLen (h.wf.lt x hx)
  have hxl := h.wf.data x hx
  refine ⟨_, rfl, _, h.ld, Read_c h.disk h.wf.small fun w1 a1 c1 m1 f1 => ?_⟩
  rw [r2] at f1 ⊢
  rw [r1, hal]
  refine ⟨_, _, _, _, rfl, _, rfl, some m, (h.nos m1).lm, _, (h.nos m1).look b1, _, rfl, _, _, _, lbytes (b4.keep m1 id), ?_⟩
  refine Diff_c hal hxl (by omega) f1.row (.inr ⟨_, _, rfl, b6.keep m1 id⟩) fun w2 f la' m2 hf => ⟨_, _, rfl, ?_⟩
  have e : (decide (f ≥ 0)) = !clean C.D x := by
    unfold clean
    by_cases he : x.data = atD C.D x.b
    · have : ¬ 0 ≤ f := fun h => (hf.1 h) he.symm
      simp [he]; omega
    · have : 0 ≤ f := hf.2 fun e => he e.symm
      simp [he]; omega
  rw [e]
  exact hk w2 (m1.no m2)

theorem box_int (w : World) (n : Int) : (Instr.box 3 (.int .i64 n)).run Tryz.prog w = .ok (.pointer (some ⟨w.heap.size, 0, none⟩)) (w.alloc (.cells ⟨[.int .i64 n]⟩ 3)) := rfl
theorem box_cache (w : World) (p : Option Addr) : (Instr.box 151 (.pointer p)).run Tryz.prog w = .ok (.pointer (some ⟨w.heap.size, 0, none⟩)) (w.alloc (.cells ⟨[.pointer p]⟩ 151)) := rfl
theorem apart {rl : Nat → Nat} {a b i j : Nat} (h1 : rl a = i) (h2 : rl b = j) (h : i ≠ j) : a ≠ b := fun e => h (by rw [← h1, ← h2, e])
/-- A function value that tells which number is one's own. -/
theorem tells_out {S : Nat → Prop} {q b : Nat} {xs : List Int} (hat : At w q 0 [.int .i64 b]) (hS : ¬ S q) : Tells (.func (.func F_cache_Cache_out_1) #[] #[.pointer (some ⟨q, 0, none⟩)]) w S (fun k => k == (b : Int)) xs := by
  intro w' m x _ K hK
  refine ⟨_, _, _, rfl, ?_⟩
  show Cal Tryz.prog F_cache_Cache_out_1 #[.int .i64 x, .pointer (some ⟨q, 0, none⟩)] w' K
  apply C_cache_Cache_out_1
  exact ⟨_, (hat.keep m hS).load (i := 0) (by kernel_rfl) rfl, hK w' (Mod.refl _ _)⟩
theorem tells_ask {S : Nat → Prop} {q b : Nat} {xs : List Int} (hat : At w q 0 [.int .i64 b]) (hS : ¬ S q) : Tells (.func (.func F_cache_Cache_ask_1) #[] #[.pointer (some ⟨q, 0, none⟩)]) w S (fun k => k == (b : Int)) xs := by
  intro w' m x _ K hK
  refine ⟨_, _, _, rfl, ?_⟩
  show Cal Tryz.prog F_cache_Cache_ask_1 #[.int .i64 x, .pointer (some ⟨q, 0, none⟩)] w' K
  apply C_cache_Cache_ask_1
  exact ⟨_, (hat.keep m hS).load (i := 0) (by kernel_rfl) rfl, hK w' (Mod.refl _ _)⟩
theorem filter_others (l : List Bf) (b : Nat) : ((nums l).filter fun x => !(x == (b : Int))) = nums (others l b) := by
  rw [nums_others]
  apply List.filter_congr
  intro x _
  congr 1
theorem nums_len (l : List Bf) : (nums l).length = l.length := by simp [nums]
/-- The cache's row, in place: one number less. -/
theorem row_less {q b : Nat} {f : FuncId} (h : CIn w0 R rl w c d m sb mb sc lc la L mp C)
    (ht : Tells (.func (.func f) #[] #[.pointer (some ⟨q, 0, none⟩)]) w (Of la) (fun k => k == (b : Int)) (nums C.l))
    (hk : ∀ w', Own Tryz.prog w' w0.heap.size 49 1 la (others C.l b).length lc (iL (nums (others C.l b))) → Mod (Of la) w w' → K (.slice la (others C.l b).length lc) w') :
    Cal Tryz.prog F_slices_DeleteFunc_int #[.slice la C.l.length lc, .func (.func f) #[] #[.pointer (some ⟨q, 0, none⟩)]] w K := by
  have h1 := h.wf.len
  have h2 := h.wf.most1
  refine DeleteFunc_c h.row (by omega) ht fun w' l' o hl' m' => ?_
  rw [filter_others] at o hl'
  rw [nums_len] at hl'
  subst hl'
  exact hk w' o m'
theorem CIn.of3 (h : CIn w0 R rl w c d m sb mb sc lc la L mp C) {x : Nat} (hx : Of la x) : rl x = 3 := by
  obtain ⟨q, hq, rfl⟩ := hx
  exact h.rrow q hq
def S123 (rl : Nat → Nat) : Nat → Prop := fun x => rl x = 1 ∨ rl x = 2 ∨ rl x = 3

set_option maxRecDepth 100000 in
theorem out_c (h : CIn w0 R rl w c d m sb mb sc lc la L mp C) {b : Nat}
    (hk : ∀ w' mp', CIn w0 (Gro R w w') rl w' c d m sb mb sc lc la L mp' { C with l := others C.l b } → Mod R w w' → K (.tuple #[]) w') : Cal Tryz.prog F_cache_Cache_out #[.pointer (some ⟨c, 0, none⟩), .int .i64 b] w K := by
  apply C_cache_Cache_out
  unfold D_cache_Cache_out
  have m1 : Mod No w (w.alloc (.cells ⟨[.int .i64 b]⟩ 3)) := (Mod.refl No w).alloc _
  have h1 := (h.nos m1).drew
  have hq : At (drew (w.alloc (.cells ⟨[.int .i64 b]⟩ 3))) w.heap.size 0 [.int .i64 b] := AtU.new.at.drew
  have hsz : (drew (w.alloc (.cells ⟨[.int .i64 b]⟩ 3))).heap.size = w.heap.size + 1 := by simp
  refine ⟨_, _, box_int _ _, _, rfl, some m, h1.lm, _, hq.load (i := 0) (by kernel_rfl) rfl, ?_⟩
  have m1' : Mod No w (drew (w.alloc (.cells ⟨[.int .i64 b]⟩ 3))) := m1.drew
  generalize hW : drew (w.alloc (.cells ⟨[.int .i64 b]⟩ 3)) = w1 at *
  have hq0 := h.out_of (x := w.heap.size) (Nat.le_refl _)
  obtain ⟨w2, s1, s2, s3, s4⟩ := delete_run (P := Tryz.prog) (T2 := 297) (ty := 0) (k := (b : Int)) mapCache h1.map
  have hc2 := h1.cell.keep s3 (apart h1.rc h1.rm (by omega))
  refine ⟨w2, s1, _, rfl, _, _, _, lrow hc2, ?_⟩
  have hrow2 := h1.row.keep s3 fun q hq' => apart (h1.rrow q hq') h1.rm (by omega)
  have hq2 := hq.keep s3 (apart hq0 h1.rm (by omega))
  have hl1 := h1.wf.len
  have hl2 := h1.wf.most1
  refine DeleteFunc_c hrow2 (by omega) (tells_out hq2 fun e => by have := h1.of3 e; omega) fun w3 l3 o3 hl3 m3 => ⟨_, _, _, rfl, _, rfl, ?_⟩
  rw [filter_others] at o3 hl3
  rw [nums_len] at hl3
  subst hl3
  have hc3 := hc2.keep m3 fun e => by have := h1.of3 e; have := h1.rc; omega
  obtain ⟨w4, t1, t2, t3, t4⟩ := hc3.store (P := Tryz.prog) (T := 49) (i := 3) (v := .slice la (others C.l b).length lc) (by kernel_rfl) (by simp) rfl
  refine ⟨w4, by rw [add_none]; exact t1, ?_⟩
  have M : Mod (S123 rl) w w4 := ((m1'.anys.trans (S' := S123 rl) (s3.mono fun x _ e => .inr (.inl (by rw [e]; exact h.rm))) fun _ _ e => e).trans (m3.mono fun x _ e => .inr (.inr (h1.of3 e))) fun _ _ e => e).trans (t3.mono fun x _ e => .inl (by rw [e]; exact h.rc)) fun _ _ e => e
  refine hk w4 (delL b mp) ?_ (M.mono fun x _ e => h.reg x (by unfold S123 at e; omega))
  refine h.step M (Ext.refl _ _ _) (fun x _ e => by unfold S123 at e; omega) (by simpa using t2) ((s2.keep m3 fun e => by have := h1.of3 e; have := h1.rm; omega).keep t3 (apart h1.rm h1.rc (by omega)))
    (o3.keep t3 fun q hq' => apart (h1.rrow q hq') h1.rc (by omega)) h.rrow (fun x hx => .inl ⟨(mem_others.1 hx).1, ?_, fun q e => by unfold S123 at e; omega⟩) (fun p hp => ?_) (h.wf.out b)
  · rw [look_del, if_neg (by have := (mem_others.1 hx).2; omega)]
  · obtain ⟨hp1, hp2⟩ := del_mem.1 hp
    obtain ⟨x, hx, e⟩ := h.keys p hp1
    exact ⟨x, mem_others.2 ⟨hx, by omega⟩, e⟩
end
end Go.Proofs.YtocjjigmpgekfaaGreat
end
section
/- Layer 10, the program's cache: room for one more; a block is asked. -/
open Go Go.Den Go.Proofs
namespace Go.Proofs.YtocjjigmpgekfaaGreat
section
variable {w0 w w' : World} {R : Nat → Prop} {rl : Nat → Nat} {c d m sb mb sc lc : Nat} {la : Option Addr} {L mp : List (Int × Value)} {C : Ca} {K : Value → World → Prop}
def pI (C : Ca) (k : Int) : Bool := match findB C.l k.toNat with | some x => idleB C.D x | none => false
theorem pI_mem (h : WFC C) {x : Bf} (hx : x ∈ C.l) : pI C (x.b : Int) = idleB C.D x := by
  unfold pI; rw [Int.toNat_natCast, findB_mem h.nodup hx]
theorem tells_room {q : Nat} (h : CIn w0 R rl w c d m sb mb sc lc la L mp C) (hq : At w q 0 [.pointer (some ⟨c, 0, none⟩)]) : Tells (.func (.func F_cache_Cache_room_1) #[] #[.pointer (some ⟨q, 0, none⟩)]) w No (pI C) (nums C.l) := by
  intro w' k xk hx K hK
  unfold nums at hx
  obtain ⟨y, hy, rfl⟩ := List.mem_map.1 hx
  refine ⟨_, _, _, rfl, ?_⟩
  show Cal Tryz.prog F_cache_Cache_room_1 #[.int .i64 y.b, .pointer (some ⟨q, 0, none⟩)] w' K
  apply C_cache_Cache_room_1
  unfold D_cache_Cache_room_1
  have h' := h.nos k
  have hq' := (hq.keep k id).load (P := Tryz.prog) (T := 151) (i := 0) (v := .pointer (some ⟨c, 0, none⟩)) (by kernel_rfl) rfl
  obtain ⟨q2, g, cc, b1, b2, b3, b4, b6⟩ := h'.bufs y hy
  refine Share.cut (fun z w2 => z = [.bool (idleB C.D y)] ∧ Mod No w' w2) ⟨_, hq', _, rfl, some m, h'.lm, _, h'.look b1, _, rfl, _, lpins b4, cond_of (fun hb => ?_) (fun hb => ?_)⟩ ?_
  · have hp : y.pins = 0 := by simpa using hb
    exact ⟨_, hq', dirty_c h' hy fun w2 m2 => ⟨_, rfl, by simp [idleB, hp], m2⟩⟩
  · have hp : ¬ y.pins = 0 := by simpa using hb
    exact ⟨by simp [idleB, hp], Mod.refl _ _⟩
  · rintro z w2 ⟨rfl, m2⟩
    refine ⟨_, rfl, ?_⟩
    have := hK w2 m2
    rwa [pI_mem h.wf hy] at this
theorem nums_get {l : List Bf} {j : Nat} {k : Int} (h : (nums l)[j]? = some k) : ∃ x, l[j]? = some x ∧ k = (x.b : Int) := by
  unfold nums at h
  rw [List.getElem?_map] at h
  cases hx : l[j]? with
  | none => rw [hx] at h; cases h
  | some x => rw [hx] at h; exact ⟨x, rfl, (Option.some.inj h).symm⟩
theorem find_idx (h : WFC C) : (idxF (pI C) (nums C.l) 0 = -1 ∧ C.l.find? (idleB C.D) = none) ∨ ∃ (j : Nat) (x : Bf), idxF (pI C) (nums C.l) 0 = (j : Int) ∧ C.l[j]? = some x ∧ C.l.find? (idleB C.D) = some x := by
  rcases idxF_cases (pI C) (nums C.l) 0 with ⟨e, hno⟩ | ⟨j, k, e, hj, hp, hbef⟩
  · refine .inl ⟨e, List.find?_eq_none.2 fun x hx => ?_⟩
    have := hno (x.b : Int) (List.mem_map.2 ⟨x, hx, rfl⟩)
    rw [pI_mem h hx] at this
    rw [this]; simp
  · obtain ⟨x, hx, rfl⟩ := nums_get hj
    have hxm := List.mem_of_getElem? hx
    obtain ⟨hlt, hxe⟩ := List.getElem?_eq_some_iff.1 hx
    refine .inr ⟨j, x, by rw [e, Nat.zero_add], hx, ?_⟩
    rw [pI_mem h hxm] at hp
    refine List.find?_eq_some_iff_append.2 ⟨hp, C.l.take j, C.l.drop (j + 1), ?_, fun y hy => ?_⟩
    · conv => lhs; rw [← List.take_append_drop j C.l, List.drop_eq_getElem_cons hlt, hxe]
    · have hyl := List.mem_of_mem_take hy
      have := hbef (y.b : Int) (by unfold nums; rw [← List.map_take]; exact List.mem_map.2 ⟨y, hy, rfl⟩)
      rw [pI_mem h hyl] at this
      rw [this]; rfl
theorem room_c (h : CIn w0 R rl w c d m sb mb sc lc la L mp C)
    (hk1 : ∀ C', roomC C = some C' → ∀ w' mp', CIn w0 (Gro R w w') rl w' c d m sb mb sc lc la L mp' C' → Mod R w w' → K (.int .i64 0) w')
    (hk2 : roomC C = none → ∀ w', Mod No w w' → K (.int .i64 5) w') : Cal Tryz.prog F_cache_Cache_room #[.pointer (some ⟨c, 0, none⟩)] w K := by
  apply C_cache_Cache_room
  unfold D_cache_Cache_room
  have m1 : Mod No w (drew (w.alloc (.cells ⟨[.pointer (some ⟨c, 0, none⟩)]⟩ 151))) := ((Mod.refl No w).alloc _).drew
  have hq : At (drew (w.alloc (.cells ⟨[.pointer (some ⟨c, 0, none⟩)]⟩ 151))) w.heap.size 0 [.pointer (some ⟨c, 0, none⟩)] := AtU.new.at.drew
  have h1 := h.nos m1
  refine ⟨_, _, box_cache _ _, ?_⟩
  generalize hW : drew (w.alloc (.cells ⟨[.pointer (some ⟨c, 0, none⟩)]⟩ 151)) = w1 at *
  have lq : ∀ {w2 : World}, Mod No w1 w2 → Ru (Instr.loadAt 151 (.pointer (some ⟨w.heap.size, 0, none⟩))) w2 (.pointer (some ⟨c, 0, none⟩)) w2 := fun k => (hq.keep k id).load (i := 0) (by kernel_rfl) rfl
  have hl1 := h.wf.len
  have hl2 := h.wf.most1
  refine ⟨_, lq (Mod.refl _ _), _, rfl, _, _, _, lrow h1.cell, _, lq (Mod.refl _ _), _, rfl, _, h1.lmost, cond_of (fun hb => ?_) (fun hb => ?_)⟩
  · have hlt : C.l.length < C.most := by have := of_decide_eq_true hb; omega
    exact hk1 C (by unfold roomC; rw [if_pos hlt]) w1 mp (h.gro m1) m1.anys
  · have hge : ¬ C.l.length < C.most := by have := of_decide_eq_false hb; omega
    refine ⟨_, lq (Mod.refl _ _), _, rfl, _, _, _, lrow h1.cell, IndexFunc_c (S := No) (nums_len _) (by omega) h1.row.rowU.row (tells_room h1 hq) fun w2 m2 => ⟨_, rfl, ?_⟩⟩
    rcases find_idx h.wf with ⟨e, hf⟩ | ⟨j, x, e, hx, hf⟩
    · rw [e]
      refine tt rfl (hk2 ?_ w2 (m1.no m2))
      unfold roomC; rw [if_neg hge, hf]; rfl
    · rw [e]
      have hlt := (List.getElem?_eq_some_iff.1 hx).1
      have m2' := m2.drew
      have h2 := h1.nos m2'
      have hrow := h2.row.rowU.row
      obtain ⟨b2, o2, hla, hat⟩ := row_some (i := j) hrow (by rw [nums_len]; exact hlt)
      subst hla
      refine ff (by simp) ⟨_, lq m2', _, lq m2', _, rfl, _, _, _, lrow h2.cell, _, index_slice (k := 1) (by kernel_rfl) (by omega) (by omega), ?_⟩
      rw [add_none, show (j : Int).toNat * 1 = j by omega]
      have hv : (iL (nums C.l))[j]? = some (.int .i64 x.b) := by simp [iL, nums, hx, I]
      refine ⟨_, hat.load (by kernel_rfl) hv, out_c h2 fun w3 mp' h3 m3 => ⟨rfl, ?_⟩⟩
      have M : Mod No w (drew w2) := m1.no m2'
      refine hk1 _ (by unfold roomC; rw [if_neg hge, hf]; rfl) w3 mp' (h3.widen (fun y hy => ?_) fun y hy => ?_) (M.anys.trans m3 fun y hy e => e)
      · have := M.size
        rcases hy with hy | hy
        · exact .inl hy
        · exact .inr (by omega)
      · have := M.size
        have := m3.size
        have := h.mod.size
        rcases hy with hy | hy
        · have := h.lo y hy; omega
        · omega

/-- The end of asking for a block that is there. -/
theorem ask_end {S : World → Prop} {w3 : World} {z b : Nat} {x : Bf} (h : CIn w0 R rl w c d m sb mb sc lc la L mp C) (M : Mod (Of la) w w3)
    (o3 : Own Tryz.prog w3 w0.heap.size 49 1 la (others C.l b).length lc (iL (nums (others C.l b)))) (hz : At w3 z 0 [.int .i64 b]) (hx : x ∈ C.l) (hxb : x.b = b)
    (hk : ∀ w' rl' lc' la', CIn w0 (Gro R w w') rl' w' c d m sb mb sc lc' la' L mp { C with l := others C.l b ++ [x] } → Mod R w w' → S w') :
    ∃ (a31 : Option Addr) (l31 c31 : Nat), ∃ w4 : World, Ru (Builtin.append_ #[49, 49] 49 #[.slice la (others C.l b).length lc, .slice (some ⟨z, 0, none⟩) 1 1]) w3 (.slice a31 l31 c31) w4 ∧ ∃ q32 : Addr, (.pointer (some ⟨c, 0, none⟩) : Value) = .pointer (some q32) ∧
      ∃ w5 : World, RuU (Instr.storeAt 49 (.pointer (some (Addr.add q32 3))) (.slice a31 l31 c31)) w4 w5 ∧ S w5 := by
  have hl1 := h.wf.len
  have hl2 := h.wf.most1
  have hol := others_len C.l b
  have hzM := M.size
  have hw0 := h.mod.size
  obtain ⟨q', c', w4, s1, s2, s3, s4⟩ := o3.app (ty := 49) (m := 1) (c2 := 1) (ad := ⟨z, 0, none⟩) (ys := [.int .i64 b]) elemZ_ints (by omega) (.inr ⟨_, _, rfl, hz⟩) rfl (by omega) (by simp; rfl) (by omega) (by omega) (by omega)
  refine ⟨_, _, _, w4, s1, _, rfl, ?_⟩
  have s3' : Mod (Of la) w3 w4 := s3
  have hc4 := (h.cell.keep M fun e => by have := h.of3 e; have := h.rc; omega).keep s3' fun e => by have := h.of3 e; have := h.rc; omega
  obtain ⟨w5, t1, t2, t3, t4⟩ := hc4.store (P := Tryz.prog) (T := 49) (i := 3) (v := .slice (some q') ((others C.l b).length + 1) c') (by kernel_rfl) (by simp) rfl
  refine ⟨w5, by rw [add_none]; exact t1, ?_⟩
  have hzs := s3'.size
  have hzt := t3.size
  have M4 : Mod (Of la) w w4 := M.trans s3' fun _ _ e => e
  have M5 : Mod (S123 rl) w w5 := (M4.mono fun x _ e => .inr (.inr (h.of3 e))).trans t3 fun x _ e => .inl (by rw [e]; exact h.rc)
  have hnew : rl q'.block = 3 ∨ (w.heap.size ≤ q'.block ∧ q'.block < w5.heap.size ∧ rl q'.block = 0) := by
    rcases s4 with ⟨q2, hq2, e⟩ | e
    · left; rw [e]; exact h.rrow q2 hq2
    · right
      have := (s2.base (q := q') rfl).2
      exact ⟨by omega, by omega, h.out_of (by omega)⟩
  refine hk w5 (ro rl q'.block 3) c' (some q') ?_ (M5.mono fun x _ e => h.reg x (by unfold S123 at e; omega))
  have hlen : (others C.l b ++ [x]).length = (others C.l b).length + 1 := by simp
  have hnum : iL (nums (others C.l b)) ++ [.int .i64 b] = iL (nums (others C.l b ++ [x])) := by simp [nums, iL, I, hxb]
  subst hxb
  refine h.step M5 ((Ext.refl _ _ _).ro hnew (by omega) (by omega)) (fun y _ e => by unfold S123 at e; omega) ?_ (((h.map.keep M4 fun e => by have := h.of3 e; have := h.rm; omega)).keep t3 (apart h.rm h.rc (by omega))) ?_
    (fun q hq => by have := Option.some.inj hq; subst this; exact ro_same _ _ _) (fun y hy => .inl ⟨?_, rfl, fun q e => by unfold S123 at e; omega⟩) (fun p hp => ?_) (h.wf.move hx)
  · rw [hlen]; simpa using t2
  · rw [hlen, ← hnum]
    refine s2.keep t3 fun q hq e => ?_
    have := Option.some.inj hq
    subst this
    have hrc := h.rc
    rcases hnew with hn | ⟨_, _, hn⟩
    · rw [e] at hn; omega
    · rw [e] at hn; omega
  · rcases List.mem_append.1 hy with hy | hy
    · exact (mem_others.1 hy).1
    · simp at hy; subst hy; exact hx
  · obtain ⟨y, hy, e⟩ := h.keys p hp
    by_cases hyx : y.b = x.b
    · exact ⟨x, by simp, by rw [e, hyx]⟩
    · exact ⟨y, List.mem_append.2 (.inl (mem_others.2 ⟨hy, hyx⟩)), e⟩
end
end Go.Proofs.YtocjjigmpgekfaaGreat
end
section
/- Layer 10, the program's cache: a block is asked. -/
open Go Go.Den Go.Proofs
namespace Go.Proofs.YtocjjigmpgekfaaGreat
section
variable {w0 w w' : World} {R : Nat → Prop} {rl : Nat → Nat} {c d m sb mb sc lc : Nat} {la : Option Addr} {L mp : List (Int × Value)} {C : Ca} {K : Value → World → Prop}
/-- A cache, and where the buffer of a block lies. -/
def Cq (w0 : World) (R : Nat → Prop) (w : World) (c d b q : Nat) (C : Ca) : Prop :=
  ∃ rl m sb mb sc lc la L mp, CIn w0 R rl w c d m sb mb sc lc la L mp C ∧ lookupL mp (b : Int) = some (.pointer (some ⟨q, 0, none⟩))
def Cx (w0 : World) (R : Nat → Prop) (w : World) (c d : Nat) (C : Ca) : Prop := ∃ rl m sb mb sc lc la L mp, CIn w0 R rl w c d m sb mb sc lc la L mp C
theorem build_bytes (w : World) (a : Option Addr) (l cc : Nat) : (Instr.build 242 #[(0, .slice a l cc)]).run Tryz.prog w = .ok (.agg ⟨[.slice a l cc]⟩) w := by kernel_rfl
theorem build_buffer (w : World) (a : Option Addr) (l cc : Nat) : (Instr.build 244 #[(0, .agg ⟨[.slice a l cc]⟩)]).run Tryz.prog w = .ok (.agg ⟨[.slice a l cc, .int .i64 0]⟩) w := by kernel_rfl
theorem box_buffer (w : World) (cs : List Value) : (Instr.box 244 (.agg ⟨cs⟩)).run Tryz.prog w = .ok (.pointer (some ⟨w.heap.size, 0, none⟩)) (w.alloc (.cells ⟨cs⟩ 244)) := rfl
theorem CIn.noKey (h : CIn w0 R rl w c d m sb mb sc lc la L mp C) {b : Nat} (hf : findB C.l b = none) : lookupL mp (b : Int) = none := by
  cases hl : lookupL mp (b : Int) with
  | none => rfl
  | some v =>
    obtain ⟨x, hx, e⟩ := h.keys _ (look_mem hl)
    have e' : (b : Int) = x.b := e
    exact absurd (by omega) (findB_none hf x hx)
set_option maxRecDepth 100000 in
theorem ask_c (h : CIn w0 R rl w c d m sb mb sc lc la L mp C) {b : Nat} (hb : b < C.D.vs.length)
    (hk1 : ∀ C', askC C b = some C' → ∀ w' q, Cq w0 (Gro R w w') w' c d b q C' → Mod R w w' → K (.tuple #[.pointer (some ⟨q, 0, none⟩), .int .i64 0]) w')
    (hk2 : askC C b = none → ∀ w', Mod No w w' → K (.tuple #[.pointer none, .int .i64 5]) w') : Cal Tryz.prog F_cache_Cache_ask #[.pointer (some ⟨c, 0, none⟩), .int .i64 b] w K := by
  apply C_cache_Cache_ask
  unfold D_cache_Cache_ask
  have m1 : Mod No w (drew (w.alloc (.cells ⟨[.int .i64 b]⟩ 3))) := ((Mod.refl No w).alloc _).drew
  have hq : At (drew (w.alloc (.cells ⟨[.int .i64 b]⟩ 3))) w.heap.size 0 [.int .i64 b] := AtU.new.at.drew
  have h1 := h.nos m1
  have hz0 := h.out_of (x := w.heap.size) (Nat.le_refl _)
  refine ⟨_, _, box_int _ _, _, rfl, some m, h1.lm, _, hq.load (i := 0) (by kernel_rfl) rfl, ?_⟩
  have hsz1 : (drew (w.alloc (.cells ⟨[.int .i64 b]⟩ 3))).heap.size = w.heap.size + 1 := by simp
  generalize hW : drew (w.alloc (.cells ⟨[.int .i64 b]⟩ 3)) = w1 at *
  have hlk := look2_run (P := Tryz.prog) mapCache h1.map (k := (b : Int))
  cases hf : findB C.l b with
  | some x =>
    obtain ⟨hx, hxb⟩ := findB_some hf
    obtain ⟨q, g, cc, b1, b2, b3, b4, b6⟩ := h.bufs x hx
    rw [hxb] at b1
    rw [b1] at hlk
    have hask : askC C b = some { C with l := others C.l b ++ [x] } := by unfold askC; rw [hf]
    have h2 := h1.drew
    have m2 : Mod No w (drew w1) := m1.drew
    have lz : ∀ {w2 : World}, Mod (Of la) (drew w1) w2 → At w2 w.heap.size 0 [.int .i64 b] := fun k => hq.drew.keep k fun e => by have := h.of3 e; omega
    have fin : ∀ w' rl' lc' la', CIn w0 (Gro R w w') rl' w' c d m sb mb sc lc' la' L mp { C with l := others C.l b ++ [x] } → Mod R w w' → K (.tuple #[.pointer (some ⟨q, 0, none⟩), .int .i64 0]) w' :=
      fun w' rl' lc' la' hC hM => hk1 _ hask w' q ⟨rl', m, sb, mb, sc, lc', la', L, mp, hC, b1⟩ hM
    refine ⟨some ⟨q, 0, none⟩, true, hlk, tt rfl ⟨_, rfl, _, _, _, lrow h2.cell, _, (lz (Mod.refl _ _)).load (i := 0) (by kernel_rfl) rfl, ?_, ?_⟩⟩
    · refine row_less h2 (tells_ask (lz (Mod.refl _ _)) fun e => by have := h.of3 e; omega) fun w3 o3 m3 => ⟨_, _, _, rfl, (lz m3).load (i := 0) (by kernel_rfl) rfl, _, _, _, _, builtI _ _, ?_, ?_⟩
      · exact lrow ((h2.cell.keep m3 fun e => by have := h.of3 e; have := h.rc; omega).keep (S := No) ((Mod.refl No w3).alloc _) id)
      · have m4 : Mod No w3 (w3.alloc (.cells ⟨[.int .i64 b]⟩ 3)) := (Mod.refl No w3).alloc _
        exact ask_end (S := fun w' => K (.tuple #[.pointer (some ⟨q, 0, none⟩), .int .i64 0]) w') h ((m2.anys.trans m3 fun _ _ e => e).no m4) (o3.nos m4) AtU.new.at hx hxb fin
    · have m3 : Mod No (drew w1) ((drew w1).alloc (.cells ⟨[.int .i64 b]⟩ 3)) := (Mod.refl No _).alloc _
      have h3 := h2.nos m3
      have hz3 : At ((drew w1).alloc (.cells ⟨[.int .i64 b]⟩ 3)) (drew w1).heap.size 0 [.int .i64 b] := AtU.new.at
      have hzq := h1.out_of (x := (drew w1).heap.size) (Nat.le_refl _)
      refine ⟨_, _, _, _, builtI _ _, lrow h3.cell, row_less h3 (tells_ask (lz m3.anys) fun e => by have := h.of3 e; omega) fun w4 o4 m4 => ⟨_, _, _, rfl, (lz (m3.anys.trans m4 fun _ _ e => e)).load (i := 0) (by kernel_rfl) rfl, ?_⟩⟩
      exact ask_end (S := fun w' => K (.tuple #[.pointer (some ⟨q, 0, none⟩), .int .i64 0]) w') h ((m2.no m3).anys.trans m4 fun _ _ e => e) o4 (hz3.keep m4 fun e => by have := h.of3 e; omega) hx hxb fin
  | none =>
    rw [h.noKey hf] at hlk
    refine ⟨none, false, hlk, ff rfl ?_⟩
    refine room_c h1 (fun C' hr w10 mp' h10 m10 => ⟨_, rfl, ff rfl ?_⟩) fun hr w10 m10 => ⟨_, rfl, tt rfl (hk2 (by unfold askC; rw [hf]; simp only [hr]; rfl) w10 (m1.no m10))⟩
    have hroom : C'.D = C.D ∧ (∀ x ∈ C'.l, x ∈ C.l) ∧ C'.l.length < C'.most := by
      unfold roomC at hr
      split at hr
      · rename_i hl
        have := Option.some.inj hr
        subst this
        exact ⟨rfl, fun x hx => hx, hl⟩
      · cases hfi : C.l.find? (idleB C.D) with
        | none => rw [hfi] at hr; cases hr
        | some z =>
          rw [hfi] at hr
          have := Option.some.inj hr
          subst this
          have := others_lt (List.mem_of_find?_eq_some hfi)
          have := h.wf.len
          exact ⟨rfl, fun x hx => (mem_others.1 hx).1, by show (others C.l z.b).length < C.most; omega⟩
    obtain ⟨hD, hsub, hlt⟩ := hroom
    have hask : askC C b = some { C' with l := C'.l ++ [⟨b, atD C.D b, 0⟩] } := by unfold askC; rw [hf]; simp only [hr]; rfl
    have hno : ∀ y ∈ C'.l, y.b ≠ b := fun y hy => findB_none hf y (hsub y hy)
    have hb' : b < C'.D.vs.length := by rw [hD]; exact hb
    have hl1 := h10.wf.len
    have hl2 := h10.wf.most1
    have hqR : ¬ R w.heap.size := fun e => by have := (h.lo _ e).2; omega
    have hq10 := hq.keep m10 hqR
    have hlq10 := hq10.lt
    obtain ⟨r1, r2⟩ := rd_at C'.D hb'
    have hal := h10.atLen hb'
    refine ⟨_, rfl, _, h10.drew.ld, _, hq10.drew.load (i := 0) (by kernel_rfl) rfl, Read_c h10.drew.disk h10.wf.small fun w11 a cc m11 f11 => ?_⟩
    rw [r2] at f11 ⊢
    rw [r1, hal]
    rcases f11 with ⟨_, e⟩ | ⟨g, rfl, hg, hat⟩
    · rw [e] at hal; cases hal
    have hgl := hat.lt
    refine ⟨_, _, _, _, rfl, ff rfl ⟨_, fun w => build_bytes w _ _ _, _, fun w => build_buffer w _ _ _, _, _, box_buffer _ _, _, rfl, some m, ?_⟩⟩
    have m12 : Mod No w11 (drew (w11.alloc (.cells ⟨[.slice (some ⟨g, 0, none⟩) 256 cc, .int .i64 0]⟩ 244))) := ((Mod.refl No w11).alloc _).drew
    have hbuf : AtU (drew (w11.alloc (.cells ⟨[.slice (some ⟨g, 0, none⟩) 256 cc, .int .i64 0]⟩ 244))) w11.heap.size 0 [.slice (some ⟨g, 0, none⟩) 256 cc, .int .i64 0] := AtU.new.drew
    have hsz12 : (drew (w11.alloc (.cells ⟨[.slice (some ⟨g, 0, none⟩) 256 cc, .int .i64 0]⟩ 244))).heap.size = w11.heap.size + 1 := by simp
    generalize hW12 : drew (w11.alloc (.cells ⟨[.slice (some ⟨g, 0, none⟩) 256 cc, .int .i64 0]⟩ 244)) = w12 at *
    have M12 : Mod No w10 w12 := ((Mod.refl No w10).drew.no m11).no m12
    have h12 := h10.nos M12
    have hs11 := m11.size
    have hs10d : (drew w10).heap.size = w10.heap.size := rfl
    have hq12 := hq10.keep M12 id
    have hzz := h10.out_of (x := w12.heap.size)
    obtain ⟨w13, s1, s2, s3, s4⟩ := update_run (P := Tryz.prog) (k := (b : Int)) (v := .pointer (some ⟨w11.heap.size, 0, none⟩)) mapCache h12.map
    have hrm := h12.rm
    have hrc := h12.rc
    have hbR : rl w11.heap.size = 0 := h10.out_of (by omega)
    have hgR : rl g = 0 := h10.out_of (by omega)
    have hc13 := h12.cell.keep s3 (apart hrc hrm (by omega))
    have hrlq : rl w.heap.size = 0 := hz0
    have hq13 := hq12.keep s3 (apart hrlq hrm (by omega))
    refine ⟨h12.lm, _, hq12.load (i := 0) (by kernel_rfl) rfl, w13, s1, _, rfl, _, _, _, lrow hc13.drew, _, hq13.drew.load (i := 0) (by kernel_rfl) rfl, _, _, _, _, builtI _ _, ?_⟩
    have m14 : Mod No w13 ((drew w13).alloc (.cells ⟨[.int .i64 b]⟩ 3)) := (Mod.refl No w13).drew.no ((Mod.refl No _).alloc _)
    have hnew14 : At ((drew w13).alloc (.cells ⟨[.int .i64 b]⟩ 3)) (drew w13).heap.size 0 [.int .i64 b] := AtU.new.at
    generalize hW14 : (drew w13).alloc (.cells ⟨[.int .i64 b]⟩ 3) = w14 at *
    have hrow14 := (h12.row.keep s3 fun q hq' => apart (h12.rrow q hq') hrm (by omega)).nos m14
    have hs14 := m14.size
    have hw0 := h10.mod.size
    have hs12 := M12.size
    obtain ⟨q', c', w15, t1, t2, t3, t4⟩ := hrow14.app (ty := 49) (m := 1) (c2 := 1) (ad := ⟨(drew w13).heap.size, 0, none⟩) (ys := [.int .i64 b]) elemZ_ints (by omega) (.inr ⟨_, _, rfl, hnew14⟩) rfl (by omega) (by simp; rfl) (by omega) (by omega) (by omega)
    have t3' : Mod (Of la) w14 w15 := t3
    have hc15 := (hc13.keep m14 id).keep t3' fun e => by have := h12.of3 e; omega
    refine ⟨lrow (hc13.keep m14 id), _, _, _, w15, t1, _, rfl, ?_⟩
    obtain ⟨w16, u1, u2, u3, u4⟩ := hc15.store (P := Tryz.prog) (T := 49) (i := 3) (v := .slice (some q') (C'.l.length + 1) c') (by kernel_rfl) (by simp) rfl
    refine ⟨w16, by rw [add_none]; exact u1, ?_⟩
    have M13 : Mod (S123 rl) w10 w13 := M12.anys.trans (s3.mono fun x _ e => .inr (.inl (by rw [e]; exact hrm))) fun _ _ e => e
    have M15 : Mod (S123 rl) w10 w15 := (M13.no m14).trans (t3'.mono fun x _ e => .inr (.inr (h12.of3 e))) fun _ _ e => e
    have M16 : Mod (S123 rl) w10 w16 := M15.trans (u3.mono fun x _ e => .inl (by rw [e]; exact hrc)) fun _ _ e => e
    have hs15 := t3'.size
    have hs16 := u3.size
    have hs13 := s3.size
    have hq'lt := (t2.base (q := q') rfl).2
    have hq'new : rl q'.block = 3 ∨ (w13.heap.size ≤ q'.block ∧ rl q'.block = 0) := by
      rcases t4 with ⟨q2, hq2, e⟩ | e
      · left; rw [e]; exact h12.rrow q2 hq2
      · right; exact ⟨by omega, h10.out_of (by omega)⟩
    have hq'g : q'.block ≠ g := fun e => by
      rcases hq'new with hn | ⟨hn, _⟩
      · rw [e] at hn; omega
      · omega
    have hq'b : q'.block ≠ w11.heap.size := fun e => by
      rcases hq'new with hn | ⟨hn, _⟩
      · rw [e] at hn; omega
      · omega
    have hgb : w11.heap.size ≠ g := by omega
    have e1 : ro rl g 5 w11.heap.size = 0 := by rw [ro_ne _ hgb]; exact hbR
    have x1 : Ext w10 w16 rl (ro rl g 5) := (Ext.refl _ _ _).ro (.inr ⟨by omega, by omega, hgR⟩) (by omega) (by omega)
    have x2 : Ext w10 w16 rl (ro (ro rl g 5) w11.heap.size (6 + b)) := x1.ro (.inr ⟨by omega, by omega, e1⟩) (by omega) (by omega)
    have e2 : ro (ro rl g 5) w11.heap.size (6 + b) q'.block = rl q'.block := by rw [ro_ne _ hq'b, ro_ne _ hq'g]
    have x3 : Ext w10 w16 rl (ro (ro (ro rl g 5) w11.heap.size (6 + b)) q'.block 3) := x2.ro (by
      rw [e2]
      rcases hq'new with hn | ⟨hn, hn2⟩
      · exact .inl hn
      · exact .inr ⟨by omega, by omega, hn2⟩) (by omega) (by omega)
    have hlen : (C'.l ++ [(⟨b, atD C.D b, 0⟩ : Bf)]).length = C'.l.length + 1 := by simp
    have hnum : iL (nums C'.l) ++ [.int .i64 b] = iL (nums (C'.l ++ [⟨b, atD C.D b, 0⟩])) := by simp [nums, iL, I]
    have hS : ∀ x, S123 rl x → rl x ≠ 0 ∧ rl x ≠ 4 ∧ rl x ≠ 5 ∧ rl x < 4 := fun x e => by unfold S123 at e; omega
    have hstep := h10.step (l' := C'.l ++ [⟨b, atD C.D b, 0⟩]) (la' := some q') (lc' := c') (mp' := putL (b : Int) (.pointer (some ⟨w11.heap.size, 0, none⟩)) mp') M16 x3 (fun x _ e => ⟨(hS x e).1, (hS x e).2.1, (hS x e).2.2.1⟩) (by rw [hlen]; simpa using u2)
      (((s2.keep m14 id).keep t3' fun e => by have := h12.of3 e; omega).keep u3 (apart hrm hrc (by omega)))
      (by
        rw [hlen, ← hnum]
        refine t2.keep u3 fun q hq e => ?_
        have := Option.some.inj hq
        subst this
        rcases hq'new with hn | ⟨_, hn⟩ <;> (rw [e] at hn; omega))
      (fun q hq => by have := Option.some.inj hq; subst this; exact ro_same _ _ _)
      (fun y hy => by
        rcases List.mem_append.1 hy with hy | hy
        · refine .inl ⟨hy, ?_, fun q e e' => by have := hS q e; omega⟩
          rw [look_put, if_neg (by have := hno y hy; omega)]
        · simp only [List.mem_singleton] at hy
          subst hy
          have n1 : ¬ S123 rl w11.heap.size := fun e => by have := hS _ e; omega
          have n2 : ¬ S123 rl g := fun e => by have := hS _ e; omega
          refine .inr ⟨w11.heap.size, g, cc, by rw [look_put, if_pos rfl], ?_, ?_, ?_, ?_⟩
          · rw [ro_ne _ (Ne.symm hq'b), ro_same]
          · rw [ro_ne _ (Ne.symm hq'g), ro_ne _ (Ne.symm hgb), ro_same]
          · refine (((hbuf.keep s3 (apart hbR hrm (by omega))).keep m14 id).keep t3' fun e => by have := h12.of3 e; omega).keep u3 (apart hbR hrc (by omega))
          · rw [← hD]
            refine ((((hat.keep m12 id).keep s3 (apart hgR hrm (by omega))).keep m14 id).keep t3' fun e => by have := h12.of3 e; omega).at.keep u3 (apart hgR hrc (by omega)))
      (fun p hp => by
        rcases put_keys p hp with e | hp
        · exact ⟨⟨b, atD C.D b, 0⟩, by simp, e⟩
        · obtain ⟨y, hy, e⟩ := h10.keys p hp
          exact ⟨y, List.mem_append.2 (.inl hy), e⟩)
      (h10.wf.add hlt hno hb' (by rw [← hD]; exact hal) (by simp))
    have hz1 := m1.size
    have hz10 := m10.size
    have hz16 := M16.size
    have MR1 : Mod R w w10 := m1.anys.trans m10 fun _ _ e => e
    have hG : Gro (Gro R w1 w10) w10 w16 = fun x => R x ∨ (w1.heap.size ≤ x ∧ x < w16.heap.size) := gro_gro (by omega) (by omega)
    have hw := h.mod.size
    refine hk1 _ hask w16 w11.heap.size ⟨_, m, sb, mb, sc, c', some q', L, _, hstep.widen (R' := Gro R w w16) (fun x hx => ?_) (fun x hx => ?_), by rw [look_put, if_pos rfl]⟩ (MR1.trans M16 fun x hx e => ?_)
    · rw [hG] at hx
      rcases hx with hx | hx
      · exact .inl hx
      · exact .inr (by omega)
    · rcases hx with hx | hx
      · have := h.lo x hx; omega
      · omega
    · have := h10.reg x (hS x e).1
      rcases this with this | this
      · exact this
      · omega
end
end Go.Proofs.YtocjjigmpgekfaaGreat
end
section
/- Layer 10: what a cache does, in plain terms: what stays, what is read. -/
open Go Go.Den Go.Proofs
namespace Go.Proofs.YtocjjigmpgekfaaGreat
/-- What asking for a block does. -/
structure Asked (C C' : Ca) (b : Nat) (l0 : List Bf) (y : Bf) : Prop where
  l : C'.l = l0 ++ [y]
  yb : y.b = b
  D : C'.D = C.D
  most : C'.most = C.most
  wf : WFC C'
  from_ : ∀ x ∈ C'.l, x ∈ C.l ∨ (x = ⟨b, atD C.D b, 0⟩ ∧ findB C.l b = none)
  keep : ∀ x ∈ C.l, idleB C.D x = false → x ∈ C'.l
  here : ∀ x ∈ C.l, x.b = b → x ∈ C'.l
  l0 : ∀ x ∈ l0, x ∈ C.l ∧ x.b ≠ b
theorem atD_len {C : Ca} (h : WF C.D) {b : Nat} (hb : b < C.D.vs.length) : (atD C.D b).length = 256 := by
  have hv : C.D.vs[b]? = some C.D.vs[b] := by simp [hb]
  have e : verOf C.D b = C.D.vs[b] := by
    unfold verOf
    rw [if_neg (by omega), Int.toNat_natCast, hv]; rfl
  unfold atD
  rw [e]
  exact h.lastLen hv
theorem room_facts {C C' : Ca} (h : WFC C) (ha : roomC C = some C') : C'.D = C.D ∧ C'.most = C.most ∧ WFC C' ∧ C'.l.length < C'.most ∧ (∀ x ∈ C'.l, x ∈ C.l) ∧ ∀ x ∈ C.l, idleB C.D x = false → x ∈ C'.l := by
  unfold roomC at ha
  split at ha
  · rename_i hl
    have := Option.some.inj ha
    subst this
    exact ⟨rfl, rfl, h, hl, fun x hx => hx, fun x hx _ => hx⟩
  · cases hf : C.l.find? (idleB C.D) with
    | none => rw [hf] at ha; cases ha
    | some z =>
      rw [hf] at ha
      have := Option.some.inj ha
      subst this
      have hz := List.mem_of_find?_eq_some hf
      have hi : idleB C.D z = true := List.find?_some hf
      refine ⟨rfl, rfl, h.out _, ?_, fun x hx => (mem_others.1 hx).1, fun x hx hn => mem_others.2 ⟨hx, fun e => ?_⟩⟩
      · have := others_lt hz; have := h.len
        show (others C.l z.b).length < C.most
        omega
      · rw [map_inj h.nodup hx hz e, hi] at hn; cases hn
theorem ask_facts {C C' : Ca} {b : Nat} (h : WFC C) (hD : WF C.D) (hb : b < C.D.vs.length) (ha : askC C b = some C') : ∃ l0 y, Asked C C' b l0 y := by
  unfold askC at ha
  split at ha
  · rename_i x hx
    have := Option.some.inj ha
    subst this
    obtain ⟨h1, h2⟩ := findB_some hx
    subst h2
    exact ⟨others C.l x.b, x, {
      l := rfl, yb := rfl, D := rfl, most := rfl, wf := h.move h1
      from_ := fun z hz => by
        rcases List.mem_append.1 hz with hz | hz
        · exact .inl (mem_others.1 hz).1
        · simp at hz; subst hz; exact .inl h1
      keep := fun z hz _ => by
        by_cases e : z.b = x.b
        · rw [map_inj h.nodup hz h1 e]; simp
        · exact List.mem_append.2 (.inl (mem_others.2 ⟨hz, e⟩))
      here := fun z hz e => by rw [map_inj h.nodup hz h1 e]; simp
      l0 := fun z hz => mem_others.1 hz }⟩
  · rename_i hx
    cases hr : roomC C with
    | none => rw [hr] at ha; cases ha
    | some C1 =>
      rw [hr] at ha
      have := Option.some.inj ha
      subst this
      obtain ⟨r1, r2, r3, r4, r5, r6⟩ := room_facts h hr
      have hno := findB_none hx
      exact ⟨C1.l, ⟨b, atD C.D b, 0⟩, {
        l := rfl, yb := rfl, D := r1, most := r2
        wf := r3.add r4 (fun y hy => hno y (r5 y hy)) (by rw [r1]; exact hb) (atD_len hD hb) (by simp)
        from_ := fun z hz => by
          rcases List.mem_append.1 hz with hz | hz
          · exact .inl (r5 z hz)
          · simp at hz; subst hz; exact .inr ⟨rfl, hx⟩
        keep := fun z hz hi => List.mem_append.2 (.inl (r6 z hz hi))
        here := fun z hz e => absurd e (hno z hz)
        l0 := fun z hz => ⟨r5 z hz, hno z (r5 z hz)⟩ }⟩
/-- How often a block is pinned. -/
def pinsOf (l : List Bf) (n : Nat) : Nat := match findB l n with | some x => x.pins | none => 0
theorem pinsOf_mem {l : List Bf} (hn : (l.map (·.b)).Nodup) {x : Bf} (hx : x ∈ l) : pinsOf l x.b = x.pins := by
  unfold pinsOf; rw [findB_mem hn hx]
theorem turn_mem {l : List Bf} {y : Bf} (h : ∃ x ∈ l, x.b = y.b) : y ∈ turn l y := by
  obtain ⟨x, hx, e⟩ := h
  exact List.mem_map.2 ⟨x, hx, by rw [if_pos e]⟩
theorem turn_other {l : List Bf} {y x : Bf} (hx : x ∈ l) (e : x.b ≠ y.b) : x ∈ turn l y := List.mem_map.2 ⟨x, hx, by rw [if_neg e]⟩
end Go.Proofs.YtocjjigmpgekfaaGreat
end
section
/- Layer 10, the program's cache: its calls. -/
open Go Go.Den Go.Proofs
namespace Go.Proofs.YtocjjigmpgekfaaGreat
def lastD (l : List Bf) : Bk := match l.getLast? with | some x => x.data | none => []
/-- What calls answer, and the cache behind them. -/
def rdX (C : Ca) (n : Int) : Ca × Int × Bk :=
  if errOf C.D n ≠ 0 then (C, errOf C.D n, []) else match askC C n.toNat with | none => (C, 5, []) | some C' => (C', 0, lastD C'.l)
def layX (C : Ca) (n : Int) (ys : Bk) : Ca × Int :=
  if errOf C.D n ≠ 0 then (C, errOf C.D n) else if ys.length ≠ 256 then (C, 4) else match askC C n.toNat with | none => (C, 5) | some C' => ({ C' with l := turn C'.l ⟨n.toNat, ys, pinsOf C'.l n.toNat⟩ }, 0)
def wrX (C : Ca) (n : Int) (ys : Bk) : Ca × Int :=
  if errOf C.D n ≠ 0 then (C, errOf C.D n) else if ys.length ≠ 0 ∧ ys.length ≠ 256 then (C, 4) else match askC C n.toNat with
    | none => (C, 5)
    | some C' => ({ C' with D := wrSt C'.D n (if ys.length = 0 then lastD C'.l else ys) }, wrE C'.D n (if ys.length = 0 then lastD C'.l else ys))
def heldC (C : Ca) (n : Int) : Option Bf := if n < 0 then none else findB C.l n.toNat
def pinX (C : Ca) (n : Int) : Ca × Int := match heldC C n with | none => (C, 20) | some x => ({ C with l := turn C.l { x with pins := x.pins + 1 } }, 0)
def unpinX (C : Ca) (n : Int) : Ca × Int := match heldC C n with | none => (C, 20) | some x => if x.pins = 0 then (C, 6) else ({ C with l := turn C.l { x with pins := x.pins - 1 } }, 0)
theorem heldC_some {C : Ca} {n : Int} {x : Bf} (h : heldC C n = some x) : x ∈ C.l ∧ n = (x.b : Int) := by
  unfold heldC at h
  split at h
  · cases h
  · have := findB_some h; exact ⟨this.1, by omega⟩
section
variable {w0 w w' : World} {R : Nat → Prop} {rl : Nat → Nat} {c d m sb mb sc lc : Nat} {la : Option Addr} {L mp : List (Int × Value)} {C : Ca} {K : Value → World → Prop}
theorem held_lookup (h : CIn w0 R rl w c d m sb mb sc lc la L mp C) (n : Int) : (heldC C n = none ∧ lookupL mp n = none) ∨ ∃ x q, heldC C n = some x ∧ lookupL mp n = some (.pointer (some ⟨q, 0, none⟩)) := by
  unfold heldC
  by_cases hn : n < 0
  · rw [if_pos hn]
    refine .inl ⟨rfl, ?_⟩
    cases hl : lookupL mp n with
    | none => rfl
    | some v =>
      obtain ⟨x, _, e⟩ := h.keys _ (look_mem hl)
      have e' : n = x.b := e
      omega
  · rw [if_neg hn]
    obtain ⟨b, rfl⟩ := Int.eq_ofNat_of_zero_le (show 0 ≤ n by omega)
    rw [Int.toNat_natCast]
    cases hf : findB C.l b with
    | none => exact .inl ⟨rfl, h.noKey hf⟩
    | some x =>
      obtain ⟨hx, e⟩ := findB_some hf
      obtain ⟨q, g, cc, b1, _⟩ := h.bufs x hx
      rw [e] at b1
      exact .inr ⟨x, q, rfl, b1⟩
def mayE (D : St) (n : Int) (l : Nat) (xs : List Int) : Int := if errOf D n ≠ 0 then errOf D n else if xs ≠ [] ∧ (l : Int) ∉ xs then 4 else 0
theorem cmay_c {a2 a3 : Option Addr} {l2 c2 l3 c3 : Nat} {xs : List Int} {n : Int} (h : CIn w0 R rl w c d m sb mb sc lc la L mp C) (hl : xs.length = l3) (h63 : l3 ≤ 1000) (hr : Row w a3 (iL xs))
    (hk : K (.int .i64 (mayE C.D n l2 xs)) w) : Cal Tryz.prog F_cache_Cache_may #[.pointer (some ⟨c, 0, none⟩), .int .i64 n, .slice a2 l2 c2, .slice a3 l3 c3] w K := by
  apply C_cache_Cache_may
  unfold D_cache_Cache_may
  refine ff rfl (Share.cut (fun x w' => x = [.bool (decide (n < 0 ∨ C.D.vs.length ≤ n))] ∧ w' = w) (cond_of (fun hb => ?_) (fun hb => ?_)) ?_)
  · have := of_decide_eq_true hb
    exact ⟨by simp [this], rfl⟩
  · have := of_decide_eq_false hb
    refine ⟨_, rfl, _, h.ld, Len_c h.disk ⟨_, rfl, ?_, rfl⟩⟩
    congr 2; rw [Bool.eq_iff_iff]; simp only [decide_eq_true_eq]; omega
  rintro x w' ⟨rfl, rfl⟩
  refine ⟨_, rfl, cond_of (fun hb => ?_) (fun hb => ?_)⟩
  · have := of_decide_eq_true hb
    have e : errOf C.D n = 3 := by unfold errOf; rw [if_pos this]
    unfold mayE at hk
    rw [e] at hk; exact hk
  · have := of_decide_eq_false hb
    have e : errOf C.D n = 0 := by unfold errOf; rw [if_neg this]
    unfold mayE at hk
    rw [e, if_neg (by omega)] at hk
    refine Share.cut (fun x w2 => x = [.bool (decide (xs ≠ [] ∧ (l2 : Int) ∉ xs))] ∧ w2 = w') (cond_of (fun hb => ?_) (fun hb => ?_)) ?_
    · have hl3 : 0 < l3 := by have := of_decide_eq_true hb; omega
      have hne : xs ≠ [] := fun e => by subst e; simp at hl; omega
      refine Contains_c hl (by omega) hr ⟨_, rfl, ?_, rfl⟩
      simp [hne]
    · have hl3 : l3 = 0 := by have := of_decide_eq_false hb; omega
      have hne : xs = [] := List.eq_nil_of_length_eq_zero (by omega)
      exact ⟨by simp [hne], rfl⟩
    · rintro x w2 ⟨rfl, rfl⟩
      refine ⟨_, rfl, cond_of (fun hb => ?_) (fun hb => ?_)⟩
      · rw [if_pos (of_decide_eq_true hb)] at hk; exact hk
      · rw [if_neg (of_decide_eq_false hb)] at hk; exact hk
theorem Cx.nos (h : Cx w0 R w c d C) (k : Mod No w w') : Cx w0 R w' c d C := by
  obtain ⟨rl, m, sb, mb, sc, lc, la, L, mp, h⟩ := h
  exact ⟨rl, m, sb, mb, sc, lc, la, L, mp, h.nos k⟩
theorem Cx.gro (h : Cx w0 R w c d C) (k : Mod No w w') : Cx w0 (Gro R w w') w' c d C := by
  obtain ⟨rl, m, sb, mb, sc, lc, la, L, mp, h⟩ := h
  exact ⟨rl, m, sb, mb, sc, lc, la, L, mp, h.gro k⟩
theorem Cx.wf (h : Cx w0 R w c d C) : WFC C ∧ WF C.D ∧ Mod No w0 w ∧ (∀ x, R x → w0.heap.size ≤ x ∧ x < w.heap.size) := by
  obtain ⟨rl, m, sb, mb, sc, lc, la, L, mp, h⟩ := h
  exact ⟨h.wf, h.disk.wf, h.mod, h.lo⟩
theorem Cq.x {b q : Nat} (h : Cq w0 R w c d b q C) : Cx w0 R w c d C := by
  obtain ⟨rl, m, sb, mb, sc, lc, la, L, mp, h, _⟩ := h
  exact ⟨rl, m, sb, mb, sc, lc, la, L, mp, h⟩
theorem Cx.keep {S : Nat → Prop} (h : Cx w0 R w c d C) (k : Mod S w w') (hs : ∀ x, R x → ¬ S x) (hw : ∀ x, x < w0.heap.size → ¬ S x) : Cx w0 R w' c d C := by
  obtain ⟨rl, m, sb, mb, sc, lc, la, L, mp, h⟩ := h
  have hr : ∀ {x}, rl x ≠ 0 → ¬ S x := fun hx => hs _ (h.reg _ hx)
  exact ⟨rl, m, sb, mb, sc, lc, la, L, mp, {
    disk := h.disk.keep k fun x hx => hr (by omega)
    cell := h.cell.keep k (hr (by rw [h.rc]; omega))
    map := h.map.keep k (hr (by rw [h.rm]; omega))
    row := h.row.keep k fun q hq => hr (by rw [h.rrow q hq]; omega)
    rc := h.rc
    rm := h.rm
    rrow := h.rrow
    bufs := fun x hx => by
      obtain ⟨q, g, cc, h1, h2, h3, h4, h6⟩ := h.bufs x hx
      exact ⟨q, g, cc, h1, h2, h3, h4.keep k (hr (by omega)), h6.keep k (hr (by omega))⟩
    keys := h.keys
    wf := h.wf
    reg := h.reg
    lo := fun x hx => by have := h.lo x hx; have := k.size; omega
    mod := h.mod.trans k fun x hx e => absurd e (hw x hx) }⟩
theorem lastD_ask {C' : Ca} {b : Nat} (h : WFC C) (hD : WF C.D) (hb : b < C.D.vs.length) (ha : askC C b = some C') : ∃ x ∈ C'.l, x.b = b ∧ lastD C'.l = x.data ∧ findB C'.l b = some x ∧ WFC C' ∧ C'.D = C.D := by
  obtain ⟨l0, y, A⟩ := ask_facts h hD hb ha
  refine ⟨y, by rw [A.l]; simp, A.yb, by unfold lastD; rw [A.l]; simp, ?_, A.wf, A.D⟩
  have := findB_mem A.wf.nodup (x := y) (by rw [A.l]; simp)
  rwa [A.yb] at this
theorem err_range {D : St} {n : Int} (h : errOf D n = 0) : ∃ b : Nat, n = b ∧ b < D.vs.length := by
  rcases err_cases (D := D) n with ⟨e, _⟩ | ⟨_, i, v, rfl, hv, _⟩
  · omega
  · exact ⟨i, rfl, (List.getElem?_eq_some_iff.1 hv).1⟩
theorem cRead_c {n : Int} (hC : Cx w0 R w c d C)
    (hk : ∀ w1 w' a cc, Mod R w w1 → Mod No w1 w' → Cx w0 (Gro R w w1) w' c d (rdX C n).1 → Own Tryz.prog w' w1.heap.size 36 1 a (rdX C n).2.2.length cc (u8L (rdX C n).2.2) → K (.tuple #[.slice a (rdX C n).2.2.length cc, .int .i64 (rdX C n).2.1]) w') :
    Cal Tryz.prog F_cache_Cache_Read #[.pointer (some ⟨c, 0, none⟩), .int .i64 n] w K := by
  have hX := hC
  obtain ⟨rl, m, sb, mb, sc, lc, la, L, mp, h⟩ := hC
  apply C_cache_Cache_Read
  unfold D_cache_Cache_Read
  refine cmay_c (xs := []) h rfl (by omega) (.inl rfl) ⟨_, rfl, ?_⟩
  have hm : mayE C.D n 0 [] = errOf C.D n := by
    unfold mayE; split
    · rfl
    · rename_i e; simp at e ⊢; exact e.symm
  rw [hm]
  by_cases he : errOf C.D n = 0
  · rw [he]
    refine ff rfl ?_
    obtain ⟨b, rfl, hb⟩ := err_range he
    have hr0 : rdX C b = match askC C b with | none => (C, 5, []) | some C' => (C', 0, lastD C'.l) := by unfold rdX; rw [if_neg (by omega), Int.toNat_natCast]
    rw [hr0] at hk
    refine ask_c h hb (fun C' ha w1 q hq m1 => ⟨_, _, rfl, ff rfl ⟨_, rfl, ?_⟩⟩) fun ha w1 m1 => ⟨_, _, rfl, tt rfl ?_⟩
    · rw [ha] at hk
      obtain ⟨x, hx, hxb, hxd, hxf, hwf, hD⟩ := lastD_ask h.wf h.disk.wf hb ha
      have hxl := hwf.data x hx
      have hqx := hq.x
      obtain ⟨rl', m', sb', mb', sc', lc', la', L', mp', h', hl'⟩ := hq
      obtain ⟨q2, g, cc, b1, b2, b3, b4, b6⟩ := h'.bufs x hx
      rw [hxb, hl'] at b1
      simp only [Option.some.injEq, Value.pointer.injEq, Addr.mk.injEq, and_true] at b1
      subst b1
      refine ⟨_, _, _, lbytes b4, CloneB_c (.inr ⟨_, _, rfl, b6⟩) hxl (fun e => by cases e) (by omega) fun w2 a2 c2 o2 m2 => ⟨_, _, _, rfl, ?_⟩⟩
      have := hk w1 w2 a2 c2 m1 m2 (hqx.nos m2)
      simp only [hxd, hxl] at this
      exact this o2
    · rw [ha] at hk
      exact hk w1 w1 none 0 m1.anys (Mod.refl _ _) (hX.gro m1) (Own.nil elemZ_bytes)
  · have hr0 : rdX C n = (C, errOf C.D n, []) := by unfold rdX; rw [if_pos he]
    rw [hr0] at hk
    refine tt (by simpa using he) ?_
    exact hk w w none 0 (Mod.refl _ _) (Mod.refl _ _) (hX.gro (Mod.refl _ _)) (Own.nil elemZ_bytes)
end
end Go.Proofs.YtocjjigmpgekfaaGreat
end
section
/- Layer 10, the program's cache: its other calls. -/
open Go Go.Den Go.Proofs
namespace Go.Proofs.YtocjjigmpgekfaaGreat
section
variable {w0 w w' : World} {R : Nat → Prop} {rl : Nat → Nat} {c d m sb mb sc lc : Nat} {la : Option Addr} {L mp : List (Int × Value)} {C : Ca} {K : Value → World → Prop}
theorem turn_len (l : List Bf) (y : Bf) : (turn l y).length = l.length := by simp [turn]
theorem CIn.turn {S : Nat → Prop} {y : Bf} {q g cc : Nat} (h : CIn w0 R rl w c d m sb mb sc lc la L mp C) (k : Mod S w w') (hS : ∀ z, S z → rl z = 6 + y.b) (hm : ∃ x ∈ C.l, x.b = y.b)
    (hq : lookupL mp (y.b : Int) = some (.pointer (some ⟨q, 0, none⟩))) (hrq : rl q = 6 + y.b) (hg : rl g = 5 ∨ (w.heap.size ≤ g ∧ g < w'.heap.size)) (h4 : AtU w' q 0 [.slice (some ⟨g, 0, none⟩) 256 cc, .int .i64 y.pins]) (h6 : At w' g 0 (u8L y.data))
    (hwf : WFC { C with l := turn C.l y }) : ∃ rl', CIn w0 (Gro R w w') rl' w' c d m sb mb sc lc la L mp { C with l := Go.Proofs.YtocjjigmpgekfaaGreat.turn C.l y } := by
  have hrc := h.rc
  have hrm := h.rm
  have hg' : rl g = 5 ∨ (w.heap.size ≤ g ∧ g < w'.heap.size ∧ rl g = 0) := by
    rcases hg with hg | hg
    · exact .inl hg
    · exact .inr ⟨hg.1, hg.2, h.out_of hg.1⟩
  have hqg : q ≠ g := fun e => by
    rcases hg' with hg' | ⟨_, _, hg'⟩
    · rw [← e] at hg'; omega
    · rw [← e] at hg'; omega
  refine ⟨ro rl g 5, h.step k ((Ext.refl _ _ _).ro hg' (by omega) (by omega)) (fun x _ e => by have := hS x e; omega) ?_ (h.map.keep k fun e => by have := hS _ e; omega) ?_ (fun q2 hq2 => ?_) (fun z hz => ?_) (fun p hp => ?_) hwf⟩
  · rw [turn_len]; exact h.cell.keep k fun e => by have := hS _ e; omega
  · rw [turn_len, turn_nums]; exact h.row.keep k fun q2 hq2 e => by have := hS _ e; have := h.rrow q2 hq2; omega
  · have hr := h.rrow q2 hq2
    have : q2.block ≠ g := fun e => by
      rcases hg' with hg' | ⟨_, _, hg'⟩
      · rw [← e] at hg'; omega
      · rw [← e] at hg'; omega
    rw [ro_ne _ this]; exact hr
  · rcases mem_turn hz with rfl | ⟨hz, hne⟩
    · exact .inr ⟨q, g, cc, hq, by rw [ro_ne _ hqg]; exact hrq, ro_same _ _ _, h4, h6⟩
    · exact .inl ⟨hz, rfl, fun q2 e e' => by have := hS q2 e; omega⟩
  · obtain ⟨x, hx, e⟩ := h.keys p hp
    obtain ⟨x2, hx2, e2⟩ := hm
    by_cases hxy : x.b = y.b
    · exact ⟨y, turn_mem ⟨x2, hx2, e2⟩, by rw [e, hxy]⟩
    · exact ⟨x, turn_other hx hxy, e⟩
theorem Cx.up {w1 : World} (h : Cx w0 (Gro R w1 w') w' c d C) (hlo : ∀ x, R x → w0.heap.size ≤ x ∧ x < w.heap.size) (hw : w0.heap.size ≤ w.heap.size) (h1 : w.heap.size ≤ w1.heap.size) (h2 : w.heap.size ≤ w'.heap.size) : Cx w0 (Gro R w w') w' c d C := by
  obtain ⟨rl, m, sb, mb, sc, lc, la, L, mp, h⟩ := h
  refine ⟨rl, m, sb, mb, sc, lc, la, L, mp, h.widen (fun x hx => ?_) fun x hx => ?_⟩
  · rcases hx with hx | hx
    · exact .inl hx
    · exact .inr (by omega)
  · rcases hx with hx | hx
    · have := hlo x hx; omega
    · omega
theorem _root_.Go.Den.Row.region {a : Option Addr} {xs : List Value} (h : Row w a xs) (m : Mod R w w') (hd : xs ≠ [] → ∀ q, a = some q → ¬ R q.block) : Row w' a xs := by
  by_cases e : xs = []
  · exact .inl e
  · exact h.keep m (hd e)
theorem cLay_c {n : Int} {a2 : Option Addr} {l2 c2 : Nat} {ys : Bk} (hC : Cx w0 R w c d C) (hl : ys.length = l2) (hr : Row w a2 (u8L ys)) (hd : ys ≠ [] → ∀ q, a2 = some q → ¬ R q.block)
    (hk : ∀ w', Mod R w w' → Cx w0 (Gro R w w') w' c d (layX C n ys).1 → K (.int .i64 (layX C n ys).2) w') : Cal Tryz.prog F_cache_Cache_Lay #[.pointer (some ⟨c, 0, none⟩), .int .i64 n, .slice a2 l2 c2] w K := by
  have hX := hC
  obtain ⟨rl, m, sb, mb, sc, lc, la, L, mp, h⟩ := hC
  apply C_cache_Cache_Lay
  unfold D_cache_Cache_Lay
  have m1 : Mod No w (w.alloc (.cells ⟨[.int .i64 256]⟩ 3)) := (Mod.refl No w).alloc _
  have hrow : Row (w.alloc (.cells ⟨[.int .i64 256]⟩ 3)) (some ⟨w.heap.size, 0, none⟩) (iL [256]) := .inr ⟨_, _, rfl, AtU.new.at⟩
  refine ⟨_, _, _, _, builtI _ _, cmay_c (xs := [256]) (h.nos m1) rfl (by omega) hrow ⟨_, rfl, ?_⟩⟩
  generalize hW : w.alloc (.cells ⟨[.int .i64 256]⟩ 3) = w1 at *
  have hs1 := m1.size
  have hw0 := h.mod.size
  by_cases he : errOf C.D n = 0
  · by_cases h256 : ys.length = 256
    · have hm : mayE C.D n l2 [256] = 0 := by unfold mayE; rw [if_neg (by omega), if_neg (by simp; omega)]
      rw [hm]
      refine ff rfl ?_
      obtain ⟨b, rfl, hb⟩ := err_range he
      have hr0 : layX C b ys = match askC C b with | none => (C, 5) | some C' => ({ C' with l := turn C'.l ⟨b, ys, pinsOf C'.l b⟩ }, 0) := by unfold layX; rw [if_neg (by omega), if_neg (by omega), Int.toNat_natCast] <;> rfl
      rw [hr0] at hk
      refine ask_c (h.nos m1) hb (fun C' ha w3 q hq m3 => ⟨_, _, rfl, Share.dup (tt rfl ?_)⟩) fun ha w3 m3 => ⟨_, _, rfl, Share.dup (ff rfl ?_)⟩
      · rw [ha] at hk
        obtain ⟨x, hx, hxb, hxd, hxf, hwf, hD⟩ := lastD_ask h.wf h.disk.wf hb ha
        obtain ⟨rl', m', sb', mb', sc', lc', la', L', mp', h', hl'⟩ := hq
        obtain ⟨q2, g, cc, b1, b2, b3, b4, b6⟩ := h'.bufs x hx
        rw [hxb, hl'] at b1
        simp only [Option.some.injEq, Value.pointer.injEq, Addr.mk.injEq, and_true] at b1
        subst b1
        have hune : u8L ys ≠ [] := fun e => by have := congrArg List.length e; simp at this; rw [this] at h256; simp at h256
        have hyne : ys ≠ [] := fun e => by rw [e] at h256; simp at h256
        have hr3 := Row.region (hr.nos m1) m3 fun _ => hd hyne
        have h0 : a2 ≠ none := fun e => by
          rcases hr with hr | ⟨_, _, e2, _⟩
          · exact hune hr
          · rw [e] at e2; cases e2
        refine CloneB_c hr3 hl (fun e => absurd e h0) (by omega) fun w4 a4 c4 o4 m4 => ⟨_, _, _, rfl, _, rfl, ?_⟩
        subst hl
        obtain ⟨g4, rfl, hg4, hat4⟩ := o4.sm (by omega)
        obtain ⟨w5, t1, t2, t3, t4⟩ := (b4.keep m4 id).store (P := Tryz.prog) (T := 36) (i := 0) (v := .slice (some ⟨g4, 0, none⟩) ys.length c4) (by kernel_rfl) (by simp) rfl
        refine ⟨w5, by rw [add_none, add_none]; exact t1, ?_⟩
        have hp : pinsOf C'.l b = x.pins := by unfold pinsOf; rw [hxf]
        simp only [hp] at hk
        have hx' : (⟨b, ys, x.pins⟩ : Bf).b = x.b := hxb.symm
        have hg4l := hat4.lt
        have hs5 := t3.size
        have hs4 := m4.size
        have hs3 := m3.size
        have hgq : g4 ≠ q := fun e => by have := h'.out_of (x := g4) (by omega); rw [e] at this; omega
        have M : Mod (fun z => z = q) w3 w5 := (m4.anys.trans t3 fun _ _ e => e)
        obtain ⟨rl5, h5⟩ := h'.turn (y := ⟨b, ys, x.pins⟩) (q := q) (g := g4) (cc := c4) M (fun z e => by rw [e]; rw [b2, hxb]) ⟨x, hx, hxb⟩ hl' (by rw [b2, hxb]) (.inr ⟨by omega, by omega⟩) (by simpa [h256] using t2) (hat4.at.keep t3 hgq)
          (hwf.turn (by show b < C'.D.vs.length; rw [hD]; exact hb) h256 (hwf.pins x hx))
        have hgg := gro_gro (R := R) (w := w1) (w1 := w3) (w2 := w5) (by omega) (by omega)
        rw [hgg] at h5
        refine hk w5 ((m1.anys.trans m3 fun _ _ e => e).trans M fun z hz e => ?_) (Cx.up ⟨rl5, m', sb', mb', sc', lc', la', L', mp', h5⟩ h.lo hw0 hs1 (by omega))
        have := h'.reg z (by rw [e, b2]; omega)
        rcases this with this | this
        · exact this
        · omega
      · rw [ha] at hk
        exact hk w3 (m1.no m3).anys (hX.gro (m1.no m3))
    · have hm : mayE C.D n l2 [256] = 4 := by unfold mayE; rw [if_neg (by omega), if_pos (by simp; omega)]
      have hr0 : layX C n ys = (C, 4) := by unfold layX; rw [if_neg (by omega), if_pos h256]
      rw [hr0] at hk
      rw [hm]
      exact tt rfl (hk w1 m1.anys (hX.gro m1))
  · have hm : mayE C.D n l2 [256] = errOf C.D n := by unfold mayE; rw [if_pos he]
    have hr0 : layX C n ys = (C, errOf C.D n) := by unfold layX; rw [if_pos he]
    rw [hr0] at hk
    rw [hm]
    exact tt (by simpa using he) (hk w1 m1.anys (hX.gro m1))

theorem built02 (w : World) : (Instr.buildSlice 49 2 #[(0, .int .i64 0), (1, .int .i64 256)]).run Tryz.prog w = .ok (.slice (some ⟨w.heap.size, 0, none⟩) 2 2) (w.alloc (.cells ⟨[.int .i64 0, .int .i64 256]⟩ 3)) := by kernel_rfl
theorem Small_wr {D : St} (h : ∀ v ∈ D.vs, v.length ≤ 999999) (n : Int) (ys : Bk) : Small (wrSt D n ys) := fun v hv => by
  have := Bnd_wr (m := 999999) h n ys v hv
  omega
theorem cWrite_c {n : Int} {a2 : Option Addr} {l2 c2 : Nat} {ys : Bk} (hC : Cx w0 R w c d C) (hb9 : ∀ v ∈ C.D.vs, v.length ≤ 999999) (hl : ys.length = l2) (hr : Row w a2 (u8L ys)) (hd : ys ≠ [] → ∀ q, a2 = some q → ¬ R q.block)
    (hk : ∀ w', Mod R w w' → Cx w0 (Gro R w w') w' c d (wrX C n ys).1 → K (.int .i64 (wrX C n ys).2) w') : Cal Tryz.prog F_cache_Cache_Write #[.pointer (some ⟨c, 0, none⟩), .int .i64 n, .slice a2 l2 c2] w K := by
  have hX := hC
  obtain ⟨rl, m, sb, mb, sc, lc, la, L, mp, h⟩ := hC
  apply C_cache_Cache_Write
  unfold D_cache_Cache_Write
  have m1 : Mod No w (w.alloc (.cells ⟨[.int .i64 0, .int .i64 256]⟩ 3)) := (Mod.refl No w).alloc _
  have hrow : Row (w.alloc (.cells ⟨[.int .i64 0, .int .i64 256]⟩ 3)) (some ⟨w.heap.size, 0, none⟩) (iL [0, 256]) := .inr ⟨_, _, rfl, AtU.new.at⟩
  refine ⟨_, _, _, _, built02 _, cmay_c (xs := [0, 256]) (h.nos m1) rfl (by omega) hrow ⟨_, rfl, ?_⟩⟩
  generalize hW : w.alloc (.cells ⟨[.int .i64 0, .int .i64 256]⟩ 3) = w1 at *
  have hs1 := m1.size
  have hw0 := h.mod.size
  by_cases he : errOf C.D n = 0
  · by_cases h256 : ys.length ≠ 0 ∧ ys.length ≠ 256
    · have hm : mayE C.D n l2 [0, 256] = 4 := by unfold mayE; rw [if_neg (by omega), if_pos (by simp; omega)]
      have hr0 : wrX C n ys = (C, 4) := by unfold wrX; rw [if_neg (by omega), if_pos h256]
      rw [hr0] at hk
      rw [hm]
      exact tt rfl (hk w1 m1.anys (hX.gro m1))
    · have hm : mayE C.D n l2 [0, 256] = 0 := by unfold mayE; rw [if_neg (by omega), if_neg (by simp; omega)]
      rw [hm]
      refine ff rfl ?_
      obtain ⟨b, rfl, hb⟩ := err_range he
      have hr0 : wrX C b ys = match askC C b with | none => (C, 5) | some C' => ({ C' with D := wrSt C'.D b (if ys.length = 0 then lastD C'.l else ys) }, wrE C'.D b (if ys.length = 0 then lastD C'.l else ys)) := by unfold wrX; rw [if_neg (by omega), if_neg h256, Int.toNat_natCast] <;> rfl
      rw [hr0] at hk
      refine ask_c (h.nos m1) hb (fun C' ha w3 q hq m3 => ⟨_, _, rfl, ff rfl ?_⟩) fun ha w3 m3 => ⟨_, _, rfl, tt rfl ?_⟩
      · rw [ha] at hk
        obtain ⟨x, hx, hxb, hxd, hxf, hwf, hD⟩ := lastD_ask h.wf h.disk.wf hb ha
        obtain ⟨rl', m', sb', mb', sc', lc', la', L', mp', h', hl'⟩ := hq
        obtain ⟨q2, g, cc, b1, b2, b3, b4, b6⟩ := h'.bufs x hx
        rw [hxb, hl'] at b1
        simp only [Option.some.injEq, Value.pointer.injEq, Addr.mk.injEq, and_true] at b1
        subst b1
        have hxl := hwf.data x hx
        have hs3 := m3.size
        refine Share.cut (fun z w4 => w4 = w3 ∧ ∃ (a4 : Option Addr) (l4 c4 : Nat), z = [.slice a4 l4 c4] ∧ (if ys.length = 0 then lastD C'.l else ys).length = l4 ∧ Row w3 a4 (u8L (if ys.length = 0 then lastD C'.l else ys)) ∧ ∀ q5, a4 = some q5 → rl' q5.block ≠ 4)
          (cond_of (fun hb => ?_) (fun hb => ?_)) ?_
        · have hl0 : ys.length = 0 := by have : (l2 : Int) = 0 := by simpa using hb
                                         omega
          refine ⟨_, rfl, _, _, _, lbytes b4, rfl, _, _, _, rfl, ?_, ?_, fun q5 e => ?_⟩
          · rw [if_pos hl0, hxd]; exact hxl
          · rw [if_pos hl0, hxd]; exact .inr ⟨_, _, rfl, b6⟩
          · have := Option.some.inj e
            subst this
            show rl' g ≠ 4
            omega
        · have hl0 : ¬ ys.length = 0 := fun e => by
            have : ((l2 : Int) == 0) = true := by simp; omega
            rw [this] at hb; cases hb
          have hyne : ys ≠ [] := fun e => hl0 (by rw [e]; rfl)
          refine ⟨rfl, _, _, _, rfl, by rw [if_neg hl0]; exact hl, by rw [if_neg hl0]; exact Row.region (hr.nos m1) m3 fun _ => hd hyne, fun q5 e e4 => ?_⟩
          have hnR := hd hyne q5 e
          have := h'.reg q5.block (by omega)
          rcases this with this | this
          · exact hnR this
          · have hune : u8L ys ≠ [] := fun e => by have := congrArg List.length e; simp at this; exact hyne this
            obtain ⟨b5, o5, e5, hat5⟩ := hr.resolve_left hune
            rw [e] at e5
            have := Option.some.inj e5
            subst this
            have := hat5.lt
            simp only at *
            omega
        · rintro z w4 ⟨rfl, a4, l4, c4, rfl, hl4, hr4, hd4⟩
          refine ⟨_, rfl, _, h'.ld, _, _, _, rfl, Write_c h'.disk (by rw [hD]; exact hb9) hl4 hr4 hd4 fun w5 L5 m5 h5 => ⟨_, rfl, ?_⟩⟩
          have hs5 := m5.size
          obtain ⟨rl5, k5⟩ := h'.dsk m5 (fun _ e => e) h5 (Small_wr (by rw [hD]; exact hb9) _ _) (len_wr _ _ _)
          have hgg := gro_gro (R := R) (w := w1) (w1 := w4) (w2 := w5) (by omega) (by omega)
          rw [hgg] at k5
          refine hk w5 ((m1.anys.trans m3 fun _ _ e => e).trans m5 fun z hz e => ?_) (Cx.up ⟨rl5, m', sb', mb', sc', lc', la', L5, mp', k5⟩ h.lo hw0 hs1 (by omega))
          have e4 : rl' z = 4 := e
          have := h'.reg z (by omega)
          rcases this with this | this
          · exact this
          · omega
      · rw [ha] at hk
        exact hk w3 (m1.no m3).anys (hX.gro (m1.no m3))
  · have hm : mayE C.D n l2 [0, 256] = errOf C.D n := by unfold mayE; rw [if_pos he]
    have hr0 : wrX C n ys = (C, errOf C.D n) := by unfold wrX; rw [if_pos he]
    rw [hr0] at hk
    rw [hm]
    exact tt (by simpa using he) (hk w1 m1.anys (hX.gro m1))
end
end Go.Proofs.YtocjjigmpgekfaaGreat
end
section
/- Layer 10, the program's cache: pins, drops, what is held and dirty, a new one. -/
open Go Go.Den Go.Proofs
namespace Go.Proofs.YtocjjigmpgekfaaGreat
section
variable {w0 w w' : World} {R : Nat → Prop} {rl : Nat → Nat} {c d m sb mb sc lc : Nat} {la : Option Addr} {L mp : List (Int × Value)} {C : Ca} {K : Value → World → Prop}
theorem CIn.keepS {S : Nat → Prop} (h : CIn w0 R rl w c d m sb mb sc lc la L mp C) (k : Mod S w w') (hs : ∀ x, R x → ¬ S x) (hw : ∀ x, x < w0.heap.size → ¬ S x) : CIn w0 R rl w' c d m sb mb sc lc la L mp C := by
  have hr : ∀ {x}, rl x ≠ 0 → ¬ S x := fun hx => hs _ (h.reg _ hx)
  exact {
    disk := h.disk.keep k fun x hx => hr (by omega)
    cell := h.cell.keep k (hr (by rw [h.rc]; omega))
    map := h.map.keep k (hr (by rw [h.rm]; omega))
    row := h.row.keep k fun q hq => hr (by rw [h.rrow q hq]; omega)
    rc := h.rc
    rm := h.rm
    rrow := h.rrow
    bufs := fun x hx => by
      obtain ⟨q, g, cc, h1, h2, h3, h4, h6⟩ := h.bufs x hx
      exact ⟨q, g, cc, h1, h2, h3, h4.keep k (hr (by omega)), h6.keep k (hr (by omega))⟩
    keys := h.keys
    wf := h.wf
    reg := h.reg
    lo := fun x hx => by have := h.lo x hx; have := k.size; omega
    mod := h.mod.trans k fun x hx e => absurd e (hw x hx) }
theorem held_c {n : Int} (h : CIn w0 R rl w c d m sb mb sc lc la L mp C) (hk1 : heldC C n = none → K (.tuple #[.pointer none, .int .i64 20]) w)
    (hk2 : ∀ x q, heldC C n = some x → lookupL mp n = some (.pointer (some ⟨q, 0, none⟩)) → K (.tuple #[.pointer (some ⟨q, 0, none⟩), .int .i64 0]) w) : Cal Tryz.prog F_cache_Cache_held #[.pointer (some ⟨c, 0, none⟩), .int .i64 n] w K := by
  apply C_cache_Cache_held
  unfold D_cache_Cache_held
  have hlk := look2_run (P := Tryz.prog) mapCache h.map (k := n)
  refine ff rfl ⟨_, rfl, some m, h.lm, ?_⟩
  rcases held_lookup h n with ⟨e1, e2⟩ | ⟨x, q, e1, e2⟩
  · rw [e2] at hlk
    exact ⟨none, false, hlk, tt rfl (hk1 e1)⟩
  · rw [e2] at hlk
    exact ⟨some ⟨q, 0, none⟩, true, hlk, ff rfl (hk2 x q e1 e2)⟩
/-- A buffer's pins are turned. -/
theorem pins_store {x : Bf} {q p : Nat} (h : CIn w0 R rl w c d m sb mb sc lc la L mp C) (hx : x ∈ C.l) (hq : lookupL mp (x.b : Int) = some (.pointer (some ⟨q, 0, none⟩))) (hp : p ≤ 1000000) :
    ∃ w', RuU (Instr.storeAt 3 (.pointer (some (Addr.add ⟨q, 0, none⟩ 1))) (.int .i64 p)) w w' ∧ Mod R w w' ∧ Cx w0 (Gro R w w') w' c d { C with l := turn C.l { x with pins := p } } := by
  obtain ⟨q2, g, cc, b1, b2, b3, b4, b6⟩ := h.bufs x hx
  rw [hq] at b1
  simp only [Option.some.injEq, Value.pointer.injEq, Addr.mk.injEq, and_true] at b1
  subst b1
  obtain ⟨w1, t1, t2, t3, t4⟩ := b4.store (P := Tryz.prog) (T := 3) (i := 1) (v := .int .i64 p) (by kernel_rfl) (by simp) rfl
  refine ⟨w1, by rw [add_none]; exact t1, t3.mono fun z _ e => h.reg z (by rw [e, b2]; omega), ?_⟩
  obtain ⟨rl', h'⟩ := h.turn (y := { x with pins := p }) (q := q) (g := g) (cc := cc) t3 (fun z e => by rw [e]; exact b2) ⟨x, hx, rfl⟩ hq b2 (.inl b3) (by simpa using t2) (b6.keep t3 fun e => by rw [e] at b3; omega)
    (h.wf.turn (h.wf.lt x hx) (h.wf.data x hx) hp)
  exact ⟨rl', m, sb, mb, sc, lc, la, L, mp, h'⟩
theorem cPin_c {n : Int} (hC : Cx w0 R w c d C) (hp : ∀ x ∈ C.l, x.pins ≤ 999999) (hk : ∀ w', Mod R w w' → Cx w0 (Gro R w w') w' c d (pinX C n).1 → K (.int .i64 (pinX C n).2) w') : Cal Tryz.prog F_cache_Cache_Pin #[.pointer (some ⟨c, 0, none⟩), .int .i64 n] w K := by
  have hX := hC
  obtain ⟨rl, m, sb, mb, sc, lc, la, L, mp, h⟩ := hC
  apply C_cache_Cache_Pin
  unfold D_cache_Cache_Pin
  unfold pinX at hk
  refine held_c h (fun e => ⟨_, _, rfl, Share.dup (ff rfl ?_)⟩) fun x q e hq => ⟨_, _, rfl, Share.dup (tt rfl ?_)⟩
  · rw [e] at hk
    exact hk w (Mod.refl _ _) (hX.gro (Mod.refl _ _))
  · rw [e] at hk
    obtain ⟨hx, rfl⟩ := heldC_some e
    obtain ⟨q2, g, cc, b1, b2, b3, b4, b6⟩ := h.bufs x hx
    have hpx := hp x hx
    have hq' := hq
    rw [hq] at b1
    simp only [Option.some.injEq, Value.pointer.injEq, Addr.mk.injEq, and_true] at b1
    subst b1
    obtain ⟨w1, t1, t2, t3⟩ := pins_store (p := x.pins + 1) h hx hq' (by omega)
    refine ⟨_, rfl, _, lpins b4, _, rfl, w1, ?_, hk w1 t2 t3⟩
    rw [wrap64 (x := (x.pins : Int) + 1) (by omega) (by omega)]
    exact t1
theorem cUnpin_c {n : Int} (hC : Cx w0 R w c d C) (hk : ∀ w', Mod R w w' → Cx w0 (Gro R w w') w' c d (unpinX C n).1 → K (.int .i64 (unpinX C n).2) w') : Cal Tryz.prog F_cache_Cache_Unpin #[.pointer (some ⟨c, 0, none⟩), .int .i64 n] w K := by
  have hX := hC
  obtain ⟨rl, m, sb, mb, sc, lc, la, L, mp, h⟩ := hC
  apply C_cache_Cache_Unpin
  unfold D_cache_Cache_Unpin
  unfold unpinX at hk
  refine held_c h (fun e => ⟨_, _, rfl, tt rfl ?_⟩) fun x q e hq => ⟨_, _, rfl, ff rfl ?_⟩
  · rw [e] at hk
    exact hk w (Mod.refl _ _) (hX.gro (Mod.refl _ _))
  · rw [e] at hk
    obtain ⟨hx, rfl⟩ := heldC_some e
    obtain ⟨q2, g, cc, b1, b2, b3, b4, b6⟩ := h.bufs x hx
    have hpx := h.wf.pins x hx
    have hq' := hq
    rw [hq] at b1
    simp only [Option.some.injEq, Value.pointer.injEq, Addr.mk.injEq, and_true] at b1
    subst b1
    refine ⟨_, rfl, _, lpins b4, cond_of (fun hb => ?_) (fun hb => ?_)⟩
    · have h0 : x.pins = 0 := by simpa using hb
      simp only [h0, if_pos] at hk
      exact hk w (Mod.refl _ _) (hX.gro (Mod.refl _ _))
    · have h0 : ¬ x.pins = 0 := by simpa using hb
      simp only [h0, if_neg, not_false_eq_true] at hk
      obtain ⟨w1, t1, t2, t3⟩ := pins_store (p := x.pins - 1) h hx hq' (by omega)
      refine ⟨_, rfl, _, lpins b4, _, rfl, w1, ?_, hk w1 t2 t3⟩
      rw [wrap64 (x := (x.pins : Int) - 1) (by omega) (by omega), show (x.pins : Int) - 1 = ((x.pins - 1 : Nat) : Int) by omega]
      exact t1
theorem cFlush_c (hC : Cx w0 R w c d C) (hk : ∀ w', Mod R w w' → Cx w0 (Gro R w w') w' c d { C with D := flSt C.D } → K (.int .i64 0) w') : Cal Tryz.prog F_cache_Cache_Flush #[.pointer (some ⟨c, 0, none⟩)] w K := by
  obtain ⟨rl, m, sb, mb, sc, lc, la, L, mp, h⟩ := hC
  apply C_cache_Cache_Flush
  unfold D_cache_Cache_Flush
  refine ff rfl ⟨_, rfl, _, h.ld, Flush_c h.disk h.wf.small fun w1 L1 m1 h1 => ⟨_, rfl, ?_⟩⟩
  have hsm : Small (flSt C.D) := by
    unfold flSt; split
    · exact h.wf.small
    · intro v hv; simp at hv; obtain ⟨u, _, rfl⟩ := hv; simp
  obtain ⟨rl', h'⟩ := h.dsk m1 (fun _ e => e) (h1.gro w) hsm (by unfold flSt; split <;> simp)
  exact hk w1 (m1.mono fun z _ e => h.reg z (by have e4 : rl z = 4 := e; omega)) ⟨rl', m, sb, mb, sc, lc, la, L1, mp, h'⟩
theorem build_cache (w : World) (p : Option Addr) (n : Int) (mm : Option Nat) : (Instr.build 229 #[(0, .pointer p), (1, .int .i64 n), (2, .map mm)]).run Tryz.prog w = .ok (.agg ⟨[.pointer p, .int .i64 n, .map mm, .slice none 0 0]⟩) w := by kernel_rfl
theorem cNew_c {D : St} {n : Int} (hd : DiskIn w R d sb mb sc L D) (hsm : Small D) (hlo : ∀ x, R x → w0.heap.size ≤ x ∧ x < w.heap.size) (hm : Mod No w0 w)
    (hk1 : n < 1 ∨ 4096 < n → K (.tuple #[.pointer none, .int .i64 1]) w)
    (hk2 : ∀ k : Nat, n = k → 1 ≤ k → k ≤ 4096 → ∀ w' c, Mod No w w' → Cx w0 (Gro R w w') w' c d ⟨D, k, []⟩ → K (.tuple #[.pointer (some ⟨c, 0, none⟩), .int .i64 0]) w') : Cal Tryz.prog F_cache_New #[.pointer (some ⟨d, 0, none⟩), .int .i64 n] w K := by
  classical
  apply C_cache_New
  unfold D_cache_New
  refine ff rfl (Share.or ⟨_, rfl, cond_of (fun hb => ?_) (fun hb => ?_)⟩)
  · exact hk1 (by simpa using hb)
  have hn : ¬ (n < 1 ∨ 4096 < n) := by simpa using hb
  obtain ⟨k, rfl⟩ := Int.eq_ofNat_of_zero_le (show 0 ≤ n by omega)
  refine ⟨_, _, makeMap_run, _, fun w => build_cache w _ _ _, _, _, box_run, ?_⟩
  have m1 : Mod No w (w.alloc (.map #[] 0)) := (Mod.refl No w).alloc _
  have m2 : Mod No (w.alloc (.map #[] 0)) ((w.alloc (.map #[] 0)).alloc (.cells ⟨[.pointer (some ⟨d, 0, none⟩), .int .i64 k, .map (some w.heap.size), .slice none 0 0]⟩ 229)) := (Mod.refl No _).alloc _
  have hs1 : (w.alloc (.map #[] 0)).heap.size = w.heap.size + 1 := by simp
  have hs2 : ((w.alloc (.map #[] 0)).alloc (.cells ⟨[.pointer (some ⟨d, 0, none⟩), .int .i64 k, .map (some w.heap.size), .slice none 0 0]⟩ 229)).heap.size = w.heap.size + 2 := by simp
  refine hk2 k rfl (by omega) (by omega) ((w.alloc (.map #[] 0)).alloc (.cells ⟨[.pointer (some ⟨d, 0, none⟩), .int .i64 k, .map (some w.heap.size), .slice none 0 0]⟩ 229)) _ (m1.no m2) ?_
  have hw0 := hm.size
  have hR : ∀ x, R x → x ≠ w.heap.size ∧ x ≠ w.heap.size + 1 := fun x hx => by have := hlo x hx; omega
  refine ⟨fun x => if x = w.heap.size + 1 then 1 else if x = w.heap.size then 2 else if R x then 4 else 0, w.heap.size, sb, mb, sc, 0, none, L, [], ?_⟩
  have e4 : (fun x => (if x = w.heap.size + 1 then 1 else if x = w.heap.size then 2 else if R x then 4 else 0) = 4) = R := by
    funext x
    apply propext
    constructor
    · intro e
      split at e
      · omega
      · split at e
        · omega
        · split at e
          · assumption
          · omega
    · intro hx
      rw [if_neg (hR x hx).2, if_neg (hR x hx).1, if_pos hx]
  exact {
    disk := by rw [e4]; exact (hd.nos m1).nos m2
    cell := by rw [hs1]; rw [← hs1]; exact AtU.new
    map := MapAt.new.keep m2 id
    row := Own.nil elemZ_ints
    rc := by rw [hs1]; simp
    rm := by simp
    rrow := fun q hq => by cases hq
    bufs := fun x hx => by cases hx
    keys := fun p hp => by cases hp
    wf := { small := hsm, most0 := by show 1 ≤ k; omega, most1 := by show k ≤ 4096; omega, len := Nat.zero_le _, nodup := by simp, lt := fun x hx => (by cases hx), data := fun x hx => (by cases hx), pins := fun x hx => (by cases hx) }
    reg := fun x hx => by
      by_cases hRx : R x
      · exact .inl hRx
      · right
        by_cases e1 : x = w.heap.size + 1
        · omega
        · by_cases e2 : x = w.heap.size
          · omega
          · simp [e1, e2, hRx] at hx
    lo := fun x hx => by
      rcases hx with hx | hx
      · have := hlo x hx; omega
      · omega
    mod := (hm.no m1).no m2 }
end
end Go.Proofs.YtocjjigmpgekfaaGreat
end
section
/- Layer 10: the fixed calls; a cache that is not there. -/
open Go Go.Den Go.Proofs
namespace Go.Proofs.YtocjjigmpgekfaaGreat
section
variable {w0 w w' : World} {R : Nat → Prop} {c d : Nat} {C : Ca} {K : Value → World → Prop}
def k0 : Ca := ⟨newSt 4, 2, []⟩
def k1 : Ca := (rdX k0 1).1
def k2 : Ca := (rdX k1 2).1
def k3 : Ca := (rdX k2 1).1
def k4 : Ca := (rdX k3 3).1
def k5 : Ca := (layX k4 1 (fillB [120])).1
def k6 : Ca := (wrX k5 1 []).1
end
end Go.Proofs.YtocjjigmpgekfaaGreat
end
