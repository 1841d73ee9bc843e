/- Slices that grow: append, and bytes as strings. -/
import Derived.Test.YtocjjigmpgekfaaPtrB
import Derived.Laws.AppendOwn
import Derived.Laws.OwnMore
import Derived.Laws.BytesString
import Derived.Laws.Strings
open Go Go.Den
namespace Go.Den
section
variable {P : Program} {w : World}

theorem Mod.grown {b : World} {row : Option Nat} (h : w.grownBy b row) : Mod (fun x => row = some x) w b :=
  ⟨h.tape, h.os, h.output, h.size, fun k hk hn => h.block k hk (fun e => hn e.symm)⟩

/-- A row of one's own: in a block from base on. -/
def Own (P : Program) (w : World) (base : Nat) (T : TypeId) (k : Nat) (a : Option Addr) (l c : Nat) (xs : List Value) : Prop :=
  ∃ e, P.underlying T = some (.slice e) ∧ w.ownsRow base e k (.slice a l c) l xs

theorem Own.len {base k l c : Nat} {T : TypeId} {a : Option Addr} {xs : List Value} (h : Own P w base T k a l c xs) : xs.length = l * k := by obtain ⟨e, _, h⟩ := h; exact h.1
theorem Own.nil {base k bytes : Nat} {T : TypeId} {z : Value} (hT : elemZ P T k z bytes) : Own P w base T k none 0 0 [] := by
  obtain ⟨e, i, zv, he, _⟩ := hT.is
  exact ⟨e, he, World.ownsRow_nil w base e k⟩
theorem Own.base {base k l c : Nat} {T : TypeId} {a : Option Addr} {xs : List Value} (h : Own P w base T k a l c xs) {q : Addr} (hq : a = some q) : base ≤ q.block ∧ q.block < w.heap.size := by
  obtain ⟨e, _, h⟩ := h
  exact h.lt q.block (by rw [hq]; rfl)
theorem Own.zero {base k l c : Nat} {T : TypeId} {xs : List Value} (h : Own P w base T k none l c xs) : l = 0 ∧ c = 0 := by
  obtain ⟨e, _, h⟩ := h
  rcases h.2 with ⟨h1, h2⟩ | ⟨g, cap, cur, h1, _⟩
  · simp at h1; exact ⟨h2, h1.2⟩
  · simp at h1
theorem Own.cap {base k l c : Nat} {T : TypeId} {a : Option Addr} {xs : List Value} (h : Own P w base T k a l c xs) : l ≤ c ∧ c ≤ maxLen := by
  obtain ⟨e, _, h⟩ := h
  rcases h.2 with ⟨h1, h2⟩ | ⟨g, cap, cur, h1, _, _, h3, h4, _⟩
  · simp at h1; omega
  · simp at h1; obtain ⟨_, rfl⟩ := h1; exact ⟨h3, h4⟩
theorem Own.keep {base k l c : Nat} {T : TypeId} {a : Option Addr} {xs : List Value} {S : Nat → Prop} {w' : World} (h : Own P w base T k a l c xs) (m : Mod S w w') (hs : ∀ q, a = some q → ¬ S q.block) : Own P w' base T k a l c xs := by
  obtain ⟨e, he, h1, h2⟩ := h
  refine ⟨e, he, h1, ?_⟩
  rcases h2 with hn | ⟨g, cap, cur, hv, hb, hg, rest⟩
  · exact .inl hn
  · refine .inr ⟨g, cap, cur, hv, hb, ?_, rest⟩
    simp at hv
    exact m.keep hg (hs _ hv.1)
theorem Own.mono {base base' k l c : Nat} {T : TypeId} {a : Option Addr} {xs : List Value} (h : Own P w base T k a l c xs) (hb : base' ≤ base) : Own P w base' T k a l c xs := by
  obtain ⟨e, he, h1, h2⟩ := h
  refine ⟨e, he, h1, ?_⟩
  rcases h2 with hn | ⟨g, cap, cur, hv, hb', rest⟩
  · exact .inl hn
  · exact .inr ⟨g, cap, cur, hv, by omega, rest⟩
/-- The cells up to the capacity. -/
theorem Own.rowU {base k l c : Nat} {T : TypeId} {a : Option Addr} {xs : List Value} (h : Own P w base T k a l c xs) : RowU w a xs := by
  obtain ⟨e, he, h1, h2⟩ := h
  rcases h2 with ⟨hn, hz⟩ | ⟨g, cap, cur, hv, hb, hg, hle, _, hsz, ht⟩
  · left; exact List.eq_nil_of_length_eq_zero (by rw [h1, hz]; omega)
  · right
    simp at hv
    have hm : l * k ≤ cap * k := Nat.mul_le_mul_right _ hle
    refine ⟨g, 0, hv.1, cur.toList, e, (0, 0), hg, ?_, ?_, fun j _ _ => by simp⟩
    · rw [h1]; simp [hsz]; exact hm
    · rw [h1]; simpa using ht
theorem RowU.row {a : Option Addr} {xs : List Value} (h : RowU w a xs) : Row w a xs := by
  rcases h with h | ⟨b, o, e, h⟩
  · exact .inl h
  · exact .inr ⟨b, o, e, h.at⟩
theorem Row.keep {a : Option Addr} {xs : List Value} {S : Nat → Prop} {w' : World} (h : Row w a xs) (m : Mod S w w') (hs : ∀ q, a = some q → ¬ S q.block) : Row w' a xs := by
  rcases h with h | ⟨b, o, e, h⟩
  · exact .inl h
  · exact .inr ⟨b, o, e, h.keep m (hs _ e)⟩
theorem RowU.keep {a : Option Addr} {xs : List Value} {S : Nat → Prop} {w' : World} (h : RowU w a xs) (m : Mod S w w') (hs : ∀ q, a = some q → ¬ S q.block) : RowU w' a xs := by
  rcases h with h | ⟨b, o, e, h⟩
  · exact .inl h
  · exact .inr ⟨b, o, e, h.keep m (hs _ e)⟩
theorem Row.nos {a : Option Addr} {xs : List Value} {w' : World} (h : Row w a xs) (m : Mod No w w') : Row w' a xs := h.keep m fun _ _ => id
theorem Own.nos {base k l c : Nat} {T : TypeId} {a : Option Addr} {xs : List Value} {w' : World} (h : Own P w base T k a l c xs) (m : Mod No w w') : Own P w' base T k a l c xs := h.keep m fun _ _ => id

theorem At.cell {b o j : Nat} {xs : List Value} {v : Value} (h : At w b o xs) (hj : xs[j]? = some v) : w.cell? (Addr.add ⟨b, o, none⟩ j) = some v := by
  obtain ⟨l, t, fz, h1, h2, h3⟩ := h
  have hjn : j < xs.length := (List.getElem?_eq_some_iff.1 hj).1
  rw [add_none, cell_of h1, take_drop_get h3 j hjn, ← hj]; simp [hjn]

/-- append, of a row to a row of one's own. -/
theorem Own.append {base k bytes l c m c2 : Nat} {T ty : TypeId} {z : Value} {a a2 : Option Addr} {xs ys : List Value} (hT : elemZ P T k z bytes) (hk : 0 < k) (h : Own P w base T k a l c xs)
    (hr : Row w a2 ys) (hl : ys.length = m * k) (h0 : a2 = none → m = 0 ∧ c2 = 0) (h1 : ∀ v ∈ ys, v.oneCell' = true) (h63 : (l + m) * bytes ≤ 140737488355328) (hb : 0 < bytes) (hbase : base ≤ w.heap.size) :
    ∃ a' c' w', (Builtin.append_ #[T, T] ty #[.slice a l c, .slice a2 m c2]).run P w = .ok (.slice a' (l + m) c') w' ∧ Own P w' base T k a' (l + m) c' (xs ++ ys) ∧ Mod (fun x => base ≤ x) w w' := by
  obtain ⟨e, i, zv, he, hi, hsz, hz, hzc, hby⟩ := hT.is
  obtain ⟨e', he', how⟩ := h
  have : e' = e := by rw [he] at he'; simpa using he'.symm
  subst this
  have h63' : l + m ≤ maxLen := by
    have : l + m ≤ (l + m) * bytes := Nat.le_mul_of_pos_right _ hb
    simp [maxLen]; omega
  cases a2 with
  | none =>
    obtain ⟨rfl, rfl⟩ := h0 rfl
    have hy : ys = [] := List.eq_nil_of_length_eq_zero (by omega)
    subst hy
    refine ⟨a, c, w, ?_, ⟨e', he, by simpa using how⟩, Mod.refl _ _⟩
    exact run_append_owned_none w base T ty e' i k he hi _ l xs how
  | some ad =>
    have hcell : ∀ j u, ys[j]? = some u → w.cell? (ad.add j) = some u := by
      intro j u hj
      rcases hr with hr | ⟨b, o, e, hat⟩
      · subst hr; simp at hj
      · simp at e; subst e; exact hat.cell hj
    obtain ⟨v', w', hrun, how', hgr, _⟩ := run_append_own w base T ty e' i zv k bytes he hi hz hsz hby (by rw [hzc]; simp) hk (.slice a l c) l xs how ad m c2 ys hl hcell h1 h63' h63 hbase
    have hv : ∃ a' c', v' = .slice a' (l + m) c' := by
      rcases how'.2 with ⟨hn, hz⟩ | ⟨g, cap, cur, hv, _⟩
      · exact ⟨none, 0, by rw [hn, hz]⟩
      · exact ⟨_, cap, hv⟩
    obtain ⟨a', c', rfl⟩ := hv
    refine ⟨a', c', w', hrun, ⟨e', he, how'⟩, (Mod.grown hgr).mono fun x hx e => ?_⟩
    exact (how.lt x e).1

/-- append, that turns no other block than the row's own. -/
theorem Own.append' {base k bytes l c m c2 : Nat} {T ty : TypeId} {z : Value} {a a2 : Option Addr} {xs ys : List Value} (hT : elemZ P T k z bytes) (hk : 0 < k) (h : Own P w base T k a l c xs)
    (hr : Row w a2 ys) (hl : ys.length = m * k) (h0 : a2 ≠ none) (h1 : ∀ v ∈ ys, v.oneCell' = true) (h63 : (l + m) * bytes ≤ 140737488355328) (hb : 0 < bytes) (hbase : base ≤ w.heap.size) :
    ∃ a' c' w', (Builtin.append_ #[T, T] ty #[.slice a l c, .slice a2 m c2]).run P w = .ok (.slice a' (l + m) c') w' ∧ Own P w' base T k a' (l + m) c' (xs ++ ys) ∧ Mod (fun x => ∃ q, a = some q ∧ x = q.block) w w' := by
  obtain ⟨e, i, zv, he, hi, hsz, hz, hzc, hby⟩ := hT.is
  obtain ⟨e', he', how⟩ := h
  have : e' = e := by rw [he] at he'; simpa using he'.symm
  subst this
  have h63' : l + m ≤ maxLen := by
    have : l + m ≤ (l + m) * bytes := Nat.le_mul_of_pos_right _ hb
    simp [maxLen]; omega
  cases a2 with
  | none => exact absurd rfl h0
  | some ad =>
    have hcell : ∀ j u, ys[j]? = some u → w.cell? (ad.add j) = some u := by
      intro j u hj
      rcases hr with hr | ⟨b, o, e, hat⟩
      · subst hr; simp at hj
      · simp at e; subst e; exact hat.cell hj
    obtain ⟨v', w', hrun, how', hgr, _⟩ := run_append_own w base T ty e' i zv k bytes he hi hz hsz hby (by rw [hzc]; simp) hk (.slice a l c) l xs how ad m c2 ys hl hcell h1 h63' h63 hbase
    have hv : ∃ a' c', v' = .slice a' (l + m) c' := by
      rcases how'.2 with ⟨hn, hz⟩ | ⟨g, cap, cur, hv, _⟩
      · exact ⟨none, 0, by rw [hn, hz]⟩
      · exact ⟨_, cap, hv⟩
    obtain ⟨a', c', rfl⟩ := hv
    refine ⟨a', c', w', hrun, ⟨e', he, how'⟩, (Mod.grown hgr).mono fun x hx e => ?_⟩
    cases a with
    | none => cases e
    | some q => exact ⟨q, rfl, by simpa [Value.ownBlock] using e.symm⟩

theorem make_own {base k bytes n : Nat} {T : TypeId} {z : Value} (hT : elemZ P T k z bytes) (hb : bytes * n ≤ 281474976710656) (h63 : n ≤ maxLen) (hbase : base ≤ w.heap.size) :
    ∃ w', (Instr.makeSlice T (.int .i64 0) (.int .i64 n)).run P w = .ok (.slice (some ⟨w.heap.size, 0, none⟩) 0 n) w' ∧ Own P w' base T k (some ⟨w.heap.size, 0, none⟩) 0 n [] ∧ Mod No w w' := by
  obtain ⟨e, i, zv, he, hi, hsz, hz, hzc, hby⟩ := hT.is
  obtain ⟨w', h1, h2, h3⟩ := run_make_own (P := P) (w := w) base T e i zv k he hi hz hsz .i64 .i64 n (by rw [hby]; exact hb) h63 hbase
  exact ⟨w', h1, ⟨e, he, h2⟩, (Mod.grown h3).mono fun x _ e => by cases e⟩

theorem foldl_push : ∀ (xs : List UInt8) (r : List UInt8), (xs.map fun x => (x.toNat : Int)).foldl (fun r n => r.push (UInt8.ofNat n.toNat)) (⟨r.toArray⟩ : ByteArray) = ⟨(r ++ xs).toArray⟩
  | [], r => by simp
  | x :: xs, r => by
    have := foldl_push xs (r ++ [x])
    simp only [List.map_cons, List.foldl_cons]
    have e : ByteArray.push (⟨r.toArray⟩ : ByteArray) (UInt8.ofNat ((x.toNat : Int)).toNat) = ⟨(r ++ [x]).toArray⟩ := by
      simp [ByteArray.push]
    rw [e, this]; simp

def bytesT (P : Program) (S T : TypeId) : Bool :=
  match P.underlying S with
  | some (.slice e) => match P.underlying e with
    | some (.int .u8) => match P.underlying T with | some .string => true | _ => false
    | _ => false
  | _ => false
/-- Bytes as a string. -/
theorem str_run {S T : TypeId} {a : Option Addr} {l c : Nat} {xs : List UInt8} (hT : bytesT P S T = true) (hr : Row w a (u8L xs)) (hl : xs.length = l) : (convert S T (.slice a l c)).run P w = .ok (.string ⟨xs.toArray⟩) w := by
  have hT' : ∃ e, P.underlying S = some (.slice e) ∧ P.underlying e = some (.int .u8) ∧ P.underlying T = some .string := by
    unfold bytesT at hT
    split at hT
    · rename_i e he
      split at hT
      · rename_i h1
        split at hT
        · rename_i h2; exact ⟨e, he, h1, h2⟩
        · cases hT
      · cases hT
    · cases hT
  obtain ⟨e, h1, h2, h3⟩ := hT'
  rw [run_convert_bytes_string w S T e a l c h1 h2 h3]
  have hmap : u8L xs = (xs.map fun x => (x.toNat : Int)).map (Value.int .u8) := by simp [u8L, u8]
  cases a with
  | none =>
    rcases hr with hr | ⟨b, o, e, _⟩
    · have : xs = [] := by simpa [u8L] using hr
      subst this; rfl
    · cases e
  | some ad =>
    have hload : (loadCells ad l).run P w = .ok ((xs.map fun x => (x.toNat : Int)).map (Value.int .u8)).toArray w := by
      rcases hr with hr | ⟨b, o, e, hat⟩
      · have : xs = [] := by simpa [u8L] using hr
        subst this; subst hl; rfl
      · simp at e; subst e
        have := hat.cells (P := P) (n := l) (by simp; omega)
        rw [this, ← hmap]
        congr 1
        have : (u8L xs).take l = u8L xs := List.take_of_length_le (by simp; omega)
        rw [this]
    rw [run_bytesToString w ad l c _ hload]
    have := foldl_push xs []
    simp only [List.nil_append] at this
    rw [← this]; rfl
theorem toList_mk (xs : List UInt8) : ByteArray.toList ⟨xs.toArray⟩ = xs := ByteArray.toList_mk xs
end
end Go.Den
