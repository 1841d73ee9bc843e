/- Layer 10, the document's cache: what it is in memory. -/
import Derived.Test.YtgcecmfjpljpcaaCacheL
import Derived.Test.YtgcecmfjpljpcaaRefG
import Derived.Test.YtgcecmfjpljpcaaTxtA
import Derived.Test.YtgcecmfjpljpcaaCacheP
open Go Go.Den Go.Proofs
namespace Go.Den
section
variable {P : Program} {w : World}
/-- What an element's type lays: its size, its bytes. -/
def elemG (P : Program) (T : TypeId) (k bytes : Nat) : Prop := ∃ e i zv, P.underlying T = some (.slice e) ∧ P.info? e = some i ∧ i.size = k ∧ i.zero = some zv ∧ zv.cells.size = k ∧ i.bytes = bytes
def elemGb (P : Program) (T : TypeId) : Option (Nat × Nat × Nat) :=
  match P.underlying T with
  | some (.slice e) => match P.info? e with
    | some i => match i.zero with
      | some z => some (i.size, z.cells.size, i.bytes)
      | none => none
    | none => none
  | _ => none
theorem elemG_of {T : TypeId} {k bytes : Nat} (h : elemGb P T = some (k, k, bytes)) : elemG P T k bytes := by
  unfold elemGb at h
  split at h
  · rename_i e he
    split at h
    · rename_i i hi
      split at h
      · rename_i zv hz
        have h := Option.some.inj h
        simp only [Prod.mk.injEq] at h
        exact ⟨e, i, zv, he, hi, h.1, hz, h.2.1, h.2.2⟩
      · cases h
    · cases h
  · cases h
theorem Own.nilG {base k bytes : Nat} {T : TypeId} (hT : elemG P T k bytes) : Own P w base T k none 0 0 [] := by
  obtain ⟨e, i, zv, he, _⟩ := hT
  exact ⟨e, he, World.ownsRow_nil w base e k⟩
/-- append of some new values: the row is where it was, or new. -/
theorem Own.appG {base k bytes l c m c2 : Nat} {T ty : TypeId} {a : Option Addr} {ad : Addr} {xs ys : List Value} (hT : elemG P T k bytes) (hk : 0 < k) (h : Own P w base T k a l c xs)
    (hr : Row w (some ad) ys) (hl : ys.length = m * k) (hm : 0 < m) (h1 : ∀ v ∈ ys, v.oneCell' = true) (h63 : (l + m) * bytes ≤ 140737488355328) (hb : 0 < bytes) (hbase : base ≤ w.heap.size) :
    ∃ q c' w', (Builtin.append_ #[T, T] ty #[.slice a l c, .slice (some ad) m c2]).run P w = .ok (.slice (some q) (l + m) c') w' ∧ Own P w' base T k (some q) (l + m) c' (xs ++ ys) ∧ Mod (fun x => ∃ q, a = some q ∧ x = q.block) w w' ∧
      ((∃ q', a = some q' ∧ q.block = q'.block) ∨ w.heap.size ≤ q.block) := by
  obtain ⟨e, i, zv, he, hi, hsz, hz, hzc, hby⟩ := hT
  obtain ⟨e', he', how⟩ := h
  have : e' = e := by rw [he] at he'; simpa using he'.symm
  subst this
  have hlm : l + m ≤ (l + m) * bytes := Nat.le_mul_of_pos_right _ hb
  have hmb : m * bytes ≤ (l + m) * bytes := Nat.mul_le_mul_right _ (by omega)
  have hcell : ∀ j u, ys[j]? = some u → w.cell? (ad.add j) = some u := by
    intro j u hj
    rcases hr with hr | ⟨b, o, e, hat⟩
    · subst hr; simp at hj
    · simp at e; subst e; exact hat.cell hj
  obtain ⟨v', w', hrun, how', hgr, _⟩ := run_append_own w base T ty e' i zv k bytes he hi hz hsz hby hzc hk (.slice a l c) l xs how ad m c2 ys hl hcell h1 (by simp [maxLen]; omega) h63 hbase
  have hmod : Mod (fun x => ∃ q, a = some q ∧ x = q.block) w w' := (Mod.grown hgr).mono fun x hx e => by
    cases a with
    | none => cases e
    | some q => exact ⟨q, rfl, by simpa [Value.ownBlock] using e.symm⟩
  rcases how.2 with ⟨hv, hx⟩ | ⟨g, cap, cur, hv, hbg, hg, hnc, hcm, hcs, htake⟩
  · simp at hv
    obtain ⟨rfl, rfl, rfl⟩ := hv
    have hr2 := run_append_nil (P := P) w T ty e' i zv he hi hz ad m c2 ys (by rw [hsz]; exact hl) hcell hm (by omega) (by rw [hby]; omega)
    have hrun' := hrun
    rw [hr2] at hrun'
    simp only [Result.ok.injEq] at hrun'
    obtain ⟨rfl, _⟩ := hrun'
    rw [Nat.zero_add] at how' ⊢
    exact ⟨_, _, w', hrun, ⟨e', he, how'⟩, hmod, .inr (Nat.le_refl _)⟩
  · simp at hv
    obtain ⟨rfl, rfl⟩ := hv
    by_cases hroom : l + m ≤ c
    · have hr2 := run_append_room (P := P) w T ty e' i he hi g l c cur hg ad m c2 ys (by rw [hsz]; exact hl) hcell h1 hroom (by rw [hsz, hl, hcs, ← Nat.add_mul]; exact Nat.mul_le_mul_right _ hroom)
      have hrun' := hrun
      rw [hr2] at hrun'
      simp only [Result.ok.injEq] at hrun'
      obtain ⟨rfl, _⟩ := hrun'
      exact ⟨_, _, w', hrun, ⟨e', he, how'⟩, hmod, .inl ⟨_, rfl, rfl⟩⟩
    · have holds : ∀ j u, xs[j]? = some u → w.cell? ((⟨g, 0, none⟩ : Addr).add j) = some u := how.cells (g := g) rfl
      have hr2 := run_append_grow (P := P) w T ty e' i zv he hi hz ⟨g, 0, none⟩ l c xs (by rw [hsz]; exact how.1) holds ad m c2 ys (by rw [hsz]; exact hl) hcell (by omega) (by omega) (growslice_fits (by omega) (by rw [hby]; exact h63))
      have hrun' := hrun
      rw [hr2] at hrun'
      simp only [Result.ok.injEq] at hrun'
      obtain ⟨rfl, _⟩ := hrun'
      exact ⟨_, _, w', hrun, ⟨e', he, how'⟩, hmod, .inr (Nat.le_refl _)⟩
/-- A store into a row of one's own. -/
theorem Own.setK {base k l c g i : Nat} {T T' : TypeId} {ys : List Value} {v : Value} (h : Own P w base T k (some ⟨g, 0, none⟩) l c ys) (hT : scal P T' = true) (hi : i < l * k) (hv : v.oneCell' = true) :
    ∃ w', (Instr.storeAt T' (.pointer (some ⟨g, i, none⟩)) v).run P w = .ok () w' ∧ Own P w' base T k (some ⟨g, 0, none⟩) l c (ys.set i v) ∧ Mod (fun x => x = g) w w' := by
  have hlen := h.len
  obtain ⟨e, he, h1, h2⟩ := h
  rcases h2 with ⟨hn, _⟩ | ⟨g', cap, cur, hw, hb, hg, hle, hm, hsz, ht⟩
  · cases hn
  · simp at hw
    obtain ⟨rfl, rfl⟩ := hw
    have hcur : w.heap[g]? = some (.cells ⟨cur.toList⟩ e (0, 0)) := hg
    have hmul : l * k ≤ c * k := Nat.mul_le_mul_right _ hle
    have hci : i < cur.toList.length := by simp [hsz]; omega
    refine ⟨_, store_cell hT hcur hci (by simp) hv, ⟨e, he, by simpa using h1, .inr ⟨g, c, ⟨cur.toList.set i v⟩, rfl, hb, heap_put_same (lt_of_heap hg), hle, hm, by simp [hsz], ?_⟩⟩, (Mod.refl (fun x => x = g) w).put (.inr rfl) _⟩
    show (cur.toList.set i v).take (l * k) = ys.set i v
    rw [List.take_set, ht]
end
end Go.Den
namespace Go.Proofs.Ytgcecmfjpljpcaa
def bufV (x : Bf) : List Value := [.int .i64 x.b, .string ⟨x.data.toArray⟩, .int .i64 x.pins]
def bufL (l : List Bf) : List Value := l.flatMap bufV
def bufZ : List Value := [.int .i64 0, .string ByteArray.empty, .int .i64 0]
theorem bufL_len : ∀ l : List Bf, (bufL l).length = l.length * 3
  | [] => rfl
  | x :: r => by
    have ih : (r.flatMap bufV).length = r.length * 3 := bufL_len r
    unfold bufL
    rw [List.flatMap_cons, List.length_append, ih, List.length_cons]; simp [bufV]; omega
theorem bufL_append (l r : List Bf) : bufL (l ++ r) = bufL l ++ bufL r := by simp [bufL]
theorem bufL_one (x : Bf) : bufL [x] = bufV x := by simp [bufL]
theorem bufL_get : ∀ (l : List Bf) (i : Nat) (x : Bf), l[i]? = some x → ((bufL l).drop (i * 3)).take 3 = bufV x
  | [], i, x, h => by simp at h
  | u :: r, i, x, h => by
    unfold bufL
    rw [List.flatMap_cons]
    cases i with
    | zero =>
      simp at h; subst h
      rw [Nat.zero_mul, List.drop_zero, List.take_append_of_le_length (by simp [bufV]), List.take_of_length_le (by simp [bufV])]
    | succ i =>
      rw [List.drop_append, List.drop_eq_nil_of_le (by simp [bufV]; omega), List.nil_append]
      have e : (i + 1) * 3 - (bufV u).length = i * 3 := by simp [bufV]; omega
      rw [e]
      exact bufL_get r i x (by simpa using h)
theorem bufL_cell {l : List Bf} {i j : Nat} {x : Bf} {v : Value} (h : l[i]? = some x) (hj : (bufV x)[j]? = some v) : (bufL l)[i * 3 + j]? = some v := by
  have h1 := bufL_get l i x h
  have hj3 : j < 3 := by have := (List.getElem?_eq_some_iff.1 hj).1; simpa [bufV] using this
  rw [← h1, List.getElem?_take, if_pos hj3, List.getElem?_drop] at hj
  exact hj
theorem bufL_set : ∀ (l : List Bf) (i j : Nat) (x y : Bf) (v : Value), l[i]? = some x → j < 3 → (bufV x).set j v = bufV y → (bufL l).set (i * 3 + j) v = bufL (l.set i y)
  | [], i, j, x, y, v, h, _, _ => by simp at h
  | u :: r, i, j, x, y, v, h, hj, he => by
    unfold bufL
    rw [List.flatMap_cons]
    cases i with
    | zero =>
      simp at h; subst h
      rw [List.set_cons_zero, List.flatMap_cons, Nat.zero_mul, Nat.zero_add, List.set_append_left _ _ (by simp [bufV]; omega), he]
    | succ i =>
      have hl : (bufV u).length = 3 := rfl
      rw [List.set_cons_succ, List.flatMap_cons, List.set_append_right _ _ (by omega), hl, show (i + 1) * 3 + j - 3 = i * 3 + j by omega]
      exact congrArg _ (bufL_set r i j x y v (by simpa using h) hj he)
theorem one_bufV (x : Bf) : ∀ v ∈ bufV x, v.oneCell' = true := by
  intro v hv
  simp [bufV] at hv
  rcases hv with rfl | rfl | rfl <;> rfl
structure KIn (w0 : World) (R : Nat → Prop) (rl : Nat → Nat) (w : World) (rc r vb vc lc : Nat) (la : Option Addr) (hs : List (Nat × Nat)) (C : Ca) : Prop where
  disk : RefIn w (fun x => rl x = 4) r vb vc hs C.D
  cell : AtU w rc 0 [.pointer (some ⟨r, 0, none⟩), .slice la C.l.length lc, .int .i64 C.most]
  row : Own Try.prog w w0.heap.size 110 3 la C.l.length lc (bufL C.l)
  rc1 : rl rc = 1
  rrow : ∀ q, la = some q → rl q.block = 3
  wf : WFC C
  reg : ∀ x, rl x ≠ 0 → R x
  lo : ∀ x, R x → w0.heap.size ≤ x ∧ x < w.heap.size
  mod : Mod No w0 w
section
variable {w0 w w' : World} {R : Nat → Prop} {rl : Nat → Nat} {rc r vb vc lc : Nat} {la : Option Addr} {hs : List (Nat × Nat)} {C : Ca} {K : Value → World → Prop}
theorem KIn.keepS {S : Nat → Prop} (h : KIn w0 R rl w rc r vb vc lc la hs C) (k : Mod S w w') (hsr : ∀ x, R x → ¬ S x) (hw : ∀ x, x < w0.heap.size → ¬ S x) : KIn w0 R rl w' rc r vb vc lc la hs C := by
  have hr : ∀ {x}, rl x ≠ 0 → ¬ S x := fun hx => hsr _ (h.reg _ hx)
  exact {
    disk := h.disk.keep k fun x hx => hr (by omega)
    cell := h.cell.keep k (hr (by rw [h.rc1]; omega))
    row := h.row.keep k fun q hq => hr (by rw [h.rrow q hq]; omega)
    rc1 := h.rc1
    rrow := h.rrow
    wf := h.wf
    reg := h.reg
    lo := fun x hx => by have := h.lo x hx; have := k.size; omega
    mod := h.mod.trans k fun x hx e => absurd e (hw x hx) }
theorem KIn.nos (h : KIn w0 R rl w rc r vb vc lc la hs C) (k : Mod No w w') : KIn w0 R rl w' rc r vb vc lc la hs C := h.keepS k (fun _ _ => id) fun _ _ => id
theorem KIn.drew (h : KIn w0 R rl w rc r vb vc lc la hs C) : KIn w0 R rl (Go.Den.drew w) rc r vb vc lc la hs C := h.nos (Mod.refl No w).drew
theorem KIn.widen {R' : Nat → Prop} (h : KIn w0 R rl w rc r vb vc lc la hs C) (h1 : ∀ x, R x → R' x) (h2 : ∀ x, R' x → w0.heap.size ≤ x ∧ x < w.heap.size) : KIn w0 R' rl w rc r vb vc lc la hs C :=
  { h with reg := fun x hx => h1 x (h.reg x hx), lo := h2 }
theorem KIn.gro (h : KIn w0 R rl w rc r vb vc lc la hs C) (k : Mod No w w') : KIn w0 (Gro R w w') rl w' rc r vb vc lc la hs C :=
  (h.nos k).widen (fun x hx => .inl hx) fun x hx => by
    have := k.size
    have := h.mod.size
    rcases hx with hx | hx
    · have := h.lo x hx; omega
    · omega
theorem KIn.out_of {x : Nat} (h : KIn w0 R rl w rc r vb vc lc la hs C) (hx : w.heap.size ≤ x) : rl x = 0 := by
  by_cases e : rl x = 0
  · exact e
  · have := h.lo x (h.reg x e); omega
/-- A step in memory: the parts anew. -/
theorem KIn.step {S : Nat → Prop} {rl' : Nat → Nat} {lc' : Nat} {la' : Option Addr} {l' : List Bf} (h : KIn w0 R rl w rc r vb vc lc la hs C) (k : Mod S w w') (hx : Ext w w' rl rl')
    (hS : ∀ x, x < w.heap.size → S x → rl x ≠ 0 ∧ rl x ≠ 4)
    (hcell : AtU w' rc 0 [.pointer (some ⟨r, 0, none⟩), .slice la' l'.length lc', .int .i64 C.most])
    (hrow : Own Try.prog w' w0.heap.size 110 3 la' l'.length lc' (bufL l')) (hla : ∀ q, la' = some q → rl' q.block = 3) (hwf : WFC { C with l := l' }) :
    KIn w0 (Gro R w w') rl' w' rc r vb vc lc' la' hs { C with l := l' } where
  disk := by
    have h4 := h.disk.keep k fun x hx e => by
      have := hS x (h.disk.lt x hx) e
      omega
    have e : (fun x => rl' x = 4) = fun x => rl x = 4 := by
      funext x
      exact propext ⟨hx.dsk x, fun e => by rw [hx.old x (by omega)]; exact e⟩
    rw [e]; exact h4
  cell := hcell
  row := hrow
  rc1 := by rw [hx.old rc (by rw [h.rc1]; omega)]; exact h.rc1
  rrow := hla
  wf := hwf
  reg := fun x hn => by
    by_cases e : rl x = 0
    · exact .inr (hx.new x e hn)
    · exact .inl (h.reg x e)
  lo := fun x hx => by
    have := k.size
    have := h.mod.size
    rcases hx with hx | hx
    · have := h.lo x hx; omega
    · omega
  mod := h.mod.trans k fun x hx e => by
    have := h.mod.size
    have := hS x (by omega) e
    have := h.lo x (h.reg x (by omega))
    omega
theorem KIn.dsk {S : Nat → Prop} {hs' : List (Nat × Nat)} {D' : St} (h : KIn w0 R rl w rc r vb vc lc la hs C) (k : Mod S w w') (hS : ∀ x, S x → rl x = 4)
    (hd : RefIn w' (Gro (fun x => rl x = 4) w w') r vb vc hs' D') (hsm : Small D') (hn : D'.vs.length = C.D.vs.length) :
    ∃ rl', KIn w0 (Gro R w w') rl' w' rc r vb vc lc la hs' { C with D := D' } := by
  have hold : ∀ x, rl x ≠ 0 → x < w.heap.size := fun x hx => (h.lo x (h.reg x hx)).2
  have hsame : ∀ x, rl x ≠ 0 → (if w.heap.size ≤ x ∧ x < w'.heap.size then 4 else rl x) = rl x := by
    intro x hx
    rw [if_neg (by have := hold x hx; omega)]
  have hz := k.size
  have hw0 := h.mod.size
  refine ⟨fun x => if w.heap.size ≤ x ∧ x < w'.heap.size then 4 else rl x, ?_⟩
  exact { disk := by
            have e : (fun x => (if w.heap.size ≤ x ∧ x < w'.heap.size then 4 else rl x) = 4) = Gro (fun x => rl x = 4) w w' := by
              funext x
              unfold Gro
              apply propext
              constructor
              · intro e
                split at e
                · rename_i hn; exact .inr hn
                · exact .inl e
              · rintro (e | e)
                · rw [hsame x (by omega)]; exact e
                · rw [if_pos e]
            rw [e]; exact hd
          cell := h.cell.keep k fun e => by have := hS rc e; have := h.rc1; omega
          row := h.row.keep k fun q hq e => by have := hS _ e; have := h.rrow q hq; omega
          rc1 := by show (if _ then 4 else rl rc) = 1; rw [hsame rc (by rw [h.rc1]; omega)]; exact h.rc1
          rrow := fun q hq => by
            show (if _ then 4 else rl q.block) = 3
            rw [hsame q.block (by rw [h.rrow q hq]; omega)]; exact h.rrow q hq
          wf := { small := hsm, most0 := h.wf.most0, most1 := h.wf.most1, len := h.wf.len, nodup := h.wf.nodup, lt := fun x hx => by rw [hn]; exact h.wf.lt x hx, data := h.wf.data, pins := h.wf.pins }
          reg := fun x hx => by
            by_cases hn : w.heap.size ≤ x ∧ x < w'.heap.size
            · exact .inr hn
            · simp only [if_neg hn] at hx
              exact .inl (h.reg x hx)
          lo := fun x hx => by
            rcases hx with hx | hx
            · have := h.lo x hx; omega
            · omega
          mod := h.mod.trans k fun x hx e => by
            have := hS x e
            have := h.lo x (h.reg x (by omega))
            omega }
theorem KIn.ld (h : KIn w0 R rl w rc r vb vc lc la hs C) : Ru (Instr.loadAt 49 (.pointer (some (Addr.add ⟨rc, 0, none⟩ 0)))) w (.pointer (some ⟨r, 0, none⟩)) w := by
  rw [add_none]; exact h.cell.at.load (by kernel_rfl) rfl
theorem rlrow {l0 : Nat} {v0 v2 : Value} (h : AtU w rc 0 [v0, .slice la l0 lc, v2]) : Ru (Instr.loadAt 110 (.pointer (some (Addr.add ⟨rc, 0, none⟩ 1)))) w (.slice la l0 lc) w := by
  rw [add_none]; exact h.at.load (by kernel_rfl) rfl
theorem KIn.lmost (h : KIn w0 R rl w rc r vb vc lc la hs C) : Ru (Instr.loadAt 3 (.pointer (some (Addr.add ⟨rc, 0, none⟩ 2)))) w (.int .i64 C.most) w := by
  rw [add_none]; exact h.cell.at.load (by kernel_rfl) rfl
theorem idx_buf {g n c i : Nat} (hi : i < n) : Al (Instr.indexAt 110 (.slice (some ⟨g, 0, none⟩) n c) (.int .i64 i)) (.pointer (some ⟨g, i * 3, none⟩)) := by
  intro w'
  have := index_slice (P := Try.prog) (T := 110) (k := 3) (a := ⟨g, 0, none⟩) (n := n) (c := c) (kk := .i64) (i := i) (by kernel_rfl) (by omega) (by omega) w'
  rw [Int.toNat_natCast, add_none, Nat.zero_add] at this
  exact this
theorem agg_buf : aggN Try.prog 116 = some 3 := by kernel_rfl
theorem elemG_bufs : elemG Try.prog 110 3 32 := elemG_of (by kernel_rfl)
theorem alloc_buf (w : World) : (Instr.alloc 116 true (.tuple #[])).run Try.prog w = .ok (.pointer (some ⟨w.heap.size, 0, none⟩)) (w.alloc (.cells ⟨bufZ⟩ 116)) := by kernel_rfl
theorem KIn.row1 (h : KIn w0 R rl w rc r vb vc lc la hs C) (hl : 0 < C.l.length) : ∃ g, la = some ⟨g, 0, none⟩ ∧ AtU w g 0 (bufL C.l) := by
  obtain ⟨g, h1, _, h2⟩ := h.row.sm hl
  exact ⟨g, h1, h2⟩
theorem lcellB {g i j : Nat} {x : Bf} {l : List Bf} {v : Value} {T : TypeId} (h : At w g 0 (bufL l)) (hx : l[i]? = some x) (hT : scal Try.prog T = true) (hj : (bufV x)[j]? = some v) : Ru (Instr.loadAt T (.pointer (some (Addr.add ⟨g, i * 3, none⟩ j)))) w v w := by
  rw [add_none]
  have := h.load (P := Try.prog) hT (bufL_cell hx hj)
  rwa [Nat.zero_add] at this
theorem lbuf {g i : Nat} {x : Bf} {l : List Bf} (h : At w g 0 (bufL l)) (hx : l[i]? = some x) : Ru (Instr.loadAt 116 (.pointer (some ⟨g, i * 3, none⟩))) w (.agg ⟨bufV x⟩) w := by
  have hi := (List.getElem?_eq_some_iff.1 hx).1
  have := h.loadAgg (P := Try.prog) (i := i * 3) agg_buf (by rw [bufL_len]; omega)
  rw [bufL_get l i x hx, Nat.zero_add] at this
  exact this
theorem built_buf (w : World) (x : Bf) : (Instr.buildSlice 110 1 #[(0, .agg ⟨bufV x⟩)]).run Try.prog w = .ok (.slice (some ⟨w.heap.size, 0, none⟩) 1 1) (w.alloc (.cells ⟨bufV x⟩ 116)) := by kernel_rfl
end
end Go.Proofs.Ytgcecmfjpljpcaa

/- Layer 10, the document's cache: its inner functions. -/
open Go Go.Den Go.Proofs
namespace Go.Proofs.Ytgcecmfjpljpcaa
section
variable {w0 w w' : World} {R : Nat → Prop} {rl : Nat → Nat} {rc r vb vc lc : Nat} {la : Option Addr} {hs : List (Nat × Nat)} {C : Ca} {K : Value → World → Prop}
theorem rfind_c (h : KIn w0 R rl w rc r vb vc lc la hs C) {n : Int} (hk : K (.int .i64 (idxF (fun k => k == n) (nums C.l) 0)) w) : Cal Try.prog F_leveeref10_Cache_find #[.pointer (some ⟨rc, 0, none⟩), .int .i64 n] w K := by
  apply C_leveeref10_Cache_find
  unfold D_leveeref10_Cache_find
  have hl1 := h.wf.len
  have hl2 := h.wf.most1
  refine ⟨fun x w1 => w1 = w ∧ ∃ i : Nat, i ≤ C.l.length ∧ x = [.int .i64 i] ∧ idxF (fun k => k == n) (nums C.l) 0 = idxF (fun k => k == n) ((nums C.l).drop i) i, fun x _ => (C.l.length - nI x 0).toNat, ⟨rfl, 0, by omega, rfl, rfl⟩, ?_⟩
  rintro x w1 ⟨rfl, i, hi, rfl, hidx⟩
  refine ⟨_, rfl, _, rfl, _, _, _, rlrow h.cell, cond_of (fun hb => ?_) (fun hb => ?_)⟩
  · have hi : i < C.l.length := by have := of_decide_eq_true hb; omega
    obtain ⟨g, rfl, hat⟩ := h.row1 (by omega)
    have hin : i < (nums C.l).length := by rw [nums_len]; exact hi
    have hx : C.l[i]? = some C.l[i] := List.getElem?_eq_getElem hi
    have hnx : (nums C.l)[i] = (C.l[i].b : Int) := by simp [nums]
    refine ⟨_, rfl, _, _, _, rlrow h.cell, _, idx_buf hi, _, lcellB hat.at hx (by kernel_rfl) (j := 0) rfl, cond_of (fun hp => ?_) (fun hp => ?_)⟩
    · have e : idxF (fun k => k == n) (nums C.l) 0 = i := by rw [hidx, drop_get hin]; simp only [idxF]; rw [hnx, if_pos hp]
      rw [← e]; exact hk
    · rw [wrap64 (x := (i : Int) + 1) (by omega) (by omega)]
      refine ⟨⟨rfl, i + 1, by omega, rfl, ?_⟩, by simp [nI, nth]; omega⟩
      rw [hidx, drop_get hin]; simp only [idxF]; rw [hnx, if_neg (by rw [hp]; simp)]
  · have hil : i = C.l.length := by have := of_decide_eq_false hb; omega
    have e : idxF (fun k => k == n) (nums C.l) 0 = -1 := by rw [hidx, List.drop_eq_nil_of_le (by rw [nums_len]; omega)]; rfl
    rw [← e]; exact hk
theorem find_held (h : WFC C) (n : Int) : (idxF (fun k => k == n) (nums C.l) 0 = -1 ∧ heldC C n = none) ∨ ∃ (j : Nat) (x : Bf), idxF (fun k => k == n) (nums C.l) 0 = (j : Int) ∧ C.l[j]? = some x ∧ heldC C n = some x := by
  rcases idxF_cases (fun k => k == n) (nums C.l) 0 with ⟨e, hno⟩ | ⟨j, k, e, hj, hp, _⟩
  · refine .inl ⟨e, ?_⟩
    cases hh : heldC C n with
    | none => rfl
    | some x =>
      obtain ⟨hx, e2⟩ := heldC_some hh
      have := hno (x.b : Int) (List.mem_map.2 ⟨x, hx, rfl⟩)
      simp [e2] at this
  · obtain ⟨x, hx, rfl⟩ := nums_get hj
    have hn : n = (x.b : Int) := by
      have : (x.b : Int) = n := by simpa using hp
      exact this.symm
    refine .inr ⟨j, x, by rw [e, Nat.zero_add], hx, ?_⟩
    rw [hn, heldC_nat]
    exact findB_mem h.nodup (List.mem_of_getElem? hx)
def takeV (l : List Bf) (b : Nat) : List Value := match findB l b with | some x => bufV x | none => bufZ
theorem takeV_len (l : List Bf) (b : Nat) : (takeV l b).length = 3 := by unfold takeV; split <;> rfl
theorem one_takeV (l : List Bf) (b : Nat) : ∀ v ∈ takeV l b, v.oneCell' = true := by
  unfold takeV; split
  · exact one_bufV _
  · intro v hv
    simp [bufZ] at hv
    rcases hv with rfl | rfl | rfl <;> rfl
theorem take_eq {l : List Bf} {i b : Nat} {x : Bf} (hn : (l.map (·.b)).Nodup) (hx : l[i]? = some x) (e : x.b = b) : others (l.take (i + 1)) b = others (l.take i) b ∧ findB (l.take (i + 1)) b = some x := by
  obtain ⟨hi, he⟩ := List.getElem?_eq_some_iff.1 hx
  have ht : l.take (i + 1) = l.take i ++ [x] := by rw [List.take_succ_eq_append_getElem hi, he]
  constructor
  · rw [ht]; unfold others; rw [List.filter_append]; simp [e]
  · refine e ▸ findB_mem ?_ (by rw [ht]; simp)
    exact ((List.take_sublist _ _).map _).nodup hn
theorem take_ne {l : List Bf} {i b : Nat} {x : Bf} (hx : l[i]? = some x) (e : x.b ≠ b) : others (l.take (i + 1)) b = others (l.take i) b ++ [x] ∧ findB (l.take (i + 1)) b = findB (l.take i) b := by
  obtain ⟨hi, he⟩ := List.getElem?_eq_some_iff.1 hx
  have ht : l.take (i + 1) = l.take i ++ [x] := by rw [List.take_succ_eq_append_getElem hi, he]
  constructor
  · rw [ht]; unfold others; rw [List.filter_append]; simp [e]
  · rw [ht]; unfold findB; rw [List.find?_append]; simp [e]
theorem rtake_c (h : KIn w0 R rl w rc r vb vc lc la hs C) {b : Nat}
    (hk : ∀ w' rl' lc' la', KIn w0 (Gro R w w') rl' w' rc r vb vc lc' la' hs { C with l := others C.l b } → Mod R w w' → K (.tuple #[.agg ⟨takeV C.l b⟩, .bool (findB C.l b).isSome]) w') : Cal Try.prog F_leveeref10_Cache_take #[.pointer (some ⟨rc, 0, none⟩), .int .i64 b] w K := by
  apply C_leveeref10_Cache_take
  unfold D_leveeref10_Cache_take
  have m1 : Mod No w (w.alloc (.cells ⟨bufZ⟩ 116)) := (Mod.refl No w).alloc _
  have hq4 : AtU (w.alloc (.cells ⟨bufZ⟩ 116)) w.heap.size 0 bufZ := AtU.new
  refine ⟨_, _, alloc_buf w, _, _, alloc_buf _, ?_⟩
  have hs1 : (w.alloc (.cells ⟨bufZ⟩ 116)).heap.size = w.heap.size + 1 := by simp
  generalize w.alloc (.cells ⟨bufZ⟩ 116) = w1 at *
  have m2 : Mod No w1 (w1.alloc (.cells ⟨bufZ⟩ 116)) := (Mod.refl No w1).alloc _
  have hq7 : AtU (w1.alloc (.cells ⟨bufZ⟩ 116)) w1.heap.size 0 bufZ := AtU.new
  have hs2 : (w1.alloc (.cells ⟨bufZ⟩ 116)).heap.size = w1.heap.size + 1 := by simp
  generalize w1.alloc (.cells ⟨bufZ⟩ 116) = w2 at *
  have hl1 := h.wf.len
  have hl2 := h.wf.most1
  have hw0 := h.mod.size
  refine ⟨fun x w3 => ∃ (i : Nat) (a : Option Addr) (c : Nat), x = [.slice a (others (C.l.take i) b).length c, .bool (findB (C.l.take i) b).isSome, .int .i64 i] ∧ i ≤ C.l.length ∧ Own Try.prog w3 w2.heap.size 110 3 a (others (C.l.take i) b).length c (bufL (others (C.l.take i) b)) ∧
      AtU w3 w1.heap.size 0 (takeV (C.l.take i) b) ∧ AtU w3 w.heap.size 0 bufZ ∧ Mod No w w3 ∧ w2.heap.size ≤ w3.heap.size, fun x _ => (C.l.length - nI x 2).toNat,
    ⟨0, none, 0, rfl, by omega, Own.nilG elemG_bufs, hq7, hq4.keep m2 id, m1.no m2, Nat.le_refl _⟩, ?_⟩
  rintro x w3 ⟨i, a, c, rfl, hi, o3, q7, q4, M3, hz3⟩
  have h3 := h.nos M3
  refine ⟨_, rfl, _, rfl, _, _, _, rlrow h3.cell, cond_of (fun hb => ?_) (fun hb => ?_)⟩
  · have hi : i < C.l.length := by have := of_decide_eq_true hb; omega
    obtain ⟨g, rfl, hat⟩ := h3.row1 (by omega)
    have hx : C.l[i]? = some C.l[i] := List.getElem?_eq_getElem hi
    have hol := others_len (C.l.take i) b
    have htl : (C.l.take i).length ≤ C.l.length := by simp; omega
    refine ⟨_, rfl, _, _, _, rlrow h3.cell, _, idx_buf hi, _, lcellB hat.at hx (by kernel_rfl) (j := 0) rfl, ?_⟩
    refine Share.cut (fun z w7 => ∃ (a : Option Addr) (c : Nat), z = [.slice a (others (C.l.take (i + 1)) b).length c, .bool (findB (C.l.take (i + 1)) b).isSome] ∧ Own Try.prog w7 w2.heap.size 110 3 a (others (C.l.take (i + 1)) b).length c (bufL (others (C.l.take (i + 1)) b)) ∧
      AtU w7 w1.heap.size 0 (takeV (C.l.take (i + 1)) b) ∧ AtU w7 w.heap.size 0 bufZ ∧ Mod No w w7 ∧ w2.heap.size ≤ w7.heap.size) (cond_of (fun hp => ?_) (fun hp => ?_)) ?_
    · have hb' : C.l[i].b = b := by have : (C.l[i].b : Int) = b := by simpa using hp
                                    omega
      obtain ⟨e1, e2⟩ := take_eq h.wf.nodup hx hb'
      obtain ⟨w4, t1, t2, t3, t4⟩ := q7.storeAgg (P := Try.prog) (T := 116) (i := 0) (n := 3) (vs := bufV C.l[i]) agg_buf rfl (by rw [takeV_len]; decide) (one_bufV _)
      have es : splice (takeV (C.l.take i) b) 0 (bufV C.l[i]) = bufV C.l[i] := splice_all (by rw [takeV_len]; rfl)
      rw [es] at t2
      rw [e1, e2]
      refine ⟨_, rfl, _, _, _, rlrow h3.cell, _, idx_buf hi, _, lbuf hat.at hx, w4, t1, a, c, rfl, o3.keep t3 fun q hq e => ?_, ?_, q4.keep t3 (by omega), M3.trans t3 fun x hx e => by omega, by have := t3.size; omega⟩
      · have := (o3.base hq).1; omega
      · unfold takeV; rw [e2]; exact t2
    · have hb' : C.l[i].b ≠ b := fun e => by
        have : ((C.l[i].b : Int) == (b : Int)) = true := by rw [e]; simp
        rw [this] at hp; cases hp
      obtain ⟨e1, e2⟩ := take_ne hx hb'
      have m5 : Mod No w3 (w3.alloc (.cells ⟨bufV C.l[i]⟩ 116)) := (Mod.refl No w3).alloc _
      obtain ⟨q', c', w6, s1, s2, s3, s4⟩ := (o3.nos m5).appG (ty := 110) (m := 1) (c2 := 1) (ad := ⟨w3.heap.size, 0, none⟩) (ys := bufV C.l[i]) elemG_bufs (by omega) (.inr ⟨_, _, rfl, AtU.new.at⟩) rfl (by omega) (one_bufV _) (by omega) (by omega) (by have := m5.size; omega)
      have hof : ∀ x, (∃ q, a = some q ∧ x = q.block) → w2.heap.size ≤ x := fun x hx => by
        obtain ⟨q, hq, rfl⟩ := hx
        exact (o3.base hq).1
      rw [e1, e2]
      have hlen : (others (C.l.take i) b ++ [C.l[i]]).length = (others (C.l.take i) b).length + 1 := by simp
      refine ⟨_, _, _, rfl, _, rfl, _, _, _, rlrow h3.cell, _, idx_buf hi, _, lbuf hat.at hx, _, _, _, _, built_buf _ _, _, _, _, w6, s1, some q', c', by rw [hlen]; rfl, ?_, ?_, (q4.keep m5 id).keep s3 fun e => by have := hof _ e; omega, (M3.no m5).trans s3 fun x hx e => by have := hof x e; omega, by have := s3.size; have := m5.size; omega⟩
      · rw [hlen, bufL_append, bufL_one]; exact s2
      · unfold takeV; rw [e2]
        exact (q7.keep m5 id).keep s3 fun e => by have := hof _ e; omega
    · rintro z w7 ⟨a', c', rfl, o7, q77, q47, M7, hz7⟩
      rw [wrap64 (x := (i : Int) + 1) (by omega) (by omega)]
      exact ⟨⟨i + 1, a', c', rfl, by omega, o7, q77, q47, M7, hz7⟩, by simp [nI, nth]; omega⟩
  · have hil : i = C.l.length := by have := of_decide_eq_false hb; omega
    have et : C.l.take i = C.l := List.take_of_length_le (by omega)
    rw [et] at o3 q7 ⊢
    obtain ⟨w8, t1, t2, t3, t4⟩ := h3.cell.store (P := Try.prog) (T := 110) (i := 1) (v := .slice a (others C.l b).length c) (by kernel_rfl) (by simp) rfl
    have hrcl := h.cell.lt
    have q78 := q7.keep t3 (by omega)
    have q48 := q4.keep t3 (by omega)
    obtain ⟨w9, u1, u2, u3, u4⟩ := q48.storeAgg (P := Try.prog) (T := 116) (i := 0) (n := 3) (vs := takeV C.l b) agg_buf (takeV_len _ _) (by simp [bufZ]) (one_takeV _ _)
    have es : splice bufZ 0 (takeV C.l b) = takeV C.l b := splice_all (by rw [takeV_len]; rfl)
    rw [es] at u2
    have ld7 := q78.at.loadAgg (P := Try.prog) (T := 116) (i := 0) (n := 3) agg_buf (by rw [takeV_len]; decide)
    have ld4 := u2.at.loadAgg (P := Try.prog) (T := 116) (i := 0) (n := 3) agg_buf (by rw [takeV_len]; decide)
    have etk : ((takeV C.l b).drop 0).take 3 = takeV C.l b := by rw [List.drop_zero]; exact List.take_of_length_le (by rw [takeV_len]; decide)
    rw [etk] at ld7 ld4
    refine ⟨_, _, _, rfl, _, rfl, w8, by rw [add_none]; exact t1, _, ld7, _, rfl, w9, u1, _, ld4, ?_⟩
    have hnew : ∀ q, a = some q → w.heap.size ≤ q.block ∧ q.block ≠ w.heap.size := fun q hq => by have := (o3.base hq).1; omega
    have hS : Mod (fun x => x = rc) w w9 := ((M3.anys (R := fun x => x = rc)).trans t3 fun _ _ e => e).trans u3 fun x hx e => by omega
    have hz8 := t3.size
    have hz9 := u3.size
    have oo : Own Try.prog w9 w0.heap.size 110 3 a (others C.l b).length c (bufL (others C.l b)) := by
      refine ((o3.keep t3 fun q hq e => ?_).keep u3 fun q hq e => ?_).mono (by omega)
      · have := (o3.base hq).1; omega
      · have := (hnew q hq).2; exact this e
    have hcell9 := t2.keep u3 (by omega)
    cases a with
    | none =>
      refine hk w9 rl c none ?_ (hS.mono fun x _ e => h.reg x (by rw [e, h.rc1]; omega))
      exact h.step hS (Ext.refl _ _ _) (fun x _ e => by rw [e, h.rc1]; omega) (by simpa using hcell9) oo (fun q hq => by cases hq) (h.wf.out b)
    | some q =>
      have hqb := hnew q rfl
      have hql := (oo.base rfl).2
      refine hk w9 (ro rl q.block 3) c (some q) ?_ (hS.mono fun x _ e => h.reg x (by rw [e, h.rc1]; omega))
      exact h.step hS ((Ext.refl _ _ _).ro (.inr ⟨hqb.1, hql, h.out_of hqb.1⟩) (by omega) (by omega)) (fun x _ e => by rw [e, h.rc1]; omega) (by simpa using hcell9) oo (fun q' hq => by have := Option.some.inj hq; subst this; exact ro_same _ _ _) (h.wf.out b)
theorem rdirty_c (h : KIn w0 R rl w rc r vb vc lc la hs C) {x : Bf} (hx : x ∈ C.l) (hk : ∀ w', Mod No w w' → K (.bool (!clean C.D x)) w') : Cal Try.prog F_leveeref10_Cache_dirty #[.pointer (some ⟨rc, 0, none⟩), .agg ⟨bufV x⟩] w K := by
  apply C_leveeref10_Cache_dirty
  unfold D_leveeref10_Cache_dirty
  have m1 : Mod No w (Go.Den.drew (w.alloc (.cells ⟨bufV x⟩ 116))) := ((Mod.refl No w).alloc _).drew
  have hq : At (Go.Den.drew (w.alloc (.cells ⟨bufV x⟩ 116))) w.heap.size 0 (bufV x) := AtU.new.at.drew
  refine ⟨_, _, (show Ru (Instr.box 116 (.agg ⟨bufV x⟩)) w _ (w.alloc (.cells ⟨bufV x⟩ 116)) from rfl), _, rfl, ?_⟩
  have h1 := h.nos m1
  generalize Go.Den.drew (w.alloc (.cells ⟨bufV x⟩ 116)) = w1 at *
  obtain ⟨r1, r2⟩ := rd_at C.D (h.wf.lt x hx)
  refine ⟨_, h1.ld, _, by rw [add_none]; exact hq.load (i := 0) (by kernel_rfl) rfl, refRead_c h1.disk h.wf.small fun w2 a c m2 f2 => ?_⟩
  rw [r2] at f2 ⊢
  refine ⟨_, _, _, _, rfl, _, str_run (by kernel_rfl) f2.row rfl, _, by rw [add_none]; exact (hq.keep m2 id).load (i := 1) (by kernel_rfl) rfl, ?_⟩
  have e : (!(ByteArray.toList ⟨(atD C.D x.b).toArray⟩ == ByteArray.toList ⟨x.data.toArray⟩)) = !clean C.D x := by
    rw [toList_mk, toList_mk]
    unfold clean
    congr 1
    rw [Bool.eq_iff_iff]
    simp only [beq_iff_eq, decide_eq_true_eq]
    exact ⟨fun e => e.symm, fun e => e.symm⟩
  rw [e]
  exact hk w2 (m1.no m2)
end
end Go.Proofs.Ytgcecmfjpljpcaa
