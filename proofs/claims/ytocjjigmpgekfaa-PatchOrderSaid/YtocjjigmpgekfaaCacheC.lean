/- Layer 10, the program's cache: what its inner functions do. -/
import Derived.Test.YtocjjigmpgekfaaCacheB
import Derived.Test.YtocjjigmpgekfaaSlH
import Derived.Test.YtocjjigmpgekfaaTxtA
open Go Go.Den Go.Proofs
namespace Go.Den
section
variable {P : Program} {w : World}
/-- append of some new values: the row is where it was, or new. -/
theorem Own.app {base k bytes l c m c2 : Nat} {T ty : TypeId} {z : Value} {a : Option Addr} {ad : Addr} {xs ys : List Value} (hT : elemZ P T k z bytes) (hk : 0 < k) (h : Own P w base T k a l c xs)
    (hr : Row w (some ad) ys) (hl : ys.length = m * k) (hm : 0 < m) (h1 : ∀ v ∈ ys, v.oneCell' = true) (h63 : (l + m) * bytes ≤ 140737488355328) (hb : 0 < bytes) (hbase : base ≤ w.heap.size) :
    ∃ q c' w', (Builtin.append_ #[T, T] ty #[.slice a l c, .slice (some ad) m c2]).run P w = .ok (.slice (some q) (l + m) c') w' ∧ Own P w' base T k (some q) (l + m) c' (xs ++ ys) ∧ Mod (fun x => ∃ q, a = some q ∧ x = q.block) w w' ∧
      ((∃ q', a = some q' ∧ q.block = q'.block) ∨ w.heap.size ≤ q.block) := by
  obtain ⟨a', c', w', hrun, ho, hmod⟩ := h.append' (ty := ty) hT hk hr hl (c2 := c2) (by simp) h1 h63 hb hbase
  obtain ⟨e, i, zv, he, hi, hsz, hz, hzc, hby⟩ := hT.is
  obtain ⟨e', he', how⟩ := h
  have : e' = e := by rw [he] at he'; simpa using he'.symm
  subst this
  have hlm : l + m ≤ (l + m) * bytes := Nat.le_mul_of_pos_right _ hb
  have hmb : m * bytes ≤ (l + m) * bytes := Nat.mul_le_mul_right _ (by omega)
  have hcell : ∀ j u, ys[j]? = some u → w.cell? (ad.add j) = some u := by
    intro j u hj
    rcases hr with hr | ⟨b, o, e, hat⟩
    · subst hr; simp at hj
    · simp at e; subst e; exact hat.cell hj
  rcases how.2 with ⟨hv, hx⟩ | ⟨g, cap, cur, hv, hbg, hg, hnc, hcm, hcs, htake⟩
  · simp at hv
    obtain ⟨rfl, rfl, rfl⟩ := hv
    have hr2 := run_append_nil (P := P) w T ty e' i zv he hi hz ad m c2 ys (by rw [hsz]; exact hl) hcell hm (by omega) (by rw [hby]; omega)
    have hrun' := hrun
    rw [hr2] at hrun'
    simp only [Result.ok.injEq, Value.slice.injEq] at hrun'
    obtain ⟨⟨rfl, _, _⟩, _⟩ := hrun'
    exact ⟨_, c', w', hrun, ho, hmod, .inr (Nat.le_refl _)⟩
  · simp at hv
    obtain ⟨rfl, rfl⟩ := hv
    by_cases hroom : l + m ≤ c
    · have hr2 := run_append_room (P := P) w T ty e' i he hi g l c cur hg ad m c2 ys (by rw [hsz]; exact hl) hcell h1 hroom (by rw [hsz, hl, hcs, ← Nat.add_mul]; exact Nat.mul_le_mul_right _ hroom)
      have hrun' := hrun
      rw [hr2] at hrun'
      simp only [Result.ok.injEq, Value.slice.injEq] at hrun'
      obtain ⟨⟨rfl, _, _⟩, _⟩ := hrun'
      exact ⟨_, c', w', hrun, ho, hmod, .inl ⟨_, rfl, rfl⟩⟩
    · have holds : ∀ j u, xs[j]? = some u → w.cell? ((⟨g, 0, none⟩ : Addr).add j) = some u := how.cells (g := g) rfl
      have hr2 := run_append_grow (P := P) w T ty e' i zv he hi hz ⟨g, 0, none⟩ l c xs (by rw [hsz]; exact how.1) holds ad m c2 ys (by rw [hsz]; exact hl) hcell (by omega) (by omega) (growslice_fits (by omega) (by rw [hby]; exact h63))
      have hrun' := hrun
      rw [hr2] at hrun'
      simp only [Result.ok.injEq, Value.slice.injEq] at hrun'
      obtain ⟨⟨rfl, _, _⟩, _⟩ := hrun'
      exact ⟨_, c', w', hrun, ho, hmod, .inr (Nat.le_refl _)⟩
end
theorem gro_gro {R : Nat → Prop} {w w1 w2 : World} (h1 : w.heap.size ≤ w1.heap.size) (h2 : w1.heap.size ≤ w2.heap.size) : Gro (Gro R w w1) w1 w2 = Gro R w w2 := by
  funext x
  unfold Gro
  apply propext
  constructor
  · rintro ((h | h) | h)
    · exact .inl h
    · exact .inr (by omega)
    · exact .inr (by omega)
  · rintro (h | h)
    · exact .inl (.inl h)
    · by_cases hx : x < w1.heap.size
      · exact .inl (.inr (by omega))
      · exact .inr (by omega)
theorem Mod.gro {R : Nat → Prop} {w w1 w2 : World} (h1 : Mod R w w1) (h2 : Mod (Gro R w w1) w1 w2) : Mod R w w2 :=
  h1.trans h2 fun x hx e => by rcases e with e | e; exact e; omega
theorem Mod.anys {R : Nat → Prop} {w w1 : World} (h1 : Mod No w w1) : Mod R w w1 := h1.mono fun _ _ h => h.elim
end Go.Den
namespace Go.Proofs.Ytocjjigmpgekfaa
section
variable {w0 w w' : World} {R : Nat → Prop} {rl : Nat → Nat} {c d m sb mb sc lc : Nat} {la : Option Addr} {L mp : List (Int × Value)} {C : Ca} {K : Value → World → Prop}
theorem mapCache : mapZ Try.prog 83 = some (.pointer none) := by kernel_rfl
theorem CIn.ld (h : CIn w0 R rl w c d m sb mb sc lc la L mp C) : Ru (Instr.loadAt 24 (.pointer (some (Addr.add ⟨c, 0, none⟩ 0)))) w (.pointer (some ⟨d, 0, none⟩)) w := by
  rw [add_none]; exact h.cell.at.load (by kernel_rfl) rfl
theorem CIn.lmost (h : CIn w0 R rl w c d m sb mb sc lc la L mp C) : Ru (Instr.loadAt 3 (.pointer (some (Addr.add ⟨c, 0, none⟩ 1)))) w (.int .i64 C.most) w := by
  rw [add_none]; exact h.cell.at.load (by kernel_rfl) rfl
theorem CIn.lm (h : CIn w0 R rl w c d m sb mb sc lc la L mp C) : Ru (Instr.loadAt 83 (.pointer (some (Addr.add ⟨c, 0, none⟩ 2)))) w (.map (some m)) w := by
  rw [add_none]; exact h.cell.at.load (by kernel_rfl) rfl
theorem lrow {l0 : Nat} {v0 v1 v2 : Value} (h : AtU w c 0 [v0, v1, v2, .slice la l0 lc]) : Ru (Instr.loadAt 23 (.pointer (some (Addr.add ⟨c, 0, none⟩ 3)))) w (.slice la l0 lc) w := by
  rw [add_none]; exact h.at.load (by kernel_rfl) rfl
theorem CIn.gro (h : CIn w0 R rl w c d m sb mb sc lc la L mp C) (k : Mod No w w') : CIn w0 (Gro R w w') rl w' c d m sb mb sc lc la L mp C :=
  (h.nos k).widen (fun x hx => .inl hx) fun x hx => by
    have := k.size
    have := h.mod.size
    rcases hx with hx | hx
    · have := h.lo x hx; omega
    · omega
theorem CIn.out_of {x : Nat} (h : CIn w0 R rl w c d m sb mb sc lc la L mp C) (hx : w.heap.size ≤ x) : rl x = 0 := by
  by_cases e : rl x = 0
  · exact e
  · have := h.lo x (h.reg x e); omega
theorem rd_at (D : St) {b : Nat} (hb : b < D.vs.length) : errOf D (b : Int) = 0 ∧ rdB D (b : Int) = atD D b := by
  have e : errOf D (b : Int) = 0 := by unfold errOf; rw [if_neg (by omega)]
  exact ⟨e, by unfold rdB atD; rw [if_pos e]⟩
theorem CIn.atLen (h : CIn w0 R rl w c d m sb mb sc lc la L mp C) {b : Nat} (hb : b < C.D.vs.length) : (atD C.D b).length = 256 := by
  have hv : C.D.vs[b]? = some C.D.vs[b] := by simp [hb]
  have e : verOf C.D b = C.D.vs[b] := by
    unfold verOf
    rw [if_neg (by omega), Int.toNat_natCast, hv]; rfl
  unfold atD
  rw [e]
  exact h.disk.wf.lastLen hv
theorem CIn.look (h : CIn w0 R rl w c d m sb mb sc lc la L mp C) {k : Int} {v : Value} (hl : lookupL mp k = some v) : Ru (Instr.lookup 83 (.map (some m)) (.int .i64 k) false) w v w := by
  have := lookup_run (P := Try.prog) mapCache h.map (k := k)
  rwa [hl] at this
theorem lbytes {q g cc : Nat} {v : Value} (h : AtU w q 0 [.slice (some ⟨g, 0, none⟩) 256 cc, v]) : Ru (Instr.loadAt 32 (.pointer (some (Addr.add (Addr.add ⟨q, 0, none⟩ 0) 0)))) w (.slice (some ⟨g, 0, none⟩) 256 cc) w := by
  rw [add_none, add_none]; exact h.at.load (by kernel_rfl) rfl
theorem lpins {q : Nat} {v : Value} {n : Int} (h : AtU w q 0 [v, .int .i64 n]) : Ru (Instr.loadAt 3 (.pointer (some (Addr.add ⟨q, 0, none⟩ 1)))) w (.int .i64 n) w := by
  rw [add_none]; exact h.at.load (by kernel_rfl) rfl

theorem dirty_c (h : CIn w0 R rl w c d m sb mb sc lc la L mp C) {x : Bf} (hx : x ∈ C.l) (hk : ∀ w', Mod No w w' → K (.bool (!clean C.D x)) w') : Cal Try.prog F_cache_Cache_dirty #[.pointer (some ⟨c, 0, none⟩), .int .i64 x.b] w K := by
  apply C_cache_Cache_dirty
  unfold D_cache_Cache_dirty
  obtain ⟨q, g, cc, b1, b2, b3, b4, b6⟩ := h.bufs x hx
  obtain ⟨r1, r2⟩ := rd_at C.D (h.wf.lt x hx)
  have hal := h.atLen (h.wf.lt x hx)
  have hxl := h.wf.data x hx
  refine ⟨_, rfl, _, h.ld, Read_c h.disk h.wf.small fun w1 a1 c1 m1 f1 => ?_⟩
  rw [r2] at f1 ⊢
  rw [r1, hal]
  refine ⟨_, _, _, _, rfl, _, rfl, some m, (h.nos m1).lm, _, (h.nos m1).look b1, _, rfl, _, _, _, lbytes (b4.keep m1 id), ?_⟩
  refine Diff_c hal hxl (by omega) f1.row (.inr ⟨_, _, rfl, b6.keep m1 id⟩) fun w2 f la' m2 hf => ⟨_, _, rfl, ?_⟩
  have e : (decide (f ≥ 0)) = !clean C.D x := by
    unfold clean
    by_cases he : x.data = atD C.D x.b
    · have : ¬ 0 ≤ f := fun h => (hf.1 h) he.symm
      simp [he]; omega
    · have : 0 ≤ f := hf.2 fun e => he e.symm
      simp [he]; omega
  rw [e]
  exact hk w2 (m1.no m2)

theorem box_int (w : World) (n : Int) : (Instr.box 3 (.int .i64 n)).run Try.prog w = .ok (.pointer (some ⟨w.heap.size, 0, none⟩)) (w.alloc (.cells ⟨[.int .i64 n]⟩ 3)) := rfl
theorem box_cache (w : World) (p : Option Addr) : (Instr.box 54 (.pointer p)).run Try.prog w = .ok (.pointer (some ⟨w.heap.size, 0, none⟩)) (w.alloc (.cells ⟨[.pointer p]⟩ 54)) := rfl
theorem apart {rl : Nat → Nat} {a b i j : Nat} (h1 : rl a = i) (h2 : rl b = j) (h : i ≠ j) : a ≠ b := fun e => h (by rw [← h1, ← h2, e])
/-- A function value that tells which number is one's own. -/
theorem tells_out {S : Nat → Prop} {q b : Nat} {xs : List Int} (hat : At w q 0 [.int .i64 b]) (hS : ¬ S q) : Tells (.func (.func F_cache_Cache_out_1) #[] #[.pointer (some ⟨q, 0, none⟩)]) w S (fun k => k == (b : Int)) xs := by
  intro w' m x _ K hK
  refine ⟨_, _, _, rfl, ?_⟩
  show Cal Try.prog F_cache_Cache_out_1 #[.int .i64 x, .pointer (some ⟨q, 0, none⟩)] w' K
  apply C_cache_Cache_out_1
  exact ⟨_, (hat.keep m hS).load (i := 0) (by kernel_rfl) rfl, hK w' (Mod.refl _ _)⟩
theorem tells_ask {S : Nat → Prop} {q b : Nat} {xs : List Int} (hat : At w q 0 [.int .i64 b]) (hS : ¬ S q) : Tells (.func (.func F_cache_Cache_ask_1) #[] #[.pointer (some ⟨q, 0, none⟩)]) w S (fun k => k == (b : Int)) xs := by
  intro w' m x _ K hK
  refine ⟨_, _, _, rfl, ?_⟩
  show Cal Try.prog F_cache_Cache_ask_1 #[.int .i64 x, .pointer (some ⟨q, 0, none⟩)] w' K
  apply C_cache_Cache_ask_1
  exact ⟨_, (hat.keep m hS).load (i := 0) (by kernel_rfl) rfl, hK w' (Mod.refl _ _)⟩
theorem filter_others (l : List Bf) (b : Nat) : ((nums l).filter fun x => !(x == (b : Int))) = nums (others l b) := by
  rw [nums_others]
  apply List.filter_congr
  intro x _
  congr 1
theorem nums_len (l : List Bf) : (nums l).length = l.length := by simp [nums]
/-- The cache's row, in place: one number less. -/
theorem row_less {q b : Nat} {f : FuncId} (h : CIn w0 R rl w c d m sb mb sc lc la L mp C)
    (ht : Tells (.func (.func f) #[] #[.pointer (some ⟨q, 0, none⟩)]) w (Of la) (fun k => k == (b : Int)) (nums C.l))
    (hk : ∀ w', Own Try.prog w' w0.heap.size 23 1 la (others C.l b).length lc (iL (nums (others C.l b))) → Mod (Of la) w w' → K (.slice la (others C.l b).length lc) w') :
    Cal Try.prog F_slices_DeleteFunc_int #[.slice la C.l.length lc, .func (.func f) #[] #[.pointer (some ⟨q, 0, none⟩)]] w K := by
  have h1 := h.wf.len
  have h2 := h.wf.most1
  refine DeleteFunc_c h.row (by omega) ht fun w' l' o hl' m' => ?_
  rw [filter_others] at o hl'
  rw [nums_len] at hl'
  subst hl'
  exact hk w' o m'
theorem CIn.of3 (h : CIn w0 R rl w c d m sb mb sc lc la L mp C) {x : Nat} (hx : Of la x) : rl x = 3 := by
  obtain ⟨q, hq, rfl⟩ := hx
  exact h.rrow q hq
def S123 (rl : Nat → Nat) : Nat → Prop := fun x => rl x = 1 ∨ rl x = 2 ∨ rl x = 3

set_option maxRecDepth 100000 in
theorem out_c (h : CIn w0 R rl w c d m sb mb sc lc la L mp C) {b : Nat}
    (hk : ∀ w' mp', CIn w0 (Gro R w w') rl w' c d m sb mb sc lc la L mp' { C with l := others C.l b } → Mod R w w' → K (.tuple #[]) w') : Cal Try.prog F_cache_Cache_out #[.pointer (some ⟨c, 0, none⟩), .int .i64 b] w K := by
  apply C_cache_Cache_out
  unfold D_cache_Cache_out
  have m1 : Mod No w (w.alloc (.cells ⟨[.int .i64 b]⟩ 3)) := (Mod.refl No w).alloc _
  have h1 := (h.nos m1).drew
  have hq : At (drew (w.alloc (.cells ⟨[.int .i64 b]⟩ 3))) w.heap.size 0 [.int .i64 b] := AtU.new.at.drew
  have hsz : (drew (w.alloc (.cells ⟨[.int .i64 b]⟩ 3))).heap.size = w.heap.size + 1 := by simp
  refine ⟨_, _, box_int _ _, _, rfl, some m, h1.lm, _, hq.load (i := 0) (by kernel_rfl) rfl, ?_⟩
  have m1' : Mod No w (drew (w.alloc (.cells ⟨[.int .i64 b]⟩ 3))) := m1.drew
  generalize hW : drew (w.alloc (.cells ⟨[.int .i64 b]⟩ 3)) = w1 at *
  have hq0 := h.out_of (x := w.heap.size) (Nat.le_refl _)
  obtain ⟨w2, s1, s2, s3, s4⟩ := delete_run (P := Try.prog) (T2 := 100) (ty := 0) (k := (b : Int)) mapCache h1.map
  have hc2 := h1.cell.keep s3 (apart h1.rc h1.rm (by omega))
  refine ⟨w2, s1, _, rfl, _, _, _, lrow hc2, ?_⟩
  have hrow2 := h1.row.keep s3 fun q hq' => apart (h1.rrow q hq') h1.rm (by omega)
  have hq2 := hq.keep s3 (apart hq0 h1.rm (by omega))
  have hl1 := h1.wf.len
  have hl2 := h1.wf.most1
  refine DeleteFunc_c hrow2 (by omega) (tells_out hq2 fun e => by have := h1.of3 e; omega) fun w3 l3 o3 hl3 m3 => ⟨_, _, _, rfl, _, rfl, ?_⟩
  rw [filter_others] at o3 hl3
  rw [nums_len] at hl3
  subst hl3
  have hc3 := hc2.keep m3 fun e => by have := h1.of3 e; have := h1.rc; omega
  obtain ⟨w4, t1, t2, t3, t4⟩ := hc3.store (P := Try.prog) (T := 23) (i := 3) (v := .slice la (others C.l b).length lc) (by kernel_rfl) (by simp) rfl
  refine ⟨w4, by rw [add_none]; exact t1, ?_⟩
  have M : Mod (S123 rl) w w4 := ((m1'.anys.trans (S' := S123 rl) (s3.mono fun x _ e => .inr (.inl (by rw [e]; exact h.rm))) fun _ _ e => e).trans (m3.mono fun x _ e => .inr (.inr (h1.of3 e))) fun _ _ e => e).trans (t3.mono fun x _ e => .inl (by rw [e]; exact h.rc)) fun _ _ e => e
  refine hk w4 (delL b mp) ?_ (M.mono fun x _ e => h.reg x (by unfold S123 at e; omega))
  refine h.step M (Ext.refl _ _ _) (fun x _ e => by unfold S123 at e; omega) (by simpa using t2) ((s2.keep m3 fun e => by have := h1.of3 e; have := h1.rm; omega).keep t3 (apart h1.rm h1.rc (by omega)))
    (o3.keep t3 fun q hq' => apart (h1.rrow q hq') h1.rc (by omega)) h.rrow (fun x hx => .inl ⟨(mem_others.1 hx).1, ?_, fun q e => by unfold S123 at e; omega⟩) (fun p hp => ?_) (h.wf.out b)
  · rw [look_del, if_neg (by have := (mem_others.1 hx).2; omega)]
  · obtain ⟨hp1, hp2⟩ := del_mem.1 hp
    obtain ⟨x, hx, e⟩ := h.keys p hp1
    exact ⟨x, mem_others.2 ⟨hx, by omega⟩, e⟩
end
end Go.Proofs.Ytocjjigmpgekfaa
