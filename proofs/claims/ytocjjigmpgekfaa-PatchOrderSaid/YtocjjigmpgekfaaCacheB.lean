/- Layer 10, the program's cache in memory: the parts, kept and turned. -/
import Derived.Test.YtocjjigmpgekfaaCacheA
open Go Go.Den Go.Proofs
namespace Go.Proofs.Ytocjjigmpgekfaa
/-- The cache's region, by what a block is: 1 the cache itself, 2 its map, 3 its row, 4 the disk's, 5 bytes, 6 + b the buffer of block b. -/
structure CIn (w0 : World) (R : Nat → Prop) (rl : Nat → Nat) (w : World) (c d m sb mb sc lc : Nat) (la : Option Addr) (L mp : List (Int × Value)) (C : Ca) : Prop where
  disk : DiskIn w (fun x => rl x = 4) d sb mb sc L C.D
  cell : AtU w c 0 [.pointer (some ⟨d, 0, none⟩), .int .i64 C.most, .map (some m), .slice la C.l.length lc]
  map : MapAt w m mp
  row : Own Try.prog w w0.heap.size 23 1 la C.l.length lc (iL (nums C.l))
  rc : rl c = 1
  rm : rl m = 2
  rrow : ∀ q, la = some q → rl q.block = 3
  bufs : ∀ x ∈ C.l, ∃ q g cc, lookupL mp x.b = some (.pointer (some ⟨q, 0, none⟩)) ∧ rl q = 6 + x.b ∧ rl g = 5 ∧ AtU w q 0 [.slice (some ⟨g, 0, none⟩) 256 cc, .int .i64 x.pins] ∧ At w g 0 (u8L x.data)
  keys : ∀ p ∈ mp, ∃ x ∈ C.l, p.1 = (x.b : Int)
  wf : WFC C
  reg : ∀ x, rl x ≠ 0 → R x
  lo : ∀ x, R x → w0.heap.size ≤ x ∧ x < w.heap.size
  mod : Mod No w0 w
section
variable {w0 w w' : World} {R : Nat → Prop} {rl : Nat → Nat} {c d m sb mb sc lc : Nat} {la : Option Addr} {L mp : List (Int × Value)} {C : Ca}
theorem CIn.nos (h : CIn w0 R rl w c d m sb mb sc lc la L mp C) (k : Mod No w w') : CIn w0 R rl w' c d m sb mb sc lc la L mp C where
  disk := h.disk.nos k
  cell := h.cell.keep k id
  map := h.map.keep k id
  row := h.row.nos k
  rc := h.rc
  rm := h.rm
  rrow := h.rrow
  bufs := fun x hx => by
    obtain ⟨q, g, cc, h1, h2, h3, h4, h6⟩ := h.bufs x hx
    exact ⟨q, g, cc, h1, h2, h3, h4.keep k id, h6.keep k id⟩
  keys := h.keys
  wf := h.wf
  reg := h.reg
  lo := fun x hx => by have := h.lo x hx; have := k.size; omega
  mod := h.mod.no k
theorem CIn.drew (h : CIn w0 R rl w c d m sb mb sc lc la L mp C) : CIn w0 R rl (Go.Den.drew w) c d m sb mb sc lc la L mp C := h.nos (Mod.refl No w).drew
theorem CIn.widen {R' : Nat → Prop} (h : CIn w0 R rl w c d m sb mb sc lc la L mp C) (h1 : ∀ x, R x → R' x) (h2 : ∀ x, R' x → w0.heap.size ≤ x ∧ x < w.heap.size) : CIn w0 R' rl w c d m sb mb sc lc la L mp C :=
  { h with reg := fun x hx => h1 x (h.reg x hx), lo := h2 }
/-- Roles that new blocks take. -/
def ro (rl : Nat → Nat) (a r : Nat) : Nat → Nat := fun z => if z = a then r else rl z
theorem ro_same (rl : Nat → Nat) (a r : Nat) : ro rl a r a = r := by unfold ro; rw [if_pos rfl]
theorem ro_ne (rl : Nat → Nat) {a r x : Nat} (h : x ≠ a) : ro rl a r x = rl x := by unfold ro; rw [if_neg h]
structure Ext (w w' : World) (rl rl' : Nat → Nat) : Prop where
  old : ∀ x, rl x ≠ 0 → rl' x = rl x
  new : ∀ x, rl x = 0 → rl' x ≠ 0 → w.heap.size ≤ x ∧ x < w'.heap.size
  dsk : ∀ x, rl' x = 4 → rl x = 4
theorem Ext.refl (w w' : World) (rl : Nat → Nat) : Ext w w' rl rl := ⟨fun _ _ => rfl, fun _ h k => absurd h k, fun _ h => h⟩
theorem Ext.ro {rl' : Nat → Nat} (h : Ext w w' rl rl') {a r : Nat} (ha : rl' a = r ∨ (w.heap.size ≤ a ∧ a < w'.heap.size ∧ rl' a = 0)) (h4 : r ≠ 4) (h0 : r ≠ 0) : Ext w w' rl (ro rl' a r) where
  old := fun x hx => by
    by_cases e : x = a
    · subst e
      rw [ro_same]
      have := h.old x hx
      rcases ha with ha | ⟨_, _, ha⟩
      · rw [← this, ha]
      · omega
    · rw [ro_ne _ e]; exact h.old x hx
  new := fun x hx hn => by
    by_cases e : x = a
    · subst e
      rcases ha with ha | ⟨h1, h2, _⟩
      · exact h.new x hx (by omega)
      · exact ⟨h1, h2⟩
    · rw [ro_ne _ e] at hn; exact h.new x hx hn
  dsk := fun x hx => by
    by_cases e : x = a
    · subst e; rw [ro_same] at hx; exact absurd hx h4
    · rw [ro_ne _ e] at hx; exact h.dsk x hx
/-- A step in memory: the parts anew. -/
theorem CIn.step {S : Nat → Prop} {rl' : Nat → Nat} {lc' : Nat} {la' : Option Addr} {mp' : List (Int × Value)} {l' : List Bf} (h : CIn w0 R rl w c d m sb mb sc lc la L mp C) (k : Mod S w w') (hx : Ext w w' rl rl')
    (hS : ∀ x, x < w.heap.size → S x → rl x ≠ 0 ∧ rl x ≠ 4 ∧ rl x ≠ 5)
    (hcell : AtU w' c 0 [.pointer (some ⟨d, 0, none⟩), .int .i64 C.most, .map (some m), .slice la' l'.length lc']) (hmap : MapAt w' m mp')
    (hrow : Own Try.prog w' w0.heap.size 23 1 la' l'.length lc' (iL (nums l'))) (hla : ∀ q, la' = some q → rl' q.block = 3)
    (hl : ∀ x ∈ l', (x ∈ C.l ∧ lookupL mp' x.b = lookupL mp x.b ∧ ∀ q, S q → rl q ≠ 6 + x.b) ∨
      ∃ q g cc, lookupL mp' x.b = some (.pointer (some ⟨q, 0, none⟩)) ∧ rl' q = 6 + x.b ∧ rl' g = 5 ∧ AtU w' q 0 [.slice (some ⟨g, 0, none⟩) 256 cc, .int .i64 x.pins] ∧ At w' g 0 (u8L x.data))
    (hk : ∀ p ∈ mp', ∃ x ∈ l', p.1 = (x.b : Int)) (hwf : WFC { C with l := l' }) :
    CIn w0 (Gro R w w') rl' w' c d m sb mb sc lc' la' L mp' { C with l := l' } where
  disk := by
    have h4 := h.disk.keep k fun x hx e => by
      have := hS x (h.disk.lt x hx) e
      omega
    have e : (fun x => rl' x = 4) = fun x => rl x = 4 := by
      funext x
      exact propext ⟨hx.dsk x, fun e => by rw [hx.old x (by omega)]; exact e⟩
    rw [e]; exact h4
  cell := hcell
  map := hmap
  row := hrow
  rc := by rw [hx.old c (by rw [h.rc]; omega)]; exact h.rc
  rm := by rw [hx.old m (by rw [h.rm]; omega)]; exact h.rm
  rrow := hla
  bufs := fun x hx' => by
    rcases hl x hx' with ⟨hx1, hx2, hx3⟩ | hn
    · obtain ⟨q, g, cc, h1, h2, h3, h4, h6⟩ := h.bufs x hx1
      refine ⟨q, g, cc, hx2.trans h1, ?_, ?_, h4.keep k fun e => hx3 q e h2, h6.keep k fun e => ?_⟩
      · rw [hx.old q (by omega)]; exact h2
      · rw [hx.old g (by omega)]; exact h3
      · exact (hS g h6.lt e).2.2 h3
    · exact hn
  keys := hk
  wf := hwf
  reg := fun x hn => by
    by_cases e : rl x = 0
    · exact .inr (hx.new x e hn)
    · exact .inl (h.reg x e)
  lo := fun x hx => by
    have := k.size
    have := h.mod.size
    rcases hx with hx | hx
    · have := h.lo x hx; omega
    · omega
  mod := h.mod.trans k fun x hx e => by
    have := h.mod.size
    have := hS x (by omega) e
    have := h.lo x (h.reg x (by omega))
    omega
/-- The disk is another one. -/
theorem CIn.dsk {S : Nat → Prop} {L' : List (Int × Value)} {D' : St} (h : CIn w0 R rl w c d m sb mb sc lc la L mp C) (k : Mod S w w') (hS : ∀ x, S x → rl x = 4)
    (hd : DiskIn w' (Gro (fun x => rl x = 4) w w') d sb mb sc L' D') (hsm : Small D') (hn : D'.vs.length = C.D.vs.length) :
    ∃ rl', CIn w0 (Gro R w w') rl' w' c d m sb mb sc lc la L' mp { C with D := D' } := by
  have hold : ∀ x, rl x ≠ 0 → x < w.heap.size := fun x hx => (h.lo x (h.reg x hx)).2
  have hsame : ∀ x, rl x ≠ 0 → (if w.heap.size ≤ x ∧ x < w'.heap.size then 4 else rl x) = rl x := by
    intro x hx
    rw [if_neg (by have := hold x hx; omega)]
  have hz := k.size
  have hw0 := h.mod.size
  refine ⟨fun x => if w.heap.size ≤ x ∧ x < w'.heap.size then 4 else rl x, ?_⟩
  exact { disk := by
            have e : (fun x => (if w.heap.size ≤ x ∧ x < w'.heap.size then 4 else rl x) = 4) = Gro (fun x => rl x = 4) w w' := by
              funext x
              unfold Gro
              apply propext
              constructor
              · intro e
                split at e
                · rename_i hn; exact .inr hn
                · exact .inl e
              · rintro (e | e)
                · rw [hsame x (by omega)]; exact e
                · rw [if_pos e]
            rw [e]; exact hd
          cell := h.cell.keep k fun e => by have := hS c e; have := h.rc; omega
          map := h.map.keep k fun e => by have := hS m e; have := h.rm; omega
          row := h.row.keep k fun q hq e => by have := hS _ e; have := h.rrow q hq; omega
          rc := by show (if _ then 4 else rl c) = 1; rw [hsame c (by rw [h.rc]; omega)]; exact h.rc
          rm := by show (if _ then 4 else rl m) = 2; rw [hsame m (by rw [h.rm]; omega)]; exact h.rm
          rrow := fun q hq => by
            show (if _ then 4 else rl q.block) = 3
            rw [hsame q.block (by rw [h.rrow q hq]; omega)]; exact h.rrow q hq
          bufs := fun x hx => by
            obtain ⟨q, g, cc, h1, h2, h3, h4, h6⟩ := h.bufs x hx
            refine ⟨q, g, cc, h1, ?_, ?_, h4.keep k fun e => by have := hS q e; omega, h6.keep k fun e => by have := hS g e; omega⟩
            · show (if _ then 4 else rl q) = _; rw [hsame q (by omega)]; exact h2
            · show (if _ then 4 else rl g) = _; rw [hsame g (by omega)]; exact h3
          keys := h.keys
          wf := { small := hsm, most0 := h.wf.most0, most1 := h.wf.most1, len := h.wf.len, nodup := h.wf.nodup, lt := fun x hx => by rw [hn]; exact h.wf.lt x hx, data := h.wf.data, pins := h.wf.pins }
          reg := fun x hx => by
            by_cases hn : w.heap.size ≤ x ∧ x < w'.heap.size
            · exact .inr hn
            · simp only [if_neg hn] at hx
              exact .inl (h.reg x hx)
          lo := fun x hx => by
            rcases hx with hx | hx
            · have := h.lo x hx; omega
            · omega
          mod := h.mod.trans k fun x hx e => by
            have := hS x e
            have := h.lo x (h.reg x (by omega))
            omega }
end
end Go.Proofs.Ytocjjigmpgekfaa
