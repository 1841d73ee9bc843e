/- Layer 11, the program's store: what it is, and what it is in memory. -/
import Derived.Test.YtgcecmfjpljpcaaPatA
open Go Go.Den Go.Proofs
namespace Go.Proofs.Ytgcecmfjpljpcaa
/-- A change: its number, its block, where it begins, its bytes, what it waits for, whether it was in an image that was written. -/
structure Ch where
  id : Nat
  b : Nat
  frm : Nat
  data : List UInt8
  after : List Int
  out : Bool
/-- A block with open changes: its bytes without any, and these. -/
structure On where
  b : Nat
  base : Bk
  l : List Ch
structure Ps where
  C : Ca
  last : Nat
  ons : List On
def Ps.all (P : Ps) : List Ch := P.ons.flatMap (·.l)
def Ps.opn (P : Ps) (id : Int) : Bool := P.all.any fun c => (c.id : Int) == id
def meetB (c o : Ch) : Bool := decide (c.frm < o.frm + o.data.length) && decide (o.frm < c.frm + c.data.length)
def badB (op : Int → Bool) (pre : List Ch) (ok : List Int) (c : Ch) : Bool := (c.after.any fun id => op id && !(ok.contains id)) || (pre.any fun x => meetB x c && !(ok.contains (x.id : Int)))
def mayN (op : Int → Bool) (l : List Ch) : Nat → List Int
  | 0 => []
  | n + 1 => match l[n]? with
    | some c => if badB op (l.take n) (mayN op l n) c = true then mayN op l n else mayN op l n ++ [(c.id : Int)]
    | none => mayN op l n
def mayL (op : Int → Bool) (l : List Ch) : List Int := mayN op l l.length
/-- The base, and some changes upon it. -/
def withL (base : Bk) (l : List Ch) : Bk := l.foldl (fun b c => overB b c.frm c.data) base
structure WFS (P : Ps) : Prop where
  full : P.C.D.vs.length ≤ P.C.most
  onsN : (P.ons.map (·.b)).Nodup
  onlt : ∀ o ∈ P.ons, o.b < P.C.D.vs.length
  base : ∀ o ∈ P.ons, o.base.length = 256
  llen : ∀ o ∈ P.ons, o.l.length ≤ P.last
  ids : (P.all.map (·.id)).Nodup
  idr : ∀ x ∈ P.all, 1 ≤ x.id ∧ x.id ≤ P.last
  chb : ∀ o ∈ P.ons, ∀ x ∈ o.l, x.b = o.b
  dat : ∀ x ∈ P.all, 1 ≤ x.data.length ∧ x.frm + x.data.length ≤ 256
  aft : ∀ x ∈ P.all, x.after.length ≤ 1000000
  last : P.last ≤ 1000000
/-- One that was in an image that was written: all that it meets, and that came ahead of it, were too. -/
def Cls (l : List Ch) : Prop := l.Pairwise fun x y => y.out = true → meetB x y = true → x.out = true
/-- What holds between calls: blocks with open changes are pinned, and what is read is the base with all of them; all other ones are as on the disk. -/
structure WFP (P : Ps) : Prop where
  lne : ∀ o ∈ P.ons, o.l ≠ []
  pin : ∀ o ∈ P.ons, ∃ x ∈ P.C.l, x.b = o.b ∧ x.pins = 1 ∧ x.data = withL o.base o.l
  unp : ∀ x ∈ P.C.l, (∀ o ∈ P.ons, o.b ≠ x.b) → x.pins = 0 ∧ x.data = atD P.C.D x.b
  run : P.C.D.left = -1
  acc : ∀ o ∈ P.ons, atD P.C.D o.b = withL o.base (o.l.filter (·.out))
  may : ∀ o ∈ P.ons, ∀ x ∈ o.l, x.out = true → (x.id : Int) ∈ mayL P.opn o.l
  cls : ∀ o ∈ P.ons, Cls o.l
  afl : ∀ x ∈ P.all, ∀ k ∈ x.after, k < (x.id : Int)
theorem mem_all {P : Ps} {x : Ch} : x ∈ P.all ↔ ∃ o ∈ P.ons, x ∈ o.l := by unfold Ps.all; rw [List.mem_flatMap]
/-- A change in memory. -/
def ChAt (w : World) (rl : Nat → Nat) (q : Nat) (x : Ch) : Prop :=
  ∃ gd cd aa ca, AtU w q 0 [.int .i64 x.id, .int .i64 x.b, .int .i64 x.frm, .slice (some ⟨gd, 0, none⟩) x.data.length cd, .slice aa x.after.length ca, .bool x.out] ∧ At w gd 0 (u8L x.data) ∧ rl gd = 5 ∧ Row w aa (iL x.after) ∧ ∀ q, aa = some q → rl q.block = 5
/-- A block with open changes in memory. -/
def OnAt (w0 w : World) (rl : Nat → Nat) (ca : Nat → Nat) (q : Nat) (o : On) : Prop :=
  ∃ g cc la lc, AtU w q 0 [.slice (some ⟨g, 0, none⟩) 256 cc, .slice la o.l.length lc] ∧ At w g 0 (u8L o.base) ∧ rl g = 5 ∧ Own Try.prog w w0.heap.size 125 1 la o.l.length lc (pL (o.l.map fun x => ca x.id)) ∧ ∀ q, la = some q → rl q.block = 9 + 3 * o.b
/-- The store's region, by what a block is: 1 the cache's, 2 the store itself, 3 and 4 its maps, 5 bytes and rows that stay, 8 + 3b, 9 + 3b a block with open changes and its row, 10 + 3i the change i. -/
structure PIn (w0 : World) (R : Nat → Prop) (rl : Nat → Nat) (w : World) (sp c d mo mm : Nat) (ca oa : Nat → Nat) (Lo Lm : List (Int × Value)) (P : Ps) : Prop where
  cx : Cx w0 (fun x => rl x = 1) w c d P.C
  cell : AtU w sp 0 [.pointer (some ⟨c, 0, none⟩), .int .i64 P.C.D.vs.length, .int .i64 P.last, .map (some mo), .map (some mm)]
  mapO : MapAt w mo Lo
  mapM : MapAt w mm Lm
  rsp : rl sp = 2
  rmo : rl mo = 3
  rmm : rl mm = 4
  chs : ∀ x ∈ P.all, lookupL Lo x.id = some (pV (ca x.id)) ∧ rl (ca x.id) = 10 + 3 * x.id ∧ ChAt w rl (ca x.id) x
  ons : ∀ o ∈ P.ons, lookupL Lm o.b = some (pV (oa o.b)) ∧ rl (oa o.b) = 8 + 3 * o.b ∧ OnAt w0 w rl ca (oa o.b) o
  keysO : ∀ p ∈ Lo, ∃ x ∈ P.all, p.1 = (x.id : Int)
  keysM : ∀ p ∈ Lm, ∃ o ∈ P.ons, p.1 = (o.b : Int)
  wf : WFS P
  reg : ∀ x, rl x ≠ 0 → R x
  lo : ∀ x, R x → w0.heap.size ≤ x ∧ x < w.heap.size
  mod : Mod No w0 w
section
variable {w0 w w' : World} {R : Nat → Prop} {rl : Nat → Nat} {sp c d mo mm : Nat} {ca oa : Nat → Nat} {Lo Lm : List (Int × Value)} {P : Ps}
theorem ChAt.keep {S : Nat → Prop} {q : Nat} {x : Ch} (h : ChAt w rl q x) (k : Mod S w w') (hq : ¬ S q) (h5 : ∀ z, rl z = 5 → ¬ S z) : ChAt w' rl q x := by
  obtain ⟨gd, cd, aa, ca, h1, h2, h3, h4, h6⟩ := h
  exact ⟨gd, cd, aa, ca, h1.keep k hq, h2.keep k (h5 _ h3), h3, h4.keep k fun q hq => h5 _ (h6 q hq), h6⟩
theorem ChAt.role {rl' : Nat → Nat} {q : Nat} {x : Ch} (h : ChAt w rl q x) (hr : ∀ z, rl z = 5 → rl' z = 5) : ChAt w rl' q x := by
  obtain ⟨gd, cd, aa, ca, h1, h2, h3, h4, h6⟩ := h
  exact ⟨gd, cd, aa, ca, h1, h2, hr _ h3, h4, fun q hq => hr _ (h6 q hq)⟩
theorem OnAt.keep {S : Nat → Prop} {q : Nat} {o : On} (h : OnAt w0 w rl ca q o) (k : Mod S w w') (hq : ¬ S q) (h5 : ∀ z, rl z = 5 → ¬ S z) (h9 : ∀ z, rl z = 9 + 3 * o.b → ¬ S z) : OnAt w0 w' rl ca q o := by
  obtain ⟨g, cc, la, lc, h1, h2, h3, h4, h6⟩ := h
  exact ⟨g, cc, la, lc, h1.keep k hq, h2.keep k (h5 _ h3), h3, h4.keep k fun q hq => h9 _ (h6 q hq), h6⟩
theorem OnAt.role {rl' : Nat → Nat} {ca' : Nat → Nat} {q : Nat} {o : On} (h : OnAt w0 w rl ca q o) (hr : ∀ z, rl z ≠ 0 → rl' z = rl z) (hc : ∀ x ∈ o.l, ca' x.id = ca x.id) : OnAt w0 w rl' ca' q o := by
  obtain ⟨g, cc, la, lc, h1, h2, h3, h4, h6⟩ := h
  refine ⟨g, cc, la, lc, h1, h2, by rw [hr g (by omega)]; exact h3, ?_, fun q hq => by rw [hr q.block (by rw [h6 q hq]; omega)]; exact h6 q hq⟩
  have e : (o.l.map fun x => ca' x.id) = o.l.map fun x => ca x.id := List.map_congr_left hc
  rw [e]; exact h4
theorem PIn.keepS {S : Nat → Prop} (h : PIn w0 R rl w sp c d mo mm ca oa Lo Lm P) (k : Mod S w w') (hsr : ∀ x, R x → ¬ S x) (hw : ∀ x, x < w0.heap.size → ¬ S x) : PIn w0 R rl w' sp c d mo mm ca oa Lo Lm P := by
  have hr : ∀ {x}, rl x ≠ 0 → ¬ S x := fun hx => hsr _ (h.reg _ hx)
  exact {
    cx := h.cx.keep k (fun x hx => hr (by have e : rl x = 1 := hx; omega)) hw
    cell := h.cell.keep k (hr (by rw [h.rsp]; omega))
    mapO := h.mapO.keep k (hr (by rw [h.rmo]; omega))
    mapM := h.mapM.keep k (hr (by rw [h.rmm]; omega))
    rsp := h.rsp
    rmo := h.rmo
    rmm := h.rmm
    chs := fun x hx => by
      obtain ⟨h1, h2, h3⟩ := h.chs x hx
      exact ⟨h1, h2, h3.keep k (hr (by omega)) fun z hz => hr (by omega)⟩
    ons := fun o ho => by
      obtain ⟨h1, h2, h3⟩ := h.ons o ho
      exact ⟨h1, h2, h3.keep k (hr (by omega)) (fun z hz => hr (by omega)) fun z hz => hr (by omega)⟩
    keysO := h.keysO
    keysM := h.keysM
    wf := h.wf
    reg := h.reg
    lo := fun x hx => by have := h.lo x hx; have := k.size; omega
    mod := h.mod.trans k fun x hx e => absurd e (hw x hx) }
theorem PIn.nos (h : PIn w0 R rl w sp c d mo mm ca oa Lo Lm P) (k : Mod No w w') : PIn w0 R rl w' sp c d mo mm ca oa Lo Lm P := h.keepS k (fun _ _ => id) fun _ _ => id
theorem PIn.drew (h : PIn w0 R rl w sp c d mo mm ca oa Lo Lm P) : PIn w0 R rl (Go.Den.drew w) sp c d mo mm ca oa Lo Lm P := h.nos (Mod.refl No w).drew
theorem PIn.widen {R' : Nat → Prop} (h : PIn w0 R rl w sp c d mo mm ca oa Lo Lm P) (h1 : ∀ x, R x → R' x) (h2 : ∀ x, R' x → w0.heap.size ≤ x ∧ x < w.heap.size) : PIn w0 R' rl w sp c d mo mm ca oa Lo Lm P :=
  { h with reg := fun x hx => h1 x (h.reg x hx), lo := h2 }
theorem PIn.gro (h : PIn w0 R rl w sp c d mo mm ca oa Lo Lm P) (k : Mod No w w') : PIn w0 (Gro R w w') rl w' sp c d mo mm ca oa Lo Lm P :=
  (h.nos k).widen (fun x hx => .inl hx) fun x hx => by
    have := k.size
    have := h.mod.size
    rcases hx with hx | hx
    · have := h.lo x hx; omega
    · omega
theorem PIn.out_of {x : Nat} (h : PIn w0 R rl w sp c d mo mm ca oa Lo Lm P) (hx : w.heap.size ≤ x) : rl x = 0 := by
  by_cases e : rl x = 0
  · exact e
  · have := h.lo x (h.reg x e); omega
/-- The cache is another one. -/
theorem PIn.cache {w1 : World} {C' : Ca} (h : PIn w0 R rl w sp c d mo mm ca oa Lo Lm P) (m1 : Mod (fun x => rl x = 1) w w1) (m2 : Mod No w1 w') (hc : Cx w0 (Gro (fun x => rl x = 1) w w1) w' c d C') (hD : C'.D.vs.length = P.C.D.vs.length) (hm : C'.most = P.C.most) :
    ∃ rl', PIn w0 (Gro R w w1) rl' w' sp c d mo mm ca oa Lo Lm { P with C := C' } ∧ (∀ x, rl x ≠ 0 → rl' x = rl x) := by
  have hold : ∀ x, rl x ≠ 0 → x < w.heap.size := fun x hx => (h.lo x (h.reg x hx)).2
  have hz1 := m1.size
  have hz2 := m2.size
  have hw0 := h.mod.size
  have hsame : ∀ x, rl x ≠ 0 → (if w.heap.size ≤ x ∧ x < w1.heap.size then 1 else rl x) = rl x := by
    intro x hx
    rw [if_neg (by have := hold x hx; omega)]
  have k : Mod (fun x => rl x = 1) w w' := m1.no m2
  have n1 : ∀ {x}, rl x ≠ 0 → rl x ≠ 1 → ¬ (rl x = 1) := fun _ h => h
  refine ⟨fun x => if w.heap.size ≤ x ∧ x < w1.heap.size then 1 else rl x, ?_, hsame⟩
  exact {
    cx := by
      have e : (fun x => (if w.heap.size ≤ x ∧ x < w1.heap.size then 1 else rl x) = 1) = Gro (fun x => rl x = 1) w w1 := by
        funext x
        unfold Gro
        apply propext
        constructor
        · intro e
          split at e
          · rename_i hn; exact .inr hn
          · exact .inl e
        · rintro (e | e)
          · rw [hsame x (by omega)]; exact e
          · rw [if_pos e]
      rw [e]; exact hc
    cell := by
      have := h.cell.keep k (by rw [h.rsp]; omega)
      show AtU w' sp 0 [_, .int .i64 C'.D.vs.length, _, _, _]
      rw [hD]; exact this
    mapO := h.mapO.keep k (by rw [h.rmo]; omega)
    mapM := h.mapM.keep k (by rw [h.rmm]; omega)
    rsp := by show (if _ then 1 else rl sp) = 2; rw [hsame sp (by rw [h.rsp]; omega)]; exact h.rsp
    rmo := by show (if _ then 1 else rl mo) = 3; rw [hsame mo (by rw [h.rmo]; omega)]; exact h.rmo
    rmm := by show (if _ then 1 else rl mm) = 4; rw [hsame mm (by rw [h.rmm]; omega)]; exact h.rmm
    chs := fun x hx => by
      obtain ⟨h1, h2, h3⟩ := h.chs x hx
      refine ⟨h1, ?_, (h3.keep k (by omega) fun z hz => by omega).role fun z hz => ?_⟩
      · show (if _ then 1 else rl (ca x.id)) = _; rw [hsame _ (by omega)]; exact h2
      · show (if _ then 1 else rl z) = 5; rw [hsame z (by omega)]; exact hz
    ons := fun o ho => by
      obtain ⟨h1, h2, h3⟩ := h.ons o ho
      refine ⟨h1, ?_, (h3.keep k (by omega) (fun z hz => by omega) fun z hz => by omega).role hsame fun _ _ => rfl⟩
      show (if _ then 1 else rl (oa o.b)) = _; rw [hsame _ (by omega)]; exact h2
    keysO := h.keysO
    keysM := h.keysM
    wf := { full := (by show C'.D.vs.length ≤ C'.most; rw [hD, hm]; exact h.wf.full), onsN := h.wf.onsN, onlt := (fun o ho => by show o.b < C'.D.vs.length; rw [hD]; exact h.wf.onlt o ho), base := h.wf.base, llen := h.wf.llen, ids := h.wf.ids, idr := h.wf.idr, chb := h.wf.chb, dat := h.wf.dat, aft := h.wf.aft, last := h.wf.last }
    reg := fun x hx => by
      by_cases hn : w.heap.size ≤ x ∧ x < w1.heap.size
      · exact .inr hn
      · simp only [if_neg hn] at hx
        exact .inl (h.reg x hx)
    lo := fun x hx => by
      rcases hx with hx | hx
      · have := h.lo x hx; omega
      · omega
    mod := h.mod.trans k fun x hx e => by
      have := h.lo x (h.reg x (by omega))
      omega }
/-- A step in memory: the parts anew. -/
theorem PIn.step {S : Nat → Prop} {rl' ca' oa' : Nat → Nat} {Lo' Lm' : List (Int × Value)} {P' : Ps} (h : PIn w0 R rl w sp c d mo mm ca oa Lo Lm P) (hC : P'.C = P.C) (k : Mod S w w') (hx : Ext w w' rl rl') (hx1 : ∀ x, rl' x = 1 → rl x = 1)
    (hS : ∀ x, x < w.heap.size → S x → rl x ≠ 0 ∧ rl x ≠ 1 ∧ rl x ≠ 5)
    (hcell : AtU w' sp 0 [.pointer (some ⟨c, 0, none⟩), .int .i64 P.C.D.vs.length, .int .i64 P'.last, .map (some mo), .map (some mm)]) (hO : MapAt w' mo Lo') (hM : MapAt w' mm Lm')
    (hch : ∀ x ∈ P'.all, (x ∈ P.all ∧ lookupL Lo' x.id = lookupL Lo x.id ∧ ca' x.id = ca x.id ∧ ∀ q, S q → rl q ≠ 10 + 3 * x.id) ∨ (lookupL Lo' x.id = some (pV (ca' x.id)) ∧ rl' (ca' x.id) = 10 + 3 * x.id ∧ ChAt w' rl' (ca' x.id) x))
    (hon : ∀ o ∈ P'.ons, (o ∈ P.ons ∧ lookupL Lm' o.b = lookupL Lm o.b ∧ oa' o.b = oa o.b ∧ (∀ x ∈ o.l, ca' x.id = ca x.id) ∧ ∀ q, S q → rl q ≠ 8 + 3 * o.b ∧ rl q ≠ 9 + 3 * o.b) ∨ (lookupL Lm' o.b = some (pV (oa' o.b)) ∧ rl' (oa' o.b) = 8 + 3 * o.b ∧ OnAt w0 w' rl' ca' (oa' o.b) o))
    (hkO : ∀ p ∈ Lo', ∃ x ∈ P'.all, p.1 = (x.id : Int)) (hkM : ∀ p ∈ Lm', ∃ o ∈ P'.ons, p.1 = (o.b : Int)) (hwf : WFS P') :
    PIn w0 (Gro R w w') rl' w' sp c d mo mm ca' oa' Lo' Lm' P' where
  cx := by
    have e : (fun x => rl' x = 1) = fun x => rl x = 1 := by
      funext x
      exact propext ⟨hx1 x, fun e => by rw [hx.old x (by omega)]; exact e⟩
    rw [e, hC]
    refine h.cx.keep k (fun x hx' e => ?_) fun x hx' e => ?_
    · have e1 : rl x = 1 := hx'
      have := hS x (h.lo x (h.reg x (by omega))).2 e
      omega
    · have := h.mod.size
      have := hS x (by omega) e
      have := h.lo x (h.reg x (by omega))
      omega
  cell := by rw [hC]; exact hcell
  mapO := hO
  mapM := hM
  rsp := by rw [hx.old sp (by rw [h.rsp]; omega)]; exact h.rsp
  rmo := by rw [hx.old mo (by rw [h.rmo]; omega)]; exact h.rmo
  rmm := by rw [hx.old mm (by rw [h.rmm]; omega)]; exact h.rmm
  chs := fun x hx' => by
    rcases hch x hx' with ⟨e1, e2, e3, e4⟩ | hn
    · obtain ⟨h1, h2, h3⟩ := h.chs x e1
      rw [e3]
      refine ⟨e2.trans h1, by rw [hx.old _ (by omega)]; exact h2, (h3.keep k (fun e => e4 _ e h2) fun z hz e => ?_).role fun z hz => by rw [hx.old z (by omega)]; exact hz⟩
      have := hS z (h.lo z (h.reg z (by omega))).2 e
      omega
    · exact hn
  ons := fun o ho => by
    rcases hon o ho with ⟨e1, e2, e3, e4, e5⟩ | hn
    · obtain ⟨h1, h2, h3⟩ := h.ons o e1
      rw [e3]
      refine ⟨e2.trans h1, by rw [hx.old _ (by omega)]; exact h2, (h3.keep k (fun e => (e5 _ e).1 h2) (fun z hz e => ?_) fun z hz e => (e5 _ e).2 hz).role hx.old e4⟩
      have := hS z (h.lo z (h.reg z (by omega))).2 e
      omega
    · exact hn
  keysO := hkO
  keysM := hkM
  wf := hwf
  reg := fun x hn => by
    by_cases e : rl x = 0
    · exact .inr (hx.new x e hn)
    · exact .inl (h.reg x e)
  lo := fun x hx => by
    have := k.size
    have := h.mod.size
    rcases hx with hx | hx
    · have := h.lo x hx; omega
    · omega
  mod := h.mod.trans k fun x hx e => by
    have := h.mod.size
    have := hS x (by omega) e
    have := h.lo x (h.reg x (by omega))
    omega
end
end Go.Proofs.Ytgcecmfjpljpcaa

/- Layer 11, the program's store: which changes may be written, and bytes with some changes. -/
open Go Go.Den Go.Proofs
namespace Go.Proofs.Ytgcecmfjpljpcaa
section
variable {w0 w w' : World} {R : Nat → Prop} {rl : Nat → Nat} {sp c d mo mm : Nat} {ca oa : Nat → Nat} {Lo Lm : List (Int × Value)} {P : Ps} {K : Value → World → Prop}
theorem mapOpen : mapZ Try.prog 118 = some (.pointer none) := by kernel_rfl
theorem mapOns : mapZ Try.prog 119 = some (.pointer none) := by kernel_rfl
theorem mapOk : mapZ Try.prog 123 = some (.bool false) := by kernel_rfl
theorem PIn.lc (h : PIn w0 R rl w sp c d mo mm ca oa Lo Lm P) : Ru (Instr.loadAt 28 (.pointer (some (Addr.add ⟨sp, 0, none⟩ 0)))) w (.pointer (some ⟨c, 0, none⟩)) w := by
  rw [add_none]; exact h.cell.at.load (by kernel_rfl) rfl
theorem PIn.llen' (h : PIn w0 R rl w sp c d mo mm ca oa Lo Lm P) : Ru (Instr.loadAt 3 (.pointer (some (Addr.add ⟨sp, 0, none⟩ 1)))) w (.int .i64 P.C.D.vs.length) w := by
  rw [add_none]; exact h.cell.at.load (by kernel_rfl) rfl
theorem PIn.llast (h : PIn w0 R rl w sp c d mo mm ca oa Lo Lm P) : Ru (Instr.loadAt 2 (.pointer (some (Addr.add ⟨sp, 0, none⟩ 2)))) w (.int .i64 P.last) w := by
  rw [add_none]; exact h.cell.at.load (by kernel_rfl) rfl
theorem PIn.lo' (h : PIn w0 R rl w sp c d mo mm ca oa Lo Lm P) : Ru (Instr.loadAt 118 (.pointer (some (Addr.add ⟨sp, 0, none⟩ 3)))) w (.map (some mo)) w := by
  rw [add_none]; exact h.cell.at.load (by kernel_rfl) rfl
theorem PIn.lm (h : PIn w0 R rl w sp c d mo mm ca oa Lo Lm P) : Ru (Instr.loadAt 119 (.pointer (some (Addr.add ⟨sp, 0, none⟩ 4)))) w (.map (some mm)) w := by
  rw [add_none]; exact h.cell.at.load (by kernel_rfl) rfl
/-- What the map of open changes tells of a number. -/
theorem PIn.lookO (h : PIn w0 R rl w sp c d mo mm ca oa Lo Lm P) (n : Int) : ∃ p : Option Addr, Ru (Instr.lookup 118 (.map (some mo)) (.int .i64 n) false) w (.pointer p) w ∧ p.isNone = !P.opn n ∧ ∀ x ∈ P.all, (x.id : Int) = n → p = some ⟨ca x.id, 0, none⟩ := by
  have hl := lookup_run (P := Try.prog) mapOpen h.mapO (k := n)
  cases hL : lookupL Lo n with
  | none =>
    rw [hL] at hl
    have hno : ∀ x ∈ P.all, (x.id : Int) ≠ n := fun x hx e => by
      have := (h.chs x hx).1
      rw [e, hL] at this; cases this
    refine ⟨none, hl, ?_, fun x hx e => absurd e (hno x hx)⟩
    have : P.opn n = false := by
      unfold Ps.opn
      rw [List.any_eq_false]
      intro x hx; simpa using hno x hx
    rw [this]; rfl
  | some v =>
    rw [hL] at hl
    obtain ⟨x, hx, e⟩ := h.keysO _ (look_mem hL)
    have e2 : n = (x.id : Int) := e
    have h1 := (h.chs x hx).1
    rw [← e2, hL] at h1
    have := Option.some.inj h1
    subst this
    have ho : P.opn n = true := by
      unfold Ps.opn
      rw [List.any_eq_true]
      exact ⟨x, hx, by simp [e2]⟩
    refine ⟨some ⟨ca x.id, 0, none⟩, hl, by rw [ho]; rfl, fun y hy ey => ?_⟩
    have h2 := (h.chs y hy).1
    rw [ey, hL] at h2
    have := Option.some.inj h2
    simp [pV] at this
    rw [this]
def onOf (P : Ps) (n : Int) : Option On := P.ons.find? fun o => (o.b : Int) == n
theorem onOf_some {P : Ps} {n : Int} {o : On} (h : onOf P n = some o) : o ∈ P.ons ∧ n = (o.b : Int) := by
  unfold onOf at h
  refine ⟨List.mem_of_find?_eq_some h, ?_⟩
  have := List.find?_some h
  simp at this; exact this.symm
theorem onOf_none {P : Ps} {n : Int} (h : onOf P n = none) : ∀ o ∈ P.ons, (o.b : Int) ≠ n := by
  unfold onOf at h
  intro o ho
  have := List.find?_eq_none.1 h o ho
  simpa using this
theorem PIn.lookM (h : PIn w0 R rl w sp c d mo mm ca oa Lo Lm P) (n : Int) : Ru (Instr.lookup 119 (.map (some mm)) (.int .i64 n) false) w (.pointer ((onOf P n).map fun o => ⟨oa o.b, 0, none⟩)) w := by
  have hl := lookup_run (P := Try.prog) mapOns h.mapM (k := n)
  cases ho : onOf P n with
  | none =>
    have hL : lookupL Lm n = none := by
      cases hL : lookupL Lm n with
      | none => rfl
      | some v =>
        obtain ⟨o, ho', e⟩ := h.keysM _ (look_mem hL)
        exact absurd (show (o.b : Int) = n from e.symm) (onOf_none ho o ho')
    rw [hL] at hl; exact hl
  | some o =>
    obtain ⟨h1, rfl⟩ := onOf_some ho
    rw [(h.ons o h1).1] at hl
    exact hl
/-- The fields of a change. -/
theorem ChAt.ld {q j : Nat} {x : Ch} (h : ChAt w rl q x) {T : TypeId} {v : Value} (hT : scal Try.prog T = true)
    (hj : ∀ gd cd aa cc, ([.int .i64 x.id, .int .i64 x.b, .int .i64 x.frm, .slice (some ⟨gd, 0, none⟩) x.data.length cd, .slice aa x.after.length cc, .bool x.out] : List Value)[j]? = some v) : Ru (Instr.loadAt T (.pointer (some (Addr.add ⟨q, 0, none⟩ j)))) w v w := by
  obtain ⟨gd, cd, aa, cc, h1, _⟩ := h
  have := h1.at.load (P := Try.prog) hT (hj gd cd aa cc)
  rw [Nat.zero_add] at this
  rw [add_none, Nat.zero_add]; exact this
theorem ChAt.ldD {q : Nat} {x : Ch} (h : ChAt w rl q x) : ∃ gd cd, Ru (Instr.loadAt 32 (.pointer (some (Addr.add ⟨q, 0, none⟩ 3)))) w (.slice (some ⟨gd, 0, none⟩) x.data.length cd) w ∧ At w gd 0 (u8L x.data) := by
  obtain ⟨gd, cd, aa, cc, h1, h2, _⟩ := h
  exact ⟨gd, cd, by rw [add_none]; exact h1.at.load (by kernel_rfl) rfl, h2⟩
theorem ChAt.ldA {q : Nat} {x : Ch} (h : ChAt w rl q x) : ∃ aa cc, Ru (Instr.loadAt 64 (.pointer (some (Addr.add ⟨q, 0, none⟩ 4)))) w (.slice aa x.after.length cc) w ∧ Row w aa (iL x.after) := by
  obtain ⟨gd, cd, aa, cc, h1, _, _, h4, _⟩ := h
  exact ⟨aa, cc, by rw [add_none]; exact h1.at.load (by kernel_rfl) rfl, h4⟩
theorem given_c (h : PIn w0 R rl w sp c d mo mm ca oa Lo Lm P) {n : Int} (hk : K (.bool (decide (1 ≤ n ∧ n ≤ P.last))) w) : Cal Try.prog F_patch_Store_given #[.pointer (some ⟨sp, 0, none⟩), .int .i64 n] w K := by
  apply C_patch_Store_given
  unfold D_patch_Store_given
  refine Share.cut (fun x w' => x = [.bool (decide (1 ≤ n ∧ n ≤ P.last))] ∧ w' = w) (cond_of (fun hb => ?_) (fun hb => ?_)) ?_
  · have := of_decide_eq_true hb
    refine ⟨_, rfl, _, h.llast, ?_, rfl⟩
    congr 2; rw [Bool.eq_iff_iff]; simp only [decide_eq_true_eq]; omega
  · have := of_decide_eq_false hb
    refine ⟨?_, rfl⟩
    congr 2; rw [Bool.eq_iff_iff]; simp; omega
  · rintro x w' ⟨rfl, rfl⟩
    exact ⟨_, rfl, hk⟩
set_option maxRecDepth 100000 in
theorem meets_c {q1 q2 : Nat} {x y : Ch} (h1 : ChAt w rl q1 x) (h2 : ChAt w rl q2 y) (b1 : x.frm + x.data.length ≤ 256) (b2 : y.frm + y.data.length ≤ 256) (hk : ∀ w', Mod No w w' → K (.bool (meetB x y)) w') : Cal Try.prog F_patch_change_meets #[.pointer (some ⟨q1, 0, none⟩), .pointer (some ⟨q2, 0, none⟩)] w K := by
  apply C_patch_change_meets
  unfold D_patch_change_meets
  have md : Mod No w (Go.Den.drew w) := (Mod.refl No w).drew
  have h1d : ChAt (Go.Den.drew w) rl q1 x := h1.keep md id fun _ _ => id
  have h2d : ChAt (Go.Den.drew w) rl q2 y := h2.keep md id fun _ _ => id
  obtain ⟨g1, c1, d1, _⟩ := h1d.ldD
  obtain ⟨g2, c2, d2, _⟩ := h2d.ldD
  refine Share.cut (fun z w' => z = [.bool (meetB x y)] ∧ w' = Go.Den.drew w) ⟨_, rfl, _, h1d.ld (j := 2) (by kernel_rfl) (fun _ _ _ _ => rfl), _, rfl, _, h2d.ld (j := 2) (by kernel_rfl) (fun _ _ _ _ => rfl), _, rfl, _, _, _, d2, ?_⟩ ?_
  · rw [wrap64 (x := (y.frm : Int) + (y.data.length : Int)) (by omega) (by omega)]
    refine cond_of (fun hb => ?_) (fun hb => ?_)
    · have hb := of_decide_eq_true hb
      refine ⟨_, rfl, _, h2d.ld (j := 2) (by kernel_rfl) (fun _ _ _ _ => rfl), _, rfl, _, h1d.ld (j := 2) (by kernel_rfl) (fun _ _ _ _ => rfl), _, rfl, _, _, _, d1, ?_, rfl⟩
      rw [wrap64 (x := (x.frm : Int) + (x.data.length : Int)) (by omega) (by omega)]
      unfold meetB
      have e1 : decide (x.frm < y.frm + y.data.length) = true := decide_eq_true (by omega)
      rw [e1, Bool.true_and]
      congr 2; rw [Bool.eq_iff_iff]; simp only [decide_eq_true_eq]; omega
    · have hb := of_decide_eq_false hb
      refine ⟨?_, rfl⟩
      unfold meetB
      have e1 : decide (x.frm < y.frm + y.data.length) = false := decide_eq_false (by omega)
      rw [e1, Bool.false_and]
  · rintro z w' ⟨rfl, rfl⟩
    exact ⟨_, rfl, hk _ md⟩
/-- The map of those that may be written. -/
def okM (l : List Int) : List (Int × Value) := l.map fun k => (k, .bool true)
theorem look_ok : ∀ (l : List Int) (k : Int), lookupL (okM l) k = if l.contains k then some (.bool true) else none
  | [], k => rfl
  | x :: r, k => by
    have ih := look_ok r k
    unfold okM at ih ⊢
    rw [List.map_cons]
    simp only [lookupL]
    by_cases h : x = k
    · subst h; simp
    · have h' : ¬ k = x := fun e => h e.symm
      rw [if_neg h, ih]
      simp [h']
set_option maxRecDepth 100000 in
theorem lookOk {m : Nat} {l : List Int} (h : MapAt w m (okM l)) (k : Int) : Ru (Instr.lookup 123 (.map (some m)) (.int .i64 k) false) w (.bool (l.contains k)) w := by
  have := lookup_run (P := Try.prog) mapOk h (k := k)
  rw [look_ok] at this
  by_cases hc : l.contains k = true
  · rw [if_pos hc] at this; rw [hc]; exact this
  · rw [if_neg hc] at this
    have : l.contains k = false := by simpa using hc
    rw [this]; assumption
/-- A cell that holds a map of marks; a cell that holds a pointer. -/
theorem tells_may1 {S : Nat → Prop} {q2 q5 m9 : Nat} {ok xs : List Int} (h : PIn w0 R rl w sp c d mo mm ca oa Lo Lm P) (hS : ∀ x, ¬ S x) (h2 : At w q2 0 [.pointer (some ⟨sp, 0, none⟩)]) (h5 : At w q5 0 [.map (some m9)]) (h9 : MapAt w m9 (okM ok)) :
    Tells (.func (.func F_patch_Store_may_1) #[] #[.pointer (some ⟨q2, 0, none⟩), .pointer (some ⟨q5, 0, none⟩)]) w S (fun id => P.opn id && !(ok.contains id)) xs := by
  intro w' k x _ K hK
  have k' : Mod No w w' := k.mono fun z _ e => absurd e (hS z)
  have h' := h.nos k'
  refine ⟨_, _, _, rfl, ?_⟩
  show Cal Try.prog F_patch_Store_may_1 #[.int .i64 x, .pointer (some ⟨q2, 0, none⟩), .pointer (some ⟨q5, 0, none⟩)] w' K
  apply C_patch_Store_may_1
  obtain ⟨p, hp, hpn, _⟩ := h'.lookO x
  refine Share.cut (fun z w2 => z = [.bool (P.opn x && !(ok.contains x))] ∧ w2 = w') ⟨_, (h2.keep k' id).load (i := 0) (by kernel_rfl) rfl, _, rfl, some mo, h'.lo', p, hp, cond_of (fun hb => ?_) (fun hb => ?_)⟩ ?_
  · have ho : P.opn x = true := by
      have : p.isNone = false := by simpa using hb
      rw [hpn] at this; simpa using this
    refine ⟨some m9, (h5.keep k' id).load (i := 0) (by kernel_rfl) rfl, _, lookOk (h9.keep k' id) x, ?_, rfl⟩
    rw [ho, Bool.true_and]
  · have ho : P.opn x = false := by
      have : p.isNone = true := by simpa using hb
      rw [hpn] at this; simpa using this
    rw [ho, Bool.false_and]; exact ⟨rfl, rfl⟩
  · rintro z w2 ⟨rfl, rfl⟩
    exact ⟨_, rfl, hK _ (Mod.refl _ _)⟩
theorem tells_may2 {S : Nat → Prop} {q7 q5 m9 : Nat} {y : Ch} {ok : List Int} {l : List Ch} (h : PIn w0 R rl w sp c d mo mm ca oa Lo Lm P) (hS : ∀ x, ¬ S x) (hl : ∀ x ∈ l, x ∈ P.all) (hy : y ∈ P.all) (h7 : At w q7 0 [.pointer (some ⟨ca y.id, 0, none⟩)]) (h5 : At w q5 0 [.map (some m9)]) (h9 : MapAt w m9 (okM ok))
    (p : Nat → Bool) (hp : ∀ x ∈ l, p (ca x.id) = (meetB x y && !(ok.contains (x.id : Int)))) :
    TellsP (.func (.func F_patch_Store_may_2) #[] #[.pointer (some ⟨q7, 0, none⟩), .pointer (some ⟨q5, 0, none⟩)]) w S p (l.map fun x => ca x.id) := by
  intro w' k qx hqx K hK
  obtain ⟨x, hx, rfl⟩ := List.mem_map.1 hqx
  have k' : Mod No w w' := k.mono fun z _ e => absurd e (hS z)
  have md : Mod No w' (Go.Den.drew w') := (Mod.refl No w').drew
  have k2 := k'.no md
  have h' := h.nos k2
  have hxa := hl x hx
  refine ⟨_, _, _, rfl, ?_⟩
  show Cal Try.prog F_patch_Store_may_2 #[.pointer (some ⟨ca x.id, 0, none⟩), .pointer (some ⟨q7, 0, none⟩), .pointer (some ⟨q5, 0, none⟩)] w' K
  apply C_patch_Store_may_2
  refine Share.cut (fun z w2 => z = [.bool (meetB x y && !(ok.contains (x.id : Int)))] ∧ Mod No w' w2) ⟨_, (h7.keep k2 id).load (i := 0) (by kernel_rfl) rfl, meets_c (h'.chs x hxa).2.2 (h'.chs y hy).2.2 (h.wf.dat x hxa).2 (h.wf.dat y hy).2 fun w1 m1 => ⟨_, rfl, cond_of (fun hb => ?_) (fun hb => ?_)⟩⟩ ?_
  · have h1 := h'.nos m1
    have k3 := k2.no m1
    refine ⟨some m9, (h5.keep k3 id).load (i := 0) (by kernel_rfl) rfl, _, rfl, _, (h1.chs x hxa).2.2.ld (j := 0) (by kernel_rfl) (fun _ _ _ _ => rfl), _, lookOk (h9.keep k3 id) _, ?_, md.no m1⟩
    rw [hb, Bool.true_and]
  · rw [hb, Bool.false_and]; exact ⟨rfl, md.no m1⟩
  · rintro z w2 ⟨rfl, m2⟩
    refine ⟨_, rfl, ?_⟩
    have := hK w2 m2
    rwa [hp x hx] at this
end
end Go.Proofs.Ytgcecmfjpljpcaa

/- Layer 11, the program's store: may and with. -/
open Go Go.Den Go.Proofs
namespace Go.Proofs.Ytgcecmfjpljpcaa
theorem sub_all {P : Ps} {o : On} (ho : o ∈ P.ons) : o.l.Sublist P.all := by
  unfold Ps.all
  rw [List.flatMap_def]
  exact List.sublist_flatten_of_mem (List.mem_map.2 ⟨o, ho, rfl⟩)
theorem ids_on {P : Ps} (h : WFS P) {o : On} (ho : o ∈ P.ons) : (o.l.map (·.id)).Nodup := ((sub_all ho).map _).nodup h.ids
theorem on_all {P : Ps} {o : On} (ho : o ∈ P.ons) {x : Ch} (hx : x ∈ o.l) : x ∈ P.all := mem_all.2 ⟨o, ho, hx⟩
theorem mayN_mem {op : Int → Bool} {l : List Ch} : ∀ (n : Nat) (k : Int), k ∈ mayN op l n → ∃ x ∈ l.take n, k = (x.id : Int)
  | 0, k, h => by simp [mayN] at h
  | n + 1, k, h => by
    unfold mayN at h
    cases hx : l[n]? with
    | none =>
      rw [hx] at h
      obtain ⟨x, h1, h2⟩ := mayN_mem n k h
      exact ⟨x, List.take_subset_take_left l (by omega) h1, h2⟩
    | some c =>
      rw [hx] at h
      obtain ⟨hn, he⟩ := List.getElem?_eq_some_iff.1 hx
      have ht : l.take (n + 1) = l.take n ++ [c] := by rw [List.take_succ_eq_append_getElem hn, he]
      rw [ht]
      have h : k ∈ (if badB op (l.take n) (mayN op l n) c = true then mayN op l n else mayN op l n ++ [(c.id : Int)]) := h
      split at h
      · obtain ⟨x, h1, h2⟩ := mayN_mem n k h
        exact ⟨x, List.mem_append.2 (.inl h1), h2⟩
      · rcases List.mem_append.1 h with h | h
        · obtain ⟨x, h1, h2⟩ := mayN_mem n k h
          exact ⟨x, List.mem_append.2 (.inl h1), h2⟩
        · simp at h; exact ⟨c, by simp, h⟩
theorem okM_snoc {l : List Int} {k : Int} (h : k ∉ l) : putL k (.bool true) (okM l) = okM (l ++ [k]) := by
  rw [putL_new]
  · simp [okM]
  · intro p hp
    unfold okM at hp
    obtain ⟨x, hx, rfl⟩ := List.mem_map.1 hp
    intro e
    exact h (by rw [← e]; exact hx)
/-- A mark of changes as a mark of where they lie. -/
def pOf (ca : Nat → Nat) (f : Ch → Bool) (l : List Ch) (q : Nat) : Bool := match l.find? fun x => ca x.id == q with | some x => f x | none => false
section
variable {w0 w w' : World} {R : Nat → Prop} {rl : Nat → Nat} {sp c d mo mm : Nat} {ca oa : Nat → Nat} {Lo Lm : List (Int × Value)} {P : Ps} {K : Value → World → Prop}
theorem PIn.inj (h : PIn w0 R rl w sp c d mo mm ca oa Lo Lm P) {x y : Ch} (hx : x ∈ P.all) (hy : y ∈ P.all) (e : ca x.id = ca y.id) : x = y := by
  have h1 := (h.chs x hx).2.1
  have h2 := (h.chs y hy).2.1
  rw [e, h2] at h1
  exact map_inj h.wf.ids hx hy (by omega)
theorem PIn.pOf (h : PIn w0 R rl w sp c d mo mm ca oa Lo Lm P) {f : Ch → Bool} {l : List Ch} (hl : ∀ x ∈ l, x ∈ P.all) {x : Ch} (hx : x ∈ l) : pOf ca f l (ca x.id) = f x := by
  unfold Go.Proofs.Ytgcecmfjpljpcaa.pOf
  cases hf : l.find? fun y => ca y.id == ca x.id with
  | none =>
    have := List.find?_eq_none.1 hf x hx
    simp at this
  | some y =>
    have hy := List.mem_of_find?_eq_some hf
    have he := List.find?_some hf
    simp at he
    rw [h.inj (hl y hy) (hl x hx) he]
theorem any_pOf (h : PIn w0 R rl w sp c d mo mm ca oa Lo Lm P) {f : Ch → Bool} {l : List Ch} (hl : ∀ x ∈ l, x ∈ P.all) : (l.map fun x => ca x.id).any (Go.Proofs.Ytgcecmfjpljpcaa.pOf ca f l) = l.any f := by
  rw [List.any_map]
  rw [Bool.eq_iff_iff, List.any_eq_true, List.any_eq_true]
  constructor
  · rintro ⟨x, hx, e⟩
    simp only [Function.comp] at e
    rw [h.pOf hl hx] at e
    exact ⟨x, hx, e⟩
  · rintro ⟨x, hx, e⟩
    refine ⟨x, hx, ?_⟩
    simp only [Function.comp]
    rw [h.pOf hl hx]; exact e
theorem OnAt.ldL {o : On} {q : Nat} (h : OnAt w0 w rl ca q o) : ∃ la lc, Ru (Instr.loadAt 125 (.pointer (some (Addr.add ⟨q, 0, none⟩ 1)))) w (.slice la o.l.length lc) w ∧ Row w la (pL (o.l.map fun x => ca x.id)) ∧ o.l.length ≤ lc ∧ ∀ q, la = some q → rl q.block = 9 + 3 * o.b := by
  obtain ⟨g, cc, la, lc, h1, h2, h3, h4, h5⟩ := h
  exact ⟨la, lc, by rw [add_none]; exact h1.at.load (by kernel_rfl) rfl, h4.rowU.row, h4.cap.1, h5⟩
theorem OnAt.ldB {o : On} {q : Nat} (h : OnAt w0 w rl ca q o) : ∃ g cc, Ru (Instr.loadAt 32 (.pointer (some (Addr.add ⟨q, 0, none⟩ 0)))) w (.slice (some ⟨g, 0, none⟩) 256 cc) w ∧ At w g 0 (u8L o.base) := by
  obtain ⟨g, cc, la, lc, h1, h2, h3, h4, h5⟩ := h
  exact ⟨g, cc, by rw [add_none]; exact h1.at.load (by kernel_rfl) rfl, h2⟩
theorem box_store (w : World) (p : Option Addr) : (Instr.box 60 (.pointer p)).run Try.prog w = .ok (.pointer (some ⟨w.heap.size, 0, none⟩)) (w.alloc (.cells ⟨[.pointer p]⟩ 60)) := rfl
theorem alloc_map (w : World) : (Instr.alloc 123 true (.tuple #[])).run Try.prog w = .ok (.pointer (some ⟨w.heap.size, 0, none⟩)) (w.alloc (.cells ⟨[.map none]⟩ 123)) := by kernel_rfl
theorem alloc_pch (w : World) : (Instr.alloc 128 true (.tuple #[])).run Try.prog w = .ok (.pointer (some ⟨w.heap.size, 0, none⟩)) (w.alloc (.cells ⟨[.pointer none]⟩ 128)) := by kernel_rfl
theorem store_one {T : TypeId} {z v : Value} {t : TypeId} (hT : scal Try.prog T = true) (hv : v.oneCell' = true) : RuU (Instr.storeAt T (.pointer (some ⟨w.heap.size, 0, none⟩)) v) (w.alloc (.cells ⟨[z]⟩ t)) (w.alloc (.cells ⟨[v]⟩ t)) := by
  have := store_cell (P := Try.prog) (w := w.alloc (.cells ⟨[z]⟩ t)) (T := T) (b := w.heap.size) (o := 0) (l := [z]) (t := t) (fz := (0, 0)) (v := v) hT (heap_new w _) (by simp) (by simp) hv
  rw [put_new] at this
  exact this
theorem idx_ch {g n c i : Nat} (hi : i < n) : Al (Instr.indexAt 125 (.slice (some ⟨g, 0, none⟩) n c) (.int .i64 i)) (.pointer (some ⟨g, i, none⟩)) := by
  intro w'
  have := index_slice (P := Try.prog) (T := 125) (k := 1) (a := ⟨g, 0, none⟩) (n := n) (c := c) (kk := .i64) (i := i) (by kernel_rfl) (by omega) (by omega) w'
  rw [Int.toNat_natCast, add_none, Nat.zero_add, Nat.mul_one] at this
  exact this
set_option maxRecDepth 100000 in
theorem may11_c (h : PIn w0 R rl w sp c d mo mm ca oa Lo Lm P) {o : On} (ho : o ∈ P.ons) (hk : ∀ w' m, Mod No w w' → w.heap.size ≤ m → MapAt w' m (okM (mayL P.opn o.l)) → K (.map (some m)) w') :
    Cal Try.prog F_patch_Store_may #[.pointer (some ⟨sp, 0, none⟩), .pointer (some ⟨oa o.b, 0, none⟩)] w K := by
  apply C_patch_Store_may
  unfold D_patch_Store_may
  have m1 : Mod No w (w.alloc (.cells ⟨[.pointer (some ⟨sp, 0, none⟩)]⟩ 60)) := (Mod.refl No w).alloc _
  have a2 : At (w.alloc (.cells ⟨[.pointer (some ⟨sp, 0, none⟩)]⟩ 60)) w.heap.size 0 [.pointer (some ⟨sp, 0, none⟩)] := AtU.new.at
  have s1 : (w.alloc (.cells ⟨[.pointer (some ⟨sp, 0, none⟩)]⟩ 60)).heap.size = w.heap.size + 1 := by simp
  refine ⟨_, _, box_store _ _, ?_⟩
  generalize w.alloc (.cells ⟨[.pointer (some ⟨sp, 0, none⟩)]⟩ 60) = w1 at *
  have m2 : Mod No w1 (w1.alloc (.map #[] 0)) := (Mod.refl No w1).alloc _
  have mp2 : MapAt (w1.alloc (.map #[] 0)) w1.heap.size [] := MapAt.new
  have s2 : (w1.alloc (.map #[] 0)).heap.size = w1.heap.size + 1 := by simp
  refine ⟨_, _, makeMap_run, ?_⟩
  generalize w1.alloc (.map #[] 0) = w2 at *
  have m3 : Mod No w2 (w2.alloc (.cells ⟨[.map (some w1.heap.size)]⟩ 123)) := (Mod.refl No w2).alloc _
  have a5 : At (w2.alloc (.cells ⟨[.map (some w1.heap.size)]⟩ 123)) w2.heap.size 0 [.map (some w1.heap.size)] := AtU.new.at
  have s3 : (w2.alloc (.cells ⟨[.map (some w1.heap.size)]⟩ 123)).heap.size = w2.heap.size + 1 := by simp
  refine ⟨_, _, alloc_map _, _, store_one (by kernel_rfl) rfl, _, rfl, ?_⟩
  generalize w2.alloc (.cells ⟨[.map (some w1.heap.size)]⟩ 123) = w4 at *
  have M4 := (m1.no m2).no m3
  have h4 := h.nos M4
  obtain ⟨la, lc, l1, l2, l3, l4⟩ := (h4.ons o ho).2.2.ldL
  have hll := h.wf.llen o ho
  have hlast := h.wf.last
  have hoa := fun x hx => on_all ho (x := x) hx
  refine ⟨la, _, lc, l1, ⟨fun x w5 => ∃ (i : Nat) (y : Value), i ≤ o.l.length ∧ x = [y, .int .i64 i] ∧ MapAt w5 w1.heap.size (okM (mayN P.opn o.l i)) ∧ Mod (fun z => z = w1.heap.size) w4 w5, fun x _ => (o.l.length - nI x 1).toNat, ⟨0, _, by omega, rfl, (mp2.keep m3 id), Mod.refl _ _⟩, ?_⟩⟩
  rintro x w5 ⟨i, y, hi, rfl, mp5, M5⟩
  have M5' : Mod No w w5 := M4.anys.trans M5 fun z hz e => by omega
  have h5 := h.nos M5'
  have a25 : At w5 w.heap.size 0 [.pointer (some ⟨sp, 0, none⟩)] := ((a2.keep m2 id).keep m3 id).keep M5 (by omega)
  have a55 : At w5 w2.heap.size 0 [.map (some w1.heap.size)] := a5.keep M5 (by omega)
  refine ⟨_, rfl, cond_of (fun hb => ?_) (fun hb => ?_)⟩
  · have hi : i < o.l.length := by have := of_decide_eq_true hb; omega
    have hxm := List.getElem_mem hi
    have hxa := hoa _ hxm
    have hlr : Row w5 la (pL (o.l.map fun x => ca x.id)) := l2.keep M5 fun q hq e => by
      have h9 := l4 q hq
      have h0 := h.out_of (x := w1.heap.size) (by omega)
      rw [e] at h9
      omega
    have hilm : i < (o.l.map fun x => ca x.id).length := by simp; exact hi
    obtain ⟨b3, o3, hla, hat3⟩ := row_someP hlr hilm
    subst hla
    have hld := hat3.load (P := Try.prog) (T := 128) (by kernel_rfl) (pL_get hilm)
    rw [List.getElem_map] at hld
    refine ⟨_, index_slice (k := 1) (by kernel_rfl) (by omega) (by omega), ?_⟩
    rw [add_none, show (i : Int).toNat * 1 = i by omega]
    refine ⟨_, hld, _, _, alloc_pch _, _, store_one (by kernel_rfl) rfl, ?_⟩
    have m7 : Mod No w5 (w5.alloc (.cells ⟨[.pointer (some ⟨ca o.l[i].id, 0, none⟩)]⟩ 128)) := (Mod.refl No w5).alloc _
    have a7 : At (w5.alloc (.cells ⟨[.pointer (some ⟨ca o.l[i].id, 0, none⟩)]⟩ 128)) w5.heap.size 0 [.pointer (some ⟨ca o.l[i].id, 0, none⟩)] := AtU.new.at
    have s7 : (w5.alloc (.cells ⟨[.pointer (some ⟨ca o.l[i].id, 0, none⟩)]⟩ 128)).heap.size = w5.heap.size + 1 := by simp
    generalize w5.alloc (.cells ⟨[.pointer (some ⟨ca o.l[i].id, 0, none⟩)]⟩ 128) = w7 at *
    have h7 := h5.nos m7
    obtain ⟨aa, ac, d1, d2⟩ := (h7.chs _ hxa).2.2.ldA
    have haf := h.wf.aft _ hxa
    refine ⟨_, a7.load (i := 0) (by kernel_rfl) rfl, _, rfl, _, _, _, d1, ?_⟩
    refine Contains64_c (S := No) rfl (by omega) d2 (tells_may1 (S := No) h7 (fun _ => id) (a25.keep m7 id) (a55.keep m7 id) (mp5.keep m7 id)) fun w8 m8 => ⟨_, rfl, ?_⟩
    have m58 := m7.no m8
    have h8 := h7.nos m8
    refine Share.cut (fun z w10 => z = [.bool (badB P.opn (o.l.take i) (mayN P.opn o.l i) o.l[i])] ∧ Mod No w5 w10 ∧ At w10 w5.heap.size 0 [.pointer (some ⟨ca o.l[i].id, 0, none⟩)]) (cond_of (fun hb => ?_) (fun hb => ?_)) ?_
    · unfold badB; rw [hb, Bool.true_or]; exact ⟨rfl, m58, a7.keep m8 id⟩
    · obtain ⟨la', lc', l1', l2', l3', _⟩ := (h8.ons o ho).2.2.ldL
      refine ⟨_, rfl, la', _, lc', l1', _, _, _, slice_h (k := 1) (by kernel_rfl) (by omega) (by omega), ?_⟩
      rw [Int.toNat_natCast]
      have hsub : ∀ x ∈ o.l.take i, x ∈ P.all := fun x hx => hoa x (List.mem_of_mem_take hx)
      have hrow' : Row w8 (cutA la' lc' 0 1) (pL ((o.l.take i).map fun x => ca x.id)) := by
        by_cases h0 : i = 0
        · subst h0; exact .inl rfl
        · obtain ⟨b4, o4, e4, hat4⟩ := row_someP (i := 0) l2' (by simp; omega)
          right
          refine ⟨b4, o4, ?_, ?_⟩
          · rw [e4]; unfold cutA; rw [if_neg (by omega)]; simp [add_none]
          · have := hat4.sub (i := 0) (m := i) (by simp; omega)
            rw [List.drop_zero, Nat.add_zero] at this
            have e5 : (pL (o.l.map fun x => ca x.id)).take i = pL ((o.l.take i).map fun x => ca x.id) := by simp [pL, List.map_take]
            rw [e5] at this; exact this
      refine ContainsP_c (S := No) (xs := (o.l.take i).map fun x => ca x.id) (by simp; omega) (by omega) hrow'
        (tells_may2 (S := No) h8 (fun _ => id) hsub hxa (a7.keep m8 id) (a55.keep m58 id) (mp5.keep m58 id) (Go.Proofs.Ytgcecmfjpljpcaa.pOf ca (fun x => meetB x o.l[i] && !((mayN P.opn o.l i).contains (x.id : Int))) (o.l.take i)) fun x hx => h8.pOf hsub hx) fun w9 m9 => ⟨_, rfl, ?_, m58.no m9, (a7.keep m8 id).keep m9 id⟩
      rw [any_pOf h8 hsub]
      unfold badB; rw [hb, Bool.false_or]
    · rintro z w10 ⟨rfl, m10, a10⟩
      have hsucc : mayN P.opn o.l (i + 1) = if badB P.opn (o.l.take i) (mayN P.opn o.l i) o.l[i] = true then mayN P.opn o.l i else mayN P.opn o.l i ++ [(o.l[i].id : Int)] := by
        conv => lhs; unfold mayN
        rw [List.getElem?_eq_getElem hi]
      have M10 : Mod (fun z => z = w1.heap.size) w4 w10 := M5.no m10
      refine ⟨_, rfl, Share.cut (fun z w12 => MapAt w12 w1.heap.size (okM (mayN P.opn o.l (i + 1))) ∧ Mod (fun z => z = w1.heap.size) w4 w12) (cond_of (fun hb => ?_) (fun hb => ?_)) ?_⟩
      · have hbf : badB P.opn (o.l.take i) (mayN P.opn o.l i) o.l[i] = false := by simpa using hb
        have md : Mod No w10 (Go.Den.drew w10) := (Mod.refl No w10).drew
        have h10 := (h5.nos m10).nos md
        have a7d : At (Go.Den.drew w10) w5.heap.size 0 [.pointer (some ⟨ca o.l[i].id, 0, none⟩)] := a10.keep md id
        have hnew : (o.l[i].id : Int) ∉ mayN P.opn o.l i := fun hm => by
          obtain ⟨x, hx, e⟩ := mayN_mem i _ hm
          obtain ⟨j, hj, hje⟩ := List.getElem_of_mem hx
          have hji : j < i := by simp at hj; omega
          rw [List.getElem_take] at hje
          have hnd := List.pairwise_iff_getElem.1 (ids_on h.wf ho) j i (by simp; omega) (by simp; omega) hji
          simp at hnd
          rw [hje] at hnd
          omega
        obtain ⟨w11, u1, u2, u3, u4⟩ := update_run (P := Try.prog) (T := 123) (k := (o.l[i].id : Int)) (v := .bool true) mapOk ((mp5.keep m10 id).keep md id)
        rw [okM_snoc hnew] at u2
        refine ⟨some w1.heap.size, ((a55.keep m10 id).keep md id).load (i := 0) (by kernel_rfl) rfl, _, a7d.load (i := 0) (by kernel_rfl) rfl, _, rfl, _, (h10.chs _ hxa).2.2.ld (j := 0) (by kernel_rfl) (fun _ _ _ _ => rfl), w11, u1, ?_, (M10.no md).trans u3 fun _ _ e => e⟩
        rw [hsucc, if_neg (by rw [hbf]; simp)]; exact u2
      · have hbt : badB P.opn (o.l.take i) (mayN P.opn o.l i) o.l[i] = true := by simpa using hb
        rw [hsucc, if_pos hbt]
        exact ⟨mp5.keep m10 id, M10⟩
      · rintro z w12 ⟨mp12, M12⟩
        rw [wrap64 (x := (i : Int) + 1) (by omega) (by omega)]
        exact ⟨⟨i + 1, _, by omega, rfl, mp12, M12⟩, by simp [nI, nth]; omega⟩
  · have hil : i = o.l.length := by have := of_decide_eq_false hb; omega
    refine ⟨some w1.heap.size, a55.load (i := 0) (by kernel_rfl) rfl, hk w5 _ M5' (by omega) ?_⟩
    unfold mayL; rw [← hil]; exact mp5
end
end Go.Proofs.Ytgcecmfjpljpcaa
