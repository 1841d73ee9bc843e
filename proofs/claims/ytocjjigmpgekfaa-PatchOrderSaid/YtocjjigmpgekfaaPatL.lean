/- Layer 11, the program's store: an image, and a block that is written. -/
import Derived.Test.YtocjjigmpgekfaaPatH
open Go Go.Den Go.Proofs
namespace Go.Proofs.Ytocjjigmpgekfaa
section
variable {w0 w w' : World} {R R' : Nat → Prop} {rl : Nat → Nat} {sp c d mo mm : Nat} {ca oa : Nat → Nat} {Lo Lm : List (Int × Value)} {P V : Ps} {K : Value → World → Prop}
theorem Px.to (h : Px w0 R w sp d P) (h1 : ∀ x, R x → R' x) (h2 : ∀ x, R' x → w0.heap.size ≤ x ∧ x < w.heap.size) : Px w0 R' w sp d P := by
  obtain ⟨hw, rl, c, mo, mm, ca, oa, Lo, Lm, h⟩ := h
  exact ⟨hw, rl, c, mo, mm, ca, oa, Lo, Lm, h.widen h1 h2⟩
theorem Px.lo (h : Px w0 R w sp d P) : ∀ x, R x → w0.heap.size ≤ x ∧ x < w.heap.size := h.wf.2.2.2.2.2
theorem Px.notin {w1 : World} (h : Px w0 R w sp d P) {g : Nat} (hz : w.heap.size ≤ w1.heap.size) (hg : w1.heap.size ≤ g) : ¬ Gro R w w1 g := by
  rintro (e | e)
  · have := (h.lo g e).2; omega
  · omega
/-- A store of one's own, whatever its cache holds. -/
def Pz (w0 : World) (R : Nat → Prop) (w : World) (sp d : Nat) (V : Ps) : Prop := ∃ C, C.D = V.C.D ∧ C.most = V.C.most ∧ Px w0 R w sp d ⟨C, V.last, V.ons⟩
theorem Pz.nos (h : Pz w0 R w sp d V) (k : Mod No w w') : Pz w0 R w' sp d V := by
  obtain ⟨C, h1, h2, h⟩ := h; exact ⟨C, h1, h2, h.nos k⟩
theorem Pz.lo (h : Pz w0 R w sp d V) : ∀ x, R x → w0.heap.size ≤ x ∧ x < w.heap.size := by
  obtain ⟨C, h1, h2, h⟩ := h; exact h.lo
theorem imgB_C {C : Ca} (e : C.D = V.C.D) (b : Nat) : imgB ⟨C, V.last, V.ons⟩ b = imgB V b := by
  unfold imgB
  show (match onOf V b with | some o => withL o.base (o.l.filter fun x => (mayL V.opn o.l).contains (x.id : Int)) | none => atD C.D b) = _
  rw [e]
  cases onOf V b <;> rfl
theorem contV_C {C : Ca} (e : C.D = V.C.D) (b : Nat) : contV ⟨C, V.last, V.ons⟩ b = contV V b := by
  unfold contV
  show (match onOf V b with | some o => withL o.base o.l | none => atD C.D b) = _
  rw [e]
  cases onOf V b <;> rfl
set_option maxRecDepth 100000 in
theorem pImage_c {n : Int} (hP : Px w0 R w sp d P) (hk0 : errOf P.C.D n ≠ 0 → ∀ w', Mod No w w' → K (.tuple #[.slice none 0 0, .int .i64 (errOf P.C.D n)]) w')
    (hk : ∀ b : Nat, n = b → b < P.C.D.vs.length → ∀ w1 w' g cc C', Mod R w w1 → Mod No w1 w' → Px w0 (Gro R w w1) w' sp d { P with C := C' } → C'.D = P.C.D → C'.most = P.C.most → w1.heap.size ≤ g → AtU w' g 0 (u8L (imgB P b)) → K (.tuple #[.slice (some ⟨g, 0, none⟩) 256 cc, .int .i64 0]) w') :
    Cal Try.prog F_patch_Store_Image #[.pointer (some ⟨sp, 0, none⟩), .int .i64 n] w K := by
  apply C_patch_Store_Image
  unfold D_patch_Store_Image
  refine pRead_c hP (fun he w1 m1 => ⟨_, _, _, _, rfl, ?_⟩) fun b hb hlt w1 w2 a cc C' m1 m2 h2 eD eM hcont o2 => ⟨_, _, _, _, rfl, ?_⟩
  · exact Share.dup (tt (by simpa using he) ⟨_, rfl, tt rfl (hk0 he w1 m1)⟩)
  · subst hb
    have hcv : cont P b = contV P b := by
      have hwf := hP.wf
      exact cont_view hwf.1 hwf.2.1 hwf.2.2.1 b
    rw [hcv] at o2
    obtain ⟨hw, rl, c, mo, mm, ca, oa, Lo, Lm, h⟩ := h2
    refine Share.dup (ff rfl ⟨_, rfl, _, h.lm, _, h.lookM b, ?_⟩)
    cases ho : onOf P b with
    | none =>
      have ho' : onOf { P with C := C' } b = none := ho
      rw [ho']
      refine ⟨_, rfl, tt rfl ?_⟩
      obtain ⟨g, rfl, hg, hat⟩ := o2.sm (by omega)
      have e : imgB P b = contV P b := by unfold imgB contV; rw [ho]
      exact hk b rfl hlt w1 w2 g cc C' m1 m2 ⟨hw, rl, c, mo, mm, ca, oa, Lo, Lm, h⟩ eD eM hg (by rw [e]; exact hat)
    | some o =>
      have ho' : onOf { P with C := C' } b = some o := ho
      obtain ⟨hom, hob⟩ := onOf_some ho
      have hobn : o.b = b := by omega
      have hlk := h.lookM (b : Int)
      rw [ho'] at hlk ⊢
      refine ⟨_, rfl, ff rfl ⟨_, rfl, _, h.lm, _, hlk, ?_⟩⟩
      refine may11_c h hom fun w3 m m3 hm hmp => ⟨_, rfl, ?_⟩
      have hA : Mod No w3 (w3.alloc (.cells ⟨[.map (some m)]⟩ 64)) := (Mod.refl No w3).alloc _
      have aA : At (w3.alloc (.cells ⟨[.map (some m)]⟩ 64)) w3.heap.size 0 [.map (some m)] := AtU.new.at
      have sA : (w3.alloc (.cells ⟨[.map (some m)]⟩ 64)).heap.size = w3.heap.size + 1 := by simp
      refine ⟨_, _, alloc_map _, _, store_one (by kernel_rfl) rfl, ?_⟩
      generalize w3.alloc (.cells ⟨[.map (some m)]⟩ 64) = w4 at *
      have M4 := m3.no hA
      have h4 := h.nos M4
      refine with_c h4 hom (tells_image h4 (fun x hx => on_all hom hx) aA (hmp.keep hA id)) fun w5 g cc5 m5 hg5 hat5 => ⟨_, _, _, rfl, ?_⟩
      have M5 := M4.no m5
      have hz2 := m2.size
      have hz4 := M4.size
      refine hk b rfl hlt w1 w5 g cc5 C' m1 (m2.no M5) ⟨hw, rl, c, mo, mm, ca, oa, Lo, Lm, h.nos M5⟩ eD eM (by omega) ?_
      have e : imgB P b = withL o.base (o.l.filter fun x => (mayL P.opn o.l).contains (x.id : Int)) := by unfold imgB; rw [ho]
      rw [e]; exact hat5
theorem ChAt.store {q : Nat} {x : Ch} (h : ChAt w rl q x) (h5 : rl q ≠ 5) (b : Bool) : ∃ w', RuU (Instr.storeAt 4 (.pointer (some (Addr.add ⟨q, 0, none⟩ 5))) (.bool b)) w w' ∧ ChAt w' rl q { x with out := b } ∧ Mod (fun z => z = q) w w' := by
  obtain ⟨gd, cd, aa, cc, h1, h2, h3, h4, h6⟩ := h
  obtain ⟨w', u1, u2, u3, u4⟩ := h1.store (P := Try.prog) (T := 4) (i := 5) (v := .bool b) (by kernel_rfl) (by simp) rfl
  refine ⟨w', by rw [add_none]; exact u1, ⟨gd, cd, aa, cc, by simpa using u2, h2.keep u3 (fun e => ?_), h3, h4.keep u3 fun q' hq' e => ?_, h6⟩, u3⟩
  · have e : gd = q := e
    rw [e] at h3; exact h5 h3
  · have e : q'.block = q := e
    have := h6 q' hq'
    rw [e] at this; exact h5 this
/-- The mark of the changes of a block in memory. -/
theorem mark_c {o : On} {b m : Nat} (h : PIn w0 R rl w sp c d mo mm ca oa Lo Lm P) (hom : o ∈ P.ons) (ho : onOf P b = some o) (hmp : MapAt w m (okM (mayL P.opn o.l))) (hm : ¬ R m) {la : Option Addr} {lc : Nat} (hl : Row w la (pL (o.l.map fun x => ca x.id))) (hll : o.l.length ≤ lc) (h9 : ∀ q, la = some q → rl q.block = 9 + 3 * o.b)
    (hk : ∀ w', Mod R w w' → PIn w0 (Gro R w w') rl w' sp c d mo mm ca oa Lo Lm ⟨P.C, P.last, mapX P (markF P b)⟩ → K (.int .i64 0) w') :
    LoopC (fun k_3 x_3 w6 =>
 ∃ n68 : Int, nth x_3 0 = .int .i64 n68 ∧ (bif decide (n68 < (o.l.length : Int)) then
 ∃ q70 : Addr, Al (Instr.indexAt 66 (.slice la o.l.length lc) (.int .i64 n68)) (.pointer (some q70)) ∧ ∃ p71 : Option Addr, Ru (Instr.loadAt 69 (.pointer (some q70))) w6 (.pointer p71) w6 ∧ Share (fun k_4 => ∃ q74 : Addr, (.pointer p71 : Value) = .pointer (some q74) ∧ ∃ b76 : Bool, Ru (Instr.loadAt 4 (.pointer (some (Addr.add q74 5)))) w6 (.bool b76) w6 ∧ (bif b76 then ∃ q85 : Addr, (.pointer p71 : Value) = .pointer (some q85) ∧ ∃ w7 : World, RuU (Instr.storeAt 4 (.pointer (some (Addr.add q85 5))) (.bool true)) w6 w7 ∧ k_4 [] w7 else ∃ q80 : Addr, (.pointer p71 : Value) = .pointer (some q80) ∧ ∃ n82 : Int, Ru (Instr.loadAt 2 (.pointer (some (Addr.add q80 0)))) w6 (.int .i64 n82) w6 ∧ ∃ b83 : Bool, Ru (Instr.lookup 64 (.map (some m)) (.int .i64 n82) false) w6 (.bool b83) w6 ∧ ∃ q85_2 : Addr, (.pointer p71 : Value) = .pointer (some q85_2) ∧ ∃ w8 : World, RuU (Instr.storeAt 4 (.pointer (some (Addr.add q85_2 5))) (.bool b83)) w6 w8 ∧ k_4 [] w8)) fun x_4 w9 =>
 k_3 [.int .i64 (IntKind.i64.wrap (n68 + 1))] w9
 else
 K (.int .i64 0) w6)) [.int .i64 0] w := by
  obtain ⟨_, hob⟩ := onOf_some ho
  have hob : o.b = b := by omega
  have hlast := h.wf.last
  have hlen := h.wf.llen o hom
  have hL := markF_like P b
  have hmb : mayB P b = mayL P.opn o.l := by unfold mayB; rw [ho]
  have hoa := fun x hx => on_all hom (x := x) hx
  have hinj : ∀ {i j : Nat} (hi : i < o.l.length) (hj : j < o.l.length), ca o.l[i].id = ca o.l[j].id → i = j := fun {i j} hi hj e => by
    have := h.inj (hoa _ (List.getElem_mem hi)) (hoa _ (List.getElem_mem hj)) e
    have hnd : o.l.Nodup := nodup_of_map (ids_on h.wf hom)
    exact (List.getElem_inj hnd).1 this
  have hrl : ∀ x ∈ o.l, rl (ca x.id) = 10 + 3 * x.id := fun x hx => (h.chs x (hoa x hx)).2.1
  have hSR : ∀ z, (∃ x ∈ o.l, z = ca x.id) → rl z ≠ 0 ∧ R z := fun z ⟨x, hx, e⟩ => by
    subst e
    have := hrl x hx
    exact ⟨by omega, h.reg _ (by omega)⟩
  refine ⟨fun x w6 => ∃ i : Nat, i ≤ o.l.length ∧ x = [.int .i64 i] ∧ Mod (fun z => ∃ x ∈ o.l, z = ca x.id) w w6 ∧ ∀ (j : Nat) (hj : j < o.l.length), ChAt w6 rl (ca o.l[j].id) (if j < i then markF P b o.l[j] else o.l[j]),
    fun x _ => (o.l.length - nI x 0).toNat, ⟨0, by omega, rfl, Mod.refl _ _, fun j hj => by rw [if_neg (by omega)]; exact (h.chs _ (hoa _ (List.getElem_mem hj))).2.2⟩, ?_⟩
  rintro x w6 ⟨i, hi, rfl, M6, hch⟩
  refine ⟨_, rfl, cond_of (fun hb => ?_) (fun hb => ?_)⟩
  · have hi : i < o.l.length := by have := of_decide_eq_true hb; omega
    have hxm := List.getElem_mem hi
    have hlr : Row w6 la (pL (o.l.map fun x => ca x.id)) := hl.keep M6 fun q hq ⟨x, hx, e⟩ => by
      have h1 := h9 q hq
      have h2 := hrl x hx
      rw [← e] at h2
      omega
    obtain ⟨b3, o3, hla, hat3⟩ := row_someP hlr (i := i) (by simp; exact hi)
    subst hla
    have hld := hat3.load (P := Try.prog) (T := 69) (by kernel_rfl) (pL_get (i := i) (by simp; exact hi))
    rw [List.getElem_map] at hld
    refine ⟨_, index_slice (k := 1) (by kernel_rfl) (by omega) (by omega), ?_⟩
    rw [add_none, show (i : Int).toNat * 1 = i by omega]
    refine ⟨_, hld, ?_⟩
    have hc := hch i hi
    rw [if_neg (by omega)] at hc
    have hr5 : rl (ca o.l[i].id) ≠ 5 := by have := hrl _ hxm; omega
    have hm6 : MapAt w6 m (okM (mayL P.opn o.l)) := hmp.keep M6 fun e => hm (hSR _ e).2
    have hmark : markF P b o.l[i] = { o.l[i] with out := o.l[i].out || (mayL P.opn o.l).contains (o.l[i].id : Int) } := by
      unfold markF; rw [if_pos (by rw [h.wf.chb o hom _ hxm]; exact hob), hmb]
    have step : ∀ (bb : Bool) (w7 : World), bb = (o.l[i].out || (mayL P.opn o.l).contains (o.l[i].id : Int)) → ChAt w7 rl (ca o.l[i].id) { o.l[i] with out := bb } → Mod (fun z => z = ca o.l[i].id) w6 w7 →
        Mod (fun z => ∃ x ∈ o.l, z = ca x.id) w w7 ∧ ∀ (j : Nat) (hj : j < o.l.length), ChAt w7 rl (ca o.l[j].id) (if j < i + 1 then markF P b o.l[j] else o.l[j]) := by
      intro bb w7 hbb hc7 m7
      refine ⟨M6.trans m7 fun z _ e => ⟨_, hxm, e⟩, fun j hj => ?_⟩
      by_cases e : j = i
      · subst e
        rw [if_pos (by omega), hmark, ← hbb]; exact hc7
      · have hk := hch j hj
        have : (if j < i + 1 then markF P b o.l[j] else o.l[j]) = if j < i then markF P b o.l[j] else o.l[j] := by
          by_cases hji : j < i
          · rw [if_pos hji, if_pos (by omega)]
          · rw [if_neg hji, if_neg (by omega)]
        rw [this]
        exact hk.keep m7 (fun e2 => e (hinj hj hi e2)) fun z hz e2 => hr5 (by rw [← e2]; exact hz)
    refine Share.cut (fun _ w7 => Mod (fun z => ∃ x ∈ o.l, z = ca x.id) w w7 ∧ ∀ (j : Nat) (hj : j < o.l.length), ChAt w7 rl (ca o.l[j].id) (if j < i + 1 then markF P b o.l[j] else o.l[j])) ⟨_, rfl, _, hc.ld (j := 5) (by kernel_rfl) (fun _ _ _ _ => rfl), cond_of (fun hout => ?_) (fun hout => ?_)⟩ ?_
    · obtain ⟨w7, u1, u2, u3⟩ := hc.store hr5 true
      exact ⟨_, rfl, w7, u1, step true w7 (by rw [hout, Bool.true_or]) u2 u3⟩
    · obtain ⟨w7, u1, u2, u3⟩ := hc.store hr5 ((mayL P.opn o.l).contains (o.l[i].id : Int))
      exact ⟨_, rfl, _, hc.ld (j := 0) (by kernel_rfl) (fun _ _ _ _ => rfl), _, lookOk hm6 _, _, rfl, w7, u1, step _ w7 (by rw [hout, Bool.false_or]) u2 u3⟩
    · rintro z w7 ⟨M7, hch7⟩
      rw [wrap64 (x := (i : Int) + 1) (by omega) (by omega)]
      exact ⟨⟨i + 1, by omega, rfl, M7, hch7⟩, by simp [nI, nth]; omega⟩
  · have hil : i = o.l.length := by have := of_decide_eq_false hb; omega
    have hch' : ∀ x ∈ o.l, ChAt w6 rl (ca x.id) (markF P b x) := fun x hx => by
      obtain ⟨j, hj, rfl⟩ := List.getElem_of_mem hx
      have := hch j hj
      rwa [if_pos (by omega)] at this
    refine hk w6 (M6.mono fun z _ e => (hSR z e).2) ?_
    have hxo : ∀ {p : On}, p ∈ P.ons → p.b ≠ b → { p with l := p.l.map (markF P b) } = p := fun {p} hp e => by
      rw [markF_no fun x hx => by rw [h.wf.chb p hp x hx]; exact e]
    refine h.step (P' := ⟨P.C, P.last, mapX P (markF P b)⟩) rfl M6 (Ext.refl _ _ _) (fun _ e => e) (fun z _ ⟨x, hx, e⟩ => by have := hrl x hx; rw [← e] at this; omega)
      (h.cell.keep M6 fun ⟨x, hx, e⟩ => by have := hrl x hx; rw [← e, h.rsp] at this; omega) (h.mapO.keep M6 fun ⟨x, hx, e⟩ => by have := hrl x hx; rw [← e, h.rmo] at this; omega) (h.mapM.keep M6 fun ⟨x, hx, e⟩ => by have := hrl x hx; rw [← e, h.rmm] at this; omega) ?_ ?_ ?_ ?_ (h.wf.mapX hL rfl rfl)
    · intro y hy
      rw [all_mapX] at hy
      obtain ⟨x, hx, rfl⟩ := List.mem_map.1 hy
      obtain ⟨p, hp, hxp⟩ := mem_all.1 hx
      by_cases e : p.b = b
      · have := on_uniq h.wf hp hom (by omega)
        subst this
        obtain ⟨k1, k2, _⟩ := h.chs x hx
        right
        rw [hL.id]
        exact ⟨k1, k2, hch' x hxp⟩
      · have hxb : x.b ≠ b := by rw [h.wf.chb p hp x hxp]; exact e
        have hid : markF P b x = x := by unfold markF; rw [if_neg hxb]
        rw [hid]
        left
        refine ⟨hx, rfl, rfl, fun q ⟨z, hz, eq⟩ hq => ?_⟩
        subst eq
        rw [hrl z hz] at hq
        have ez : z = x := map_inj h.wf.ids (hoa z hz) hx (by omega)
        exact hxb (by rw [← ez, h.wf.chb o hom z hz]; exact hob)
    · intro p' hp'
      obtain ⟨p, hp, rfl⟩ := List.mem_map.1 hp'
      by_cases e : p.b = b
      · have := on_uniq h.wf hp hom (by omega)
        subst this
        obtain ⟨k1, k2, k3⟩ := h.ons p hp
        right
        refine ⟨k1, k2, ?_⟩
        have k4 := k3.keep M6 (fun ⟨x, hx, e⟩ => by have := hrl x hx; rw [← e, k2] at this; omega) (fun z hz ⟨x, hx, e⟩ => by have := hrl x hx; rw [← e, hz] at this; omega) fun z hz ⟨x, hx, e⟩ => by have := hrl x hx; rw [← e, hz] at this; omega
        obtain ⟨g, cc, la', lc', a1, a2, a3, a4, a5⟩ := k4
        refine ⟨g, cc, la', lc', ?_, a2, a3, ?_, a5⟩
        · show AtU w6 _ 0 [_, .slice la' (p.l.map (markF P b)).length lc']
          rw [List.length_map]; exact a1
        · show Own Try.prog w6 w0.heap.size _ 1 la' (p.l.map (markF P b)).length lc' (pL ((p.l.map (markF P b)).map fun x => ca x.id))
          rw [List.length_map, List.map_map]
          have : ((fun x => ca x.id) ∘ markF P b) = fun x => ca x.id := by funext x; simp only [Function.comp]; rw [hL.id]
          rw [this]; exact a4
      · have := hxo hp e
        rw [this]
        left
        exact ⟨hp, rfl, rfl, fun _ _ => rfl, fun q ⟨y, hy, eq⟩ => by have := hrl y hy; rw [← eq] at this; omega⟩
    · intro p hp
      obtain ⟨x, hx, e⟩ := h.keysO p hp
      refine ⟨markF P b x, ?_, by rw [hL.id]; exact e⟩
      rw [all_mapX]; exact List.mem_map.2 ⟨x, hx, rfl⟩
    · intro p hp
      obtain ⟨q, hq, e⟩ := h.keysM p hp
      exact ⟨{ q with l := q.l.map (markF P b) }, List.mem_map.2 ⟨q, hq, rfl⟩, e⟩
theorem WFS.cache {C : Ca} (h : WFS P) (hD : C.D.vs.length = P.C.D.vs.length) (hm : C.most = P.C.most) : WFS ⟨C, P.last, P.ons⟩ where
  full := by show C.D.vs.length ≤ C.most; rw [hD, hm]; exact h.full
  onsN := h.onsN
  onlt := fun o ho => by show o.b < C.D.vs.length; rw [hD]; exact h.onlt o ho
  base := h.base
  llen := h.llen
  ids := h.ids
  idr := h.idr
  chb := h.chb
  dat := h.dat
  aft := h.aft
  last := h.last
theorem step_Mod {S S' : Nat → Prop} {w1 w2 : World} (h : Mod R w w1) (k : Mod S w1 w2) (hs : ∀ x, x < w.heap.size → S x → R x) : Mod R w w2 := h.trans k hs
set_option maxRecDepth 100000 in
theorem pWrite_c {n : Int} (hP : Px w0 R w sp d P) (hb9 : ∀ v ∈ P.C.D.vs, v.length ≤ 999999)
    (hk : ∀ w' C', Mod R w w' → Px w0 (Gro R w w') w' sp d ⟨C', (wrV P n).last, (wrV P n).ons⟩ → C'.D = (wrV P n).C.D → C'.most = P.C.most → K (.int .i64 (wrVE P n)) w') :
    Cal Try.prog F_patch_Store_Write #[.pointer (some ⟨sp, 0, none⟩), .int .i64 n] w K := by
  have hP0 := hP
  obtain ⟨hw, rl, c, mo, mm, ca, oa, Lo, Lm, h⟩ := hP
  apply C_patch_Store_Write
  unfold D_patch_Store_Write
  have hgro : Px w0 (Gro R w w) w sp d P := hP0.to (fun x hx => .inl hx) fun x hx => by
    rcases hx with hx | hx
    · exact hP0.lo x hx
    · omega
  refine ff rfl (Share.cut (fun x w1 => w = w1 ∧ x = [.bool (decide (errOf P.C.D n ≠ 0))]) (cond_of (fun hb => ?_) (fun hb => ?_)) ?_)
  · have hb := of_decide_eq_true hb
    have : errOf P.C.D n ≠ 0 := by unfold errOf; rw [if_pos (by omega)]; omega
    rw [decide_eq_true this]; exact ⟨rfl, rfl⟩
  · have hb := of_decide_eq_false hb
    refine ⟨_, rfl, _, h.llen', rfl, ?_⟩
    congr 2
    unfold errOf
    by_cases hn : (P.C.D.vs.length : Int) ≤ n
    · rw [if_pos (.inr hn), decide_eq_true hn]; rfl
    · rw [if_neg (by omega), decide_eq_false hn]; rfl
  rintro x w1 ⟨rfl, rfl⟩
  refine ⟨_, rfl, ?_⟩
  by_cases he : errOf P.C.D n ≠ 0
  · have hE : wrVE P n = 3 := by unfold wrVE; rw [if_pos he]
    have hV : wrV P n = P := by unfold wrV; rw [if_neg (by rw [hE]; omega)]
    refine tt (decide_eq_true he) ?_
    have := hk w P.C (Mod.refl _ _) (by rw [hV]; exact hgro) (by rw [hV]) rfl
    rw [hE] at this; exact this
  refine ff (decide_eq_false he) ⟨_, rfl, _, h.lm, _, h.lookM n, ?_⟩
  cases ho : onOf P n with
  | none =>
    have hE : wrVE P n = 20 := by unfold wrVE; rw [if_neg he, ho]; rfl
    have hV : wrV P n = P := by unfold wrV; rw [if_neg (by rw [hE]; omega)]
    refine tt rfl ?_
    have := hk w P.C (Mod.refl _ _) (by rw [hV]; exact hgro) (by rw [hV]) rfl
    rw [hE] at this; exact this
  | some o =>
    obtain ⟨hom, hob⟩ := onOf_some ho
    refine ff rfl (pImage_c hP0 (fun he' => absurd he' he) fun b hb hlt w1 w2 g cc C' m1 m2 h2 eD eM hg hat => ⟨_, _, _, _, rfl, ?_⟩)
    subst hb
    have hE : wrVE P (b : Int) = 0 := by unfold wrVE; rw [if_neg he, ho]; rfl
    have hV : wrV P (b : Int) = ⟨{ P.C with D := wrSt P.C.D b (imgB P b) }, P.last, mapX P (markF P b)⟩ := by unfold wrV; rw [if_pos hE, Int.toNat_natCast]
    have hnot := hP0.notin (w1 := w1) m1.size hg
    obtain ⟨hw2, rl2, c2, mo2, mm2, ca2, oa2, Lo2, Lm2, h2⟩ := h2
    have hcw := h2.cx.wf
    have hlt' : b < C'.D.vs.length := by rw [eD]; exact hlt
    obtain ⟨C2, hask⟩ := ask_some hcw.1 h2.wf.full hlt'
    obtain ⟨l0, y, A⟩ := ask_facts hcw.1 hcw.2.1 hlt' hask
    have hil : (imgB P b).length = 256 := by
      have hwf := hP0.wf
      exact img_len hwf.2.1 hwf.2.2.2.1 hlt
    have hwf2 := WFP.ask hw2 h2.wf hcw.1 A
    have hrun : C2.D.left = -1 := hwf2.run
    have hwr := wr_is (D := C2.D) (b := b) (ys := imgB P b) (by rw [A.D]; exact hlt') hil hrun
    have hwX : wrX C' b (imgB P b) = ({ C2 with D := wrSt C2.D b (imgB P b) }, 0) := by
      unfold wrX
      have he2 : errOf C'.D (b : Int) = 0 := by rw [eD]; exact Classical.not_not.1 he
      rw [if_neg (by rw [he2]; simp), if_neg (by omega), Int.toNat_natCast, hask]
      simp only
      rw [if_neg (by omega), hwr.1]
    refine Share.cut (fun x w4 => x = [.int .i64 0] ∧ Mod (fun z => rl2 z = 1) w2 w4 ∧ Cx w0 (Gro (fun z => rl2 z = 1) w2 w4) w4 c2 d { C2 with D := wrSt C2.D b (imgB P b) }) (tt rfl ⟨_, rfl, _, h2.lc, ?_⟩) ?_
    · refine cWrite_c (ys := imgB P b) h2.cx (by show ∀ v ∈ C'.D.vs, _; rw [eD]; exact hb9) hil (.inr ⟨_, _, rfl, hat.at⟩) (fun _ q hq e => ?_) fun w4 m4 x4 => ⟨_, rfl, ?_⟩
      · have : q.block = g := by cases hq; rfl
        have e1 : rl2 q.block = 1 := e
        rw [this] at e1
        exact hnot (h2.reg g (by omega))
      · have x4' : Cx w0 (Gro (fun z => rl2 z = 1) w2 w4) w4 c2 d (wrX C' b (imgB P b)).1 := x4
        rw [hwX] at x4'
        show _ ∧ _
        have e0 : (wrX C' (b : Int) (imgB P b)).2 = 0 := by rw [hwX]
        show [Value.int .i64 (wrX C' (b : Int) (imgB P b)).2] = _ ∧ _
        rw [e0]
        exact ⟨rfl, m4, x4'⟩
    · rintro x w4 ⟨rfl, m4, x4⟩
      have h4 := h2.cache (w' := w4) m4 (Mod.refl _ _) x4 (by show (wrSt C2.D b (imgB P b)).vs.length = C'.D.vs.length; rw [len_wr, A.D]) (by show C2.most = C'.most; exact A.most)
      obtain ⟨rl4, h4, hr4⟩ := h4
      have ho4 : onOf (⟨{ C2 with D := wrSt C2.D b (imgB P b) }, P.last, P.ons⟩ : Ps) b = some o := ho
      have hlk4 := h4.lookM (b : Int)
      have hlk4' : Ru (Instr.lookup 59 (.map (some mm2)) (.int .i64 b) false) w4 (.pointer (some ⟨oa2 o.b, 0, none⟩)) w4 := by
        have e : onOf ({ ({ P with C := C' } : Ps) with C := { C2 with D := wrSt C2.D b (imgB P b) } } : Ps) b = some o := ho
        rw [e] at hlk4; exact hlk4
      refine ⟨_, rfl, ff rfl ⟨_, rfl, _, h4.lm, _, hlk4', may11_c h4 hom fun w5 m m5 hm hmp => ⟨_, rfl, ?_⟩⟩⟩
      have h5 := h4.nos m5
      obtain ⟨la, lc, l1, l2, l3, l4⟩ := (h5.ons o hom).2.2.ldL
      refine ⟨_, rfl, _, h5.lm, _, ?_, _, rfl, la, _, lc, l1, ?_⟩
      · have := h5.lookM (b : Int)
        have e : onOf ({ ({ P with C := C' } : Ps) with C := { C2 with D := wrSt C2.D b (imgB P b) } } : Ps) b = some o := ho
        rw [e] at this; exact this
      refine mark_c (b := b) h5 hom ho hmp (fun e => ?_) l2 l3 l4 fun w6 m6 h6 => ?_
      · have := h4.lo m e
        omega
      have hz1 := m1.size
      have hz2 := m2.size
      have hz4 := m4.size
      have hz5 := m5.size
      have hz6 := m6.size
      have hw0 := hP0.wf.2.2.2.2.1.size
      have hreg2 : ∀ z, rl2 z = 1 → Gro R w w1 z := fun z hz => h2.reg z (by omega)
      have hR5 : ∀ z, Gro (Gro R w w1) w2 w4 z → Gro R w w6 z := fun z hz => by
        rcases hz with (hz | hz) | hz
        · exact .inl hz
        · exact .inr (by omega)
        · exact .inr (by omega)
      have hM : Mod R w w6 := by
        have k1 : Mod R w w2 := m1.no m2
        have k2 : Mod R w w4 := k1.trans m4 fun z hz e => by
          rcases hreg2 z e with e | e
          · exact e
          · omega
        have k3 : Mod R w w5 := k2.no m5
        exact k3.trans m6 fun z hz e => by
          rcases e with (e | e) | e
          · exact e
          · omega
          · omega
      have eD2 : C2.D = P.C.D := by rw [A.D]; exact eD
      have eM2 : C2.most = P.C.most := by rw [A.most]; exact eM
      have hwfS : WFS ⟨C2, P.last, P.ons⟩ := WFS.cache hP0.wf.2.1 (by rw [eD2]) eM2
      have hf := WFP.mark (P := ⟨C2, P.last, P.ons⟩) hwf2 hwfS (by show WF C2.D; rw [eD2]; exact hP0.wf.2.2.2.1) ho
      rw [imgB_C eD2] at hf
      have := hk w6 { C2 with D := wrSt C2.D b (imgB P b) } hM ?_ ?_ ?_
      · rw [hE] at this; exact this
      · rw [hV]
        refine ⟨hf, rl4, c2, mo2, mm2, ca2, oa2, Lo2, Lm2, h6.widen (fun z hz => ?_) fun z hz => ?_⟩
        · rcases hz with hz | hz
          · exact hR5 z hz
          · exact .inr (by omega)
        · rcases hz with hz | hz
          · have := hP0.lo z hz; omega
          · omega
      · rw [hV]
        show wrSt C2.D b (imgB P b) = wrSt P.C.D b (imgB P b)
        rw [eD2]
      · exact eM2
end
end Go.Proofs.Ytocjjigmpgekfaa

/- Layer 11, the program's store in memory: a block that gets changes, a number, a change. -/
open Go Go.Den Go.Proofs
namespace Go.Proofs.Ytocjjigmpgekfaa
theorem build_on (w : World) (a : Option Addr) (l cc : Nat) : (Instr.build 68 #[(0, .slice a l cc)]).run Try.prog w = .ok (.agg ⟨[.slice a l cc, .slice none 0 0]⟩) w := by kernel_rfl
theorem box_on (w : World) (cs : List Value) : (Instr.box 68 (.agg ⟨cs⟩)).run Try.prog w = .ok (.pointer (some ⟨w.heap.size, 0, none⟩)) (w.alloc (.cells ⟨cs⟩ 68)) := rfl
theorem build_ch (w : World) (i b f : Int) (a : Option Addr) (l cc : Nat) : (Instr.build 71 #[(0, .int .i64 i), (1, .int .i64 b), (2, .int .i64 f), (3, .slice a l cc)]).run Try.prog w = .ok (.agg ⟨[.int .i64 i, .int .i64 b, .int .i64 f, .slice a l cc, .slice none 0 0, .bool false]⟩) w := by kernel_rfl
theorem box_ch (w : World) (cs : List Value) : (Instr.box 71 (.agg ⟨cs⟩)).run Try.prog w = .ok (.pointer (some ⟨w.heap.size, 0, none⟩)) (w.alloc (.cells ⟨cs⟩ 71)) := rfl
theorem builtI64 (w : World) (v : Int) : (Instr.buildSlice 33 1 #[(0, .int .i64 v)]).run Try.prog w = .ok (.slice (some ⟨w.heap.size, 0, none⟩) 1 1) (w.alloc (.cells ⟨[.int .i64 v]⟩ 2)) := by kernel_rfl
theorem builtCh (w : World) (p : Option Addr) : (Instr.buildSlice 66 1 #[(0, .pointer p)]).run Try.prog w = .ok (.slice (some ⟨w.heap.size, 0, none⟩) 1 1) (w.alloc (.cells ⟨[.pointer p]⟩ 69)) := by kernel_rfl
section
variable {w0 w w' : World} {R R' : Nat → Prop} {rl : Nat → Nat} {sp c d mo mm : Nat} {ca oa : Nat → Nat} {Lo Lm : List (Int × Value)} {P V : Ps} {K : Value → World → Prop}
/-- Bytes of one's own that stay. -/
theorem PIn.take (h : PIn w0 R rl w sp c d mo mm ca oa Lo Lm P) {g : Nat} (hg : rl g = 0) (h0 : w0.heap.size ≤ g) (h1 : g < w.heap.size) : PIn w0 (fun x => R x ∨ x = g) (ro rl g 5) w sp c d mo mm ca oa Lo Lm P := by
  have hs : ∀ z, rl z ≠ 0 → ro rl g 5 z = rl z := fun z hz => ro_ne _ fun e => hz (by rw [e]; exact hg)
  exact {
    cx := by
      have e : (fun x => ro rl g 5 x = 1) = fun x => rl x = 1 := by
        funext x
        apply propext
        by_cases e : x = g
        · subst e; rw [ro_same, hg]; omega
        · rw [ro_ne _ e]
      rw [e]; exact h.cx
    cell := h.cell
    mapO := h.mapO
    mapM := h.mapM
    rsp := by rw [hs _ (by rw [h.rsp]; omega)]; exact h.rsp
    rmo := by rw [hs _ (by rw [h.rmo]; omega)]; exact h.rmo
    rmm := by rw [hs _ (by rw [h.rmm]; omega)]; exact h.rmm
    chs := fun x hx => by
      obtain ⟨h1, h2, h3⟩ := h.chs x hx
      exact ⟨h1, by rw [hs _ (by omega)]; exact h2, h3.role fun z hz => by rw [hs z (by omega)]; exact hz⟩
    ons := fun o ho => by
      obtain ⟨h1, h2, h3⟩ := h.ons o ho
      exact ⟨h1, by rw [hs _ (by omega)]; exact h2, h3.role hs fun _ _ => rfl⟩
    keysO := h.keysO
    keysM := h.keysM
    wf := h.wf
    reg := fun x hx => by
      by_cases e : x = g
      · exact .inr e
      · rw [ro_ne _ e] at hx; exact .inl (h.reg x hx)
    lo := fun x hx => by
      rcases hx with hx | rfl
      · exact h.lo x hx
      · exact ⟨h0, h1⟩
    mod := h.mod }
theorem PIn.newOn (h : PIn w0 R rl w sp c d mo mm ca oa Lo Lm P) {b g cc : Nat} (hno : onOf P b = none) (hb : b < P.C.D.vs.length) (hl : (contV P b).length = 256) (hg : rl g = 5) (hat : At w g 0 (u8L (contV P b))) :
    ∃ w7, RuU (Instr.mapUpdate 59 (.map (some mm)) (.int .i64 b) (.pointer (some ⟨w.heap.size, 0, none⟩))) (w.alloc (.cells ⟨[.slice (some ⟨g, 0, none⟩) 256 cc, .slice none 0 0]⟩ 68)) w7 ∧
      PIn w0 (Gro R w w7) (ro rl w.heap.size (8 + 3 * b)) w7 sp c d mo mm ca (fun k => if k = b then w.heap.size else oa k) Lo (putL b (pV w.heap.size) Lm) (newO P b) ∧ Mod (fun z => z = mm) w w7 := by
  have m1 : Mod No w (w.alloc (.cells ⟨[.slice (some ⟨g, 0, none⟩) 256 cc, .slice none 0 0]⟩ 68)) := (Mod.refl No w).alloc _
  have a1 : AtU (w.alloc (.cells ⟨[.slice (some ⟨g, 0, none⟩) 256 cc, .slice none 0 0]⟩ 68)) w.heap.size 0 [.slice (some ⟨g, 0, none⟩) 256 cc, .slice none 0 0] := AtU.new
  have s1 : (w.alloc (.cells ⟨[.slice (some ⟨g, 0, none⟩) 256 cc, .slice none 0 0]⟩ 68)).heap.size = w.heap.size + 1 := by simp
  generalize w.alloc (.cells ⟨[.slice (some ⟨g, 0, none⟩) 256 cc, .slice none 0 0]⟩ 68) = w1 at *
  have h1 := h.nos m1
  have hz := h.out_of (x := w.heap.size) (Nat.le_refl _)
  obtain ⟨w7, u1, u2, u3, u4⟩ := update_run (P := Try.prog) (T := 59) (k := (b : Int)) (v := .pointer (some ⟨w.heap.size, 0, none⟩)) mapOns h1.mapM
  have M7 : Mod (fun z => z = mm) w w7 := m1.anys.trans u3 fun _ _ e => e
  refine ⟨w7, u1, ?_, M7⟩
  have hne : ∀ {z}, rl z ≠ 4 → z ≠ mm := fun hz e => hz (by rw [e]; exact h.rmm)
  have hq : w.heap.size ≠ mm := hne (by rw [hz]; omega)
  have hno' := onOf_none hno
  have hnO : newO P b = { P with ons := P.ons ++ [⟨b, contV P b, []⟩] } := by unfold newO; rw [hno]
  have hx : Ext w w7 rl (ro rl w.heap.size (8 + 3 * b)) := (Ext.refl _ _ _).ro (.inr ⟨Nat.le_refl _, by omega, hz⟩) (by omega) (by omega)
  obtain ⟨eC, eL⟩ := newO_C (V := P) (b := b)
  refine h.step (P' := newO P b) (Lo' := Lo) (Lm' := putL b (pV w.heap.size) Lm) (ca' := ca) eC M7 hx (fun z e => ?_) (fun z _ e => by rw [show z = mm from e, h.rmm]; omega) ?_ (h.mapO.keep M7 (hne (by rw [h.rmo]; omega))) u2 ?_ ?_ ?_ ?_ (h.wf.newO hb hl)
  · by_cases e1 : z = w.heap.size
    · subst e1; rw [ro_same] at e; omega
    · rw [ro_ne _ e1] at e; exact e
  · rw [eL]; exact h.cell.keep M7 (hne (by rw [h.rsp]; omega))
  · intro x hx
    rw [all_newO] at hx
    exact .inl ⟨hx, rfl, rfl, fun q e hq => by rw [show q = mm from e, h.rmm] at hq; omega⟩
  · intro o ho
    rw [hnO] at ho
    rcases List.mem_append.1 ho with ho | ho
    · left
      have := hno' o ho
      refine ⟨ho, ?_, ?_, fun _ _ => rfl, fun q e => by rw [show q = mm from e, h.rmm]; omega⟩
      · rw [look_put, if_neg (by omega)]
      · exact if_neg (by omega)
    · simp only [List.mem_singleton] at ho
      subst ho
      right
      refine ⟨by rw [look_put, if_pos rfl]; simp, by simp [ro_same], ?_⟩
      refine ⟨g, cc, none, 0, ?_, ?_, ?_, Own.nil elemZ_chs, fun q hq => by cases hq⟩
      · have := a1.keep u3 hq
        simpa using this
      · exact (hat.keep m1 id).keep u3 (hne (by rw [hg]; omega))
      · rw [ro_ne _ (fun e => by rw [e, hz] at hg; omega)]; exact hg
  · intro p hp
    obtain ⟨x, hx, e⟩ := h.keysO p hp
    exact ⟨x, by rw [all_newO]; exact hx, e⟩
  · intro p hp
    rcases put_keys p hp with e | hp
    · exact ⟨⟨b, contV P b, []⟩, by rw [hnO]; simp, e⟩
    · obtain ⟨o, ho, e⟩ := h.keysM p hp
      exact ⟨o, by rw [hnO]; exact List.mem_append.2 (.inl ho), e⟩
theorem PIn.bump (h : PIn w0 R rl w sp c d mo mm ca oa Lo Lm P) (hl : P.last + 1 ≤ 1000000) : ∃ w', RuU (Instr.storeAt 2 (.pointer (some (Addr.add ⟨sp, 0, none⟩ 2))) (.int .i64 ((P.last + 1 : Nat) : Int))) w w' ∧
    PIn w0 (Gro R w w') rl w' sp c d mo mm ca oa Lo Lm { P with last := P.last + 1 } ∧ Mod (fun z => z = sp) w w' := by
  obtain ⟨w', u1, u2, u3, u4⟩ := h.cell.store (P := Try.prog) (T := 2) (i := 2) (v := .int .i64 ((P.last + 1 : Nat) : Int)) (by kernel_rfl) (by simp) rfl
  have hne : ∀ {z}, rl z ≠ 2 → z ≠ sp := fun hz e => hz (by rw [e]; exact h.rsp)
  refine ⟨w', by rw [add_none]; exact u1, ?_, u3⟩
  refine h.step (P' := { P with last := P.last + 1 }) rfl u3 (Ext.refl _ _ _) (fun _ e => e) (fun z _ e => by rw [show z = sp from e, h.rsp]; omega) (by simpa using u2) (h.mapO.keep u3 (hne (by rw [h.rmo]; omega))) (h.mapM.keep u3 (hne (by rw [h.rmm]; omega))) ?_ ?_ h.keysO h.keysM (h.wf.bump hl)
  · intro x hx
    exact .inl ⟨hx, rfl, rfl, fun q e hq => by rw [show q = sp from e, h.rsp] at hq; omega⟩
  · intro o ho
    exact .inl ⟨ho, rfl, rfl, fun _ _ => rfl, fun q e => by rw [show q = sp from e, h.rsp]; omega⟩
/-- A new change in memory. -/
theorem PIn.appX {S : Nat → Prop} {x : Ch} {o : On} {q gd cd g cc : Nat} {aa la' : Option Addr} {ac lc' : Nat} (h : PIn w0 R rl w sp c d mo mm ca oa Lo Lm P) (ho : o ∈ P.ons) (hob : o.b = x.b) (hid : P.last = x.id) (hnew : ∀ y ∈ P.all, y.id ≠ x.id) (hwf : WFS (appO P x))
    (k : Mod S w w') (hS : ∀ z, S z → z = mo ∨ z = oa x.b ∨ rl z = 9 + 3 * x.b) (hmO : MapAt w' mo (putL x.id (pV q) Lo))
    (hq : w.heap.size ≤ q ∧ q < w'.heap.size) (hgd : w.heap.size ≤ gd ∧ gd < w'.heap.size) (haa : ∀ a, aa = some a → w.heap.size ≤ a.block ∧ a.block < w'.heap.size ∧ a.block ≠ q ∧ a.block ≠ gd) (hqg : q ≠ gd)
    (hla : ∀ a, la' = some a → rl a.block = 9 + 3 * x.b ∨ (w.heap.size ≤ a.block ∧ a.block < w'.heap.size ∧ a.block ≠ q ∧ a.block ≠ gd ∧ ∀ e, aa = some e → a.block ≠ e.block))
    (c1 : AtU w' q 0 [.int .i64 x.id, .int .i64 x.b, .int .i64 x.frm, .slice (some ⟨gd, 0, none⟩) x.data.length cd, .slice aa x.after.length ac, .bool x.out]) (c2 : At w' gd 0 (u8L x.data)) (c3 : Row w' aa (iL x.after))
    (c4 : AtU w' (oa x.b) 0 [.slice (some ⟨g, 0, none⟩) 256 cc, .slice la' (o.l.length + 1) lc']) (hg : rl g = 5) (c5 : At w' g 0 (u8L o.base)) (c6 : Own Try.prog w' w0.heap.size 66 1 la' (o.l.length + 1) lc' (pL (o.l.map fun y => ca y.id) ++ [pV q])) :
    ∃ rl' ca', PIn w0 (Gro R w w') rl' w' sp c d mo mm ca' oa (putL x.id (pV q) Lo) Lm (appO P x) := by
  classical
  have hbig : ∀ {z}, w.heap.size ≤ z → rl z = 0 := fun hz => h.out_of hz
  have hon := h.ons o ho
  rw [hob] at hon
  have hrS : ∀ {z}, S z → rl z = 3 ∨ rl z = 8 + 3 * x.b ∨ rl z = 9 + 3 * x.b := fun {z} e => by
    rcases hS z e with e | e | e
    · left; rw [e]; exact h.rmo
    · right; left; rw [e]; exact hon.2.1
    · exact .inr (.inr e)
  -- the roles
  have hx1 : Ext w w' rl (ro rl gd 5) := (Ext.refl _ _ _).ro (.inr ⟨hgd.1, hgd.2, hbig hgd.1⟩) (by omega) (by omega)
  have e1 : ro rl gd 5 q = 0 := by rw [ro_ne _ hqg]; exact hbig hq.1
  have hx2 : Ext w w' rl (ro (ro rl gd 5) q (10 + 3 * x.id)) := hx1.ro (.inr ⟨hq.1, hq.2, e1⟩) (by omega) (by omega)
  have hx3 : ∃ r3, Ext w w' rl r3 ∧ r3 gd = 5 ∧ r3 q = 10 + 3 * x.id ∧ (∀ e, aa = some e → r3 e.block = 5) ∧ ∀ z, r3 z ≠ rl z → z = gd ∨ z = q ∨ ∃ e, aa = some e ∧ z = e.block := by
    cases haa' : aa with
    | none =>
      refine ⟨_, hx2, by rw [ro_ne _ (Ne.symm hqg), ro_same], ro_same _ _ _, (fun e he => by cases he), fun z hz => ?_⟩
      by_cases a1 : z = q
      · exact .inr (.inl a1)
      · by_cases a2 : z = gd
        · exact .inl a2
        · rw [ro_ne _ a1, ro_ne _ a2] at hz; exact absurd rfl hz
    | some a =>
      obtain ⟨b1, b2, b3, b4⟩ := haa a haa'
      have e2 : ro (ro rl gd 5) q (10 + 3 * x.id) a.block = 0 := by rw [ro_ne _ b3, ro_ne _ b4]; exact hbig b1
      refine ⟨ro (ro (ro rl gd 5) q (10 + 3 * x.id)) a.block 5, hx2.ro (.inr ⟨b1, b2, e2⟩) (by omega) (by omega), ?_, ?_, ?_, fun z hz => ?_⟩
      · rw [ro_ne _ (Ne.symm b4), ro_ne _ (Ne.symm hqg), ro_same]
      · rw [ro_ne _ (Ne.symm b3), ro_same]
      · intro e he; cases he; exact ro_same _ _ _
      · by_cases a0 : z = a.block
        · exact .inr (.inr ⟨a, rfl, a0⟩)
        · by_cases a1 : z = q
          · exact .inr (.inl a1)
          · by_cases a2 : z = gd
            · exact .inl a2
            · rw [ro_ne _ a0, ro_ne _ a1, ro_ne _ a2] at hz; exact absurd rfl hz
  obtain ⟨r3, x3, r3g, r3q, r3a, r3o⟩ := hx3
  have hx4 : ∃ r4, Ext w w' rl r4 ∧ r4 gd = 5 ∧ r4 q = 10 + 3 * x.id ∧ (∀ e, aa = some e → r4 e.block = 5) ∧ (∀ e, la' = some e → r4 e.block = 9 + 3 * x.b) ∧ ∀ z, r4 z = 1 → rl z = 1 := by
    have h31 : ∀ z, r3 z = 1 → rl z = 1 := fun z hz => by
      by_cases e : r3 z = rl z
      · omega
      · rcases r3o z e with rfl | rfl | ⟨a, ha, rfl⟩
        · omega
        · omega
        · have := r3a a ha; omega
    cases hla' : la' with
    | none => exact ⟨r3, x3, r3g, r3q, r3a, (fun e he => by cases he), h31⟩
    | some a =>
      rcases hla a hla' with hr | ⟨b1, b2, b3, b4, b5⟩
      · have : r3 a.block = 9 + 3 * x.b := by rw [x3.old _ (by omega)]; exact hr
        exact ⟨r3, x3, r3g, r3q, r3a, fun e he => by cases he; exact this, h31⟩
      · have e3 : r3 a.block = 0 := by
          by_cases e : r3 a.block = rl a.block
          · rw [e]; exact hbig b1
          · rcases r3o _ e with e | e | ⟨a2, ha2, e⟩
            · exact absurd e b4
            · exact absurd e b3
            · exact absurd e (b5 a2 ha2)
        refine ⟨ro r3 a.block (9 + 3 * x.b), x3.ro (.inr ⟨b1, b2, e3⟩) (by omega) (by omega), ?_, ?_, ?_, ?_, fun z hz => ?_⟩
        · rw [ro_ne _ (Ne.symm b4)]; exact r3g
        · rw [ro_ne _ (Ne.symm b3)]; exact r3q
        · intro e he; rw [ro_ne _ (fun e' => b5 e he e'.symm)]; exact r3a e he
        · intro e he; cases he; exact ro_same _ _ _
        · by_cases a0 : z = a.block
          · rw [a0, ro_same] at hz; omega
          · rw [ro_ne _ a0] at hz; exact h31 z hz
  obtain ⟨rl', x4, r4g, r4q, r4a, r4l, r41⟩ := hx4
  obtain ⟨s, t, d1, d2, d3, d4⟩ := appO_all h.wf ho hob
  refine ⟨rl', fun n => if n = x.id then q else ca n, ?_⟩
  refine h.step (P' := appO P x) rfl k x4 r41 (fun z _ e => by have := hrS e; omega) ?_ hmO (h.mapM.keep k fun e => by have := hrS e; rw [h.rmm] at this; omega) ?_ ?_ ?_ ?_ hwf
  · have : (appO P x).last = P.last := hid.symm
    rw [this]; exact h.cell.keep k fun e => by have := hrS e; rw [h.rsp] at this; omega
  · intro y hy
    rcases List.mem_cons.1 (d4.mem_iff.1 hy) with rfl | hy
    · right
      refine ⟨by rw [look_put, if_pos rfl, if_pos rfl], by rw [if_pos rfl]; exact r4q, ?_⟩
      rw [if_pos rfl]
      exact ⟨gd, cd, aa, ac, c1, c2, r4g, c3, r4a⟩
    · left
      have := hnew y hy
      refine ⟨hy, by rw [look_put, if_neg (by omega)], if_neg this, fun z e e2 => by have := hrS e; omega⟩
  · intro p hp
    have hp' : p ∈ s ++ { o with l := o.l ++ [x] } :: t := by rw [← d2]; exact hp
    have hca : ∀ y ∈ P.all, (if y.id = x.id then q else ca y.id) = ca y.id := fun y hy => if_neg (hnew y hy)
    have hcase : (p ∈ P.ons ∧ p.b ≠ x.b) ∨ p = { o with l := o.l ++ [x] } := by
      simp only [List.mem_append, List.mem_cons] at hp'
      rcases hp' with hp' | hp' | hp'
      · exact .inl ⟨by rw [d1]; simp [hp'], d3 p (by simp [hp'])⟩
      · exact .inr hp'
      · exact .inl ⟨by rw [d1]; simp [hp'], d3 p (by simp [hp'])⟩
    rcases hcase with ⟨hp1, hpb⟩ | rfl
    · left
      exact ⟨hp1, rfl, rfl, fun y hy => hca y (on_all hp1 hy), fun z e => by have := hrS e; omega⟩
    · right
      refine ⟨by show lookupL Lm (o.b : Int) = _; rw [hob]; exact hon.1, by show rl' (oa o.b) = 8 + 3 * o.b; rw [hob, x4.old _ (by rw [hon.2.1]; omega)]; exact hon.2.1, ?_⟩
      refine ⟨g, cc, la', lc', ?_, c5, by rw [x4.old g (by omega)]; exact hg, ?_, ?_⟩
      · show AtU w' (oa o.b) 0 [_, .slice la' (o.l ++ [x]).length lc']
        rw [hob, List.length_append]; exact c4
      · show Own Try.prog w' w0.heap.size _ 1 la' (o.l ++ [x]).length lc' (pL ((o.l ++ [x]).map fun y => if y.id = x.id then q else ca y.id))
        have : pL ((o.l ++ [x]).map fun y => if y.id = x.id then q else ca y.id) = pL (o.l.map fun y => ca y.id) ++ [pV q] := by
          rw [List.map_append]
          unfold pL
          rw [List.map_append]
          congr 1
          · congr 1
            exact List.map_congr_left fun y hy => hca y (on_all ho hy)
          · simp
        rw [this, List.length_append]; exact c6
      · show ∀ e, la' = some e → rl' e.block = 9 + 3 * o.b
        rw [hob]; exact r4l
  · intro p hp
    rcases put_keys p hp with e | hp
    · exact ⟨x, d4.mem_iff.2 (by simp), e⟩
    · obtain ⟨y, hy, e⟩ := h.keysO p hp
      exact ⟨y, d4.mem_iff.2 (by simp [hy]), e⟩
  · intro p hp
    obtain ⟨o', ho', e⟩ := h.keysM p hp
    rw [d1] at ho'
    simp only [List.mem_append, List.mem_cons] at ho'
    show ∃ o'' ∈ (appO P x).ons, _
    rw [d2]
    rcases ho' with ho' | rfl | ho'
    · exact ⟨o', by simp [ho'], e⟩
    · exact ⟨{ o' with l := o'.l ++ [x] }, by simp, e⟩
    · exact ⟨o', by simp [ho'], e⟩
theorem tells_given {q : Nat} {xs : List Int} (h : PIn w0 R rl w sp c d mo mm ca oa Lo Lm P) (hq : At w q 0 [.pointer (some ⟨sp, 0, none⟩)]) :
    Tells (.func (.func F_patch_Store_Patch_1) #[] #[.pointer (some ⟨q, 0, none⟩)]) w No (fun k => !decide (1 ≤ k ∧ k ≤ (P.last : Int))) xs := by
  intro w' k x _ K hK
  refine ⟨_, _, _, rfl, ?_⟩
  show Cal Try.prog F_patch_Store_Patch_1 #[.int .i64 x, .pointer (some ⟨q, 0, none⟩)] w' K
  apply C_patch_Store_Patch_1
  exact ⟨_, (hq.keep k id).load (i := 0) (by kernel_rfl) rfl, given_c (h.nos k) ⟨_, rfl, hK _ (Mod.refl _ _)⟩⟩
end
end Go.Proofs.Ytocjjigmpgekfaa

/- Layer 11, the program's store: a change. -/
open Go Go.Den Go.Proofs
namespace Go.Proofs.Ytocjjigmpgekfaa
theorem Row.keep2 {w w' : World} {S : Nat → Prop} {a : Option Addr} {xs : List Value} (h : Row w a xs) (m : Mod S w w') (hs : ∀ q, a = some q → q.block < w.heap.size → ¬ S q.block) : Row w' a xs := by
  rcases h with h | ⟨b, o, e, hat⟩
  · exact .inl h
  · exact .inr ⟨b, o, e, hat.keep m (hs _ e hat.lt)⟩
theorem turn_iff {l : List Bf} {z y : Bf} (h : y.b ≠ z.b) : y ∈ turn l z ↔ y ∈ l := by
  constructor
  · intro hy
    rcases mem_turn hy with rfl | ⟨hy, _⟩
    · exact absurd rfl h
    · exact hy
  · intro hy; exact turn_other hy h
theorem lay_facts {C : Ca} {b : Nat} {y : Bf} {ys : Bk} (h : WFC C) (hD : WF C.D) (hy : y ∈ C.l) (hb : y.b = b) (hl : ys.length = 256) :
    ∃ C', layX C b ys = (C', 0) ∧ C'.D = C.D ∧ C'.most = C.most ∧ (∀ z, z.b ≠ b → (z ∈ C'.l ↔ z ∈ C.l)) ∧ ∃ z ∈ C'.l, z.b = b ∧ z.pins = y.pins ∧ z.data = ys := by
  have hlt : b < C.D.vs.length := by rw [← hb]; exact h.lt y hy
  have hf : findB C.l b = some y := by rw [← hb]; exact findB_mem h.nodup hy
  have ha : askC C b = some { C with l := others C.l b ++ [y] } := by unfold askC; rw [hf]
  have he : errOf C.D (b : Int) = 0 := (rd_at C.D hlt).1
  refine ⟨{ C with l := turn (others C.l b ++ [y]) ⟨b, ys, pinsOf (others C.l b ++ [y]) b⟩ }, ?_, rfl, rfl, fun z hz => ?_, ⟨b, ys, pinsOf (others C.l b ++ [y]) b⟩, turn_mem ⟨y, by simp, hb⟩, rfl, ?_, rfl⟩
  · unfold layX
    rw [if_neg (by rw [he]; simp), if_neg (by omega), Int.toNat_natCast, ha]
  · show z ∈ turn _ _ ↔ _
    rw [turn_iff (by exact hz), List.mem_append, mem_others]
    constructor
    · rintro (hz1 | hz1)
      · exact hz1.1
      · simp at hz1; subst hz1; exact hy
    · intro hz1; exact .inl ⟨hz1, hz⟩
  · show pinsOf (others C.l b ++ [y]) b = y.pins
    have hn : ((others C.l b ++ [y]).map (·.b)).Nodup := snoc_nodup (others_nodup h.nodup _) fun z hz => by rw [hb]; exact (mem_others.1 hz).2
    have := pinsOf_mem hn (x := y) (by simp)
    rw [hb] at this; exact this
theorem pin_facts {C : Ca} {b : Nat} {y : Bf} (h : WFC C) (hy : y ∈ C.l) (hb : y.b = b) :
    ∃ C', pinX C b = (C', 0) ∧ C'.D = C.D ∧ C'.most = C.most ∧ (∀ z, z.b ≠ b → (z ∈ C'.l ↔ z ∈ C.l)) ∧ ∃ z ∈ C'.l, z.b = b ∧ z.pins = y.pins + 1 ∧ z.data = y.data := by
  have hf : findB C.l b = some y := by rw [← hb]; exact findB_mem h.nodup hy
  have hh : heldC C b = some y := by unfold heldC; rw [if_neg (by omega), Int.toNat_natCast, hf]
  refine ⟨{ C with l := turn C.l { y with pins := y.pins + 1 } }, by unfold pinX; rw [hh], rfl, rfl, fun z hz => turn_iff (by show z.b ≠ y.b; rw [hb]; exact hz), { y with pins := y.pins + 1 }, turn_mem ⟨y, hy, rfl⟩, hb, rfl, rfl⟩
theorem WFP.pins {P : Ps} (h : WFP P) (hs : WFS P) (hc : WFC P.C) : ∀ x ∈ P.C.l, x.pins ≤ 1 := by
  intro x hx
  by_cases ho : ∃ o ∈ P.ons, o.b = x.b
  · obtain ⟨o, ho, e⟩ := ho
    obtain ⟨y, hy, e1, e2, _⟩ := h.pin o ho
    have : y = x := map_inj hc.nodup hy hx (by omega)
    rw [← this, e2]; omega
  · rw [(h.unp x hx fun o ho' e => ho ⟨o, ho', e⟩).1]; omega
theorem newO_ons {P : Ps} {C : Ca} (e : C.D = P.C.D) (b : Nat) : (newO (⟨C, P.last, P.ons⟩ : Ps) b).ons = (newO P b).ons := by
  have hc := contV_C (V := P) (C := C) e b
  cases ho : onOf P b with
  | some o =>
    have ho' : onOf (⟨C, P.last, P.ons⟩ : Ps) b = some o := ho
    unfold newO; rw [ho, ho']
  | none =>
    have ho' : onOf (⟨C, P.last, P.ons⟩ : Ps) b = none := ho
    unfold newO; rw [ho, ho']
    show P.ons ++ [_] = P.ons ++ [_]
    rw [hc]
/-- The state when a block's changes are found or made. -/
def Jn (w0 : World) (R : Nat → Prop) (w : World) (sp c d mo mm : Nat) (ca : Nat → Nat) (Lo : List (Int × Value)) (P1 : Ps) (b g : Nat) (x : List Value) (w9 : World) : Prop :=
  ∃ R9 rl9 C9 oa9 Lm9, PIn w0 R9 rl9 w9 sp c d mo mm ca oa9 Lo Lm9 { newO P1 b with C := C9 } ∧ (∀ z, R9 z → Gro R w w9 z) ∧ Mod R w w9 ∧ At w9 w.heap.size 0 [.pointer (some ⟨sp, 0, none⟩)] ∧ ¬ R9 w.heap.size ∧
    At w9 g 0 (u8L (contV P1 b)) ∧ C9.D = P1.C.D ∧ C9.most = P1.C.most ∧ (∀ z, z.b ≠ b → (z ∈ C9.l ↔ z ∈ P1.C.l)) ∧ (∃ y ∈ C9.l, y.b = b ∧ y.pins = 1 ∧ y.data = contV P1 b) ∧ x = [.pointer (some ⟨oa9 b, 0, none⟩)]
section
variable {w0 w w' : World} {R R' : Nat → Prop} {rl : Nat → Nat} {sp c d mo mm : Nat} {ca oa : Nat → Nat} {Lo Lm : List (Int × Value)} {P V : Ps} {K : Value → World → Prop}
/-- A block without changes gets its place. -/
theorem new_c {w3 : World} {b g cc q5 : Nat} {kk : List Value → World → Prop} {P1 : Ps} {R3 : Nat → Prop} {rl3 : Nat → Nat}
    (hM : Mod R w w3) (hG : ∀ z, R3 z → Gro R w w3 z) (hlo : ∀ x, R x → w0.heap.size ≤ x ∧ x < w.heap.size) (h3 : PIn w0 R3 rl3 w3 sp c d mo mm ca oa Lo Lm P1) (hq5 : At w3 q5 0 [.pointer (some ⟨sp, 0, none⟩)]) (hqn : ¬ R3 q5) (hqe : q5 = w.heap.size)
    (hat : At w3 g 0 (u8L (contV P1 b))) (hl : (contV P1 b).length = 256) (hgn : ¬ R3 g) (hg0 : w0.heap.size ≤ g) (hgw : w.heap.size < g) (hb : b < P1.C.D.vs.length) (hno : onOf P1 b = none) (hw1 : WFP P1) (hy : ∃ y ∈ P1.C.l, y.b = b)
    (hk : ∀ x w9, Jn w0 R w sp c d mo mm ca Lo P1 b g x w9 → kk x w9) :
    ∃ g78 : Array Value, Al (Instr.build 68 #[(0, .slice (some ⟨g, 0, none⟩) 256 cc)]) (.agg g78) ∧ ∃ q79 : Addr, ∃ w6 : World, Ru (Instr.box 68 (.agg g78)) w3 (.pointer (some q79)) w6 ∧ ∃ p80 : Option Addr, Ru (Instr.loadAt 28 (.pointer (some ⟨q5, 0, none⟩))) w6 (.pointer p80) w6 ∧ ∃ q81 : Addr, (.pointer p80 : Value) = .pointer (some q81) ∧ ∃ m83 : Option Nat, Ru (Instr.loadAt 59 (.pointer (some (Addr.add q81 4)))) w6 (.map m83) w6 ∧ ∃ w7 : World, RuU (Instr.mapUpdate 59 (.map m83) (.int .i64 b) (.pointer (some q79))) w6 w7 ∧ ∃ p86 : Option Addr, Ru (Instr.loadAt 28 (.pointer (some ⟨q5, 0, none⟩))) w7 (.pointer p86) w7 ∧ ∃ q87 : Addr, (.pointer p86 : Value) = .pointer (some q87) ∧ ∃ p89 : Option Addr, Ru (Instr.loadAt 54 (.pointer (some (Addr.add q87 0)))) w7 (.pointer p89) w7 ∧ Cal Try.prog F_cache_Cache_Pin #[.pointer p89, .int .i64 b] w7 fun r91 w8 => ∃ n91 : Int, r91 = .int .i64 n91 ∧ kk [.pointer (some q79)] w8 := by
  subst hqe
  have hz0 : rl3 g = 0 := by
    by_cases e : rl3 g = 0
    · exact e
    · exact absurd (h3.reg g e) hgn
  have hq0 : rl3 w.heap.size = 0 := by
    by_cases e : rl3 w.heap.size = 0
    · exact e
    · exact absurd (h3.reg _ e) hqn
  have ht := h3.take hz0 hg0 hat.lt
  have hrg : ro rl3 g 5 g = 5 := ro_same _ _ _
  obtain ⟨w5, u1, h5, M5⟩ := ht.newOn (cc := cc) hno hb hl hrg hat
  have m4 : Mod No w3 (w3.alloc (.cells ⟨[.slice (some ⟨g, 0, none⟩) 256 cc, .slice none 0 0]⟩ 68)) := (Mod.refl No w3).alloc _
  have h4 := ht.nos m4
  refine ⟨_, fun w => build_on w _ _ _, _, _, box_on _ _, _, (hq5.keep m4 id).load (i := 0) (by kernel_rfl) rfl, _, rfl, _, h4.lm, w5, u1, ?_⟩
  have hqmm : w.heap.size ≠ mm := fun e => by have := h3.rmm; rw [← e, hq0] at this; omega
  have hq5' := hq5.keep M5 hqmm
  refine ⟨_, hq5'.load (i := 0) (by kernel_rfl) rfl, _, rfl, _, h5.lc, ?_⟩
  obtain ⟨y, hyl, hyb⟩ := hy
  have hc1 := h3.cx.wf.1
  obtain ⟨eC, eL⟩ := newO_C (V := P1) (b := b)
  obtain ⟨C9, p1, p2, p3, p4, z, z1, z2, z3, z4⟩ := pin_facts hc1 hyl hyb
  have hpins : ∀ x ∈ P1.C.l, x.pins ≤ 1 := hw1.pins h3.wf hc1
  refine cPin_c (n := (b : Int)) h5.cx (by rw [eC]; exact fun x hx => Nat.le_trans (hpins x hx) (by omega)) fun w6 m6 x6 => ⟨_, rfl, ?_⟩
  have x6 : Cx w0 (Gro (fun x => ro (ro rl3 g 5) w3.heap.size (8 + 3 * b) x = 1) w5 w6) w6 c d (pinX P1.C b).1 := by rw [← eC]; exact x6
  rw [p1] at x6
  obtain ⟨rl6, h6, hr6⟩ := h5.cache m6 (Mod.refl _ _) x6 (by show C9.D.vs.length = _; rw [p2, eC]) (by show C9.most = _; rw [p3, eC])
  have hs3 := hM.size
  have hs5 := M5.size
  have hs6 := m6.size
  have hgl := hat.lt
  have hq3 := hq5.lt
  have hsz4 : w3.heap.size < w5.heap.size := (h5.lo _ (h5.reg w3.heap.size (by rw [ro_same]; omega))).2
  refine hk _ _ ⟨_, rl6, C9, _, _, h6, fun x hx => ?_, ?_, ?_, fun hx => ?_, ?_, by rw [p2], by rw [p3], p4, ⟨z, z1, z2, ?_, ?_⟩, ?_⟩
  · rcases hx with ((hx | hx) | hx) | hx
    · rcases hG x hx with hx | hx
      · exact .inl hx
      · exact .inr (by omega)
    · exact .inr (by omega)
    · exact .inr (by omega)
    · exact .inr (by omega)
  · have k1 : Mod R w w5 := hM.trans M5 fun z hz e => by
      have : R3 z := by rw [show z = mm from e]; exact h3.reg mm (by rw [h3.rmm]; omega)
      rcases hG z this with e2 | e2
      · exact e2
      · omega
    refine k1.trans m6 fun z hz e => ?_
    have e : ro (ro rl3 g 5) w3.heap.size (8 + 3 * b) z = 1 := e
    rw [ro_ne _ (by omega), ro_ne _ (by omega)] at e
    rcases hG z (h3.reg z (by omega)) with e2 | e2
    · exact e2
    · omega
  · refine hq5'.keep m6 fun e => ?_
    have e : ro (ro rl3 g 5) w3.heap.size (8 + 3 * b) w.heap.size = 1 := e
    rw [ro_ne _ (by omega), ro_ne _ (by omega)] at e
    omega
  · rcases hx with ((hx | hx) | hx) | hx
    · exact hqn hx
    · omega
    · omega
    · omega
  · refine (hat.keep M5 fun e => by have := h3.rmm; rw [← show g = mm from e, hz0] at this; omega).keep m6 fun e => ?_
    have e : ro (ro rl3 g 5) w3.heap.size (8 + 3 * b) g = 1 := e
    rw [ro_ne _ (by omega), ro_same] at e
    omega
  · have : y.pins = 0 := by
      refine (hw1.unp y hyl fun o ho e => ?_).1
      exact onOf_none hno o ho (by omega)
    rw [z3, this]
  · rw [z4]
    have := cont_view hw1 h3.wf hc1 b
    rw [← this]
    unfold cont
    have hf := findB_mem hc1.nodup hyl
    rw [hyb] at hf
    rw [hf]
  · simp
end
end Go.Proofs.Ytocjjigmpgekfaa

/- Layer 11, the program's store: Patch. -/
open Go Go.Den Go.Proofs
namespace Go.Proofs.Ytocjjigmpgekfaa
section
variable {w0 w w' : World} {R R' : Nat → Prop} {rl : Nat → Nat} {sp c d mo mm : Nat} {ca oa : Nat → Nat} {Lo Lm : List (Int × Value)} {P V : Ps} {K : Value → World → Prop}
theorem filter_take {l : List Int} {f : Int → Bool} {i : Nat} (hi : i < l.length) : (l.take (i + 1)).filter f = (l.take i).filter f ++ (if f l[i] = true then [l[i]] else []) := by
  rw [List.take_succ_eq_append_getElem hi, List.filter_append]
  congr 1
  by_cases hf : f l[i] = true
  · rw [if_pos hf]; simp [hf]
  · rw [if_neg hf]; simp [hf]
set_option maxRecDepth 100000 in
theorem pPatch_c {n frm : Int} {a3 a4 : Option Addr} {l3 c3 l4 c4 : Nat} {data : Bk} {after : List Int} (hP : Px w0 R w sp d P) (hlast : P.last + 1 ≤ 1000000) (hd : data.length = l3) (hrd : Row w a3 (u8L data)) (hdo : data ≠ [] → ∀ q, a3 = some q → ¬ R q.block) (h63 : l3 ≤ 9223372036854775807)
    (ha : after.length = l4) (ha6 : l4 ≤ 1000000) (hra : Row w a4 (iL after)) (hao : after ≠ [] → ∀ q, a4 = some q → ¬ R q.block)
    (hk : ∀ w' C', Mod R w w' → Px w0 (Gro R w w') w' sp d ⟨C', (patS P n frm data after).last, (patS P n frm data after).ons⟩ → C'.D = P.C.D → C'.most = P.C.most → K (.tuple #[.int .i64 (patN P n frm data after), .int .i64 (patE P n frm data after)]) w') :
    Cal Try.prog F_patch_Store_Patch #[.pointer (some ⟨sp, 0, none⟩), .int .i64 n, .int .i64 frm, .slice a3 l3 c3, .slice a4 l4 c4] w K := by
  have hP0 := hP
  obtain ⟨hw, rl, c, mo, mm, ca, oa, Lo, Lm, h⟩ := hP
  apply C_patch_Store_Patch
  unfold D_patch_Store_Patch
  have m1 : Mod No w (w.alloc (.cells ⟨[.pointer (some ⟨sp, 0, none⟩)]⟩ 28)) := (Mod.refl No w).alloc _
  have a1 : At (w.alloc (.cells ⟨[.pointer (some ⟨sp, 0, none⟩)]⟩ 28)) w.heap.size 0 [.pointer (some ⟨sp, 0, none⟩)] := AtU.new.at
  have s1 : (w.alloc (.cells ⟨[.pointer (some ⟨sp, 0, none⟩)]⟩ 28)).heap.size = w.heap.size + 1 := by simp
  refine ⟨_, _, box_store _ _, ?_⟩
  generalize w.alloc (.cells ⟨[.pointer (some ⟨sp, 0, none⟩)]⟩ 28) = w1 at *
  have h1 := h.nos m1
  have hlo := hP0.lo
  have hw0 := h.mod.size
  -- an error: nothing has changed
  have bad : ∀ w2 e, Mod No w w2 → patE P n frm data after = e → e ≠ 0 → K (.tuple #[.int .i64 0, .int .i64 e]) w2 := fun w2 e m he hne => by
    have hS : patS P n frm data after = P := by unfold patS; rw [if_neg (by rw [he]; exact hne)]
    have hN : patN P n frm data after = 0 := by unfold patN; rw [if_neg (by rw [he]; exact hne)]
    have := hk w2 P.C m.anys (by rw [hS]; exact hP0.gro m) rfl rfl
    rw [hN, he] at this; exact this
  refine ⟨_, a1.load (i := 0) (by kernel_rfl) rfl, ff rfl (Share.cut (fun x w2 => w1 = w2 ∧ x = [.bool (decide (errOf P.C.D n ≠ 0))]) (cond_of (fun hb => ?_) (fun hb => ?_)) ?_)⟩
  · have hb := of_decide_eq_true hb
    have : errOf P.C.D n ≠ 0 := by unfold errOf; rw [if_pos (by omega)]; omega
    rw [decide_eq_true this]; exact ⟨rfl, rfl⟩
  · have hb := of_decide_eq_false hb
    refine ⟨_, a1.load (i := 0) (by kernel_rfl) rfl, _, rfl, _, h1.llen', rfl, ?_⟩
    congr 2
    unfold errOf
    by_cases hn : (P.C.D.vs.length : Int) ≤ n
    · rw [if_pos (.inr hn), decide_eq_true hn]; rfl
    · rw [if_neg (by omega), decide_eq_false hn]; rfl
  rintro x w2 ⟨rfl, rfl⟩
  refine ⟨_, rfl, ?_⟩
  by_cases he : errOf P.C.D n ≠ 0
  · exact tt (decide_eq_true he) (bad w1 3 m1 (by unfold patE; rw [if_pos he]) (by omega))
  refine ff (decide_eq_false he) ?_
  have he0 : errOf P.C.D n = 0 := Classical.not_not.1 he
  refine Share.cut (fun x w2 => w1 = w2 ∧ x = [.bool (decide (data.length = 0 ∨ frm < 0 ∨ 256 < frm ∨ 256 - frm < data.length))]) (cond_of (fun hb => ⟨rfl, ?_⟩) (fun hb => cond_of (fun hb2 => ⟨rfl, ?_⟩) (fun hb2 => cond_of (fun hb3 => ⟨rfl, ?_⟩) (fun hb3 => ⟨rfl, ?_⟩)))) ?_
  · have : (l3 : Int) = 0 := by simpa using hb
    rw [decide_eq_true (.inl (by omega))]
  · have := of_decide_eq_true hb2
    rw [decide_eq_true (.inr (.inl this))]
  · have := of_decide_eq_true hb3
    rw [decide_eq_true (.inr (.inr (.inl (by omega))))]
  · have hb : ¬ (l3 : Int) = 0 := by simpa using hb
    have hb2 := of_decide_eq_false hb2
    have hb3 := of_decide_eq_false hb3
    rw [wrap64 (x := 256 - frm) (by omega) (by omega)]
    congr 2
    rw [Bool.eq_iff_iff]
    simp only [decide_eq_true_eq]
    omega
  rintro x w2 ⟨rfl, rfl⟩
  refine ⟨_, rfl, ?_⟩
  by_cases hsz : data.length = 0 ∨ frm < 0 ∨ 256 < frm ∨ 256 - frm < data.length
  · exact tt (decide_eq_true hsz) (bad w1 4 m1 (by unfold patE; rw [if_neg he, if_pos hsz]) (by omega))
  refine ff (decide_eq_false hsz) ?_
  refine Contains64_c (S := No) ha (by omega) (hra.nos m1) (tells_given h1 a1) fun w2 m2 => ⟨_, rfl, ?_⟩
  have M2 := m1.no m2
  by_cases hbad : badA P after = true
  · exact tt hbad (bad w2 1 M2 (by unfold patE; rw [if_neg he, if_neg hsz, if_pos hbad]) (by omega))
  refine ff (by simpa [badA] using hbad) ?_
  have hE : patE P n frm data after = 0 := by unfold patE; rw [if_neg he, if_neg hsz, if_neg hbad]
  obtain ⟨b, rfl, hblt⟩ := err_range he0
  obtain ⟨f, rfl⟩ : ∃ f : Nat, frm = f := ⟨frm.toNat, by omega⟩
  have h2 := h.nos M2
  have a2 := a1.keep m2 id
  have hcw := h2.cx.wf
  -- what is read
  obtain ⟨C1, hask⟩ := ask_some hcw.1 h2.wf.full hblt
  obtain ⟨l0, y, A⟩ := ask_facts hcw.1 hcw.2.1 hblt hask
  have hr0 : rdX P.C b = (C1, 0, lastD C1.l) := by unfold rdX; rw [if_neg (by rw [he0]; simp), Int.toNat_natCast, hask]
  have hyl : y ∈ C1.l := by rw [A.l]; simp
  have hly : lastD C1.l = y.data := by unfold lastD; rw [A.l]; simp
  have hw1 : WFP ⟨C1, P.last, P.ons⟩ := hw.ask h2.wf hcw.1 A
  have hs1 : WFS ⟨C1, P.last, P.ons⟩ := WFS.cache h.wf (by rw [A.D]) A.most
  have hlen : (lastD C1.l).length = 256 := by rw [hly]; exact A.wf.data y hyl
  have hold : lastD C1.l = contV ⟨C1, P.last, P.ons⟩ b := by
    rw [← cont_view hw1 hs1 A.wf b]
    unfold cont
    have := findB_mem A.wf.nodup hyl
    rw [A.yb] at this
    show _ = (match findB C1.l b with | some x => x.data | none => atD C1.D b)
    rw [this, hly]
  refine ⟨_, a2.load (i := 0) (by kernel_rfl) rfl, _, rfl, _, h2.lc, cRead_c h2.cx fun w3a w3 ag cg m3a m3 x3 o3 => ⟨_, _, _, _, rfl, ?_⟩⟩
  simp only [hr0, hlen] at x3 o3 ⊢
  obtain ⟨rl3, h3, hr3⟩ := h2.cache m3a m3 x3 (by rw [A.D]) A.most
  obtain ⟨g, rfl, hg, hat⟩ := o3.sm (by omega)
  rw [hold] at hat
  have hz2 := M2.size
  have hz3a := m3a.size
  have hz3 := m3.size
  have hzm2 := m2.size
  have hq1 := a1.lt
  have hR1 : ∀ z, rl z = 1 → R z := fun z hz => h.reg z (by omega)
  have M3 : Mod R w w3 := (M2.anys.trans m3a fun z _ e => hR1 z e).no m3
  have hrq : ∀ z, rl z ≠ 0 → z < w.heap.size := fun z hz => (hlo z (h.reg z hz)).2
  have a3' : At w3 w.heap.size 0 [.pointer (some ⟨sp, 0, none⟩)] := (a2.keep m3a fun e => by have := hrq w.heap.size (by have e : rl w.heap.size = 1 := e; omega); omega).keep m3 id
  have hlk := h3.lookM (b : Int)
  refine ff rfl ⟨_, a3'.load (i := 0) (by kernel_rfl) rfl, _, rfl, _, h3.lm, _, hlk, ?_⟩
  have hG3 : ∀ z, Gro R w2 w3a z → Gro R w w3 z := fun z hz => by
    rcases hz with hz | hz
    · exact .inl hz
    · exact .inr (by omega)
  have hqn : ¬ Gro R w2 w3a w.heap.size := by
    rintro (e | e)
    · have := (hlo _ e).2; omega
    · omega
  have hgn : ¬ Gro R w2 w3a g := by
    rintro (e | e)
    · have := (hlo _ e).2; omega
    · omega
  have hcl : (contV ⟨C1, P.last, P.ons⟩ b).length = 256 := by rw [← hold]; exact hlen
  have hblt1 : b < C1.D.vs.length := by rw [A.D]; exact hblt
  refine Share.cut (Jn w0 R w sp c d mo mm ca Lo ⟨C1, P.last, P.ons⟩ b g) ?_ ?_
  · cases ho : onOf P b with
    | none =>
      have ho' : onOf { P with C := C1 } b = none := ho
      rw [ho']
      exact tt rfl (new_c (P1 := ⟨C1, P.last, P.ons⟩) M3 hG3 hlo h3 a3' hqn rfl hat.at hcl hgn (by omega) (by omega) hblt1 ho hw1 ⟨y, hyl, A.yb⟩ fun _ _ hj => hj)
    | some o =>
      have ho' : onOf { P with C := C1 } b = some o := ho
      rw [ho']
      obtain ⟨hom, hob⟩ := onOf_some ho
      have hob : o.b = b := by omega
      refine ff rfl ?_
      have hnO : newO ⟨C1, P.last, P.ons⟩ b = ⟨C1, P.last, P.ons⟩ := by unfold newO; rw [show onOf (⟨C1, P.last, P.ons⟩ : Ps) b = some o from ho]
      obtain ⟨y1, k1, k2, k3, k4⟩ := hw1.pin o hom
      refine ⟨_, rl3, C1, oa, Lm, by rw [hnO]; exact h3, hG3, M3, a3', hqn, hat.at, rfl, rfl, fun _ _ => Iff.rfl, ⟨y1, k1, by omega, k3, ?_⟩, ?_⟩
      · have hcv : contV ⟨C1, P.last, P.ons⟩ b = withL o.base o.l := by unfold contV; rw [show onOf (⟨C1, P.last, P.ons⟩ : Ps) b = some o from ho]
        rw [hcv]; exact k4
      · rw [← hob]; rfl
  rintro x w9 ⟨R9, rl9, C9, oa9, Lm9, h9, hG9, M9, a9, hqn9, hat9, eD9, eM9, ht9, ⟨y9, hy9, hy9b, hy9p, hy9d⟩, rfl⟩
  clear hlk
  have hz9 := M9.size
  have hq9 := a9.lt
  -- the rows of the call
  have hrow : ∀ {wz : World} {a : Option Addr} {xs : List Value}, Row w a xs → (xs ≠ [] → ∀ q, a = some q → ¬ R q.block) → Mod R w wz → Row wz a xs := fun {wz a xs} hr ho hm => by
    by_cases hx : xs = []
    · exact .inl hx
    · exact Row.keep2 hr hm fun q hq _ => ho hx q hq
  have hdo : u8L data ≠ [] → ∀ q, a3 = some q → ¬ R q.block := fun hne => hdo fun e => hne (by rw [e]; rfl)
  have hao : iL after ≠ [] → ∀ q, a4 = some q → ¬ R q.block := fun hne => hao fun e => hne (by rw [e]; rfl)
  have hd1 : 1 ≤ data.length := by omega
  have hfit : f + data.length ≤ 256 := by omega
  refine Lay_c' (b := contV ⟨C1, P.last, P.ons⟩ b) (ys := data) hcl hd (by omega) (by omega) (by omega) (.inr ⟨_, _, rfl, hat9⟩) (hrow hrd hdo M9) fun w10 m10 at10 => ⟨_, _, _, _, rfl, ?_⟩
  have h10 := h9.nos m10
  have a10 := a9.keep m10 id
  refine ⟨_, a10.load (i := 0) (by kernel_rfl) rfl, _, rfl, _, h10.lc, ?_⟩
  obtain ⟨C11, e11, eD11, eM11, ht11, y11, hy11, hy11b, hy11p, hy11d⟩ := lay_facts (ys := overB (contV ⟨C1, P.last, P.ons⟩ b) f data) h10.cx.wf.1 h10.cx.wf.2.1 hy9 hy9b (by rw [overB_len (by omega)]; exact hcl)
  have hz10 := m10.size
  have hw9 : rl9 w9.heap.size = 0 := h9.out_of (Nat.le_refl _)
  refine cLay_c (n := (b : Int)) (ys := overB (contV ⟨C1, P.last, P.ons⟩ b) f data) h10.cx (by rw [overB_len (by omega)]; exact hcl) (.inr ⟨_, _, rfl, at10.at⟩) (fun _ q hq e => by cases hq; have e : rl9 w9.heap.size = 1 := e; omega) fun w11 m11 x11 => ⟨_, rfl, ?_⟩
  have x11 : Cx w0 (Gro (fun z => rl9 z = 1) w10 w11) w11 c d (layX C9 b (overB (contV ⟨C1, P.last, P.ons⟩ b) f data)).1 := x11
  rw [e11] at x11
  obtain ⟨rl11, h11, hr11⟩ := h10.cache m11 (Mod.refl _ _) x11 (by show C11.D.vs.length = C9.D.vs.length; rw [eD11]) (by show C11.most = C9.most; exact eM11)
  have hz11 := m11.size
  have a11 : At w11 w.heap.size 0 [.pointer (some ⟨sp, 0, none⟩)] := a10.keep m11 fun e => hqn9 (h9.reg _ (by have e : rl9 w.heap.size = 1 := e; omega))
  have hqn11 : ¬ Gro R9 w10 w11 w.heap.size := by
    rintro (e | e)
    · exact hqn9 e
    · omega
  have M11 : Mod R w w11 := (M9.no m10).trans m11 fun z hz e => by
    have e : rl9 z = 1 := e
    rcases hG9 z (h9.reg z (by omega)) with e2 | e2
    · exact e2
    · omega
  have hG11 : ∀ z, Gro R9 w10 w11 z → Gro R w w11 z := fun z hz => by
    rcases hz with hz | hz
    · rcases hG9 z hz with e | e
      · exact .inl e
      · exact .inr (by omega)
    · exact .inr (by omega)
  -- the number
  have eL : (newO ⟨C1, P.last, P.ons⟩ b).last = P.last := newO_C.2
  obtain ⟨w12, u12, h12, m12⟩ := h11.bump (by show (newO ⟨C1, P.last, P.ons⟩ b).last + 1 ≤ 1000000; rw [eL]; exact hlast)
  have hll := h11.llast
  have hz12 := m12.size
  have eW : (IntKind.i64.wrap (((newO ⟨C1, P.last, P.ons⟩ b).last : Nat) + 1 : Int)) = (((newO ⟨C1, P.last, P.ons⟩ b).last + 1 : Nat) : Int) := by
    rw [eL, wrap64 (by omega) (by omega)]; omega
  refine ⟨_, a11.load (i := 0) (by kernel_rfl) rfl, _, rfl, _, hll, _, rfl, w12, ?_, ?_⟩
  · show RuU (Instr.storeAt _ _ (.int .i64 (IntKind.i64.wrap (((newO ⟨C1, P.last, P.ons⟩ b).last : Nat) + 1 : Int)))) w11 w12
    rw [eW]; exact u12
  -- the change
  have m12d : Mod No w12 (Go.Den.drew w12) := (Mod.refl No w12).drew
  have sz12d : (Go.Den.drew w12).heap.size = w12.heap.size := rfl
  have hsp : rl11 sp = 2 := h11.rsp
  have hrl11q : rl11 w.heap.size = 0 := by
    by_cases e : rl11 w.heap.size = 0
    · exact e
    · exact absurd (h11.reg _ e) hqn11
  have a12 : At (Go.Den.drew w12) w.heap.size 0 [.pointer (some ⟨sp, 0, none⟩)] := (a11.keep m12 fun e => by have e : w.heap.size = sp := e; rw [e] at hrl11q; omega).keep m12d id
  have M12 : Mod R w (Go.Den.drew w12) := (M11.trans m12 fun z hz e => by
    have e : z = sp := e
    rcases hG11 z (h11.reg z (by rw [e, hsp]; omega)) with e2 | e2
    · exact e2
    · omega).no m12d
  obtain ⟨Q, hQ⟩ : ∃ Q : Ps, Q = { ({ ({ newO ⟨C1, P.last, P.ons⟩ b with C := C9 } : Ps) with C := C11 } : Ps) with last := (newO ⟨C1, P.last, P.ons⟩ b).last + 1 } := ⟨_, rfl⟩
  have h12' : PIn w0 (Gro (Gro R9 w10 w11) w11 w12) rl11 w12 sp c d mo mm ca oa9 Lo Lm9 Q := by rw [hQ]; exact h12
  have hQo : Q.ons = (newO ⟨C1, P.last, P.ons⟩ b).ons := by rw [hQ]
  have hQl : Q.last = P.last + 1 := by rw [hQ]; show (newO ⟨C1, P.last, P.ons⟩ b).last + 1 = _; rw [eL]
  have hQC : Q.C = C11 := by rw [hQ]
  have hop : Q.opn = P.opn := by
    have := opn_newO (V := ⟨C1, P.last, P.ons⟩) (b := b)
    have e : Q.opn = (newO ⟨C1, P.last, P.ons⟩ b).opn := by unfold Ps.opn Ps.all; rw [hQo]
    rw [e, this]; rfl
  have h12d := h12'.nos m12d
  clear h12 h12' hQ
  have hll2 := h12d.llast
  rw [hQl] at hll2
  refine ⟨_, a12.load (i := 0) (by kernel_rfl) rfl, _, rfl, _, hll2, ?_⟩
  generalize Go.Den.drew w12 = w12d at *
  have hrd12 := hrow hrd hdo M12
  have ha3 : a3 ≠ none := fun e => by
    rcases hrd with hr | ⟨_, _, e2, _⟩
    · have := congrArg List.length hr
      rw [length_u8L] at this
      have e0 : ([] : List Value).length = 0 := rfl
      omega
    · rw [e] at e2; cases e2
  refine CloneB_c hrd12 hd (fun e => absurd e ha3) (by omega) fun w13 a13 c13 o13 m13 => ?_
  have h13 := h12d.nos m13
  have hll3 := h13.llast
  rw [hQl] at hll3
  have a13' := a12.keep m13 id
  obtain ⟨gd, rfl, hgd, hgat⟩ := o13.sm (by omega)
  have hgdl := hgat.lt
  refine ⟨_, _, _, rfl, a13'.load (i := 0) (by kernel_rfl) rfl, hll3, _, fun w => build_ch w _ _ _ _ _ _, _, _, box_ch _ _, ?_⟩
  have m14 : Mod No w13 (w13.alloc (.cells ⟨[.int .i64 ((P.last + 1 : Nat) : Int), .int .i64 b, .int .i64 f, .slice (some ⟨gd, 0, none⟩) l3 c13, .slice none 0 0, .bool false]⟩ 71)) := (Mod.refl No w13).alloc _
  have q14 : AtU (w13.alloc (.cells ⟨[.int .i64 ((P.last + 1 : Nat) : Int), .int .i64 b, .int .i64 f, .slice (some ⟨gd, 0, none⟩) l3 c13, .slice none 0 0, .bool false]⟩ 71)) w13.heap.size 0 [.int .i64 ((P.last + 1 : Nat) : Int), .int .i64 b, .int .i64 f, .slice (some ⟨gd, 0, none⟩) l3 c13, .slice none 0 0, .bool false] := AtU.new
  have s14 : (w13.alloc (.cells ⟨[.int .i64 ((P.last + 1 : Nat) : Int), .int .i64 b, .int .i64 f, .slice (some ⟨gd, 0, none⟩) l3 c13, .slice none 0 0, .bool false]⟩ 71)).heap.size = w13.heap.size + 1 := by simp
  generalize w13.alloc (.cells ⟨[.int .i64 ((P.last + 1 : Nat) : Int), .int .i64 b, .int .i64 f, .slice (some ⟨gd, 0, none⟩) l3 c13, .slice none 0 0, .bool false]⟩ 71) = w14 at *
  have hz13 := m13.size
  refine ⟨fun x w15 => ∃ (i k ac : Nat) (aa : Option Addr), i ≤ l4 ∧ x = [.int .i64 i] ∧ k = ((after.take i).filter P.opn).length ∧ AtU w15 w13.heap.size 0 [.int .i64 ((P.last + 1 : Nat) : Int), .int .i64 b, .int .i64 f, .slice (some ⟨gd, 0, none⟩) l3 c13, .slice aa k ac, .bool false] ∧
      Own Try.prog w15 w14.heap.size 33 1 aa k ac (iL ((after.take i).filter P.opn)) ∧ Mod No w13 w15 ∧ w14.heap.size ≤ w15.heap.size,
    fun x _ => (l4 - nI x 0).toNat, ⟨0, 0, 0, none, by omega, rfl, rfl, q14, Own.nil elemZ_64, m14, Nat.le_refl _⟩, ?_⟩
  rintro x w15 ⟨i, k, ac, aa, hi, rfl, hkl, q15, o15, m15, sz15⟩
  have hfl : ((after.take i).filter P.opn).length ≤ i := by
    have := List.length_filter_le P.opn (after.take i)
    simp at this; omega
  refine ⟨_, rfl, cond_of (fun hb => ?_) (fun hb => ?_)⟩
  · have hi : i < l4 := by have := of_decide_eq_true hb; omega
    have hix : i < after.length := by omega
    have hra15 := hrow hra hao ((M12.no m13).no m15)
    obtain ⟨b4, o4, rfl, hat4⟩ := row_some hra15 hix
    refine ⟨_, index_slice (k := 1) (by kernel_rfl) (by omega) (by omega), ?_⟩
    rw [add_none, show (i : Int).toNat * 1 = i by omega]
    refine ⟨_, hat4.load (by kernel_rfl) (iL_get hix), _, (a13'.keep m15 id).load (i := 0) (by kernel_rfl) rfl, _, rfl, _, (h13.nos m15).lo', ?_⟩
    obtain ⟨p, hp, hpn, _⟩ := (h13.nos m15).lookO after[i]
    rw [hop] at hpn
    have hsplit := filter_take (l := after) (f := P.opn) hix
    refine ⟨p, hp, Share.cut (fun _ w19 => ∃ (k ac : Nat) (aa : Option Addr), k = ((after.take (i + 1)).filter P.opn).length ∧ AtU w19 w13.heap.size 0 [.int .i64 ((P.last + 1 : Nat) : Int), .int .i64 b, .int .i64 f, .slice (some ⟨gd, 0, none⟩) l3 c13, .slice aa k ac, .bool false] ∧
      Own Try.prog w19 w14.heap.size 33 1 aa k ac (iL ((after.take (i + 1)).filter P.opn)) ∧ Mod No w13 w19 ∧ w14.heap.size ≤ w19.heap.size) (cond_of (fun hb => ?_) (fun hb => ?_)) ?_⟩
    · have hopn : P.opn after[i] = true := by
        have : p.isNone = false := by simpa using hb
        rw [hpn] at this; simpa using this
      rw [if_pos hopn] at hsplit
      have mA : Mod No w15 (w15.alloc (.cells ⟨[.int .i64 after[i]]⟩ 2)) := (Mod.refl No w15).alloc _
      have aA : At (w15.alloc (.cells ⟨[.int .i64 after[i]]⟩ 2)) w15.heap.size 0 [.int .i64 after[i]] := AtU.new.at
      have sA : (w15.alloc (.cells ⟨[.int .i64 after[i]]⟩ 2)).heap.size = w15.heap.size + 1 := by simp
      refine ⟨_, rfl, aa, k, ac, ?_, _, _, _, _, builtI64 _ _, ?_⟩
      · rw [add_none]; exact q15.at.load (by kernel_rfl) rfl
      generalize w15.alloc (.cells ⟨[.int .i64 after[i]]⟩ 2) = w16 at *
      obtain ⟨q', c', w17, t1, t2, t3, t4⟩ := (o15.nos mA).app (ty := 33) (m := 1) (c2 := 1) (ad := ⟨w15.heap.size, 0, none⟩) (ys := [.int .i64 after[i]]) elemZ_64 (by omega) (.inr ⟨_, _, rfl, aA⟩) rfl (by omega) (by simp; rfl) (by omega) (by omega) (by omega)
      have t3' : Mod (Of aa) w16 w17 := t3
      have hnq : ¬ Of aa w13.heap.size := fun ⟨q, hq, e⟩ => by have := (o15.base hq).1; omega
      have q17 := (q15.keep mA id).keep t3' hnq
      obtain ⟨w18, u1, u2, u3, u4⟩ := q17.store (P := Try.prog) (T := 33) (i := 4) (v := .slice (some q') (k + 1) c') (by kernel_rfl) (by simp) rfl
      refine ⟨_, _, _, w17, t1, _, rfl, w18, by rw [add_none]; exact u1, k + 1, c', some q', ?_, ?_, ?_, ?_, ?_⟩
      · rw [hsplit, List.length_append, ← hkl]; rfl
      · simpa using u2
      · have e : iL ((after.take i).filter P.opn) ++ [.int .i64 after[i]] = iL ((after.take (i + 1)).filter P.opn) := by rw [hsplit]; simp [iL, I]
        rw [← e]
        refine t2.keep u3 fun q hq e => ?_
        have := (t2.base hq).1
        have e : q.block = w13.heap.size := e
        omega
      · refine ((m15.no mA).trans t3' fun z hz ⟨q, hq, e⟩ => ?_).trans u3 fun z hz e => ?_
        · have := (o15.base hq).1
          omega
        · have e : z = w13.heap.size := e
          omega
      · have := t3'.size
        have := u3.size
        omega
    · have hopn : P.opn after[i] = false := by
        have : p.isNone = true := by simpa using hb
        rw [hpn] at this; simpa using this
      rw [if_neg (by rw [hopn]; simp), List.append_nil] at hsplit
      rw [hsplit]
      exact ⟨k, ac, aa, hkl, q15, o15, m15, sz15⟩
    · rintro z w19 ⟨k, ac, aa, e1, e2, e3, e4, e5⟩
      rw [wrap64 (x := (i : Int) + 1) (by omega) (by omega)]
      exact ⟨⟨i + 1, k, ac, aa, by omega, rfl, e1, e2, e3, e4, e5⟩, by simp [nI, nth]; omega⟩
  · have hil : i = after.length := by have := of_decide_eq_false hb; omega
    subst hil
    rw [List.take_length] at hkl o15
    have md : Mod No w15 (Go.Den.drew w15) := (Mod.refl No w15).drew
    have szd : (Go.Den.drew w15).heap.size = w15.heap.size := rfl
    have m15d := m15.no md
    have q15d := q15.keep md id
    have o15d := o15.nos md
    generalize Go.Den.drew w15 = w15d at *
    have h15 := h13.nos m15d
    refine ⟨_, (a13'.keep m15d id).load (i := 0) (by kernel_rfl) rfl, _, rfl, _, h15.lo', _, rfl, _, by rw [add_none]; exact q15d.at.load (by kernel_rfl) rfl, ?_⟩
    obtain ⟨w20, u1, u2, u3, u4⟩ := update_run (P := Try.prog) (T := 58) (k := ((P.last + 1 : Nat) : Int)) (v := .pointer (some ⟨w13.heap.size, 0, none⟩)) mapOpen h15.mapO
    obtain ⟨o, ho, hob⟩ := newO_on (V := ⟨C1, P.last, P.ons⟩) (b := b)
    rw [← hQo] at ho
    obtain ⟨k1, k2, g9, cc9, la, lc, c1, c2, c3, c4, c5⟩ := h15.ons o ho
    rw [hob] at k1 k2 c1 c5
    have hrmo : rl11 mo = 3 := h15.rmo
    have hnmo : ∀ {z}, rl11 z ≠ 3 → z ≠ mo := fun hz e => hz (by rw [e]; exact hrmo)
    have hout : ∀ {z}, w12d.heap.size ≤ z → rl11 z = 0 := fun hz => h12d.out_of hz
    have d1 := c1.keep u3 (hnmo (by rw [k2]; omega))
    refine ⟨w20, u1, _, rfl, _, rfl, la, _, lc, by rw [add_none]; exact d1.at.load (by kernel_rfl) rfl, _, _, _, _, builtCh _ _, ?_⟩
    have m21 : Mod No w20 (w20.alloc (.cells ⟨[.pointer (some ⟨w13.heap.size, 0, none⟩)]⟩ 69)) := (Mod.refl No w20).alloc _
    have a21 : At (w20.alloc (.cells ⟨[.pointer (some ⟨w13.heap.size, 0, none⟩)]⟩ 69)) w20.heap.size 0 [.pointer (some ⟨w13.heap.size, 0, none⟩)] := AtU.new.at
    have s21 : (w20.alloc (.cells ⟨[.pointer (some ⟨w13.heap.size, 0, none⟩)]⟩ 69)).heap.size = w20.heap.size + 1 := by simp
    generalize w20.alloc (.cells ⟨[.pointer (some ⟨w13.heap.size, 0, none⟩)]⟩ 69) = w21 at *
    have hlaS : ∀ {z}, rl11 z ≠ 9 + 3 * b → ¬ Of la z := fun hz ⟨q, hq, e⟩ => hz (by rw [e]; exact c5 q hq)
    have hlen2 := h15.wf.llen o ho
    have hlast2 := h15.wf.last
    have hw023 := h15.mod.size
    obtain ⟨q', c', w22, t1, t2, t3, t4⟩ := ((c4.keep u3 fun q hq => hnmo (by rw [c5 q hq]; omega)).nos m21).app (ty := 66) (m := 1) (c2 := 1) (ad := ⟨w20.heap.size, 0, none⟩) (ys := [.pointer (some ⟨w13.heap.size, 0, none⟩)]) elemZ_chs (by omega) (.inr ⟨_, _, rfl, a21⟩) rfl (by omega) (by simp; rfl) (by omega) (by omega) (by omega)
    have t3' : Mod (Of la) w21 w22 := t3
    have d2 := (d1.keep m21 id).keep t3' (hlaS (by rw [k2]; omega))
    obtain ⟨w23, v1, v2, v3, v4⟩ := d2.store (P := Try.prog) (T := 66) (i := 1) (v := .slice (some q') (o.l.length + 1) c') (by kernel_rfl) (by simp) rfl
    have hrq : rl11 w13.heap.size = 0 := hout (by omega)
    have hnoa : ∀ {z}, rl11 z ≠ 8 + 3 * b → z ≠ oa9 b := fun hz e => hz (by rw [e]; exact k2)
    have q23 := (((q15d.keep u3 (hnmo (by omega))).keep m21 id).keep t3' (hlaS (by omega))).keep v3 (hnoa (by omega))
    refine ⟨_, _, _, w22, t1, _, rfl, w23, by rw [add_none]; exact v1, _, rfl, _, by rw [add_none]; exact q23.at.load (by kernel_rfl) rfl, ?_⟩
    -- what it is now
    have hx : newX P b f data after = ⟨P.last + 1, b, f, data, after.filter P.opn, false⟩ := rfl
    have hfl2 : (after.filter P.opn).length ≤ after.length := List.length_filter_le _ _
    have hng : ∀ k ∈ after, 1 ≤ k ∧ k ≤ (P.last : Int) := fun k hk' => by
      have := List.any_eq_false.1 (by simpa [badA] using hbad : (after.any fun k => !decide (1 ≤ k ∧ k ≤ (P.last : Int))) = false) k hk'
      simpa using this
    have hF1 : Fit (⟨C1, P.last, P.ons⟩ : Ps) (newX P b f data after) := ⟨rfl, hblt1, ⟨hd1, hfit⟩, by show (after.filter P.opn).length ≤ _; omega, fun k hk' => by
      have := hng k (List.mem_filter.1 hk').1
      show k < ((P.last + 1 : Nat) : Int)
      omega, rfl⟩
    have hsN := hs1.newO hblt1 hcl
    have eD11' : C11.D = C1.D := by rw [eD11]; exact eD9
    have eM11' : C11.most = C1.most := by rw [eM11]; exact eM9
    have eN := newO_C (V := ⟨C1, P.last, P.ons⟩) (b := b)
    have hsQ : WFS (⟨C11, (newO ⟨C1, P.last, P.ons⟩ b).last, (newO ⟨C1, P.last, P.ons⟩ b).ons⟩ : Ps) := WFS.cache hsN (by rw [eD11', eN.1]) (by rw [eM11', eN.1])
    have eQ : appO Q (newX P b f data after) = appO (⟨C11, (newO ⟨C1, P.last, P.ons⟩ b).last, (newO ⟨C1, P.last, P.ons⟩ b).ons⟩ : Ps) (newX P b f data after) := by
      unfold appO; rw [hQo, hQC]
    have hwfA : WFS (appO Q (newX P b f data after)) := by
      rw [eQ]
      exact hsQ.app (by rw [← hQo]; exact ho) hob ⟨by show P.last + 1 = _; rw [eL], by show b < C11.D.vs.length; rw [eD11']; exact hblt1, hF1.dat, hF1.aft, hF1.afl, rfl⟩ hlast
    have hM23 : Mod (fun z => z = mo ∨ z = oa9 b ∨ rl11 z = 9 + 3 * b) w12d w23 := by
      have k0 : Mod No w12d w15d := m13.no m15d
      refine (((k0.anys.trans u3 fun z _ e => .inl e).no m21).trans t3' fun z _ e => ?_).trans v3 fun z _ e => .inr (.inl e)
      obtain ⟨q, hq, e⟩ := e
      exact .inr (.inr (by rw [e]; exact c5 q hq))
    have hz15 := m15d.size
    have hz20 := u3.size
    have hz22 := t3'.size
    have hz23 := v3.size
    have haaO : ∀ e, aa = some e → w14.heap.size ≤ e.block ∧ e.block < w15d.heap.size := fun e he => o15d.base he
    obtain ⟨rl', ca', hfin⟩ := h12d.appX (S := fun z => z = mo ∨ z = oa9 b ∨ rl11 z = 9 + 3 * b) (x := newX P b f data after) (o := o) (q := w13.heap.size) (gd := gd) (cd := c13) (g := g9) (cc := cc9) (aa := aa) (la' := some q') (ac := ac) (lc' := c') ho hob hQl
      (fun z hz => by
        have : z ∈ P.all := by
          have e : Q.all = (newO ⟨C1, P.last, P.ons⟩ b).all := by unfold Ps.all; rw [hQo]
          rw [e, all_newO] at hz
          exact hz
        have := h.wf.idr z this
        show z.id ≠ P.last + 1
        omega) hwfA hM23 (fun z e => e) (by
          refine ((u2.keep m21 id).keep t3' (hlaS (by rw [hrmo]; omega))).keep v3 (hnoa (by rw [hrmo]; omega))) ⟨by omega, by omega⟩ ⟨hgd, by omega⟩
      (fun e he => by have := haaO e he; exact ⟨by omega, by omega, by omega, by omega⟩) (by omega) (fun e he => by
        cases he
        have hlt := (t2.base (q := q') rfl).2
        rcases t4 with ⟨q2, hq2, e2⟩ | e2
        · left; rw [e2]; exact c5 q2 hq2
        · right
          refine ⟨by omega, by omega, by omega, by omega, fun e he => ?_⟩
          have := haaO e he
          omega)
      (by
        show AtU w23 w13.heap.size 0 [.int .i64 ((P.last + 1 : Nat) : Int), .int .i64 b, .int .i64 f, .slice (some ⟨gd, 0, none⟩) data.length c13, .slice aa (after.filter P.opn).length ac, .bool false]
        rw [hd, ← hkl]; exact q23)
      ((((((hgat.keep m15d id).keep u3 (hnmo (by rw [hout hgd]; omega))).keep m21 id).keep t3' (hlaS (by rw [hout hgd]; omega))).keep v3 (hnoa (by rw [hout hgd]; omega))).at)
      (by
        show Row w23 aa (iL (after.filter P.opn))
        have r0 := o15d.rowU.row
        have hr : ∀ e, aa = some e → rl11 e.block = 0 := fun e he => hout (by have := haaO e he; omega)
        exact (((r0.keep u3 fun e he => hnmo (by rw [hr e he]; omega)).nos m21).keep t3' fun e he => hlaS (by rw [hr e he]; omega)).keep v3 fun e he => hnoa (by rw [hr e he]; omega))
      (by show AtU w23 (oa9 b) 0 _; simpa using v2) c3 ((((c2.keep u3 (hnmo (by rw [c3]; omega))).keep m21 id).keep t3' (hlaS (by rw [c3]; omega))).keep v3 (hnoa (by rw [c3]; omega)))
      (by
        refine (t2.keep v3 fun e he => ?_)
        cases he
        rcases t4 with ⟨q2, hq2, e2⟩ | e2
        · exact hnoa (by rw [e2, c5 q2 hq2]; omega)
        · exact hnoa (by rw [hout (by omega)]; omega))
    have hS : patS P b f data after = addX P (newX P b f data after) := by unfold patS; rw [if_pos hE]; simp
    have hN : patN P b f data after = ((P.last + 1 : Nat) : Int) := by unfold patN; rw [if_pos hE]
    have hoE : (addX (⟨C1, P.last, P.ons⟩ : Ps) (newX P b f data after)).ons = (addX P (newX P b f data after)).ons := by
      show (newO ⟨C1, P.last, P.ons⟩ b).ons.map _ = (newO P b).ons.map _
      rw [newO_ons A.D]
    have hadd := hw1.add (x := newX P b f data after) (C3 := C11) hs1 hF1 hcl hlast eD11' (fun z hz => (ht11 z hz).trans (ht9 z hz)) (by
      have := h15.cx.wf.1
      rw [hQC] at this
      exact this.nodup) ⟨y11, hy11, hy11b, by rw [hy11p, hy9p], hy11d⟩
    have := hk w23 C11 ?_ ?_ (by rw [eD11']; exact A.D) (by rw [eM11']; exact A.most)
    · rw [hN, hE] at this; exact this
    · refine M12.trans hM23 fun z hz e => ?_
      have hnz : rl11 z ≠ 0 := by
        rcases e with e | e | e
        · rw [e, hrmo]; omega
        · rw [e, k2]; omega
        · omega
      rcases h12d.reg z hnz with e2 | e2
      · rcases hG11 z e2 with e3 | e3
        · exact e3
        · omega
      · omega
    · rw [hS]
      refine ⟨?_, rl', c, mo, mm, ca', oa9, putL ((newX P b f data after).id : Int) (pV w13.heap.size) Lo, Lm9, ?_⟩
      · have : (⟨C11, (addX P (newX P b f data after)).last, (addX P (newX P b f data after)).ons⟩ : Ps) = { addX (⟨C1, P.last, P.ons⟩ : Ps) (newX P b f data after) with C := C11 } := by
          rw [← hoE]; rfl
        rw [this]; exact hadd
      · have : (⟨C11, (addX P (newX P b f data after)).last, (addX P (newX P b f data after)).ons⟩ : Ps) = appO Q (newX P b f data after) := by
          rw [← hoE, eQ]; rfl
        rw [this]
        refine hfin.widen (fun z hz => ?_) fun z hz => ?_
        · rcases hz with (hz | hz) | hz
          · rcases hG11 z hz with e | e
            · exact .inl e
            · exact .inr (by omega)
          · exact .inr (by omega)
          · exact .inr (by omega)
        · rcases hz with hz | hz
          · have := hlo z hz; omega
          · omega
end
end Go.Proofs.Ytocjjigmpgekfaa
