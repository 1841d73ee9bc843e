/- The statement PatchOrder in plain terms: all that a change waits for is there. -/
import Derived.Test.YtocjjigmpgekfaaPatU
open Go Go.Den Go.Proofs
namespace Go.Proofs.Ytocjjigmpgekfaa
/-- A change of one byte: its block, and those ahead. Its byte is where its place in the row says. -/
structure Mk where
  b : Nat
  after : List Nat
theorem withL_at : ∀ {L : List Ch} {b : Bk} (k : Nat), b.length = 256 → (∀ x ∈ L, x.data = [1] ∧ x.frm < 256) → ((withL b L)[k]? = some 1 ↔ (∃ x ∈ L, x.frm = k) ∨ b[k]? = some 1)
  | [], b, k, _, _ => by
    show b[k]? = some 1 ↔ _
    simp
  | c :: r, b, k, hb, hL => by
    obtain ⟨hd, hf⟩ := hL c (by simp)
    have hlen : c.frm + c.data.length ≤ b.length := by rw [hd, hb]; simp; omega
    have ih := withL_at (L := r) (b := overB b c.frm c.data) k (by rw [overB_len hlen, hb]) fun x hx => hL x (by simp [hx])
    show (withL (overB b c.frm c.data) r)[k]? = some 1 ↔ _
    rw [ih, overB_get hlen, hd]
    have e1 : ([1] : List UInt8).length = 1 := rfl
    rw [e1]
    by_cases hk : c.frm = k
    · subst hk
      rw [if_pos (by omega), Nat.sub_self]
      constructor
      · intro _; exact .inl ⟨c, by simp, rfl⟩
      · intro _; exact .inr rfl
    · rw [if_neg (by omega)]
      constructor
      · rintro (⟨x, hx, e⟩ | e)
        · exact .inl ⟨x, by simp [hx], e⟩
        · exact .inr e
      · rintro (⟨x, hx, e⟩ | e)
        · rcases List.mem_cons.1 hx with rfl | hx
          · exact absurd e hk
          · exact .inl ⟨x, hx, e⟩
        · exact .inr e
theorem opn_iff {V : Ps} {n : Int} : V.opn n = true ↔ ∃ x ∈ V.all, (x.id : Int) = n := by
  unfold Ps.opn
  rw [List.any_eq_true]
  constructor
  · rintro ⟨x, hx, e⟩; exact ⟨x, hx, by simpa using e⟩
  · rintro ⟨x, hx, e⟩; exact ⟨x, hx, by simpa using e⟩
theorem opn_not {V : Ps} {n : Int} : V.opn n = false ↔ ∀ x ∈ V.all, (x.id : Int) ≠ n := by
  rw [← Bool.not_eq_true, opn_iff]
  constructor
  · intro h x hx e; exact h ⟨x, hx, e⟩
  · rintro h ⟨x, hx, e⟩; exact h x hx e
theorem opn_fl {V : Ps} {n : Int} : (flV V).opn n = true ↔ ∃ x ∈ V.all, x.out = false ∧ (x.id : Int) = n := by
  rw [opn_iff, all_fl]
  constructor
  · rintro ⟨x, hx, e⟩
    obtain ⟨h1, h2⟩ := List.mem_filter.1 hx
    exact ⟨x, h1, by simpa using h2, e⟩
  · rintro ⟨x, hx, h1, e⟩
    exact ⟨x, List.mem_filter.2 ⟨hx, by simp [h1]⟩, e⟩
theorem opn_fl_of {V : Ps} {n : Int} (h : V.opn n = false) : (flV V).opn n = false := by
  rw [← Bool.not_eq_true, opn_fl]
  rintro ⟨x, hx, _, e⟩
  exact opn_not.1 h x hx e
/-- Of one version of a block. -/
def VerOk (ms : List Mk) (op : Int → Bool) (b : Nat) (v : Bk) : Prop :=
  (∀ (k : Nat) (m : Mk), ms[k]? = some m → m.b = b → (op ((k + 1 : Nat) : Int) = false → v[k]? = some 1) ∧
    (v[k]? = some 1 → ∀ j ∈ m.after, op ((j + 1 : Nat) : Int) = false ∨ ∃ m', ms[j]? = some m' ∧ m'.b = b ∧ v[j]? = some 1)) ∧
  ∀ k : Nat, ms.length ≤ k → v[k]? ≠ some 1
structure OrdI (ms : List Mk) (V : Ps) : Prop where
  last : V.last = ms.length
  len : V.C.D.vs.length = 5
  small : ms.length ≤ 60
  mk_ : ∀ (k : Nat) (m : Mk), ms[k]? = some m → m.b < 5 ∧ ∀ j ∈ m.after, j < k
  ch : ∀ x ∈ V.all, ∃ k m, x.id = k + 1 ∧ ms[k]? = some m ∧ x.b = m.b ∧ x.frm = k ∧ x.data = [1] ∧ ∀ j ∈ m.after, ((j + 1 : Nat) : Int) ∈ x.after ∨ V.opn ((j + 1 : Nat) : Int) = false
  safe : ∀ (k : Nat) (m : Mk), ms[k]? = some m → V.opn ((k + 1 : Nat) : Int) = false → ∀ j ∈ m.after, V.opn ((j + 1 : Nat) : Int) = false
  ver : ∀ b : Nat, b < 5 → ∀ v ∈ verOf V.C.D b, VerOk ms V.opn b v
  base : ∀ o ∈ V.ons, (∀ (k : Nat) (m : Mk), ms[k]? = some m → m.b = o.b → (o.base[k]? = some 1 ↔ V.opn ((k + 1 : Nat) : Int) = false)) ∧ ∀ k : Nat, ms.length ≤ k → o.base[k]? ≠ some 1
  out : ∀ o ∈ V.ons, ∀ x ∈ o.l, x.out = true → ∀ j ∈ x.after, V.opn j = true → ∃ y ∈ o.l, (y.id : Int) = j ∧ y.out = true
theorem OrdI.dat {ms : List Mk} {V : Ps} (h : OrdI ms V) {x : Ch} (hx : x ∈ V.all) : x.data = [1] ∧ x.frm < 256 := by
  obtain ⟨k, m, _, h2, _, h4, h5, _⟩ := h.ch x hx
  have := (List.getElem?_eq_some_iff.1 h2).1
  have := h.small
  exact ⟨h5, by omega⟩
/-- A block is written. -/
theorem OrdI.wr {ms : List Mk} {V : Ps} (h : OrdI ms V) (hs : WFS V) (hl : V.C.D.left = -1) (hD : WF V.C.D) (n : Int) : OrdI ms (wrV V n) := by
  by_cases hE : ¬ wrVE V n = 0
  · have : wrV V n = V := by unfold wrV; rw [if_neg hE]
    rw [this]; exact h
  have hE : wrVE V n = 0 := Classical.not_not.1 hE
  have he : errOf V.C.D n = 0 := by
    unfold wrVE at hE
    split at hE
    · omega
    · rename_i he; exact Classical.not_not.1 he
  obtain ⟨b, rfl, hb⟩ := err_range he
  have hoo : ∃ o, onOf V (b : Int) = some o := by
    unfold wrVE at hE
    rw [if_neg (by rw [he]; simp)] at hE
    cases ho : onOf V (b : Int) with
    | none => rw [ho] at hE; simp at hE
    | some o => exact ⟨o, rfl⟩
  obtain ⟨o, ho⟩ := hoo
  obtain ⟨hom, hob⟩ := onOf_some ho
  have hob : o.b = b := by omega
  have eV : wrV V b = ⟨{ V.C with D := wrSt V.C.D b (imgB V b) }, V.last, mapX V (markF V b)⟩ := by unfold wrV; rw [if_pos hE, Int.toNat_natCast]
  have hL := markF_like V b
  have hop : (wrV V b).opn = V.opn := (wr_opn (V := V) b).1
  have hil := img_len hs hD hb
  have hbase := hs.base o hom
  have hmb : mayB V b = mayL V.opn o.l := by unfold mayB; rw [ho]
  have himg : ∀ k, (imgB V b)[k]? = some 1 ↔ (∃ x ∈ o.l, (x.id : Int) ∈ mayL V.opn o.l ∧ x.frm = k) ∨ o.base[k]? = some 1 := fun k => by
    unfold imgB
    rw [ho]
    show (withL o.base _)[k]? = some 1 ↔ _
    rw [withL_at k hbase fun x hx => h.dat (on_all hom (List.mem_filter.1 hx).1)]
    constructor
    · rintro (⟨x, hx, e⟩ | e)
      · obtain ⟨h1, h2⟩ := List.mem_filter.1 hx
        exact .inl ⟨x, h1, by simpa using h2, e⟩
      · exact .inr e
    · rintro (⟨x, hx, h1, e⟩ | e)
      · exact .inl ⟨x, List.mem_filter.2 ⟨hx, by simpa using h1⟩, e⟩
      · exact .inr e
  have hall : (wrV V b).all = V.all.map (markF V b) := by rw [eV]; exact all_mapX
  exact {
    last := by rw [(wr_opn (V := V) b).2.1]; exact h.last
    len := by rw [(wr_opn (V := V) b).2.2.2]; exact h.len
    small := h.small
    mk_ := h.mk_
    ch := fun x hx => by
      rw [hall] at hx
      obtain ⟨y, hy, rfl⟩ := List.mem_map.1 hx
      rw [hL.id, hL.b, hL.frm, hL.data, hL.after, hop]
      exact h.ch y hy
    safe := by rw [hop]; exact h.safe
    ver := fun b' hb' v hv => by
      rw [hop]
      rw [eV] at hv
      have hv : v ∈ verOf (wrSt V.C.D b (imgB V b)) b' := hv
      rw [(wr_is hb hil hl).2] at hv
      have hb5 : b' < V.C.D.vs.length := by rw [h.len]; exact hb'
      rw [ver_at (D := ⟨_, _⟩) (by simpa using hb5)] at hv
      simp only at hv
      by_cases e : b = b'
      · subst e
        rw [List.getElem_set_self] at hv
        rcases List.mem_append.1 hv with hv | hv
        · exact h.ver b hb' v (by rw [ver_at hb5]; exact hv)
        · have : v = imgB V b := by simpa using hv
          subst this
          refine ⟨fun k m hm hmb' => ⟨fun hsafe => ?_, fun h1 j hj => ?_⟩, fun k hk h1 => ?_⟩
          · rw [himg]
            exact .inr (((h.base o hom).1 k m hm (by omega)).2 hsafe)
          · rcases (himg k).1 h1 with ⟨x, hx, hmay, hfk⟩ | hbk
            · obtain ⟨k', m', e1, e2, e3, e4, e5, e6⟩ := h.ch x (on_all hom hx)
              have : k' = k := by omega
              subst this
              have : m' = m := by rw [e2] at hm; exact Option.some.inj hm
              subst this
              rcases e6 j hj with hja | hja
              · cases hopj : V.opn ((j + 1 : Nat) : Int) with
                | false => exact .inl rfl
                | true =>
                  right
                  have hw := mayL_waits (ids_on hs hom) hx hmay _ hja hopj
                  obtain ⟨y, hy, ey⟩ := mayN_mem _ _ hw
                  have hyl : y ∈ o.l := List.mem_of_mem_take hy
                  obtain ⟨ky, my, f1, f2, f3, f4, _, _⟩ := h.ch y (on_all hom hyl)
                  have : ky = j := by omega
                  subst this
                  refine ⟨my, f2, ?_, ?_⟩
                  · rw [← f3, hs.chb o hom y hyl]; exact hob
                  · rw [himg]
                    exact .inl ⟨y, hyl, by rw [← ey]; exact hw, f4⟩
              · exact .inl hja
            · exact .inl (h.safe k m hm (((h.base o hom).1 k m hm (by omega)).1 hbk) j hj)
          · rcases (himg k).1 h1 with ⟨x, hx, _, hfk⟩ | hbk
            · obtain ⟨k', m', e1, e2, e3, e4, _⟩ := h.ch x (on_all hom hx)
              have := (List.getElem?_eq_some_iff.1 e2).1
              omega
            · exact (h.base o hom).2 k hk hbk
      · rw [List.getElem_set_ne e] at hv
        exact h.ver b' hb' v (by rw [ver_at hb5]; exact hv)
    base := fun p hp => by
      rw [eV] at hp
      obtain ⟨q, hq, rfl⟩ := List.mem_map.1 hp
      rw [hop]
      exact h.base q hq
    out := fun p hp x hx hxo j hj hopj => by
      rw [hop] at hopj
      rw [eV] at hp
      obtain ⟨q, hq, rfl⟩ := List.mem_map.1 hp
      obtain ⟨y, hy, rfl⟩ := List.mem_map.1 hx
      rw [hL.after] at hj
      by_cases e : q.b = b
      · have : q = o := on_uniq hs hq hom (by omega)
        subst this
        have hmk : ∀ z ∈ q.l, (markF V b z).out = (z.out || (mayL V.opn q.l).contains (z.id : Int)) := fun z hz => by
          unfold markF; rw [if_pos (by rw [hs.chb q hq z hz]; exact e), hmb]
        rw [hmk y hy] at hxo
        by_cases hyo : y.out = true
        · obtain ⟨z, hz, e1, e2⟩ := h.out q hq y hy hyo j hj hopj
          exact ⟨markF V b z, List.mem_map.2 ⟨z, hz, rfl⟩, by rw [hL.id]; exact e1, by rw [hmk z hz, e2]; rfl⟩
        · have hym : (y.id : Int) ∈ mayL V.opn q.l := by
            have : y.out = false := by simpa using hyo
            rw [this, Bool.false_or] at hxo
            simpa using hxo
          have hw := mayL_waits (ids_on hs hq) hy hym j hj hopj
          obtain ⟨z, hz, ez⟩ := mayN_mem _ _ hw
          have hzl : z ∈ q.l := List.mem_of_mem_take hz
          refine ⟨markF V b z, List.mem_map.2 ⟨z, hzl, rfl⟩, by rw [hL.id]; exact ez.symm, ?_⟩
          rw [hmk z hzl]
          have : (mayL V.opn q.l).contains (z.id : Int) = true := by rw [← ez]; simpa using hw
          rw [this, Bool.or_true]
      · have hno : ∀ z ∈ q.l, markF V b z = z := fun z hz => by unfold markF; rw [if_neg (by rw [hs.chb q hq z hz]; exact e)]
        rw [hno y hy] at hxo
        obtain ⟨z, hz, e1, e2⟩ := h.out q hq y hy hxo j hj hopj
        exact ⟨markF V b z, List.mem_map.2 ⟨z, hz, rfl⟩, by rw [hL.id]; exact e1, by rw [hno z hz]; exact e2⟩ }
/-- All is flushed. -/
theorem OrdI.fl {ms : List Mk} {V : Ps} (h : OrdI ms V) (hs : WFS V) (hl : V.C.D.left = -1) (hD : WF V.C.D) (hacc : ∀ o ∈ V.ons, atD V.C.D o.b = withL o.base (o.l.filter (·.out))) : OrdI ms (flV V) := by
  -- a change that gets safe
  have hnew : ∀ (k : Nat) (m : Mk), ms[k]? = some m → (flV V).opn ((k + 1 : Nat) : Int) = false → V.opn ((k + 1 : Nat) : Int) = false ∨ ∃ o ∈ V.ons, ∃ x ∈ o.l, x.id = k + 1 ∧ x.out = true ∧ x.frm = k ∧ o.b = m.b ∧ x.b = m.b := fun k m hm hf => by
    cases hop : V.opn ((k + 1 : Nat) : Int) with
    | false => exact .inl rfl
    | true =>
      right
      obtain ⟨x, hx, e⟩ := opn_iff.1 hop
      obtain ⟨o, ho, hxo⟩ := mem_all.1 hx
      obtain ⟨k', m', e1, e2, e3, e4, _⟩ := h.ch x hx
      have : k' = k := by omega
      subst this
      have : m' = m := by rw [e2] at hm; exact Option.some.inj hm
      subst this
      refine ⟨o, ho, x, hxo, e1, ?_, e4, by rw [← hs.chb o ho x hxo]; exact e3, e3⟩
      cases hout : x.out with
      | true => rfl
      | false =>
        have : (flV V).opn ((k' + 1 : Nat) : Int) = true := opn_fl.2 ⟨x, hx, hout, e⟩
        rw [this] at hf; cases hf
  have hgone : ∀ x ∈ V.all, x.out = true → (flV V).opn (x.id : Int) = false := fun x hx hout => by
    rw [← Bool.not_eq_true, opn_fl]
    rintro ⟨y, hy, h1, e⟩
    have := map_inj hs.ids hy hx (by omega)
    subst this
    rw [hout] at h1; cases h1
  have hwl : ∀ o ∈ V.ons, ∀ k, (withL o.base (o.l.filter (·.out)))[k]? = some 1 ↔ (∃ x ∈ o.l, x.out = true ∧ x.frm = k) ∨ o.base[k]? = some 1 := fun o ho k => by
    rw [withL_at k (hs.base o ho) fun x hx => h.dat (on_all ho (List.mem_filter.1 hx).1)]
    constructor
    · rintro (⟨x, hx, e⟩ | e)
      · obtain ⟨h1, h2⟩ := List.mem_filter.1 hx
        exact .inl ⟨x, h1, h2, e⟩
      · exact .inr e
    · rintro (⟨x, hx, h1, e⟩ | e)
      · exact .inl ⟨x, List.mem_filter.2 ⟨hx, h1⟩, e⟩
      · exact .inr e
  have hon : ∀ p ∈ (flV V).ons, ∃ o ∈ V.ons, p.b = o.b ∧ p.base = withL o.base (o.l.filter (·.out)) ∧ p.l = o.l.filter fun x => !x.out := fun p hp => by
    obtain ⟨o, ho, e⟩ := List.mem_filterMap.1 hp
    unfold flOn at e
    split at e
    · cases e
    · have := Option.some.inj e
      subst this
      exact ⟨o, ho, rfl, rfl, rfl⟩
  exact {
    last := h.last
    len := by show (flSt V.C.D).vs.length = 5; rw [fl_len]; exact h.len
    small := h.small
    mk_ := h.mk_
    ch := fun x hx => by
      rw [all_fl] at hx
      obtain ⟨k, m, e1, e2, e3, e4, e5, e6⟩ := h.ch x (List.mem_filter.1 hx).1
      refine ⟨k, m, e1, e2, e3, e4, e5, fun j hj => ?_⟩
      rcases e6 j hj with h1 | h1
      · exact .inl h1
      · exact .inr (opn_fl_of h1)
    safe := fun k m hm hf j hj => by
      rcases hnew k m hm hf with hold | ⟨o, ho, x, hx, e1, e2, e3, _, _⟩
      · exact opn_fl_of (h.safe k m hm hold j hj)
      · obtain ⟨k', m', f1, f2, _, _, _, f6⟩ := h.ch x (on_all ho hx)
        have : k' = k := by omega
        subst this
        have : m' = m := by rw [f2] at hm; exact Option.some.inj hm
        subst this
        rcases f6 j hj with h1 | h1
        · cases hop : V.opn ((j + 1 : Nat) : Int) with
          | false => exact opn_fl_of hop
          | true =>
            obtain ⟨y, hy, g1, g2⟩ := h.out o ho x hx e2 _ h1 hop
            rw [← g1]; exact hgone y (on_all ho hy) g2
        · exact opn_fl_of h1
    ver := fun b hb v hv => by
      have hb5 : b < V.C.D.vs.length := by rw [h.len]; exact hb
      have e : flSt V.C.D = ⟨V.C.D.vs.map fun v => [lastV v], dec V.C.D.left⟩ := by unfold flSt; rw [if_neg (by omega)]
      have hv : v ∈ verOf (flSt V.C.D) b := hv
      rw [e, ver_at (D := ⟨_, _⟩) (by simpa using hb5)] at hv
      simp only [List.getElem_map] at hv
      have hv : v = lastV V.C.D.vs[b] := by simpa using hv
      have hat : v = atD V.C.D b := by unfold atD; rw [ver_at hb5]; exact hv
      have hmem : v ∈ verOf V.C.D b := by
        rw [ver_at hb5, hv]
        have hne := (hD.ver _ (List.getElem_mem hb5)).1
        unfold lastV
        rw [List.getLastD_eq_getLast?, List.getLast?_eq_some_getLast hne]
        exact List.getLast_mem hne
      obtain ⟨h1, h2⟩ := h.ver b hb v hmem
      refine ⟨fun k m hm hmb => ⟨fun hf => ?_, fun hk j hj => ?_⟩, h2⟩
      · rcases hnew k m hm hf with hold | ⟨o, ho, x, hx, e1, e2, e3, e4, _⟩
        · exact (h1 k m hm hmb).1 hold
        · rw [hat, show b = o.b by omega, hacc o ho, hwl o ho]
          exact .inl ⟨x, hx, e2, e3⟩
      · rcases (h1 k m hm hmb).2 hk j hj with h3 | h3
        · exact .inl (opn_fl_of h3)
        · exact .inr h3
    base := fun p hp => by
      obtain ⟨o, ho, e1, e2, e3⟩ := hon p hp
      rw [e1, e2]
      obtain ⟨b1, b2⟩ := h.base o ho
      refine ⟨fun k m hm hmb => ?_, fun k hk hk1 => ?_⟩
      · rw [hwl o ho]
        constructor
        · rintro (⟨x, hx, h1, h2⟩ | hb)
          · obtain ⟨k', m', f1, _, _, f4, _⟩ := h.ch x (on_all ho hx)
            have := hgone x (on_all ho hx) h1
            rw [show k + 1 = x.id by omega]; exact this
          · exact opn_fl_of ((b1 k m hm hmb).1 hb)
        · intro hf
          rcases hnew k m hm hf with hold | ⟨o', ho', x, hx, f1, f2, f3, f4, _⟩
          · exact .inr ((b1 k m hm hmb).2 hold)
          · have : o' = o := on_uniq hs ho' ho (by omega)
            subst this
            exact .inl ⟨x, hx, f2, f3⟩
      · rcases (hwl o ho k).1 hk1 with ⟨x, hx, _, h2⟩ | hb
        · obtain ⟨k', m', f1, f2, _, f4, _⟩ := h.ch x (on_all ho hx)
          have := (List.getElem?_eq_some_iff.1 f2).1
          omega
        · exact b2 k hk hb
    out := fun p hp x hx hxo => by
      obtain ⟨o, ho, e1, e2, e3⟩ := hon p hp
      rw [e3] at hx
      have := (List.mem_filter.1 hx).2
      rw [hxo] at this
      cases this }
/-- A change is made. -/
theorem OrdI.add {ms : List Mk} {V : Ps} {b : Nat} {ahead : List Nat} (h : OrdI ms V) (hs : WFS V) (hD : WF V.C.D) (hafl : ∀ x ∈ V.all, ∀ k ∈ x.after, k < (x.id : Int)) (hb : b < 5) (hah : ∀ j ∈ ahead, j < ms.length) (hsm : ms.length < 60) :
    OrdI (ms ++ [⟨b, ahead⟩]) (addX V (newX V b ms.length [1] (ahead.map fun j => ((j + 1 : Nat) : Int)))) := by
  have hb5 : b < V.C.D.vs.length := by rw [h.len]; exact hb
  have hcl := cont_len hs hD hb5
  have hsN := hs.newO hb5 hcl
  obtain ⟨o, ho, hob⟩ := newO_on (V := V) (b := b)
  have hxid : (newX V b ms.length [1] (ahead.map fun j => ((j + 1 : Nat) : Int))).id = ms.length + 1 := by show V.last + 1 = _; rw [h.last]
  generalize hx : newX V b ms.length [1] (ahead.map fun j => ((j + 1 : Nat) : Int)) = x at *
  have xb : x.b = b := by rw [← hx]; rfl
  have xf : x.frm = ms.length := by rw [← hx]; rfl
  have xd : x.data = [1] := by rw [← hx]; rfl
  have xa : x.after = (ahead.map fun j => ((j + 1 : Nat) : Int)).filter V.opn := by rw [← hx]; rfl
  have xo : x.out = false := by rw [← hx]; rfl
  have eA : addX V x = appO (newO V b) x := by unfold addX; rw [xb]
  obtain ⟨s, t, h1, h2, h3, hp⟩ := appO_all hsN ho (x := x) (by rw [xb]; exact hob)
  have hall : ∀ y, y ∈ (addX V x).all ↔ y = x ∨ y ∈ V.all := fun y => by
    rw [eA, hp.mem_iff, List.mem_cons, all_newO]
  have hop : ∀ n, (addX V x).opn n = (decide ((x.id : Int) = n) || V.opn n) := fun n => by
    have := opn_app hsN ho (x := x) (by rw [xb]; exact hob) n
    rw [opn_newO] at this
    rw [eA]; exact this
  have hopo : ∀ j, j < ms.length → (addX V x).opn ((j + 1 : Nat) : Int) = V.opn ((j + 1 : Nat) : Int) := fun j hj => by
    rw [hop, decide_eq_false (by omega), Bool.false_or]
  have hopx : (addX V x).opn ((ms.length + 1 : Nat) : Int) = true := by rw [hop, decide_eq_true (by omega), Bool.true_or]
  have hget : ∀ k, k < ms.length → (ms ++ [(⟨b, ahead⟩ : Mk)])[k]? = ms[k]? := fun k hk => List.getElem?_append_left hk
  have hcase : ∀ (k : Nat) (m : Mk), (ms ++ [(⟨b, ahead⟩ : Mk)])[k]? = some m → (k < ms.length ∧ ms[k]? = some m) ∨ (k = ms.length ∧ m = ⟨b, ahead⟩) := fun k m hm => by
    have hk := (List.getElem?_eq_some_iff.1 hm).1
    simp at hk
    by_cases e : k < ms.length
    · rw [hget k e] at hm; exact .inl ⟨e, hm⟩
    · have : k = ms.length := by omega
      subst this
      rw [List.getElem?_append_right (Nat.le_refl _), Nat.sub_self] at hm
      exact .inr ⟨rfl, by simpa using hm.symm⟩
  have hgo : ∀ (j : Nat) (m' : Mk), ms[j]? = some m' → (ms ++ [(⟨b, ahead⟩ : Mk)])[j]? = some m' := fun j m' hj => by
    rw [hget j (List.getElem?_eq_some_iff.1 hj).1]; exact hj
  have hC : (addX V x).C = V.C := by rw [eA]; exact (newO_C (V := V)).1
  have hmemv : ∀ v, v = atD V.C.D b → v ∈ verOf V.C.D b := fun v hv => by
    rw [hv]
    unfold atD
    rw [ver_at hb5]
    have hne := (hD.ver _ (List.getElem_mem hb5)).1
    unfold lastV
    rw [List.getLastD_eq_getLast?, List.getLast?_eq_some_getLast hne]
    exact List.getLast_mem hne
  -- the bytes of a block without its changes
  have hbase : ∀ p ∈ (newO V b).ons, (∀ (k : Nat) (m : Mk), ms[k]? = some m → m.b = p.b → (p.base[k]? = some 1 ↔ V.opn ((k + 1 : Nat) : Int) = false)) ∧ ∀ k : Nat, ms.length ≤ k → p.base[k]? ≠ some 1 := fun p hp => by
    unfold newO at hp
    split at hp
    · exact h.base p hp
    · rename_i hno
      rcases List.mem_append.1 hp with hp | hp
      · exact h.base p hp
      · have hp : p = ⟨b, contV V b, []⟩ := by simpa using hp
        subst hp
        have hcv : contV V b = atD V.C.D b := by unfold contV; rw [hno]
        have hvo := h.ver b hb _ (hmemv _ rfl)
        rw [← hcv] at hvo
        refine ⟨fun k m hm hmb => ?_, hvo.2⟩
        have hmb : m.b = b := hmb
        have hsafe : V.opn ((k + 1 : Nat) : Int) = false := by
          rw [opn_not]
          intro y hy e
          obtain ⟨k', m', f1, f2, f3, _⟩ := h.ch y hy
          have : k' = k := by omega
          subst this
          have : m' = m := by rw [f2] at hm; exact Option.some.inj hm
          subst this
          obtain ⟨q, hq, hyq⟩ := mem_all.1 hy
          exact onOf_none hno q hq (by rw [← hs.chb q hq y hyq, f3, hmb])
        exact ⟨fun _ => hsafe, fun _ => (hvo.1 k m hm hmb).1 hsafe⟩
  have honp : ∀ p ∈ (addX V x).ons, ∃ q ∈ (newO V b).ons, p.b = q.b ∧ p.base = q.base ∧ ∀ y, y ∈ p.l → y ∈ q.l ∨ y = x := fun p hp' => by
    rw [eA] at hp'
    obtain ⟨q, hq, rfl⟩ := List.mem_map.1 hp'
    refine ⟨q, hq, ?_, ?_, ?_⟩
    · split <;> rfl
    · split <;> rfl
    · intro y hy
      split at hy
      · rcases List.mem_append.1 hy with hy | hy
        · exact .inl hy
        · exact .inr (by simpa using hy)
      · exact .inl hy
  exact {
    last := by rw [eA]; show x.id = _; rw [hxid]; simp
    len := by rw [hC]; exact h.len
    small := by simp; omega
    mk_ := fun k m hm => by
      rcases hcase k m hm with ⟨hk, hm⟩ | ⟨rfl, rfl⟩
      · exact h.mk_ k m hm
      · exact ⟨hb, hah⟩
    ch := fun y hy => by
      rcases (hall y).1 hy with rfl | hy
      · refine ⟨ms.length, ⟨b, ahead⟩, hxid, by rw [List.getElem?_append_right (Nat.le_refl _), Nat.sub_self]; rfl, xb, xf, xd, fun j hj => ?_⟩
        have hjl := hah j hj
        rw [hopo j hjl]
        cases hopj : V.opn ((j + 1 : Nat) : Int) with
        | false => exact .inr rfl
        | true => left; rw [xa]; exact List.mem_filter.2 ⟨List.mem_map.2 ⟨j, hj, rfl⟩, hopj⟩
      · obtain ⟨k, m, e1, e2, e3, e4, e5, e6⟩ := h.ch y hy
        refine ⟨k, m, e1, hgo k m e2, e3, e4, e5, fun j hj => ?_⟩
        have hjk := (h.mk_ k m e2).2 j hj
        have hkl := (List.getElem?_eq_some_iff.1 e2).1
        rw [hopo j (by omega)]
        exact e6 j hj
    safe := fun k m hm hf j hj => by
      rcases hcase k m hm with ⟨hk, hm⟩ | ⟨rfl, rfl⟩
      · have hjk := (h.mk_ k m hm).2 j hj
        rw [hopo k hk] at hf
        rw [hopo j (by omega)]
        exact h.safe k m hm hf j hj
      · rw [hopx] at hf; cases hf
    ver := fun b' hb' v hv => by
      rw [hC] at hv
      obtain ⟨v1, v2⟩ := h.ver b' hb' v hv
      refine ⟨fun k m hm hmb => ?_, fun k hk => v2 k (by simp at hk; omega)⟩
      rcases hcase k m hm with ⟨hk, hm⟩ | ⟨rfl, rfl⟩
      · obtain ⟨w1, w2⟩ := v1 k m hm hmb
        refine ⟨fun hf => w1 (by rw [← hopo k hk]; exact hf), fun h1 j hj => ?_⟩
        have hjk := (h.mk_ k m hm).2 j hj
        rcases w2 h1 j hj with h3 | ⟨m', h3, h4, h5⟩
        · left; rw [hopo j (by omega)]; exact h3
        · exact .inr ⟨m', hgo j m' h3, h4, h5⟩
      · refine ⟨fun hf => ?_, fun h1 => absurd h1 (v2 _ (Nat.le_refl _))⟩
        rw [hopx] at hf; cases hf
    base := fun p hp => by
      obtain ⟨q, hq, e1, e2, _⟩ := honp p hp
      obtain ⟨b1, b2⟩ := hbase q hq
      rw [e1, e2]
      refine ⟨fun k m hm hmb => ?_, fun k hk => b2 k (by simp at hk; omega)⟩
      rcases hcase k m hm with ⟨hk, hm⟩ | ⟨rfl, rfl⟩
      · rw [hopo k hk]; exact b1 k m hm hmb
      · constructor
        · intro h1; exact absurd h1 (b2 _ (Nat.le_refl _))
        · intro hf; rw [hopx] at hf; cases hf
    out := fun p hp' y hy hyo j hj hopj => by
      rw [eA] at hp'
      obtain ⟨q, hq, rfl⟩ := List.mem_map.1 hp'
      have hyq : y ∈ q.l := by
        split at hy
        · rcases List.mem_append.1 hy with hy | hy
          · exact hy
          · have : y = x := by simpa using hy
            rw [this, xo] at hyo; cases hyo
        · exact hy
      have hqV : q ∈ V.ons := by
        unfold newO at hq
        split at hq
        · exact hq
        · rcases List.mem_append.1 hq with hq | hq
          · exact hq
          · have : q = ⟨b, contV V b, []⟩ := by simpa using hq
            rw [this] at hyq; cases hyq
      have hya := on_all hqV hyq
      have h4 := hafl y hya j hj
      have h5 := hs.idr y hya
      have hold : V.opn j = true := by
        rw [hop, decide_eq_false (by have := h.last; omega), Bool.false_or] at hopj; exact hopj
      obtain ⟨z, hz, e1, e2⟩ := h.out q hqV y hyq hyo j hj hold
      refine ⟨z, ?_, e1, e2⟩
      split
      · exact List.mem_append.2 (.inl hz)
      · exact hz }
/-- Wherever the power goes. -/
theorem OrdI.end {ms : List Mk} {V : Ps} (h : OrdI ms V) {f : Nat → Bk} (hf : ∀ b : Nat, b < 5 → f b ∈ verOf V.C.D b) {k : Nat} {m : Mk} (hm : ms[k]? = some m) :
    (V.opn ((k + 1 : Nat) : Int) = false → (f m.b)[k]? = some 1) ∧ ((f m.b)[k]? = some 1 → ∀ j ∈ m.after, ∃ m', ms[j]? = some m' ∧ (f m'.b)[j]? = some 1) := by
  obtain ⟨hmb, hma⟩ := h.mk_ k m hm
  obtain ⟨v1, _⟩ := h.ver m.b hmb _ (hf _ hmb)
  obtain ⟨w1, w2⟩ := v1 k m hm rfl
  refine ⟨w1, fun h1 j hj => ?_⟩
  rcases w2 h1 j hj with h3 | ⟨m', h3, h4, h5⟩
  · have hjk := hma j hj
    have hkl := (List.getElem?_eq_some_iff.1 hm).1
    have hmj : ms[j]? = some ms[j] := List.getElem?_eq_getElem (by omega)
    have hbj := (h.mk_ j _ hmj).1
    exact ⟨ms[j], hmj, ((h.ver _ hbj _ (hf _ hbj)).1 j _ hmj rfl).1 h3⟩
  · exact ⟨m', h3, by rw [h4]; exact h5⟩
end Go.Proofs.Ytocjjigmpgekfaa
