/- Parts of the proof, in order: what the statement leans on. -/
import Derived.Test.YtiahkkekcmgkfaaDoorBc
section
/- Layer 34: what stands below a path. -/
open Go Go.Den Go.Proofs
namespace Go.Den
theorem lookupL_putL (k k' : Int) (v : Value) : ∀ L : List (Int × Value), lookupL (putL k v L) k' = if k' = k then some v else lookupL L k'
  | [] => by
    show (if k = k' then some v else none) = _
    by_cases e : k' = k
    · rw [if_pos e, if_pos e.symm]
    · rw [if_neg e, if_neg (fun h => e h.symm)]; rfl
  | p :: r => by
    unfold putL
    by_cases h : p.1 = k
    · rw [if_pos h]
      show (if k = k' then some v else lookupL r k') = if k' = k then some v else (if p.1 = k' then some p.2 else lookupL r k')
      by_cases e : k' = k
      · rw [if_pos e, if_pos e.symm]
      · rw [if_neg e, if_neg (fun h => e h.symm), if_neg (fun h2 => e (h2.symm.trans h))]
    · rw [if_neg h]
      show (if p.1 = k' then some p.2 else lookupL (putL k v r) k') = if k' = k then some v else (if p.1 = k' then some p.2 else lookupL r k')
      rw [lookupL_putL k k' v r]
      by_cases e : k' = k
      · rw [if_pos e, if_pos e, if_neg (fun h2 => h (h2.trans e))]
      · rw [if_neg e, if_neg e]
end Go.Den
namespace Go.Proofs.YtiahkkekcmgkfaaDoor
theorem mapZ_met : mapZ Tryd.prog 75 = some (.int .i64 0) := by kernel_rfl
theorem build_bE (s : ByteArray) (n : Int) : Al (Instr.build 64 #[(0, .string s), (1, .int .i64 n), (4, .int .i64 (-1))]) (.agg ⟨[.string s, .int .i64 n, .string ByteArray.empty, .slice none 0 0, .int .i64 (-1)]⟩) := fun w => by kernel_rfl
/-- Entries in a row of one's own that grows. -/
structure PO (w : World) (base : Nat) (a : Option Addr) (c : Nat) (Z : List (Tn × Option Addr × Nat)) : Prop where
  own : Own Tryd.prog w base 28 5 a Z.length c (Z.map pV).flatten
  rows : ∀ z ∈ Z, Row w z.2.1 (u8L z.1.data) ∧ (z.2.1 = none → z.1.data = [] ∧ z.2.2 = 0) ∧ ∀ d, z.2.1 = some d → base ≤ d.block ∧ d.block < w.heap.size ∧ ∀ q, a = some q → d.block ≠ q.block
section
variable {w : World} {K : Value → World → Prop}
theorem PO.nil {base : Nat} : PO w base none 0 [] := ⟨Own.nilG elemG_pE, by simp⟩
theorem PO.keep {base c : Nat} {a : Option Addr} {Z : List (Tn × Option Addr × Nat)} {S : Nat → Prop} {w' : World} (h : PO w base a c Z) (m : Mod S w w') (hs : ∀ x, base ≤ x → x < w.heap.size → ¬ S x) : PO w' base a c Z := by
  refine ⟨h.own.keep m fun q hq => hs _ (h.own.base hq).1 (h.own.base hq).2, fun z hz => ?_⟩
  obtain ⟨h1, h2, h3⟩ := h.rows z hz
  refine ⟨h1.keep m fun q hq => hs _ (h3 q hq).1 (h3 q hq).2.1, h2, fun d hd => ?_⟩
  obtain ⟨h4, h5, h6⟩ := h3 d hd
  exact ⟨h4, Nat.lt_of_lt_of_le h5 m.size, h6⟩
theorem PO.nos {base c : Nat} {a : Option Addr} {Z : List (Tn × Option Addr × Nat)} {w' : World} (h : PO w base a c Z) (m : Mod No w w') : PO w' base a c Z := h.keep m fun _ _ _ => id
theorem PO.pe {base c : Nat} {a : Option Addr} {Z : List (Tn × Option Addr × Nat)} {l : List Tn} (h : PO w base a c Z) (hl : Z.map (·.1) = l) : PE w a l := ⟨Z, hl, h.own.rowU.row, fun z hz => ⟨(h.rows z hz).1, (h.rows z hz).2.1⟩⟩
/-- An entry more. -/
theorem PO.push {base c : Nat} {a : Option Addr} {Z : List (Tn × Option Addr × Nat)} (h : PO w base a c Z) (hb : base ≤ w.heap.size) (hl : Z.length ≤ 100000) (z : Tn × Option Addr × Nat) (hr : Row w z.2.1 (u8L z.1.data)) (h0 : z.2.1 = none → z.1.data = [] ∧ z.2.2 = 0)
    (hd : ∀ d, z.2.1 = some d → base ≤ d.block ∧ d.block < w.heap.size ∧ ∀ q, a = some q → d.block ≠ q.block) :
    ∃ (a' : Option Addr) (l' c' : Nat) (w1 : World), Ru (Instr.buildSlice 28 1 #[(0, .agg ⟨pV z⟩)]) w (.slice a' l' c') w1 ∧ ∃ a2 c2 w2, Ru (Builtin.append_ #[28, 28] 28 #[.slice a Z.length c, .slice a' l' c']) w1 (.slice a2 (Z.length + 1) c2) w2 ∧
      PO w2 base a2 c2 (Z ++ [z]) ∧ Mod (fun x => base ≤ x ∧ x < w.heap.size) w w2 := by
  have m1 : Mod No w (w.alloc (.cells ⟨pV z⟩ 64)) := (Mod.refl No w).alloc _
  have hs1 : (w.alloc (.cells ⟨pV z⟩ 64)).heap.size = w.heap.size + 1 := World.size_alloc _ _
  obtain ⟨q, c2, w2, a1, a2, a3, a4⟩ := (h.own.nos m1).appG (ty := 28) elemG_pE (by omega) (ad := ⟨w.heap.size, 0, none⟩) (m := 1) (c2 := 1) (ys := pV z) (.inr ⟨_, _, rfl, AtU.new.at⟩) rfl (by omega) (one_pV z) (by omega) (by omega) (Nat.le_trans hb m1.size)
  have hq := a2.base rfl
  refine ⟨_, _, _, _, built_pE w z, some q, c2, w2, a1, ⟨?_, fun y hy => ?_⟩, (m1.mono fun _ _ h => h.elim).trans a3 fun y hy e => ?_⟩
  · rw [List.map_append, List.flatten_append, List.length_append]
    have : ([z].map pV).flatten = pV z := by simp
    rw [this]; exact a2
  · have key : ∀ y : Tn × Option Addr × Nat, (Row w y.2.1 (u8L y.1.data) ∧ (y.2.1 = none → y.1.data = [] ∧ y.2.2 = 0) ∧ ∀ d, y.2.1 = some d → base ≤ d.block ∧ d.block < w.heap.size ∧ ∀ q, a = some q → d.block ≠ q.block) →
        Row w2 y.2.1 (u8L y.1.data) ∧ (y.2.1 = none → y.1.data = [] ∧ y.2.2 = 0) ∧ ∀ d, y.2.1 = some d → base ≤ d.block ∧ d.block < w2.heap.size ∧ ∀ q', some q = some q' → d.block ≠ q'.block := by
      rintro y ⟨k1, k2, k3⟩
      refine ⟨(k1.nos m1).keep a3 fun q' hq' ⟨q2, e1, e2⟩ => (k3 q' hq').2.2 q2 e1 e2, k2, fun d hd => ?_⟩
      obtain ⟨k4, k5, k6⟩ := k3 d hd
      refine ⟨k4, Nat.lt_of_lt_of_le k5 (Nat.le_trans m1.size a3.size), fun q' e => ?_⟩
      cases e
      rcases a4 with ⟨q2, e1, e2⟩ | e1
      · rw [e2]; exact k6 q2 e1
      · omega
    rcases List.mem_append.1 hy with hy | hy
    · exact key y (h.rows y hy)
    · rw [List.mem_singleton] at hy; subst hy
      exact key y ⟨hr, h0, hd⟩
  · obtain ⟨q2, e1, e2⟩ := e
    rw [e2]; exact h.own.base e1
theorem IndexE_c {a : Option Addr} {l : List Tn} {x : Bs} {c : Nat} {v : Value} (hP : PE w a l) (hn : l.length ≤ 1000) (hv : ∀ w', Mod No w w' → ∀ (e : Tn) (hd : Option Addr × Nat) (K : Value → World → Prop), (∀ w'', Mod No w' w'' → K (.bool (decide (e.path = x))) w'') → Dyn Tryd.prog v #[.agg ⟨pV (e, hd)⟩] w' K)
    (hk : ∀ w' (n : Int), Mod No w w' → ((n = -1 ∧ ∀ e ∈ l, e.path ≠ x) ∨ ∃ (i : Nat) (e : Tn), n = i ∧ l[i]? = some e ∧ e.path = x) → K (.int .i64 n) w') : Cal Tryd.prog F_slices_IndexFunc_dump_Entry #[.slice a l.length c, v] w K := by
  apply C_slices_IndexFunc_dump_Entry
  unfold D_slices_IndexFunc_dump_Entry
  refine ⟨fun z w1 => Mod No w w1 ∧ ∃ n : Nat, n ≤ l.length ∧ z = [.int .i64 n] ∧ ∀ e ∈ l.take n, e.path ≠ x, fun z _ => (l.length - nI z 0).toNat, ⟨Mod.refl _ _, 0, Nat.zero_le _, rfl, by simp⟩, ?_⟩
  rintro z w1 ⟨m1, n, hnl, rfl, hno⟩
  refine ⟨_, rfl, cond_of (fun h => ?_) (fun h => ?_)⟩
  · have h := of_decide_eq_true h
    have hnx : n < l.length := by omega
    have he : l[n]? = some l[n] := List.getElem?_eq_getElem hnx
    have htk : l.take (n + 1) = l.take n ++ [l[n]] := List.take_succ_eq_append_getElem hnx
    generalize l[n] = e at he htk
    obtain ⟨g, o, hd, rfl, ix, lq, la, _⟩ := PE.at (hP.nos m1) he
    refine ⟨_, ix _ _ hnx, _, la _ (Mod.refl _ _), hv w1 m1 e hd _ fun w2 m2 => ⟨_, rfl, cond_of (fun h2 => ?_) (fun h2 => ?_)⟩⟩
    · exact hk _ _ (m1.no m2) (.inr ⟨n, e, rfl, he, of_decide_eq_true h2⟩)
    · have h2 := of_decide_eq_false h2
      rw [wrap64 (by omega) (by omega)]
      refine ⟨⟨m1.no m2, n + 1, by omega, rfl, fun e' he' => ?_⟩, by simp [nI, nth]; omega⟩
      rw [htk, List.mem_append, List.mem_singleton] at he'
      rcases he' with he' | rfl
      · exact hno e' he'
      · exact h2
  · have h := of_decide_eq_false h
    refine hk _ _ m1 (.inl ⟨rfl, fun e he => hno e ?_⟩)
    rw [List.take_of_length_le (by omega)]; exact he
theorem Below1_c {x : Bs} {g : Nat} {e : Tn} {hd : Option Addr × Nat} (hx : At w g 0 [.string (sB x)]) (hk : ∀ w', Mod No w w' → K (.bool (decide (e.path = x))) w') : Cal Tryd.prog F_diff_Below_1 #[.agg ⟨pV (e, hd)⟩, .pointer (some ⟨g, 0, none⟩)] w K := by
  apply C_diff_Below_1
  unfold D_diff_Below_1
  obtain ⟨w1, hbx, hat, m1, _⟩ := box_at (P := Tryd.prog) (w := w) (T := 64) (cs := pV (e, hd))
  refine ⟨_, w1, hbx, sB e.path, by rw [add_none]; exact hat.load (by kernel_rfl) rfl, sB x, (hx.keep m1 id).load (i := 0) (by kernel_rfl) rfl, ?_⟩
  rw [beq_sB]
  exact hk _ m1
theorem restOf_prefix (x p : Bs) : restOf x p = if x.isPrefixOf p = true ∧ (p.drop x.length = [] ∨ (p.drop x.length).head? = some 47) then some (p.drop x.length) else none := by
  unfold restOf
  by_cases h : x.isPrefixOf p = true
  · rw [if_pos h]
    by_cases h2 : p.drop x.length = [] ∨ (p.drop x.length).head? = some 47
    · rw [if_pos h2, if_pos ⟨h, h2⟩]
    · rw [if_neg h2, if_neg (fun h3 => h2 h3.2)]
  · rw [if_neg h, if_neg (fun h3 => h h3.1)]
set_option maxRecDepth 100000 in
theorem Below_c {a : Option Addr} {l : List Tn} {x : Bs} {c : Nat} (hP : PE w a l) (hbd : BdE l) (hn : l.length ≤ 1000) (hc : l.length ≤ c) (hg : Gl w)
    (hbad : ¬ RightL l → ∀ w', Mod No w w' → K (.tuple #[.slice none 0 0, .int .i64 1]) w')
    (hnone : RightL l → (¬ ∃ t ∈ l, t.path = x ∧ t.kind = 2) → ∀ w', Mod No w w' → K (.tuple #[.slice none 0 0, .int .i64 20]) w')
    (hok : RightL l → (∃ t ∈ l, t.path = x ∧ t.kind = 2) → ∀ w' a' c', Mod No w w' → PE w' a' (bel l x l.length).out → (bel l x l.length).out.length ≤ c' → K (.tuple #[.slice a' (bel l x l.length).out.length c', .int .i64 0]) w') :
    Cal Tryd.prog F_diff_Below #[.slice a l.length c, .string (sB x)] w K := by
  apply C_diff_Below
  unfold D_diff_Below
  have hsx := sB_size x
  let w1 := w.alloc (.cells ⟨[.string (sB x)]⟩ 9)
  have m1 : Mod No w w1 := (Mod.refl No w).alloc _
  have hs1 : w1.heap.size = w.heap.size + 1 := World.size_alloc _ _
  have hx1 : At w1 w.heap.size 0 [.string (sB x)] := AtU.new.at
  refine ⟨_, w1, box_run, dRight_c (hP.nos m1) hbd hn hc (hg.nos m1) fun w2 b m2 hb => ⟨_, rfl, cond_of (fun h => ?_) (fun h => ?_)⟩⟩
  · have h : b = false := by simpa using h
    refine hbad (fun hr => ?_) _ (m1.no m2)
    have := hb.2 hr; rw [h] at this; cases this
  have h : b = true := by simpa using h
  have hR := hb.1 h
  refine IndexE_c (x := x) ((hP.nos m1).nos m2) hn (fun w' m' e hd K' hK' => Dyn_of (Below1_c (hx1.keep (m2.no m') id) hK')) fun w3 n m3 hn3 => ⟨_, rfl, ?_⟩
  have M3 := (m1.no m2).no m3
  have hx3 : At w3 w.heap.size 0 [.string (sB x)] := hx1.keep (m2.no m3) id
  refine Share.cut (fun z w4 => w4 = w3 ∧ ∃ b, z = [.bool b] ∧ (b = true ↔ ¬ ∃ (t : Tn), l[n.toNat]? = some t ∧ 0 ≤ n ∧ t.path = x ∧ t.kind = 2)) (cond_of (fun h2 => ⟨rfl, vyes ?_⟩) (fun h2 => ?_)) ?_
  · have h2 := of_decide_eq_true h2
    rintro ⟨t, _, h3, _⟩
    omega
  · have h2 := of_decide_eq_false h2
    obtain ⟨i, e, rfl, he, hex⟩ := hn3.resolve_left (fun h3 => by omega)
    obtain ⟨g, o, hd, rfl, ix, lq, _⟩ := PE.at (hP.nos M3) he
    refine ⟨_, ix _ _ (List.getElem?_eq_some_iff.1 he).1, _, lq 1 3 (.int .i64 e.kind) (by kernel_rfl) rfl _ (Mod.refl _ _), rfl, viff ?_⟩
    rw [bne_int, decide_eq_true_eq, Int.toNat_natCast]
    constructor
    · rintro h3 ⟨t, h4, _, _, h5⟩
      rw [he] at h4; cases h4
      exact h3 h5
    · exact fun h3 h4 => h3 ⟨e, he, by omega, hex, h4⟩
  rintro z w4 ⟨rfl, b2, rfl, hb2⟩
  refine ⟨_, rfl, cond_of (fun h2 => ?_) (fun h2 => ?_)⟩
  · refine hnone hR (fun ⟨t, ht, htx, htk⟩ => ?_) _ M3
    refine hb2.1 h2 ?_
    rcases hn3 with ⟨_, h3⟩ | ⟨i, e, rfl, he, hex⟩
    · exact absurd htx (h3 t ht)
    · obtain ⟨k, hk⟩ := List.mem_iff_getElem?.1 ht
      have hki : k = i := by
        have hlk := (List.getElem?_eq_some_iff.1 hk).1
        have hli := (List.getElem?_eq_some_iff.1 he).1
        rcases Nat.lt_trichotomy k i with h4 | h4 | h4
        · have := RightTo.asc hR h4 hli hk he
          rw [htx, hex] at this; exact absurd this (ord_irr _)
        · exact h4
        · have := RightTo.asc hR h4 hlk he hk
          rw [htx, hex] at this; exact absurd this (ord_irr _)
      subst hki
      rw [he] at hk; cases hk
      exact ⟨t, by rw [Int.toNat_natCast]; exact he, by omega, htx, htk⟩
  obtain ⟨t, htop, hn0, htx, htk⟩ : ∃ (t : Tn), l[n.toNat]? = some t ∧ 0 ≤ n ∧ t.path = x ∧ t.kind = 2 := Classical.not_not.1 fun hn => by
    have := hb2.2 hn; rw [h2] at this; cases this
  obtain ⟨top, rfl⟩ : ∃ top : Nat, n = top := ⟨n.toNat, by omega⟩
  rw [Int.toNat_natCast] at htop
  have htl := (List.getElem?_eq_some_iff.1 htop).1
  have hbt := bel_top hR htop htx top (Nat.le_refl _)
  let w5 := w4.alloc (.map #[] 0)
  have m5 : Mod No w4 w5 := (Mod.refl No w4).alloc _
  have hs5 : w5.heap.size = w4.heap.size + 1 := World.size_alloc _ _
  have hw4 := M3.size
  have hx3lt := hx3.lt
  refine ⟨_, w5, makeMap_run, fun z w6 => Mod No w w6 ∧ w5.heap.size ≤ w6.heap.size ∧ At w6 w.heap.size 0 [.string (sB x)] ∧ ∃ (i : Nat) (Z : List (Tn × Option Addr × Nat)) (a' : Option Addr) (c' : Nat) (y : Value) (L : List (Int × Value)), top ≤ i ∧ i ≤ l.length ∧ z = [.slice a' Z.length c', .int .i64 i, y] ∧ Z.map (·.1) = (bel l x i).out ∧
      PO w6 w5.heap.size a' c' Z ∧ MapAt w6 w4.heap.size L ∧ ∀ k : Nat, lookupL L k = if 0 ≤ atI k ((bel l x i).src.map (thingI l)) 0 then some (.int .i64 (atI k ((bel l x i).src.map (thingI l)) 0)) else none, fun z _ => (l.length - nI z 1).toNat,
    ⟨M3.no m5, Nat.le_refl _, hx3.keep m5 id, top, [], none, 0, _, [], Nat.le_refl _, by omega, rfl, by rw [hbt]; rfl, PO.nil, MapAt.new, fun k => by rw [hbt]; rfl⟩, ?_⟩
  rintro z w6 ⟨m6, hs6, hx6, i, Z, a', c', y, L, hti, hil, rfl, hZ, hPO, hmap, hL⟩
  refine ⟨_, rfl, cond_of (fun h3 => ?_) (fun h3 => ?_)⟩
  · have h3 := of_decide_eq_true h3
    have hix : i < l.length := by omega
    have he : l[i]? = some l[i] := List.getElem?_eq_getElem hix
    generalize l[i] = e at he
    have hone := RightTo.one hR hix he
    obtain ⟨qt, hqt, hqk, hqi, _⟩ := hone.thing he
    have hzl : Z.length ≤ i := by
      have h4 := congrArg List.length hZ
      have h5 := bel_inv hR x i (by omega)
      have h6 : (bel l x i).src.length ≤ i := by
        have : ∀ j, j ≤ l.length → (bel l x j).src.length ≤ j := by
          intro j
          induction j with
          | zero => intro _; simp [bel]
          | succ j ih =>
            intro hj
            have := ih (by omega)
            show (belStep l x (bel l x j) j).src.length ≤ _
            unfold belStep
            split
            · omega
            · split
              · omega
              · split
                · omega
                · simp; omega
        exact this i (by omega)
      rw [List.length_map, h5.len] at h4
      omega
    obtain ⟨g, o, hd, rfl, ix, lq, _⟩ := PE.at (hP.nos m6) he
    have ix := ix l.length c hix
    have rd := (Mod.refl No w6).drew
    have lx : Ru (Instr.loadAt 9 (.pointer (some ⟨w.heap.size, 0, none⟩))) (drew w6) (.string (sB x)) (drew w6) := (hx6.keep rd id).load (i := 0) (by kernel_rfl) rfl
    have hbi := bel_inv hR x i (by omega)
    have hzs : Z.length = (bel l x i).src.length := by
      have h4 := congrArg List.length hZ
      rw [List.length_map, hbi.len] at h4
      exact h4
    refine Share.cut (fun z w20 => Mod No w w20 ∧ w5.heap.size ≤ w20.heap.size ∧ At w20 w.heap.size 0 [.string (sB x)] ∧ ∃ (Z : List (Tn × Option Addr × Nat)) (a' : Option Addr) (c' : Nat) (y : Value) (L : List (Int × Value)), z = [.slice a' Z.length c', y] ∧ Z.map (·.1) = (bel l x (i + 1)).out ∧
      PO w20 w5.heap.size a' c' Z ∧ MapAt w20 w4.heap.size L ∧ ∀ k : Nat, lookupL L k = if 0 ≤ atI k ((bel l x (i + 1)).src.map (thingI l)) 0 then some (.int .i64 (atI k ((bel l x (i + 1)).src.map (thingI l)) 0)) else none)
      ⟨_, ix, _, lq 0 9 (.string (sB e.path)) (by kernel_rfl) rfl _ rd, _, lx, CutPrefix_c ⟨_, _, rfl, Share.cut (fun z w8 => w8 = drew w6 ∧ z = [.bool (restOf x e.path).isNone]) ?_ ?_⟩⟩ ?_
    · rw [restOf_prefix]
      refine cond_of (fun h4 => ⟨rfl, ?_⟩) (fun h4 => ?_)
      · have h4 : x.isPrefixOf e.path = false := by simpa using h4
        rw [h4]; simp
      · have h4 : x.isPrefixOf e.path = true := by simpa using h4
        rw [h4, if_pos rfl, beq_empty]
        refine cond_of (fun h5 => ?_) (fun h5 => ⟨rfl, ?_⟩)
        · have h5 : e.path.drop x.length ≠ [] := by simpa using h5
          cases hdp : e.path.drop x.length with
          | nil => exact absurd hdp h5
          | cons c0 r =>
            refine ⟨_, ix_run (x := c0 :: r) (i := 0) rfl, rfl, ?_⟩
            rw [bne_47]
            by_cases h6 : c0 = 47
            · simp [h6]
            · simp [h6]
        · have h5 : e.path.drop x.length = [] := by simpa using h5
          rw [h5]; simp
    · rintro z w8 ⟨rfl, rfl⟩
      refine ⟨_, rfl, cond_of (fun h4 => ?_) (fun h4 => ?_)⟩
      · have h4 : restOf x e.path = none := Option.isNone_iff_eq_none.1 h4
        rw [bel_skip he h4]
        exact ⟨m6.no rd, hs6, hx6.keep rd id, Z, a', c', _, L, rfl, hZ, hPO.nos rd, hmap.drew, hL⟩
      · obtain ⟨r, hr⟩ : ∃ r, restOf x e.path = some r := Option.isSome_iff_exists.1 (by cases h5 : restOf x e.path with | none => rw [h5] at h4; cases h4 | some r => rfl)
        have hpre : x.isPrefixOf e.path = true ∧ e.path.drop x.length = r := by
          rw [restOf_prefix] at hr
          split at hr
          · rename_i h5; exact ⟨h5.1, by simpa using hr⟩
          · cases hr
        rw [hpre.1, if_pos rfl, hpre.2]
        have hstep := bel_step he hr hqt
        let w11 := (drew w6).alloc (.cells ⟨[.string (sB r), .int .i64 e.kind, .string ByteArray.empty, .slice none 0 0, .int .i64 (-1)]⟩ 64)
        have m11 : Mod No w6 w11 := rd.alloc _
        have hs11 : w11.heap.size = w6.heap.size + 1 := World.size_alloc _ _
        have hst : RuU (Instr.storeAt 64 (.pointer (some ⟨w6.heap.size, 0, none⟩)) (.agg ⟨[.string (sB r), .int .i64 e.kind, .string ByteArray.empty, .slice none 0 0, .int .i64 (-1)]⟩)) ((drew w6).alloc (.cells ⟨zPE⟩ 64)) w11 :=
          store_new (T := 64) (n := 5) agg_pE rfl rfl (one_pV (⟨r, e.kind, [], [], -1⟩, (none, 0)))
        have hat : AtU w11 w6.heap.size 0 [.string (sB r), .int .i64 e.kind, .string ByteArray.empty, .slice none 0 0, .int .i64 (-1)] := AtU.new
        have hlk := look2_run (P := Tryd.prog) (k := (thingI l i : Int)) mapZ_met (hmap.keep m11 id)
        have hmlt := hmap.lt
        have hxlt := hx6.lt
        refine thing_c ((hP.nos m6).nos rd) he ⟨_, rfl, _, ix, _, lq 1 3 (.int .i64 e.kind) (by kernel_rfl) rfl _ rd, _, build_bE _ _, _, _, alloc_pE (drew w6), w11, hst, ?_⟩
        have hLk := hL (thingI l i)
        obtain ⟨a0, ha0⟩ : ∃ a0, a0 = atI (thingI l i) ((bel l x i).src.map (thingI l)) 0 := ⟨_, rfl⟩
        rw [← ha0] at hstep hLk
        obtain ⟨zz, hzz⟩ : ∃ zz, zz = mkE e r qt a0 := ⟨_, rfl⟩
        rw [← hzz] at hstep
        obtain ⟨J5, hJ5⟩ : ∃ J5 : World → Prop, J5 = fun w17 => (Mod (fun y => y = w4.heap.size) w6 w17 ∧ ∃ (hd' : Option Addr × Nat) (L' : List (Int × Value)), At w17 w6.heap.size 0 (pV (zz, hd')) ∧ Row w17 hd'.1 (u8L zz.data) ∧
            (hd'.1 = none → zz.data = [] ∧ hd'.2 = 0) ∧ (∀ d, hd'.1 = some d → w6.heap.size ≤ d.block ∧ d.block < w17.heap.size) ∧ MapAt w17 w4.heap.size L' ∧
            ∀ k : Nat, lookupL L' k = if 0 ≤ atI k ((bel l x (i + 1)).src.map (thingI l)) 0 then some (.int .i64 (atI k ((bel l x (i + 1)).src.map (thingI l)) 0)) else none) := ⟨_, rfl⟩
        have fin : ∀ w17, J5 w17 →
            ∃ (a7_2 : Option Addr) (l7_2 c7_2 : Nat), nth [Value.slice a' Z.length c', .int .i64 i, y] 0 = .slice a7_2 l7_2 c7_2 ∧ ∃ g98 : Array Value, Ru (Instr.loadAt 64 (.pointer (some ⟨w6.heap.size, 0, none⟩))) w17 (.agg g98) w17 ∧ ∃ (a99 : Option Addr) (l99 c99 : Nat), ∃ w18 : World, Ru (Instr.buildSlice 28 1 #[(0, .agg g98)]) w17 (.slice a99 l99 c99) w18 ∧ ∃ (a100 : Option Addr) (l100 c100 : Nat), ∃ w19 : World, Ru (Builtin.append_ #[28, 28] 28 #[.slice a7_2 l7_2 c7_2, .slice a99 l99 c99]) w18 (.slice a100 l100 c100) w19 ∧
            (Mod No w w19 ∧ w5.heap.size ≤ w19.heap.size ∧ At w19 w.heap.size 0 [.string (sB x)] ∧ ∃ (Z : List (Tn × Option Addr × Nat)) (a' : Option Addr) (c' : Nat) (y : Value) (L : List (Int × Value)), [Value.slice a100 l100 c100, .bool (restOf x e.path).isNone] = [.slice a' Z.length c', y] ∧ Z.map (·.1) = (bel l x (i + 1)).out ∧
              PO w19 w5.heap.size a' c' Z ∧ MapAt w19 w4.heap.size L ∧ ∀ k : Nat, lookupL L k = if 0 ≤ atI k ((bel l x (i + 1)).src.map (thingI l)) 0 then some (.int .i64 (atI k ((bel l x (i + 1)).src.map (thingI l)) 0)) else none) := by
          intro w17 h17
          rw [hJ5] at h17
          obtain ⟨m17, hd', L', k1, k2, k3, k4, k5, k6⟩ := h17
          have hs17 := m17.size
          have hPO17 := hPO.keep m17 fun y h5 h6 h7 => by omega
          obtain ⟨a1, l1, c1, w18, p1, a2, c2, w19, p2, p3, p4⟩ := hPO17.push (by omega) (by omega) (zz, hd') k2 k3 fun d hd2 => ⟨by have := (k4 d hd2).1; omega, (k4 d hd2).2, fun q hq => by have := (hPO.own.base hq).2; have := (k4 d hd2).1; omega⟩
          refine ⟨_, _, _, rfl, _, k1.loadAgg (P := Tryd.prog) (i := 0) agg_pE (by simp [pV]), a1, l1, c1, w18, p1, a2, _, c2, w19, p2, ?_, ?_, ?_, Z ++ [(zz, hd')], a2, c2, .bool (restOf x e.path).isNone, L', ?_, ?_, p3, k5.keep p4 (by omega), k6⟩
          · exact (m6.trans m17 fun y hy e2 => by omega).trans p4 fun y hy e2 => by omega
          · have := p4.size; omega
          · exact (hx6.keep m17 (by omega)).keep p4 (by omega)
          · rw [List.length_append, List.length_singleton]
          · rw [List.map_append, hZ, hstep]; rfl
        have hsrc : (bel l x (i + 1)).src.map (thingI l) = (bel l x i).src.map (thingI l) ++ [thingI l i] := by rw [hstep]; simp
        have hwl : ((bel l x i).src.map (thingI l)).length = Z.length := by rw [List.length_map]; exact hzs.symm
        by_cases h0 : 0 ≤ a0
        · rw [hLk, if_pos h0] at hlk
          have hlk' : Ru (Instr.lookup 75 (.map (some w4.heap.size)) (.int .i64 (thingI l i)) true) w11 (.tuple #[.int .i64 a0, .bool true]) w11 := hlk
          refine ⟨_, _, hlk', Share.cut (fun z w17 => z = [] ∧ J5 w17) (tt rfl ?_) fun z w17 h => fin w17 h.2⟩
          obtain ⟨w12, t1, t2, t3, _⟩ := hat.store (P := Tryd.prog) (T := 3) (i := 4) (v := .int .i64 a0) (by kernel_rfl) (by simp) rfl
          rw [Nat.zero_add] at t1
          have hze : zz = ⟨r, e.kind, [], [], a0⟩ := by rw [hzz]; unfold mkE; rw [if_neg (by omega)]
          refine ⟨w12, by rw [add_none, Nat.zero_add]; exact t1, rfl, ?_⟩
          rw [hJ5]
          refine ⟨(m11.mono fun _ _ h => h.elim).trans t3 fun y hy e2 => by omega, (none, 0), L, ?_, ?_, ?_, fun d hd2 => (by cases hd2), (hmap.keep m11 id).keep t3 (by omega), fun k => ?_⟩
          · rw [hze]; exact t2.at
          · rw [hze]; exact .inl rfl
          · rw [hze]; exact fun _ => ⟨rfl, rfl⟩
          · rw [hL k, hsrc, atI_app]
            by_cases h5 : 0 ≤ atI k ((bel l x i).src.map (thingI l)) 0
            · rw [if_pos h5, if_pos h5, if_pos h5]
            · have h7 : thingI l i ≠ k := fun h6 => h5 (by rw [← h6, ← ha0]; exact h0)
              rw [if_neg h5, if_neg h5, if_neg h7, if_neg (by omega)]
        · rw [hLk, if_neg h0] at hlk
          have hlk' : Ru (Instr.lookup 75 (.map (some w4.heap.size)) (.int .i64 (thingI l i)) true) w11 (.tuple #[.int .i64 0, .bool false]) w11 := hlk
          refine ⟨_, _, hlk', Share.cut (fun z w17 => z = [] ∧ J5 w17) (ff rfl ?_) fun z w17 h => fin w17 h.2⟩
          obtain ⟨w13, u1, u2, u3, _⟩ := update_run (P := Tryd.prog) (T := 75) (k := (thingI l i : Int)) (v := .int .i64 (Z.length : Int)) mapZ_met (hmap.keep m11 id)
          have hze : zz = ⟨r, e.kind, qt.link, qt.data, -1⟩ := by rw [hzz]; unfold mkE; rw [if_pos (by omega)]
          have M13 : Mod No w w13 := (m6.no m11).trans u3 fun y hy e2 => by omega
          have m13 : Mod (fun y => y = w4.heap.size) w6 w13 := (m11.mono fun _ _ h => h.elim).trans u3 fun y hy e2 => e2
          obtain ⟨g2, o2, hd2, hga, ix2, lq2, _, hr2, hn2⟩ := PE.at (hP.nos M13) hqt
          cases hga
          have ix2 := ix2 l.length c (by omega)
          have rd13 := (Mod.refl No w13).drew
          have hqd := (RightTo.one hR (by omega : thingI l i < l.length) hqt).2.2.1
          refine ⟨_, _, _, rfl, w13, u1, _, ix2, _, lq2 2 9 (.string (sB qt.link)) (by kernel_rfl) rfl _ rd13, _, ix2, _, _, _, lq2 3 62 (.slice hd2.1 qt.data.length hd2.2) (by kernel_rfl) rfl _ rd13,
            CloneB_c (hr2.nos rd13) rfl (fun h5 => ⟨by rw [(hn2 h5).1]; rfl, (hn2 h5).2⟩) (by omega) fun w14 a94 c94 o94 m14 => ⟨_, _, _, rfl, lq2 2 9 (.string (sB qt.link)) (by kernel_rfl) rfl _ (rd13.no m14), ?_⟩⟩
          have hat14 : AtU w14 w6.heap.size 0 [.string (sB r), .int .i64 e.kind, .string ByteArray.empty, .slice none 0 0, .int .i64 (-1)] := (hat.keep u3 (by omega)).keep (rd13.no m14) id
          obtain ⟨w15, t1, t2, t3, _⟩ := hat14.store (P := Tryd.prog) (T := 9) (i := 2) (v := .string (sB qt.link)) (by kernel_rfl) (by simp) rfl
          obtain ⟨w16, v1, v2, v3, _⟩ := t2.store (P := Tryd.prog) (T := 62) (i := 3) (v := .slice a94 qt.data.length c94) (by kernel_rfl) (by simp) rfl
          rw [Nat.zero_add] at t1 v1
          have hs13 : w11.heap.size ≤ w13.heap.size := u3.size
          have hob : ∀ {d}, a94 = some d → w13.heap.size ≤ d.block ∧ d.block < w14.heap.size := fun hd3 => o94.base hd3
          have m16 : Mod (fun y => y = w6.heap.size) w14 w16 := t3.trans v3 fun y hy e2 => e2
          refine ⟨w15, by rw [add_none, Nat.zero_add]; exact t1, w16, by rw [add_none, Nat.zero_add]; exact v1, rfl, ?_⟩
          rw [hJ5]
          refine ⟨(m13.no (rd13.no m14)).trans m16 fun y hy e2 => by omega, (a94, c94), putL (thingI l i) (.int .i64 (Z.length : Int)) L, ?_, ?_, ?_, fun d hd3 => ?_, ((u2.drew).keep m14 id).keep m16 (by omega), fun k => ?_⟩
          · rw [hze]; exact v2.at
          · rw [hze]
            exact o94.rowU.row.keep m16 fun q hq e2 => by have := (hob hq).1; omega
          · rw [hze]
            intro h5
            have h5 : a94 = none := h5
            subst h5
            have h6 := o94.zero
            exact ⟨List.eq_nil_of_length_eq_zero h6.1, h6.2⟩
          · have h6 := hob hd3
            have := m16.size
            omega
          · rw [lookupL_putL, hL k, hsrc, atI_app, hwl, Nat.zero_add]
            by_cases h5 : k = thingI l i
            · subst h5
              rw [if_pos rfl, ← ha0, if_neg h0, if_pos rfl, if_pos (by omega)]
            · rw [if_neg (by omega)]
              by_cases h6 : 0 ≤ atI k ((bel l x i).src.map (thingI l)) 0
              · rw [if_pos h6, if_pos h6, if_pos h6]
              · have h8 : thingI l i ≠ k := fun h7 => h5 h7.symm
                rw [if_neg h6, if_neg h6, if_neg h8, if_neg (by omega)]
    · rintro z w20 ⟨m20, hs20, hx20, Z2, a2, c2, y2, L2, rfl, hZ2, hPO2, hmap2, hL2⟩
      rw [wrap64 (by omega) (by omega)]
      exact ⟨⟨m20, hs20, hx20, i + 1, Z2, a2, c2, _, L2, by omega, by omega, rfl, hZ2, hPO2, hmap2, hL2⟩, by simp [nI, nth]; omega⟩
  · have h3 := of_decide_eq_false h3
    have hil2 : i = l.length := by omega
    subst hil2
    have hzl : Z.length = (bel l x l.length).out.length := by rw [← hZ, List.length_map]
    have hcap := hPO.own.cap.1
    refine ⟨_, _, _, rfl, ?_⟩
    rw [hzl] at hcap ⊢
    exact hok hR ⟨t, List.mem_of_getElem? htop, htx, htk⟩ w6 a' c' m6 (hPO.pe hZ) hcap
end
end Go.Proofs.YtiahkkekcmgkfaaDoor
end
section
/- Layer 34, the document's answer: what stands below a path; are entries alike? -/
open Go Go.Den Go.Proofs
namespace Go.Den
def nL (xs : List Nat) : List Value := iL (xs.map fun n : Nat => (n : Int))
theorem nL_get {xs : List Nat} {i : Nat} {x : Nat} (h : xs[i]? = some x) : (nL xs)[i]? = some (.int .i64 x) := by
  unfold nL iL
  rw [List.getElem?_map, List.getElem?_map, h]; rfl
theorem nL_snoc (xs : List Nat) (x : Nat) : nL (xs ++ [x]) = nL xs ++ [.int .i64 x] := by
  unfold nL iL
  rw [List.map_append, List.map_append]; rfl
theorem bel_src_len (l : List Tn) (x : Bs) : ∀ j, (bel l x j).src.length ≤ j
  | 0 => Nat.le_refl _
  | j + 1 => by
    have := bel_src_len l x j
    show (belStep l x (bel l x j) j).src.length ≤ _
    unfold belStep
    split
    · omega
    · split
      · omega
      · split
        · omega
        · simp; omega
theorem length_nL (xs : List Nat) : (nL xs).length = xs.length := by simp [nL, iL]
theorem rV_inj {x y : Tn} : rV x = rV y ↔ x = y := by
  obtain ⟨a, b, c, d, e⟩ := x
  obtain ⟨a', b', c', d', e'⟩ := y
  simp [rV, sB_inj]
theorem conf_rV (x : Tn) : conf [1, 0, 1, 1, 0] (rV x) := trivial
theorem atI_take {k : Nat} {xs : List Nat} {n : Nat} (h : k ∉ xs.take n) : ∀ i, atI k xs i = atI k (xs.drop n) (i + n) := by
  induction n generalizing xs with
  | zero => intro i; rfl
  | succ n ih =>
    intro i
    cases xs with
    | nil => rfl
    | cons x r =>
      rw [List.take_succ_cons, List.mem_cons] at h
      show (if x = k then _ else atI k r (i + 1)) = _
      rw [if_neg (fun e => h (.inl e.symm)), ih (fun e => h (.inr e)), List.drop_succ_cons, show i + 1 + n = i + (n + 1) by omega]
end Go.Den
namespace Go.Proofs.YtiahkkekcmgkfaaDoor
theorem elemG_ints : elemG Tryd.prog 81 1 8 := elemG_of (by kernel_rfl)
theorem mix_rE : mixT Tryd.prog 58 = some [1, 0, 1, 1, 0] := by kernel_rfl
section
variable {w : World} {K : Value → World → Prop}
theorem rAt_c {a : Option Addr} {xs : List Nat} {k c : Nat} (hr : Row w a (nL xs)) (hn : xs.length ≤ 100000) (hk : K (.int .i64 (atI k xs 0)) w) : Cal Tryd.prog F_leveeref34_at #[.slice a xs.length c, .int .i64 k] w K := by
  apply C_leveeref34_at
  unfold D_leveeref34_at
  refine ⟨fun z w1 => w1 = w ∧ ∃ n : Nat, n ≤ xs.length ∧ z = [.int .i64 n] ∧ k ∉ xs.take n, fun z _ => (xs.length - nI z 0).toNat, ⟨rfl, 0, Nat.zero_le _, rfl, by simp⟩, ?_⟩
  rintro z w1 ⟨rfl, n, hnl, rfl, hno⟩
  have ha := atI_take hno 0
  rw [Nat.zero_add] at ha
  refine ⟨_, rfl, cond_of (fun h => ?_) (fun h => ?_)⟩
  · have h := of_decide_eq_true h
    have hnx : n < xs.length := by omega
    have he : xs[n]? = some xs[n] := List.getElem?_eq_getElem hnx
    have htk : xs.take (n + 1) = xs.take n ++ [xs[n]] := List.take_succ_eq_append_getElem hnx
    rw [List.drop_eq_getElem_cons hnx] at ha
    generalize xs[n] = x at he htk ha
    obtain ⟨g, o, rfl, hat⟩ := hr.resolve_left fun e => by have := congrArg List.length e; rw [length_nL] at this; simp at this; rw [this] at hnx; simp at hnx
    refine ⟨_, index_slice (k := 1) (by kernel_rfl) (by omega) (by omega), ?_⟩
    rw [add_none, show (n : Int).toNat * 1 = n by omega]
    refine ⟨_, hat.load (by kernel_rfl) (nL_get he), ?_⟩
    have ha : atI k xs 0 = if x = k then (n : Int) else atI k (xs.drop (n + 1)) (n + 1) := ha
    rw [beq_int]
    refine cond_of (fun h2 => ?_) (fun h2 => ?_)
    · have h2 := of_decide_eq_true h2
      rw [if_pos (by omega)] at ha
      rw [ha] at hk; exact hk
    · have h2 := of_decide_eq_false h2
      rw [wrap64 (by omega) (by omega)]
      refine ⟨⟨rfl, n + 1, by omega, rfl, ?_⟩, by simp [nI, nth]; omega⟩
      rw [htk, List.mem_append, List.mem_singleton]
      rintro (h3 | h3)
      · exact hno h3
      · omega
  · have h := of_decide_eq_false h
    rw [List.drop_eq_nil_of_le (by omega)] at ha
    have ha : atI k xs 0 = -1 := ha
    rw [ha] at hk; exact hk
theorem SameE_c {a b : Option Addr} {l m : List Tn} {c d : Nat} (hP : RE w a l) (hQ : RE w b m) (hn : l.length ≤ 10000) (hm : m.length ≤ 10000) (hk : ∀ w' r, Mod No w w' → (r = true ↔ l = m) → K (.bool r) w') : Cal Tryd.prog F_leveeref33_Same #[.slice a l.length c, .slice b m.length d] w K := by
  apply C_leveeref33_Same
  unfold D_leveeref33_Same
  rw [bne_int]
  refine cond_of (fun h => ?_) (fun h => ?_)
  · have h := of_decide_eq_true h
    exact hk _ _ (Mod.refl _ _) ⟨fun e => (by cases e), fun e => absurd (by rw [e]) h⟩
  have h : (l.length : Int) = (m.length : Int) := by simpa using h
  have hlm : l.length = m.length := by omega
  refine ⟨fun z w1 => Mod No w w1 ∧ ∃ n : Nat, n ≤ l.length ∧ z = [.int .i64 n] ∧ l.take n = m.take n, fun z _ => (l.length - nI z 0).toNat, ⟨Mod.refl _ _, 0, Nat.zero_le _, rfl, rfl⟩, ?_⟩
  rintro z w1 ⟨m1, n, hnl, rfl, ht⟩
  refine ⟨_, rfl, cond_of (fun h => ?_) (fun h => ?_)⟩
  · have h := of_decide_eq_true h
    have hnx : n < l.length := by omega
    have hny : n < m.length := by omega
    have hx : l[n]? = some l[n] := List.getElem?_eq_getElem hnx
    have hy : m[n]? = some m[n] := List.getElem?_eq_getElem hny
    have e1 := List.take_succ_eq_append_getElem hnx
    have e2 := List.take_succ_eq_append_getElem hny
    generalize l[n] = x at *
    generalize m[n] = y at *
    obtain ⟨g1, o1, rfl, ix1, _, la1⟩ := RE.at (hP.nos m1) hx
    obtain ⟨g2, o2, rfl, ix2, _, la2⟩ := RE.at (hQ.nos m1) hy
    have rd := (Mod.refl No w1).drew
    have heq : ∃ r, (r = true ↔ rV x = rV y) ∧ Al (eqS .neq 58 (.tmp 20) (.tmp 24) (.agg ⟨rV x⟩) (.agg ⟨rV y⟩)) (.bool (!r)) := by
      by_cases hxy : rV x = rV y
      · refine ⟨true, by simp [hxy], fun w => ?_⟩
        obtain ⟨r, hr, _, h3⟩ := eq_mix mix_rE (conf_rV x) (conf_rV y) (o1 := .tmp 20) (o2 := .tmp 24) w
        have := hr.2 hxy; subst this; exact h3
      · refine ⟨false, by simp [hxy], fun w => ?_⟩
        obtain ⟨r, hr, _, h3⟩ := eq_mix mix_rE (conf_rV x) (conf_rV y) (o1 := .tmp 20) (o2 := .tmp 24) w
        cases r
        · exact h3
        · exact absurd (hr.1 rfl) hxy
    obtain ⟨r, hr, hrun⟩ := heq
    refine ⟨_, ix1 _ _ hnx, _, la1 _ rd, _, ix2 _ _ hny, _, la2 _ rd, _, hrun, cond_of (fun h2 => ?_) (fun h2 => ?_)⟩
    · have h2 : r = false := by simpa using h2
      refine hk _ _ (m1.no rd) ⟨fun e => (by cases e), fun e => ?_⟩
      rw [e, hy] at hx
      cases hx
      have := hr.2 rfl
      rw [h2] at this; cases this
    · have h2 : r = true := by simpa using h2
      have h3 := rV_inj.1 (hr.1 h2)
      rw [wrap64 (by omega) (by omega)]
      exact ⟨⟨m1.no rd, n + 1, by omega, rfl, by rw [e1, e2, ht, h3]⟩, by simp [nI, nth]; omega⟩
  · have h := of_decide_eq_false h
    refine hk _ _ m1 ⟨fun _ => ?_, fun _ => rfl⟩
    rw [List.take_of_length_le (by omega), List.take_of_length_le (by omega)] at ht
    exact ht
theorem restOf_iff {x p : Bs} : (restOf x p).isNone = !(decide (p = x) || (decide (x.length < p.length) && (decide (p.take x.length = x) && decide (p[x.length]? = some 47)))) := by
  cases h : restOf x p with
  | some r =>
    obtain ⟨rfl, hr⟩ := restOf_some.1 h
    rcases hr with rfl | ⟨t, rfl⟩
    · simp
    · simp
  | none =>
    have h1 : p ≠ x := fun e => by
      have := restOf_some (path := x) (p := p) (r := []) |>.2 ⟨by rw [e]; simp, .inl rfl⟩
      rw [h] at this; cases this
    have h2 : ¬ (x.length < p.length ∧ p.take x.length = x ∧ p[x.length]? = some 47) := fun ⟨e1, e2, e3⟩ => by
      obtain ⟨hl, e4⟩ := List.getElem?_eq_some_iff.1 e3
      have := restOf_some (path := x) (p := p) (r := p.drop x.length) |>.2 ⟨by
        conv => lhs; rw [← List.take_append_drop x.length p, e2], .inr ⟨p.drop (x.length + 1), by rw [List.drop_eq_getElem_cons hl, e4]⟩⟩
      rw [h] at this; cases this
    have h3 : (decide (x.length < p.length) && (decide (p.take x.length = x) && decide (p[x.length]? = some 47))) = false := by
      rw [Bool.eq_false_iff]
      intro h4
      simp only [Bool.and_eq_true, decide_eq_true_eq] at h4
      exact h2 h4
    rw [h3, decide_eq_false h1]; rfl
set_option maxRecDepth 100000 in
theorem rBelow_c {a : Option Addr} {l : List Tn} {x : Bs} {c : Nat} (hP : RE w a l) (hbd : BdE l) (hn : l.length ≤ 1000) (hxl : x.length ≤ 140737488355328)
    (hbad : ¬ RightL l → ∀ w', Mod No w w' → K (.tuple #[.slice none 0 0, .int .i64 1]) w')
    (hnone : RightL l → (¬ ∃ t ∈ l, t.path = x ∧ t.kind = 2) → ∀ w', Mod No w w' → K (.tuple #[.slice none 0 0, .int .i64 20]) w')
    (hok : RightL l → (∃ t ∈ l, t.path = x ∧ t.kind = 2) → ∀ w' a' c', Mod No w w' → RE w' a' (bel l x l.length).out → K (.tuple #[.slice a' (bel l x l.length).out.length c', .int .i64 0]) w') :
    Cal Tryd.prog F_leveeref34_Below #[.slice a l.length c, .string (sB x)] w K := by
  apply C_leveeref34_Below
  unfold D_leveeref34_Below
  have hsx := sB_size x
  refine rRight_c hP hbd hn fun w1 b m1 hb => ⟨_, rfl, cond_of (fun h => ?_) (fun h => ?_)⟩
  · have h : b = false := by simpa using h
    refine hbad (fun hr => ?_) _ m1
    have := hb.2 hr; rw [h] at this; cases this
  have h : b = true := by simpa using h
  have hR := hb.1 h
  refine rFind_c (hP.nos m1) hn fun n hn3 => ⟨_, rfl, ?_⟩
  refine Share.cut (fun z w3 => w3 = w1 ∧ ∃ b, z = [.bool b] ∧ (b = true ↔ ¬ ∃ (t : Tn), l[n.toNat]? = some t ∧ 0 ≤ n ∧ t.path = x ∧ t.kind = 2)) (cond_of (fun h2 => ⟨rfl, vyes ?_⟩) (fun h2 => ?_)) ?_
  · have h2 := of_decide_eq_true h2
    rintro ⟨t, _, h3, _⟩
    omega
  · have h2 := of_decide_eq_false h2
    obtain ⟨i, e, rfl, he, hex⟩ := hn3.resolve_left (fun h3 => by omega)
    obtain ⟨g, o, rfl, ix, lq, _⟩ := RE.at (hP.nos m1) he
    refine ⟨_, ix _ _ (List.getElem?_eq_some_iff.1 he).1, _, lq 1 3 (.int .i64 e.kind) (by kernel_rfl) rfl _ (Mod.refl _ _), rfl, viff ?_⟩
    rw [bne_int, decide_eq_true_eq, Int.toNat_natCast]
    constructor
    · rintro h3 ⟨t, h4, _, _, h5⟩
      rw [he] at h4; cases h4
      exact h3 h5
    · exact fun h3 h4 => h3 ⟨e, he, by omega, hex, h4⟩
  rintro z w3 ⟨rfl, b2, rfl, hb2⟩
  refine ⟨_, rfl, cond_of (fun h2 => ?_) (fun h2 => ?_)⟩
  · refine hnone hR (fun ⟨t, ht, htx, htk⟩ => ?_) _ m1
    refine hb2.1 h2 ?_
    rcases hn3 with ⟨_, h3⟩ | ⟨i, e, rfl, he, hex⟩
    · exact absurd htx (h3 t ht)
    · obtain ⟨k, hk⟩ := List.mem_iff_getElem?.1 ht
      have hki : k = i := by
        have hlk := (List.getElem?_eq_some_iff.1 hk).1
        have hli := (List.getElem?_eq_some_iff.1 he).1
        rcases Nat.lt_trichotomy k i with h4 | h4 | h4
        · have := RightTo.asc hR h4 hli hk he
          rw [htx, hex] at this; exact absurd this (ord_irr _)
        · exact h4
        · have := RightTo.asc hR h4 hlk he hk
          rw [htx, hex] at this; exact absurd this (ord_irr _)
      subst hki
      rw [he] at hk; cases hk
      exact ⟨t, by rw [Int.toNat_natCast]; exact he, by omega, htx, htk⟩
  obtain ⟨t, htop, hn0, htx, htk⟩ : ∃ (t : Tn), l[n.toNat]? = some t ∧ 0 ≤ n ∧ t.path = x ∧ t.kind = 2 := Classical.not_not.1 fun hn => by
    have := hb2.2 hn; rw [h2] at this; cases this
  refine ⟨fun z w4 => Mod No w w4 ∧ w3.heap.size ≤ w4.heap.size ∧ ∃ (i : Nat) (a' b' : Option Addr) (c' d' : Nat) (y1 y2 : Value), i ≤ l.length ∧ z = [.slice a' (bel l x i).out.length c', .slice b' (bel l x i).src.length d', .int .i64 i, y1, y2] ∧
      Own Tryd.prog w4 w3.heap.size 22 5 a' (bel l x i).out.length c' ((bel l x i).out.map rV).flatten ∧ Own Tryd.prog w4 w3.heap.size 81 1 b' (bel l x i).src.length d' (nL ((bel l x i).src.map (thingI l))) ∧
      ∀ q q', a' = some q → b' = some q' → q.block ≠ q'.block, fun z _ => (l.length - nI z 2).toNat,
    ⟨m1, Nat.le_refl _, 0, none, none, 0, 0, _, _, Nat.zero_le _, rfl, Own.nilG elemG_rE, Own.nilG elemG_ints, fun q q' e => by cases e⟩, ?_⟩
  rintro z w4 ⟨m4, hbase, i, a', b', c', d', y1, y2, hil, rfl, ho1, ho2, hdj⟩
  refine ⟨_, rfl, cond_of (fun h3 => ?_) (fun h3 => ?_)⟩
  · have h3 := of_decide_eq_true h3
    have hix : i < l.length := by omega
    have he : l[i]? = some l[i] := List.getElem?_eq_getElem hix
    generalize l[i] = e at he
    have hone := RightTo.one hR hix he
    obtain ⟨qt, hqt, hqk, hqi, hqs, hti, hdl⟩ := hone.thing he
    have hbi := bel_inv hR x i (by omega)
    have hsl := bel_src_len l x i
    have hol : (bel l x i).out.length = (bel l x i).src.length := hbi.len
    obtain ⟨g, o, rfl, ix, lq, la⟩ := RE.at (hP.nos m4) he
    have ix := ix l.length c hix
    have r4 := Mod.refl No w4
    have hsp := sB_size e.path
    have hbe := hbd e (List.mem_of_getElem? he)
    refine Share.cut (fun z w19 => Mod No w w19 ∧ w3.heap.size ≤ w19.heap.size ∧ ∃ (a' b' : Option Addr) (c' d' : Nat) (y1 y2 : Value), z = [.slice a' (bel l x (i + 1)).out.length c', .slice b' (bel l x (i + 1)).src.length d', y1, y2] ∧
      Own Tryd.prog w19 w3.heap.size 22 5 a' (bel l x (i + 1)).out.length c' ((bel l x (i + 1)).out.map rV).flatten ∧ Own Tryd.prog w19 w3.heap.size 81 1 b' (bel l x (i + 1)).src.length d' (nL ((bel l x (i + 1)).src.map (thingI l))) ∧
      ∀ q q', a' = some q → b' = some q' → q.block ≠ q'.block)
      ⟨_, ix, _, lq 0 9 (.string (sB e.path)) (by kernel_rfl) rfl _ r4, Share.cut (fun z w5 => w5 = w4 ∧ z = [.bool (restOf x e.path).isNone]) ?_ ?_⟩ ?_
    · rw [restOf_iff, beq_sB, hsx, hsp]
      refine cond_of (fun h4 => cond_of (fun h5 => ⟨_, to_run (by have := of_decide_eq_true h5; omega), ?_⟩) (fun h5 => ⟨rfl, ?_⟩)) (fun h4 => ⟨rfl, ?_⟩)
      · have h4 : e.path ≠ x := by simpa using h4
        have h5 := of_decide_eq_true h5
        have h5 : x.length < e.path.length := by omega
        rw [beq_sB]
        refine cond_of (fun h6 => ?_) (fun h6 => ⟨rfl, ?_⟩)
        · have hg : e.path[x.length]? = some e.path[x.length] := List.getElem?_eq_getElem h5
          refine ⟨_, ix_run hg, rfl, ?_⟩
          rw [beq_47, hg]
          have h6 := of_decide_eq_true h6
          simp [h4, h5, h6]
        · have h6 := of_decide_eq_false h6
          simp [h4, h5, h6]
      · have h4 : e.path ≠ x := by simpa using h4
        have h5 := of_decide_eq_false h5
        have h5 : ¬ x.length < e.path.length := by omega
        simp [h4, h5]
      · have h4 : e.path = x := by simpa using h4
        simp [h4]
    · rintro z w5 ⟨rfl, rfl⟩
      refine ⟨_, rfl, cond_of (fun h4 => ?_) (fun h4 => ?_)⟩
      · have h4 : restOf x e.path = none := Option.isNone_iff_eq_none.1 h4
        rw [bel_skip he h4]
        exact ⟨m4, hbase, a', b', c', d', _, _, rfl, ho1, ho2, hdj⟩
      · obtain ⟨r, hr⟩ : ∃ r, restOf x e.path = some r := Option.isSome_iff_exists.1 (by cases h5 : restOf x e.path with | none => rw [h5] at h4; cases h4 | some r => rfl)
        obtain ⟨hpath, _⟩ := restOf_some.1 hr
        have hdrop : e.path.drop x.length = r := by rw [hpath, List.drop_left]
        have hxle : x.length ≤ e.path.length := by rw [hpath]; simp
        have hstep := bel_step he hr hqt
        obtain ⟨a0, ha0⟩ : ∃ a0, a0 = atI (thingI l i) ((bel l x i).src.map (thingI l)) 0 := ⟨_, rfl⟩
        rw [← ha0] at hstep
        -- where a thing stands ahead, the entry has nothing of its own
        have hown : 0 ≤ a0 → e.data = [] ∧ e.link = [] := fun h5 => by
          refine hdl ?_
          have h6 : ¬ e.same < 0 := fun h7 => by
            have h8 := hti.2 h7
            rcases atI_cases (thingI l i) ((bel l x i).src.map (thingI l)) 0 with ⟨h9, _⟩ | ⟨j, _, h9, _⟩
            · omega
            · rw [List.getElem?_map] at h9
              cases hm : (bel l x i).src[j]? with
              | none => rw [hm] at h9; cases h9
              | some m =>
                rw [hm] at h9
                have h9 : thingI l m = thingI l i := by simpa using h9
                have hmi := (hbi.at_ j m hm).1
                have hml : l[m]? = some l[m] := List.getElem?_eq_getElem (by omega)
                obtain ⟨_, _, _, h10, _⟩ := (RightTo.one hR (by omega : m < l.length) hml).thing hml
                omega
          omega
        have ham : a0 = -1 ∨ 0 ≤ a0 := by
          rcases atI_cases (thingI l i) ((bel l x i).src.map (thingI l)) 0 with ⟨h9, _⟩ | ⟨j, h9, _⟩ <;> omega
        obtain ⟨zz, hzz⟩ : ∃ zz, zz = mkE e r qt a0 := ⟨_, rfl⟩
        rw [← hzz] at hstep
        let w7 := w5.alloc (.cells ⟨rV e⟩ 58)
        have m7 : Mod No w5 w7 := r4.alloc _
        have hs7 : w7.heap.size = w5.heap.size + 1 := World.size_alloc _ _
        have hst : RuU (Instr.storeAt 58 (.pointer (some ⟨w5.heap.size, 0, none⟩)) (.agg ⟨rV e⟩)) (w5.alloc (.cells ⟨zRE⟩ 58)) w7 := store_new (T := 58) (n := 5) agg_rE rfl rfl (one_rV e)
        have hat : AtU w7 w5.heap.size 0 (rV e) := AtU.new
        obtain ⟨w8, s1, s2, s3, _⟩ := hat.store (P := Tryd.prog) (T := 9) (i := 0) (v := .string (sB r)) (by kernel_rfl) (by simp [rV]) rfl
        rw [Nat.zero_add] at s1
        have l4 : Ru (Instr.loadAt 3 (.pointer (some (Addr.add ⟨w5.heap.size, 0, none⟩ 4)))) w8 (.int .i64 e.same) w8 := by rw [add_none]; exact s2.at.load (by kernel_rfl) rfl
        have ht : thingI l i = if 0 ≤ e.same then e.same.toNat else i := by unfold thingI; rw [he]
        have hfr := from_run (x := e.path) (i := x.length) hxle
        rw [hdrop] at hfr
        rw [hsx]
        have M8 : Mod No w5 w8 := m7.trans s3 fun y hy e2 => by omega
        obtain ⟨w11, t1, t2, t3, _⟩ := s2.store (P := Tryd.prog) (T := 3) (i := 4) (v := .int .i64 a0) (by kernel_rfl) (by simp [rV]) rfl
        rw [Nat.zero_add] at t1
        have M11 : Mod No w5 w11 := M8.trans t3 fun y hy e2 => by omega
        have hwl : ((bel l x i).src.map (thingI l)).length = (bel l x i).src.length := List.length_map _
        refine ⟨_, ix, _, la _ r4, _, _, alloc_rE w5, w7, hst, _, hfr, w8, by rw [add_none, Nat.zero_add]; exact s1, _, l4, Share.cut (fun z w9 => w9 = w8 ∧ z = [.int .i64 (thingI l i)]) (cond_of (fun h5 => ⟨_, l4, rfl, ?_⟩) (fun h5 => ⟨rfl, ?_⟩)) ?_⟩
        · have h5 := of_decide_eq_true h5
          rw [ht, if_pos h5, Int.toNat_of_nonneg h5]
        · have h5 := of_decide_eq_false h5
          rw [ht, if_neg h5]
        rintro z w9 ⟨rfl, rfl⟩
        have hat9 : ∀ (K : Value → World → Prop), K (.int .i64 (atI (thingI l i) ((bel l x i).src.map (thingI l)) 0)) w9 → Cal Tryd.prog F_leveeref34_at #[.slice b' (bel l x i).src.length d', .int .i64 (thingI l i)] w9 K := fun K hK => by
          have := rAt_c (k := thingI l i) (c := d') (ho2.rowU.row.nos M8) (by rw [hwl]; omega) hK
          rw [hwl] at this; exact this
        refine ⟨_, _, _, rfl, _, rfl, hat9 _ ?_⟩
        rw [← ha0]
        have l4' : Ru (Instr.loadAt 3 (.pointer (some (Addr.add ⟨w5.heap.size, 0, none⟩ 4)))) w11 (.int .i64 a0) w11 := by rw [add_none]; exact t2.at.load (by kernel_rfl) rfl
        refine ⟨_, rfl, w11, by rw [add_none, Nat.zero_add]; exact t1, _, l4', Share.cut (fun z w14 => z = [] ∧ Mod No w5 w14 ∧ At w14 w5.heap.size 0 (rV zz)) (cond_of (fun h5 => ?_) (fun h5 => ?_)) ?_⟩
        · have h5 := of_decide_eq_true h5
          have hze : zz = ⟨r, e.kind, qt.link, qt.data, -1⟩ := by rw [hzz]; unfold mkE; rw [if_pos h5]
          obtain ⟨g2, o2, hga, ix2, lq2, _⟩ := RE.at (hP.nos (m4.no M11)) hqt
          cases hga
          have ix2 := ix2 l.length c (by omega)
          obtain ⟨w12, u1, u2, u3, _⟩ := t2.store (P := Tryd.prog) (T := 9) (i := 3) (v := .string (sB qt.data)) (by kernel_rfl) (by simp [rV]) rfl
          rw [Nat.zero_add] at u1
          have M12 : Mod No w5 w12 := M11.trans u3 fun y hy e2 => by omega
          obtain ⟨g3, o3, hga, ix3, lq3, _⟩ := RE.at (hP.nos (m4.no M12)) hqt
          cases hga
          obtain ⟨w13, v1, v2, v3, _⟩ := u2.store (P := Tryd.prog) (T := 9) (i := 2) (v := .string (sB qt.link)) (by kernel_rfl) (by simp [rV]) rfl
          rw [Nat.zero_add] at v1
          refine ⟨_, ix2, _, lq2 3 9 (.string (sB qt.data)) (by kernel_rfl) rfl _ (Mod.refl _ _), w12, by rw [add_none, Nat.zero_add]; exact u1, _, ix2, _, lq3 2 9 (.string (sB qt.link)) (by kernel_rfl) rfl _ (Mod.refl _ _), w13, by rw [add_none, Nat.zero_add]; exact v1, rfl, M12.trans v3 fun y hy e2 => by omega, ?_⟩
          have h6 : a0 = -1 := by omega
          rw [hze]
          rw [h6] at v2
          exact v2.at
        · have h5 := of_decide_eq_false h5
          have hze : zz = ⟨r, e.kind, [], [], a0⟩ := by rw [hzz]; unfold mkE; rw [if_neg h5]
          obtain ⟨h6, h7⟩ := hown (by omega)
          refine ⟨rfl, M11, ?_⟩
          rw [hze]
          have h8 := t2.at
          have e9 : ((rV e).set 0 (.string (sB r))).set 4 (.int .i64 a0) = rV ⟨r, e.kind, [], [], a0⟩ := by
            show [Value.string (sB r), .int .i64 e.kind, .string (sB e.link), .string (sB e.data), .int .i64 a0] = _
            rw [h6, h7]; rfl
          rw [e9] at h8
          exact h8
        rintro z w14 ⟨rfl, M14, hat14⟩
        have hs14 := M14.size
        have m15 : Mod No w14 (w14.alloc (.cells ⟨[.int .i64 (thingI l i)]⟩ 3)) := (Mod.refl No w14).alloc _
        have hs15 : (w14.alloc (.cells ⟨[.int .i64 (thingI l i)]⟩ 3)).heap.size = w14.heap.size + 1 := World.size_alloc _ _
        have hb3 := m4.size
        have hb1 := m1.size
        obtain ⟨q2, d2, w16, p1, p2, p3, p4⟩ := (ho2.nos (M14.no m15)).appG (ty := 81) elemG_ints (by omega) (ad := ⟨w14.heap.size, 0, none⟩) (m := 1) (c2 := 1) (ys := [.int .i64 (thingI l i)]) (.inr ⟨_, _, rfl, AtU.new.at⟩) rfl (by omega) (by simp; rfl) (by omega) (by omega) (by omega)
        have hob2 : ∀ {y}, (∃ q', b' = some q' ∧ y = q'.block) → w3.heap.size ≤ y ∧ y < w5.heap.size := fun {y} ⟨q', e1, e2⟩ => by rw [e2]; exact ho2.base e1
        have hat16 : At w16 w5.heap.size 0 (rV zz) := (hat14.keep m15 id).keep p3 fun e2 => by have := (hob2 e2).2; omega
        have hs16 := p3.size
        have ho1' : Own Tryd.prog w16 w3.heap.size 22 5 a' (bel l x i).out.length c' ((bel l x i).out.map rV).flatten := (ho1.nos (M14.no m15)).keep p3 fun q hq ⟨q', e1, e2⟩ => hdj q q' hq e1 e2
        have m17 : Mod No w16 (w16.alloc (.cells ⟨rV zz⟩ 58)) := (Mod.refl No w16).alloc _
        have hs17 : (w16.alloc (.cells ⟨rV zz⟩ 58)).heap.size = w16.heap.size + 1 := World.size_alloc _ _
        obtain ⟨q1, c2, w18, v1, v2, v3, v4⟩ := (ho1'.nos m17).appG (ty := 22) elemG_rE (by omega) (ad := ⟨w16.heap.size, 0, none⟩) (m := 1) (c2 := 1) (ys := rV zz) (.inr ⟨_, _, rfl, AtU.new.at⟩) rfl (by omega) (one_rV zz) (by omega) (by omega) (by omega)
        have hob1 : ∀ {y}, (∃ q', a' = some q' ∧ y = q'.block) → w3.heap.size ≤ y ∧ y < w5.heap.size := fun {y} ⟨q', e1, e2⟩ => by rw [e2]; exact ho1.base e1
        have hq2 := p2.base rfl
        have hdis2 : ∀ q', a' = some q' → q'.block ≠ q2.block := fun q' hq' => by
          rcases p4 with ⟨q3, e1, e2⟩ | e1
          · rw [e2]; exact hdj q' q3 hq' e1
          · have := (hob1 ⟨q', hq', rfl⟩).2; omega
        refine ⟨_, _, _, _, builtI w14 _, _, _, _, w16, p1, _, _, _, rfl, _, hat16.loadAgg (P := Tryd.prog) (i := 0) agg_rE (by simp [rV]), _, _, _, _, built_rE w16 zz, _, _, _, w18, v1, ?_⟩
        refine ⟨((m4.no (M14.no m15)).trans p3 fun y hy e2 => by have := hob2 e2; omega).no m17 |>.trans v3 fun y hy e2 => by have := hob1 e2; omega, by have := v3.size; omega, some q1, some q2, c2, d2, .int .i64 (thingI l i), .bool (restOf x e.path).isNone, ?_, ?_, ?_, ?_⟩
        · rw [hstep, List.length_append, List.length_append, List.length_singleton, List.length_singleton]
        · rw [hstep, List.length_append, List.length_singleton, List.map_append, List.flatten_append]
          have : ([zz].map rV).flatten = rV zz := by simp
          rw [this]; exact v2
        · rw [hstep, List.length_append, List.length_singleton, List.map_append, List.map_cons, List.map_nil, nL_snoc]
          exact (p2.nos m17).keep v3 fun q hq ⟨q', e1, e2⟩ => by cases hq; exact hdis2 q' e1 e2.symm
        · intro q q' e1 e2
          cases e1; cases e2
          rcases v4 with ⟨q3, e1, e2⟩ | e1
          · rw [e2]; exact hdis2 q3 e1
          · omega
    · rintro z w19 ⟨m19, hs19, a2, b2, c2, d2, y3, y4, rfl, k1, k2, k3⟩
      rw [wrap64 (by omega) (by omega)]
      exact ⟨⟨m19, hs19, i + 1, a2, b2, c2, d2, _, _, by omega, rfl, k1, k2, k3⟩, by simp [nI, nth]; omega⟩
  · have h3 := of_decide_eq_false h3
    have hil2 : i = l.length := by omega
    subst hil2
    exact ⟨_, _, _, rfl, hok hR ⟨t, List.mem_of_getElem? htop, htx, htk⟩ w4 a' c' m4 ho1.rowU.row⟩
end
end Go.Proofs.YtiahkkekcmgkfaaDoor
end
section
/- Layer 34: is a name as a pattern says? -/
open Go Go.Den Go.Proofs
namespace Go.Proofs.YtiahkkekcmgkfaaDoor
theorem beq_u8 (c d : UInt8) : (((c.toNat : Int)) == (d.toNat : Int)) = decide (c = d) := by
  rw [Bool.eq_iff_iff, beq_iff_eq, decide_eq_true_eq]
  exact ⟨fun h => UInt8.toNat_inj.1 (by omega), fun h => by rw [h]⟩
theorem meas_lt {A B A' B' n : Nat} (hB : B' ≤ n) (h : (A' ≤ A ∧ B' < B) ∨ A' < A) : A' * (n + 2) + B' < A * (n + 2) + B := by
  rcases h with ⟨h1, h2⟩ | h1
  · have := Nat.mul_le_mul_right (n + 2) h1; omega
  · have := Nat.mul_le_mul_right (n + 2) (show A' + 1 ≤ A from h1)
    rw [Nat.add_mul] at this
    omega
theorem dw_nil {p : UInt8 → Bool} : ∀ {l : List UInt8}, l.dropWhile p = [] ↔ ∀ x ∈ l, p x = true
  | [] => by simp
  | a :: r => by
    rw [List.dropWhile_cons]
    cases h : p a with
    | true =>
      rw [if_pos rfl, dw_nil]
      constructor
      · intro h1 x hx
        rcases List.mem_cons.1 hx with rfl | hx
        · exact h
        · exact h1 x hx
      · exact fun h1 x hx => h1 x (List.mem_cons_of_mem _ hx)
    | false =>
      rw [if_neg (by simp)]
      constructor
      · intro e; cases e
      · intro h1
        have := h1 a List.mem_cons_self
        rw [h] at this; cases this
theorem trimB_nil {l : List UInt8} {c : UInt8} : Lib.trimB l c = [] ↔ ∀ x ∈ l, x = c := by
  unfold Lib.trimB Lib.trimLeftB Lib.trimRightB
  constructor
  · intro h
    have h1 : ∀ x ∈ (l.reverse.dropWhile (· == c)).reverse, x = c := fun x hx => by
      have := dw_nil.1 h x hx
      simpa using this
    cases hd : l.reverse.dropWhile (· == c) with
    | nil =>
      intro x hx
      have := dw_nil.1 hd x (List.mem_reverse.2 hx)
      simpa using this
    | cons d r =>
      exfalso
      have h2 := h1 d (by rw [hd]; simp)
      have h3 : ((l.reverse.dropWhile (· == c)).head (by rw [hd]; simp) == c) = false := List.head_dropWhile_not (· == c) (by rw [hd]; simp)
      have h4 : (l.reverse.dropWhile (· == c)).head (by rw [hd]; simp) = d := by simp [hd]
      rw [h4, h2] at h3
      simp at h3
  · intro h
    have : l.reverse.dropWhile (· == c) = [] := dw_nil.2 fun x hx => by simp [h x (List.mem_reverse.1 hx)]
    rw [this]; rfl
section
variable {w w' : World} {K : Value → World → Prop}
theorem match_c {s0 s1 : ByteArray} (h0 : s0.size ≤ 1000) (h1 : s1.size ≤ 4611686018427387904) (hk : ∀ w' b, Mod No w w' → (b = true ↔ Mt s0.data.toList s1.data.toList) → K (.bool b) w') : Cal Tryd.prog F_diff_match #[.string s0, .string s1] w K := by
  apply C_diff_match
  unfold D_diff_match
  have e0 : s0.size = s0.data.toList.length := rfl
  have e1 : s1.size = s1.data.toList.length := rfl
  rw [e0] at h0
  rw [e1] at h1
  have ix : ∀ {s : ByteArray} {i : Nat} {c : UInt8}, s.data.toList[i]? = some c → Al (Instr.index 9 (.string s) (.int .i64 i)) (.int .u8 (c.toNat : Int)) := fun {s i c} h w => by
    obtain ⟨hi, e⟩ := List.getElem?_eq_some_iff.1 h
    have hi2 : i < s.size := hi
    rw [run_index_string w _ s .i64 i (by kernel_rfl), dif_pos ⟨by omega, by omega⟩]
    have : s[(i : Int).toNat]'(by omega) = c := by rw [← e]; rfl
    rw [this]
  refine ⟨fun x w1 => ∃ (p k sr frm : Nat) (st : Bool) (y4 y5 : Value), x = [.int .i64 p, .int .i64 k, .int .i64 (if st = true then (sr : Int) else -1), .int .i64 frm, y4, y5] ∧ Gw s0.data.toList s1.data.toList p k sr frm st ∧ Mod No w w1,
    fun x _ => (s1.size + 1 - (if nI x 2 < 0 then 0 else (nI x 3).toNat + 1)) * (s0.size + 2) + (s0.size - (nI x 0).toNat), ⟨0, 0, 0, 0, false, _, _, rfl, Gw.start _ _ _ _, Mod.refl _ _⟩, ?_⟩
  rintro x w1 ⟨p, k, sr, frm, st, y4, y5, rfl, g, m1⟩
  have hp := g.hp
  have hkl := g.hk
  have ix0 : ∀ {i : Nat} {c : UInt8}, s0.data.toList[i]? = some c → Al (Instr.index 9 (.string s0) (.int .i64 i)) (.int .u8 (c.toNat : Int)) := ix
  have ix1 : ∀ {i : Nat} {c : UInt8}, s1.data.toList[i]? = some c → Al (Instr.index 9 (.string s1) (.int .i64 i)) (.int .u8 (c.toNat : Int)) := ix
  clear ix
  have hS : s1.size = s1.data.toList.length := e1
  have hP : s0.size = s0.data.toList.length := e0
  generalize hPd : s0.data.toList = P at *
  generalize s1.data.toList = S at *
  refine ⟨_, rfl, cond_of (fun hb => ?_) (fun hb => ?_)⟩
  · have hkk : k < S.length := by have := of_decide_eq_true hb; omega
    have hx : S[k]? = some S[k] := List.getElem?_eq_getElem hkk
    generalize S[k] = x at *
    refine Share.cut (fun z w2 => w1 = w2 ∧ z = [.bool (decide (P[p]? = some 42))]) ⟨_, rfl, cond_of (fun hb1 => ?_) (fun hb1 => ⟨rfl, ?_⟩)⟩ ?_
    · have hpp : p < P.length := by have := of_decide_eq_true hb1; omega
      refine ⟨_, ix0 (List.getElem?_eq_getElem hpp), rfl, ?_⟩
      rw [List.getElem?_eq_getElem hpp]
      have := beq_u8 P[p] 42
      refine congrArg (fun b => [Value.bool b]) ?_
      rw [show ((P[p].toNat : Int) == 42) = ((P[p].toNat : Int) == ((42 : UInt8).toNat : Int)) from rfl, this]
      simp
    · have hpp : ¬ p < P.length := by have := of_decide_eq_false hb1; omega
      rw [List.getElem?_eq_none (by omega)]; rfl
    rintro z w2 ⟨rfl, rfl⟩
    refine ⟨_, rfl, Share.dup (cond_of (fun hb1 => ?_) (fun hb1 => ?_))⟩
    · have hc : P[p]? = some 42 := of_decide_eq_true hb1
      have hpp := (List.getElem?_eq_some_iff.1 hc).1
      refine ⟨_, rfl, ?_⟩
      rw [wrap64 (x := (p : Int) + 1) (by omega) (by omega)]
      refine ⟨⟨p + 1, k, p, k, true, _, _, rfl, g.aStar hc, m1⟩, ?_⟩
      show (s1.size + 1 - (if ((p : Nat) : Int) < 0 then 0 else ((k : Nat) : Int).toNat + 1)) * (s0.size + 2) + (s0.size - (((p + 1 : Nat) : Int)).toNat) < (s1.size + 1 - (if (if st = true then (sr : Int) else -1) < 0 then 0 else ((frm : Nat) : Int).toNat + 1)) * (s0.size + 2) + (s0.size - ((p : Nat) : Int).toNat)
      refine meas_lt (by omega) (.inl ⟨?_, by omega⟩)
      rw [if_neg (by omega)]
      cases st with
      | false =>
        have e : (if (if false = true then (sr : Int) else -1) < 0 then 0 else ((frm : Nat) : Int).toNat + 1) = 0 := by simp
        rw [e]; omega
      | true =>
        obtain ⟨_, _, y3, _⟩ := g.yes rfl
        rw [if_pos rfl, if_neg (by omega)]; omega
    · have hnc : P[p]? ≠ some 42 := of_decide_eq_false hb1
      refine Share.cut (fun z w3 => Mod No w1 w3 ∧ z = [.bool (match P[p]? with | some c => decide (c = 63) || decide (c = x) | none => false)]) ⟨_, rfl, cond_of (fun hb2 => ?_) (fun hb2 => ⟨(Mod.refl No w1).drew, ?_⟩)⟩ ?_
      · have hpp : p < P.length := by have := of_decide_eq_true hb2; omega
        have hc : P[p]? = some P[p] := List.getElem?_eq_getElem hpp
        refine ⟨_, ix0 hc, cond_of (fun hb3 => ⟨(Mod.refl No w1).drew, ?_⟩) (fun hb3 => ⟨_, ix0 hc, _, ix1 hx, (Mod.refl No w1).drew, ?_⟩)⟩
        · rw [hc]
          have := beq_u8 P[p] 63
          have hb3 : ((P[p].toNat : Int) == ((63 : UInt8).toNat : Int)) = true := hb3
          rw [this] at hb3
          show _ = [Value.bool (decide (P[p] = 63) || decide (P[p] = x))]
          rw [hb3]; rfl
        · rw [hc]
          have := beq_u8 P[p] 63
          have hb3 : ((P[p].toNat : Int) == ((63 : UInt8).toNat : Int)) = false := hb3
          rw [this] at hb3
          show _ = [Value.bool (decide (P[p] = 63) || decide (P[p] = x))]
          rw [hb3, Bool.false_or, beq_u8]
      · have hpp : ¬ p < P.length := by have := of_decide_eq_false hb2; omega
        rw [List.getElem?_eq_none (by omega)]
      rintro z w3 ⟨m3, rfl⟩
      have M3 := m1.no m3
      refine ⟨_, rfl, Share.dup (cond_of (fun hb2 => ?_) (fun hb2 => ?_))⟩
      · cases hc : P[p]? with
        | none => rw [hc] at hb2; cases hb2
        | some c =>
          rw [hc] at hb2
          have ho : c = 63 ∨ c = x := by simpa using hb2
          have hpp := (List.getElem?_eq_some_iff.1 hc).1
          refine ⟨_, rfl, ?_⟩
          rw [wrap64 (x := (p : Int) + 1) (by omega) (by omega), wrap64 (x := (k : Int) + 1) (by omega) (by omega)]
          refine ⟨⟨p + 1, k + 1, sr, frm, st, _, _, rfl, g.byte hc hx (fun e => hnc (by rw [hc, e])) ho, M3⟩, ?_⟩
          show (s1.size + 1 - (if (if st = true then (sr : Int) else -1) < 0 then 0 else ((frm : Nat) : Int).toNat + 1)) * (s0.size + 2) + (s0.size - (((p + 1 : Nat) : Int)).toNat) < (s1.size + 1 - (if (if st = true then (sr : Int) else -1) < 0 then 0 else ((frm : Nat) : Int).toNat + 1)) * (s0.size + 2) + (s0.size - ((p : Nat) : Int).toNat)
          exact meas_lt (by omega) (.inl ⟨Nat.le_refl _, by omega⟩)
      · have hno : ∀ c, P[p]? = some c → c ≠ 42 ∧ ¬ (c = 63 ∨ c = x) := fun c hc => ⟨fun e => hnc (by rw [hc, e]), fun e => by
          rw [hc] at hb2
          have hb2 : (decide (c = 63) || decide (c = x)) = false := hb2
          have : (decide (c = 63) || decide (c = x)) = true := by simpa using e
          rw [this] at hb2; cases hb2⟩
        cases st with
        | false =>
          refine ⟨_, rfl, ff rfl (hk _ false M3 ⟨fun e => (by cases e), fun e => absurd e (g.fail hx hno)⟩)⟩
        | true =>
          obtain ⟨y1, y2, y3, _⟩ := g.yes rfl
          refine ⟨_, rfl, tt (decide_eq_true (by simp)) ⟨_, rfl, ?_⟩⟩
          rw [if_pos rfl, wrap64 (x := (sr : Int) + 1) (by omega) (by omega), wrap64 (x := (frm : Int) + 1) (by omega) (by omega)]
          refine ⟨⟨sr + 1, frm + 1, sr, frm + 1, true, _, _, rfl, g.back hx hno, M3⟩, ?_⟩
          show (s1.size + 1 - (if ((sr : Nat) : Int) < 0 then 0 else (((frm + 1 : Nat) : Int)).toNat + 1)) * (s0.size + 2) + (s0.size - (((sr + 1 : Nat) : Int)).toNat) < (s1.size + 1 - (if ((sr : Nat) : Int) < 0 then 0 else ((frm : Nat) : Int).toNat + 1)) * (s0.size + 2) + (s0.size - ((p : Nat) : Int).toNat)
          refine meas_lt (by omega) (.inr ?_)
          rw [if_neg (by omega), if_neg (by omega)]
          omega
  · have hkk : k = S.length := by have := of_decide_eq_false hb; omega
    have hd := g.done hkk
    have hext : (s0.extract p s0.size).data.toList = P.drop p := by
      rw [ByteArray.data_extract, Array.toList_extract, hPd, hP, List.extract_eq_take_drop]
      rw [List.take_of_length_le (by rw [List.length_drop]; omega)]
    have hsz : (s0.extract p s0.size).size ≤ 9223372036854775807 := by
      have e : (s0.extract p s0.size).size = (s0.extract p s0.size).data.toList.length := rfl
      rw [e, hext, List.length_drop]; omega
    refine ⟨_, rfl, s0.extract p s0.size, fun w => ?_, ⟨⟨_, Tryd.func56, by kernel_rfl, by kernel_rfl⟩, (Tryd.strings_Trim_one _ 42 (by decide) w1 hsz).mono fun e w' he => ?_⟩⟩
    · rw [run_sliceAt_string (h := by kernel_rfl), run_slice_string_from_if w _ s0 .i64 p (by kernel_rfl), if_pos ⟨by omega, by omega⟩]
      rfl
    · obtain ⟨rfl, hw⟩ := he
      refine ⟨_, rfl, ?_⟩
      have m2 : Mod No w w' := by
        rcases hw with rfl | rfl
        · exact m1
        · exact m1.drew
      refine hk w' _ m2 ?_
      rw [hext, hd, ← trimB_nil]
      have e0 : (ByteArray.mk (Lib.trimB (P.drop p) 42).toArray).toList = Lib.trimB (P.drop p) 42 := by rw [ByteArray.toList_eq]
      have e1 : ByteArray.empty.toList = [] := by rw [ByteArray.toList_eq]; rfl
      rw [e0, e1, beq_iff_eq]
end
end Go.Proofs.YtiahkkekcmgkfaaDoor
end
section
/- Layer 34: the paths whose last names are as a pattern says. -/
open Go Go.Den Go.Proofs
namespace Go.Den
/-- A path's last name. -/
def lastN (s : Bs) : Bs := (s.reverse.takeWhile fun c => decide (c ≠ 47)).reverse
theorem takeWhile_all {p : UInt8 → Bool} : ∀ {l r : Bs} {c : UInt8}, (∀ x ∈ l, p x = true) → p c = false → (l ++ c :: r).takeWhile p = l
  | [], r, c, _, hc => by rw [List.nil_append, List.takeWhile_cons, hc]; rfl
  | a :: l, r, c, h, hc => by
    rw [List.cons_append, List.takeWhile_cons, h a (by simp), if_pos rfl, takeWhile_all (fun x hx => h x (List.mem_cons_of_mem _ hx)) hc]
theorem Cut.last {s d n : Bs} (h : Cut s d n) : lastN s = n := by
  unfold lastN
  rw [h.1, List.reverse_append, List.reverse_cons, List.append_assoc]
  have : ([47] ++ d.reverse : Bs) = 47 :: d.reverse := rfl
  rw [this, takeWhile_all (fun x hx => ?_) (by simp), List.reverse_reverse]
  have hx : x ∈ n := List.mem_reverse.1 hx
  exact decide_eq_true fun e => h.2 (by rw [← e]; exact hx)
noncomputable def hitB (pat : Bs) (e : Tn) : Bool := @decide (Mt pat (lastN e.path)) (Classical.propDecidable _)
theorem hitB_iff {pat : Bs} {e : Tn} : hitB pat e = true ↔ Mt pat (lastN e.path) := by unfold hitB; exact @decide_eq_true_iff _ (Classical.propDecidable _)
/-- The paths, among the first entries. -/
noncomputable def fnd (pat : Bs) (l : List Tn) (n : Nat) : List Bs := (((l.take n).drop 1).filter (hitB pat)).map (·.path)
theorem fnd_one (pat : Bs) (l : List Tn) : fnd pat l 1 = [] := by
  unfold fnd
  have : (l.take 1).drop 1 = [] := List.drop_eq_nil_of_le (by rw [List.length_take]; omega)
  rw [this]; rfl
theorem fnd_succ {pat : Bs} {l : List Tn} {n : Nat} {e : Tn} (h : l[n]? = some e) (hn : 1 ≤ n) : fnd pat l (n + 1) = fnd pat l n ++ (if hitB pat e = true then [e.path] else []) := by
  obtain ⟨hi, he⟩ := List.getElem?_eq_some_iff.1 h
  unfold fnd
  have e1 : (l.take (n + 1)).drop 1 = (l.take n).drop 1 ++ [e] := by
    rw [List.take_succ_eq_append_getElem hi, he, List.drop_append, List.length_take, show 1 - min n l.length = 0 by omega]; rfl
  rw [e1, List.filter_append, List.map_append]
  congr 1
  cases hb : hitB pat e <;> simp [hb]
theorem fnd_len (pat : Bs) (l : List Tn) (n : Nat) : (fnd pat l n).length ≤ n := by
  unfold fnd
  rw [List.length_map]
  refine Nat.le_trans (List.length_filter_le _ _) ?_
  rw [List.length_drop, List.length_take]; omega
theorem LastAt.cut {x d n : Bs} {k : Int} (h : LastAt x 47 k) (hc : Cut x d n) : ∃ i : Nat, k = i ∧ i + 1 ≤ x.length ∧ x.drop (i + 1) = n := by
  rcases h with ⟨_, h⟩ | ⟨i, rfl, h1, h2⟩
  · exact absurd (by rw [hc.1]; simp) h
  · have h3 := cut_at h1 h2
    have := (List.getElem?_eq_some_iff.1 h1).1
    exact ⟨i, rfl, by omega, (h3.inj hc).2⟩
theorem RightL.cut {l : List Tn} (h : RightL l) {i : Nat} {e : Tn} (h1 : 1 ≤ i) (he : l[i]? = some e) : ∃ d n, Cut e.path d n ∧ n.length ≤ 24 := by
  obtain ⟨p, e', _, he', ⟨d, n, hc, _, hn⟩, _⟩ := h.2 i h1 (List.getElem?_eq_some_iff.1 he).1
  rw [he] at he'; cases he'
  exact ⟨d, n, hc, (nameB_len hn).2⟩
end Go.Den
namespace Go.Proofs.YtiahkkekcmgkfaaDoor
section
variable {w : World} {K : Value → World → Prop}
theorem Find_c {a : Option Addr} {l : List Tn} {x : Bs} {c : Nat} (hP : PE w a l) (hbd : BdE l) (hn : l.length ≤ 1000) (hc : l.length ≤ c) (hg : Gl w)
    (hbad : ¬ RightL l → ∀ w', Mod No w w' → K (.tuple #[.slice none 0 0, .int .i64 1]) w')
    (hnone : RightL l → ¬ (1 ≤ x.length ∧ x.length ≤ 40) → ∀ w', Mod No w w' → K (.tuple #[.slice none 0 0, .int .i64 25]) w')
    (hok : RightL l → 1 ≤ x.length → x.length ≤ 40 → ∀ w' a' c', Mod No w w' → Row w' a' (sL (fnd x l l.length)) → K (.tuple #[.slice a' (fnd x l l.length).length c', .int .i64 0]) w') :
    Cal Tryd.prog F_diff_Find #[.slice a l.length c, .string (sB x)] w K := by
  apply C_diff_Find
  unfold D_diff_Find
  have hsx := sB_size x
  refine dRight_c hP hbd hn hc hg fun w1 b m1 hb => ⟨_, rfl, cond_of (fun h => ?_) (fun h => ?_)⟩
  · have h : b = false := by simpa using h
    refine hbad (fun hr => ?_) _ m1
    have := hb.2 hr; rw [h] at this; cases this
  have h : b = true := by simpa using h
  have hR := hb.1 h
  refine Share.cut (fun z w2 => w2 = w1 ∧ z = [.bool (decide (¬ (1 ≤ x.length ∧ x.length ≤ 40)))]) ?_ ?_
  · rw [beq_empty, hsx]
    refine cond_of (fun h2 => ⟨rfl, ?_⟩) (fun h2 => ⟨rfl, ?_⟩)
    · have := of_decide_eq_true h2; subst this; simp
    · have := of_decide_eq_false h2
      have : 1 ≤ x.length := by cases x with | nil => exact absurd rfl this | cons a r => simp
      congr 2
      rw [Bool.eq_iff_iff, decide_eq_true_eq, decide_eq_true_eq]; omega
  rintro z w2 ⟨rfl, rfl⟩
  refine ⟨_, rfl, cond_of (fun h2 => ?_) (fun h2 => ?_)⟩
  · exact hnone hR (of_decide_eq_true h2) _ m1
  have hx := Classical.not_not.1 (of_decide_eq_false h2)
  have hlpos : 0 < l.length := by
    obtain ⟨e, he, _⟩ := hR.1
    exact (List.getElem?_eq_some_iff.1 he).1
  have hsl := fun w => slice_l (P := Tryd.prog) (T := 28) (k := 5) (n := l.length) (c := c) (a := a) (k1 := .i64) (l := (1 : Int)) (by kernel_rfl) (by omega) (by omega) w
  have e1 : (1 : Int).toNat = 1 := rfl
  rw [e1] at hsl
  refine ⟨_, _, _, hsl, ?_⟩
  refine ⟨fun z w3 => Mod No w w3 ∧ ∃ (n : Nat) (a' : Option Addr) (c' : Nat), n + 1 ≤ l.length ∧ z = [.slice a' (fnd x l (n + 1)).length c', .int .i64 n] ∧ Own Tryd.prog w3 w2.heap.size 52 1 a' (fnd x l (n + 1)).length c' (sL (fnd x l (n + 1))) ∧ w2.heap.size ≤ w3.heap.size, fun z _ => (l.length - nI z 1).toNat,
    ⟨m1, 0, none, 0, hlpos, by rw [fnd_one]; rfl, by rw [fnd_one]; exact Own.nil elemZ_strings, Nat.le_refl _⟩, ?_⟩
  rintro z w3 ⟨m3, n, a', c', hnl, rfl, how, hbase⟩
  refine ⟨_, rfl, cond_of (fun h3 => ?_) (fun h3 => ?_)⟩
  · have h3 := of_decide_eq_true h3
    have hnx : n + 1 < l.length := by omega
    have he : l[n + 1]? = some l[n + 1] := List.getElem?_eq_getElem hnx
    generalize l[n + 1] = e at he
    obtain ⟨d, nm, hcut, hnm⟩ := hR.cut (by omega) he
    have hfs := fnd_succ (pat := x) he (by omega)
    have hfl := fnd_len x l (n + 1)
    have hhit := hitB_iff (pat := x) (e := e)
    rw [hcut.last] at hhit
    obtain ⟨g, o, hd, rfl, ix, lq, la, _⟩ := PE.at (hP.nos m3) he
    have ix3 : Al (Instr.indexAt 28 (.slice (cutA (some ⟨g, o, none⟩) c 1 5) (l.length - 1) (c - 1)) (.int .i64 n)) (.pointer (some ⟨g, o + (n + 1) * 5, none⟩)) := fun w => by
      have hcut2 : cutA (some ⟨g, o, none⟩) c 1 5 = some ⟨g, o + 5, none⟩ := by
        unfold cutA
        rw [if_neg (by omega)]
        simp [add_none]
      rw [hcut2, index_slice (k := 5) (by kernel_rfl) (by omega) (by omega) w, add_none, Int.toNat_natCast, show o + 5 + n * 5 = o + (n + 1) * 5 by omega]
    obtain ⟨w4, w5, c1, c2, hat, m5⟩ := copy_pE (w := w3) (z := (e, hd)) (T := 64) rfl
    have ld : ∀ w', Mod No w5 w' → Ru (Instr.loadAt 9 (.pointer (some (Addr.add ⟨w3.heap.size, 0, none⟩ 0)))) w' (.string (sB e.path)) w' := fun w' m => by
      rw [add_none]; exact (hat.keep m id).load (by kernel_rfl) rfl
    have rd := (Mod.refl No w5).drew
    have hep := hbd e (List.mem_of_getElem? he)
    refine ⟨_, ix3, _, la _ (Mod.refl _ _), _, w4, c1, w5, c2, _, ld _ rd, _, ld _ rd, LastIndexByte_c (c := 47) (by omega) fun k hk => ?_⟩
    obtain ⟨i, rfl, hi1, hi2⟩ := hk.cut hcut
    have hfr := from_run (x := e.path) (i := i + 1) hi1
    rw [hi2] at hfr
    have eI : IntKind.i64.wrap ((i : Int) + 1) = ((i + 1 : Nat) : Int) := by rw [wrap64 (by omega) (by omega)]; omega
    refine ⟨_, rfl, ld _ rd, ?_⟩
    rw [eI]
    refine ⟨_, hfr, match_c (by rw [hsx]; omega) (by rw [sB_size]; omega) fun w7 b7 m7 hb7 => ⟨_, rfl, ?_⟩⟩
    have M7 : Mod No w3 w7 := m5.no (rd.no m7)
    have hb7 : b7 = hitB x e := by
      rw [Bool.eq_iff_iff, hb7, hhit]; rfl
    subst hb7
    rw [wrap64 (x := (n : Int) + 1) (by omega) (by omega)]
    refine Share.cut (fun z w10 => Mod No w w10 ∧ w2.heap.size ≤ w10.heap.size ∧ ∃ (a' : Option Addr) (c' : Nat), z = [.slice a' (fnd x l (n + 1 + 1)).length c'] ∧ Own Tryd.prog w10 w2.heap.size 52 1 a' (fnd x l (n + 1 + 1)).length c' (sL (fnd x l (n + 1 + 1)))) (cond_of (fun h4 => ?_) (fun h4 => ?_)) ?_
    · rw [h4, if_pos rfl] at hfs
      have hs7 := M7.size
      obtain ⟨a1, l1, c1, w8, p1, a2, c2, w9, p2, p3, p4⟩ := snocS e.path (how.nos M7) (by omega) (by omega)
      refine ⟨_, _, _, rfl, _, ld _ (rd.no m7), a1, l1, c1, w8, p1, a2, _, c2, w9, p2, (m3.no M7).trans p4 fun y hy e2 => by have := m1.size; omega, by have := p4.size; omega, a2, c2, ?_, ?_⟩
      · rw [hfs, List.length_append, List.length_singleton]
      · rw [hfs, List.length_append, List.length_singleton]; exact p3
    · rw [h4, if_neg (by simp), List.append_nil] at hfs
      rw [hfs]
      exact ⟨m3.no M7, by have := M7.size; omega, a', c', rfl, how.nos M7⟩
    rintro z w10 ⟨m10, hs10, a2, c2, rfl, how2⟩
    exact ⟨⟨m10, n + 1, a2, c2, by omega, rfl, how2, hs10⟩, by simp [nI, nth]; omega⟩
  · have h3 := of_decide_eq_false h3
    have hnl2 : n + 1 = l.length := by omega
    rw [hnl2] at how ⊢
    exact ⟨_, _, _, rfl, hok hR hx.1 hx.2 w3 a' c' m3 how.rowU.row⟩
end
end Go.Proofs.YtiahkkekcmgkfaaDoor
end
section
/- Layer 34: the fixed calls. -/
open Go Go.Den Go.Proofs
namespace Go.Den
/-- A tree of a directory, with a file of a name. -/
def oneT (x : Bs) : List Tn := [⟨[], 2, [], [], -1⟩, ⟨[47, 97], 2, [], [], -1⟩, ⟨[47, 97, 47] ++ x, 1, [], [104, 105], -1⟩]
theorem ord_nil_lt {b : Bs} (hb : Rooted b) (h : b ≠ []) : ordP [] b < 0 := by
  have h1 := ord_nil hb
  have h2 : ordP [] b ≠ 0 := fun e => h (ord_zero.1 e).symm
  omega
theorem ord_more {x r : Bs} (hr : Rooted r) (h : r ≠ []) : ordP x (x ++ r) < 0 := by
  have := ord_app (x := x) (a := []) (.inl rfl) hr
  rw [List.append_nil] at this
  rw [this]; exact ord_nil_lt hr h
theorem oneT_right {x : Bs} (hx : nameB x = true) : RightL (oneT x) := by
  have hno : (47 : UInt8) ∉ x := fun h => by
    unfold nameB at hx
    simp only [Bool.and_eq_true] at hx
    have := (List.all_eq_true.1 hx.1.2) 47 h
    simp at this
  refine ⟨⟨_, rfl, rfl, rfl, rfl, rfl, rfl⟩, fun j h1 hj => ?_⟩
  have hj : j < 3 := hj
  rcases (by omega : j = 1 ∨ j = 2) with rfl | rfl
  · refine ⟨_, _, rfl, rfl, ⟨[], [97], ⟨rfl, by decide⟩, ⟨0, _, by omega, rfl, rfl, rfl⟩, by decide⟩, ord_nil_lt (.inr ⟨_, rfl⟩) (by simp), ?_⟩
    exact ⟨by decide, by decide, by decide, fun _ => rfl, fun _ => rfl, .inl ⟨rfl, fun h => absurd h (by decide)⟩⟩
  · refine ⟨_, _, rfl, rfl, ⟨[47, 97], x, ⟨rfl, hno⟩, ⟨1, _, by omega, rfl, rfl, rfl⟩, hx⟩, ?_, ?_⟩
    · exact ord_more (x := [47, 97]) (r := 47 :: x) (.inr ⟨_, rfl⟩) (by simp)
    · exact ⟨by show (1 : Int) ≤ 1; omega, by show (1 : Int) ≤ 3; omega, by show 2 ≤ 65536; omega, fun h => absurd rfl h, fun _ => rfl, .inl ⟨rfl, fun h => absurd h (by show ¬ (1 : Int) = 3; omega)⟩⟩
theorem oneT_bd {x : Bs} (hx : x.length ≤ 100) : BdE (oneT x) := by
  intro e he
  simp [oneT] at he
  rcases he with rfl | rfl | rfl
  · simp
  · simp
  · simp; omega
theorem right_bd {l : List Tn} (h : RightL l) (hn : l.length ≤ 1000) : BdE l := by
  intro e he
  obtain ⟨k, hk⟩ := List.mem_iff_getElem?.1 he
  have hkl := (List.getElem?_eq_some_iff.1 hk).1
  have h1 := (RightTo.path h hkl hk).2
  obtain ⟨_, _, h2, _, h3, h4⟩ := RightTo.one h hkl hk
  refine ⟨by omega, ?_, by omega⟩
  by_cases h5 : e.kind = 3
  · rcases h4 with ⟨_, h6⟩ | ⟨_, _, _, _, h6, _⟩
    · have := h6 h5
      unfold tOk at this
      simp only [Bool.and_eq_true, decide_eq_true_eq] at this
      omega
    · rw [h6]; simp
  · rw [h3 h5]; simp
theorem known_all {out : List Chg} (h : AllE (oneT [102]) (oneT [103]) out) : out = [(1, [47, 97, 47, 102]), (2, [47, 97, 47, 103])] := by
  have hA : AscP ((oneT [102]).map (·.path)) := (oneT_right (x := [102]) (by decide)).ascP
  have hB : AscP ((oneT [103]).map (·.path)) := (oneT_right (x := [103]) (by decide)).ascP
  have s0 := Mg.start ((oneT [102]).map (·.path)) ((oneT [103]).map (·.path)) (alE (oneT [102]) (oneT [103]))
  have s1 := s0.both hA hB (x := []) rfl rfl
  have e1 : alE (oneT [102]) (oneT [103]) 0 0 = true := by decide
  rw [if_pos e1] at s1
  have s2 := s1.both hA hB (x := [47, 97]) rfl rfl
  have e2 : alE (oneT [102]) (oneT [103]) 1 1 = true := by decide
  rw [if_pos e2] at s2
  have s3 := s2.gone hA hB (x := [47, 97, 47, 102]) rfl (fun y hy => by
    have hy : y = [47, 97, 47, 103] := by
      have : some [47, 97, 47, 103] = some y := hy
      exact (Option.some.inj this).symm
    subst hy; decide)
  have s4 := s3.new hA hB (y := [47, 97, 47, 103]) rfl (fun y hy => by
    have hy : none = some y := hy
    cases hy)
  have s5 : All ((oneT [102]).map (·.path)) ((oneT [103]).map (·.path)) (alE (oneT [102]) (oneT [103])) _ := Mg.all s4
  exact All.eq h s5
theorem known_fnd : fnd [102, 42] (oneT [102]) 3 = [[47, 97, 47, 102]] := by
  have h1 : hitB [102, 42] ⟨[47, 97], 2, [], [], -1⟩ = false := by
    rw [Bool.eq_false_iff]
    intro h
    rw [hitB_iff] at h
    have : lastN [47, 97] = [97] := rfl
    rw [this, Mt.one (by decide)] at h
    rcases h.1 with h | h
    · cases h
    · cases h
  have h2 : hitB [102, 42] ⟨[47, 97, 47] ++ [102], 1, [], [104, 105], -1⟩ = true := by
    rw [hitB_iff]
    have : lastN ([47, 97, 47] ++ [102]) = [102] := rfl
    rw [this, Mt.one (by decide)]
    exact ⟨.inr rfl, Mt.stars.2 (by simp)⟩
  rw [fnd_succ (n := 2) (e := ⟨[47, 97, 47] ++ [102], 1, [], [104, 105], -1⟩) rfl (by omega), fnd_succ (n := 1) (e := ⟨[47, 97], 2, [], [], -1⟩) rfl (by omega), fnd_one, h1, h2]
  rfl
end Go.Den
namespace Go.Proofs.YtiahkkekcmgkfaaDoor
theorem build_k0 : Al (Instr.build 64 #[(1, .int .i64 2), (4, .int .i64 (-1))]) (.agg ⟨pV (⟨[], 2, [], [], -1⟩, (none, 0))⟩) := fun w => by kernel_rfl
theorem build_k1 : Al (Instr.build 64 #[(0, .string (⟨#[47, 97]⟩)), (1, .int .i64 2), (4, .int .i64 (-1))]) (.agg ⟨pV (⟨[47, 97], 2, [], [], -1⟩, (none, 0))⟩) := fun w => by kernel_rfl
theorem build_k2 (s : ByteArray) (a : Option Addr) (l c : Nat) : Al (Instr.build 64 #[(0, .string s), (1, .int .i64 1), (3, .slice a l c), (4, .int .i64 (-1))]) (.agg ⟨[.string s, .int .i64 1, .string ByteArray.empty, .slice a l c, .int .i64 (-1)]⟩) := fun w => by kernel_rfl
theorem built_hi (w : World) : (Instr.buildSlice 62 2 #[(0, .int .u8 104), (1, .int .u8 105)]).run Tryd.prog w = .ok (.slice (some ⟨w.heap.size, 0, none⟩) 2 2) (w.alloc (.cells ⟨u8L [104, 105]⟩ 5)) := by kernel_rfl
theorem conv_hi (w : World) : (convert 62 62 (.slice (some ⟨w.heap.size, 0, none⟩) 2 2)).run Tryd.prog (w.alloc (.cells ⟨u8L [104, 105]⟩ 5)) =
    .ok (.slice (some ⟨w.heap.size, 0, none⟩) 2 2) (w.alloc (.cells ⟨u8L [104, 105]⟩ 5 (2, 3))) :=
  Go.Lib.run_convert_bytes_const (P := Tryd.prog) w 62 5 ⟨u8L [104, 105]⟩ 2 2 (by kernel_rfl) (by kernel_rfl)
theorem built_3 (w : World) (x y z : Tn × Option Addr × Nat) : (Instr.buildSlice 28 3 #[(0, .agg ⟨pV x⟩), (1, .agg ⟨pV y⟩), (2, .agg ⟨pV z⟩)]).run Tryd.prog w = .ok (.slice (some ⟨w.heap.size, 0, none⟩) 3 3) (w.alloc (.cells ⟨([x, y, z].map pV).flatten⟩ 64)) := by kernel_rfl
section
variable {w : World} {K : Value → World → Prop}
theorem one_c {x : Bs} (hx : x.length ≤ 100) (hk : ∀ w' a, Mod No w w' → PE w' a (oneT x) → K (.slice a (oneT x).length 3) w') : Cal Tryd.prog F_leveelaw34_one #[.string (sB x)] w K := by
  apply C_leveelaw34_one
  unfold D_leveelaw34_one
  let w1 := w.alloc (.cells ⟨u8L [104, 105]⟩ 5)
  let w2 := w.alloc (.cells ⟨u8L [104, 105]⟩ 5 (2, 3))
  have m2 : Mod No w w2 := (Mod.refl No w).alloc _
  have r2 : At w2 w.heap.size 0 (u8L [104, 105]) := ⟨_, _, _, heap_new w _, by simp [u8L], by simp [u8L, u8]⟩
  have hadd := add_run (x := [47, 97, 47]) (y := x) (a := .const (.string (⟨#[47, 97, 47]⟩))) (b := .tmp 5) (by simp; omega)
  let z2 : Tn × Option Addr × Nat := (⟨[47, 97, 47] ++ x, 1, [], [104, 105], -1⟩, (some ⟨w.heap.size, 0, none⟩, 2))
  let w3 := w2.alloc (.cells ⟨([(⟨[], 2, [], [], -1⟩, (none, 0)), (⟨[47, 97], 2, [], [], -1⟩, (none, 0)), z2].map pV).flatten⟩ 64)
  have m3 : Mod No w2 w3 := (Mod.refl No w2).alloc _
  refine ⟨_, build_k0, _, build_k1, _, hadd, _, _, _, w1, built_hi w, _, _, _, w2, conv_hi w, _, build_k2 _ _ _ _, _, _, _, w3, built_3 w2 (⟨[], 2, [], [], -1⟩, (none, 0)) (⟨[47, 97], 2, [], [], -1⟩, (none, 0)) z2, hk w3 _ (m2.no m3) ?_⟩
  refine ⟨[(⟨[], 2, [], [], -1⟩, (none, 0)), (⟨[47, 97], 2, [], [], -1⟩, (none, 0)), z2], rfl, .inr ⟨_, _, rfl, AtU.new.at⟩, fun z hz => ?_⟩
  simp only [List.mem_cons, List.mem_nil_iff, or_false] at hz
  rcases hz with rfl | rfl | rfl
  · exact ⟨.inl rfl, fun _ => ⟨rfl, rfl⟩⟩
  · exact ⟨.inl rfl, fun _ => ⟨rfl, rfl⟩⟩
  · exact ⟨.inr ⟨_, _, rfl, r2.keep m3 id⟩, fun h => by cases h⟩
set_option maxRecDepth 100000 in
theorem known_c (hg : Gl w) (hk : ∀ w', Mod No w w' → K (.bool true) w') : Cal Tryd.prog F_leveelaw34_known #[] w K := by
  apply C_leveelaw34_known
  unfold D_leveelaw34_known
  have rf := oneT_right (x := [102]) (by decide)
  have rg := oneT_right (x := [103]) (by decide)
  have bf := oneT_bd (x := [102]) (by decide)
  have bg := oneT_bd (x := [103]) (by decide)
  refine one_c (x := [102]) (by decide) fun w1 a1 m1 p1 => ⟨_, _, _, rfl, one_c (x := [103]) (by decide) fun w2 a2 m2 p2 => ⟨_, _, _, rfl, Trees_c (p1.nos m2) p2 bf bg (by decide) (by decide) (by decide) (by decide) ((hg.nos m1).nos m2) (fun h => absurd ⟨rf, rg⟩ h) fun _ _ w3 x3 c3 out m3 hall hce _ => ⟨_, _, _, _, rfl, ?_⟩⟩⟩
  have ho := known_all hall
  subst ho
  have M3 := (m1.no m2).no m3
  refine one_c (x := [102]) (by decide) fun w4 a4 m4 p4 => ⟨_, _, _, rfl, Sum_c p4 bf (by decide) (by decide) ((hg.nos M3).nos m4) (fun h => absurd rf h) fun _ w5 m5 => ⟨_, _, rfl, ?_⟩⟩
  have M5 := (M3.no m4).no m5
  let w6 := w5.alloc (.cells ⟨TotV tot0 0⟩ 39)
  let w7 := w5.alloc (.cells ⟨TotV (tot (oneT [102])) (((oneT [102]).length : Int) - 1)⟩ 39)
  have hst : RuU (Instr.storeAt 39 (.pointer (some ⟨w5.heap.size, 0, none⟩)) (.agg ⟨TotV (tot (oneT [102])) (((oneT [102]).length : Int) - 1)⟩)) w6 w7 := store_new (T := 39) (n := 5) agg_pT rfl rfl (one_TotV _ _)
  have m7 : Mod No w5 w7 := (Mod.refl No w5).alloc _
  have ht7 : At w7 w5.heap.size 0 (TotV (tot (oneT [102])) (((oneT [102]).length : Int) - 1)) := AtU.new.at
  have M7 := M5.no m7
  refine ⟨_, w6, alloc_pT w5, w7, hst, one_c (x := [102]) (by decide) fun w8 a8 m8 p8 => ⟨_, _, _, rfl, Below_c (x := [47, 97]) p8 bf (by decide) (by decide) ((hg.nos M7).nos m8) (fun h => absurd rf h) (fun _ h => absurd ⟨⟨[47, 97], 2, [], [], -1⟩, by simp [oneT], rfl, rfl⟩ h) fun _ _ w9 a9 c9 m9 p9 _ => ⟨_, _, _, _, rfl, ?_⟩⟩⟩
  have hbel : (bel (oneT [102]) [47, 97] (oneT [102]).length).out = [⟨[], 2, [], [], -1⟩, ⟨[47, 102], 1, [], [104, 105], -1⟩] := by rfl
  rw [hbel] at p9 ⊢
  have M9 := (M7.no m8).no m9
  refine one_c (x := [102]) (by decide) fun w10 a10 m10 p10 => ⟨_, _, _, rfl, Find_c (x := [102, 42]) p10 bf (by decide) (by decide) ((hg.nos M9).nos m10) (fun h => absurd rf h) (fun _ h => absurd (by decide) h) fun _ _ _ w11 a11 c11 m11 p11 => ⟨_, _, _, _, rfl, ?_⟩⟩
  have hfnd : fnd [102, 42] (oneT [102]) (oneT [102]).length = [[47, 97, 47, 102]] := known_fnd
  rw [hfnd] at p11 ⊢
  have M11 := (M9.no m10).no m11
  have n3 : Mod No w3 w11 := (((((m4.no m5).no m7).no m8).no m9).no m10).no m11
  have n7 : Mod No w7 w11 := ((m8.no m9).no m10).no m11
  have n9 : Mod No w9 w11 := m10.no m11
  obtain ⟨g, o, rfl, ix, lq, _⟩ := CE.at (T := 24) (.inr rfl) hce (i := 0) rfl
  obtain ⟨g', o', hga, ix1, lq1, _⟩ := CE.at (T := 24) (.inr rfl) hce (i := 1) rfl
  cases hga
  obtain ⟨g9, o9, hd9, rfl, ix9, lq9, _⟩ := PE.at p9 (i := 1) rfl
  have hz : ∀ {j : Nat} {T : TypeId} {v : Value}, scal Tryd.prog T = true → (TotV (tot (oneT [102])) (((oneT [102]).length : Int) - 1))[j]? = some v → Ru (Instr.loadAt T (.pointer (some (Addr.add ⟨w5.heap.size, 0, none⟩ j)))) w11 v w11 := fun hT hj => tot_load hT (ht7.keep n7 id) hj
  refine Share.cut (fun z w' => w' = w11 ∧ z = [.bool true]) (tt rfl (tt rfl ⟨_, ix 2 c3 (by omega), _, lq 0 3 (.int .i64 1) (by kernel_rfl) rfl _ n3, tt rfl ⟨_, ix 2 c3 (by omega), _, lq 1 9 (.string (sB [47, 97, 47, 102])) (by kernel_rfl) rfl _ n3, tt (beq_self_eq_true (sB [47, 97, 47, 102]).toList) ⟨_, ix1 2 c3 (by omega), _, lq1 0 3 (.int .i64 2) (by kernel_rfl) rfl _ n3, tt rfl
    ⟨_, ix1 2 c3 (by omega), _, lq1 1 9 (.string (sB [47, 97, 47, 103])) (by kernel_rfl) rfl _ n3, tt (beq_self_eq_true (sB [47, 97, 47, 103]).toList) (tt rfl ⟨_, hz (j := 0) (T := 3) (v := .int .i64 2) (by kernel_rfl) rfl, tt rfl ⟨_, hz (j := 1) (T := 3) (v := .int .i64 1) (by kernel_rfl) rfl, tt rfl ⟨_, hz (j := 3) (T := 3) (v := .int .i64 2) (by kernel_rfl) rfl, tt rfl ⟨_, hz (j := 4) (T := 2) (v := .int .i64 2) (by kernel_rfl) rfl, tt rfl
      (tt rfl (tt rfl ⟨_, ix9 2 c9 (by omega), _, lq9 0 9 (.string (sB [47, 102])) (by kernel_rfl) rfl _ n9, tt (beq_self_eq_true (sB [47, 102]).toList) (tt rfl ⟨rfl, rfl⟩)⟩))⟩⟩⟩⟩)⟩⟩⟩⟩)) ?_
  rintro z w' ⟨rfl, rfl⟩
  exact ⟨_, rfl, hk _ M11⟩
end
end Go.Proofs.YtiahkkekcmgkfaaDoor
end
section
/- Layer 34: the laws: changes from a tree to another one; names as a pattern says; what there is not. -/
open Go Go.Den Go.Proofs
namespace Go.Proofs.YtiahkkekcmgkfaaDoor
section
variable {w : World}
def Yes (w : World) : Value → World → Prop := fun v w' => v = .bool true ∧ Mod No w w'
theorem known_yes {w0 : World} (hg : Gl w) (m : Mod No w0 w) : Cal Tryd.prog F_leveelaw34_known #[] w fun r w' => ∃ b : Bool, r = .bool b ∧ Yes w0 (.bool b) w' := known_c hg fun w' m' => ⟨_, rfl, rfl, m.no m'⟩
end
end Go.Proofs.YtiahkkekcmgkfaaDoor
end
section
/- Layer 34: the laws: what a tree has; one name more. -/
open Go Go.Den Go.Proofs
namespace Go.Den
end Go.Den
namespace Go.Proofs.YtiahkkekcmgkfaaDoor
section
variable {w : World}
/-- A total that is kept. -/
theorem keepT {T : TypeId} {t : Tot} {n : Int} (hT : aggN Tryd.prog T = some 5) (ha : ∀ w, (Instr.alloc T true (.tuple #[])).run Tryd.prog w = .ok (.pointer (some ⟨w.heap.size, 0, none⟩)) (w.alloc (.cells ⟨TotV tot0 0⟩ T))) :
    ∃ w1 w2, Ru (Instr.alloc T true (.tuple #[])) w (.pointer (some ⟨w.heap.size, 0, none⟩)) w1 ∧ RuU (Instr.storeAt T (.pointer (some ⟨w.heap.size, 0, none⟩)) (.agg ⟨TotV t n⟩)) w1 w2 ∧ At w2 w.heap.size 0 (TotV t n) ∧ Mod No w w2 :=
  ⟨_, _, ha w, store_new (T := T) (n := 5) hT rfl rfl (one_TotV _ _), AtU.new.at, (Mod.refl No w).alloc _⟩
set_option maxRecDepth 100000 in
theorem DiffSums_l {a : Option Addr} {l : List Tn} {x : Bs} {c : Nat} (hP : RE w a l) (hb : BdE l) (hx : x.length ≤ 140737488351232) (hg : Gl w) : Cal Tryd.prog F_leveelaw34_DiffSums #[.slice a l.length c, .string (sB x)] w (Yes w) := by
  apply C_leveelaw34_DiffSums
  unfold D_leveelaw34_DiffSums
  refine cond_of (fun h => known_yes hg (Mod.refl _ _)) (fun h => ?_)
  have h := of_decide_eq_false h
  have hn : l.length ≤ 1000 := by omega
  -- the totals alike, entries alike
  have part : ∀ (w11 : World) (g1 g2 : Nat) (t : Tot) (n : Int) (e1 : Int) (a1 a2 : Option Addr) (c1 c2 : Nat) (L : List Tn) (e2 : Int), Mod No w w11 → At w11 g1 0 (TotV t n) → At w11 g2 0 (TotV t n) → PE w11 a1 L → RE w11 a2 L → L.length ≤ 1000 →
      ∀ (C : List Value → World → Prop), (∀ w14, Mod No w11 w14 → C [.bool false] w14) →
      Share (fun k => ∃ n44 : Int, Ru (Instr.loadAt 3 (.pointer (some (Addr.add ⟨g1, 0, none⟩ 0)))) w11 (.int .i64 n44) w11 ∧ ∃ n46 : Int, Ru (Instr.loadAt 3 (.pointer (some (Addr.add ⟨g2, 0, none⟩ 0)))) w11 (.int .i64 n46) w11 ∧ (bif n44 != n46 then k [.bool true] w11 else ∃ n50 : Int, Ru (Instr.loadAt 3 (.pointer (some (Addr.add ⟨g1, 0, none⟩ 1)))) w11 (.int .i64 n50) w11 ∧ ∃ n52 : Int, Ru (Instr.loadAt 3 (.pointer (some (Addr.add ⟨g2, 0, none⟩ 1)))) w11 (.int .i64 n52) w11 ∧ (bif n50 != n52 then k [.bool true] w11 else ∃ n57 : Int, Ru (Instr.loadAt 3 (.pointer (some (Addr.add ⟨g1, 0, none⟩ 2)))) w11 (.int .i64 n57) w11 ∧ ∃ n59 : Int, Ru (Instr.loadAt 3 (.pointer (some (Addr.add ⟨g2, 0, none⟩ 2)))) w11 (.int .i64 n59) w11 ∧ (bif n57 != n59 then k [.bool true] w11 else ∃ n64 : Int, Ru (Instr.loadAt 3 (.pointer (some (Addr.add ⟨g1, 0, none⟩ 3)))) w11 (.int .i64 n64) w11 ∧ ∃ n66 : Int, Ru (Instr.loadAt 3 (.pointer (some (Addr.add ⟨g2, 0, none⟩ 3)))) w11 (.int .i64 n66) w11 ∧ (bif n64 != n66 then k [.bool true] w11 else ∃ n71 : Int, Ru (Instr.loadAt 2 (.pointer (some (Addr.add ⟨g1, 0, none⟩ 4)))) w11 (.int .i64 n71) w11 ∧ ∃ n73 : Int, Ru (Instr.loadAt 2 (.pointer (some (Addr.add ⟨g2, 0, none⟩ 4)))) w11 (.int .i64 n73) w11 ∧ (bif n71 != n73 then k [.bool true] w11 else (bif e1 != e1 then k [.bool true] w11 else Cal Tryd.prog F_leveelaw34_taken #[.slice a1 L.length c1] w11 fun r83 w12 => ∃ (a83 : Option Addr) (l83 c83 : Nat), r83 = .slice a83 l83 c83 ∧ Cal Tryd.prog F_leveeref33_Same #[.slice a83 l83 c83, .slice a2 L.length c2] w12 fun r85 w13 => ∃ b85 : Bool, r85 = .bool b85 ∧ (bif !b85 then k [.bool true] w13 else k [.bool (e2 != e2)] w13)))))))) C := by
    intro w11 g1 g2 t n e1 a1 a2 c1 c2 L e2 m11 h1 h2 hp hr hL C hC
    have r : ∀ z : Int, (z != z) = false := fun z => by simp
    refine Share.cut (fun z w14 => Mod No w11 w14 ∧ z = [.bool false]) ?_ (fun z w14 h => by obtain ⟨h3, rfl⟩ := h; exact hC w14 h3)
    refine ⟨_, tot_load (T := 3) (v := .int .i64 t.dirs) (by kernel_rfl) h1 rfl, _, tot_load (T := 3) (v := .int .i64 t.dirs) (by kernel_rfl) h2 rfl, ff (r _) ⟨_, tot_load (T := 3) (v := .int .i64 t.files) (by kernel_rfl) h1 rfl, _, tot_load (T := 3) (v := .int .i64 t.files) (by kernel_rfl) h2 rfl, ff (r _)
      ⟨_, tot_load (T := 3) (v := .int .i64 t.links) (by kernel_rfl) h1 rfl, _, tot_load (T := 3) (v := .int .i64 t.links) (by kernel_rfl) h2 rfl, ff (r _) ⟨_, tot_load (T := 3) (v := .int .i64 n) (by kernel_rfl) h1 rfl, _, tot_load (T := 3) (v := .int .i64 n) (by kernel_rfl) h2 rfl, ff (r _)
        ⟨_, tot_load (T := 2) (v := .int .i64 t.bytes) (by kernel_rfl) h1 rfl, _, tot_load (T := 2) (v := .int .i64 t.bytes) (by kernel_rfl) h2 rfl, ff (r _) (ff (r _) (taken_c hp hL fun w12 a12 c12 m12 p12 => ⟨_, _, _, rfl, SameE_c p12 (hr.nos m12) (by omega) (by omega) fun w13 b m13 hb => ⟨_, rfl, ?_⟩⟩))⟩⟩⟩⟩⟩
    have hb : b = true := hb.2 rfl
    subst hb
    exact ff rfl ⟨m12.no m13, by rw [r]⟩
  -- what both sides answer
  obtain ⟨t, n, e1, he1, hS, hrS⟩ : ∃ (t : Tot) (n e1 : Int), ((e1 = 0 ∧ RightL l) ∨ (e1 = 1 ∧ ¬ RightL l)) ∧
      (∀ (w' : World) (K : Value → World → Prop) (a' : Option Addr) (c' : Nat), PE w' a' l → l.length ≤ c' → Gl w' → (∀ w'', Mod No w' w'' → K (.tuple #[.agg ⟨TotV t n⟩, .int .i64 e1]) w'') → Cal Tryd.prog F_diff_Sum #[.slice a' l.length c'] w' K) ∧
      (∀ (w' : World) (K : Value → World → Prop), RE w' a l → (∀ w'', Mod No w' w'' → K (.tuple #[.agg ⟨TotV t n⟩, .int .i64 e1]) w'') → Cal Tryd.prog F_leveeref34_Sum #[.slice a l.length c] w' K) := by
    by_cases hR : RightL l
    · exact ⟨tot l, (l.length : Int) - 1, 0, .inl ⟨rfl, hR⟩, fun w' K a' c' h1 h2 h3 h4 => Sum_c h1 hb hn h2 h3 (fun h5 => absurd hR h5) (fun _ => h4), fun w' K h1 h4 => rSum_c h1 hb hn (fun h5 => absurd hR h5) (fun _ => h4)⟩
    · exact ⟨tot0, 0, 1, .inr ⟨rfl, hR⟩, fun w' K a' c' h1 h2 h3 h4 => Sum_c h1 hb hn h2 h3 (fun _ => h4) (fun h5 => absurd h5 hR), fun w' K h1 h4 => rSum_c h1 hb hn (fun _ => h4) (fun h5 => absurd h5 hR)⟩
  have pn : ∀ {w' : World}, PE w' none [] := ⟨[], rfl, .inl rfl, by simp⟩
  have below : ∀ (y : Bs), y.length ≤ 140737488351232 → ∃ (L : List Tn) (e2 : Int), L.length ≤ 1000 ∧ (e2 = 0 → RightL l ∧ (∃ t ∈ l, t.path = y ∧ t.kind = 2) ∧ L = (bel l y l.length).out) ∧ (¬ RightL l → e2 = 1) ∧ (RightL l → (∃ t ∈ l, t.path = y ∧ t.kind = 2) → e2 = 0) ∧
      (∀ (w' : World) (K : Value → World → Prop) (a' : Option Addr) (c' : Nat), PE w' a' l → l.length ≤ c' → Gl w' → (∀ w'' a'' c'', Mod No w' w'' → PE w'' a'' L → K (.tuple #[.slice a'' L.length c'', .int .i64 e2]) w'') → Cal Tryd.prog F_diff_Below #[.slice a' l.length c', .string (sB y)] w' K) ∧
      (∀ (w' : World) (K : Value → World → Prop), RE w' a l → (∀ w'' a'' c'', Mod No w' w'' → RE w'' a'' L → K (.tuple #[.slice a'' L.length c'', .int .i64 e2]) w'') → Cal Tryd.prog F_leveeref34_Below #[.slice a l.length c, .string (sB y)] w' K) := by
    intro y hy
    by_cases hR : RightL l
    · by_cases ht : ∃ t ∈ l, t.path = y ∧ t.kind = 2
      · have hlen : (bel l y l.length).out.length ≤ 1000 := by
          have h1 := (bel_inv hR y l.length (Nat.le_refl _)).len
          have h2 := bel_src_len l y l.length
          omega
        exact ⟨_, 0, hlen, fun _ => ⟨hR, ht, rfl⟩, fun h5 => absurd hR h5, fun _ _ => rfl, fun w' K a' c' h1 h2 h3 h4 => Below_c h1 hb hn h2 h3 (fun h5 => absurd hR h5) (fun _ h5 => absurd ht h5) (fun _ _ w'' a'' c'' m'' p'' _ => h4 w'' a'' c'' m'' p''),
          fun w' K h1 h4 => rBelow_c h1 hb hn (by omega) (fun h5 => absurd hR h5) (fun _ h5 => absurd ht h5) (fun _ _ => h4)⟩
      · exact ⟨[], 20, by simp, fun h5 => absurd h5 (by decide), fun h5 => absurd hR h5, fun _ h5 => absurd h5 ht, fun w' K a' c' h1 h2 h3 h4 => Below_c h1 hb hn h2 h3 (fun h5 => absurd hR h5) (fun _ _ w'' m'' => h4 w'' none 0 m'' pn) (fun _ h5 => absurd h5 ht),
          fun w' K h1 h4 => rBelow_c h1 hb hn (by omega) (fun h5 => absurd hR h5) (fun _ _ w'' m'' => h4 w'' none 0 m'' (.inl rfl)) (fun _ h5 => absurd h5 ht)⟩
    · exact ⟨[], 1, by simp, fun h5 => absurd h5 (by decide), fun _ => rfl, fun h5 => absurd h5 hR, fun w' K a' c' h1 h2 h3 h4 => Below_c h1 hb hn h2 h3 (fun _ w'' m'' => h4 w'' none 0 m'' pn) (fun h5 => absurd h5 hR) (fun h5 => absurd h5 hR),
        fun w' K h1 h4 => rBelow_c h1 hb hn (by omega) (fun _ w'' m'' => h4 w'' none 0 m'' (.inl rfl)) (fun h5 => absurd h5 hR) (fun h5 => absurd h5 hR)⟩
  obtain ⟨L, e2, hL, hE2, _, _, hB, hrB⟩ := below x hx
  obtain ⟨L3, e3, hL3, hE3, hE31, hE30, hB3, _⟩ := below [] (by simp)
  have hsame : RightL l → L3 = l ∧ e3 = 0 := fun hR => by
    have ht : ∃ t ∈ l, t.path = [] ∧ t.kind = 2 := by
      obtain ⟨e, he, h1, h2, _⟩ := hR.1
      exact ⟨e, List.mem_of_getElem? he, h1, h2⟩
    have h1 := hE30 hR ht
    obtain ⟨_, _, h2⟩ := hE3 h1
    exact ⟨h2.trans (bel_all hR), h1⟩
  refine given_c hP hn fun w2 a2 c2 m2 p2 k2 => ⟨_, _, _, rfl, hS w2 _ a2 c2 p2 k2 (hg.nos m2) fun w3 m3 => ⟨_, _, rfl, ?_⟩⟩
  obtain ⟨w4, w5, u1, u2, u3, u4⟩ := keepT (w := w3) (T := 39) (t := t) (n := n) agg_pT alloc_pT
  have M5 := (m2.no m3).no u4
  refine ⟨_, w4, u1, w5, u2, hrS w5 _ (hP.nos M5) fun w6 m6 => ⟨_, _, rfl, ?_⟩⟩
  obtain ⟨w7, w8, v1, v2, v3, v4⟩ := keepT (w := w6) (T := 42) (t := t) (n := n) agg_rT alloc_rT
  have M8 := (M5.no m6).no v4
  refine ⟨_, w7, v1, w8, v2, given_c (hP.nos M8) hn fun w9 a9 c9 m9 p9 k9 => ⟨_, _, _, rfl, hB w9 _ a9 c9 p9 k9 (hg.nos (M8.no m9)) fun w10 a10 c10 m10 p10 => ⟨_, _, _, _, rfl, ?_⟩⟩⟩
  have M10 := (M8.no m9).no m10
  refine hrB w10 _ (hP.nos M10) fun w11 a11 c11 m11 r11 => ⟨_, _, _, _, rfl, ?_⟩
  have M11 := M10.no m11
  have n11 : Mod No w8 w11 := (m9.no m10).no m11
  refine part w11 w3.heap.size w6.heap.size t n e1 a10 a11 c10 c11 L e2 M11 (u3.keep ((m6.no v4).no n11) id) (v3.keep n11 id) (p10.nos m11) r11 hL _ fun w14 m14 => ⟨_, rfl, ff rfl ?_⟩
  have M14 := M11.no m14
  refine given_c (hP.nos M14) hn fun w15 a15 c15 m15 p15 k15 => ⟨_, _, _, rfl, hB3 w15 _ a15 c15 p15 k15 (hg.nos (M14.no m15)) fun w16 a16 c16 m16 p16 => ⟨_, _, _, _, rfl, ?_⟩⟩
  have M16 := (M14.no m15).no m16
  rcases he1 with ⟨rfl, hR⟩ | ⟨rfl, hR⟩
  · obtain ⟨h3, rfl⟩ := hsame hR
    subst h3
    have same : ∀ (w22 : World) (k : List Value → World → Prop), Mod No w16 w22 → (∀ w', Mod No w w' → k [.bool true] w') → Cal Tryd.prog F_leveelaw34_taken #[.slice a16 L3.length c16] w22 fun r118 w19 => ∃ (a118 : Option Addr) (l118 c118 : Nat), r118 = .slice a118 l118 c118 ∧ Cal Tryd.prog F_leveeref33_Same #[.slice a118 l118 c118, .slice a L3.length c] w19 fun r120 w20 => ∃ b120 : Bool, r120 = .bool b120 ∧ (bif b120 then Cal Tryd.prog F_leveelaw34_known #[] w20 fun r123 w21 => ∃ b123 : Bool, r123 = .bool b123 ∧ k [.bool b123] w21 else k [.bool false] w20) := by
      intro w22 k m22 hk
      refine taken_c (p16.nos m22) hn fun w23 a23 c23 m23 r23 => ⟨_, _, _, rfl, ?_⟩
      have M23 := (M16.no m22).no m23
      refine SameE_c r23 (hP.nos M23) (by omega) (by omega) fun w24 b m24 hb24 => ⟨_, rfl, ?_⟩
      have hb24 : b = true := hb24.2 rfl
      subst hb24
      exact tt rfl (known_c (hg.nos (M23.no m24)) fun w25 m25 => ⟨_, rfl, hk w25 ((M23.no m24).no m25)⟩)
    refine ff rfl (Share.cut (fun z w' => Mod No w w' ∧ z = [.bool true]) ?_ ?_)
    · rw [bne_int]
      refine cond_of (fun h5 => tt rfl (same w16 (fun z w' => Mod No w w' ∧ z = [.bool true]) (Mod.refl _ _) fun w' m' => ⟨m', rfl⟩)) (fun h5 => ?_)
      have h5 : e2 = 0 := by simpa using h5
      obtain ⟨_, ⟨t0, ht0, h6, h7⟩, rfl⟩ := hE2 h5
      obtain ⟨k0, hk0⟩ := List.mem_iff_getElem?.1 ht0
      have hRL := bel_right hR hk0 h6 h7
      refine rRight_c (r11.nos (m14.no (m15.no m16))) (right_bd hRL hL) hL fun w22 b m22 hb22 => ⟨_, rfl, ?_⟩
      have hb22 : b = true := hb22.2 hRL
      subst hb22
      exact tt rfl (tt rfl (same w22 (fun z w' => Mod No w w' ∧ z = [.bool true]) m22 fun w' m' => ⟨m', rfl⟩))
    rintro z w' ⟨m', rfl⟩
    exact ⟨_, rfl, rfl, m'⟩
  · have h3 := hE31 hR
    subst h3
    refine tt rfl (Share.cut (fun z w' => Mod No w w' ∧ z = [.bool true]) (tt rfl (known_c (hg.nos M16) fun w17 m17 => ⟨_, rfl, M16.no m17, rfl⟩)) ?_)
    rintro z w' ⟨m', rfl⟩
    exact ⟨_, rfl, rfl, m'⟩
end
end Go.Proofs.YtiahkkekcmgkfaaDoor
end
section
/- Statements over listed tables: the wrap that hands on the world's shape; the witness's world; the entries that came in. -/
open Go Go.Den
namespace Go.Proofs.YtiahkkekcmgkfaaDoor
open Go.ChangeShapes Go.WideShapes Go.ChangeAt Go.RowKit Go.Joins

theorem handed_shaped {H : Type} {enc : TypeId × Value → H} {a : Assume} {C : Checked} {os : Os} {f : FuncId} {fn : Func} {s : ChangeSpec} {conds : List PathCond} {apart fresh handsOn again : Bool} {X : World → Array Value → Prop}
    (own : ownKnob C.prog.godebug = none) (started : os.Started) (noInit : C.prog.inits.idxOf? f = none) (hfn : C.prog.funcs[f]? = some fn)
    (witness : ∃ (w : World) (tape : Tape) (i : Input), w.os = os ∧ (w.forCall tape i).Shaped C.prog ∧ i.vars = [] ∧ Input.okWide C.prog (w.forCall tape i) .any w.heap.size f i ∧
      ((s.pre enc C.prog fn conds apart (w.forCall tape i).memory i.args ∧ X (w.forCall tape i).memory i.args) ∧ sizedMet enc C.prog fn (OpenSpec.ofChange s) apart (w.forCall tape i).memory i.args) ∧ a.holds C.prog (lone (Frame.enter C.prog f i.args .normal) [] (w.forCall tape i)))
    (contract : ∀ (W : World) (base : Nat) (args : Array Value) (ds gs : List (DataW H)) (before : List MemPlace),
      (∀ (j : Nat) t v, fn.params[j]? = some t → args[j]? = some v → Value.okWide C.prog W .any base t v) →
      DataW.Whole enc C.prog fn.params.toList s.vars apart W args.toList ds gs before →
      (DataW.weightsEach C.prog (fn.params.toList ++ s.plain.varTypes C.prog) (ds ++ gs)).all (· ≤ reachBytes) = true →
      W.ShapedOpen C.prog →
      Calls C.prog f args W fun e W' => ∃ v, e = .returned v ∧ s.post enc C.prog fn apart fresh handsOn again W args v W') :
    ReturnsInHanded a C os f .any (fun w args => (s.pre enc C.prog fn conds apart w args ∧ X w args) ∧ sizedMet enc C.prog fn (OpenSpec.ofChange s) apart w args) (s.post enc C.prog fn apart fresh handsOn again) := by
  refine returnsInHanded_of_calls own started noInit witness ?_
  intro w tape i _ hsh _ hok hpre _
  obtain ⟨_, _, _, fn', hfn', _, _, _, _, hval⟩ := hok
  have e : fn' = fn := Option.some.inj (hfn'.symm.trans hfn)
  subst e
  obtain ⟨⟨⟨ds, gs, before, hw, hc⟩, hx⟩, hz⟩ := hpre
  have hw' := DataW.Whole.of_heap (w' := w.forCall tape i) (by rfl) hw
  refine (contract (w.forCall tape i) w.heap.size i.args ds gs before hval hw' (hz.weights hw) hsh).mono fun e W' ⟨v, he, hp⟩ => ?_
  subst he
  exact ChangeSpec.post_blind hp

theorem gl_of {W : World} (h : W.ShapedOpen Tryd.prog) : Gl W :=
  Go.Proofs.cell_of_shapedOpen_int (zero := #[.int .i64 0]) (t := 3) h (of_decide_eq_true (by kernel_rfl)) (by kernel_rfl) rfl (by kernel_rfl) (by kernel_rfl) Tryd.underlying3

section
variable {H : Type} {enc : TypeId × Value → H} {w : World} {base : Nat} {held : Bool}

theorem weightsAll_mem {P : Program} {e : TypeId} {d : DataW H} {n : Nat} : ∀ {l : List (DataW H)}, d ∈ l → n ∈ d.weights P e → n ∈ DataW.weightsAll P e l
  | [], h, _ => by cases h
  | x :: r, h, hn => by
    rw [DataW.weightsAll]
    rcases List.mem_cons.1 h with rfl | h
    · exact List.mem_append_left _ hn
    · exact List.mem_append_right _ (weightsAll_mem h hn)
theorem weights_slice {P : Program} {t e : TypeId} {d : DataW H} {l r : List (DataW H)} {n : Nat} (ht : P.underlying t = some (.slice e)) (h : d ∈ l) (hn : n ∈ d.weights P e) : n ∈ (DataW.slice l r).weights P t := by
  rw [DataW.weights, ht]
  exact List.mem_cons_of_mem _ (List.mem_append_left _ (weightsAll_mem h hn))
theorem weights_text {P : Program} {t : TypeId} (s : ByteArray) : (DataW.lit (H := H) (.string s.data.toList)).weights P t = [s.size] := by
  rw [DataW.weights]; rfl
theorem trod_st5 {P : Program} {spare : Nat → Bool} {t : TypeId} {f0 f1 f2 f3 f4 : Field} {fuel : Nat} {cs : List Value} {x : DataW H × List MemPlace} (ht : P.underlying t = some (.struct #[f0, f1, f2, f3, f4])) (h : DataW.trod enc P w base spare held fuel t cs = some x) :
    ∃ y0 y1 y2 y3 y4 n, x.1 = .agg [y0.1, y1.1, y2.1, y3.1, y4.1] ∧ DataW.trod enc P w base spare held n f0.type ((cs.drop f0.offset).take (P.cellsOf f0.type)) = some y0 ∧ DataW.trod enc P w base spare held n f1.type ((cs.drop f1.offset).take (P.cellsOf f1.type)) = some y1 ∧
      DataW.trod enc P w base spare held n f2.type ((cs.drop f2.offset).take (P.cellsOf f2.type)) = some y2 ∧ DataW.trod enc P w base spare held n f3.type ((cs.drop f3.offset).take (P.cellsOf f3.type)) = some y3 ∧ DataW.trod enc P w base spare held n f4.type ((cs.drop f4.offset).take (P.cellsOf f4.type)) = some y4 := by
  obtain ⟨xs, n, _, rfl, hl, hlen, hf⟩ := DataW.trod_struct ht h
  match xs, hlen with
  | [y0, y1, y2, y3, y4], _ => exact ⟨y0, y1, y2, y3, y4, n, by simp, by simpa using hf 0 f0 rfl, by simpa using hf 1 f1 rfl, by simpa using hf 2 f2 rfl, by simpa using hf 3 f3 rfl, by simpa using hf 4 f4 rfl⟩

theorem open_ent {n : Nat} {cs : List Value} {y : DataW H × List MemPlace} (hl : cs.length = 5) (h : DataW.trod enc Tryd.prog w base (fun _ => true) held n 58 cs = some y) :
    ∃ e : Tn, cs = rV e ∧ e.path.length ∈ y.1.weights Tryd.prog 58 ∧ e.link.length ∈ y.1.weights Tryd.prog 58 ∧ e.data.length ∈ y.1.weights Tryd.prog 58 := by
  match cs, hl with
  | [c0, c1, c2, c3, c4], _ =>
    obtain ⟨y0, y1, y2, y3, y4, n', hx, h0, h1, h2, h3, h4⟩ := trod_st5 Tryd.underlying58 h
    have k0 : Tryd.prog.cellsOf 3 = 1 := by kernel_rfl
    have k1 : Tryd.prog.cellsOf 9 = 1 := by kernel_rfl
    simp only [k0, k1] at h0 h1 h2 h3 h4
    have h0 : DataW.trod enc Tryd.prog w base (fun _ => true) held n' 9 [c0] = some y0 := h0
    have h1 : DataW.trod enc Tryd.prog w base (fun _ => true) held n' 3 [c1] = some y1 := h1
    have h2 : DataW.trod enc Tryd.prog w base (fun _ => true) held n' 9 [c2] = some y2 := h2
    have h3 : DataW.trod enc Tryd.prog w base (fun _ => true) held n' 9 [c3] = some y3 := h3
    have h4 : DataW.trod enc Tryd.prog w base (fun _ => true) held n' 3 [c4] = some y4 := h4
    obtain ⟨s0, e0, u0, _⟩ := DataW.trod_string Tryd.underlying9 h0
    obtain ⟨m1, e1, u1, _⟩ := DataW.trod_int Tryd.underlying3 h1
    obtain ⟨s2, e2, u2, _⟩ := DataW.trod_string Tryd.underlying9 h2
    obtain ⟨s3, e3, u3, _⟩ := DataW.trod_string Tryd.underlying9 h3
    obtain ⟨m4, e4, u4, _⟩ := DataW.trod_int Tryd.underlying3 h4
    have e0 : c0 = .string s0 := by simpa using e0
    have e1 : c1 = .int .i64 m1 := by simpa using e1
    have e2 : c2 = .string s2 := by simpa using e2
    have e3 : c3 = .string s3 := by simpa using e3
    have e4 : c4 = .int .i64 m4 := by simpa using e4
    subst e0 e1 e2 e3 e4 u0 u1 u2 u3 u4
    have hw : y.1.weights Tryd.prog 58 = [s0.data.toList.length, s2.data.toList.length, s3.data.toList.length] := by
      rw [hx, DataW.weights, Tryd.underlying58]
      rfl
    refine ⟨⟨s0.data.toList, m1, s2.data.toList, s3.data.toList, m4⟩, rfl, ?_, ?_, ?_⟩ <;> rw [hw] <;> simp

set_option maxRecDepth 100000 in
theorem open_ents {r : Reach} {b0 : Nat} {v : Value} {d : DataW H} {ps : List MemPlace} (hval : Value.okWide Tryd.prog w r b0 22 v) (hd : DataW.Trod enc Tryd.prog w base (fun _ => true) held 22 v d ps)
    (hw : ∀ n ∈ d.weights Tryd.prog 22, n ≤ reachBytes) :
    ∃ a c l, v = .slice a l.length c ∧ RE w a l ∧ BdE l := by
  obtain ⟨fuel, hf⟩ := hd
  obtain ⟨a, l, c, rfl⟩ := okWide_slice Tryd.underlying22 hval
  rcases Go.Deep.open_slice Tryd.underlying22 hf with ⟨h1, h2⟩ | ⟨a', l', c', m, n, DD, Pl, h1, _, hlc, hm, hmm, hx, hel⟩
  · simp [Value.cells] at h1
    obtain ⟨rfl, rfl, rfl⟩ := h1
    exact ⟨none, 0, [], rfl, .inl rfl, fun e he => by cases he⟩
  · simp [Value.cells] at h1
    obtain ⟨rfl, rfl, rfl⟩ := h1
    rw [if_pos rfl] at hmm
    subst hmm
    have hxd : d = .slice ((List.range l).map DD) ((List.range (m - l)).map fun j => DD (l + j)) := congrArg (·.1) hx
    have k3 : Tryd.prog.cellsOf 58 = 5 := by kernel_rfl
    rw [k3] at hel
    by_cases h0 : l = 0
    · subst h0
      exact ⟨some a', m, [], rfl, .inl rfl, fun e he => by cases he⟩
    obtain ⟨b, off, spot⟩ := a'
    have hspot : spot = none := by
      obtain ⟨cs', hc, ht⟩ := hel 0 (by omega)
      obtain ⟨_, hcl, hcc⟩ := World.cells?_some hc
      obtain ⟨x, rfl, _⟩ := open_ent hcl ht
      have h00 := hcc 0 (by omega)
      have := World.cell?_spot (h00.trans rfl)
      simpa [Addr.add] using this
    subst hspot
    have each : ∀ i : Nat, i < l → ∃ x : Tn, (∀ (j : Nat) (v : Value), (rV x)[j]? = some v → w.cell? ⟨b, off + (i * 5 + j), none⟩ = some v) ∧ x.path.length ≤ 140737488355328 ∧ x.link.length ≤ 140737488355328 ∧ x.data.length ≤ 140737488355328 := by
      intro i hi
      obtain ⟨cs', hc, ht⟩ := hel i (by omega)
      obtain ⟨_, hcl, hcc⟩ := World.cells?_some hc
      obtain ⟨x, rfl, w1, w2, w3⟩ := open_ent hcl ht
      have hmem : DD i ∈ (List.range l).map DD := List.mem_map.2 ⟨i, List.mem_range.2 hi, rfl⟩
      have hle : ∀ n ∈ (DD i).weights Tryd.prog 58, n ≤ 140737488355328 := fun n hn => Nat.le_trans (hw n (by rw [hxd]; exact weights_slice Tryd.underlying22 hmem hn)) (by decide)
      refine ⟨x, fun j v hj => ?_, hle _ w1, hle _ w2, hle _ w3⟩
      have hj4 : j < 5 := (List.getElem?_eq_some_iff.1 hj).1
      have := hcc j hj4
      rw [add_none, add_none, Nat.add_assoc] at this
      rw [this, hj]
    have pick : ∃ f : Nat → Tn, ∀ i, i < l → (∀ (j : Nat) (v : Value), (rV (f i))[j]? = some v → w.cell? ⟨b, off + (i * 5 + j), none⟩ = some v) ∧ (f i).path.length ≤ 140737488355328 ∧ (f i).link.length ≤ 140737488355328 ∧ (f i).data.length ≤ 140737488355328 := by
      have : ∀ i : Nat, ∃ x : Tn, i < l → ((∀ (j : Nat) (v : Value), (rV x)[j]? = some v → w.cell? ⟨b, off + (i * 5 + j), none⟩ = some v) ∧ x.path.length ≤ 140737488355328 ∧ x.link.length ≤ 140737488355328 ∧ x.data.length ≤ 140737488355328) := fun i => by
        by_cases hi : i < l
        · obtain ⟨x, hx⟩ := each i hi; exact ⟨x, fun _ => hx⟩
        · exact ⟨⟨[], 0, [], [], 0⟩, fun h => absurd h hi⟩
      exact Classical.axiomOfChoice this
    obtain ⟨f, hf'⟩ := pick
    refine ⟨some ⟨b, off, none⟩, m, (List.range l).map f, by simp, .inr ⟨b, off, rfl, ?_⟩, fun e he => ?_⟩
    · have flat : ∀ (zs : List Tn), ((zs.map rV).flatten).length = zs.length * 5 := by
        intro zs
        induction zs with
        | nil => rfl
        | cons u r ih => rw [List.map_cons, List.flatten_cons, List.length_append, ih, List.length_cons]; have : (rV u).length = 5 := rfl; omega
      have get : ∀ (zs : List Tn) (i : Nat) (z : Tn), zs[i]? = some z → (((zs.map rV).flatten).drop (i * 5)).take 5 = rV z := by
        intro zs
        induction zs with
        | nil => intro i z h; simp at h
        | cons u r ih =>
          intro i z h
          have hu : (rV u).length = 5 := rfl
          cases i with
          | zero => simp at h; subst h; rw [Nat.zero_mul, List.drop_zero, List.map_cons, List.flatten_cons, List.take_append_of_le_length (by omega), List.take_of_length_le (by omega)]
          | succ i =>
            have := ih i z (by simpa using h)
            rw [List.map_cons, List.flatten_cons, List.drop_append, List.drop_eq_nil_of_le (by omega), List.nil_append]
            have e : (i + 1) * 5 - (rV u).length = i * 5 := by omega
            rw [e]; exact this
      have hfl := flat ((List.range l).map f)
      rw [List.length_map, List.length_range] at hfl
      refine At.of_cells (by rw [hfl]; omega) fun j hj => ?_
      rw [hfl] at hj
      have hi : j / 5 < l := by omega
      have hg := get ((List.range l).map f) (j / 5) (f (j / 5)) (by simp [hi])
      have hcell := (hf' (j / 5) hi).1 (j % 5)
      have hlt : j < ((((List.range l).map f).map rV).flatten).length := by rw [hfl]; exact hj
      have hget : (rV (f (j / 5)))[j % 5]? = some ((((List.range l).map f).map rV).flatten[j]) := by
        rw [← hg, List.getElem?_take, if_pos (by omega), List.getElem?_drop, show j / 5 * 5 + j % 5 = j by omega]
        exact List.getElem?_eq_getElem _
      have := hcell _ hget
      rw [show j / 5 * 5 + j % 5 = j by omega] at this
      exact this
    · obtain ⟨i, hi, rfl⟩ := List.mem_map.1 he
      exact (hf' i (List.mem_range.1 hi)).2
end
end Go.Proofs.YtiahkkekcmgkfaaDoor
end
