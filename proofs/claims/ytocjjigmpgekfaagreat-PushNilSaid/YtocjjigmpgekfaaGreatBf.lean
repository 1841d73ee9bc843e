/- Parts of the proof, in order: what the statement leans on. -/
import Derived.Test.YtocjjigmpgekfaaGreatBe
section
/- Layer 11, in plain terms: both stores stay alike. -/
open Go Go.Den Go.Proofs
namespace Go.Proofs.YtocjjigmpgekfaaGreat
section
variable {V : Ps} {S : Rs} {af : Nat → List Int}
theorem onOf_map (l : List On) (C : Ca) (n : Nat) (g : On → On) (hg : ∀ o, (g o).b = o.b) (k : Int) : onOf ⟨C, n, l.map g⟩ k = (l.find? fun o => (o.b : Int) == k).map g := by
  unfold onOf
  rw [List.find?_map]
  congr 1
  congr 1
  funext o
  show (((g o).b : Int) == k) = _
  rw [hg]
theorem chsV_newO (V : Ps) (b c : Nat) : chsV (newO V b) c = chsV V c := by
  unfold chsV newO
  cases e : onOf V (b : Int) with
  | some o => rfl
  | none =>
    show (match onOf { V with ons := V.ons ++ [⟨b, contV V b, []⟩] } (c : Int) with | some o => o.l | none => []) = _
    unfold onOf
    rw [List.find?_append]
    cases e2 : V.ons.find? fun o => (o.b : Int) == (c : Int) with
    | some o => rfl
    | none =>
      show (match ([⟨b, contV V b, []⟩] : List On).find? fun o => (o.b : Int) == (c : Int) with | some o => o.l | none => []) = []
      rw [List.find?_cons]
      split
      · rename_i h
        split at h
        · cases h; rfl
        · cases h
      · rfl
theorem bse_newO (V : Ps) (b c : Nat) : bse (newO V b) c = bse V c := by
  unfold bse newO
  cases e : onOf V (b : Int) with
  | some o => rfl
  | none =>
    show (match onOf { V with ons := V.ons ++ [⟨b, contV V b, []⟩] } (c : Int) with | some o => o.base | none => atD V.C.D c) = _
    unfold onOf
    rw [List.find?_append]
    cases e2 : V.ons.find? fun o => (o.b : Int) == (c : Int) with
    | some o => rfl
    | none =>
      show (match ([⟨b, contV V b, []⟩] : List On).find? fun o => (o.b : Int) == (c : Int) with | some o => o.base | none => atD V.C.D c) = atD V.C.D c
      rw [List.find?_cons]
      split
      · rename_i h
        split at h
        · rename_i hc
          cases h
          have hc : b = c := by have := beq_iff_eq.1 hc; have h2 : (b : Int) = c := this; omega
          subst hc
          show contV V b = _
          unfold contV; rw [e]
        · cases h
      · rfl
theorem chsV_app (V : Ps) (x : Ch) (c : Nat) (hon : ∃ o ∈ V.ons, o.b = x.b) : chsV (appO V x) c = if c = x.b then chsV V c ++ [x] else chsV V c := by
  have e : onOf (appO V x) (c : Int) = (onOf V (c : Int)).map fun o => if o.b = x.b then { o with l := o.l ++ [x] } else o := by
    unfold appO
    exact onOf_map V.ons V.C x.id _ (fun o => by show (if o.b = x.b then _ else o).b = o.b; split <;> rfl) _
  unfold chsV
  rw [e]
  cases e2 : onOf V (c : Int) with
  | none =>
    rw [if_neg]
    · rfl
    · intro ec
      obtain ⟨o, ho, eo⟩ := hon
      exact onOf_none e2 o ho (by omega)
  | some o =>
    have hob : o.b = c := by have := (onOf_some e2).2; omega
    show (if o.b = x.b then ({ o with l := o.l ++ [x] } : On) else o).l = _
    by_cases h : c = x.b
    · rw [if_pos h, if_pos (by omega)]
    · rw [if_neg h, if_neg (by omega)]
theorem bse_app (V : Ps) (x : Ch) (c : Nat) : bse (appO V x) c = bse V c := by
  have e : onOf (appO V x) (c : Int) = (onOf V (c : Int)).map fun o => if o.b = x.b then { o with l := o.l ++ [x] } else o := by
    unfold appO
    exact onOf_map V.ons V.C x.id _ (fun o => by show (if o.b = x.b then _ else o).b = o.b; split <;> rfl) _
  unfold bse
  rw [e]
  cases onOf V (c : Int) with
  | none => rfl
  | some o =>
    show (if o.b = x.b then ({ o with l := o.l ++ [x] } : On) else o).base = o.base
    split <;> rfl
theorem RelA.patE (h : RelA V S af) (hr : WFR S) (n f : Int) (data : Bk) (after : List Int) : patER S n f data after = patE V n f data after := by
  unfold patER Go.Proofs.YtocjjigmpgekfaaGreat.patE badA
  by_cases he : errOf V.C.D n ≠ 0
  · rw [if_pos he, if_pos ((h.err hr).1 he)]
  · rw [if_neg he, if_neg (fun e => he ((h.err hr).2 e)), h.last]
theorem RelA.pat (h : RelA V S af) (hs : WFS V) (hr : WFR S) (hD : WF V.C.D) (n f : Int) (data : Bk) (after : List Int) : Rel (patS V n f data after) (patSR S n f data after) ∧ patNR S n f data after = patN V n f data after := by
  have hE := h.patE hr n f data after
  by_cases he : Go.Proofs.YtocjjigmpgekfaaGreat.patE V n f data after = 0
  · have e1 : patS V n f data after = addX V (newX V n.toNat f.toNat data after) := by unfold patS; rw [if_pos he]
    have e2 : patSR S n f data after = { S with last := S.last + 1, l := S.l ++ [newR S n f data after] } := by unfold patSR; rw [if_pos (by rw [hE]; exact he)]
    refine ⟨?_, by unfold patNR patN; rw [if_pos (by rw [hE]; exact he), if_pos he, h.last]⟩
    rw [e1, e2]
    have hn : n.toNat < V.C.D.vs.length := by
      have h0 : ¬ errOf V.C.D n ≠ 0 := fun hne => by
        unfold Go.Proofs.YtocjjigmpgekfaaGreat.patE at he; rw [if_pos hne] at he; omega
      have := (not_congr (h.err hr)).1 h0
      rw [(h.wf hr)]
      have := Classical.not_not.1 this
      omega
    have hcl := cont_len hs hD hn
    have hsN := hs.newO hn hcl
    obtain ⟨o, ho, hob⟩ := newO_on (V := V) (b := n.toNat)
    generalize hx : newX V n.toNat f.toNat data after = x
    have xb : x.b = n.toNat := by rw [← hx]; rfl
    have xid : x.id = S.last + 1 := by rw [← hx, h.last]; rfl
    have eA : addX V x = appO (newO V n.toNat) x := by unfold addX; rw [xb]
    have hC : (addX V x).C = V.C := by rw [eA]; exact (newO_C (V := V)).1
    have hop : ∀ k, (addX V x).opn k = (decide ((x.id : Int) = k) || V.opn k) := fun k => by
      have := opn_app hsN ho (x := x) (by rw [xb]; exact hob) k
      rw [opn_newO] at this
      rw [eA]; exact this
    refine ⟨fun i => if i = S.last + 1 then after.filter V.opn else af i, ?_, ?_, fun b hb => ?_, fun y hy => ?_, fun b hb => ?_⟩
    · show S.last + 1 = _
      rw [eA]; exact xid.symm
    · rw [hC]; exact h.D
    · rw [hC] at hb
      rw [eA, chsV_app _ _ _ ⟨o, ho, by rw [xb]; exact hob⟩, chsV_newO, h.chs b hb]
      have eold : ∀ l : List Ch, (∀ y ∈ l, y ∈ S.l) → l.map (setA fun i => if i = S.last + 1 then after.filter V.opn else af i) = l.map (setA af) := fun l hl => List.map_congr_left fun y hy => by
        have := hr.idr y (hl y hy)
        show ({ y with after := if y.id = S.last + 1 then after.filter V.opn else af y.id } : Ch) = setA af y
        rw [if_neg (by omega)]; rfl
      show _ = ((S.l ++ [newR S n f data after]).filter fun x => decide (x.b = b)).map _
      rw [List.filter_append, List.map_append, eold _ fun y hy => (List.mem_filter.1 hy).1]
      by_cases eb : b = n.toNat
      · rw [if_pos (by rw [xb]; exact eb)]
        congr 1
        rw [List.filter_cons, if_pos (by show decide ((newR S n f data after).b = b) = true; exact decide_eq_true eb.symm), List.filter_nil, List.map_cons, List.map_nil]
        congr 1
        rw [← hx]
        unfold setA newX newR
        simp only [if_pos]
        rw [h.last]
      · rw [if_neg (by rw [xb]; exact eb), List.filter_cons, if_neg (by show ¬ decide ((newR S n f data after).b = b) = true; rw [decide_eq_true_eq]; exact fun e => eb e.symm), List.filter_nil, List.map_nil, List.append_nil]
    · rcases List.mem_append.1 hy with hy | hy
      · have hid := hr.idr y hy
        rw [if_neg (by omega)]
        refine ⟨(h.aft y hy).1, fun k hk ho => (h.aft y hy).2 k hk ?_⟩
        have := hr.aft y hy k hk
        rw [hop, decide_eq_false (by omega), Bool.false_or] at ho
        exact ho
      · rw [List.mem_singleton.1 hy]
        rw [if_pos (show (newR S n f data after).id = S.last + 1 from rfl)]
        refine ⟨fun k hk => (List.mem_filter.1 hk).1, fun k hk ho => List.mem_filter.2 ⟨hk, ?_⟩⟩
        have hgood : ∀ k ∈ after, 1 ≤ k ∧ k ≤ (S.last : Int) := by
          have he' : patER S n f data after = 0 := by rw [hE]; exact he
          unfold patER at he'
          split at he'
          · omega
          · split at he'
            · omega
            · split at he'
              · omega
              · rename_i h3
                simpa using h3
        have := hgood k hk
        rw [hop, decide_eq_false (by omega), Bool.false_or] at ho
        exact ho
    · rw [hC] at hb
      rw [eA, bse_app, bse_newO]
      exact h.base b hb
  · have e1 : patS V n f data after = V := by unfold patS; rw [if_neg he]
    have e2 : patSR S n f data after = S := by unfold patSR; rw [if_neg (by rw [hE]; exact he)]
    refine ⟨by rw [e1, e2]; exact ⟨af, h⟩, by unfold patNR patN; rw [if_neg (by rw [hE]; exact he), if_neg he]⟩
theorem RelA.wrE (h : RelA V S af) (hr : WFR S) (hne : ∀ o ∈ V.ons, o.l ≠ []) (n : Int) : wrER S n = wrVE V n := by
  unfold wrER wrVE
  by_cases he : errOf V.C.D n ≠ 0
  · rw [if_pos he, if_pos ((h.err hr).1 he)]
  · have h0 := Classical.not_not.1 ((not_congr (h.err hr)).1 he)
    rw [if_neg he, if_neg (by omega)]
    obtain ⟨b, rfl⟩ := Int.eq_ofNat_of_zero_le h0.1
    have hb : b < V.C.D.vs.length := (h.wf hr).2 (by omega)
    have hc := h.chs b hb
    cases e : onOf V (b : Int) with
    | none =>
      have : chsV V b = [] := by unfold chsV; rw [e]
      rw [this] at hc
      have hf : (S.l.filter fun x => decide (x.b = b)) = [] := List.map_eq_nil_iff.1 hc.symm
      rw [List.filter_eq_nil_iff] at hf
      rw [if_neg]
      · rfl
      · rw [List.any_eq_true]
        rintro ⟨y, hy, e2⟩
        exact hf y hy (by rw [decide_eq_true_eq] at e2 ⊢; omega)
    | some o =>
      have : chsV V b = o.l := by unfold chsV; rw [e]
      rw [this] at hc
      obtain ⟨y, hy⟩ := List.exists_mem_of_ne_nil _ (hne o (onOf_some e).1)
      rw [hc] at hy
      obtain ⟨z, hz, _⟩ := List.mem_map.1 hy
      rw [if_pos]
      · rfl
      · rw [List.any_eq_true]
        refine ⟨z, (List.mem_filter.1 hz).1, ?_⟩
        have := (List.mem_filter.1 hz).2
        rw [decide_eq_true_eq] at this ⊢
        omega
theorem RelA.wr (h : RelA V S af) (hs : WFS V) (hr : WFR S) (hD : WF V.C.D) (hl : V.C.D.left = -1) (hne : ∀ o ∈ V.ons, o.l ≠ []) (n : Int) : Rel (wrV V n) (wrSR S n (mayF V n.toNat)) := by
  have hE := h.wrE hr hne n
  by_cases he : wrVE V n = 0
  · have e1 : wrV V n = { V with C := { V.C with D := wrSt V.C.D n (imgB V n.toNat) }, ons := mapX V (markF V n.toNat) } := by unfold wrV; rw [if_pos he]
    have e2 : wrSR S n (mayF V n.toNat) = { S with D := wrSt S.D n (rdR S n.toNat (mayF V n.toNat)), l := S.l.map (outF (mayF V n.toNat)) } := by unfold wrSR; rw [if_pos (by rw [hE]; exact he)]
    have hon : ∃ o, onOf V n = some o := by
      unfold wrVE at he
      split at he
      · omega
      · split at he
        · omega
        · rename_i h2
          cases e : onOf V n with
          | none => rw [e] at h2; exact absurd rfl h2
          | some o => exact ⟨o, rfl⟩
    obtain ⟨o, ho⟩ := hon
    have hob := onOf_some ho
    have hnb : n.toNat = o.b := by omega
    have hbl := hs.onlt o hob.1
    rw [e1, e2, hnb]
    have eon : ∀ b : Nat, onOf { V with C := { V.C with D := wrSt V.C.D n (imgB V o.b) }, ons := mapX V (markF V o.b) } (b : Int) = (onOf V (b : Int)).map fun o' => { o' with l := o'.l.map (markF V o.b) } := fun b => by
      unfold mapX
      exact onOf_map V.ons _ V.last (fun o' => { o' with l := o'.l.map (markF V o.b) }) (fun _ => rfl) _
    have hvs : (wrSt V.C.D n (imgB V o.b)).vs.length = V.C.D.vs.length := len_wr _ _ _
    refine ⟨af, h.last, ?_, fun b hb => ?_, fun y hy => ?_, fun b hb => ?_⟩
    · show wrSt S.D n (rdR S o.b (mayF V o.b)) = wrSt V.C.D n (imgB V o.b)
      rw [h.D, h.img hbl]
    · have hb : b < V.C.D.vs.length := by rw [← hvs]; exact hb
      have e3 : chsV { V with C := { V.C with D := wrSt V.C.D n (imgB V o.b) }, ons := mapX V (markF V o.b) } b = (chsV V b).map (markF V o.b) := by
        unfold chsV
        rw [eon b]
        cases onOf V (b : Int) <;> rfl
      rw [e3, h.chs b hb]
      show _ = ((S.l.map (outF (mayF V o.b))).filter fun x => decide (x.b = b)).map (setA af)
      rw [List.filter_map, List.map_map, List.map_map]
      refine List.map_congr_left fun y hy => ?_
      show markF V o.b (setA af y) = setA af (outF (mayF V o.b) y)
      unfold markF outF setA mayF
      by_cases e : y.b = o.b
      · simp [e]
      · simp [e]
    · have hy : y ∈ S.l.map (outF (mayF V o.b)) := hy
      obtain ⟨z, hz, rfl⟩ := List.mem_map.1 hy
      refine ⟨(h.aft z hz).1, fun k hk hk' => (h.aft z hz).2 k hk ?_⟩
      have := opn_mapX (V := V) (C := { V.C with D := wrSt V.C.D n (imgB V o.b) }) (markF_like V o.b)
      rw [← this]; exact hk'
    · have hb : b < V.C.D.vs.length := by rw [← hvs]; exact hb
      rw [show S.base[b]? = some (bse V b) from h.base b hb]
      congr 1
      unfold bse
      rw [eon b]
      cases e : onOf V (b : Int) with
      | some o' => rfl
      | none =>
        show atD V.C.D b = atD (wrSt V.C.D n (imgB V o.b)) b
        have hbo : b ≠ o.b := fun e' => onOf_none e o hob.1 (by omega)
        rw [hob.2, atD_wrN hbl (img_len hs hD hbl) hl, if_neg hbo]
  · have e1 : wrV V n = V := by unfold wrV; rw [if_neg he]
    have e2 : wrSR S n (mayF V n.toNat) = S := by unfold wrSR; rw [if_neg (by rw [hE]; exact he)]
    rw [e1, e2]; exact ⟨af, h⟩
theorem find_fmap {l : List On} (hn : (l.map (·.b)).Nodup) (b : Nat) : (l.filterMap flOn).find? (fun o => (o.b : Int) == (b : Int)) = (l.find? fun o => (o.b : Int) == (b : Int)).bind flOn := by
  induction l with
  | nil => rfl
  | cons o r ih =>
    rw [List.map_cons, List.nodup_cons] at hn
    by_cases e : (o.b : Int) = (b : Int)
    · rw [List.find?_cons_of_pos (by simpa using e)]
      show _ = flOn o
      cases ef : flOn o with
      | some o' =>
        have hb := flOn_b ef
        rw [List.filterMap_cons_some ef, List.find?_cons_of_pos]
        rw [hb]; simpa using e
      | none =>
        rw [List.filterMap_cons_none ef]
        rw [List.find?_eq_none]
        intro p hp hpb
        obtain ⟨q, hq, eq⟩ := List.mem_filterMap.1 hp
        have := flOn_b eq
        have hpb : (p.b : Int) = b := by simpa using hpb
        exact hn.1 (List.mem_map.2 ⟨q, hq, by omega⟩)
    · rw [List.find?_cons_of_neg (by simpa using e)]
      rw [← ih hn.2]
      cases ef : flOn o with
      | some o' =>
        have hb := flOn_b ef
        rw [List.filterMap_cons_some ef, List.find?_cons_of_neg]
        rw [hb]; simpa using e
      | none => rw [List.filterMap_cons_none ef]
theorem RelA.fl (h : RelA V S af) (hs : WFS V) (hl : V.C.D.left = -1) (hacc : ∀ o ∈ V.ons, atD V.C.D o.b = withL o.base (o.l.filter (·.out))) : Rel (flV V) (flR S) := by
  have eon : ∀ b : Nat, onOf (flV V) (b : Int) = (onOf V (b : Int)).bind flOn := fun b => by
    unfold onOf flV
    exact find_fmap hs.onsN b
  have hvs : (flV V).C.D.vs.length = V.C.D.vs.length := fl_len V.C.D
  have hfd : ∀ (b : Nat) (o : On), onOf V (b : Int) = some o → chsV V b = o.l ∧ bse V b = o.base := fun b o e => by
    unfold chsV bse; rw [e]; exact ⟨rfl, rfl⟩
  refine ⟨af, h.last, ?_, fun b hb => ?_, fun y hy => ?_, fun b hb => ?_⟩
  · show flSt S.D = flSt V.C.D
    rw [h.D]
  · have hb : b < V.C.D.vs.length := by rw [← hvs]; exact hb
    have hc := h.chs b hb
    have e3 : chsV (flV V) b = (chsV V b).filter fun x => !x.out := by
      cases e : onOf V (b : Int) with
      | none =>
        unfold chsV; rw [eon b, e]; rfl
      | some o =>
        rw [(hfd b o e).1]
        unfold chsV; rw [eon b, e]
        show (match flOn o with | some o => o.l | none => []) = _
        unfold flOn
        split
        · rename_i h1
          split at h1
          · cases h1
          · cases h1; rfl
        · rename_i h1
          split at h1
          · rename_i h2
            rw [List.isEmpty_iff.1 h2]
          · cases h1
    rw [e3, hc]
    show _ = ((S.l.filter fun x => !x.out).filter fun x => decide (x.b = b)).map (setA af)
    rw [List.filter_map, List.filter_filter, List.filter_filter]
    congr 1
    refine List.filter_congr fun y _ => ?_
    show (!y.out && decide (y.b = b)) = (decide (y.b = b) && !y.out)
    exact Bool.and_comm _ _
  · have hy : y ∈ S.l.filter fun x => !x.out := hy
    have hy1 := (List.mem_filter.1 hy).1
    refine ⟨(h.aft y hy1).1, fun k hk ho => (h.aft y hy1).2 k hk ?_⟩
    obtain ⟨x, hx, _, e⟩ := opn_fl.1 ho
    exact opn_iff.2 ⟨x, hx, e⟩
  · have hb : b < V.C.D.vs.length := by rw [← hvs]; exact hb
    have hbase := h.base b hb
    have hc := h.chs b hb
    obtain ⟨hbs, ebs⟩ := List.getElem?_eq_some_iff.1 hbase
    show (basR S S.l)[b]? = _
    rw [basR_get hbs, ebs]
    congr 1
    have e4 : (S.l.filter fun c => decide (c.b = b) && c.out).map (setA af) = (chsV V b).filter (·.out) := by
      rw [hc, List.filter_map, List.filter_filter]
      congr 1
      refine List.filter_congr fun y _ => ?_
      show (decide (y.b = b) && y.out) = (y.out && decide (y.b = b))
      exact Bool.and_comm _ _
    rw [← withL_setA af, e4]
    cases e : onOf V (b : Int) with
    | none =>
      have h1 : chsV V b = [] := by unfold chsV; rw [e]
      have h2 : bse V b = atD V.C.D b := by unfold bse; rw [e]
      have h3 : bse (flV V) b = atD (flSt V.C.D) b := by unfold bse; rw [eon b, e]; rfl
      rw [h1, h2, h3, atD_fl hl]; rfl
    | some o =>
      obtain ⟨h1, h2⟩ := hfd b o e
      have hob := onOf_some e
      have hbo : o.b = b := by omega
      rw [h1, h2]
      have h3 : bse (flV V) b = match flOn o with | some o => o.base | none => atD (flSt V.C.D) b := by unfold bse; rw [eon b, e]; rfl
      rw [h3]
      cases ef : flOn o with
      | some o' =>
        unfold flOn at ef
        split at ef
        · cases ef
        · cases ef; rfl
      | none =>
        show _ = atD (flSt V.C.D) b
        rw [atD_fl hl, ← hbo]
        exact (hacc o hob.1).symm
end
end Go.Proofs.YtocjjigmpgekfaaGreat
end
section
/- Layer 12, in plain terms: rounds of writes and flushes; each makes fewer changes open. -/
open Go Go.Den Go.Proofs
namespace Go.Proofs.YtocjjigmpgekfaaGreat
def stepR (p : Ps × Nat) (k : Int) : Ps × Nat := if readyV p.1 k = 0 then p else (wrV p.1 k, p.2 + 1)
def roundP (V : Ps) (ks : List Int) : Ps × Nat := (flV (ks.foldl stepR (V, 0)).1, (ks.foldl stepR (V, 0)).2)
def rnds (nx : Ps → List Int) : Nat → Ps → Nat × Ps
  | 0, V => (0, V)
  | f + 1, V => if nx V = [] then (0, V) else ((roundP V (nx V)).2 + (rnds nx f (roundP V (nx V)).1).1, (rnds nx f (roundP V (nx V)).1).2)
theorem rnds_nil {nx : Ps → List Int} {f : Nat} {V : Ps} (h : nx V = []) : rnds nx f V = (0, V) := by
  cases f with
  | zero => rfl
  | succ f => unfold rnds; rw [if_pos h]
theorem rnds_succ {nx : Ps → List Int} {f : Nat} {V : Ps} (h : nx V ≠ []) : rnds nx (f + 1) V = ((roundP V (nx V)).2 + (rnds nx f (roundP V (nx V)).1).1, (rnds nx f (roundP V (nx V)).1).2) := by
  show (if nx V = [] then _ else _) = _
  rw [if_neg h]
theorem rnds_more {nx : Ps → List Int} (good : Ps → Prop) (hg : ∀ V, good V → nx V ≠ [] → good (roundP V (nx V)).1 ∧ openV (roundP V (nx V)).1 < openV V) (h0 : ∀ V, good V → openV V = 0 → nx V = []) :
    ∀ {f g : Nat} {V : Ps}, good V → openV V ≤ f → openV V ≤ g → rnds nx f V = rnds nx g V
  | 0, g, V, hV, hf, _ => by
    have := h0 V hV (by omega)
    rw [rnds_nil this, rnds_nil this]
  | f + 1, 0, V, hV, _, hg' => by
    have := h0 V hV (by omega)
    rw [rnds_nil this, rnds_nil this]
  | f + 1, g + 1, V, hV, h1, h2 => by
    by_cases hn : nx V = []
    · rw [rnds_nil hn, rnds_nil hn]
    · obtain ⟨a, b⟩ := hg V hV hn
      rw [rnds_succ hn, rnds_succ hn, rnds_more good hg h0 (f := f) (g := g) a (by omega) (by omega)]
/-- One round more. -/
theorem rnds_step {nx : Ps → List Int} (good : Ps → Prop) (hg : ∀ V, good V → nx V ≠ [] → good (roundP V (nx V)).1 ∧ openV (roundP V (nx V)).1 < openV V) (h0 : ∀ V, good V → openV V = 0 → nx V = [])
    {V : Ps} (hV : good V) (hn : nx V ≠ []) : rnds nx (openV V) V = ((roundP V (nx V)).2 + (rnds nx (openV (roundP V (nx V)).1) (roundP V (nx V)).1).1, (rnds nx (openV (roundP V (nx V)).1) (roundP V (nx V)).1).2) := by
  obtain ⟨a, b⟩ := hg V hV hn
  have e : openV V = (openV V - 1) + 1 := by omega
  rw [e, rnds_succ hn, rnds_more good hg h0 (f := openV V - 1) (g := openV (roundP V (nx V)).1) a (by omega) (Nat.le_refl _)]
section
variable {V W : Ps}
theorem WFS.wr (h : WFS V) (n : Int) : WFS (wrV V n) := by
  unfold wrV
  split
  · exact h.mapX (markF_like V n.toNat) (len_wr _ _ _) rfl
  · exact h
theorem WFS.flush (h : WFS V) : WFS (flV V) := by
  have := h.fl (C := { V.C with D := flSt V.C.D }) (vis := fun _ => true) (fl_len _) rfl
  have e : V.ons.filterMap (flG fun _ => true) = V.ons.filterMap flOn := fmap_congr fun o _ => by unfold flG; rw [if_pos rfl]
  rw [e] at this
  exact this
theorem Sim.on (h : Sim V W) {o : On} (ho : o ∈ V.ons) : ∃ f, Like f ∧ { o with l := o.l.map f } ∈ W.ons ∧ mayL W.opn (o.l.map f) = mayL V.opn o.l ∧ W.opn = V.opn := by
  obtain ⟨hl, f, hf, e⟩ := h
  have hop : W.opn = V.opn := by
    have h1 := opn_mapX (V := V) (C := W.C) hf
    have e2 : W = ⟨W.C, V.last, mapX V f⟩ := by rw [← hl, ← e]
    rw [e2]; exact h1
  exact ⟨f, hf, by rw [e]; exact List.mem_map.2 ⟨o, ho, rfl⟩, by rw [mayL_map hf, hop], hop⟩
theorem readyV_on (h : WFS W) {o : On} (ho : o ∈ W.ons) : readyV W (o.b : Int) = (o.l.filter fun x => (mayL W.opn o.l).contains (x.id : Int) && !x.out).length := by
  unfold readyV; rw [onOf_mem h ho]
theorem Mkd.may (hs : WFS W) {o : On} {x : Ch} (ho : o ∈ W.ons) (hx : x ∈ o.l) (hm : (x.id : Int) ∈ mayL W.opn o.l) : Mkd (wrV W (o.b : Int)) x.id := by
  unfold wrV
  rw [if_pos (wrVE_on hs ho), Int.toNat_natCast]
  refine ⟨markF W o.b x, ?_, (markF_like W o.b).id x, ?_⟩
  · show _ ∈ Ps.all ⟨_, W.last, mapX W (markF W o.b)⟩
    rw [all_mapX]; exact List.mem_map.2 ⟨x, on_all ho hx, rfl⟩
  · unfold markF
    rw [if_pos (hs.chb o ho x hx)]
    show (x.out || (mayB W o.b).contains (x.id : Int)) = true
    have : mayB W o.b = mayL W.opn o.l := by unfold mayB; rw [onOf_mem hs ho]
    rw [this]
    have : (mayL W.opn o.l).contains (x.id : Int) = true := by simpa using hm
    rw [this, Bool.or_true]
/-- One that may be written is, once its block's turn has come. -/
theorem fold_mkd (hs : WFS V) {o : On} {x : Ch} (ho : o ∈ V.ons) (hx : x ∈ o.l) (hm : (x.id : Int) ∈ mayL V.opn o.l) : ∀ (ks : List Int) (W : Ps) (c : Nat), Sim V W → WFS W → (Mkd W x.id ∨ (o.b : Int) ∈ ks) → Mkd (ks.foldl stepR (W, c)).1 x.id ∧ Sim V (ks.foldl stepR (W, c)).1 ∧ WFS (ks.foldl stepR (W, c)).1
  | [], W, c, hS, hW, h => ⟨h.resolve_right (fun e => by cases e), hS, hW⟩
  | k :: ks, W, c, hS, hW, h => by
    rw [List.foldl_cons]
    have hstep : ∃ W' c', stepR (W, c) k = (W', c') ∧ Sim V W' ∧ WFS W' ∧ (Mkd W' x.id ∨ (o.b : Int) ∈ ks) := by
      unfold stepR
      by_cases hr : readyV W k = 0
      · refine ⟨W, c, by rw [if_pos hr], hS, hW, ?_⟩
        rcases h with h | h
        · exact .inl h
        · rcases List.mem_cons.1 h with e | e
          · left
            subst e
            obtain ⟨f, hf, ho', hmay, hop⟩ := hS.on ho
            rw [readyV_on hW ho'] at hr
            dsimp only at hr
            have hx' : f x ∈ o.l.map f := List.mem_map.2 ⟨x, hx, rfl⟩
            refine ⟨f x, on_all ho' hx', hf.id x, ?_⟩
            cases hout : (f x).out with
            | true => rfl
            | false =>
              have hmem : f x ∈ (o.l.map f).filter fun y => (mayL W.opn (o.l.map f)).contains (y.id : Int) && !y.out := List.mem_filter.2 ⟨hx', by
                rw [hout, hf.id, hmay]
                have : (mayL V.opn o.l).contains (x.id : Int) = true := by simpa using hm
                rw [this]; rfl⟩
              have := List.length_pos_of_mem hmem
              omega
          · exact .inr e
      · refine ⟨wrV W k, c + 1, by rw [if_neg hr], hS.wr k, hW.wr k, ?_⟩
        rcases h with h | h
        · exact .inl (h.wr k)
        · rcases List.mem_cons.1 h with e | e
          · left
            subst e
            obtain ⟨f, hf, ho', hmay, hop⟩ := hS.on ho
            have := Mkd.may hW ho' (x := f x) (List.mem_map.2 ⟨x, hx, rfl⟩) (by rw [hf.id, hmay]; exact hm)
            rw [hf.id] at this
            exact this
          · exact .inr e
    obtain ⟨W', c', e, h1, h2, h3⟩ := hstep
    rw [e]
    exact fold_mkd hs ho hx hm ks W' c' h1 h2 h3
theorem round_fewer (hs : WFS V) {o : On} {x : Ch} {ks : List Int} (ho : o ∈ V.ons) (hx : x ∈ o.l) (hm : (x.id : Int) ∈ mayL V.opn o.l) (hk : (o.b : Int) ∈ ks) : openV (roundP V ks).1 < openV V := by
  obtain ⟨h1, h2, h3⟩ := fold_mkd hs ho hx hm ks V 0 (Sim.refl V) hs (.inr hk)
  have := h1.fewer
  rw [h2.num] at this
  exact this
/-- The blocks in which those stand that wait with one. -/
def oneB (id : Int) (V : Ps) : List Int := ((List.range V.C.D.vs.length).filter fun b => V.all.any fun x => decide (x.b = b) && (waitsV V id).contains (x.id : Int)).map fun b : Nat => (b : Int)
theorem mem_oneB {id k : Int} : k ∈ oneB id V ↔ ∃ x ∈ V.all, x.b < V.C.D.vs.length ∧ k = (x.b : Int) ∧ (x.id : Int) ∈ waitsV V id := by
  unfold oneB
  rw [List.mem_map]
  constructor
  · rintro ⟨b, hb, rfl⟩
    obtain ⟨h1, h2⟩ := List.mem_filter.1 hb
    obtain ⟨x, hx, e⟩ := List.any_eq_true.1 h2
    rw [Bool.and_eq_true, decide_eq_true_eq, List.contains_iff_mem] at e
    exact ⟨x, hx, by rw [e.1]; exact List.mem_range.1 h1, by rw [e.1], e.2⟩
  · rintro ⟨x, hx, hl, rfl, hw⟩
    refine ⟨x.b, List.mem_filter.2 ⟨List.mem_range.2 hl, List.any_eq_true.2 ⟨x, hx, ?_⟩⟩, rfl⟩
    rw [Bool.and_eq_true, decide_eq_true_eq, List.contains_iff_mem]
    exact ⟨rfl, hw⟩
theorem oneB_srt (id : Int) (V : Ps) : (oneB id V).Pairwise (· < ·) := by
  unfold oneB
  rw [List.pairwise_map]
  exact (List.pairwise_lt_range.filter _).imp fun h => by omega
theorem oneB_len (id : Int) (V : Ps) : (oneB id V).length ≤ V.C.D.vs.length := by
  unfold oneB
  rw [List.length_map]
  have := List.length_filter_le (fun b => V.all.any fun x => decide (x.b = b) && (waitsV V id).contains (x.id : Int)) (List.range V.C.D.vs.length)
  rwa [List.length_range] at this
/-- What rounds need of a store. -/
structure Gd (V : Ps) : Prop where
  s : WFS V
  f : ∀ x ∈ V.all, ∀ k ∈ x.after, k < (x.id : Int)
  srt : Srt V
  ne : ∀ o ∈ V.ons, o.l ≠ []
  sm : V.C.D.vs.length ≤ 4096
theorem Gd.wr (h : Gd V) (n : Int) : Gd (wrV V n) := by
  refine ⟨h.s.wr n, ?_, h.srt.wr n, ?_, by rw [(wr_opn (V := V) n).2.2.2]; exact h.sm⟩
  · unfold wrV
    split
    · intro x hx
      have hx : x ∈ Ps.all ⟨_, V.last, mapX V (markF V n.toNat)⟩ := hx
      rw [all_mapX] at hx
      obtain ⟨y, hy, rfl⟩ := List.mem_map.1 hx
      rw [(markF_like V n.toNat).after, (markF_like V n.toNat).id]
      exact h.f y hy
    · exact h.f
  · unfold wrV
    split
    · intro o ho
      have ho : o ∈ mapX V (markF V n.toNat) := ho
      obtain ⟨p, hp, rfl⟩ := List.mem_map.1 ho
      intro e
      exact h.ne p hp (List.map_eq_nil_iff.1 e)
    · exact h.ne
theorem Gd.fl (h : Gd V) : Gd (flV V) := by
  refine ⟨h.s.flush, fun x hx => ?_, h.srt.fl, fun o ho => ?_, ?_⟩
  · rw [all_fl] at hx
    exact h.f x (List.mem_filter.1 hx).1
  · obtain ⟨p, hp, e⟩ := List.mem_filterMap.1 ho
    unfold flOn at e
    split at e
    · cases e
    · rename_i hn
      cases e
      intro e2
      exact hn (by show (p.l.filter fun x => !x.out).isEmpty = true; rw [List.isEmpty_iff]; exact e2)
  · have : (flV V).C.D.vs.length = V.C.D.vs.length := fl_len _
    rw [this]; exact h.sm
theorem Gd.one (h : Gd V) (id : Int) : (oneB id V).length ≤ 4096 := Nat.le_trans (oneB_len id V) h.sm
theorem Gd.fold : ∀ (ks : List Int) (W : Ps) (c : Nat), Gd W → Gd (ks.foldl stepR (W, c)).1
  | [], _, _, h => h
  | k :: ks, W, c, h => by
    rw [List.foldl_cons]
    unfold stepR
    split
    · exact Gd.fold ks W c h
    · exact Gd.fold ks _ _ (h.wr k)
theorem Gd.round (h : Gd V) (ks : List Int) : Gd (roundP V ks).1 := (Gd.fold ks V 0 h).fl
theorem least_of : ∀ {l : List Int}, l ≠ [] → ∃ k ∈ l, ∀ j ∈ l, k ≤ j
  | [], h => absurd rfl h
  | [k], _ => ⟨k, by simp, fun j hj => by rw [List.mem_singleton.1 hj]; omega⟩
  | k :: a :: r, _ => by
    obtain ⟨m, hm, hmin⟩ := least_of (l := a :: r) (by simp)
    by_cases e : k ≤ m
    · exact ⟨k, by simp, fun j hj => by
        rcases List.mem_cons.1 hj with rfl | hj
        · omega
        · have := hmin j hj; omega⟩
    · exact ⟨m, List.mem_cons_of_mem _ hm, fun j hj => by
        rcases List.mem_cons.1 hj with rfl | hj
        · omega
        · exact hmin j hj⟩
theorem waits_dep (h : Gd V) {id : Int} {y z : Ch} (hy : y ∈ V.all) (hw : (y.id : Int) ∈ waitsV V id) (hz : z ∈ V.all) (hd : Dep y z) : (z.id : Int) ∈ waitsV V id := by
  rw [mem_waitsV h.s h.f] at hw ⊢
  obtain ⟨x, hx, e, u, hu, eu⟩ := hw
  have : u = y := by
    exact map_inj h.s.ids (hu.mem hx) hy (by omega)
  subst this
  exact ⟨x, hx, e, z, hu.trans (Rc.head hz hd (Rc.refl _)), rfl⟩
theorem one_fewer (h : Gd V) (id : Int) (hn : oneB id V ≠ []) : openV (roundP V (oneB id V)).1 < openV V := by
  obtain ⟨k0, hk0⟩ := List.exists_mem_of_ne_nil _ hn
  obtain ⟨x0, hx0, _, _, hw0⟩ := mem_oneB.1 hk0
  have hwn : waitsV V id ≠ [] := fun e => by rw [e] at hw0; cases hw0
  obtain ⟨k, hk, hmin⟩ := least_of hwn
  have hk' := hk
  rw [mem_waitsV h.s h.f] at hk'
  obtain ⟨x1, hx1, _, x, hxr, rfl⟩ := hk'
  have hx := hxr.mem hx1
  obtain ⟨o, ho, hxo⟩ := mem_all.1 hx
  have hob := h.s.chb o ho x hxo
  have hlt := h.s.onlt o ho
  obtain ⟨p, hp, ep⟩ := List.getElem_of_mem hxo
  have hxp : o.l[p]? = some x := by rw [List.getElem?_eq_getElem hp, ep]
  have hm : (x.id : Int) ∈ mayL V.opn o.l := by
    rw [mayL_iff (h.srt o ho) hxp (h.f x hx)]
    constructor
    · intro k hka ho'
      obtain ⟨z, hz, ez⟩ := opn_iff.1 ho'
      have h1 := hmin _ (waits_dep h hx hk hz (.inl (by rw [ez]; exact hka)))
      have h2 := h.f x hx k hka
      omega
    · intro u hu hmu
      obtain ⟨hu1, hu2⟩ := (mem_take_srt (h.srt o ho) hxp).1 hu
      have hub := h.s.chb o ho u hu1
      have h1 := hmin _ (waits_dep h hx hk (on_all ho hu1) (.inr ⟨hu2, by unfold meetR; rw [decide_eq_true (by omega), Bool.true_and]; exact hmu⟩))
      omega
  exact round_fewer h.s ho hxo hm (mem_oneB.2 ⟨x, hx, by omega, by rw [hob], hk⟩)
theorem open0_one (id : Int) (h : openV V = 0) : oneB id V = [] := by
  refine List.eq_nil_iff_forall_not_mem.2 fun k hk => ?_
  obtain ⟨x, hx, _⟩ := mem_oneB.1 hk
  unfold openV at h
  rw [List.eq_nil_of_length_eq_zero h] at hx
  cases hx
end
end Go.Proofs.YtocjjigmpgekfaaGreat
end
section
/- What the bound of the second form gives (began as the kit's template UptoLemmas). -/
namespace Go.Proofs.YtocjjigmpgekfaaGreat.bulks

theorem one_le {H : Type} (d : DataW H) : 1 ≤ Rows.uptoBulk d := by
  cases d with
  | lit l => cases l <;> simp [Rows.uptoBulk]
  | nil => simp [Rows.uptoBulk]
  | ptr d => simp [Rows.uptoBulk]
  | slice elems spare => simp [Rows.uptoBulk]
  | agg parts => simp [Rows.uptoBulk]
  | iface t d => simp [Rows.uptoBulk]
  | map entries => simp [Rows.uptoBulk]
  | held h => simp [Rows.uptoBulk]

theorem append {H : Type} (l r : List (DataW H)) : Rows.uptoBulkAll (l ++ r) = Rows.uptoBulkAll l + Rows.uptoBulkAll r := by
  induction l with
  | nil => simp [Rows.uptoBulkAll]
  | cons x l ih => simp only [List.cons_append, Rows.uptoBulkAll, ih]; omega

/-- so many values at the most -/
theorem length_le {H : Type} (l : List (DataW H)) : l.length ≤ Rows.uptoBulkAll l := by
  induction l with
  | nil => simp [Rows.uptoBulkAll]
  | cons x r ih => have := one_le x; simp only [Rows.uptoBulkAll, List.length_cons]; omega

end Go.Proofs.YtocjjigmpgekfaaGreat.bulks
end
section
/- A law's last step: it returned true, and below the heap's size nothing has turned. -/
open Go Go.Den
namespace Go.Den
open Go.RowKit Go.ChangeShapes Go.WideShapes
section
variable {H : Type} {enc : TypeId × Value → H} {P : Program}

theorem trodAll_below (hl : laidOutB P = true) {W W' : World} (hb : Below W.heap.size W W') : ∀ {ts : List TypeId} {vs : List Value} {ds : List (DataW H)} {ps : List MemPlace},
    (ts.all fun t => P.readableRec t && decide (t < P.types.size)) = true → DataW.TrodAll enc P W 0 (fun _ => true) true ts vs ds ps → (∀ x ∈ ps, x.block < W.heap.size) →
    DataW.TrodAll enc P W' 0 (fun b => decide (b < W.heap.size)) true ts vs ds ps
  | [], [], [], _, _, h, _ => h
  | [], [], _ :: _, _, _, h, _ => h.elim
  | [], _ :: _, _, _, _, h, _ => h.elim
  | _ :: _, [], _, _, _, h, _ => h.elim
  | _ :: _, _ :: _, [], _, _, h, _ => h.elim
  | t :: ts, v :: vs, d :: ds, ps, hr, h, hlt => by
    simp only [List.all_cons, Bool.and_eq_true, decide_eq_true_eq] at hr
    obtain ⟨p, q, h1, h2, rfl⟩ := h
    exact ⟨p, q, Below.trod hl hr.1.1 hr.1.2 h1 hb (fun x hx => hlt x (List.mem_append_left _ hx)), trodAll_below hl hb hr.2 h2 (fun x hx => hlt x (List.mem_append_right _ hx)), rfl⟩

theorem law_post {f : Func} {s : ChangeSpec} {apart handsOn : Bool} {W W' : World} {args : Array Value} {ds gs : List (DataW H)} {before : List MemPlace} {tb : TypeId} (hl : laidOutB P = true)
    (hW : DataW.Whole enc P f.params.toList s.vars apart W args.toList ds gs before) (hv : s.vars = []) (hr : (f.params.toList.all fun t => P.readableRec t && decide (t < P.types.size)) = true)
    (hrt : f.resultTypes = #[tb]) (htb : P.underlying tb = some .bool) (hs : s.fn H ds = { results := [.lit (.bool true)], args := ds }) (hb : Below W.heap.size W W') :
    s.post enc P f apart true handsOn false W args (.bool true) W' := by
  have hlt : ∀ p ∈ before, p.block < W.heap.size := fun p hp => hW.lt p hp
  have hW0 := hW
  obtain ⟨p, q, hA, hV, he, _, _⟩ := hW
  rw [hv] at hV
  have hgs : gs = [] ∧ q = [] := by
    cases gs with
    | nil => exact ⟨rfl, hV⟩
    | cons a r => exact hV.elim
  obtain ⟨rfl, rfl⟩ := hgs
  rw [List.append_nil] at he
  subst he
  refine ⟨ds, [], before, [], before, [], hW0, ?_, ?_, ?_, World.keptBut_mono (fun x hx => ⟨hx, .inr (.inl hx)⟩) (hb.frame (· ∈ before)), fun h => Bool.noConfusion h⟩
  · rw [hrt, List.append_nil, hs]
    exact ⟨[], [], shut_bool htb true, rfl, rfl⟩
  · rw [List.append_nil, hs]
    exact trodAll_below hl hb hr hA hlt
  · rw [hv, List.append_nil, hs]; rfl
end
end Go.Den
end
section
/- Small laws for the last step of a statement. -/
open Go Go.Den
namespace Go.Proofs.YtocjjigmpgekfaaGreat
open Go.ChangeShapes Go.WideShapes Go.ChangeAt Go.RowKit

theorem own_none : ownKnob Tryz.prog.godebug = none := by kernel_rfl
theorem laid_out : laidOutB Tryz.prog = true := by kernel_rfl

theorem cal_calls {f : FuncId} {args : Array Value} {w : World} {K : Value → World → Prop} {R : Ending → World → Prop} (h : Cal Tryz.prog f args w K) (hk : ∀ v w', K v w' → R (.returned v) w') : Calls Tryz.prog f args w R :=
  h.2.mono fun e w' he => by cases e <;> first | exact hk _ _ he | exact he.elim

end Go.Proofs.YtocjjigmpgekfaaGreat
end
section
/- Layer 11: both stores in memory, apart and alike; a call done to both; all that is seen of both. -/
open Go Go.Den Go.Proofs
namespace Go.Proofs.YtocjjigmpgekfaaGreat
structure T11 (w0 : World) (R R2 : Nat → Prop) (w : World) (sp d rp r : Nat) (V : Ps) (S : Rs) : Prop where
  p : Pz w0 R w sp d V
  q : Rx w0 R2 w rp r S
  dis : ∀ x, R x → ¬ R2 x
section
variable {w0 w w' : World} {R R2 : Nat → Prop} {sp d rp r : Nat} {V V' : Ps} {S S' : Rs} {K : Value → World → Prop}
theorem T11.nos (h : T11 w0 R R2 w sp d rp r V S) (m : Mod No w w') : T11 w0 R R2 w' sp d rp r V S := ⟨h.p.nos m, h.q.nos m, h.dis⟩
theorem T11.drew (h : T11 w0 R R2 w sp d rp r V S) : T11 w0 R R2 (Go.Den.drew w) sp d rp r V S := h.nos (Mod.refl No w).drew
theorem T11.keep {Z : Nat → Prop} (h : T11 w0 R R2 w sp d rp r V S) (m : Mod Z w w') (h1 : ∀ x, R x → ¬ Z x) (h2 : ∀ x, R2 x → ¬ Z x) (hw : ∀ x, x < w0.heap.size → ¬ Z x) : T11 w0 R R2 w' sp d rp r V S := ⟨h.p.keep m h1 hw, h.q.keep m h2 hw, h.dis⟩
/-- What lies outside both. -/
structure Out (w0 : World) (R R2 : Nat → Prop) (w : World) (g : Nat) : Prop where
  p : ¬ R g
  q : ¬ R2 g
  lo : w0.heap.size ≤ g
  lt : g < w.heap.size
theorem Out.nos {g : Nat} (h : Out w0 R R2 w g) (m : Mod No w w') : Out w0 R R2 w' g := ⟨h.p, h.q, h.lo, by have := m.size; have := h.lt; omega⟩
theorem Out.up {g : Nat} (h : Out w0 R R2 w g) (m : w.heap.size ≤ w'.heap.size) : Out w0 R R2 w' g := ⟨h.p, h.q, h.lo, by have := h.lt; omega⟩
theorem T11.fresh {g : Nat} (h : T11 w0 R R2 w sp d rp r V S) (hg : w.heap.size ≤ g) (hl : g < w'.heap.size) : Out w0 R R2 w' g :=
  ⟨fun e => by have := (h.p.lo g e).2; omega, fun e => by have := (h.q.wf.2.2.2 g e).2; omega, by have := h.p.mod.size; omega, hl⟩
/-- Bytes outside both: none, or in a block. -/
def Fz (w0 : World) (R R2 : Nat → Prop) (w : World) (a : Option Addr) (xs : List UInt8) : Prop := (a = none ∧ xs = []) ∨ ∃ g, a = some ⟨g, 0, none⟩ ∧ AtU w g 0 (u8L xs) ∧ Out w0 R R2 w g
theorem Fz.row {a : Option Addr} {xs : List UInt8} (h : Fz w0 R R2 w a xs) : Row w a (u8L xs) := by
  rcases h with ⟨_, rfl⟩ | ⟨g, e, hat, _⟩
  · exact .inl rfl
  · exact .inr ⟨_, _, e, hat.at⟩
theorem Fz.nos {a : Option Addr} {xs : List UInt8} (h : Fz w0 R R2 w a xs) (m : Mod No w w') : Fz w0 R R2 w' a xs := by
  rcases h with h | ⟨g, e, hat, ho⟩
  · exact .inl h
  · exact .inr ⟨g, e, hat.keep m id, ho.nos m⟩
theorem Fz.step {R' : Nat → Prop} {a : Option Addr} {xs : List UInt8} (h : Fz w0 R R2 w a xs) (m : Mod R w w') (hR : ∀ x, R' x → R x ∨ w.heap.size ≤ x) : Fz w0 R' R2 w' a xs := by
  rcases h with h | ⟨g, e, hat, ho⟩
  · exact .inl h
  · exact .inr ⟨g, e, hat.keep m ho.p, fun e => by
      rcases hR g e with e | e
      · exact ho.p e
      · have := ho.lt; omega, ho.q, ho.lo, by have := ho.lt; have := m.size; omega⟩
/-- How far calls may have gone. -/
structure Bd (V : Ps) (m : Nat) : Prop where
  ver : Bnd V.C.D (m + 1)
  last : V.last ≤ m
theorem Bd.pat {m : Nat} (h : Bd V m) (n f : Int) (data : Bk) (after : List Int) : Bd (patS V n f data after) (m + 1) := by
  unfold patS
  split
  · have hC : (addX V (newX V n.toNat f.toNat data after)).C = V.C := by unfold addX appO; exact newO_C.1
    refine ⟨by rw [hC]; exact h.ver.mono (by omega), ?_⟩
    show V.last + 1 ≤ m + 1
    have := h.last; omega
  · exact ⟨h.ver.mono (by omega), by have := h.last; omega⟩
theorem Bd.wr {m : Nat} (h : Bd V m) (n : Int) : Bd (wrV V n) (m + 1) := by
  refine ⟨?_, by rw [(wr_opn n).2.1]; have := h.last; omega⟩
  unfold wrV
  split
  · exact Bnd_wr h.ver _ _
  · exact h.ver.mono (by omega)
theorem Bd.fl {m : Nat} (h : Bd V m) (hl : V.C.D.left = -1) : Bd (flV V) (m + 1) := ⟨Bnd_fl hl (by omega), by show V.last ≤ m + 1; have := h.last; omega⟩
theorem Bd.up {m : Nat} (h : Bd V m) : Bd V (m + 1) := ⟨h.ver.mono (by omega), by have := h.last; omega⟩
end
end Go.Proofs.YtocjjigmpgekfaaGreat
end
section
/- The statement PatchPlays: whatever is changed, written and flushed. -/
open Go Go.Den Go.Proofs
namespace Go.Proofs.YtocjjigmpgekfaaGreat
section
variable {w0 w w' : World} {R R2 : Nat → Prop} {sp d rp r : Nat} {V V' : Ps} {S S' : Rs} {K : Value → World → Prop}
theorem Pz.disk (h : Pz w0 R w sp d V) : ∃ R4 sb mb sc L, DiskIn w R4 d sb mb sc L V.C.D ∧ Small V.C.D := by
  obtain ⟨C, eD, eM, hw, rl, c, mo, mm, ca, oa, Lo, Lm, h⟩ := h
  obtain ⟨rl2, m, sb, mb, sc, lc, la, L, mp, hC⟩ := h.cx
  have hD : Ps.C (⟨C, V.last, V.ons⟩ : Ps) = C := rfl
  have hd := hC.disk
  have hs := hC.wf.small
  rw [hD, eD] at hd hs
  exact ⟨_, sb, mb, sc, L, hd, hs⟩
theorem Rx.disk (h : Rx w0 R w rp r S) : ∃ R4 vb vc hs, RefIn w R4 r vb vc hs S.D := by
  obtain ⟨rl, vb, vc, hs, ba, bc, la, lc, H, h⟩ := h
  exact ⟨_, vb, vc, hs, h.disk⟩
theorem Rx.llast (h : Rx w0 R w rp r S) : Ru (Instr.loadAt 2 (.pointer (some (Addr.add ⟨rp, 0, none⟩ 3)))) w (.int .i64 S.last) w := by
  obtain ⟨rl, vb, vc, hs, ba, bc, la, lc, H, h⟩ := h
  exact h.llast
theorem Rel.start (k n : Nat) : Rel (zeroV k n) (newRs (newSt k)) :=
  ⟨fun _ => [], rfl, rfl, fun b hb => rfl, (fun x hx => by cases hx), fun b hb => by
    show ((List.range (newSt k).vs.length).map fun b => atD (newSt k) b)[b]? = some (atD (newSt k) b)
    have hb : b < (newSt k).vs.length := hb
    simp [hb]⟩
theorem Bd.start (k n : Nat) : Bd (zeroV k n) 0 := ⟨fun v hv => by
  have hv : v ∈ (newSt k).vs := hv
  rw [List.eq_of_mem_replicate hv]; simp, Nat.le_refl _⟩
end
end Go.Proofs.YtocjjigmpgekfaaGreat
end
section
/- Layer 12, walked: rows that are freed of doubles; the blocks of those waiting; rounds. -/
open Go Go.Den Go.Proofs
namespace Go.Den
theorem least_ex {p : Nat → Prop} (h : ∃ m, p m) : ∃ m, p m ∧ ∀ k, p k → m ≤ k := by
  obtain ⟨m, hm⟩ := h
  induction m using Nat.strongRecOn with
  | _ m ih =>
    by_cases e : ∃ k, k < m ∧ p k
    · obtain ⟨k, hk, hp⟩ := e
      exact ih k hk hp
    · exact ⟨m, hm, fun k hk => Nat.le_of_not_lt fun hl => e ⟨k, hl, hk⟩⟩
/-- A loop whose measure is known to the proof alone. -/
theorem LoopC.by {B : (List Value → World → Prop) → List Value → World → Prop} (J : Nat → List Value → World → Prop) {m : Nat} {x : List Value} {w : World} (h : J m x w)
    (hs : ∀ m x w, J m x w → B (fun x' w' => ∃ m', m' < m ∧ J m' x' w') x w) : LoopC B x w := by
  classical
  let μ : List Value → World → Nat := fun x w => if h : ∃ m, J m x w then Classical.choose (least_ex h) else 0
  have hμ : ∀ x w, (∃ m, J m x w) → J (μ x w) x w ∧ ∀ k, J k x w → μ x w ≤ k := fun x w h => by
    show J (if h : ∃ m, J m x w then Classical.choose (least_ex h) else 0) x w ∧ ∀ k, J k x w → (if h : ∃ m, J m x w then Classical.choose (least_ex h) else 0) ≤ k
    rw [dif_pos h]
    exact Classical.choose_spec (least_ex h)
  refine ⟨fun x w => ∃ m, J m x w, μ, ⟨m, h⟩, fun x w hI => ?_⟩
  have e : (fun x' w' => (∃ m, J m x' w') ∧ μ x' w' < μ x w) = fun x' w' => ∃ m', m' < μ x w ∧ J m' x' w' := by
    funext x' w'
    apply propext
    constructor
    · rintro ⟨h1, h2⟩
      exact ⟨_, h2, (hμ x' w' h1).1⟩
    · rintro ⟨m', hm, hJ⟩
      exact ⟨⟨m', hJ⟩, Nat.lt_of_le_of_lt ((hμ x' w' ⟨m', hJ⟩).2 m' hJ) hm⟩
  show B (fun x' w' => (∃ m, J m x' w') ∧ μ x' w' < μ x w) x w
  rw [e]
  exact hs _ x w (hμ x w hI).1
end Go.Den
namespace Go.Proofs.YtocjjigmpgekfaaGreat
theorem compact_mem (zs : List Int) : ∀ m, m ≤ zs.length → ∀ x, x ∈ Lib.compactUpTo zs.toArray m ↔ x ∈ zs.take m
  | 0, _, x => by simp [Lib.compactUpTo]
  | m + 1, h, x => by
    have hg : ∀ i (hi : i < zs.length), zs.toArray[i]! = zs[i] := fun i hi => by simp [hi]
    rw [Lib.compactUpTo_succ, List.mem_append, compact_mem zs m (by omega), List.take_succ_eq_append_getElem (by omega : m < zs.length), List.mem_append, List.mem_singleton]
    by_cases hk : Lib.keeps zs.toArray m = true
    · rw [if_pos hk, List.mem_singleton, hg m (by omega)]
    · rw [if_neg hk]
      have hk' : ¬ (m = 0 ∨ zs.toArray[m]! ≠ zs.toArray[m - 1]!) := fun e => hk (decide_eq_true e)
      have hm : m ≠ 0 := fun e => hk' (.inl e)
      have he : zs.toArray[m]! = zs.toArray[m - 1]! := Classical.byContradiction fun e => hk' (.inr e)
      rw [hg m (by omega), hg (m - 1) (by omega)] at he
      constructor
      · rintro (h1 | h1)
        · exact .inl h1
        · cases h1
      · rintro (h1 | h1)
        · exact .inl h1
        · left
          rw [h1, he]
          exact List.mem_take_iff_getElem.2 ⟨m - 1, by omega, rfl⟩
theorem compact_srt {zs : List Int} (hs : zs.Pairwise (· ≤ ·)) : ∀ m, m ≤ zs.length → (Lib.compactUpTo zs.toArray m).Pairwise (· < ·)
  | 0, _ => by simp [Lib.compactUpTo]
  | m + 1, h => by
    have hg : ∀ i (hi : i < zs.length), zs.toArray[i]! = zs[i] := fun i hi => by simp [hi]
    rw [Lib.compactUpTo_succ, List.pairwise_append]
    refine ⟨compact_srt hs m (by omega), by split <;> simp, fun x hx y hy => ?_⟩
    split at hy
    · rename_i hk
      rw [List.mem_singleton, hg m (by omega)] at hy
      rw [hy]
      rw [compact_mem zs m (by omega)] at hx
      obtain ⟨j, hj, e⟩ := List.mem_take_iff_getElem.1 hx
      have hk : m = 0 ∨ zs.toArray[m]! ≠ zs.toArray[m - 1]! := of_decide_eq_true hk
      have hne : zs.toArray[m]! ≠ zs.toArray[m - 1]! := hk.resolve_left (by omega)
      rw [hg m (by omega), hg (m - 1) (by omega)] at hne
      have hp := List.pairwise_iff_getElem.1 hs
      have h1 := hp (m - 1) m (by omega) (by omega) (by omega)
      by_cases hj2 : j = m - 1
      · subst hj2; omega
      · have h2 := hp j (m - 1) (by omega) (by omega) (by omega)
        omega
    · cases hy
theorem sorted_le (xs : List Int) : (sorted xs).Pairwise (· ≤ ·) := by
  have := List.pairwise_mergeSort (le := fun x y : Int => decide (x ≤ y)) (fun a b c h1 h2 => by simp only [decide_eq_true_eq] at *; omega) (fun a b => by simp only [Bool.or_eq_true, decide_eq_true_eq]; omega) xs
  exact this.imp fun h => of_decide_eq_true h
theorem sorted_mem {xs : List Int} {k : Int} : k ∈ sorted xs ↔ k ∈ xs := (List.mergeSort_perm _ _).mem_iff
theorem eq_of_lt {l r : List Int} (h1 : l.Pairwise (· < ·)) (h2 : r.Pairwise (· < ·)) (hm : ∀ x, x ∈ l ↔ x ∈ r) : l = r := by
  have hp : l.Perm r := (List.perm_ext_iff_of_nodup (nodup_of_lt h1) (nodup_of_lt h2)).2 hm
  exact hp.eq_of_pairwise (fun a b _ _ h1 h2 => by omega) h1 h2
theorem compact_sorted {xs ys : List Int} (hy : ys.Pairwise (· < ·)) (hm : ∀ k, k ∈ ys ↔ k ∈ xs) : Lib.compact (sorted xs) = ys := by
  refine eq_of_lt (compact_srt (sorted_le xs) _ (Nat.le_refl _)) hy fun k => ?_
  show k ∈ Lib.compactUpTo _ _ ↔ _
  rw [compact_mem _ _ (Nat.le_refl _), List.take_length, sorted_mem, hm]
theorem compact_len (zs : List Int) : (Lib.compact zs).length ≤ zs.length := by
  unfold Lib.compact Lib.compactUpTo
  rw [List.length_map]
  have := List.length_filter_le (Lib.keeps zs.toArray) (List.range zs.length)
  rwa [List.length_range] at this
theorem Compact_c {base l c : Nat} {a : Option Addr} {zs : List Int} {w : World} {K : Value → World → Prop} (h : Own Tryz.prog w base 49 1 a l c (iL zs))
    (hk : ∀ w', Own Tryz.prog w' base 49 1 a (Lib.compact zs).length c (iL (Lib.compact zs)) → Mod (fun x => base ≤ x) w w' → K (.slice a (Lib.compact zs).length c) w') (h63 : zs.length ≤ 9223372036854775807) :
    Cal Tryz.prog F_slices_Compact_int #[.slice a l c] w K := by
  refine ⟨⟨_, Tryz.func174, by kernel_rfl, by kernel_rfl⟩, ?_⟩
  have hlen : zs.length = l := by have := h.len; simpa using this
  have hcl := compact_len zs
  have hown := h
  obtain ⟨e, he, h1, h2⟩ := h
  rcases h2 with ⟨hv, hz⟩ | ⟨g, cap, cur, hv, hb, hg, hle, hm, hsz, ht⟩
  · subst hz
    simp at hv
    obtain ⟨rfl, rfl⟩ := hv
    have hzs : zs = [] := List.eq_nil_of_length_eq_zero hlen
    subst hzs
    refine (Tryz.slices_Compact_int_empty none 0 w).mono fun e' w' he' => ?_
    obtain ⟨rfl, rfl⟩ := he'
    have e0 : Lib.compact ([] : List Int) = [] := rfl
    rw [e0] at hk
    exact hk w' hown (Mod.refl _ _)
  · simp at hv
    obtain ⟨rfl, rfl⟩ := hv
    subst hlen
    have hmap : iL zs = zs.map (Value.int .i64) := rfl
    rw [Nat.mul_one, hmap] at ht
    have hH := holds_of_blockI hg ht
    refine (Tryz.slices_Compact_int g 0 c zs w hH h63 hle).mono fun e' w' he' => ?_
    obtain ⟨rfl, n, rfl⟩ := he'
    have eg : ∀ W : World, Go.Sort.grow W #[] = W := fun W => by unfold Go.Sort.grow; simp
    have hl2 : (Lib.compact zs ++ List.replicate (zs.length - (Lib.compact zs).length) (0 : Int)).length = zs.length := by simp; omega
    have o1 := ownsRow_sortedI (n := n) (os := #[]) (ts := Lib.compact zs ++ List.replicate (zs.length - (Lib.compact zs).length) (0 : Int)) (ss := zs) hl2 hb hg hle hm hsz
    have m1 := grownBy_sortedI (w := w) (g := g) (n := n) (os := #[]) (Lib.compact zs ++ List.replicate (zs.length - (Lib.compact zs).length) (0 : Int)).toArray
    rw [eg] at o1 m1
    have o2 : Own Tryz.prog _ base 49 1 (some ⟨g, 0, none⟩) zs.length c (iL (Lib.compact zs ++ List.replicate (zs.length - (Lib.compact zs).length) (0 : Int))) := ⟨e, he, o1⟩
    have o3 := o2.shrink hcl (by simp)
    have et : (iL (Lib.compact zs ++ List.replicate (zs.length - (Lib.compact zs).length) (0 : Int))).take (Lib.compact zs).length = iL (Lib.compact zs) := by
      unfold iL
      rw [List.map_append, List.take_append_of_le_length (by simp), List.take_of_length_le (by simp)]
    rw [et] at o3
    exact hk _ o3 ((Mod.grown m1).mono fun x _ e => by cases e; exact hb)
section
variable {w w' w0 : World} {R : Nat → Prop} {sp d : Nat} {V : Ps} {K : Value → World → Prop}
theorem snocI {base l c : Nat} {a : Option Addr} {xs : List Int} {v : Int} (h : Own Tryz.prog w base 49 1 a l c (iL xs)) (hl : l ≤ 1000000) (hb : base ≤ w.heap.size) :
    ∃ (a' : Option Addr) (c' : Nat) (w4 : World), Ru (Builtin.append_ #[49, 49] 49 #[.slice a l c, .slice (some ⟨w.heap.size, 0, none⟩) 1 1]) (w.alloc (.cells ⟨[.int .i64 v]⟩ 3)) (.slice a' (l + 1) c') w4 ∧ Own Tryz.prog w4 base 49 1 a' (l + 1) c' (iL (xs ++ [v])) ∧ Mod (fun x => base ≤ x) w w4 := by
  obtain ⟨a', c', w4, s1, s2, s3⟩ := h.snoc (ty := 49) (t := 3) (ys := [.int .i64 v]) elemZ_ints (by omega) rfl (by intro u hu; simp at hu; subst hu; rfl) (by omega) (by omega) hb
  have e : iL xs ++ [.int .i64 v] = iL (xs ++ [v]) := by unfold iL; rw [List.map_append]; rfl
  rw [e] at s2
  exact ⟨a', c', w4, s1, s2, s3⟩
theorem waits_open {n k : Int} (hs : WFS V) (ha : ∀ x ∈ V.all, ∀ k ∈ x.after, k < (x.id : Int)) (h : k ∈ waitsV V n) : ∃ x ∈ V.all, (x.id : Int) = k := by
  obtain ⟨x, hx, _, y, hy, e⟩ := (mem_waitsV hs ha).1 h
  exact ⟨y, hy.mem hx, e.symm⟩
theorem waits_len (hs : WFS V) (n : Int) : (waitsV V n).length ≤ V.all.length := by
  have h1 := cloR_sub (srtV V).reverse [n]
  have h2 := List.Nodup.length_le_of_subset (nodup_of_lt (waitsV_srt hs n)) (l₂ := V.all.map fun x => (x.id : Int)) fun k hk => by
    obtain ⟨x, hx, e⟩ := h1 k hk
    rw [List.mem_reverse, (srtV_perm V).mem_iff] at hx
    exact List.mem_map.2 ⟨x, hx, e.symm⟩
  rwa [List.length_map] at h2
theorem blocks_c {n : Int} {a1 : Option Addr} {c1 : Nat} (hP : Pz w0 R w sp d V) (hr : Row w a1 (iL (waitsV V n)))
    (hk : ∀ w' a c, Mod No w w' → Row w' a (iL (oneB n V)) → (∀ q, a = some q → w.heap.size ≤ q.block) → K (.slice a (oneB n V).length c) w') :
    Cal Tryz.prog F_push_blocks #[.pointer (some ⟨sp, 0, none⟩), .slice a1 (waitsV V n).length c1] w K := by
  obtain ⟨hs, hf, hne, hl, hD⟩ := hP.wf
  have hwl : (waitsV V n).length ≤ 1000000 := by
    have h1 := waits_len hs n
    have h2 := open_le hs
    have h3 := hs.last
    unfold openV at h2
    omega
  apply C_push_blocks
  unfold D_push_blocks
  refine ⟨fun x w1 => ∃ (a : Option Addr) (c i : Nat) (bs : List Int), x = [.slice a i c, .int .i64 i] ∧ i ≤ (waitsV V n).length ∧ bs.length = i ∧ (∀ b, b ∈ bs ↔ ∃ x ∈ V.all, (x.id : Int) ∈ (waitsV V n).take i ∧ b = (x.b : Int)) ∧ Own Tryz.prog w1 w.heap.size 49 1 a i c (iL bs) ∧ Mod No w w1, fun x _ => ((waitsV V n).length - nI x 1).toNat,
    ⟨none, 0, 0, [], rfl, by omega, rfl, fun b => by simp, Own.nil elemZ_ints, Mod.refl _ _⟩, ?_⟩
  rintro x w1 ⟨a, c, i, bs, rfl, hi, hbl, hbs, o1, m1⟩
  have z1 := hP.nos m1
  have hz1 := m1.size
  refine ⟨_, rfl, cond_of (fun hb => ?_) (fun hb => ?_)⟩
  · have hi : i < (waitsV V n).length := by have := of_decide_eq_true hb; omega
    obtain ⟨b4, o4, rfl, hat4⟩ := row_some (hr.nos m1) hi
    refine ⟨_, index_slice (k := 1) (by kernel_rfl) (by omega) (by omega), ?_⟩
    rw [add_none, show (i : Int).toNat * 1 = i by omega]
    refine ⟨_, hat4.load (by kernel_rfl) (iL_get hi), ?_⟩
    obtain ⟨y, hy, ey⟩ := waits_open hs hf (List.getElem_mem hi)
    refine qBlock_c z1 (fun ho => ?_) (fun x hx ex => ?_)
    · have := opn_not.1 ho y hy
      exact absurd ey this
    have : x = y := map_inj hs.ids hx hy (by omega)
    subst this
    obtain ⟨a', c', w4, s4, o4, m4⟩ := snocI (v := (x.b : Int)) o1 (by omega) hz1
    refine ⟨_, _, rfl, Share.dup (tt rfl ⟨_, _, _, rfl, _, _, _, _, builtI _ _, _, _, _, w4, s4, ?_⟩)⟩
    rw [wrap64 (x := (i : Int) + 1) (by omega) (by omega)]
    refine ⟨⟨a', c', i + 1, bs ++ [(x.b : Int)], rfl, by omega, by simp [hbl], fun b => ?_, o4, m1.up m4 (Nat.le_refl _)⟩, by simp [nI, nth]; omega⟩
    rw [List.mem_append, hbs, List.mem_singleton, List.take_succ_eq_append_getElem hi]
    constructor
    · rintro (⟨u, hu, h1, h2⟩ | h1)
      · exact ⟨u, hu, List.mem_append_left _ h1, h2⟩
      · exact ⟨x, hx, List.mem_append_right _ (by rw [← ex]; exact List.mem_singleton.2 rfl), h1⟩
    · rintro ⟨u, hu, h1, h2⟩
      rcases List.mem_append.1 h1 with h1 | h1
      · exact .inl ⟨u, hu, h1, h2⟩
      · right
        have : u = x := map_inj hs.ids hu hx (by have := List.mem_singleton.1 h1; omega)
        rw [h2, this]
  · have hi : i = (waitsV V n).length := by have := of_decide_eq_false hb; omega
    subst hi
    rw [List.take_length] at hbs
    refine ⟨_, _, _, rfl, Sort_c o1 (fun w2 o2 m2 => ⟨rfl, Compact_c o2 (fun w3 o3 m3 => ⟨_, _, _, rfl, ?_⟩) (by unfold sorted; rw [List.length_mergeSort]; omega)⟩) (by omega)⟩
    have e : Lib.compact (sorted bs) = oneB n V := compact_sorted (oneB_srt n V) fun k => by
      rw [hbs, mem_oneB]
      constructor
      · rintro ⟨x, hx, _, h1, h2⟩; exact ⟨x, hx, h2, h1⟩
      · rintro ⟨x, hx, h2, h1⟩
        obtain ⟨o, ho, hxo⟩ := mem_all.1 hx
        exact ⟨x, hx, by have := hs.chb o ho x hxo; have := hs.onlt o ho; omega, h1, h2⟩
    rw [e] at o3 ⊢
    exact hk w3 a c (m1.up (m2.trans m3 fun _ _ h => h) (Nat.le_refl _)) o3.rowU.row fun q hq => (o3.base hq).1
/-- The rows that a function gives, from round to round. -/
def Nexts (v : Value) (w0 : World) (sp d : Nat) (nx : Ps → List Int) (J : (Nat → Prop) → World → Prop) : Prop :=
  ∀ (R : Nat → Prop) (w : World) (V : Ps) (K : Value → World → Prop), Pz w0 R w sp d V → J R w → (∀ w' a l c, Mod No w w' → Row w' a (iL (nx V)) → l = (nx V).length → (∀ q, a = some q → w.heap.size ≤ q.block) → K (.slice a l c) w') → Dyn Tryz.prog v #[] w K
theorem fold_cnt : ∀ (ks : List Int) (W : Ps) (c : Nat), (ks.foldl stepR (W, c)).2 ≤ c + ks.length := by
  intro ks
  induction ks with
  | nil => intro W c; simp
  | cons k ks ih =>
    intro W c
    rw [List.foldl_cons]
    have e : stepR (W, c) k = if readyV W k = 0 then (W, c) else (wrV W k, c + 1) := rfl
    rw [e]
    split
    · have := ih W c; simp only [List.length_cons]; omega
    · have := ih (wrV W k) (c + 1); simp only [List.length_cons]; omega
theorem rnds_le {nx : Ps → List Int} (hg : ∀ V, Gd V → (nx V).length ≤ 4096) : ∀ {f : Nat} {V : Ps}, Gd V → (rnds nx f V).1 ≤ f * 4096
  | 0, V, _ => Nat.zero_le _
  | f + 1, V, hV => by
    by_cases hn : nx V = []
    · rw [rnds_nil hn]; exact Nat.zero_le _
    · rw [rnds_succ hn]
      have h1 := rnds_le hg (f := f) (hV.round (nx V))
      have h3 : (roundP V (nx V)).2 ≤ 0 + (nx V).length := fold_cnt (nx V) V 0
      have h4 := hg V hV
      show (roundP V (nx V)).2 + (rnds nx f (roundP V (nx V)).1).1 ≤ _
      omega
theorem ready_wr {k : Int} (hs : WFS V) (h : readyV V k ≠ 0) : wrVE V k = 0 := by
  unfold readyV at h
  split at h
  · rename_i o ho
    obtain ⟨h1, rfl⟩ := onOf_some ho
    exact wrVE_on hs h1
  · exact absurd rfl h
theorem rounds_c {v : Value} {nx : Ps → List Int} {J : (Nat → Prop) → World → Prop} (hnx : Nexts v w0 sp d nx J) (hJn : ∀ R w w', J R w → Mod No w w' → J R w') (hJs : ∀ R w w', J R w → Mod R w w' → J (Gro R w w') w')
    (hg : ∀ V, Gd V → nx V ≠ [] → openV (roundP V (nx V)).1 < openV V) (h0 : ∀ V, Gd V → openV V = 0 → nx V = []) (hlen : ∀ V, Gd V → (nx V).length ≤ 4096)
    (hP : Pz w0 R w sp d V) (hV : Gd V) (hJ : J R w) (hb : Bnd V.C.D 1000)
    (hk : ∀ w' R', Mod R w w' → (∀ x, R' x → R x ∨ w.heap.size ≤ x) → Pz w0 R' w' sp d (rnds nx (openV V) V).2 → Gd (rnds nx (openV V) V).2 → Bnd (rnds nx (openV V) V).2.C.D 1000 → K (.tuple #[.int .i64 (rnds nx (openV V) V).1, .int .i64 0]) w') :
    Cal Tryz.prog F_push_rounds #[.pointer (some ⟨sp, 0, none⟩), v] w K := by
  have hmax : (rnds nx (openV V) V).1 ≤ 4096000000 := by
    have h1 := rnds_le hlen (f := openV V) hV
    have h2 := open_le hV.s
    have h3 := hV.s.last
    have h4 : openV V ≤ 1000000 := by omega
    exact Nat.le_trans h1 (Nat.le_trans (Nat.mul_le_mul_right 4096 h4) (by decide))
  generalize hT : rnds nx (openV V) V = T at *
  apply C_push_rounds
  unfold D_push_rounds
  refine ff rfl (LoopC.by (fun m x w1 => ∃ (R1 : Nat → Prop) (W : Ps) (n : Nat) (y : Value), x = [.int .i64 n, y] ∧ m = openV W ∧ Pz w0 R1 w1 sp d W ∧ Gd W ∧ J R1 w1 ∧ Bnd W.C.D 1000 ∧ Mod R w w1 ∧ (∀ x, R1 x → R x ∨ w.heap.size ≤ x) ∧ n + (rnds nx (openV W) W).1 = T.1 ∧ (rnds nx (openV W) W).2 = T.2)
    ⟨R, V, 0, _, rfl, rfl, hP, hV, hJ, hb, Mod.refl _ _, fun x hx => .inl hx, by rw [hT]; omega, by rw [hT]⟩ ?_)
  rintro m x w1 ⟨R1, W, n, y, rfl, rfl, z1, gW, hJ1, hb1, m1, hR1, hT1, hT2⟩
  refine hnx R1 w1 W _ z1 hJ1 fun w2 a l c m2 hr2 hl2 hn2 => ⟨_, _, _, rfl, cond_of (fun hb => ?_) (fun hb => ?_)⟩
  · have hl9 : (l : Int) = 0 := by simpa using hb
    have hl0 : nx W = [] := List.eq_nil_of_length_eq_zero (by omega)
    rw [rnds_nil hl0] at hT1 hT2
    have e1 : n = T.1 := by simpa using hT1
    have e2 : W = T.2 := hT2
    subst e1 e2
    exact ⟨_, rfl, hk w2 R1 (m1.no m2) hR1 (z1.nos m2) gW hb1⟩
  have hne : nx W ≠ [] := fun e => by rw [e] at hl2; simp at hl2; subst hl2; simp at hb
  have hlW := hlen W gW
  have hlo1 := z1.lo
  have hz1 := m1.size
  have hz2 := m2.size
  rw [rnds_step Gd (fun V h hn => ⟨h.round _, hg V h hn⟩) h0 gW hne] at hT1 hT2
  dsimp only at hT1 hT2
  refine ⟨fun x w3 => ∃ (R3 : Nat → Prop) (W3 : Ps) (c3 j : Nat), x = [.int .i64 ((n + c3 : Nat) : Int), .int .i64 j] ∧ j ≤ l ∧ ((nx W).take j).foldl stepR (W, 0) = (W3, c3) ∧ Pz w0 R3 w3 sp d W3 ∧ Gd W3 ∧ J R3 w3 ∧ Bnd W3.C.D (1000 + j) ∧ Row w3 a (iL (nx W)) ∧ (∀ q, a = some q → ¬ R3 q.block) ∧ Mod R w w3 ∧ (∀ x, R3 x → R x ∨ w.heap.size ≤ x), fun x _ => (l - nI x 1).toNat,
    ⟨R1, W, 0, 0, rfl, by omega, by rw [List.take_zero]; rfl, z1.nos m2, gW, hJn _ _ _ hJ1 m2, hb1, hr2, fun q hq e => by have := hn2 q hq; have := (hlo1 _ e).2; omega, m1.no m2, hR1⟩, ?_⟩
  rintro x w3 ⟨R3, W3, c3, j, rfl, hj, hf3, z3, g3, hJ3, hb3, hr3, hn3, m3, hR3⟩
  have hc3 : c3 ≤ j := by
    have := fold_cnt ((nx W).take j) W 0
    rw [hf3, List.length_take] at this
    simp only at this
    omega
  refine ⟨_, rfl, cond_of (fun hb => ?_) (fun hb => ?_)⟩
  · have hj : j < l := by have := of_decide_eq_true hb; omega
    have hjx : j < (nx W).length := by omega
    obtain ⟨b4, o4, rfl, hat4⟩ := row_some hr3 hjx
    have hfj : ((nx W).take (j + 1)).foldl stepR (W, 0) = stepR (W3, c3) (nx W)[j] := by
      rw [List.take_succ_eq_append_getElem hjx, List.foldl_append, hf3]; rfl
    refine Share.cut (fun z w6 => ∃ (R3 : Nat → Prop) (W3 : Ps) (c3 : Nat), z = [.int .i64 ((n + c3 : Nat) : Int)] ∧ ((nx W).take (j + 1)).foldl stepR (W, 0) = (W3, c3) ∧ Pz w0 R3 w6 sp d W3 ∧ Gd W3 ∧ J R3 w6 ∧ Bnd W3.C.D (1000 + (j + 1)) ∧ Row w6 (some ⟨b4, o4, none⟩) (iL (nx W)) ∧ ¬ R3 b4 ∧ Mod R w w6 ∧ (∀ x, R3 x → R x ∨ w.heap.size ≤ x))
      ⟨_, index_slice (k := 1) (by kernel_rfl) (by omega) (by omega), ?_⟩ ?_
    · rw [add_none, show (j : Int).toNat * 1 = j by omega]
      refine ⟨_, hat4.load (by kernel_rfl) (iL_get hjx), qReady_c z3 fun w4 m4 => ⟨_, rfl, cond_of (fun hb => ?_) (fun hb => ?_)⟩⟩
      · have hr9 : (readyV W3 (nx W)[j] : Int) = 0 := by simpa using hb
        have hr0 : readyV W3 (nx W)[j] = 0 := by omega
        refine ⟨R3, W3, c3, rfl, ?_, z3.nos m4, g3, hJn _ _ _ hJ3 m4, hb3.mono (by omega), hr3.nos m4, hn3 _ rfl, m3.no m4, hR3⟩
        rw [hfj]; unfold stepR; rw [if_pos hr0]
      · have hr0 : readyV W3 (nx W)[j] ≠ 0 := fun e => by rw [e] at hb; simp at hb
        have hE := ready_wr g3.s hr0
        refine qWrite_c (n := (nx W)[j]) (z3.nos m4) (fun v hv => by have := hb3 v hv; omega) fun w5 m5 z5 => ⟨_, rfl, ff (by rw [hE]; rfl) ⟨_, rfl, ?_⟩⟩
        have hlo3 := z3.lo
        have hz3 := m3.size
        have hz4 := m4.size
        rw [wrap64 (x := ((n + c3 : Nat) : Int) + 1) (by omega) (by omega)]
        refine ⟨Gro R3 w4 w5, wrV W3 (nx W)[j], c3 + 1, by congr 2, ?_, z5, g3.wr _, hJs _ _ _ (hJn _ _ _ hJ3 m4) m5, ?_, (hr3.nos m4).keep m5 hn3, ?_, ?_, ?_⟩
        · rw [hfj]; unfold stepR; rw [if_neg hr0]
        · unfold wrV
          rw [if_pos hE]
          exact (Bnd_wr hb3 _ _).mono (by omega)
        · rintro (e | e)
          · exact hn3 _ rfl e
          · have := hat4.lt; omega
        · exact (m3.no m4).trans m5 fun x hx e => by
            rcases hR3 x e with h | h
            · exact h
            · omega
        · rintro x (e | e)
          · exact hR3 x e
          · right; omega
    rintro z w6 ⟨R6, W6, c6, rfl, hf6, z6, g6, hJ6, hb6, hr6, hn6, m6, hR6⟩
    rw [wrap64 (x := (j : Int) + 1) (by omega) (by omega)]
    exact ⟨⟨R6, W6, c6, j + 1, rfl, by omega, hf6, z6, g6, hJ6, hb6, hr6, fun q hq => by cases hq; exact hn6, m6, hR6⟩, by simp [nI, nth]; omega⟩
  · have hj : j = l := by have := of_decide_eq_false hb; omega
    subst hj
    rw [hl2, List.take_length] at hf3
    have hl3 := z3.wf.2.2.2.1
    refine qFlush_c z3 fun w7 m7 z7 => ⟨_, rfl, ff rfl ?_⟩
    have hrp : roundP W (nx W) = (flV W3, c3) := by unfold roundP; rw [hf3]
    have hless := hg W gW hne
    rw [hrp] at hT1 hT2 hless
    dsimp only at hT1 hT2 hless
    have hz3 := m3.size
    refine ⟨openV (flV W3), hless, Gro R3 w3 w7, flV W3, n + c3, _, rfl, rfl, z7, g3.fl, hJs _ _ _ hJ3 m7, Bnd_fl hl3 (by omega), ?_, ?_, by omega, hT2⟩
    · exact m3.trans m7 fun x hx e => by
        rcases hR3 x e with h | h
        · exact h
        · omega
    · rintro x (e | e)
      · exact hR3 x e
      · right; omega
end
end Go.Proofs.YtocjjigmpgekfaaGreat
end
section
/- Layer 12, walked: one change made safe, all, one step; stores that are not there. -/
open Go Go.Den Go.Proofs
namespace Go.Proofs.YtocjjigmpgekfaaGreat
section
variable {w w' w0 : World} {R : Nat → Prop} {sp d : Nat} {V : Ps} {K : Value → World → Prop}
theorem Gd.of (hP : Pz w0 R w sp d V) (h : Srt V) : Gd V := by
  obtain ⟨hs, hf, hne, hl, hD⟩ := hP.wf
  exact ⟨hs, hf, h, hne, hD.hi⟩
theorem One1_c {q2 q3 : Nat} {n : Int} (hP : Pz w0 R w sp d V) (h2 : At w q2 0 [.pointer (some ⟨sp, 0, none⟩)]) (h3 : At w q3 0 [.int .i64 n])
    (hk : ∀ w' a c, Mod No w w' → Row w' a (iL (oneB n V)) → (∀ q, a = some q → w.heap.size ≤ q.block) → K (.slice a (oneB n V).length c) w') :
    Cal Tryz.prog F_push_One_1 #[.pointer (some ⟨q2, 0, none⟩), .pointer (some ⟨q3, 0, none⟩)] w K := by
  apply C_push_One_1
  unfold D_push_One_1
  have md : Mod No w (drew w) := (Mod.refl No w).drew
  have zd := hP.nos md
  have l2 : ∀ {w2 : World}, Mod No w w2 → Ru (Instr.loadAt 30 (.pointer (some ⟨q2, 0, none⟩))) w2 (.pointer (some ⟨sp, 0, none⟩)) w2 := fun m => (h2.keep m id).load (i := 0) (by kernel_rfl) rfl
  have l3 : Ru (Instr.loadAt 2 (.pointer (some ⟨q3, 0, none⟩))) (drew w) (.int .i64 n) (drew w) := (h3.keep md id).load (i := 0) (by kernel_rfl) rfl
  refine ⟨_, l2 md, _, l2 md, _, l3, qWaits_c (n := n) zd fun w1 a c m1 o1 => ⟨_, _, _, rfl, l2 (md.no m1), ?_⟩⟩
  have M1 := md.no m1
  refine blocks_c (hP.nos M1) o1.rowU.row fun w2 a2 c2 m2 r2 h2 => ⟨_, _, _, rfl, hk w2 a2 c2 (M1.no m2) r2 fun q hq => ?_⟩
  have := h2 q hq
  have := M1.size
  omega
def oneV (n : Int) (V : Ps) : Nat × Ps := rnds (oneB n) (openV V) V
theorem One_c {n : Int} (hP : Pz w0 R w sp d V) (hV : Gd V) (hb : Bnd V.C.D 1000)
    (hk : ∀ w' R', Mod R w w' → (∀ x, R' x → R x ∨ w.heap.size ≤ x) → Pz w0 R' w' sp d (oneV n V).2 → Gd (oneV n V).2 → Bnd (oneV n V).2.C.D 1000 → K (.tuple #[.int .i64 (oneV n V).1, .int .i64 0]) w') :
    Cal Tryz.prog F_push_One #[.pointer (some ⟨sp, 0, none⟩), .int .i64 n] w K := by
  apply C_push_One
  unfold D_push_One
  have hlo := hP.lo
  refine ⟨_, _, box_store w _, ?_⟩
  have m1 : Mod No w (w.alloc (.cells ⟨[.pointer (some ⟨sp, 0, none⟩)]⟩ 30)) := (Mod.refl No w).alloc _
  have a1 : AtU (w.alloc (.cells ⟨[.pointer (some ⟨sp, 0, none⟩)]⟩ 30)) w.heap.size 0 [.pointer (some ⟨sp, 0, none⟩)] := AtU.new
  have s1 : (w.alloc (.cells ⟨[.pointer (some ⟨sp, 0, none⟩)]⟩ 30)).heap.size = w.heap.size + 1 := by simp
  generalize w.alloc (.cells ⟨[.pointer (some ⟨sp, 0, none⟩)]⟩ 30) = w1 at *
  refine ⟨_, _, box_run, ?_⟩
  have m2 : Mod No w1 (w1.alloc (.cells (Value.int .i64 n).cells 2)) := (Mod.refl No w1).alloc _
  have a2 : AtU (w1.alloc (.cells (Value.int .i64 n).cells 2)) w1.heap.size 0 [.int .i64 n] := AtU.new
  generalize w1.alloc (.cells (Value.int .i64 n).cells 2) = w2 at *
  have M2 := m1.no m2
  have a1' := a1.keep m2 id
  refine ⟨_, a1'.at.load (i := 0) (by kernel_rfl) rfl, ?_⟩
  have hz2 := M2.size
  refine rounds_c (nx := oneB n) (J := fun R u => Kp R u w.heap.size [.pointer (some ⟨sp, 0, none⟩)] ∧ Kp R u w1.heap.size [.int .i64 n]) ?_ (fun R u u' h m => ⟨h.1.nos m, h.2.nos m⟩) (fun R u u' h m => ⟨h.1.step m, h.2.step m⟩) (fun V h hn => one_fewer h n hn) (fun V _ h => open0_one n h) (fun V h => h.one n) (hP.nos M2) hV
    ⟨⟨a1', fun e => by have := (hlo _ e).2; omega⟩, ⟨a2, fun e => by have := (hlo _ e).2; omega⟩⟩ hb fun w3 R' m3 hR3 z3 g3 b3 => ⟨_, _, rfl, hk w3 R' ?_ ?_ z3 g3 b3⟩
  · intro R4 w4 V4 K4 z4 h4 hk4
    exact ⟨_, _, _, rfl, One1_c z4 h4.1.at_.at h4.2.at_.at fun w' a c m r hn => hk4 w' a _ c m r rfl hn⟩
  · exact (M2.mono fun _ _ h => h.elim).trans m3 fun _ _ h => h
  · intro x hx
    rcases hR3 x hx with h | h
    · exact .inl h
    · right; omega
theorem One_nil {n : Int} (hk : ∀ w', Mod No w w' → K (.tuple #[.int .i64 0, .int .i64 2]) w') : Cal Tryz.prog F_push_One #[.pointer none, .int .i64 n] w K := by
  apply C_push_One
  unfold D_push_One
  refine ⟨_, _, box_store w _, ?_⟩
  have m1 : Mod No w (w.alloc (.cells ⟨[.pointer none]⟩ 30)) := (Mod.refl No w).alloc _
  have a1 : AtU (w.alloc (.cells ⟨[.pointer none]⟩ 30)) w.heap.size 0 [.pointer none] := AtU.new
  generalize w.alloc (.cells ⟨[.pointer none]⟩ 30) = w1 at *
  refine ⟨_, _, box_run, ?_⟩
  have m2 : Mod No w1 (w1.alloc (.cells (Value.int .i64 n).cells 2)) := (Mod.refl No w1).alloc _
  generalize w1.alloc (.cells (Value.int .i64 n).cells 2) = w2 at *
  refine ⟨_, (a1.keep m2 id).at.load (i := 0) (by kernel_rfl) rfl, ?_⟩
  apply C_push_rounds
  unfold D_push_rounds
  exact tt rfl ⟨_, _, rfl, hk w2 (m1.no m2)⟩
theorem All_nil (hk : K (.tuple #[.int .i64 0, .int .i64 2]) w) : Cal Tryz.prog F_push_All #[.pointer none] w K := by
  apply C_push_All
  unfold D_push_All
  apply C_push_rounds
  unfold D_push_rounds
  exact tt rfl ⟨_, _, rfl, hk⟩
theorem Step_nil {n : Int} (hk : K (.tuple #[.int .i64 0, .int .i64 2]) w) : Cal Tryz.prog F_push_Step #[.pointer none, .int .i64 n] w K := by
  apply C_push_Step
  unfold D_push_Step
  exact tt rfl hk
end
end Go.Proofs.YtocjjigmpgekfaaGreat
end
section
/- Layer 12, the program's acts that wait: in memory, and each call. -/
open Go Go.Den Go.Proofs
namespace Go.Den
section
variable {P : Program} {w w' : World}
theorem flat_len' {α : Type} {f : α → List Value} {k : Nat} (h : ∀ x, (f x).length = k) : ∀ L : List α, (L.map f).flatten.length = L.length * k
  | [] => by simp
  | x :: r => by rw [List.map_cons, List.flatten_cons, List.length_append, h, flat_len' h r, List.length_cons, Nat.add_mul]; omega
theorem flat_drop {α : Type} {f : α → List Value} {k : Nat} (h : ∀ x, (f x).length = k) : ∀ {L : List α} {i : Nat} {x : α}, L[i]? = some x → ((L.map f).flatten.drop (i * k)).take k = f x
  | [], _, _, e => by simp at e
  | y :: r, 0, x, e => by
    have e : y = x := by simpa using e
    subst e
    rw [List.map_cons, List.flatten_cons, Nat.zero_mul, List.drop_zero, List.take_append_of_le_length (by rw [h]; omega), List.take_of_length_le (by rw [h]; omega)]
  | y :: r, i + 1, x, e => by
    rw [List.getElem?_cons_succ] at e
    rw [List.map_cons, List.flatten_cons, show (i + 1) * k = (f y).length + i * k by rw [h, Nat.add_mul]; omega, List.drop_append, List.drop_eq_nil_of_le (by omega), List.nil_append, show (f y).length + i * k - (f y).length = i * k by omega]
    exact flat_drop h e
theorem flat_cell {α : Type} {f : α → List Value} {k : Nat} (h : ∀ x, (f x).length = k) {L : List α} {i j : Nat} {x : α} {v : Value} (hx : L[i]? = some x) (hj : (f x)[j]? = some v) : (L.map f).flatten[i * k + j]? = some v := by
  have h1 := flat_drop h hx
  have hl : j < k := by have := (List.getElem?_eq_some_iff.1 hj).1; rwa [h] at this
  rw [← h1, List.getElem?_take_of_lt hl, List.getElem?_drop] at hj
  exact hj
end
end Go.Den
namespace Go.Proofs.YtocjjigmpgekfaaGreat
section
variable {w w' : World}
/-- append of one element that was built just now. -/
theorem snocG {T Te : TypeId} {base k bytes l c : Nat} {a : Option Addr} {xs ys : List Value} (hT : elemG Tryz.prog T k bytes) (hk : 0 < k) (h : Own Tryz.prog w base T k a l c xs) (hl : ys.length = k) (h1 : ∀ v ∈ ys, v.oneCell' = true)
    (h63 : (l + 1) * bytes ≤ 140737488355328) (hb : 0 < bytes) (hbase : base ≤ w.heap.size) :
    ∃ q c' w', Ru (Builtin.append_ #[T, T] T #[.slice a l c, .slice (some ⟨w.heap.size, 0, none⟩) 1 1]) (w.alloc (.cells ⟨ys⟩ Te)) (.slice (some q) (l + 1) c') w' ∧ Own Tryz.prog w' base T k (some q) (l + 1) c' (xs ++ ys) ∧ Mod (Of a) w w' ∧ ((∃ q', a = some q' ∧ q.block = q'.block) ∨ w.heap.size ≤ q.block) := by
  have m1 : Mod No w (w.alloc (.cells ⟨ys⟩ Te)) := (Mod.refl No w).alloc _
  have r1 : Row (w.alloc (.cells ⟨ys⟩ Te)) (some ⟨w.heap.size, 0, none⟩) ys := .inr ⟨_, _, rfl, AtU.new.at⟩
  have s1 : (w.alloc (.cells ⟨ys⟩ Te)).heap.size = w.heap.size + 1 := by simp
  obtain ⟨q, c', w2, run, p, mm, hq⟩ := (h.nos m1).appG (ty := T) (m := 1) (c2 := 1) hT hk r1 (by omega) (by omega) h1 h63 hb (by omega)
  refine ⟨q, c', w2, run, p, (m1.mono fun _ _ h => h.elim).trans mm fun x _ e => e, ?_⟩
  rcases hq with hq | hq
  · exact .inl hq
  · exact .inr (by omega)
end
abbrev Wt := Int × Int × Int
def wtV (x : Wt) : List Value := [.int .i64 x.1, .int .i64 x.2.1, .int .i64 x.2.2]
def acV (x : Int × Int) : List Value := [.int .i64 x.1, .int .i64 x.2]
theorem wtV_len (x : Wt) : (wtV x).length = 3 := rfl
theorem acV_len (x : Int × Int) : (acV x).length = 2 := rfl
theorem wtV_one (x : Wt) : ∀ v ∈ wtV x, v.oneCell' = true := by intro v hv; simp [wtV] at hv; rcases hv with rfl | rfl | rfl <;> rfl
theorem acV_one (x : Int × Int) : ∀ v ∈ acV x, v.oneCell' = true := by intro v hv; simp [acV] at hv; rcases hv with rfl | rfl <;> rfl
def rowW (L : List Wt) : List Value := (L.map wtV).flatten
def rowC (L : List (Int × Int)) : List Value := (L.map acV).flatten
theorem rowW_snoc (L : List Wt) (x : Wt) : rowW (L ++ [x]) = rowW L ++ wtV x := by simp [rowW]
theorem rowC_snoc (L : List (Int × Int)) (x : Int × Int) : rowC (L ++ [x]) = rowC L ++ acV x := by simp [rowC]
theorem elemG_waits : elemG Tryz.prog 168 3 24 := elemG_of (by kernel_rfl)
theorem elemG_acts : elemG Tryz.prog 77 2 16 := elemG_of (by kernel_rfl)
theorem elemN_waits : elemN Tryz.prog 168 = some 3 := by kernel_rfl
theorem agg_wait : aggN Tryz.prog 174 = some 3 := by kernel_rfl
theorem agg_pact : aggN Tryz.prog 71 = some 2 := by kernel_rfl
theorem build_wait (w : World) (n k m : Int) : (Instr.build 174 #[(0, .int .i64 n), (1, .agg ⟨[.int .i64 k, .int .i64 m]⟩)]).run Tryz.prog w = .ok (.agg ⟨[.int .i64 n, .int .i64 k, .int .i64 m]⟩) w := by kernel_rfl
theorem built_wait (w : World) (x : Wt) : (Instr.buildSlice 168 1 #[(0, .agg ⟨wtV x⟩)]).run Tryz.prog w = .ok (.slice (some ⟨w.heap.size, 0, none⟩) 1 1) (w.alloc (.cells ⟨wtV x⟩ 174)) := by kernel_rfl
theorem built_act (w : World) (x : Int × Int) : (Instr.buildSlice 77 1 #[(0, .agg ⟨acV x⟩)]).run Tryz.prog w = .ok (.slice (some ⟨w.heap.size, 0, none⟩) 1 1) (w.alloc (.cells ⟨acV x⟩ 71)) := by kernel_rfl
theorem alloc_wait (w : World) : (Instr.alloc 174 true (.tuple #[])).run Tryz.prog w = .ok (.pointer (some ⟨w.heap.size, 0, none⟩)) (w.alloc (.cells ⟨[.int .i64 0, .int .i64 0, .int .i64 0]⟩ 174)) := by kernel_rfl
/-- What waits, in memory: a row of waits, of a type of its own. -/
structure WkIn (T : TypeId) (Z : Nat → Prop) (w : World) (q : Nat) (L : List Wt) (la : Option Addr) (lc : Nat) : Prop where
  cell : AtU w q 0 [.slice la L.length lc]
  row : Own Tryz.prog w 0 T 3 la L.length lc (rowW L)
  nq : ∀ a, la = some a → a.block ≠ q ∧ ¬ Z a.block
  nz : ¬ Z q
def Wk (T : TypeId) (Z : Nat → Prop) (w : World) (q : Nat) (L : List Wt) : Prop := ∃ la lc, WkIn T Z w q L la lc
section
variable {w w' w0 : World} {R : Nat → Prop} {sp d : Nat} {V : Ps} {K : Value → World → Prop} {T : TypeId} {Z Z' : Nat → Prop} {q lc : Nat} {L : List Wt} {la : Option Addr}
theorem WkIn.keep {S : Nat → Prop} (h : WkIn T Z w q L la lc) (m : Mod S w w') (hS : ∀ x, S x → Z x) (hZ : ∀ x, x < w.heap.size → Z' x → Z x) : WkIn T Z' w' q L la lc where
  cell := h.cell.keep m fun e => h.nz (hS _ e)
  row := h.row.keep m fun a ha e => (h.nq a ha).2 (hS _ e)
  nq a ha := ⟨(h.nq a ha).1, fun e => (h.nq a ha).2 (hZ _ (h.row.base ha).2 e)⟩
  nz e := h.nz (hZ _ h.cell.lt e)
theorem Wk.keep {S : Nat → Prop} (h : Wk T Z w q L) (m : Mod S w w') (hS : ∀ x, S x → Z x) (hZ : ∀ x, x < w.heap.size → Z' x → Z x) : Wk T Z' w' q L := by
  obtain ⟨la, lc, h⟩ := h; exact ⟨la, lc, h.keep m hS hZ⟩
theorem WkIn.nos (h : WkIn T Z w q L la lc) (m : Mod No w w') : WkIn T Z w' q L la lc := h.keep m (fun _ h => h.elim) fun _ _ h => h
theorem Wk.nos (h : Wk T Z w q L) (m : Mod No w w') : Wk T Z w' q L := by obtain ⟨la, lc, h⟩ := h; exact ⟨la, lc, h.nos m⟩
theorem WkIn.ld (h : WkIn T Z w q L la lc) (hT : scal Tryz.prog T = true) : Ru (Instr.loadAt T (.pointer (some (Addr.add ⟨q, 0, none⟩ 0)))) w (.slice la L.length lc) w := by
  rw [add_none]; exact h.cell.at.load (i := 0) hT rfl
/-- One more waits: the row anew. -/
theorem WkIn.add {Te : TypeId} {x : Wt} (h : WkIn T Z w q L la lc) (hT : elemG Tryz.prog T 3 24) (hs : scal Tryz.prog T = true) (hn : L.length ≤ 5000) (hZ : ∀ x, Z x → x < w.heap.size) :
    ∃ c' w4 w5, Ru (Builtin.append_ #[T, T] T #[.slice la L.length L.length, .slice (some ⟨w.heap.size, 0, none⟩) 1 1]) (w.alloc (.cells ⟨wtV x⟩ Te)) (.slice (some ⟨w.heap.size + 1, 0, none⟩) (L.length + 1) c') w4 ∧
      RuU (Instr.storeAt T (.pointer (some (Addr.add ⟨q, 0, none⟩ 0))) (.slice (some ⟨w.heap.size + 1, 0, none⟩) (L.length + 1) c')) w4 w5 ∧ WkIn T Z w5 q (L ++ [x]) (some ⟨w.heap.size + 1, 0, none⟩) c' ∧ Mod (fun z => z = q) w w5 := by
  have m1 : Mod No w (w.alloc (.cells ⟨wtV x⟩ Te)) := (Mod.refl No w).alloc _
  have r1 : Row (w.alloc (.cells ⟨wtV x⟩ Te)) (some ⟨w.heap.size, 0, none⟩) (wtV x) := .inr ⟨_, _, rfl, AtU.new.at⟩
  have s1 : (w.alloc (.cells ⟨wtV x⟩ Te)).heap.size = w.heap.size + 1 := by simp
  generalize w.alloc (.cells ⟨wtV x⟩ Te) = w1 at *
  have hqw := h.cell.lt
  obtain ⟨c', w4, run, p, m4, z4⟩ := (h.row.nos m1).full (ty := T) (c2 := 1) hT r1 rfl (by omega) (by omega) (by omega)
  rw [s1] at run p z4
  obtain ⟨w5, u1, u2, u3, u4⟩ := ((h.cell.keep m1 id).keep m4 id).store (P := Tryz.prog) (T := T) (i := 0) (v := .slice (some ⟨w.heap.size + 1, 0, none⟩) (L.length + 1) c') hs (by simp) rfl
  refine ⟨c', w4, w5, run, by rw [add_none]; exact u1, ⟨?_, ?_, ?_, h.nz⟩, ((m1.no m4).mono fun _ _ h => h.elim).trans u3 fun _ _ e => e⟩
  · have : (L ++ [x]).length = L.length + 1 := by simp
    rw [this]; exact u2
  · rw [rowW_snoc, show (L ++ [x]).length = L.length + 1 by simp]
    exact p.keep u3 fun a ha e => by cases ha; have e : w.heap.size + 1 = q := e; omega
  · intro a ha; cases ha
    exact ⟨by show w.heap.size + 1 ≠ q; omega, fun e => by have := hZ _ e; simp only at this; omega⟩
def laterE (L : List Wt) (k : Int) : Int := if k < 1 ∨ 3 < k then 1 else if 4096 ≤ L.length then 5 else 0
def laterL (L : List Wt) (x : Wt) : List Wt := if laterE L x.2.1 = 0 then L ++ [x] else L
theorem kLater_c {n k m : Int} (h : Wk 168 Z w q L) (hn : L.length ≤ 5000) (hZ : ∀ x, Z x → x < w.heap.size)
    (hk : ∀ w', Mod (fun z => z = q) w w' → Wk 168 Z w' q (laterL L (n, k, m)) → K (.int .i64 (laterE L k)) w') :
    Cal Tryz.prog F_push_Work_Later #[.pointer (some ⟨q, 0, none⟩), .int .i64 n, .agg ⟨acV (k, m)⟩] w K := by
  apply C_push_Work_Later
  unfold D_push_Work_Later
  obtain ⟨la, lc, h⟩ := h
  refine ⟨_, _, box_run, ?_⟩
  have m1 : Mod No w (w.alloc (.cells (Value.agg ⟨acV (k, m)⟩).cells 71)) := (Mod.refl No w).alloc _
  have a1 : AtU (w.alloc (.cells (Value.agg ⟨acV (k, m)⟩).cells 71)) w.heap.size 0 (acV (k, m)) := AtU.new
  generalize w.alloc (.cells (Value.agg ⟨acV (k, m)⟩).cells 71) = w1 at *
  have hz1 := m1.size
  have h1 := h.nos m1
  have l0 : Ru (Instr.loadAt 3 (.pointer (some (Addr.add ⟨w.heap.size, 0, none⟩ 0)))) w1 (.int .i64 k) w1 := by rw [add_none]; exact a1.at.load (i := 0) (by kernel_rfl) rfl
  refine ff rfl (Share.cut (fun z w2 => w1 = w2 ∧ z = [.bool (decide (k < 1 ∨ 3 < k))]) ⟨_, l0, cond_of (fun hb => ⟨rfl, ?_⟩) (fun hb => ⟨_, l0, rfl, ?_⟩)⟩ ?_)
  · have := of_decide_eq_true hb
    rw [decide_eq_true (Or.inl this)]
  · have := of_decide_eq_false hb
    exact bcell (by omega)
  rintro z w2 ⟨rfl, rfl⟩
  have ms : ∀ {w2 : World}, Mod No w1 w2 → Mod (fun z => z = q) w w2 := fun mm => (m1.no mm).mono fun _ _ h => h.elim
  refine ⟨_, rfl, cond_of (fun hb => ?_) (fun hb => ⟨_, rfl, _, _, _, h1.ld (by kernel_rfl), cond_of (fun hb2 => ?_) (fun hb2 => ?_)⟩)⟩
  · have hb := of_decide_eq_true hb
    have e : laterE L k = 1 := if_pos hb
    have := hk w1 (ms (Mod.refl _ _)) ⟨la, lc, by unfold laterL; rw [if_neg (by show ¬ laterE L k = 0; rw [e]; omega)]; exact h1⟩
    rwa [e] at this
  · have hb := of_decide_eq_false hb
    have hb2 := of_decide_eq_true hb2
    have e : laterE L k = 5 := by unfold laterE; rw [if_neg hb, if_pos (by omega)]
    have := hk w1 (ms (Mod.refl _ _)) ⟨la, lc, by unfold laterL; rw [if_neg (by show ¬ laterE L k = 0; rw [e]; omega)]; exact h1⟩
    rwa [e] at this
  · have hb := of_decide_eq_false hb
    have hb2 := of_decide_eq_false hb2
    have e : laterE L k = 0 := by unfold laterE; rw [if_neg hb, if_neg (by omega)]
    have md : Mod No w1 (drew w1) := (Mod.refl No w1).drew
    have hd := h1.nos md
    have ld := hd.ld (by kernel_rfl)
    have la0 : Ru (Instr.loadAt 71 (.pointer (some ⟨w.heap.size, 0, none⟩))) (drew w1) (.agg ⟨acV (k, m)⟩) (drew w1) := (a1.keep md id).at.loadAgg (i := 0) agg_pact (by rw [acV_len]; omega)
    refine ⟨_, rfl, _, _, _, ld, _, rfl, _, _, _, ld, _, rfl, _, _, _, ld, _, _, _, fun w' => hd.row.cut3 elemN_waits w', _, la0, _, fun w => build_wait w _ _ _, _, _, _, _, built_wait _ (n, k, m), ?_⟩
    have hZ1 : ∀ x, Z x → x < (drew w1).heap.size := fun x hx => by have := hZ x hx; have := md.size; omega
    obtain ⟨c', w4, w5, run, sto, h5, m5⟩ := hd.add (Te := 174) (x := (n, k, m)) elemG_waits (by kernel_rfl) hn hZ1
    have ma : Mod No (drew w1) ((drew w1).alloc (.cells ⟨wtV (n, k, m)⟩ 174)) := (Mod.refl No _).alloc _
    have la1 := (hd.nos ma).ld (by kernel_rfl)
    refine ⟨la1, la1, la1, _, _, _, w4, run, _, rfl, w5, sto, ?_⟩
    have := hk w5 (((m1.no md).mono fun _ _ h => h.elim).trans m5 fun _ _ e => e) ⟨_, c', by unfold laterL; rw [if_pos (show laterE L k = 0 from e)]; exact h5⟩
    rwa [e] at this
theorem kLater_nil {n k m : Int} (hk : ∀ w', Mod No w w' → K (.int .i64 2) w') : Cal Tryz.prog F_push_Work_Later #[.pointer none, .int .i64 n, .agg ⟨acV (k, m)⟩] w K := by
  apply C_push_Work_Later
  unfold D_push_Work_Later
  exact ⟨_, _, box_run, tt rfl (hk _ ((Mod.refl No w).alloc _))⟩
theorem kLen_c (h : Wk 168 Z w q L) (hk : K (.int .i64 L.length) w) : Cal Tryz.prog F_push_Work_Len #[.pointer (some ⟨q, 0, none⟩)] w K := by
  apply C_push_Work_Len
  unfold D_push_Work_Len
  obtain ⟨la, lc, h⟩ := h
  exact ff rfl ⟨_, rfl, _, _, _, h.ld (by kernel_rfl), hk⟩
theorem kLen_nil (hk : K (.int .i64 0) w) : Cal Tryz.prog F_push_Work_Len #[.pointer none] w K := by
  apply C_push_Work_Len
  unfold D_push_Work_Len
  exact tt rfl hk
/-- One element of the row. -/
theorem WkIn.at {Te : TypeId} {i : Nat} {x : Wt} (h : WkIn T Z w q L la lc) (hT : elemN Tryz.prog T = some 3) (hE : aggN Tryz.prog Te = some 3) (hn : L.length ≤ 5000) (hx : L[i]? = some x) : ∃ g, la = some ⟨g, 0, none⟩ ∧ Al (Instr.indexAt T (.slice la L.length lc) (.int .i64 i)) (.pointer (some ⟨g, i * 3, none⟩)) ∧
    Ru (Instr.loadAt Te (.pointer (some ⟨g, i * 3, none⟩))) w (.agg ⟨wtV x⟩) w ∧ (∀ (w' : World) (Ta : TypeId), Mod No w w' → aggN Tryz.prog Ta = some 2 → Ru (Instr.loadAt Ta (.pointer (some (Addr.add ⟨g, i * 3, none⟩ 1)))) w' (.agg ⟨acV x.2⟩) w') ∧
    ∀ (w' : World) (Ti : TypeId), Mod No w w' → scal Tryz.prog Ti = true → Ru (Instr.loadAt Ti (.pointer (some (Addr.add ⟨g, i * 3, none⟩ 0)))) w' (.int .i64 x.1) w' := by
  have hi := (List.getElem?_eq_some_iff.1 hx).1
  obtain ⟨g, rfl, hg, hat⟩ := h.row.sm (by omega)
  have hlen : (rowW L).length = L.length * 3 := flat_len' wtV_len L
  refine ⟨g, rfl, fun w' => ?_, ?_, fun w' Ta m hTa => ?_, fun w' Ti m hTi => ?_⟩
  · have := index_slice (P := Tryz.prog) (T := T) (k := 3) (a := ⟨g, 0, none⟩) (n := L.length) (c := lc) (kk := .i64) (i := i) hT (by omega) (by omega) w'
    rw [add_none, show 0 + (i : Int).toNat * 3 = i * 3 by omega] at this
    exact this
  · have := hat.at.loadAgg (P := Tryz.prog) (T := Te) (i := i * 3) hE (by rw [hlen]; omega)
    rw [show ((rowW L).drop (i * 3)).take 3 = wtV x from flat_drop wtV_len hx, Nat.zero_add] at this
    exact this
  · rw [add_none]
    have := (hat.keep m id).at.loadAgg (P := Tryz.prog) (T := Ta) (i := i * 3 + 1) hTa (by rw [hlen]; omega)
    rw [Nat.zero_add] at this
    have e : ((rowW L).drop (i * 3 + 1)).take 2 = acV x.2 := by
      have h1 : ((rowW L).drop (i * 3)).take 3 = wtV x := flat_drop wtV_len hx
      have h2 : ((rowW L).drop (i * 3 + 1)).take 2 = (((rowW L).drop (i * 3)).take 3).drop 1 := by
        rw [List.drop_take, List.drop_drop]
      rw [h2, h1]; rfl
    rw [e] at this
    exact this
  · rw [add_none]
    have := (hat.keep m id).at.load (P := Tryz.prog) (T := Ti) (i := i * 3 + 0) hTi (v := .int .i64 x.1) (flat_cell wtV_len hx rfl)
    rw [Nat.zero_add] at this
    exact this
def ripeP (V : Ps) (x : Wt) : Bool := decide (x.1 < 1) || safeV V x.1
theorem kRipe_c (hP : Pz w0 R w sp d V) (h : Wk 168 Z w q L) (hn : L.length ≤ 5000) (hZ : ∀ x, Z x → x < w.heap.size)
    (hk : ∀ w' a c, Mod (fun z => z = q) w w' → Wk 168 Z w' q (L.filter fun x => !ripeP V x) → Own Tryz.prog w' w.heap.size 77 2 a (L.filter (ripeP V)).length c (rowC ((L.filter (ripeP V)).map (·.2))) →
      K (.slice a (L.filter (ripeP V)).length c) w') :
    Cal Tryz.prog F_push_Work_Ripe #[.pointer (some ⟨q, 0, none⟩), .pointer (some ⟨sp, 0, none⟩)] w K := by
  apply C_push_Work_Ripe
  unfold D_push_Work_Ripe
  obtain ⟨la, lc, h⟩ := h
  refine ff rfl ⟨_, rfl, _, _, _, h.ld (by kernel_rfl), ?_⟩
  refine ⟨fun x w1 => ∃ (i : Nat) (a5 a6 : Option Addr) (c5 c6 : Nat) (y : Value), x = [.slice a5 ((L.take i).filter (ripeP V)).length c5, .slice a6 ((L.take i).filter fun x => !ripeP V x).length c6, .int .i64 i, y] ∧ i ≤ L.length ∧
      Own Tryz.prog w1 w.heap.size 77 2 a5 ((L.take i).filter (ripeP V)).length c5 (rowC (((L.take i).filter (ripeP V)).map (·.2))) ∧ Own Tryz.prog w1 w.heap.size 168 3 a6 ((L.take i).filter fun x => !ripeP V x).length c6 (rowW ((L.take i).filter fun x => !ripeP V x)) ∧
      (∀ q q', a5 = some q → a6 = some q' → q.block ≠ q'.block) ∧ Mod No w w1, fun x _ => (L.length - nI x 2).toNat,
    ⟨0, none, none, 0, 0, _, rfl, by omega, Own.nilG elemG_acts, Own.nilG elemG_waits, (fun _ _ e => by cases e), Mod.refl _ _⟩, ?_⟩
  rintro x w1 ⟨i, a5, a6, c5, c6, y, rfl, hi, o5, o6, h56, m1⟩
  have h1 := h.nos m1
  have hz1 := m1.size
  refine ⟨_, rfl, cond_of (fun hb => ?_) (fun hb => ?_)⟩
  · have hi : i < L.length := by have := of_decide_eq_true hb; omega
    have hx : L[i]? = some L[i] := List.getElem?_eq_getElem hi
    have htk := List.take_succ_eq_append_getElem hi
    obtain ⟨g, rfl, hix, hag, _, _⟩ := h1.at (Te := 174) elemN_waits agg_wait hn hx
    generalize L[i] = x at *
    have hst : RuU (Instr.storeAt 174 (.pointer (some ⟨w1.heap.size, 0, none⟩)) (.agg ⟨wtV x⟩)) (w1.alloc (.cells ⟨[.int .i64 0, .int .i64 0, .int .i64 0]⟩ 174)) (w1.alloc (.cells ⟨wtV x⟩ 174)) := store_new agg_wait rfl rfl (wtV_one x)
    refine Share.cut (fun z w10 => ∃ (a5 a6 : Option Addr) (c5 c6 : Nat) (y : Value), z = [.slice a5 ((L.take (i + 1)).filter (ripeP V)).length c5, .slice a6 ((L.take (i + 1)).filter fun x => !ripeP V x).length c6, y] ∧
      Own Tryz.prog w10 w.heap.size 77 2 a5 ((L.take (i + 1)).filter (ripeP V)).length c5 (rowC (((L.take (i + 1)).filter (ripeP V)).map (·.2))) ∧ Own Tryz.prog w10 w.heap.size 168 3 a6 ((L.take (i + 1)).filter fun x => !ripeP V x).length c6 (rowW ((L.take (i + 1)).filter fun x => !ripeP V x)) ∧
      (∀ q q', a5 = some q → a6 = some q' → q.block ≠ q'.block) ∧ Mod No w w10) ⟨_, hix, _, hag, _, _, alloc_wait _, _, hst, ?_⟩ ?_
    · have m3 : Mod No w1 (w1.alloc (.cells ⟨wtV x⟩ 174)) := (Mod.refl No w1).alloc _
      have a3 : AtU (w1.alloc (.cells ⟨wtV x⟩ 174)) w1.heap.size 0 (wtV x) := AtU.new
      generalize w1.alloc (.cells ⟨wtV x⟩ 174) = w3 at *
      have l3 : Ru (Instr.loadAt 2 (.pointer (some (Addr.add ⟨w1.heap.size, 0, none⟩ 0)))) w3 (.int .i64 x.1) w3 := by rw [add_none]; exact a3.at.load (i := 0) (by kernel_rfl) rfl
      have M3 := m1.no m3
      have hz3 := M3.size
      refine Share.cut (fun z w5 => w3 = w5 ∧ z = [.bool (ripeP V x)]) ⟨_, l3, cond_of (fun hb2 => ⟨rfl, ?_⟩) (fun hb2 => ⟨_, l3, qSafe_c (hP.nos M3) ⟨_, rfl, rfl, ?_⟩⟩)⟩ ?_
      · unfold ripeP; rw [hb2]; rfl
      · unfold ripeP; rw [hb2]; rfl
      rintro z w5 ⟨rfl, rfl⟩
      have o5' := o5.nos m3
      have o6' := o6.nos m3
      refine ⟨_, rfl, cond_of (fun hb2 => ?_) (fun hb2 => ?_)⟩
      · have e1 : (L.take (i + 1)).filter (ripeP V) = (L.take i).filter (ripeP V) ++ [x] := by rw [htk, List.filter_append]; simp [hb2]
        have e2 : (L.take (i + 1)).filter (fun x => !ripeP V x) = (L.take i).filter fun x => !ripeP V x := by rw [htk, List.filter_append]; simp [hb2]
        have hfl := List.length_filter_le (ripeP V) (L.take i)
        rw [List.length_take] at hfl
        have la1 : Ru (Instr.loadAt 71 (.pointer (some (Addr.add ⟨w1.heap.size, 0, none⟩ 1)))) w3 (.agg ⟨acV x.2⟩) w3 := by
          rw [add_none]; exact a3.at.loadAgg (i := 1) agg_pact (by rw [wtV_len]; omega)
        obtain ⟨q2, c', w7, run, p, mm, hq2⟩ := snocG (Te := 71) (ys := acV x.2) elemG_acts (by omega) o5' rfl (acV_one _) (by omega) (by omega) (by omega)
        refine ⟨_, _, _, rfl, _, la1, _, _, _, _, built_act _ _, _, _, _, w7, run, some q2, a6, c', c6, .bool (ripeP V x), (by rw [e1, e2, List.length_append]; rfl), ?_, ?_, ?_, ?_⟩
        · rw [e1]
          have : rowC (((L.take i).filter (ripeP V) ++ [x]).map (·.2)) = rowC (((L.take i).filter (ripeP V)).map (·.2)) ++ acV x.2 := by rw [List.map_append]; exact rowC_snoc _ _
          rw [this, show ((L.take i).filter (ripeP V) ++ [x]).length = ((L.take i).filter (ripeP V)).length + 1 by simp]
          exact p
        · rw [e2]
          exact o6'.keep mm fun q' hq' ⟨q5, e5, e⟩ => h56 q5 q' e5 hq' e.symm
        · intro q' q6 e' e6 e
          cases e'
          rcases hq2 with ⟨q5, e5, e7⟩ | e7
          · exact h56 q5 q6 e5 e6 (by rw [← e7]; exact e)
          · have := (o6'.base e6).2; omega
        · exact M3.trans mm fun z hz ⟨q5, e5, e⟩ => by have := (o5.base e5).1; omega
      · have e1 : (L.take (i + 1)).filter (ripeP V) = (L.take i).filter (ripeP V) := by rw [htk, List.filter_append]; simp [hb2]
        have e2 : (L.take (i + 1)).filter (fun x => !ripeP V x) = ((L.take i).filter fun x => !ripeP V x) ++ [x] := by rw [htk, List.filter_append]; simp [hb2]
        have hfl := List.length_filter_le (fun x => !ripeP V x) (L.take i)
        rw [List.length_take] at hfl
        have la1 : Ru (Instr.loadAt 174 (.pointer (some ⟨w1.heap.size, 0, none⟩))) w3 (.agg ⟨wtV x⟩) w3 := a3.at.loadAgg (i := 0) agg_wait (by rw [wtV_len]; omega)
        obtain ⟨q2, c', w7, run, p, mm, hq2⟩ := snocG (Te := 174) (ys := wtV x) elemG_waits (by omega) o6' rfl (wtV_one _) (by omega) (by omega) (by omega)
        refine ⟨_, _, _, rfl, _, la1, _, _, _, _, built_wait _ _, _, _, _, w7, run, a5, some q2, c5, c', .bool (ripeP V x), (by rw [e1, e2, List.length_append]; rfl), ?_, ?_, ?_, ?_⟩
        · rw [e1]
          exact o5'.keep mm fun q' hq' ⟨q5, e5, e⟩ => h56 q' q5 hq' e5 e
        · rw [e2, rowW_snoc, show (((L.take i).filter fun x => !ripeP V x) ++ [x]).length = ((L.take i).filter fun x => !ripeP V x).length + 1 by simp]
          exact p
        · intro q5 q' e5 e' e
          cases e'
          rcases hq2 with ⟨q6, e6, e7⟩ | e7
          · exact h56 q5 q6 e5 e6 (by rw [← e7]; exact e)
          · have := (o5'.base e5).2; omega
        · exact M3.trans mm fun z hz ⟨q5, e5, e⟩ => by have := (o6.base e5).1; omega
    rintro z w10 ⟨a5, a6, c5, c6, y, rfl, o5, o6, h56, m10⟩
    rw [wrap64 (x := (i : Int) + 1) (by omega) (by omega)]
    exact ⟨⟨i + 1, a5, a6, c5, c6, _, rfl, by omega, o5, o6, h56, m10⟩, by simp [nI, nth]; omega⟩
  · have hi : i = L.length := by have := of_decide_eq_false hb; omega
    subst hi
    rw [List.take_length] at o5 o6
    obtain ⟨w5, u1, u2, u3, u4⟩ := h1.cell.store (P := Tryz.prog) (T := 168) (i := 0) (v := .slice a6 (L.filter fun x => !ripeP V x).length c6) (by kernel_rfl) (by simp) rfl
    have hqw := h.cell.lt
    rw [List.take_length]
    refine ⟨_, _, _, rfl, _, rfl, w5, by rw [add_none]; exact u1, _, _, _, rfl, hk w5 a5 c5 ((m1.mono fun _ _ h => h.elim).trans u3 fun _ _ e => e) ⟨a6, c6, ⟨u2, ?_, fun a ha => ⟨fun e => ?_, fun e => ?_⟩, h.nz⟩⟩ ?_⟩
    · exact (o6.keep u3 fun a ha e => by have e : a.block = q := e; have := (o6.base ha).1; omega).mono (by omega)
    · have := (o6.base ha).1; omega
    · have := (o6.base ha).1; have := hZ _ e; omega
    · exact o5.keep u3 fun a ha e => by have e : a.block = q := e; have := (o5.base ha).1; omega
theorem kRipe_nil {q1 : Option Addr} (hk : K (.slice none 0 0) w) : Cal Tryz.prog F_push_Work_Ripe #[.pointer none, .pointer q1] w K := by
  apply C_push_Work_Ripe
  unfold D_push_Work_Ripe
  exact tt rfl hk
theorem kList_nil (hk : K (.slice none 0 0) w) : Cal Tryz.prog F_push_Work_List #[.pointer none] w K := by
  apply C_push_Work_List
  unfold D_push_Work_List
  refine kLen_nil ⟨_, rfl, ?_⟩
  refine ⟨fun x w1 => w1 = w ∧ x = [.slice none 0 0, .int .i64 0], fun _ _ => 0, ⟨rfl, rfl⟩, ?_⟩
  rintro x w1 ⟨rfl, rfl⟩
  exact ⟨_, rfl, ff rfl ⟨_, _, _, rfl, hk⟩⟩
end
end Go.Proofs.YtocjjigmpgekfaaGreat
end
section
/- Layer 12: acts alike; does an act wait; the fixed calls; the statement PushNil. -/
open Go Go.Den Go.Proofs
namespace Go.Proofs.YtocjjigmpgekfaaGreat
/-- A struct of two integers. -/
def two (P : Program) (T : TypeId) : Bool :=
  match (P.fieldsOf T).toList with
  | [f, g] => f.name != "_" && g.name != "_" && f.type == 3 && f.offset == 0 && g.type == 3 && g.offset == 1
  | _ => false
theorem two_is {P : Program} {T : TypeId} (h : two P T = true) : ∃ f g, (P.fieldsOf T).toList = [f, g] ∧ f.name ≠ "_" ∧ g.name ≠ "_" ∧ f.type = 3 ∧ f.offset = 0 ∧ g.type = 3 ∧ g.offset = 1 := by
  unfold two at h
  split at h
  · rename_i f g e
    simp only [Bool.and_eq_true, bne_iff_ne, beq_iff_eq] at h
    exact ⟨f, g, e, h.1.1.1.1.1, h.1.1.1.1.2, h.1.1.1.2, h.1.1.2, h.1.2, h.2⟩
  · cases h
section
variable {w w' w0 : World} {R : Nat → Prop} {sp d : Nat} {V : Ps} {K : Value → World → Prop} {T : TypeId} {Z Z' : Nat → Prop} {q lc : Nat} {L : List Wt} {la : Option Addr}
def sameA (x y : Int × Int) : Bool := x.1 == y.1 && x.2 == y.2
theorem eqIn_act (h2 : two Tryz.prog T = true) (ht : Tryz.prog.underlying T = some (.struct (Tryz.prog.fieldsOf T))) (hp : Tryz.prog.stoodInHeld T = false) (x y : Int × Int) (w : World) :
    (Op.equalIn 10000 T (.agg ⟨acV x⟩) (.agg ⟨acV y⟩)).run Tryz.prog w = .ok (sameA x y) w := by
  obtain ⟨f, g, hfs, nf, ng, tf, of, tg, og⟩ := two_is h2
  rw [run_equalIn_agg w 9999 T _ _ ht hp, hfs]
  unfold Op.eqFields
  rw [if_pos nf, tf, of]
  have p1 : ∀ x : Int × Int, ∀ w : World, (part 3 ⟨acV x⟩ 0).run Tryz.prog w = .ok (.int .i64 x.1) w := fun x w => by kernel_rfl
  have p2 : ∀ x : Int × Int, ∀ w : World, (part 3 ⟨acV x⟩ 1).run Tryz.prog w = .ok (.int .i64 x.2) w := fun x w => by kernel_rfl
  have e1 : ∀ a b : Int, (Op.equalIn 9999 3 (.int .i64 a) (.int .i64 b)).run Tryz.prog w = .ok (a == b) w := fun a b => run_equalIn_int w 9998 3 .i64 .i64 a b (by kernel_rfl)
  unfold sameA
  cases h1 : x.1 == y.1 with
  | false => simp [Sem.run_bind, p1, e1, h1]
  | true =>
    simp [Sem.run_bind, p1, e1, h1, Op.eqFields, ng, tg, og, p2]
    cases h3 : x.2 == y.2 <;> simpa using h3
theorem eql_act (h2 : two Tryz.prog T = true) (ht : Tryz.prog.underlying T = some (.struct (Tryz.prog.fieldsOf T))) (hp : Tryz.prog.stoodInHeld T = false) (hg : Tryz.prog.eqGuardType Tryz.prog.depth T = false) (o1 o2 : Operand) (x y : Int × Int) :
    Al (eqS .eql T o1 o2 (.agg ⟨acV x⟩) (.agg ⟨acV y⟩)) (.bool (sameA x y)) := fun w => by
  unfold eqS
  rw [Sem.run_bind, run_eqGuard_agg w _ _ _ _ _ _ hg, Result.andThen_ok, run_eql_struct, eqIn_act h2 ht hp, Result.andThen_ok]
theorem two_act : two Tryz.prog 71 = true := by kernel_rfl
theorem und_act : Tryz.prog.underlying 71 = some (.struct (Tryz.prog.fieldsOf 71)) := by kernel_rfl
theorem std_act : Tryz.prog.stoodInHeld 71 = false := by kernel_rfl
theorem grd_act : Tryz.prog.eqGuardType Tryz.prog.depth 71 = false := by kernel_rfl
/-- A row of acts: one element. -/
theorem actAt {T Te : TypeId} {base l c i : Nat} {a : Option Addr} {xs : List (Int × Int)} {x : Int × Int} (h : Own Tryz.prog w base T 2 a l c (rowC xs)) (hl : xs.length = l) (hT : elemN Tryz.prog T = some 2) (hE : aggN Tryz.prog Te = some 2) (h63 : l ≤ 1000000) (hx : xs[i]? = some x) :
    ∃ g, a = some ⟨g, 0, none⟩ ∧ base ≤ g ∧ Al (Instr.indexAt T (.slice a l c) (.int .i64 i)) (.pointer (some ⟨g, i * 2, none⟩)) ∧ (∀ w', Mod No w w' → Ru (Instr.loadAt Te (.pointer (some ⟨g, i * 2, none⟩))) w' (.agg ⟨acV x⟩) w') ∧
      ∀ (w' : World) (j : Nat) (v : Value) (Ti : TypeId), Mod No w w' → scal Tryz.prog Ti = true → (acV x)[j]? = some v → Ru (Instr.loadAt Ti (.pointer (some (Addr.add ⟨g, i * 2, none⟩ j)))) w' v w' := by
  have hi := (List.getElem?_eq_some_iff.1 hx).1
  obtain ⟨g, rfl, hg, hat⟩ := h.sm (by omega)
  have hlen : (rowC xs).length = xs.length * 2 := flat_len' acV_len xs
  refine ⟨g, rfl, hg, fun w' => ?_, fun w' m => ?_, fun w' j v Ti m hTi hj => ?_⟩
  · have := index_slice (P := Tryz.prog) (T := T) (k := 2) (a := ⟨g, 0, none⟩) (n := l) (c := c) (kk := .i64) (i := i) hT (by omega) (by omega) w'
    rw [add_none, show 0 + (i : Int).toNat * 2 = i * 2 by omega] at this
    exact this
  · have := (hat.keep m id).at.loadAgg (P := Tryz.prog) (T := Te) (i := i * 2) hE (by rw [hlen]; omega)
    rw [show ((rowC xs).drop (i * 2)).take 2 = acV x from flat_drop acV_len hx, Nat.zero_add] at this
    exact this
  · rw [add_none]
    have := (hat.keep m id).at.load (P := Tryz.prog) (T := Ti) (i := i * 2 + j) hTi (v := v) (flat_cell acV_len hx hj)
    rw [Nat.zero_add] at this
    exact this
theorem elemN_acts : elemN Tryz.prog 77 = some 2 := by kernel_rfl
theorem ContainsA_c {base l c : Nat} {a : Option Addr} {xs : List (Int × Int)} {y : Int × Int} (h : Own Tryz.prog w base 77 2 a l c (rowC xs)) (hl : xs.length = l) (h63 : l ≤ 1000000)
    (hk : ∀ w', Mod No w w' → K (.bool (xs.any fun x => sameA x y)) w') : Cal Tryz.prog F_slices_Contains_push_Act #[.slice a l c, .agg ⟨acV y⟩] w K := by
  apply C_slices_Contains_push_Act
  unfold D_slices_Contains_push_Act
  refine ⟨_, _, box_run, ?_⟩
  have m1 : Mod No w (w.alloc (.cells (Value.agg ⟨acV y⟩).cells 71)) := (Mod.refl No w).alloc _
  have a1 : AtU (w.alloc (.cells (Value.agg ⟨acV y⟩).cells 71)) w.heap.size 0 (acV y) := AtU.new
  generalize w.alloc (.cells (Value.agg ⟨acV y⟩).cells 71) = w1 at *
  have la1 : Ru (Instr.loadAt 71 (.pointer (some ⟨w.heap.size, 0, none⟩))) w1 (.agg ⟨acV y⟩) w1 := a1.at.loadAgg (i := 0) agg_pact (by rw [acV_len]; omega)
  refine ⟨_, la1, ?_⟩
  apply C_slices_Index_push_Act
  unfold D_slices_Index_push_Act
  refine ⟨_, _, box_run, ?_⟩
  have m2 : Mod No w1 (w1.alloc (.cells (Value.agg ⟨acV y⟩).cells 71)) := (Mod.refl No w1).alloc _
  have a2 : AtU (w1.alloc (.cells (Value.agg ⟨acV y⟩).cells 71)) w1.heap.size 0 (acV y) := AtU.new
  generalize w1.alloc (.cells (Value.agg ⟨acV y⟩).cells 71) = w2 at *
  have M2 := m1.no m2
  refine ⟨fun x w3 => ∃ i : Nat, x = [.int .i64 i] ∧ i ≤ l ∧ Mod No w2 w3 ∧ ((xs.take i).any fun x => sameA x y) = false, fun x _ => (l - nI x 0).toNat, ⟨0, rfl, by omega, Mod.refl _ _, rfl⟩, ?_⟩
  rintro x w3 ⟨i, rfl, hi, m3, hno⟩
  refine ⟨_, rfl, cond_of (fun hb => ?_) (fun hb => ?_)⟩
  · have hi : i < xs.length := by have := of_decide_eq_true hb; omega
    have md : Mod No w2 (drew w3) := m3.drew
    obtain ⟨g, rfl, _, hix, hag, _⟩ := actAt (Te := 71) h hl elemN_acts agg_pact h63 (List.getElem?_eq_getElem hi)
    have ht : ((xs.take (i + 1)).any fun x => sameA x y) = (((xs.take i).any fun x => sameA x y) || sameA xs[i] y) := by rw [List.take_succ_eq_append_getElem hi, List.any_append]; simp
    refine ⟨_, (a2.keep md id).at.loadAgg (i := 0) agg_pact (by rw [acV_len]; omega), _, hix, _, hag _ (M2.no md), _, eql_act two_act und_act std_act grd_act _ _ y xs[i], cond_of (fun hb2 => ?_) (fun hb2 => ?_)⟩
    · refine ⟨_, rfl, ?_⟩
      have hs : (xs.any fun x => sameA x y) = true := List.any_eq_true.2 ⟨xs[i], List.getElem_mem hi, by unfold sameA at hb2 ⊢; simp at hb2 ⊢; omega⟩
      rw [decide_eq_true (by omega), ← hs]
      exact hk _ (M2.no md)
    · rw [wrap64 (x := (i : Int) + 1) (by omega) (by omega)]
      refine ⟨⟨i + 1, rfl, by omega, md, ?_⟩, by simp [nI, nth]; omega⟩
      rw [ht, hno, Bool.false_or]
      unfold sameA at hb2 ⊢
      rw [Bool.eq_false_iff] at hb2 ⊢
      intro e; apply hb2; simp at e ⊢; omega
  · have hi : i = xs.length := by have := of_decide_eq_false hb; omega
    subst hi
    rw [List.take_length] at hno
    refine ⟨_, rfl, ?_⟩
    rw [decide_eq_false (by omega), ← hno]
    exact hk _ (M2.no m3)
theorem kWaits_nil {y : Int × Int} (hk : ∀ w', Mod No w w' → K (.bool false) w') : Cal Tryz.prog F_push_Work_Waits #[.pointer none, .agg ⟨acV y⟩] w K := by
  apply C_push_Work_Waits
  unfold D_push_Work_Waits
  refine ⟨_, _, box_run, ?_⟩
  have m1 : Mod No w (w.alloc (.cells (Value.agg ⟨acV y⟩).cells 71)) := (Mod.refl No w).alloc _
  have a1 : AtU (w.alloc (.cells (Value.agg ⟨acV y⟩).cells 71)) w.heap.size 0 (acV y) := AtU.new
  generalize w.alloc (.cells (Value.agg ⟨acV y⟩).cells 71) = w1 at *
  have md : Mod No w1 (drew w1) := (Mod.refl No w1).drew
  refine ⟨_, (a1.keep md id).at.loadAgg (i := 0) agg_pact (by rw [acV_len]; omega), kList_nil ⟨_, _, _, rfl, (a1.keep md id).at.loadAgg (i := 0) agg_pact (by rw [acV_len]; omega), ?_⟩⟩
  refine ContainsA_c (xs := []) (Own.nilG (base := 0) elemG_acts) rfl (by omega) fun w3 m3 => ⟨_, rfl, ?_⟩
  exact hk w3 ((m1.no md).no m3)
end
end Go.Proofs.YtocjjigmpgekfaaGreat
end
section
/- Layer 12: a store of five blocks; the fixed calls; the statement PushNil. -/
open Go Go.Den Go.Proofs
namespace Go.Proofs.YtocjjigmpgekfaaGreat
def g0 : Ps := zeroV 5 5
def g1 : Ps := patS g0 3 0 [97] []
def g2 : Ps := patS g1 4 0 [98] [1]
def g3 : Ps := patS g2 3 1 [99] [2]
theorem g1e : patE g0 3 0 [97] [] = 0 ∧ patN g0 3 0 [97] [] = 1 ∧ g0.last = 0 := by decide +kernel
theorem g2e : patE g1 4 0 [98] [1] = 0 ∧ patN g1 4 0 [98] [1] = 2 ∧ g1.last = 1 := by decide +kernel
theorem g3e : patE g2 3 1 [99] [2] = 0 ∧ patN g2 3 1 [99] [2] = 3 ∧ g2.last = 2 := by decide +kernel
theorem g3s : safeV g3 3 = false := by decide +kernel
theorem g3b : (g3.C.D.vs.all fun v => decide (v.length ≤ 1000)) = true := by decide +kernel
/-- The open changes by their numbers, so that it can be worked out. -/
def insI (x : Ch) : List Ch → List Ch
  | [] => [x]
  | y :: r => if x.id ≤ y.id then x :: y :: r else y :: insI x r
def isrt : List Ch → List Ch
  | [] => []
  | x :: r => insI x (isrt r)
theorem insI_perm (x : Ch) : ∀ l, (insI x l).Perm (x :: l)
  | [] => List.Perm.refl _
  | y :: r => by
    unfold insI
    split
    · exact List.Perm.refl _
    · exact ((insI_perm x r).cons y).trans (List.Perm.swap _ _ _)
theorem isrt_perm : ∀ l, (isrt l).Perm l
  | [] => List.Perm.refl _
  | x :: r => (insI_perm x _).trans ((isrt_perm r).cons x)
theorem insI_le (x : Ch) : ∀ l, (l.Pairwise fun x y : Ch => x.id ≤ y.id) → (insI x l).Pairwise fun x y : Ch => x.id ≤ y.id
  | [], _ => List.pairwise_singleton _ _
  | y :: r, h => by
    have h' := List.pairwise_cons.1 h
    unfold insI
    split
    · rename_i e
      exact List.pairwise_cons.2 ⟨fun z hz => by
        rcases List.mem_cons.1 hz with rfl | hz
        · exact e
        · have := h'.1 z hz; omega, h⟩
    · rename_i e
      exact List.pairwise_cons.2 ⟨fun z hz => by
        rcases List.mem_cons.1 ((insI_perm x r).mem_iff.1 hz) with rfl | hz
        · omega
        · exact h'.1 z hz, insI_le x r h'.2⟩
theorem isrt_le : ∀ l, (isrt l).Pairwise fun x y : Ch => x.id ≤ y.id
  | [] => List.Pairwise.nil
  | x :: r => insI_le x _ (isrt_le r)
theorem srtV_isrt {V : Ps} (h : WFS V) : srtV V = isrt V.all := by
  have hn : ((isrt V.all).map (·.id)).Nodup := ((isrt_perm V.all).map (·.id)).nodup_iff.2 h.ids
  refine eq_of_srt (srtV_srt h) ?_ fun x => by rw [(srtV_perm V).mem_iff, (isrt_perm V.all).mem_iff]
  have h1 := isrt_le V.all
  have h2 : (isrt V.all).Pairwise fun x y : Ch => x.id ≠ y.id := List.pairwise_map.1 hn
  exact (h1.and h2).imp fun h => by omega
def oneB' (id : Int) (V : Ps) : List Int := ((List.range V.C.D.vs.length).filter fun b => V.all.any fun x => decide (x.b = b) && (waitsL (isrt V.all) id).contains (x.id : Int)).map fun b : Nat => (b : Int)
theorem oneB_eq {id : Int} {V : Ps} (h : Gd V) : oneB id V = oneB' id V := by
  unfold oneB oneB' waitsV
  rw [srtV_isrt h.s]
theorem rnds_congr {nx nx' : Ps → List Int} (h : ∀ V, Gd V → nx V = nx' V) : ∀ {f : Nat} {V : Ps}, Gd V → rnds nx f V = rnds nx' f V
  | 0, _, _ => rfl
  | f + 1, V, g => by
    have e := h V g
    by_cases hn : nx V = []
    · rw [rnds_nil hn, rnds_nil (by rw [← e]; exact hn)]
    · rw [rnds_succ hn, rnds_succ (by rw [← e]; exact hn), e, rnds_congr h (g.round _)]
theorem gone : (rnds (oneB' 3) (openV g3) g3).1 = 3 := by decide +kernel
theorem gsafe : safeV (rnds (oneB' 3) (openV g3) g3).2 3 = true := by decide +kernel
section
variable {w w' w0 : World} {R R' : Nat → Prop} {sp d : Nat} {V : Ps} {K : Value → World → Prop} {T : TypeId} {Z Z' : Nat → Prop} {q lc : Nat} {L : List Wt} {la : Option Addr}
theorem oneV_eq {id : Int} (h : Gd V) : oneV id V = rnds (oneB' id) (openV V) V := rnds_congr (fun _ h => oneB_eq h) h
theorem open12_c (hk : ∀ w' R R2 sp d rp r, Mod No w w' → T11 w R R2 w' sp d rp r (zeroV 5 5) (newRs (newSt 5)) → K (.tuple #[.pointer (some ⟨sp, 0, none⟩), .pointer (some ⟨d, 0, none⟩), .pointer (some ⟨rp, 0, none⟩), .bool true]) w') :
    Cal Tryz.prog F_leveelaw12_open #[] w K := by
  apply C_leveelaw12_open
  unfold D_leveelaw12_open
  refine New_c (n := 5) (by omega) (by omega) (fun h => by omega) fun k hk' _ _ w1 d sb mb m1 h1 => ⟨_, _, rfl, ?_⟩
  have : k = 5 := by omega
  subst this
  refine refNew_c (n := 5) (by omega) (by omega) (fun h => by omega) fun k hk2 _ _ w2 r vb vc hs m2 h2 => ⟨_, _, rfl, ?_⟩
  have : k = 5 := by omega
  subst this
  have hsm : Small (newSt 5) := Small.one (sm _ (by decide +kernel))
  have hz1 := m1.size
  have hz2 := m2.size
  refine qNew_c (w0 := w) (k := 5) (h1.nos m2) hsm (fun x hx => ⟨hx.1, by omega⟩) (m1.no m2) rfl (by omega) (by omega) (by simp [newSt]) fun w3 sp m3 z3 => ⟨_, _, rfl, ?_⟩
  have hz3 := m3.size
  refine Share.dup (rOpen11_c (w0 := w) (h2.nos m3) hsm (fun x hx => ⟨by omega, by omega⟩) ((m1.no m2).no m3) fun w6 rp m6 q6 => ⟨_, rfl, tt rfl ?_⟩)
  have hz6 := m6.size
  have t6 : T11 w (Gro (fun x => w.heap.size ≤ x ∧ x < w1.heap.size) w2 w3) (Gro (fun x => w1.heap.size ≤ x ∧ x < w2.heap.size) w3 w6) w6 sp d rp r (zeroV 5 5) (newRs (newSt 5)) := ⟨z3.nos m6, q6, fun x hx e => by
    rcases hx with hx | hx <;> rcases e with e | e <;> omega⟩
  exact ⟨_, rfl, _, rfl, _, rfl, _, rfl, hk w6 _ _ sp d rp r (((m1.no m2).no m3).no m6) t6⟩
theorem build_work0 (w : World) : (Instr.build 170 #[]).run Tryz.prog w = .ok (.agg ⟨[.slice none 0 0]⟩) w := by kernel_rfl
theorem build_act (w : World) (k m : Int) : (Instr.build 71 #[(0, .int .i64 k), (1, .int .i64 m)]).run Tryz.prog w = .ok (.agg ⟨acV (k, m)⟩) w := by kernel_rfl
theorem build_act1 (w : World) (k : Int) : (Instr.build 71 #[(0, .int .i64 k)]).run Tryz.prog w = .ok (.agg ⟨acV (k, 0)⟩) w := by kernel_rfl
theorem build_act0 (w : World) : (Instr.build 71 #[]).run Tryz.prog w = .ok (.agg ⟨acV (0, 0)⟩) w := by kernel_rfl
theorem kNew_c (hZ : ∀ x, Z x → x < w.heap.size) (hk : ∀ w', Mod No w w' → Wk 168 Z w' w.heap.size [] → K (.pointer (some ⟨w.heap.size, 0, none⟩)) w') : Cal Tryz.prog F_push_New #[] w K := by
  apply C_push_New
  unfold D_push_New
  exact ⟨_, fun w => build_work0 w, _, _, box_run, hk _ ((Mod.refl No w).alloc _) ⟨none, 0, AtU.new, Own.nilG elemG_waits, (fun _ h => by cases h), (fun e => by have := hZ _ e; omega)⟩⟩
theorem Wk.step (h : Wk T R w q L) (m : Mod R w w') : Wk T (Gro R w w') w' q L := h.keep m (fun _ h => h) fun x hx e => by
  rcases e with e | e
  · exact e
  · omega
theorem known12_c (hk : ∀ w', Mod No w w' → K (.bool true) w') : Cal Tryz.prog F_leveelaw12_known #[] w K := by
  apply C_leveelaw12_known
  unfold D_leveelaw12_known
  refine open12_c fun w2 R R2 sp d rp r m2 t2 => ⟨_, _, _, _, rfl, ?_⟩
  have z2 : Pz w R w2 sp d g0 := t2.p
  clear t2
  have s0 : Srt g0 := fun o ho => by cases ho
  have s1 : Srt g1 := s0.pat z2.wf.1 _ _ _ _
  have lo2 := z2.lo
  have hz2 := m2.size
  refine kNew_c (fun x hx => (lo2 x hx).2) fun w3 m3 k3 => ⟨_, rfl, Share.dup (ff rfl ⟨_, rfl, ff rfl ?_⟩)⟩
  generalize hq : w2.heap.size = q at *
  have z3 := z2.nos m3
  have lo3 := z3.lo
  -- the changes
  obtain ⟨ma, ra⟩ := lit w3 97
  refine ⟨_, _, _, _, built1 _ 97, _, _, _, _, conv_lit _ 97, qPatch_c (n := 3) (frm := 0) (data := [97]) (after := []) (z3.nos ma) (by rw [g1e.2.2]; omega) rfl ra (fun _ q hq hR => by cases hq; have := (lo3 _ hR).2; simp only at this; omega) (by omega) rfl (by omega) (.inl rfl) (fun _ q hq => by cases hq) fun w4 m4 z4 => ⟨_, _, rfl, ?_⟩⟩
  rw [g1e.2.1]
  have z4 : Pz w _ w4 sp d g1 := z4
  have s2 : Srt g2 := s1.pat z4.wf.1 _ _ _ _
  have k4 := (k3.nos ma).step m4
  obtain ⟨mb, rb⟩ := lit w4 98
  have lo4 := z4.lo
  refine ⟨_, _, _, _, built1 _ 98, _, _, _, _, conv_lit _ 98, _, _, _, _, builtI64 _ 1, ?_⟩
  have mb2 : Mod No (w4.alloc (.cells ⟨[.int .u8 ((98 : UInt8).toNat : Int)]⟩ 5 (1, 2))) ((w4.alloc (.cells ⟨[.int .u8 ((98 : UInt8).toNat : Int)]⟩ 5 (1, 2))).alloc (.cells ⟨[.int .i64 1]⟩ 2)) := (Mod.refl No _).alloc _
  refine qPatch_c (n := 4) (frm := 0) (data := [98]) (after := [1]) ((z4.nos mb).nos mb2) (by rw [g2e.2.2]; omega) rfl (rb.nos mb2) (fun _ q hq hR => by cases hq; have := (lo4 _ hR).2; simp only at this; omega) (by omega) rfl (by omega) (.inr ⟨_, _, rfl, AtU.new.at⟩) (fun _ q hq hR => by cases hq; have := (lo4 _ hR).2; simp at this; omega) fun w5 m5 z5 => ⟨_, _, rfl, ?_⟩
  rw [g2e.2.1]
  have z5 : Pz w _ w5 sp d g2 := z5
  have s3 : Srt g3 := s2.pat z5.wf.1 _ _ _ _
  have k5 := ((k4.nos mb).nos mb2).step m5
  obtain ⟨mc, rc⟩ := lit w5 99
  have lo5 := z5.lo
  refine ⟨_, _, _, _, built1 _ 99, _, _, _, _, conv_lit _ 99, _, _, _, _, builtI64 _ 2, ?_⟩
  have mc2 : Mod No (w5.alloc (.cells ⟨[.int .u8 ((99 : UInt8).toNat : Int)]⟩ 5 (1, 2))) ((w5.alloc (.cells ⟨[.int .u8 ((99 : UInt8).toNat : Int)]⟩ 5 (1, 2))).alloc (.cells ⟨[.int .i64 2]⟩ 2)) := (Mod.refl No _).alloc _
  refine qPatch_c (n := 3) (frm := 1) (data := [99]) (after := [2]) ((z5.nos mc).nos mc2) (by rw [g3e.2.2]; omega) rfl (rc.nos mc2) (fun _ q hq hR => by cases hq; have := (lo5 _ hR).2; simp only at this; omega) (by omega) rfl (by omega) (.inr ⟨_, _, rfl, AtU.new.at⟩) (fun _ q hq hR => by cases hq; have := (lo5 _ hR).2; simp at this; omega) fun w6 m6 z6 => ⟨_, _, rfl, ?_⟩
  rw [g3e.2.1]
  have z6 : Pz w _ w6 sp d g3 := z6
  have k6 := ((k5.nos mc).nos mc2).step m6
  clear s0 s1 s2 m6 mc2 rc mc k5 z5 m5 mb2 rb mb k4 z4 m4 ma ra z3 k3 z2 lo2 lo3 lo4 lo5
  have M6 := z6.mod
  have lo6 := z6.lo
  have hqw : w.heap.size ≤ q := by omega
  -- an act waits
  refine ⟨_, fun w => build_act w _ _, kLater_c (n := 3) (k := 1) (m := 7) k6 (by simp) (fun x hx => (lo6 x hx).2) fun w7 m7 k7 => ⟨_, rfl, ?_⟩⟩
  have e7 : laterE [] 1 = 0 := by decide
  have l7 : laterL [] (3, 1, 7) = [(3, 1, 7)] := by decide
  rw [e7]
  rw [l7] at k7
  have keepP : ∀ {R : Nat → Prop} {u u' : World} {V : Ps} {L : List Wt}, Pz w R u sp d V → Wk 168 R u q L → Mod (fun z => z = q) u u' → Pz w R u' sp d V := fun hP hW m => hP.keep m (fun x hx e => by
    obtain ⟨_, _, hW⟩ := hW
    have e : x = q := e
    subst e; exact hW.nz hx) fun x hx e => by
      have e : x = q := e
      omega
  have z7 := keepP z6 k6 m7
  have lo7 := z7.lo
  refine kRipe_c z7 k7 (by simp) (fun x hx => (lo7 x hx).2) fun w8 a8 c8 m8 k8 o8 => ⟨_, _, _, rfl, ?_⟩
  have r8 : ([(3, 1, 7)] : List Wt).filter (ripeP g3) = [] := by simp [ripeP, g3s]
  have r8' : ([(3, 1, 7)] : List Wt).filter (fun x => !ripeP g3 x) = [(3, 1, 7)] := by simp [ripeP, g3s]
  rw [r8'] at k8
  rw [r8]
  have z8 := keepP z7 k7 m8
  have hG : Gd g3 := Gd.of z8 s3
  refine One_c (n := 3) z8 hG (fun v hv => of_decide_eq_true (List.all_eq_true.1 g3b v hv)) fun w9 R9 m9 hR9 z9 g9 b9 => ⟨_, _, rfl, ?_⟩
  rw [oneV_eq hG] at z9 g9 b9 ⊢
  rw [gone]
  have gs := gsafe
  generalize (rnds (oneB' 3) (openV g3) g3).2 = V9 at *
  have k9 := k8.keep m9 (fun _ h => h) (Z' := R9) fun x hx e => (hR9 x e).resolve_right (by omega)
  have lo9 := z9.lo
  refine kRipe_c z9 k9 (by simp) (fun x hx => (lo9 x hx).2) fun w10 a10 c10 m10 k10 o10 => ⟨_, _, _, rfl, ?_⟩
  have r10 : ([(3, 1, 7)] : List Wt).filter (ripeP V9) = [(3, 1, 7)] := by simp [ripeP, gs]
  have r10' : ([(3, 1, 7)] : List Wt).filter (fun x => !ripeP V9 x) = [] := by simp [ripeP, gs]
  rw [r10'] at k10
  rw [r10] at o10 ⊢
  have z10 := keepP z9 k9 m10
  obtain ⟨g, rfl, _, hix, _, hld⟩ := actAt (i := 0) (x := (1, 7)) (Te := 71) o10 rfl elemN_acts agg_pact (by simp) rfl
  refine Share.dup (tt rfl (tt rfl (tt rfl (tt rfl (qSafe_c z10 ⟨_, rfl, tt gs (tt rfl ⟨_, hix, _, hld w10 1 (.int .i64 7) 3 (Mod.refl _ _) (by kernel_rfl) rfl, tt rfl (kLen_c k10 ⟨_, rfl, _, rfl, hk w10 z10.mod⟩)⟩)⟩)))))
theorem PushNil_c (w : World) {n m : Int} : Cal Tryz.prog F_leveelaw12_PushNil #[.int .i64 n, .int .i64 m] w (fun v w' => v = .bool true ∧ Mod No w w') := by
  apply C_leveelaw12_PushNil
  unfold D_leveelaw12_PushNil
  refine One_nil fun w1 m1 => ⟨_, _, rfl, All_nil ⟨_, _, rfl, Step_nil ⟨_, _, rfl, Share.dup ⟨_, fun w => build_act1 w _, kLater_nil fun w2 m2 => ⟨_, rfl, tt rfl (kRipe_nil ⟨_, _, _, rfl, tt rfl (kLen_nil ⟨_, rfl, tt rfl (kList_nil ⟨_, _, _, rfl, tt rfl ⟨_, fun w => build_act0 w, kWaits_nil fun w3 m3 => ⟨_, rfl, tt rfl (tt rfl (tt rfl (tt rfl (known12_c fun w4 m4 => ⟨_, rfl, _, rfl, rfl, ((m1.no m2).no m3).no m4⟩))))⟩⟩⟩)⟩)⟩)⟩⟩⟩⟩⟩
end
end Go.Proofs.YtocjjigmpgekfaaGreat
end
