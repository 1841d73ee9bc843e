/- Parts of the proof, in order: what the statement leans on. -/
import Derived.Test.YtocjjigmpgekfaaGreatBf
section
/- Layer 12, the document's rounds: in plain terms, and walked. -/
open Go Go.Den Go.Proofs
namespace Go.Proofs.YtocjjigmpgekfaaGreat
structure Gx (V : Ps) : Prop where
  g : Gd V
  l : V.C.D.left = -1
  acc : ∀ o ∈ V.ons, atD V.C.D o.b = withL o.base (o.l.filter (·.out))
  may : ∀ o ∈ V.ons, ∀ x ∈ o.l, x.out = true → (x.id : Int) ∈ mayL V.opn o.l
section
variable {w w' w0 : World} {R R' : Nat → Prop} {sp d rp r : Nat} {V : Ps} {S : Rs} {K : Value → World → Prop}
theorem Gx.of (hP : Pz w0 R w sp d V) (h : Srt V) : Gx V := by
  obtain ⟨C, hC, hW⟩ := hP.full
  exact ⟨Gd.of hP h, hP.wf.2.2.2.1, hP.ord, hW.may⟩
theorem Gx.wr (h : Gx V) (hD : WF V.C.D) (n : Int) : Gx (wrV V n) := by
  have hg := h.g.wr n
  by_cases he : wrVE V n = 0
  · have hs := h.g.s
    have ho : ∃ o, onOf V n = some o := by
      unfold wrVE at he
      split at he
      · omega
      · split at he
        · omega
        · rename_i e
          cases ho : onOf V n with
          | none => rw [ho] at e; exact absurd rfl e
          | some o => exact ⟨o, rfl⟩
    obtain ⟨o, ho⟩ := ho
    obtain ⟨hom, rfl⟩ := onOf_some ho
    have e : wrV V (o.b : Int) = ⟨{ V.C with D := wrSt V.C.D (o.b : Int) (imgB V o.b) }, V.last, mapX V (markF V o.b)⟩ := by
      unfold wrV; rw [if_pos he, Int.toNat_natCast]
    rw [e] at hg ⊢
    have hb := hs.onlt o hom
    have hil := img_len hs hD hb
    have hat := atD_wrN hb hil h.l
    have hL := markF_like V o.b
    have hmb : mayB V o.b = mayL V.opn o.l := by unfold mayB; rw [ho]
    have hxb : ∀ x ∈ o.l, x.b = o.b := fun x hx => hs.chb o hom x hx
    have hno : ∀ p ∈ V.ons, p.b ≠ o.b → p.l.map (markF V o.b) = p.l := fun p hp e => markF_no fun x hx => by rw [hs.chb p hp x hx]; exact e
    have hmo : ∀ x ∈ o.l, (markF V o.b x).out = (mayL V.opn o.l).contains (x.id : Int) := fun x hx => by
      unfold markF
      rw [if_pos (hxb x hx), hmb]
      show (x.out || _) = _
      cases hxo : x.out with
      | false => rfl
      | true =>
        have := h.may o hom x hx hxo
        rw [Bool.true_or]; symm; simpa using this
    have hsame : ∀ p ∈ V.ons, p.b = o.b → p = o := fun p hp e => on_uniq hs hp hom (by omega)
    refine ⟨hg, ?_, fun p hp => ?_, fun p hp x hx hxo => ?_⟩
    · show (wrSt V.C.D (o.b : Int) (imgB V o.b)).left = -1
      rw [(wr_is hb hil h.l).2]
    · obtain ⟨q, hq, rfl⟩ := List.mem_map.1 hp
      show atD (wrSt V.C.D (o.b : Int) (imgB V o.b)) q.b = withL q.base ((q.l.map (markF V o.b)).filter (·.out))
      rw [hat]
      by_cases e : q.b = o.b
      · have := hsame q hq e
        subst this
        rw [if_pos rfl, List.filter_map, withL_map hL]
        unfold imgB
        rw [ho]
        show withL q.base _ = withL q.base _
        congr 1
        apply List.filter_congr
        intro x hx
        exact (hmo x hx).symm
      · rw [if_neg e, hno q hq e]; exact h.acc q hq
    · obtain ⟨q, hq, rfl⟩ := List.mem_map.1 hp
      rw [opn_mapX hL]
      show (x.id : Int) ∈ mayL V.opn (q.l.map (markF V o.b))
      rw [mayL_map hL]
      obtain ⟨y, hy, rfl⟩ := List.mem_map.1 hx
      rw [hL.id]
      by_cases e : q.b = o.b
      · have := hsame q hq e
        subst this
        rw [hmo y hy] at hxo
        simpa using hxo
      · have : markF V o.b y = y := by unfold markF; rw [if_neg (by rw [hs.chb q hq y hy]; exact e)]
        rw [this] at hxo
        exact h.may q hq y hy hxo
  · have e : wrV V n = V := by unfold wrV; rw [if_neg he]
    rw [e]; exact h
theorem Gx.fl (h : Gx V) : Gx (flV V) := by
  have hf : ∀ {o o' : On}, flOn o = some o' → o' = { o with base := withL o.base (o.l.filter (·.out)), l := o.l.filter fun x => !x.out } := fun {o o'} e => by
    unfold flOn at e
    split at e
    · cases e
    · exact (Option.some.inj e).symm
  refine ⟨h.g.fl, fl_left h.l, fun o' ho' => ?_, fun o' ho' x hx hxo => ?_⟩
  · obtain ⟨o, ho, e⟩ := List.mem_filterMap.1 ho'
    rw [hf e]
    show atD (flSt V.C.D) o.b = withL (withL o.base (o.l.filter (·.out))) ((o.l.filter fun x => !x.out).filter (·.out))
    have : (o.l.filter fun x => !x.out).filter (·.out) = [] := by
      rw [List.filter_eq_nil_iff]
      intro x hx
      have := (List.mem_filter.1 hx).2
      simp at this; simp [this]
    rw [this, atD_fl h.l]
    exact h.acc o ho
  · obtain ⟨o, ho, e⟩ := List.mem_filterMap.1 ho'
    rw [hf e] at hx
    have := (List.mem_filter.1 hx).2
    rw [hxo] at this; cases this
theorem xWrite_c {n : Int} (hq : Rx w0 R w rp r S) (hr : Rel V S) (hG : Gx V) (hb : Bnd V.C.D 999999) (hk : ∀ w' S', Mod R w w' → Rx w0 (Gro R w w') w' rp r S' → Rel (wrV V n) S' → Gx (wrV V n) → K (.int .i64 (wrVE V n)) w') :
    Cal Tryz.prog F_leveeref11_Store_Write #[.pointer (some ⟨rp, 0, none⟩), .int .i64 n] w K := by
  have hqwf := hq.wf
  obtain ⟨af, hA⟩ := hr
  have hD : WF V.C.D := by rw [← hA.D]; exact hqwf.2.1
  refine rWrite11_c (n := n) (f := mayF V) hq (by rw [hA.D]; exact hG.l) (fun v hv => by rw [hA.D] at hv; exact hb v hv) (fun b hb => ?_) fun w15 m15 z15 => ?_
  · by_cases hbl : b < V.C.D.vs.length
    · exact hA.may hG.g.s hqwf.1 hbl
    · intro i x hx
      have hxb := hqwf.1.blt x (List.mem_of_getElem? hx)
      have : x.b ≠ b := fun e => hbl (by rw [hA.wf hqwf.1]; omega)
      unfold mayF
      rw [decide_eq_false this, Bool.false_and, Bool.false_and]
  · rw [hA.wrE hqwf.1 hG.g.ne]
    exact hk w15 _ m15 z15 (hA.wr hG.g.s hqwf.1 hD hG.l hG.g.ne n) (hG.wr hD n)
theorem xFlush_c (hq : Rx w0 R w rp r S) (hr : Rel V S) (hG : Gx V) (hk : ∀ w' S', Mod R w w' → Rx w0 (Gro R w w') w' rp r S' → Rel (flV V) S' → Gx (flV V) → K (.int .i64 0) w') :
    Cal Tryz.prog F_leveeref11_Store_Flush #[.pointer (some ⟨rp, 0, none⟩)] w K := by
  obtain ⟨af, hA⟩ := hr
  exact rFlush11_c hq fun w' m z => hk w' _ m z (hA.fl hG.g.s hG.l hG.acc) hG.fl
/-- The blocks of those waiting, as the document has them. -/
def oneR (n : Int) (S : Rs) : Nat → Bool := fun b => S.l.any fun x => decide (x.b = b) && (waitsL S.l n).contains (x.id : Int)
theorem RelA.one {af : Nat → List Int} (h : RelA V S af) (hs : WFS V) (hr : WFR S) (n : Int) : oneB n V = ((List.range S.base.length).filter (oneR n S)).map fun b : Nat => (b : Int) := by
  unfold oneB
  have hl : V.C.D.vs.length = S.base.length := by rw [hr.len, h.D]
  rw [hl]
  congr 1
  apply List.filter_congr
  intro b _
  unfold oneR
  rw [h.waits hs hr, Bool.eq_iff_iff, List.any_eq_true, List.any_eq_true]
  constructor
  · rintro ⟨u, hu, e⟩
    obtain ⟨y, hy, rfl⟩ := (h.all hs hr).1 hu
    exact ⟨y, hy, e⟩
  · rintro ⟨y, hy, e⟩
    exact ⟨setA af y, (h.all hs hr).2 ⟨y, hy, rfl⟩, e⟩
end
end Go.Proofs.YtocjjigmpgekfaaGreat
end
section
/- Layer 12, in plain terms: what is out, all that it waits for is out; what rounds do to the disk. -/
open Go Go.Den Go.Proofs
namespace Go.Proofs.YtocjjigmpgekfaaGreat
section
variable {V W : Ps}
theorem WF_wrS {D : St} {b : Nat} {ys : Bk} (h : WF D) (hb : b < D.vs.length) (hy : ys.length = 256) (hl : D.left = -1) : WF (wrSt D b ys) := by
  rw [(wr_is hb hy hl).2]
  refine ⟨fun v hv => ?_, by simpa using h.lo, by simpa using h.hi, by simp, by simp⟩
  rcases List.mem_or_eq_of_mem_set hv with hv | rfl
  · exact h.ver v hv
  · refine ⟨by simp, fun x hx => ?_⟩
    rcases List.mem_append.1 hx with hx | hx
    · exact (h.ver _ (List.getElem_mem hb)).2 x hx
    · rw [List.mem_singleton.1 hx]; exact hy
theorem WF_flS {D : St} (h : WF D) (hl : D.left = -1) : WF (flSt D) := by
  have hl2 := fl_left hl
  have e : (flSt D).vs = D.vs.map fun v => [lastV v] := by unfold flSt; rw [if_neg (by omega)]
  refine ⟨fun v hv => ?_, by rw [fl_len]; exact h.lo, by rw [fl_len]; exact h.hi, by omega, by omega⟩
  rw [e] at hv
  obtain ⟨u, hu, rfl⟩ := List.mem_map.1 hv
  refine ⟨by simp, fun x hx => ?_⟩
  rw [List.mem_singleton.1 hx]
  obtain ⟨i, hi, ei⟩ := List.getElem_of_mem hu
  exact h.lastLen (i := i) (v := u) (by rw [List.getElem?_eq_getElem hi, ei])
structure Gy (V : Ps) : Prop where
  x : Gx V
  D : WF V.C.D
theorem wrV_no {n : Int} (he : wrVE V n ≠ 0) : wrV V n = V := by unfold wrV; rw [if_neg he]
theorem wrV_is {n : Int} (he : wrVE V n = 0) : ∃ o, o ∈ V.ons ∧ onOf V (o.b : Int) = some o ∧ n = (o.b : Int) ∧ wrV V n = ⟨{ V.C with D := wrSt V.C.D (o.b : Int) (imgB V o.b) }, V.last, mapX V (markF V o.b)⟩ := by
  have ho : ∃ o, onOf V n = some o := by
    have he' := he
    unfold wrVE at he'
    split at he'
    · omega
    · split at he'
      · omega
      · rename_i e
        cases ho : onOf V n with
        | none => rw [ho] at e; exact absurd rfl e
        | some o => exact ⟨o, rfl⟩
  obtain ⟨o, ho⟩ := ho
  obtain ⟨hom, rfl⟩ := onOf_some ho
  exact ⟨o, hom, ho, rfl, by unfold wrV; rw [if_pos he, Int.toNat_natCast]⟩
theorem Gy.wr (h : Gy V) (n : Int) : Gy (wrV V n) := by
  refine ⟨h.x.wr h.D n, ?_⟩
  by_cases he : wrVE V n = 0
  · obtain ⟨o, hom, ho, rfl, e⟩ := wrV_is he
    rw [e]
    have hb := h.x.g.s.onlt o hom
    exact WF_wrS h.D hb (img_len h.x.g.s h.D hb) h.x.l
  · rw [wrV_no he]; exact h.D
theorem Gy.fl (h : Gy V) : Gy (flV V) := ⟨h.x.fl, WF_flS h.D h.x.l⟩
theorem fold_keep {P : Ps → Prop} {Q : Int → Prop} (hw : ∀ W k, Gy W → P W → Q k → P (wrV W k)) : ∀ (ks : List Int) (W : Ps) (c : Nat), Gy W → P W → (∀ k ∈ ks, Q k) → Gy (ks.foldl stepR (W, c)).1 ∧ P (ks.foldl stepR (W, c)).1
  | [], _, _, g, p, _ => ⟨g, p⟩
  | k :: ks, W, c, g, p, q => by
    rw [List.foldl_cons]
    have e : stepR (W, c) k = if readyV W k = 0 then (W, c) else (wrV W k, c + 1) := rfl
    rw [e]
    split
    · exact fold_keep hw ks W c g p fun j hj => q j (List.mem_cons_of_mem _ hj)
    · exact fold_keep hw ks _ _ (g.wr k) (hw W k g p (q k (List.mem_cons_self))) fun j hj => q j (List.mem_cons_of_mem _ hj)
theorem rnds_keep {P : Ps → Prop} {Q : Int → Prop} {nx : Ps → List Int} (hq : ∀ W, Gy W → P W → ∀ k ∈ nx W, Q k) (hw : ∀ W k, Gy W → P W → Q k → P (wrV W k)) (hf : ∀ W, Gy W → P W → P (flV W)) : ∀ {f : Nat} {V : Ps}, Gy V → P V → Gy (rnds nx f V).2 ∧ P (rnds nx f V).2
  | 0, V, g, p => ⟨g, p⟩
  | f + 1, V, g, p => by
    by_cases hn : nx V = []
    · rw [rnds_nil hn]; exact ⟨g, p⟩
    · rw [rnds_succ hn]
      obtain ⟨g1, p1⟩ := fold_keep hw (nx V) V 0 g p (hq V g p)
      exact rnds_keep hq hw hf (f := f) (V := (roundP V (nx V)).1) g1.fl (hf _ g1 p1)
theorem rnds_end {nx : Ps → List Int} (hg : ∀ V, Gd V → nx V ≠ [] → openV (roundP V (nx V)).1 < openV V) (h0 : ∀ V, Gd V → openV V = 0 → nx V = []) : ∀ {f : Nat} {V : Ps}, Gd V → openV V ≤ f → nx (rnds nx f V).2 = []
  | 0, V, g, h => h0 V g (by omega)
  | f + 1, V, g, h => by
    by_cases hn : nx V = []
    · rw [rnds_nil hn]; exact hn
    · rw [rnds_succ hn]
      have := hg V g hn
      exact rnds_end hg h0 (f := f) (g.round _) (by omega)
theorem may_mem {op : Int → Bool} {l : List Ch} {k : Int} (h : k ∈ mayL op l) : ∃ y ∈ l, k = (y.id : Int) := by
  rcases mayN_split (p := 0) h with h | ⟨q, y, _, hy, e⟩
  · cases h
  · exact ⟨y, List.mem_of_getElem? hy, e⟩
/-- One that was in an image: all that it waits for was, too. -/
def Ou (V : Ps) : Prop := ∀ x ∈ V.all, x.out = true → ∀ z ∈ V.all, Dep x z → z.out = true
theorem Dep.like {f : Ch → Ch} (hf : Like f) {x z : Ch} (h : Dep (f x) (f z)) : Dep x z := by
  unfold Dep at *
  rw [hf.id, hf.id, hf.after] at h
  rcases h with h | ⟨h1, h2⟩
  · exact .inl h
  · right
    refine ⟨h1, ?_⟩
    unfold meetR meetB at *
    rw [hf.b, hf.b, hf.frm, hf.frm, hf.data, hf.data] at h2
    exact h2
theorem Ou.wr (h : Ou V) (g : Gd V) (n : Int) : Ou (wrV V n) := by
  by_cases he : wrVE V n = 0
  · obtain ⟨o, hom, ho, rfl, e⟩ := wrV_is he
    rw [e]
    have hL := markF_like V o.b
    have hmb : mayB V o.b = mayL V.opn o.l := by unfold mayB; rw [ho]
    have hin : ∀ {x : Ch}, x ∈ V.all → x.b = o.b → x ∈ o.l := fun {x} hx hb => by
      obtain ⟨p, hp, hxp⟩ := mem_all.1 hx
      have := on_uniq g.s hp hom (by rw [← g.s.chb p hp x hxp]; exact hb)
      rwa [this] at hxp
    have hmk : ∀ {x : Ch}, x.b = o.b → (x.id : Int) ∈ mayL V.opn o.l → (markF V o.b x).out = true := fun {x} hb hm => by
      unfold markF
      rw [if_pos hb, hmb]
      show (x.out || _) = true
      have : (mayL V.opn o.l).contains (x.id : Int) = true := by simpa using hm
      rw [this, Bool.or_true]
    have hmono : ∀ {x : Ch}, x.out = true → (markF V o.b x).out = true := fun {x} hx => by
      unfold markF
      split
      · show (x.out || _) = true; rw [hx, Bool.true_or]
      · exact hx
    intro x hx hxo z hz hd
    rw [all_mapX] at hx hz
    obtain ⟨x0, hx0, rfl⟩ := List.mem_map.1 hx
    obtain ⟨z0, hz0, rfl⟩ := List.mem_map.1 hz
    have hd := hd.like hL
    by_cases hxb : x0.b = o.b
    · by_cases hx1 : x0.out = true
      · exact hmono (h x0 hx0 hx1 z0 hz0 hd)
      · have hm : (x0.id : Int) ∈ mayL V.opn o.l := by
          unfold markF at hxo
          rw [if_pos hxb, hmb] at hxo
          have hxo : (x0.out || (mayL V.opn o.l).contains (x0.id : Int)) = true := hxo
          have : x0.out = false := by simpa using hx1
          rw [this, Bool.false_or] at hxo
          simpa using hxo
        obtain ⟨p, hp, ep⟩ := List.getElem_of_mem (hin hx0 hxb)
        have hxp : o.l[p]? = some x0 := by rw [List.getElem?_eq_getElem hp, ep]
        rw [mayL_iff (g.srt o hom) hxp (g.f x0 hx0)] at hm
        rcases hd with hd | ⟨h1, h2⟩
        · have hop : V.opn (z0.id : Int) = true := opn_iff.2 ⟨z0, hz0, rfl⟩
          have hzm := hm.1 _ hd hop
          obtain ⟨y, hy, ey⟩ := may_mem hzm
          have : y = z0 := map_inj g.s.ids (on_all hom hy) hz0 (by omega)
          subst this
          exact hmk (g.s.chb o hom y hy) hzm
        · unfold meetR at h2
          rw [Bool.and_eq_true, decide_eq_true_eq] at h2
          have hzb : z0.b = o.b := by rw [h2.1]; exact hxb
          exact hmk hzb (hm.2 z0 ((mem_take_srt (g.srt o hom) hxp).2 ⟨hin hz0 hzb, h1⟩) h2.2)
    · have hx1 : x0.out = true := by
        unfold markF at hxo
        rwa [if_neg hxb] at hxo
      exact hmono (h x0 hx0 hx1 z0 hz0 hd)
  · rw [wrV_no he]; exact h
theorem Ou.fl : Ou (flV V) := by
  intro x hx hxo
  rw [all_fl] at hx
  have := (List.mem_filter.1 hx).2
  rw [hxo] at this; cases this
theorem mem_addX {x y : Ch} (h : y ∈ (addX V x).all) : y ∈ V.all ∨ y = x := by
  obtain ⟨o, ho, hy⟩ := mem_all.1 h
  obtain ⟨p, hp, rfl⟩ := List.mem_map.1 ho
  have key : y ∈ p.l → y ∈ V.all := fun hy => by
    have : y ∈ (newO V x.b).all := mem_all.2 ⟨p, hp, hy⟩
    rwa [all_newO] at this
  split at hy
  · rcases List.mem_append.1 hy with hy | hy
    · exact .inl (key hy)
    · exact .inr (List.mem_singleton.1 hy)
  · exact .inl (key hy)
theorem Ou.pat (h : Ou V) (g : Gd V) (n f : Int) (data : Bk) (after : List Int) : Ou (patS V n f data after) := by
  unfold patS
  split
  · intro x hx hxo z hz hd
    have hnew : ∀ b frm data after, (newX V b frm data after).out = false ∧ (newX V b frm data after).id = V.last + 1 := fun _ _ _ _ => ⟨rfl, rfl⟩
    rcases mem_addX hx with hx | rfl
    · rcases mem_addX hz with hz | rfl
      · exact h x hx hxo z hz hd
      · exfalso
        have h1 := (g.s.idr x hx).2
        rcases hd with hd | ⟨h2, _⟩
        · have := g.f x hx _ hd
          rw [(hnew _ _ _ _).2] at this
          omega
        · rw [(hnew _ _ _ _).2] at h2
          omega
    · rw [(hnew _ _ _ _).1] at hxo; cases hxo
  · exact h
/-- Rounds so far: the same changes, fewer; what is closed, all that it waits for is closed. -/
structure Pj (V W : Ps) : Prop where
  sub : ∀ y ∈ W.all, ∃ x ∈ V.all, ∃ u, y = { x with out := u }
  ou : Ou W
  cl : ∀ x ∈ V.all, W.opn (x.id : Int) = false → ∀ z ∈ V.all, Dep x z → W.opn (z.id : Int) = false
  last : W.last = V.last
theorem Pj.start (h : Ou V) : Pj V V where
  sub y hy := ⟨y, hy, y.out, rfl⟩
  ou := h
  cl x hx ho := absurd rfl ((opn_not.1 ho) x hx)
  last := rfl
theorem Pj.wr (h : Pj V W) (g : Gd W) (n : Int) : Pj V (wrV W n) := by
  have ho := wr_opn (V := W) n
  refine ⟨fun y hy => ?_, h.ou.wr g n, ?_, by rw [ho.2.1]; exact h.last⟩
  · by_cases he : wrVE W n = 0
    · obtain ⟨o, _, _, rfl, e⟩ := wrV_is he
      rw [e, all_mapX] at hy
      obtain ⟨y0, hy0, rfl⟩ := List.mem_map.1 hy
      obtain ⟨x, hx, u, rfl⟩ := h.sub y0 hy0
      unfold markF
      split
      · exact ⟨x, hx, _, rfl⟩
      · exact ⟨x, hx, u, rfl⟩
    · rw [wrV_no he] at hy; exact h.sub y hy
  · rw [ho.1]; exact h.cl
theorem Pj.fl (h : Pj V W) (g : Gd V) : Pj V (flV W) where
  sub y hy := by
    rw [all_fl] at hy
    exact h.sub y (List.mem_filter.1 hy).1
  ou := Ou.fl
  last := h.last
  cl x hx ho z hz hd := by
    cases hzo : (flV W).opn (z.id : Int) with
    | false => rfl
    | true =>
      exfalso
      obtain ⟨z', hz', hzout, ez⟩ := opn_fl.1 hzo
      cases hxo : W.opn (x.id : Int) with
      | false => exact (opn_not.1 (h.cl x hx hxo z hz hd)) z' hz' ez
      | true =>
        obtain ⟨x', hx', ex⟩ := opn_iff.1 hxo
        have hxout : x'.out = true := by
          cases hxx : x'.out with
          | true => rfl
          | false =>
            have := opn_fl.2 ⟨x', hx', hxx, ex⟩
            rw [ho] at this; cases this
        obtain ⟨x0, hx0, u, rfl⟩ := h.sub x' hx'
        obtain ⟨z0, hz0, v, rfl⟩ := h.sub z' hz'
        have e1 : x0 = x := map_inj g.s.ids hx0 hx (by have ex : (x0.id : Int) = x.id := ex; omega)
        have e2 : z0 = z := map_inj g.s.ids hz0 hz (by have ez : (z0.id : Int) = z.id := ez; omega)
        subst e1 e2
        have := h.ou _ hx' hxout _ hz' hd
        rw [this] at hzout; cases hzout
/-- All that one waits for is safe, once it is. -/
theorem Pj.safe (h : Pj V W) (g : Gd V) {id k : Int} (ho : W.opn id = false) (hk : k ∈ waitsV V id) : safeV W k = true := by
  obtain ⟨x, hx, e, y, hy, rfl⟩ := (mem_waitsV g.s g.f).1 hk
  have : ∀ {x y : Ch}, Rc V.all x y → x ∈ V.all → W.opn (x.id : Int) = false → W.opn (y.id : Int) = false := by
    intro x y hr
    induction hr with
    | refl x => exact fun _ h => h
    | head hz hd _ ih => exact fun hx hxo => ih hz (h.cl _ hx hxo _ hz hd)
  have hyo := this hy hx (by rw [e]; exact ho)
  have hid := g.s.idr y (hy.mem hx)
  unfold safeV
  rw [hyo, h.last, decide_eq_true (by omega)]
  rfl
theorem Rc.lift (h : ∀ y ∈ W.all, ∃ x ∈ V.all, ∃ u, y = { x with out := u }) {x y : Ch} (hr : Rc W.all x y) : ∀ {x0 : Ch} {u : Bool}, x = { x0 with out := u } → x0 ∈ V.all → ∃ y0 ∈ V.all, ∃ v, y = { y0 with out := v } ∧ Rc V.all x0 y0 := by
  induction hr with
  | refl x => exact fun e hx => ⟨_, hx, _, e, Rc.refl _⟩
  | head hz hd _ ih =>
    intro x0 u e hx
    obtain ⟨z0, hz0, v, ez⟩ := h _ hz
    obtain ⟨y0, hy0, v2, ey, hr⟩ := ih ez hz0
    subst e ez
    exact ⟨y0, hy0, v2, ey, Rc.head hz0 hd hr⟩
/-- Blocks in which none of those waiting stand are as they were. -/
theorem one_disk (g : Gy V) (ho : Ou V) {id : Int} {b : Nat} (hb : ∀ x ∈ V.all, (x.id : Int) ∈ waitsV V id → x.b ≠ b) : Gy (oneV id V).2 ∧ Pj V (oneV id V).2 ∧ atD (oneV id V).2.C.D b = atD V.C.D b := by
  unfold oneV
  refine (rnds_keep (P := fun W => Pj V W ∧ atD W.C.D b = atD V.C.D b) (Q := fun k => k ≠ (b : Int)) ?_ ?_ ?_ (f := openV V) g ⟨Pj.start ho, rfl⟩)
  · intro W gW hP k hk e
    obtain ⟨y, hy, _, e2, hw⟩ := mem_oneB.1 hk
    obtain ⟨u, hu, eu, y', hr, ey⟩ := (mem_waitsV gW.x.g.s gW.x.g.f).1 hw
    have e3 : y' = y := map_inj gW.x.g.s.ids (hr.mem hu) hy (by omega)
    subst e3
    obtain ⟨u0, hu0, uu, rfl⟩ := hP.1.sub u hu
    obtain ⟨y0, hy0, v, rfl, hr0⟩ := Rc.lift hP.1.sub hr rfl hu0
    refine hb y0 hy0 ((mem_waitsV g.x.g.s g.x.g.f).2 ⟨u0, hu0, eu, y0, hr0, rfl⟩) ?_
    have e2 : k = (y0.b : Int) := e2
    omega
  · intro W k gW hP hk
    refine ⟨hP.1.wr gW.x.g k, ?_⟩
    by_cases he : wrVE W k = 0
    · obtain ⟨o, hom, _, rfl, e⟩ := wrV_is he
      rw [e]
      have hob := gW.x.g.s.onlt o hom
      show atD (wrSt W.C.D (o.b : Int) (imgB W o.b)) b = _
      rw [atD_wrN hob (img_len gW.x.g.s gW.D hob) gW.x.l, if_neg (by omega)]
      exact hP.2
    · rw [wrV_no he]; exact hP.2
  · intro W gW hP
    refine ⟨hP.1.fl g.x.g, ?_⟩
    show atD (flSt W.C.D) b = _
    rw [atD_fl gW.x.l]; exact hP.2
theorem one_safe (g : Gy V) (ho : Ou V) {id k : Int} (hk : k ∈ waitsV V id) : safeV (oneV id V).2 k = true := by
  have hend : oneB id (oneV id V).2 = [] := rnds_end (nx := oneB id) (fun V h hn => one_fewer h id hn) (fun V _ h => open0_one id h) g.x.g (Nat.le_refl _)
  obtain ⟨gW, hP⟩ : Gy (oneV id V).2 ∧ Pj V (oneV id V).2 := rnds_keep (P := Pj V) (Q := fun _ => True) (fun _ _ _ _ _ => trivial) (fun W k gW hP _ => hP.wr gW.x.g k) (fun W gW hP => hP.fl g.x.g) (f := openV V) g (Pj.start ho)
  exact hP.safe g.x.g (one_done gW.x.g hend) hk
theorem all_end (g : Gy V) (h1 : One1 V) : openV (allV V).2 = 0 ∧ One1 (allV V).2 := by
  have hend : dirtyV (allV V).2 = [] := rnds_end (nx := dirtyV) (fun V h hn => dirty_fewer h hn) (fun V g h => open0_dirty g.ne h) g.x.g (Nat.le_refl _)
  obtain ⟨gW, hP⟩ : Gy (allV V).2 ∧ One1 (allV V).2 := rnds_keep (P := One1) (Q := fun _ => True) (fun _ _ _ _ _ => trivial) (fun W k gW hP _ => hP.wr k) (fun W gW hP => One1.fl gW.x.l) (f := openV V) g h1
  refine ⟨?_, hP⟩
  have h2 : (allV V).2.ons = [] := by
    have := dirty_len (allV V).2
    rw [hend] at this
    exact List.eq_nil_of_length_eq_zero this.symm
  unfold openV Ps.all
  rw [h2]; rfl
/-- What holds of a store behind changes, writes and flushes. -/
structure Lw (V : Ps) : Prop where
  srt : Srt V
  ou : Ou V
  one : One1 V
theorem Lw.pat (h : Lw V) (g : Gd V) (n f : Int) (data : Bk) (after : List Int) : Lw (patS V n f data after) := ⟨h.srt.pat g.s n f data after, h.ou.pat g n f data after, h.one.pat n f data after⟩
theorem Lw.wr (h : Lw V) (g : Gd V) (n : Int) : Lw (wrV V n) := ⟨h.srt.wr n, h.ou.wr g n, h.one.wr n⟩
theorem Lw.fl (h : Lw V) (hl : V.C.D.left = -1) : Lw (flV V) := ⟨h.srt.fl, Ou.fl, One1.fl hl⟩
theorem Lw.start (k n : Nat) : Lw (zeroV k n) where
  srt o ho := by cases ho
  ou x hx := by cases hx
  one b hb _ := by
    have hb : b < (newSt k).vs.length := hb
    show (verOf (newSt k) b).length = 1
    rw [ver_at hb]
    rw [List.eq_of_mem_replicate (show (newSt k).vs[b] ∈ List.replicate k [zeroB] from List.getElem_mem hb)]; rfl
theorem one_keep1 (g : Gy V) (h1 : One1 V) (id : Int) : Gy (oneV id V).2 ∧ One1 (oneV id V).2 :=
  rnds_keep (P := One1) (Q := fun _ => True) (fun _ _ _ _ _ => trivial) (fun W k gW hP _ => hP.wr k) (fun W gW hP => One1.fl gW.x.l) (f := openV V) g h1
end
end Go.Proofs.YtocjjigmpgekfaaGreat
end
section
/- Layer 12: changes laid in both stores; both alike. -/
open Go Go.Den Go.Proofs
namespace Go.Proofs.YtocjjigmpgekfaaGreat
/-- A change: its block, where it begins, its bytes, what it waits for, a block that is written behind it, whether all is flushed. -/
structure A12 where
  n : Int
  f : Int
  xs : List UInt8
  af : List Int
  wb : Int
  fl : Bool
def A12.fit (x : A12) (w : World) (cs : List Value) : Prop := ∃ (ad : Option Addr) (cd : Nat) (aa : Option Addr) (ca : Nat), cs = [.int .i64 x.n, .int .i64 x.f, .slice ad x.xs.length cd, .slice aa x.af.length ca, .int .i64 x.wb, .bool x.fl] ∧
  Row w ad (u8L x.xs) ∧ (ad = none → x.xs.length = 0 ∧ cd = 0) ∧ x.xs.length ≤ 9223372036854775807 ∧ Row w aa (iL x.af) ∧ x.af.length ≤ 9223372036854775807
def Acts12 (w : World) (a : Option Addr) (acts : List A12) : Prop :=
  acts = [] ∨ ∃ (b o : Nat) (H : List Value), a = some ⟨b, o, none⟩ ∧ At w b o H ∧ H.length = acts.length * 6 ∧ ∀ (r : Nat) (x : A12), acts[r]? = some x → x.fit w ((H.drop (r * 6)).take 6)
/-- From two regions on, some steps. -/
structure Sx (R R2 : Nat → Prop) (w : World) (R' R2' : Nat → Prop) (w' : World) : Prop where
  m : Mod (fun x => R x ∨ R2 x) w w'
  s : ∀ x, R' x ∨ R2' x → (R x ∨ R2 x) ∨ w.heap.size ≤ x
section
variable {w w' w0 w'' : World} {R R2 R' R2' : Nat → Prop} {sp d rp r : Nat} {V : Ps} {S : Rs} {K : Value → World → Prop}
theorem Sx.refl : Sx R R2 w R R2 w := ⟨Mod.refl _ _, fun _ h => .inl h⟩
theorem Sx.no (h : Sx R R2 w R' R2' w') (m : Mod No w' w'') : Sx R R2 w R' R2' w'' := ⟨h.m.no m, h.s⟩
theorem Sx.P {R3 : Nat → Prop} (h : Sx R R2 w R' R2' w') (m : Mod R' w' w'') (s : ∀ x, R3 x → R' x ∨ w'.heap.size ≤ x) : Sx R R2 w R3 R2' w'' where
  m := h.m.trans m fun x hx e => by
    rcases h.s x (.inl e) with h | h
    · exact h
    · omega
  s x e := by
    have := h.m.size
    rcases e with e | e
    · rcases s x e with e | e
      · exact h.s x (.inl e)
      · right; omega
    · exact h.s x (.inr e)
theorem Sx.Q {R3 : Nat → Prop} (h : Sx R R2 w R' R2' w') (m : Mod R2' w' w'') (s : ∀ x, R3 x → R2' x ∨ w'.heap.size ≤ x) : Sx R R2 w R' R3 w'' where
  m := h.m.trans m fun x hx e => by
    rcases h.s x (.inr e) with h | h
    · exact h
    · omega
  s x e := by
    have := h.m.size
    rcases e with e | e
    · exact h.s x (.inl e)
    · rcases s x e with e | e
      · exact h.s x (.inr e)
      · right; omega
theorem gro_sub {R : Nat → Prop} {w w' : World} : ∀ x, Gro R w w' x → R x ∨ w.heap.size ≤ x := fun x e => by
  rcases e with e | e
  · exact .inl e
  · exact .inr e.1
theorem Sx.stepP (h : Sx R R2 w R' R2' w') (m : Mod R' w' w'') : Sx R R2 w (Gro R' w' w'') R2' w'' := h.P m gro_sub
theorem Sx.stepQ (h : Sx R R2 w R' R2' w') (m : Mod R2' w' w'') : Sx R R2 w R' (Gro R2' w' w'') w'' := h.Q m gro_sub
theorem T11.P {V' : Ps} {R3 : Nat → Prop} (h : T11 w0 R R2 w sp d rp r V S) (m : Mod R w w') (s : ∀ x, R3 x → R x ∨ w.heap.size ≤ x) (hp : Pz w0 R3 w' sp d V') : T11 w0 R3 R2 w' sp d rp r V' S :=
  ⟨hp, h.q.keep m (fun x h2 h1 => h.dis x h1 h2) (fun x hx e => by have := (h.p.lo x e).1; omega), fun x h3 h2 => by
    rcases s x h3 with e | e
    · exact h.dis x e h2
    · have := (h.q.wf.2.2.2 x h2).2; omega⟩
theorem T11.Q {S' : Rs} {R3 : Nat → Prop} (h : T11 w0 R R2 w sp d rp r V S) (m : Mod R2 w w') (s : ∀ x, R3 x → R2 x ∨ w.heap.size ≤ x) (hq : Rx w0 R3 w' rp r S') : T11 w0 R R3 w' sp d rp r V S' :=
  ⟨h.p.keep m (fun x h1 h2 => h.dis x h1 h2) (fun x hx e => by have := (h.q.wf.2.2.2 x e).1; omega), hq, fun x h1 h3 => by
    rcases s x h3 with e | e
    · exact h.dis x h1 e
    · have := (h.p.lo x h1).2; omega⟩
theorem Acts12.get {acts : List A12} {a : Option Addr} {l cc i : Nat} {x : A12} (h : Acts12 w a acts) (m : Mod No w w') (hl : acts.length = l) (hx : acts[i]? = some x) :
    ∃ q : Addr, Al (Instr.indexAt 55 (.slice a l cc) (.int .i64 i)) (.pointer (some q)) ∧ ∃ cs, x.fit w cs ∧ Ru (Instr.loadAt 172 (.pointer (some q))) w' (.agg ⟨cs⟩) w' := by
  have hi := (List.getElem?_eq_some_iff.1 hx).1
  rcases h with h | ⟨b, o, H, rfl, hat, hlen, hf⟩
  · rw [h] at hi; simp at hi
  refine ⟨⟨b, o + i * 6, none⟩, fun w' => ?_, _, hf i x hx, ?_⟩
  · have := index_slice (P := Tryz.prog) (T := 55) (k := 6) (a := ⟨b, o, none⟩) (n := l) (c := cc) (kk := .i64) (i := i) (by kernel_rfl) (by omega) (by omega) w'
    rw [add_none, show (i : Int).toNat = i by omega] at this
    exact this
  · exact (hat.keep m id).loadAgg (P := Tryz.prog) (T := 172) (i := i * 6) (n := 6) (by kernel_rfl) (by omega)
theorem alloc_chg12 (w : World) : (Instr.alloc 172 true (.tuple #[])).run Tryz.prog w = .ok (.pointer (some ⟨w.heap.size, 0, none⟩)) (w.alloc (.cells ⟨[.int .i64 0, .int .i64 0, .slice none 0 0, .slice none 0 0, .int .i64 0, .bool false]⟩ 172)) := by kernel_rfl
theorem agg_chg12 : aggN Tryz.prog 172 = some 6 := by kernel_rfl
theorem snoc64 {base l c : Nat} {a : Option Addr} {xs : List Int} {v : Int} (h : Own Tryz.prog w base 37 1 a l c (iL xs)) (hl : l ≤ 1000000) (hb : base ≤ w.heap.size) :
    ∃ (a' : Option Addr) (c' : Nat) (w4 : World), Ru (Builtin.append_ #[37, 37] 37 #[.slice a l c, .slice (some ⟨w.heap.size, 0, none⟩) 1 1]) (w.alloc (.cells ⟨[.int .i64 v]⟩ 2)) (.slice a' (l + 1) c') w4 ∧ Own Tryz.prog w4 base 37 1 a' (l + 1) c' (iL (xs ++ [v])) ∧ Mod (fun x => base ≤ x) w w4 := by
  obtain ⟨a', c', w4, s1, s2, s3⟩ := h.snoc (ty := 37) (t := 2) (ys := [.int .i64 v]) elemZ_64 (by omega) rfl (by intro u hu; simp at hu; subst hu; rfl) (by omega) (by omega) hb
  have e : iL xs ++ [.int .i64 v] = iL (xs ++ [v]) := by unfold iL; rw [List.map_append]; rfl
  rw [e] at s2
  exact ⟨a', c', w4, s1, s2, s3⟩
theorem lay12_c {acts : List A12} {a : Option Addr} {l c : Nat} (ha : Acts12 w0 a acts) (hl : acts.length = l) (h : T11 w0 R R2 w sp d rp r (zeroV 5 5) (newRs (newSt 5)))
    (hk : ∀ w' R' R2' V S, T11 w0 R' R2' w' sp d rp r V S → Rel V S → Lw V → Bd V 100 → V.C.D.vs.length = 5 → Sx R R2 w R' R2' w' → K (.bool true) w') :
    Cal Tryz.prog F_leveelaw12_lay #[.pointer (some ⟨sp, 0, none⟩), .pointer (some ⟨rp, 0, none⟩), .slice a l c] w K := by
  apply C_leveelaw12_lay
  unfold D_leveelaw12_lay
  refine ⟨fun x w1 => ∃ (i : Nat) (y1 y2 y3 y4 y5 y6 : Value) (R' R2' : Nat → Prop) (V : Ps) (S : Rs), x = [.int .i64 i, y1, y2, y3, y4, y5, y6] ∧ i ≤ 30 ∧ T11 w0 R' R2' w1 sp d rp r V S ∧ Rel V S ∧ Lw V ∧ Bd V (3 * i) ∧ V.C.D.vs.length = 5 ∧ Sx R R2 w R' R2' w1, fun x _ => (30 - nI x 0).toNat,
    ⟨0, _, _, _, _, _, _, _, _, _, _, rfl, by omega, h, Rel.start 5 5, Lw.start 5 5, Bd.start 5 5, by simp [zeroV, newSt], Sx.refl⟩, ?_⟩
  rintro x w1 ⟨i, y1, y2, y3, y4, y5, y6, R1, R21, V, S, rfl, hi30, t1, r1, s1, b1, h5, x1⟩
  refine Share.cut (fun z w8 => w1 = w8 ∧ z = [.bool (decide (i < l ∧ i < 30))]) ⟨_, rfl, cond_of (fun hb => ⟨rfl, ?_⟩) (fun hb => ⟨rfl, ?_⟩)⟩ ?_
  · have := of_decide_eq_true hb
    exact bcell (by omega)
  · have := of_decide_eq_false hb
    exact bcellF (by omega)
  rintro z w8 ⟨rfl, rfl⟩
  refine ⟨_, rfl, cond_of (fun hb => ?_) (fun hb => hk w1 R1 R21 V S t1 r1 s1 ⟨b1.ver.mono (by omega), by have := b1.last; omega⟩ h5 x1)⟩
  obtain ⟨hil, hi3⟩ := of_decide_eq_true hb
  have hM1 := t1.p.mod
  obtain ⟨q, hidx, cs, hfit, hload⟩ := ha.get (i := i) (cc := c) hM1 hl (List.getElem?_eq_getElem (by omega))
  have hst : RuU (Instr.storeAt 172 (.pointer (some ⟨w1.heap.size, 0, none⟩)) (.agg ⟨cs⟩)) (w1.alloc (.cells ⟨[.int .i64 0, .int .i64 0, .slice none 0 0, .slice none 0 0, .int .i64 0, .bool false]⟩ 172)) (w1.alloc (.cells ⟨cs⟩ 172)) := by
    obtain ⟨ad, cd, aa, ca, rfl, _⟩ := hfit
    refine store_new agg_chg12 rfl rfl ?_
    intro v hv
    simp at hv
    rcases hv with rfl | rfl | rfl | rfl | rfl | rfl <;> rfl
  obtain ⟨ad, cd, aa, ca, rfl, had, hadn, had63, haa, haa63⟩ := hfit
  generalize acts[i] = A at *
  refine ⟨_, rfl, q, hidx, _, hload, _, _, alloc_chg12 _, _, hst, ?_⟩
  have m3 : Mod No w1 (w1.alloc (.cells ⟨[.int .i64 A.n, .int .i64 A.f, .slice ad A.xs.length cd, .slice aa A.af.length ca, .int .i64 A.wb, .bool A.fl]⟩ 172)) := (Mod.refl No w1).alloc _
  have a3 : At (w1.alloc (.cells ⟨[.int .i64 A.n, .int .i64 A.f, .slice ad A.xs.length cd, .slice aa A.af.length ca, .int .i64 A.wb, .bool A.fl]⟩ 172)) w1.heap.size 0 [.int .i64 A.n, .int .i64 A.f, .slice ad A.xs.length cd, .slice aa A.af.length ca, .int .i64 A.wb, .bool A.fl] := AtU.new.at
  generalize w1.alloc (.cells ⟨[.int .i64 A.n, .int .i64 A.f, .slice ad A.xs.length cd, .slice aa A.af.length ca, .int .i64 A.wb, .bool A.fl]⟩ 172) = w3 at *
  have t3 := t1.nos m3
  have o3 : Out w0 R1 R21 w3 w1.heap.size := t1.fresh (Nat.le_refl _) a3.lt
  have ld : ∀ {w2 : World}, At w2 w1.heap.size 0 [.int .i64 A.n, .int .i64 A.f, .slice ad A.xs.length cd, .slice aa A.af.length ca, .int .i64 A.wb, .bool A.fl] → ∀ (j : Nat) (v : Value) (T : TypeId), scal Tryz.prog T = true → ([.int .i64 A.n, .int .i64 A.f, .slice ad A.xs.length cd, .slice aa A.af.length ca, .int .i64 A.wb, .bool A.fl] : List Value)[j]? = some v → Ru (Instr.loadAt T (.pointer (some (Addr.add ⟨w1.heap.size, 0, none⟩ j)))) w2 v w2 := by
    intro w2 a j v T hT hj
    rw [add_none]; exact a.load hT hj
  have hlast := b1.last
  have hS : S.last = V.last := by obtain ⟨af, hA⟩ := r1; exact hA.last
  have haa3 := (haa.nos hM1).nos m3
  -- what is ahead
  refine ⟨fun x w5 => ∃ (j : Nat) (a9 : Option Addr) (c9 : Nat) (y z : Value), x = [.slice a9 j c9, .int .i64 j, y, z] ∧ j ≤ 4 ∧ j ≤ A.af.length ∧ Own Tryz.prog w5 w3.heap.size 37 1 a9 j c9 (iL ((A.af.take j).map (aheadN V.last))) ∧ Mod No w3 w5, fun x _ => (4 - nI x 1).toNat,
    ⟨0, none, 0, _, _, rfl, by omega, by omega, Own.nil elemZ_64, Mod.refl _ _⟩, ?_⟩
  rintro x w5 ⟨j, a9, c9, y, z9, rfl, hj4, hja, o9, m5⟩
  have t5 := t3.nos m5
  have a5 := a3.keep m5 id
  have hz5 := m5.size
  have hl5 := t5.q.llast
  rw [hS] at hl5
  refine Share.cut (fun z w6 => w5 = w6 ∧ z = [.bool (decide (j < A.af.length ∧ j < 4 ∧ 0 < V.last))]) ⟨_, rfl, _, _, _, ld a5 3 _ _ (by kernel_rfl) rfl, cond_of (fun hb1 => cond_of (fun hb2 => ⟨_, rfl, _, hl5, rfl, ?_⟩) (fun hb2 => ⟨rfl, ?_⟩)) (fun hb1 => ⟨rfl, ?_⟩)⟩ ?_
  · have h1 := of_decide_eq_true hb1
    have h2 := of_decide_eq_true hb2
    exact bcell (by omega)
  · have h2 := of_decide_eq_false hb2
    exact bcellF (by omega)
  · have h1 := of_decide_eq_false hb1
    exact bcellF (by omega)
  rintro z w6 ⟨rfl, rfl⟩
  refine ⟨_, rfl, cond_of (fun hb1 => ?_) (fun hb1 => ?_)⟩
  · obtain ⟨g1, g2, g3⟩ := of_decide_eq_true hb1
    have md : Mod No w5 (drew w5) := (Mod.refl No w5).drew
    have a6 := a5.drew
    have hl6 := t5.drew.q.llast
    rw [hS] at hl6
    obtain ⟨b4, o4, rfl, hat4⟩ := row_some ((haa3.nos m5).nos md) g1
    have hb1 : A.af[j].tmod V.last < V.last := Int.tmod_lt_of_pos _ (by omega)
    have hb2 : -(V.last : Int) < A.af[j].tmod V.last := by
      have := Int.tmod_lt_of_pos (-A.af[j]) (b := (V.last : Int)) (by omega)
      rw [Int.neg_tmod] at this; omega
    refine ⟨_, _, _, ld a6 3 _ _ (by kernel_rfl) rfl, _, rfl, _, index_slice (k := 1) (by kernel_rfl) (by omega) (by omega), ?_⟩
    rw [add_none, show (j : Int).toNat * 1 = j by omega]
    refine ⟨_, hat4.load (by kernel_rfl) (iL_get g1), _, rfl, _, hl6, _, rem_run (by omega), Share.cut (fun z w7 => drew w5 = w7 ∧ z = [.int .i64 (if A.af[j].tmod V.last < 0 then -(A.af[j].tmod V.last) else A.af[j].tmod V.last)]) (cond_of (fun hb => ⟨rfl, ?_⟩) (fun hb => ⟨rfl, ?_⟩)) ?_⟩
    · have hb := of_decide_eq_true hb
      rw [if_pos hb, wrap64 (x := 0 - A.af[j].tmod V.last) (by omega) (by omega), Int.zero_sub]
    · have hb := of_decide_eq_false hb
      rw [if_neg hb]
    rintro z w7 ⟨rfl, rfl⟩
    have hah : IntKind.i64.wrap ((V.last : Int) - (if A.af[j].tmod V.last < 0 then -(A.af[j].tmod V.last) else A.af[j].tmod V.last)) = aheadN V.last A.af[j] := by
      unfold aheadN
      rw [wrap64 (by split <;> omega) (by split <;> omega)]
    refine ⟨_, _, _, rfl, _, rfl, _, hl6, _, rfl, ?_⟩
    rw [hah]
    have hzd : (drew w5).heap.size = w5.heap.size := rfl
    obtain ⟨a', c', w9, s9, o9', m9⟩ := snoc64 (v := aheadN V.last A.af[j]) (o9.nos md) (by omega) (by omega)
    refine ⟨_, _, _, _, builtI64 _ _, _, _, _, w9, s9, ?_⟩
    rw [wrap64 (x := (j : Int) + 1) (by omega) (by omega)]
    refine ⟨⟨j + 1, a', c', _, _, rfl, by omega, by omega, ?_, (m5.no md).up m9 (Nat.le_refl _)⟩, by simp [nI, nth]; omega⟩
    rw [List.take_succ_eq_append_getElem g1, List.map_append]
    exact o9'
  -- the change
  have hil2 : ((A.af.take j).map (aheadN V.last)).length = j := by simp; omega
  generalize (A.af.take j).map (aheadN V.last) = ids at *
  have o5 := o3.nos m5
  have had5 := ((had.nos hM1).nos m3).nos m5
  have hb3 : w1.heap.size ≤ w3.heap.size := m3.size
  have hlo5 := t5.p.lo
  have hlo5q := t5.q.wf.2.2.2
  have hlo1 := t1.p.lo
  have hlo1q := t1.q.wf.2.2.2
  have hidn : ids ≠ [] → ∀ q, a9 = some q → ¬ R1 q.block ∧ ¬ R21 q.block := fun hne q hq => by
    have := (o9.base hq).1
    exact ⟨fun e => by have := (hlo1 _ e).2; omega, fun e => by have := (hlo1q _ e).2; omega⟩
  have hdn : A.xs ≠ [] → ∀ q, ad = some q → ¬ R1 q.block ∧ ¬ R21 q.block := fun hne q hq => by
    have := Row.lt had (u8L_ne hne) hq
    exact ⟨fun e => by have := (hlo1 _ e).1; omega, fun e => by have := (hlo1q _ e).1; omega⟩
  have hwf := t5.p.wf
  have hqwf := t5.q.wf
  have r1' := r1
  obtain ⟨af, hA⟩ := r1'
  have x5 := (x1.no m3).no m5
  refine ⟨_, ld a5 0 _ _ (by kernel_rfl) rfl, _, ld a5 1 _ _ (by kernel_rfl) rfl, _, _, _, ld a5 2 _ _ (by kernel_rfl) rfl, _, _, _, rfl, ?_⟩
  refine qPatch_c (n := A.n) (frm := A.f) (data := A.xs) (after := ids) t5.p (by omega) rfl had5 (fun hne q hq => (hdn hne q hq).1) (by omega) hil2 (by omega) o9.rowU.row (fun hne q hq => (hidn hne q hq).1) fun w10 m10 z10 => ⟨_, _, rfl, ?_⟩
  have t10 := t5.stepP m10 z10
  have a10 := a5.keep m10 o5.p
  have o10 := o5.stepP m10
  have x10 := x5.stepP m10
  have had10 : Row w10 ad (u8L A.xs) := by
    by_cases hne : A.xs = []
    · rw [hne]; exact .inl rfl
    · exact had5.keep m10 fun q hq => (hdn hne q hq).1
  have hid10 : Row w10 a9 (iL ids) := by
    by_cases hne : ids = []
    · rw [hne]; exact .inl rfl
    · exact o9.rowU.row.keep m10 fun q hq => (hidn hne q hq).1
  have hN : patNR S A.n A.f A.xs ids = patN V A.n A.f A.xs ids := (hA.pat hwf.1 hqwf.1 hwf.2.2.2.2 A.n A.f A.xs ids).2
  have hrel := (hA.pat hwf.1 hqwf.1 hwf.2.2.2.2 A.n A.f A.xs ids).1
  have hE := hA.patE hqwf.1 A.n A.f A.xs ids
  have s10 : Lw (patS V A.n A.f A.xs ids) := s1.pat (Gd.of t5.p s1.srt) _ _ _ _
  have b10 : Bd (patS V A.n A.f A.xs ids) (3 * i + 1) := b1.pat _ _ _ _
  refine ⟨_, ld a10 0 _ _ (by kernel_rfl) rfl, _, ld a10 1 _ _ (by kernel_rfl) rfl, _, _, _, ld a10 2 _ _ (by kernel_rfl) rfl, ?_⟩
  refine rPatch11_c (n := A.n) (frm := A.f) (data := A.xs) (after := ids) t10.q (by rw [hA.last]; omega) rfl had10 (fun hne q hq => (hdn hne q hq).2) (by omega) hil2 (by omega) hid10 (fun hne q hq => (hidn hne q hq).2) fun w11 m11 z11 => ⟨_, _, rfl, ?_⟩
  have t11 := t10.stepQ m11 z11
  have a11 := a10.keep m11 o10.q
  have o11 := o10.stepQ m11
  have x11 := x10.stepQ m11
  have h10 : (patS V A.n A.f A.xs ids).C.D.vs.length = 5 := by
    have e := (patS_C (V := V) (C := V.C) (n := A.n) (f := A.f) (data := A.xs) (after := ids) rfl).2.2
    rw [e]; exact h5
  generalize patS V A.n A.f A.xs ids = V1 at *
  generalize patSR S A.n A.f A.xs ids = S1 at *
  -- a block is written
  refine Share.cut (fun z w14 => z = [.bool false] ∧ ∃ (R' R2' : Nat → Prop) (V : Ps) (S : Rs), T11 w0 R' R2' w14 sp d rp r V S ∧ Rel V S ∧ Lw V ∧ Bd V (3 * i + 2) ∧ V.C.D.vs.length = 5 ∧ Sx R R2 w R' R2' w14 ∧ At w14 w1.heap.size 0 [.int .i64 A.n, .int .i64 A.f, .slice ad A.xs.length cd, .slice aa A.af.length ca, .int .i64 A.wb, .bool A.fl]) (ff (by rw [hN]; simp) (ff (by rw [hE]; simp) ?_)) ?_
  · have md : Mod No w11 (drew w11) := (Mod.refl No w11).drew
    have t12 := t11.drew
    have a12 := a11.drew
    have o12 := o11.nos md
    have x12 := x11.no md
    have hG : Gx V1 := Gx.of t12.p s10.srt
    refine ⟨_, ld a12 4 _ _ (by kernel_rfl) rfl, _, ld a12 4 _ _ (by kernel_rfl) rfl, qWrite_c (n := A.wb) t12.p (fun v hv => by have := b10.ver v hv; omega) fun w13 m13 z13 => ⟨_, rfl, ?_⟩⟩
    have t13 := t12.stepP m13 z13
    have a13 := a12.keep m13 o12.p
    have o13 := o12.stepP m13
    have x13 := x12.stepP m13
    refine ⟨ld a13 4 _ _ (by kernel_rfl) rfl, xWrite_c (n := A.wb) t13.q hrel hG (fun v hv => by have := b10.ver v hv; omega) fun w14 S14 m14 q14 r14 g14 => ⟨_, rfl, by simp, ?_⟩⟩
    have ho := wr_opn (V := V1) A.wb
    exact ⟨_, _, _, S14, t13.stepQ m14 q14, r14, s10.wr hG.g _, b10.wr _, by rw [ho.2.2.2]; exact h10, x13.stepQ m14, a13.keep m14 o13.q⟩
  rintro z w14 ⟨rfl, R', R2', V2, S2, t14, r14, s14, b14, h14, x14, a14⟩
  refine ⟨_, rfl, ff rfl ⟨_, ld a14 5 _ _ (by kernel_rfl) rfl, Share.cut (fun z w17 => z = [] ∧ ∃ (R' R2' : Nat → Prop) (V : Ps) (S : Rs), T11 w0 R' R2' w17 sp d rp r V S ∧ Rel V S ∧ Lw V ∧ Bd V (3 * i + 3) ∧ V.C.D.vs.length = 5 ∧ Sx R R2 w R' R2' w17) (cond_of (fun hb => ?_) (fun hb => ⟨rfl, R', R2', V2, S2, t14, r14, s14, b14.up, h14, x14⟩)) ?_⟩⟩
  · have hG : Gx V2 := Gx.of t14.p s14.srt
    refine qFlush_c t14.p fun w15 m15 z15 => ⟨_, rfl, xFlush_c (t14.stepP m15 z15).q r14 hG fun w16 S16 m16 q16 r16 g16 => ⟨_, rfl, rfl, ?_⟩⟩
    exact ⟨_, _, _, S16, (t14.stepP m15 z15).stepQ m16 q16, r16, s14.fl hG.l, b14.fl hG.l, by rw [show (flV V2).C.D.vs.length = V2.C.D.vs.length from fl_len _]; exact h14, (x14.stepP m15).stepQ m16⟩
  rintro z w17 ⟨rfl, R', R2', V3, S3, t17, r17, s17, b17, h17, x17⟩
  rw [wrap64 (x := (i : Int) + 1) (by omega) (by omega)]
  exact ⟨⟨i + 1, _, _, _, _, _, _, R', R2', V3, S3, rfl, by omega, t17, r17, s17, b17, h17, x17⟩, by simp [nI, nth]; omega⟩
end
end Go.Proofs.YtocjjigmpgekfaaGreat
end
section
/- Layer 12: the statement PushSafe. -/
open Go Go.Den Go.Proofs
namespace Go.Proofs.YtocjjigmpgekfaaGreat
theorem ext_list (xs : List UInt8) (i j : Nat) : (ByteArray.extract ⟨xs.toArray⟩ i j).toList = (xs.drop i).take (j - i) := by
  rw [ByteArray.toList_eq, ByteArray.data_extract]
  simp
section
variable {w w' w0 : World} {R R' : Nat → Prop} {sp d : Nat} {V : Ps} {K : Value → World → Prop}
theorem str_cut {s : ByteArray} {i j : Int} (h0 : 0 ≤ i) (h1 : i ≤ j) (h2 : j ≤ s.size) : Al (Instr.sliceAt 9 (.string s) (some (.int .i64 i)) (some (.int .i64 j)) none) (.string (s.extract i.toNat j.toNat)) := fun w => by
  rw [run_sliceAt_string (h := by kernel_rfl)]
  exact run_slice_string w _ s .i64 .i64 i j (by kernel_rfl) h0 h1 h2
theorem allB_cut {D : St} (h : WF D) {b : Nat} (hb : b < D.vs.length) : ((allB D).drop (256 * b)).take 256 = atD D b := by
  have := Go.Den.flat_get (D.vs.map lastV) (WF.lasts h) b (lastV D.vs[b]) (by rw [List.getElem?_map, List.getElem?_eq_getElem hb]; rfl)
  unfold allB
  rw [Nat.mul_comm] at this
  rw [this]
  unfold atD
  rw [ver_at hb]
theorem allB_len {D : St} (h : WF D) : (allB D).length = D.vs.length * 256 := by
  unfold allB
  rw [Go.Den.flat_len _ (WF.lasts h), List.length_map]
theorem rnds_len {nx : Ps → List Int} {f : Nat} {n : Nat} (g : Gy V) (h : V.C.D.vs.length = n) : (rnds nx f V).2.C.D.vs.length = n :=
  (rnds_keep (P := fun W => W.C.D.vs.length = n) (Q := fun _ => True) (fun _ _ _ _ _ => trivial) (fun W k _ hP _ => by rw [(wr_opn (V := W) k).2.2.2]; exact hP) (fun W _ hP => by rw [show (flV W).C.D.vs.length = W.C.D.vs.length from fl_len _]; exact hP) g h).2
theorem pBytes_c (hP : Pz w0 R w sp d V) (hk : ∀ w' a l c, Mod No w w' → Row w' a (u8L (allB V.C.D)) → (allB V.C.D).length = l → K (.slice a l c) w') : Cal Tryz.prog F_disk_Disk_Bytes #[.pointer (some ⟨d, 0, none⟩)] w K := by
  obtain ⟨R4, sb, mb, sc, L, hDI, hSm⟩ := hP.disk
  exact Bytes_c' hDI hSm fun w' a l c m o => hk w' a l c m o.rowU.row (by have := o.len; simpa using this)
theorem PushSafe_c {acts : List A12} {a : Option Addr} {l c : Nat} {idn : Int} (ha : Acts12 w a acts) (hl : acts.length = l) :
    Cal Tryz.prog F_leveelaw12_PushSafe #[.slice a l c, .int .i64 idn] w (fun v w' => v = .bool true ∧ Mod No w w') := by
  apply C_leveelaw12_PushSafe
  unfold D_leveelaw12_PushSafe
  refine open12_c fun w1 R R2 sp d rp r m1 t1 => ⟨_, _, _, _, rfl, ?_⟩
  refine Share.cut (fun z w3 => z = [.bool false] ∧ ∃ (R R2 : Nat → Prop) (V : Ps) (S : Rs), T11 w R R2 w3 sp d rp r V S ∧ Lw V ∧ Bd V 100 ∧ V.C.D.vs.length = 5) (ff rfl (lay12_c ha hl t1 fun w2 R' R2' V S t2 r2 s2 b2 h2 x2 => ⟨_, rfl, rfl, R', R2', V, S, t2, s2, b2, h2⟩)) ?_
  rintro z w3 ⟨rfl, R, R2, V, S, t3, s3, b3, h3⟩
  refine ⟨_, rfl, ff rfl ⟨_, rfl, _, t3.q.llast, ?_⟩⟩
  have hlast : S.last ≤ 1000000 := t3.q.wf.1.last
  refine Share.cut (fun z w7 => w3 = w7 ∧ ∃ k : Int, z = [.int .i64 k]) (cond_of (fun hb => ?_) (fun hb => ⟨rfl, _, rfl⟩)) ?_
  · refine ⟨_, rfl, _, t3.q.llast, ?_⟩
    rw [wrap64 (x := (S.last : Int) + 1) (by omega) (by omega)]
    exact ⟨_, rem_run (by omega), rfl, _, rfl⟩
  rintro z w4 ⟨rfl, k, rfl⟩
  have p3 := t3.p
  clear t3
  have hwf := p3.wf
  have gy : Gy V := ⟨Gx.of p3 s3.srt, hwf.2.2.2.2⟩
  refine ⟨_, rfl, qWaits_c (n := k) p3 fun w5 a52 c52 m5 o52 => ⟨_, _, _, rfl, ?_⟩⟩
  obtain ⟨w6, hm6, hat6, m6, hsz6⟩ := makeSlice_run (P := Tryz.prog) (w := w5) (n := 5) elemZ_bool (by omega) (by omega) (by omega)
  refine ⟨_, _, _, w6, hm6, ?_⟩
  have hlo3 := p3.lo
  have hz5 := m5.size
  have hwl : (waitsV V k).length ≤ 1000000 := by
    have h1 := waits_len hwf.1 k
    have h2 := open_le hwf.1
    have h4 := hwf.1.last
    unfold openV at h2
    omega
  have row52 := o52.rowU.row
  have hrb : ∀ q, a52 = some q → w3.heap.size ≤ q.block ∧ q.block < w5.heap.size := fun q hq => o52.base hq
  clear o52
  have hpm := p3.mod.size
  refine ⟨fun x w7 => ∃ (i : Nat) (y : Value) (bs : List Bool), x = [.int .i64 i, y] ∧ i ≤ (waitsV V k).length ∧ bs.length = 5 ∧ (∀ (j : Nat) (u : Int), j < i → (waitsV V k)[j]? = some u → ∀ x ∈ V.all, (x.id : Int) = u → bs[x.b]? = some true) ∧ AtU w7 w5.heap.size 0 (bL bs) ∧ Mod No w5 w7, fun x _ => ((waitsV V k).length - nI x 0).toNat,
    ⟨0, _, List.replicate 5 false, rfl, by omega, by simp, fun j u hj => by omega, hat6, m6⟩, ?_⟩
  rintro x w7 ⟨i, y, bs, rfl, hi, hbs, hbt, hat7, m7⟩
  have p7 := (p3.nos m5).nos m7
  refine ⟨_, rfl, cond_of (fun hb => ?_) (fun hb => ?_)⟩
  · have hi : i < (waitsV V k).length := by have := of_decide_eq_true hb; omega
    obtain ⟨b4, o4, rfl, hat4⟩ := row_some (row52.nos m7) hi
    refine ⟨_, index_slice (k := 1) (by kernel_rfl) (by omega) (by omega), ?_⟩
    rw [add_none, show (i : Int).toNat * 1 = i by omega]
    refine ⟨_, hat4.load (by kernel_rfl) (iL_get hi), ?_⟩
    obtain ⟨u, hu, eu⟩ := waits_open hwf.1 hwf.2.1 (List.getElem_mem hi)
    refine qBlock_c p7 (fun ho => absurd eu ((opn_not.1 ho) u hu)) fun v hv ev => ?_
    have : v = u := map_inj hwf.1.ids hv hu (by omega)
    subst this
    obtain ⟨o, hom, hxo⟩ := mem_all.1 hv
    have hvb : v.b < 5 := by have := hwf.1.chb o hom v hxo; have := hwf.1.onlt o hom; omega
    refine ⟨_, _, rfl, Share.cut (fun z w9 => w7 = w9 ∧ z = [.bool true]) (tt (decide_eq_true (by omega)) ⟨rfl, congrArg (fun b => [Value.bool b]) (decide_eq_true (by omega))⟩) ?_⟩
    rintro z w9 ⟨rfl, rfl⟩
    obtain ⟨w10, st, at10, m10⟩ := stBool (b := true) hat7 (j := v.b) (by omega)
    refine ⟨_, rfl, Share.dup (tt rfl ⟨_, ixBool (by omega), w10, st, ?_⟩)⟩
    rw [wrap64 (x := (i : Int) + 1) (by omega) (by omega)]
    refine ⟨⟨i + 1, _, bs.set v.b true, rfl, by omega, by simp [hbs], fun j u hj hju x hx ex => ?_, at10, m7.trans m10 fun z hz e => by have e : z = w5.heap.size := e; omega⟩, by simp [nI, nth]; omega⟩
    by_cases hji : j = i
    · subst hji
      rw [List.getElem?_eq_getElem hi] at hju
      have hju := Option.some.inj hju
      have : x = v := map_inj hwf.1.ids hx hv (by omega)
      subst this
      rw [List.getElem?_set_self (by omega)]
    · have h0 := hbt j u (by omega) hju x hx ex
      rw [List.getElem?_set]
      split
      · rw [if_pos (by omega)]
      · exact h0
  have hi : i = (waitsV V k).length := by have := of_decide_eq_false hb; omega
  subst hi
  have hin : ∀ b : Nat, bs[b]? = some false → ∀ x ∈ V.all, (x.id : Int) ∈ waitsV V k → x.b ≠ b := fun b hb0 x hx hw e => by
    obtain ⟨j, hj, ej⟩ := List.getElem_of_mem hw
    have := hbt j _ hj (by rw [List.getElem?_eq_getElem hj, ej]) x hx rfl
    rw [e, hb0] at this
    cases this
  clear hbt hb
  have row7 := row52.nos m7
  have hz7 := m7.size
  -- the disk as it was, one, the disk as it is
  refine pBytes_c p7 fun w12 a79 l79 c79 m12 r79 e79 => ⟨_, _, _, rfl, _, str_run (by kernel_rfl) r79 e79, ?_⟩
  have hz12 := m12.size
  refine One_c (n := k) (p7.nos m12) gy.x.g (b3.ver.mono (by omega)) fun w13 R13 m13 sub13 p13 g13 b13 => ⟨_, _, rfl, ?_⟩
  obtain ⟨gy13, one13⟩ := one_keep1 gy s3.one k
  have hsafe : ∀ u ∈ waitsV V k, safeV (oneV k V).2 u = true := fun u hu => one_safe gy s3.ou hu
  have hdisk : ∀ b : Nat, bs[b]? = some false → atD (oneV k V).2.C.D b = atD V.C.D b := fun b hb => (one_disk gy s3.ou (hin b hb)).2.2
  have h13 : (oneV k V).2.C.D.vs.length = 5 := rnds_len gy h3
  generalize (oneV k V).2 = V1 at *
  have row13 : Row w13 a52 (iL (waitsV V k)) := (row7.nos m12).keep m13 fun q hq e => by have := (hrb q hq).1; have := (hlo3 _ e).2; omega
  have hng : ¬ R w5.heap.size := fun e => by have := (hlo3 _ e).2; omega
  have at13 := (hat7.keep m12 id).keep m13 hng
  have hng13 : ¬ R13 w5.heap.size := fun e => by
    have := hat7.lt
    rcases sub13 _ e with e | e
    · exact hng e
    · omega
  refine pBytes_c p13 fun w14 a85 l85 c85 m14 r85 e85 => ⟨_, _, _, rfl, _, str_run (by kernel_rfl) r85 e85, ?_⟩
  have p14 := p13.nos m14
  have row14 := row13.nos m14
  have at14 := at13.keep m14 id
  refine ⟨fun x w15 => w14 = w15 ∧ ∃ (i : Nat) (y : Value), x = [y, .int .i64 i] ∧ i ≤ (waitsV V k).length, fun x _ => ((waitsV V k).length - nI x 1).toNat, ⟨rfl, 0, _, rfl, by omega⟩, ?_⟩
  rintro x w15 ⟨rfl, i, y6, rfl, hi⟩
  refine ⟨_, rfl, cond_of (fun hb => ?_) (fun hb => ?_)⟩
  · have hi : i < (waitsV V k).length := by have := of_decide_eq_true hb; omega
    obtain ⟨b4, o4, rfl, hat4⟩ := row_some row14 hi
    refine ⟨_, index_slice (k := 1) (by kernel_rfl) (by omega) (by omega), ?_⟩
    rw [add_none, show (i : Int).toNat * 1 = i by omega]
    refine ⟨_, hat4.load (by kernel_rfl) (iL_get hi), qSafe_c p14 ⟨_, rfl, ff (by rw [hsafe _ (List.getElem_mem hi)]; rfl) ?_⟩⟩
    rw [wrap64 (x := (i : Int) + 1) (by omega) (by omega)]
    exact ⟨⟨rfl, i + 1, _, rfl, by omega⟩, by simp [nI, nth]; omega⟩
  clear hb
  refine ⟨fun x w17 => Mod No w14 w17 ∧ ∃ (i : Nat) (y z : Value), x = [y, .int .i64 i, z] ∧ i ≤ 5, fun x _ => (5 - nI x 1).toNat, ⟨Mod.refl _ _, 0, _, _, rfl, by omega⟩, ?_⟩
  rintro x w17 ⟨m17, i, y7, z7, rfl, hi⟩
  have p17 := p14.nos m17
  refine ⟨_, rfl, cond_of (fun hb => ?_) (fun hb => ?_)⟩
  · have hi : i < 5 := by have := of_decide_eq_true hb; omega
    have md : Mod No w17 (drew w17) := (Mod.refl No w17).drew
    have hbi : bs[i]? = some bs[i] := List.getElem?_eq_getElem (by omega)
    refine Share.cut (fun z w18 => drew w17 = w18 ∧ z = [.bool false]) ⟨_, ixBool (by omega), _, ldBool ((at14.keep m17 id).keep md id) hbi, cond_of (fun hb2 => ?_) (fun hb2 => ⟨rfl, rfl⟩)⟩ ?_
    · have hbf : bs[i] = false := by simpa using hb2
      rw [hbf] at hbi
      rw [wrap64 (x := 256 * (i : Int)) (by omega) (by omega), wrap64 (x := 256 * (i : Int) + 256) (by omega) (by omega)]
      have hD := gy.D
      have hD1 := gy13.D
      have hl0 := allB_len hD
      have hl1 := allB_len hD1
      refine ⟨_, str_cut (by omega) (by omega) ?_, _, str_cut (by omega) (by omega) ?_, rfl, ?_⟩
      · show (256 * (i : Int) + 256) ≤ ((allB V.C.D).toArray.size : Int)
        rw [List.size_toArray, hl0, h3]; omega
      · show (256 * (i : Int) + 256) ≤ ((allB V1.C.D).toArray.size : Int)
        rw [List.size_toArray, hl1, h13]; omega
      · rw [ext_list, ext_list, show (256 * (i : Int)).toNat = 256 * i by omega, show (256 * (i : Int) + 256).toNat - 256 * i = 256 by omega, allB_cut hD (by omega), allB_cut hD1 (by omega), hdisk i hbi]
        simp
    rintro z w18 ⟨rfl, rfl⟩
    refine ⟨_, rfl, ff rfl ?_⟩
    rw [wrap64 (x := (i : Int) + 1) (by omega) (by omega)]
    exact ⟨⟨m17.no md, i + 1, _, _, rfl, by omega⟩, by simp [nI, nth]; omega⟩
  clear hb
  refine All_c p17 gy13.x.g b13 fun w19 R19 m19 sub19 p19 g19 b19 => ⟨_, _, rfl, ?_⟩
  obtain ⟨ho0, hone⟩ := all_end gy13 one13
  have hlen : (allV V1).2.C.D.vs.length = 5 := rnds_len gy13 h13
  generalize (allV V1).2 = V2 at *
  have hwf2 := p19.wf
  have hons := open0 hwf2.2.2.1 ho0
  refine ⟨fun x w27 => ∃ (R : Nat → Prop) (b : Nat) (y : Value), x = [y, .int .i64 b] ∧ b ≤ 5 ∧ Pz w R w27 sp d V2, fun x _ => (5 - nI x 1).toNat, ⟨_, 0, _, rfl, by omega, p19⟩, ?_⟩
  rintro x w27 ⟨R', b, y, rfl, hb5, z27⟩
  refine ⟨_, rfl, cond_of (fun hb => ?_) (fun hb => ?_)⟩
  · have hb5 : b < 5 := by have := of_decide_eq_true hb; omega
    have hblt : b < V2.C.D.vs.length := by omega
    have he := (rd_at V2.C.D hblt).1
    refine qRead_c (n := (b : Int)) z27 (fun h => absurd he h) fun b' hb' _ w28a w28 g cc m28a m28 z28 hg hat => ⟨_, _, _, _, rfl, ?_⟩
    have : b' = b := by omega
    subst this
    refine qSafeD_c (n := (b' : Int)) z28 fun w29 a141 c141 m29 f29 => ⟨_, _, _, _, rfl, ?_⟩
    have hnone : onOf V2 (b' : Int) = none := by unfold onOf; rw [hons]; rfl
    have hv1 := hone b' hblt (by rw [hons]; intro o ho; cases ho)
    have hsame : contV V2 b' = sfB V2.C.D (b' : Int) := by
      unfold contV sfB
      rw [hnone, if_pos he]
      show lastV (verOf V2.C.D b') = hd (verOf V2.C.D b')
      obtain ⟨v, hv⟩ := List.length_eq_one_iff.1 hv1
      rw [hv]; rfl
    have hcl : (contV V2 b').length = 256 := cont_len hwf2.1 hwf2.2.2.2.2 hblt
    refine ⟨_, str_run (by kernel_rfl) (.inr ⟨_, _, rfl, (hat.keep m29 id).at⟩) hcl, _, str_run (by kernel_rfl) f29.row rfl, ff (by rw [hsame]; simp) ?_⟩
    rw [wrap64 (x := (b' : Int) + 1) (by omega) (by omega)]
    exact ⟨⟨_, b' + 1, _, rfl, by omega, z28.nos m29⟩, by simp [nI, nth]; omega⟩
  · exact Share.dup (qOpen_c z27 ⟨_, rfl, tt (by rw [ho0]; rfl) (known12_c fun w32 m32 => ⟨_, rfl, _, rfl, rfl, z27.mod.no m32⟩)⟩)
end
end Go.Proofs.YtocjjigmpgekfaaGreat
end
section
/- Arguments that came in: a row of changes of layer 12. -/
open Go Go.Den
namespace Go.Proofs.YtocjjigmpgekfaaGreat
open Go.ChangeShapes Go.WideShapes Go.RowKit Go.Joins
section
variable {H : Type} {enc : TypeId × Value → H} {w : World} {base : Nat} {held : Bool}
theorem open_act12 {n : Nat} {cs : List Value} {y : DataW H × List MemPlace} (hl : cs.length = 6) (h : DataW.trod enc Tryz.prog w base (fun _ => true) held n 172 cs = some y) :
    ∃ x : A12, x.fit w cs ∧ x.xs.length ≤ Rows.uptoBulk y.1 := by
  match cs, hl with
  | [c0, c1, c2, c3, c4, c5], _ =>
    obtain ⟨y0, y1, y2, y3, y4, y5, n', hx, _, h0, h1, h2, h3, h4, h5⟩ := trod_st6 Tryz.underlying172 h
    have k0 : Tryz.prog.cellsOf 3 = 1 := by kernel_rfl
    have k1 : Tryz.prog.cellsOf 36 = 1 := by kernel_rfl
    have k2 : Tryz.prog.cellsOf 37 = 1 := by kernel_rfl
    have k3 : Tryz.prog.cellsOf 4 = 1 := by kernel_rfl
    simp only [k0, k1, k2, k3] at h0 h1 h2 h3 h4 h5
    have h0 : DataW.trod enc Tryz.prog w base (fun _ => true) held n' 3 [c0] = some y0 := h0
    have h1 : DataW.trod enc Tryz.prog w base (fun _ => true) held n' 3 [c1] = some y1 := h1
    have h2 : DataW.trod enc Tryz.prog w base (fun _ => true) held n' 36 [c2] = some y2 := h2
    have h3 : DataW.trod enc Tryz.prog w base (fun _ => true) held n' 37 [c3] = some y3 := h3
    have h4 : DataW.trod enc Tryz.prog w base (fun _ => true) held n' 3 [c4] = some y4 := h4
    have h5 : DataW.trod enc Tryz.prog w base (fun _ => true) held n' 4 [c5] = some y5 := h5
    obtain ⟨m0, e0, _, u0⟩ := DataW.trod_int Tryz.underlying3 h0
    obtain ⟨m1, e1, _, u1⟩ := DataW.trod_int Tryz.underlying3 h1
    obtain ⟨m4, e4, _, u4⟩ := DataW.trod_int Tryz.underlying3 h4
    obtain ⟨b5, e5, _⟩ := DataW.trod_bool Tryz.underlying4 h5
    have e0 : c0 = .int .i64 m0 := by simpa using e0
    have e1 : c1 = .int .i64 m1 := by simpa using e1
    have e4 : c4 = .int .i64 m4 := by simpa using e4
    have e5 : c5 = .bool b5 := by simpa using e5
    obtain ⟨ad, ld, cd, xs, rfl, hxl, hxr, hxn, hxb, hxm⟩ := bytes_of_trod3 h2
    obtain ⟨aa, la, ca, af, rfl, hal, har, hab, ham⟩ := ints_of_trod6 h3
    subst e0 e1 e4 e5 hxl hal
    refine ⟨⟨m0, m1, xs, af, m4, b5⟩, ⟨ad, cd, aa, ca, rfl, hxr, hxn, hxm, har, ham⟩, ?_⟩
    rw [hx]
    have := bulks.part_le (d := y2.1) (l := [y0.1, y1.1, y2.1, y3.1, y4.1, y5.1]) (by simp)
    simp only [Rows.uptoBulk]
    have e : (⟨m0, m1, xs, af, m4, b5⟩ : A12).xs.length = xs.length := rfl
    omega

set_option maxRecDepth 100000 in
theorem open_acts12 {r : Reach} {b0 : Nat} {v : Value} {d : DataW H} {ps : List MemPlace} (hval : Value.okWide Tryz.prog w r b0 55 v) (hd : DataW.Trod enc Tryz.prog w base (fun _ => true) held 55 v d ps) :
    ∃ a l c acts, v = .slice a l c ∧ acts.length = l ∧ Acts12 w a acts ∧ l ≤ 9223372036854775807 ∧ (Rows.uptoBulk d ≤ 1048576 → ∀ x ∈ acts, x.xs.length ≤ 1048576) := by
  obtain ⟨fuel, hf⟩ := hd
  obtain ⟨a, l, c, rfl⟩ := okWide_slice Tryz.underlying55 hval
  rcases Go.Deep.open_slice Tryz.underlying55 hf with ⟨h1, h2⟩ | ⟨a', l', c', m, n, DD, Pl, h1, _, hlc, hm, hmm, hx, hel⟩
  · simp [Value.cells] at h1
    obtain ⟨rfl, rfl, rfl⟩ := h1
    exact ⟨none, 0, 0, [], rfl, rfl, .inl rfl, by omega, fun _ x hx => by cases hx⟩
  · simp [Value.cells] at h1
    obtain ⟨rfl, rfl, rfl⟩ := h1
    rw [if_pos rfl] at hmm
    subst hmm
    have hl63 : l ≤ 9223372036854775807 := by simp [maxLen] at hm; omega
    have k3 : Tryz.prog.cellsOf 172 = 6 := by kernel_rfl
    rw [k3] at hel
    by_cases h0 : l = 0
    · exact ⟨some a', l, m, [], rfl, by simp [h0], .inl rfl, hl63, fun _ x hx => by cases hx⟩
    obtain ⟨b, off, spot⟩ := a'
    have hspot : spot = none := by
      obtain ⟨cs', hc, ht⟩ := hel 0 (by omega)
      obtain ⟨_, hcl, hcc⟩ := World.cells?_some hc
      obtain ⟨x, ⟨ad, cd, aa, ca, rfl, _⟩, _⟩ := open_act12 hcl ht
      have h00 := hcc 0 (by omega)
      have := World.cell?_spot (h00.trans rfl)
      simpa [Addr.add] using this
    subst hspot
    have each : ∀ i ∈ List.range l, ∃ x : A12 × List Value, x.2.length = 6 ∧ (∀ (j : Nat) (v : Value), x.2[j]? = some v → w.cell? ⟨b, off + (i * 6 + j), none⟩ = some v) ∧ x.1.fit w x.2 ∧ (Rows.uptoBulk d ≤ 1048576 → x.1.xs.length ≤ 1048576) := by
      intro i hi
      have hi := List.mem_range.1 hi
      obtain ⟨cs', hc, ht⟩ := hel i (by omega)
      obtain ⟨_, hcl, hcc⟩ := World.cells?_some hc
      obtain ⟨x, hfit, hbx⟩ := open_act12 hcl ht
      refine ⟨(x, cs'), hcl, fun j v hj => ?_, hfit, fun hb => ?_⟩
      · have hj4 := (List.getElem?_eq_some_iff.1 hj).1
        have hj4' : j < cs'.length := hj4
        have := hcc j (by omega)
        rw [add_none, add_none, Nat.add_assoc] at this
        rw [this, hj]
      · have hxd : d = .slice ((List.range l).map DD) ((List.range (m - l)).map fun j => DD (l + j)) := congrArg Prod.fst hx
        have h1 := bulks.slice_elems (H := H) ((List.range l).map DD) ((List.range (m - l)).map fun j => DD (l + j))
        have h2 := bulks.part_le (d := DD i) (l := (List.range l).map DD) (List.mem_map.2 ⟨i, List.mem_range.2 hi, rfl⟩)
        rw [← hxd] at h1
        have q3' : x.xs.length ≤ Rows.uptoBulk (DD i) := hbx
        show x.xs.length ≤ 1048576
        omega
    obtain ⟨ys, hyl, hys⟩ := list_choose3 (p := fun (i : Nat) (x : A12 × List Value) => x.2.length = 6 ∧ (∀ (j : Nat) (v : Value), x.2[j]? = some v → w.cell? ⟨b, off + (i * 6 + j), none⟩ = some v) ∧ x.1.fit w x.2 ∧ (Rows.uptoBulk d ≤ 1048576 → x.1.xs.length ≤ 1048576)) (List.range l) each
    rw [List.length_range] at hyl
    have hy3 : ∀ z ∈ ys, z.2.length = 6 := fun z hz => by
      obtain ⟨i, hi, e⟩ := List.getElem_of_mem hz
      exact (hys i i z (by rw [List.getElem?_range (by omega)]) (by rw [List.getElem?_eq_getElem hi, e])).1
    have flat3 : ∀ (zs : List (A12 × List Value)), (∀ z ∈ zs, z.2.length = 6) → ∀ (i : Nat) (z : A12 × List Value), zs[i]? = some z → ((zs.flatMap (·.2)).drop (i * 6)).take 6 = z.2 := by
      intro zs
      induction zs with
      | nil => intro _ i z h; simp at h
      | cons u r ih =>
        intro hz i z h
        have hu := hz u (by simp)
        cases i with
        | zero => simp at h; subst h; rw [Nat.zero_mul, List.drop_zero, List.flatMap_cons, List.take_append_of_le_length (by omega), List.take_of_length_le (by omega)]
        | succ i =>
          have := ih (fun z hz' => hz z (by simp [hz'])) i z (by simpa using h)
          rw [List.flatMap_cons, List.drop_append, List.drop_eq_nil_of_le (by omega), List.nil_append]
          have e : (i + 1) * 6 - u.2.length = i * 6 := by omega
          rw [e]; exact this
    have flen : ∀ zs : List (A12 × List Value), (∀ z ∈ zs, z.2.length = 6) → (zs.flatMap (·.2)).length = zs.length * 6 := by
      intro zs
      induction zs with
      | nil => intro _; rfl
      | cons u r ih =>
        intro hz
        have hu := hz u (by simp)
        rw [List.flatMap_cons, List.length_append, ih fun z hz' => hz z (by simp [hz']), List.length_cons]; omega
    have hfl := flen ys hy3
    refine ⟨some ⟨b, off, none⟩, l, m, ys.map (·.1), rfl, by simp [hyl], .inr ⟨b, off, ys.flatMap (·.2), rfl, At.of_cells (by rw [hfl]; omega) fun j hj => ?_, by rw [hfl]; simp, fun r x hx => ?_⟩, hl63, fun hb x hx => ?_⟩
    · have hj' : j < l * 6 := by rw [hfl, hyl] at hj; exact hj
      have hi : j / 6 < l := by omega
      have hyi : ys[j / 6]? = some ys[j / 6] := by simp [hyl, hi]
      have hp := hys (j / 6) (j / 6) ys[j / 6] (by simp [hi]) hyi
      have h4 := flat3 ys hy3 (j / 6) _ hyi
      have hget : (ys[j / 6]).2[j % 6]? = some ((ys.flatMap (·.2))[j]) := by
        rw [← h4, List.getElem?_take, if_pos (by omega), List.getElem?_drop, show j / 6 * 6 + j % 6 = j by omega]
        exact List.getElem?_eq_getElem _
      have := hp.2.1 (j % 6) _ hget
      rw [show j / 6 * 6 + j % 6 = j by omega] at this
      exact this
    · rw [List.getElem?_map] at hx
      cases hy : ys[r]? with
      | none => rw [hy] at hx; cases hx
      | some z =>
        rw [hy] at hx
        have := Option.some.inj hx
        subst this
        have hr : r < l := by have := (List.getElem?_eq_some_iff.1 hy).1; omega
        have hq := (hys r r z (by simp [hr]) hy).2.2.1
        rw [flat3 ys hy3 r z hy]
        exact hq
    · obtain ⟨z, hz, rfl⟩ := List.mem_map.1 hx
      obtain ⟨i, hi, e⟩ := List.getElem_of_mem hz
      exact (hys i i z (by rw [List.getElem?_range (by omega)]) (by rw [List.getElem?_eq_getElem hi, e])).2.2.2 hb
end
end Go.Proofs.YtocjjigmpgekfaaGreat
end
