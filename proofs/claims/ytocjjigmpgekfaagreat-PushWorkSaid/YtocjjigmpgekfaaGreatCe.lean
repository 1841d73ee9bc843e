/- Parts of the proof, in order: what the statement leans on. -/
import Derived.Test.YtocjjigmpgekfaaGreatCd
section
/- Layer 11, the program's store: a range over a map from which the entry at hand may be taken; a block that is flushed. -/
open Go Go.Den Go.Proofs
namespace Go.Den
/-- A range over a map that loses entries that have been met. -/
structure RanD (w : World) (r mb : Nat) (Es : List Ent) (clock : Nat) (seen : List Nat) : Prop where
  map : w.heap[mb]? = some (.map (Es.map toE).toArray clock)
  iter : w.heap[r]? = some (.mapIter (some mb) clock seen.toArray clock)
  born : ∀ e ∈ Es, e.2.2 < clock
  all : (Es.map (·.2.2)).Nodup
  keys : (Es.map (·.1)).Nodup
section
variable {P : Program} {w : World}
theorem RanD.at {r mb clock : Nat} {Es : List Ent} {seen : List Nat} (h : RanD w r mb Es clock seen) : MapAt w mb (Es.map kv) := ⟨Es, clock, h.map, rfl, h.keys, h.born, h.all⟩
theorem RanD.keep {S : Nat → Prop} {r mb clock : Nat} {Es : List Ent} {seen : List Nat} {w' : World} (h : RanD w r mb Es clock seen) (m : Mod S w w') (h1 : ¬ S r) (h2 : ¬ S mb) : RanD w' r mb Es clock seen :=
  ⟨m.keep h.map h2, m.keep h.iter h1, h.born, h.all, h.keys⟩
theorem RanD.togo {r mb clock : Nat} {Es : List Ent} {seen : List Nat} (h : RanD w r mb Es clock seen) : togo mb r w = (leftOf (Es.map toE).toArray seen.toArray).size := by
  unfold Go.Den.togo; rw [h.map, iterSeen_of h.iter]
theorem left_len (Es : List Ent) (seen : List Nat) : (leftOf (Es.map toE).toArray seen.toArray).size = (Es.filter fun e => !seen.contains e.2.2).length := by
  have e : leftOf (Es.map toE).toArray seen.toArray = ((Es.map toE).filter fun e => !seen.toArray.contains e.born).toArray := by unfold leftOf; simp
  rw [e, List.size_toArray, List.filter_map, List.length_map]
  congr 1
  apply List.filter_congr
  intro x _
  show (!(seen.toArray.contains (toE x).born)) = !(seen.contains x.2.2)
  congr 1
  rw [Bool.eq_iff_iff]
  simp [toE]
theorem RanD.next {r mb clock : Nat} {ty : TypeId} {Es : List Ent} {seen : List Nat} (h : RanD w r mb Es clock seen) :
    ((∀ e ∈ Es, e.2.2 ∈ seen) ∧ (Instr.next (.pointer (some ⟨r, 0, none⟩)) false ty).run P w = .ok (.tuple #[.bool false]) w) ∨
    ∃ e ∈ Es, e.2.2 ∉ seen ∧ ∃ w', (Instr.next (.pointer (some ⟨r, 0, none⟩)) false ty).run P w = .ok (.tuple #[.bool true, .int .i64 e.1, e.2.1]) w' ∧ (Instr.entry (.pointer (some ⟨r, 0, none⟩))).run P w' = .ok (.tuple #[.int .i64 e.1, e.2.1]) w' ∧
      RanD w' r mb Es clock (seen ++ [e.2.2]) ∧ Mod (fun x => x = r) w w' ∧ Go.Den.togo mb r w' < Go.Den.togo mb r w := by
  have hborn : ∀ x ∈ ((Es.map toE).toArray).toList, x.born < clock := by
    intro x hx
    simp only [List.mem_map] at hx
    obtain ⟨e, he, rfl⟩ := hx
    exact h.born e he
  have hnd : (((Es.map toE).toArray).toList.map (·.born)).Nodup := by
    have := h.all
    rw [List.map_map]; exact this
  rcases next_run (P := P) (ty := ty) h.iter h.map hborn (Nat.le_refl _) with ⟨h0, hrun⟩ | ⟨e, he, w', hrun, hit, hm, hsz⟩
  · refine .inl ⟨fun a ha => ?_, hrun⟩
    have := all_seen _ _ h0 (toE a) (by simp only [List.mem_map]; exact ⟨a, ha, rfl⟩)
    simpa [toE] using this
  · right
    obtain ⟨hin, hns⟩ := mem_left he
    simp only [List.mem_map] at hin
    obtain ⟨x, hx, rfl⟩ := hin
    have hnx : x.2.2 ∉ seen := by
      intro hc
      have : seen.toArray.contains (toE x).born = true := by simpa [toE] using hc
      rw [this] at hns; cases hns
    have hne : mb ≠ r := by
      rintro rfl
      have h1 := h.map; rw [h.iter] at h1; cases h1
    have hmap' := hm.keep h.map hne
    have hR : RanD w' r mb Es clock (seen ++ [x.2.2]) := by
      refine ⟨hmap', ?_, h.born, h.all, h.keys⟩
      rw [hit]; simp [toE]
    refine ⟨x, hx, hnx, w', hrun, ?_, hR, hm, ?_⟩
    · exact entry_run (e := toE x) hit hmap' (by simp only [List.mem_map]; exact ⟨x, hx, rfl⟩) hnd
    · rw [hR.togo, h.togo]
      have := left_shrinks _ _ _ he
      simpa [toE] using this
theorem RanD.del {T T2 ty : TypeId} {z : Value} {r mb clock : Nat} {Es : List Ent} {seen : List Nat} {k : Int} (hT : mapZ P T = some z) (h : RanD w r mb Es clock seen) :
    ∃ w', (Builtin.delete_ #[T, T2] ty #[.map (some mb), .int .i64 k]).run P w = .ok (.tuple #[]) w' ∧ RanD w' r mb (Es.filter fun e => !decide (e.1 = k)) clock seen ∧ Mod (fun x => x = mb) w w' ∧ Go.Den.togo mb r w' ≤ Go.Den.togo mb r w := by
  obtain ⟨kt, e, i, h1, h2, h3, h4⟩ := mapZ_is hT
  have hund : (underlying T).run P w = .ok (.map kt e) w := run_und h1 w
  have hmod : ∀ o, Mod (fun x => x = mb) w (put w mb o) := fun o => (Mod.refl (fun x => x = mb) w).put (.inr rfl) _
  have hsub : (Es.filter fun e => !decide (e.1 = k)).Sublist Es := List.filter_sublist
  have hne : r ≠ mb := by
    rintro rfl
    have h1 := h.map; rw [h.iter] at h1; cases h1
  have fin : ∀ (w' : World), w' = put w mb (.map ((Es.filter fun e => !decide (e.1 = k)).map toE).toArray clock) → (Builtin.delete_ #[T, T2] ty #[.map (some mb), .int .i64 k]).run P w = .ok (.tuple #[]) w' →
      ∃ w', (Builtin.delete_ #[T, T2] ty #[.map (some mb), .int .i64 k]).run P w = .ok (.tuple #[]) w' ∧ RanD w' r mb (Es.filter fun e => !decide (e.1 = k)) clock seen ∧ Mod (fun x => x = mb) w w' ∧ Go.Den.togo mb r w' ≤ Go.Den.togo mb r w := by
    rintro w' rfl hr
    have hR : RanD (put w mb (.map ((Es.filter fun e => !decide (e.1 = k)).map toE).toArray clock)) r mb (Es.filter fun e => !decide (e.1 = k)) clock seen :=
      ⟨heap_put_same (lt_of_heap h.map), by rw [heap_put_other hne]; exact h.iter, fun x hx => h.born x (hsub.subset hx), (hsub.map _).nodup h.all, (hsub.map _).nodup h.keys⟩
    refine ⟨_, hr, hR, hmod _, ?_⟩
    rw [hR.togo, h.togo, left_len, left_len]
    exact (hsub.filter _).length_le
  cases hf : findE k Es 0 with
  | none =>
    have hall := findE_all k Es 0 hf
    refine fin (put w mb (.map (Es.map toE).toArray clock)) (by rw [hall]) ?_
    simp [Builtin.delete_, hund, run_getMap h.map, run_checkKey h2, run_findKey h2, hf, run_setMap h.map]
  | some q =>
    obtain ⟨j, u⟩ := q
    obtain ⟨_, e2, e3⟩ := findE_erase k Es 0 j u h.keys hf
    rw [Nat.sub_zero] at e2 e3
    refine fin (put w mb (.map ((Es.eraseIdx j).map toE).toArray clock)) (by rw [e3]) ?_
    simp [Builtin.delete_, hund, run_getMap h.map, run_checkKey h2, run_findKey h2, hf, run_setMap h.map, erase_map]
end
end Go.Den
namespace Go.Proofs.YtocjjigmpgekfaaGreat
section
variable {w0 w w' : World} {R R' : Nat → Prop} {rl : Nat → Nat} {sp c d mo mm : Nat} {ca oa : Nat → Nat} {Lo Lm : List (Int × Value)} {P V : Ps} {K : Value → World → Prop}
theorem tells_flush2 {S : Nat → Prop} {F : FuncId} {l : List Ch} (h : PIn w0 R rl w sp c d mo mm ca oa Lo Lm P) (hl : ∀ x ∈ l, x ∈ P.all) (hS : ∀ x ∈ l, ¬ S (ca x.id)) (h5 : ∀ z, rl z = 5 → ¬ S z)
    (hF : ∀ (p0 : Option Addr) (w : World) (K : Value → World → Prop), (∃ q4 : Addr, (.pointer p0 : Value) = .pointer (some q4) ∧ ∃ b6 : Bool, Ru (Instr.loadAt 4 (.pointer (some (Addr.add q4 5)))) w (.bool b6) w ∧ K (.bool b6) w) → Cal Tryz.prog F #[.pointer p0] w K) :
    TellsP (.func (.func F) #[] #[]) w S (pOf ca (·.out) l) (l.map fun x => ca x.id) := by
  intro w' k qx hqx K hK
  obtain ⟨x, hx, rfl⟩ := List.mem_map.1 hqx
  refine ⟨_, _, _, rfl, ?_⟩
  show Cal Tryz.prog F #[.pointer (some ⟨ca x.id, 0, none⟩)] w' K
  have hc := (h.chs x (hl x hx)).2.2.keep k (hS x hx) h5
  refine hF _ _ _ ⟨_, rfl, _, hc.ld (j := 5) (by kernel_rfl) (fun _ _ _ _ => rfl), ?_⟩
  have := hK w' (Mod.refl _ _)
  rwa [h.pOf hl hx] at this
/-- The open changes without those of a block that were in an image. -/
def cutO (Lo : List (Int × Value)) (l : List Ch) : List (Int × Value) := Lo.filter fun p => !(l.any fun x => x.out && decide ((x.id : Int) = p.1))
theorem look_filter {L : List (Int × Value)} {f : Int × Value → Bool} {k : Int} (h : ∀ v, f (k, v) = true) : lookupL (L.filter f) k = lookupL L k := by
  induction L with
  | nil => rfl
  | cons p r ih =>
    obtain ⟨k', v⟩ := p
    by_cases e : k = k'
    · subst e
      rw [List.filter_cons_of_pos (h v)]
      simp [lookupL]
    · by_cases hf : f (k', v) = true
      · rw [List.filter_cons_of_pos hf]
        simp only [lookupL]
        rw [ih]
      · rw [List.filter_cons_of_neg (by simpa using hf), ih]
        simp only [lookupL]
        rw [if_neg (fun e2 => e (by first | exact e2 | exact e2.symm))]
/-- A block is flushed, in memory. -/
theorem PIn.flS {S : Nat → Prop} {o : On} {b g cc l' lc : Nat} {la : Option Addr} {Lm' : List (Int × Value)} (h : PIn w0 R rl w sp c d mo mm ca oa Lo Lm P) (ho : o ∈ P.ons) (hob : o.b = b)
    (k : Mod S w w') (hS : ∀ z, S z → z = mo ∨ z = oa b ∨ rl z = 9 + 3 * b ∨ z = mm) (hg : w.heap.size ≤ g ∧ g < w'.heap.size)
    (hmO : MapAt w' mo (cutO Lo o.l)) (hmM : MapAt w' mm Lm') (hk1 : ∀ n : Int, n ≠ b → lookupL Lm' n = lookupL Lm n) (hk2 : ∀ p ∈ Lm', p ∈ Lm)
    (hno : flOn o = none → ∀ p ∈ Lm', p.1 ≠ b)
    (hyes : flOn o ≠ none → lookupL Lm' b = lookupL Lm b ∧ AtU w' (oa b) 0 [.slice (some ⟨g, 0, none⟩) 256 cc, .slice la l' lc] ∧ At w' g 0 (u8L (withL o.base (o.l.filter (·.out)))) ∧ l' = (o.l.filter fun x => !x.out).length ∧
      Own Tryz.prog w' w0.heap.size 178 1 la l' lc (pL ((o.l.filter fun x => !x.out).map fun x => ca x.id)) ∧ ∀ q, la = some q → rl q.block = 9 + 3 * b) :
    PIn w0 (Gro R w w') (ro rl g 5) w' sp c d mo mm ca oa (cutO Lo o.l) Lm' ⟨P.C, P.last, P.ons.filterMap (flG fun n => decide (n = b))⟩ := by
  have hon := h.ons o ho
  rw [hob] at hon
  have hrS : ∀ {z}, S z → rl z = 3 ∨ rl z = 8 + 3 * b ∨ rl z = 9 + 3 * b ∨ rl z = 4 := fun {z} e => by
    rcases hS z e with e | e | e | e
    · left; rw [e]; exact h.rmo
    · right; left; rw [e]; exact hon.2.1
    · exact .inr (.inr (.inl e))
    · right; right; right; rw [e]; exact h.rmm
  have hgz := h.out_of (x := g) hg.1
  have hx : Ext w w' rl (ro rl g 5) := (Ext.refl _ _ _).ro (.inr ⟨hg.1, hg.2, hgz⟩) (by omega) (by omega)
  have hxo : ∀ {p p' : On}, p ∈ P.ons → flG (fun n => decide (n = b)) p = some p' → (p.b ≠ b ∧ p' = p) ∨ (p = o ∧ flOn o = some p') := fun {p p'} hp e => by
    unfold flG at e
    split at e
    · rename_i hb
      have hb : p.b = b := by simpa using hb
      have := on_uniq h.wf hp ho (by omega)
      subst this
      exact .inr ⟨rfl, e⟩
    · rename_i hb
      have hb : p.b ≠ b := by simpa using hb
      exact .inl ⟨hb, (Option.some.inj e).symm⟩
  have hflo : ∀ {p'}, flOn o = some p' → p' = { o with base := withL o.base (o.l.filter (·.out)), l := o.l.filter fun x => !x.out } := fun {p'} e => by
    unfold flOn at e
    split at e
    · cases e
    · exact (Option.some.inj e).symm
  -- a change that stays
  have hstay : ∀ y, y ∈ Ps.all ⟨P.C, P.last, P.ons.filterMap (flG fun n => decide (n = b))⟩ ↔ y ∈ P.all ∧ (y.b = b → y.out = false) := by
    intro y
    rw [mem_all]
    constructor
    · rintro ⟨p', hp', hy⟩
      obtain ⟨p, hp, e⟩ := List.mem_filterMap.1 hp'
      rcases hxo hp e with ⟨hb, rfl⟩ | ⟨rfl, e2⟩
      · exact ⟨on_all hp hy, fun e3 => absurd (by rw [← h.wf.chb _ hp y hy]; exact e3) hb⟩
      · rw [hflo e2] at hy
        obtain ⟨h1, h2⟩ := List.mem_filter.1 hy
        exact ⟨on_all hp h1, fun _ => by simpa using h2⟩
    · rintro ⟨hy, hout⟩
      obtain ⟨p, hp, hyp⟩ := mem_all.1 hy
      by_cases hb : p.b = b
      · have := on_uniq h.wf hp ho (by omega)
        subst this
        have hyo := hout (by rw [h.wf.chb _ hp y hyp]; exact hb)
        have hmem : y ∈ p.l.filter fun x => !x.out := List.mem_filter.2 ⟨hyp, by rw [hyo]; rfl⟩
        refine ⟨{ p with base := withL p.base (p.l.filter (·.out)), l := p.l.filter fun x => !x.out }, List.mem_filterMap.2 ⟨p, hp, ?_⟩, hmem⟩
        unfold flG flOn
        rw [if_pos (by simpa using hb), if_neg]
        intro he
        rw [List.isEmpty_iff.1 he] at hmem
        cases hmem
      · refine ⟨p, List.mem_filterMap.2 ⟨p, hp, ?_⟩, hyp⟩
        unfold flG
        rw [if_neg (by simpa using hb)]
  have hcutk : ∀ y ∈ P.all, (y.b = b → y.out = false) → ∀ v : Value, (!(o.l.any fun x => x.out && decide ((x.id : Int) = ((y.id : Int), v).1))) = true := fun y hy hout v => by
    rw [Bool.not_eq_true', List.any_eq_false]
    intro x hx hxe
    simp only [Bool.and_eq_true, decide_eq_true_eq] at hxe
    have := map_inj h.wf.ids (on_all ho hx) hy (by omega)
    subst this
    rw [hout (by rw [h.wf.chb _ ho x hx]; exact hob)] at hxe
    cases hxe.1
  refine h.step (P' := ⟨P.C, P.last, P.ons.filterMap (flG fun n => decide (n = b))⟩) rfl k hx (fun z e => ?_) (fun z _ e => by have := hrS e; omega) (h.cell.keep k fun e => by have := hrS e; rw [h.rsp] at this; omega) hmO hmM ?_ ?_ ?_ ?_ (h.wf.fl rfl rfl)
  · by_cases e1 : z = g
    · subst e1; rw [ro_same] at e; omega
    · rw [ro_ne _ e1] at e; exact e
  · intro y hy
    obtain ⟨hy1, hy2⟩ := (hstay y).1 hy
    left
    exact ⟨hy1, look_filter (hcutk y hy1 hy2), rfl, fun q e e2 => by have := hrS e; omega⟩
  · intro p' hp'
    obtain ⟨p, hp, e⟩ := List.mem_filterMap.1 hp'
    rcases hxo hp e with ⟨hb, rfl⟩ | ⟨rfl, e2⟩
    · left
      exact ⟨hp, hk1 _ (by omega), rfl, fun _ _ => rfl, fun q e => by have := hrS e; omega⟩
    · right
      have hne : flOn p ≠ none := by rw [e2]; simp
      obtain ⟨y1, y2, y3, y4, y5, y6⟩ := hyes hne
      rw [hflo e2]
      refine ⟨by show lookupL Lm' (p.b : Int) = _; rw [hob, y1]; exact hon.1, by show ro rl g 5 (oa p.b) = 8 + 3 * p.b; rw [hob, hx.old _ (by rw [hon.2.1]; omega)]; exact hon.2.1, ?_⟩
      refine ⟨g, cc, la, lc, ?_, y3, ro_same _ _ _, ?_, ?_⟩
      · show AtU w' (oa p.b) 0 [_, .slice la (p.l.filter fun x => !x.out).length lc]
        rw [hob, ← y4]; exact y2
      · rw [← y4]; exact y5
      · intro q hq
        show ro rl g 5 q.block = 9 + 3 * p.b
        have := y6 q hq
        rw [hx.old _ (by omega), hob]; exact this
  · intro p hp
    obtain ⟨hp1, hp2⟩ := List.mem_filter.1 hp
    obtain ⟨y, hy, e⟩ := h.keysO p hp1
    refine ⟨y, (hstay y).2 ⟨hy, fun hyb => ?_⟩, e⟩
    obtain ⟨q, hq, hyq⟩ := mem_all.1 hy
    have := on_uniq h.wf hq ho (by rw [← h.wf.chb _ hq y hyq, hyb, hob])
    subst this
    cases hyo : y.out with
    | false => rfl
    | true =>
      exfalso
      rw [Bool.not_eq_true', List.any_eq_false] at hp2
      exact hp2 y hyq (by rw [hyo, e]; simp)
  · intro p hp
    obtain ⟨q, hq, e⟩ := h.keysM p (hk2 p hp)
    by_cases hb : q.b = b
    · have := on_uniq h.wf hq ho (by omega)
      subst this
      cases hf : flOn q with
      | none => exact absurd (by rw [e, hb]) (hno hf p hp)
      | some q' =>
        refine ⟨q', List.mem_filterMap.2 ⟨q, hq, ?_⟩, ?_⟩
        · unfold flG; rw [if_pos (by simpa using hb)]; exact hf
        · rw [hflo hf]; exact e
    · refine ⟨q, List.mem_filterMap.2 ⟨q, hq, ?_⟩, e⟩
      unfold flG; rw [if_neg (by simpa using hb)]
end
end Go.Proofs.YtocjjigmpgekfaaGreat

/- Layer 11, the program's store: Flush. -/
open Go Go.Den Go.Proofs
namespace Go.Proofs.YtocjjigmpgekfaaGreat
theorem fmap_congr {α β : Type} {f g : α → Option β} : ∀ {l : List α}, (∀ x ∈ l, f x = g x) → l.filterMap f = l.filterMap g
  | [], _ => rfl
  | x :: r, h => by
    have ih := fmap_congr (f := f) (g := g) (l := r) fun y hy => h y (by simp [hy])
    have hx := h x (by simp)
    cases hf : f x with
    | none => rw [List.filterMap_cons_none hf, List.filterMap_cons_none (by rw [← hx]; exact hf), ih]
    | some y => rw [List.filterMap_cons_some hf, List.filterMap_cons_some (by rw [← hx]; exact hf), ih]
theorem cutO_snoc (Lo : List (Int × Value)) (l : List Ch) (x : Ch) : cutO Lo (l ++ [x]) = if x.out = true then delL (x.id : Int) (cutO Lo l) else cutO Lo l := by
  unfold cutO delL
  by_cases h : x.out = true
  · rw [if_pos h, List.filter_filter]
    apply List.filter_congr
    intro p _
    rw [List.any_append]
    simp only [List.any_cons, List.any_nil, Bool.or_false, h, Bool.true_and]
    have : decide ((x.id : Int) = p.1) = decide (p.1 = (x.id : Int)) := decide_eq_decide.2 ⟨Eq.symm, Eq.symm⟩
    rw [this]
    cases l.any (fun x => x.out && decide ((x.id : Int) = p.1)) <;> cases decide (p.1 = (x.id : Int)) <;> rfl
  · rw [if_neg h]
    apply List.filter_congr
    intro p _
    rw [List.any_append]
    simp [h]
theorem cutO_nil (Lo : List (Int × Value)) : cutO Lo [] = Lo := by
  unfold cutO
  exact List.filter_eq_self.2 fun _ _ => rfl
def fC (P : Ps) (vis : List Nat) (z : Bf) : Bf := if (P.ons.any fun o => decide (o.b = z.b) && vis.contains o.b && (flOn o).isNone) = true then { z with pins := 0 } else z
theorem fC_b (P : Ps) (vis : List Nat) (z : Bf) : (fC P vis z).b = z.b := by unfold fC; split <;> rfl
theorem flOn_b {o o' : On} (h : flOn o = some o') : o'.b = o.b := by
  unfold flOn at h
  split at h
  · cases h
  · rw [← Option.some.inj h]
theorem ons_more (l : List On) (vis : List Nat) {b : Nat} (hb : b ∉ vis) : (l.filterMap (flG fun n => vis.contains n)).filterMap (flG fun n => decide (n = b)) = l.filterMap (flG fun n => (vis ++ [b]).contains n) := by
  rw [List.filterMap_filterMap]
  apply fmap_congr
  intro o _
  have e : (vis ++ [b]).contains o.b = (vis.contains o.b || decide (o.b = b)) := by
    rw [Bool.eq_iff_iff]; simp
  by_cases hv : vis.contains o.b = true
  · have e1 : flG (fun n => vis.contains n) o = flOn o := by unfold flG; rw [if_pos hv]
    have e2 : flG (fun n => (vis ++ [b]).contains n) o = flOn o := by unfold flG; rw [if_pos (by show (vis ++ [b]).contains o.b = true; rw [e, hv]; rfl)]
    rw [e1, e2]
    cases hf : flOn o with
    | none => rfl
    | some o' =>
      have hne : o'.b ≠ b := fun e3 => hb (by rw [← e3, flOn_b hf]; simpa using hv)
      show flG (fun n => decide (n = b)) o' = some o'
      unfold flG; rw [if_neg (by simpa using hne)]
  · have e1 : flG (fun n => vis.contains n) o = some o := by unfold flG; rw [if_neg hv]
    rw [e1]
    show flG (fun n => decide (n = b)) o = _
    have hv' : vis.contains o.b = false := by simpa using hv
    unfold flG
    show (if decide (o.b = b) = true then flOn o else some o) = if (vis ++ [b]).contains o.b = true then flOn o else some o
    rw [e, hv', Bool.false_or]
section
variable {w0 w w' : World} {R R' : Nat → Prop} {rl : Nat → Nat} {sp c d mo mm : Nat} {ca oa : Nat → Nat} {Lo Lm : List (Int × Value)} {P V : Ps} {K : Value → World → Prop}
/-- What a range over the blocks with changes has come to. -/
structure FlI (w0 : World) (R : Nat → Prop) (w : World) (r sp c d mo mm : Nat) (ca oa : Nat → Nat) (clock : Nat) (P : Ps) (w3 : World) (vis : List Nat) (R3 : Nat → Prop) (rl3 : Nat → Nat) (Lo3 : List (Int × Value)) (C3 : Ca) (Es3 : List Ent) (seen : List Nat) : Prop where
  pin : PIn w0 R3 rl3 w3 sp c d mo mm ca oa Lo3 (Es3.map kv) ⟨C3, P.last, P.ons.filterMap (flG fun n => vis.contains n)⟩
  gro : ∀ z, R3 z → Gro R w w3 z
  nr : ¬ R3 r
  M : Mod R w w3
  D : C3.D = flSt P.C.D
  most : C3.most = P.C.most
  l : C3.l = P.C.l.map (fC P vis)
  ran : RanD w3 r mm Es3 clock seen
  vis_ : ∀ e ∈ Es3, e.2.2 ∈ seen ↔ ∃ b ∈ vis, e.1 = ((b : Nat) : Int)
theorem FlI.on {r clock : Nat} {w3 : World} {vis : List Nat} {R3 : Nat → Prop} {rl3 : Nat → Nat} {Lo3 : List (Int × Value)} {C3 : Ca} {Es3 : List Ent} {seen : List Nat} {e : Ent} (h : FlI w0 R w r sp c d mo mm ca oa clock P w3 vis R3 rl3 Lo3 C3 Es3 seen) (he : e ∈ Es3) (hs : e.2.2 ∉ seen) :
    ∃ o, o ∈ P.ons ∧ o ∈ P.ons.filterMap (flG fun n => vis.contains n) ∧ e.1 = (o.b : Int) ∧ o.b ∉ vis ∧ e.2.1 = pV (oa o.b) := by
  obtain ⟨o, ho, e1⟩ := h.pin.keysM (kv e) (List.mem_map.2 ⟨e, he, rfl⟩)
  have e1 : e.1 = (o.b : Int) := e1
  have hnv : o.b ∉ vis := fun hv => hs ((h.vis_ e he).2 ⟨o.b, hv, e1⟩)
  obtain ⟨o0, ho0, e2⟩ := List.mem_filterMap.1 ho
  have hb := (flG_facts e2).1
  have heq : o = o0 := by
    unfold flG at e2
    rw [if_neg (by rw [← hb]; simpa using hnv)] at e2
    exact (Option.some.inj e2).symm
  subst heq
  refine ⟨o, ho0, ho, e1, hnv, ?_⟩
  have h1 := (h.pin.ons o ho).1
  have h2 := look_of_mem (L := Es3.map kv) (k := e.1) (v := e.2.1) h.pin.mapM.nodup (List.mem_map.2 ⟨e, he, rfl⟩)
  rw [e1, h1] at h2
  exact (Option.some.inj h2).symm
theorem fC_skip {vis : List Nat} {o : On} (hs : WFS P) (ho : o ∈ P.ons) (hv : o.b ∉ vis) (hf : flOn o ≠ none) (z : Bf) : fC P (vis ++ [o.b]) z = fC P vis z := by
  unfold fC
  have : (P.ons.any fun o' => decide (o'.b = z.b) && (vis ++ [o.b]).contains o'.b && (flOn o').isNone) = P.ons.any fun o' => decide (o'.b = z.b) && vis.contains o'.b && (flOn o').isNone := by
    rw [Bool.eq_iff_iff, List.any_eq_true, List.any_eq_true]
    constructor
    · rintro ⟨p, hp, e⟩
      simp only [Bool.and_eq_true, decide_eq_true_eq] at e
      have hmem : p.b ∈ vis ++ [o.b] := by simpa using e.1.2
      rcases List.mem_append.1 hmem with hm | hm
      · exact ⟨p, hp, by rw [Bool.and_eq_true, Bool.and_eq_true]; exact ⟨⟨decide_eq_true e.1.1, by simp [hm]⟩, e.2⟩⟩
      · have : p.b = o.b := by simpa using hm
        have := on_uniq hs hp ho this
        subst this
        have := e.2
        cases hfo : flOn p with
        | none => exact absurd hfo hf
        | some _ => rw [hfo] at this; cases this
    · rintro ⟨p, hp, e⟩
      simp only [Bool.and_eq_true, decide_eq_true_eq] at e
      have hmem : p.b ∈ vis := by simpa using e.1.2
      exact ⟨p, hp, by rw [Bool.and_eq_true, Bool.and_eq_true]; exact ⟨⟨decide_eq_true e.1.1, by simp [hmem]⟩, e.2⟩⟩
  rw [this]
theorem fC_cut {vis : List Nat} {o : On} {x : Bf} (hs : WFS P) (hn : (P.C.l.map (·.b)).Nodup) (ho : o ∈ P.ons) (hf : flOn o = none) (hx : x ∈ P.C.l) (hxb : x.b = o.b) : turn (P.C.l.map (fC P vis)) { x with pins := 0 } = P.C.l.map (fC P (vis ++ [o.b])) := by
  unfold turn
  rw [List.map_map]
  apply List.map_congr_left
  intro z hz
  simp only [Function.comp]
  rw [fC_b]
  by_cases e : z.b = x.b
  · have := map_inj hn hz hx e
    subst this
    rw [if_pos rfl]
    unfold fC
    rw [if_pos]
    rw [List.any_eq_true]
    exact ⟨o, ho, by simp [hxb, hf]⟩
  · rw [if_neg e]
    unfold fC
    have : (P.ons.any fun o' => decide (o'.b = z.b) && (vis ++ [o.b]).contains o'.b && (flOn o').isNone) = P.ons.any fun o' => decide (o'.b = z.b) && vis.contains o'.b && (flOn o').isNone := by
      rw [Bool.eq_iff_iff, List.any_eq_true, List.any_eq_true]
      constructor
      · rintro ⟨p, hp, e2⟩
        simp only [Bool.and_eq_true, decide_eq_true_eq] at e2
        have hmem : p.b ∈ vis ++ [o.b] := by simpa using e2.1.2
        rcases List.mem_append.1 hmem with hm | hm
        · exact ⟨p, hp, by rw [Bool.and_eq_true, Bool.and_eq_true]; exact ⟨⟨decide_eq_true e2.1.1, by simp [hm]⟩, e2.2⟩⟩
        · have : p.b = o.b := by simpa using hm
          omega
      · rintro ⟨p, hp, e2⟩
        simp only [Bool.and_eq_true, decide_eq_true_eq] at e2
        have hmem : p.b ∈ vis := by simpa using e2.1.2
        exact ⟨p, hp, by rw [Bool.and_eq_true, Bool.and_eq_true]; exact ⟨⟨decide_eq_true e2.1.1, by simp [hmem]⟩, e2.2⟩⟩
    rw [this]
/-- At the end. -/
theorem FlI.done {r clock : Nat} {w3 : World} {vis : List Nat} {R3 : Nat → Prop} {rl3 : Nat → Nat} {Lo3 : List (Int × Value)} {C3 : Ca} {Es3 : List Ent} {seen : List Nat} (h : FlI w0 R w r sp c d mo mm ca oa clock P w3 vis R3 rl3 Lo3 C3 Es3 seen) (hall : ∀ e ∈ Es3, e.2.2 ∈ seen) (hP : Px w0 R w sp d P) :
    Px w0 (Gro R w w3) w3 sp d ⟨C3, P.last, P.ons.filterMap flOn⟩ := by
  have hwf := hP.wf
  have hv : ∀ o ∈ P.ons, o.b ∈ vis := fun o ho => by
    by_cases hv : o.b ∈ vis
    · exact hv
    · have hm : o ∈ P.ons.filterMap (flG fun n => vis.contains n) := List.mem_filterMap.2 ⟨o, ho, by unfold flG; rw [if_neg (by simpa using hv)]⟩
      have hl := look_mem (h.pin.ons o hm).1
      obtain ⟨e, he, e2⟩ := List.mem_map.1 hl
      obtain ⟨b, hb, e3⟩ := (h.vis_ e he).1 (hall e he)
      have : e.1 = (o.b : Int) := congrArg Prod.fst e2
      have : b = o.b := by omega
      rw [← this]; exact hb
  have e1 : P.ons.filterMap (flG fun n => vis.contains n) = P.ons.filterMap flOn := by
    apply fmap_congr
    intro o ho
    unfold flG; rw [if_pos (by simpa using hv o ho)]
  have hpin := h.pin
  rw [e1] at hpin
  have hC : C3 = { P.C with D := flSt P.C.D, l := P.C.l.map fun x => if (P.ons.any fun o => decide (o.b = x.b) && (flOn o).isNone) = true then { x with pins := 0 } else x } := by
    have hl := h.l
    have hD := h.D
    have hm := h.most
    have e2 : P.C.l.map (fC P vis) = P.C.l.map fun x => if (P.ons.any fun o => decide (o.b = x.b) && (flOn o).isNone) = true then { x with pins := 0 } else x := by
      apply List.map_congr_left
      intro z _
      unfold fC
      have : (P.ons.any fun o => decide (o.b = z.b) && vis.contains o.b && (flOn o).isNone) = P.ons.any fun o => decide (o.b = z.b) && (flOn o).isNone := by
        rw [Bool.eq_iff_iff, List.any_eq_true, List.any_eq_true]
        constructor
        · rintro ⟨p, hp, e⟩
          simp only [Bool.and_eq_true] at e
          exact ⟨p, hp, by rw [e.1.1, e.2]; rfl⟩
        · rintro ⟨p, hp, e⟩
          simp only [Bool.and_eq_true] at e
          have := hv p hp
          exact ⟨p, hp, by rw [e.1, e.2]; simp [this]⟩
      rw [this]
    rw [e2] at hl
    cases C3
    simp only at hl hD hm
    rw [hl, hD, hm]
  have hw := hwf.1.flush hwf.2.1 hwf.2.2.1.nodup
  have hw : WFP ⟨C3, P.last, P.ons.filterMap flOn⟩ := by rw [hC]; exact hw
  have hz := h.M.size
  have hw0 := hwf.2.2.2.2.1.size
  refine ⟨hw, rl3, c, mo, mm, ca, oa, Lo3, _, hpin.widen h.gro fun z hz => ?_⟩
  rcases hz with hz | hz
  · have := hP.lo z hz; omega
  · omega
end
end Go.Proofs.YtocjjigmpgekfaaGreat

/- Layer 11, the program's store: Flush. -/
open Go Go.Den Go.Proofs
namespace Go.Proofs.YtocjjigmpgekfaaGreat
section
variable {w0 w w' : World} {R R' : Nat → Prop} {rl : Nat → Nat} {sp c d mo mm : Nat} {ca oa : Nat → Nat} {Lo Lm : List (Int × Value)} {P V : Ps} {K : Value → World → Prop}
theorem u_ons : Tryz.prog.underlying 155 = some (.map 3 175) := by kernel_rfl
theorem filter_map_ca {l : List Ch} {p : Nat → Bool} (hp : ∀ x ∈ l, p (ca x.id) = x.out) : (l.map fun x => ca x.id).filter (fun q => !p q) = (l.filter fun x => !x.out).map fun x => ca x.id := by
  rw [List.filter_map]
  congr 1
  apply List.filter_congr
  intro x hx
  simp only [Function.comp]
  rw [hp x hx]
theorem flOn_none {o : On} (h : flOn o = none) : (o.l.filter fun x => !x.out).length = 0 := by
  unfold flOn at h
  split at h
  · rename_i he; rw [List.isEmpty_iff.1 he]; rfl
  · cases h
theorem flOn_some {o : On} (h : flOn o ≠ none) : (o.l.filter fun x => !x.out).length ≠ 0 := by
  unfold flOn at h
  split at h
  · exact absurd rfl h
  · rename_i he
    intro h0
    exact he (List.isEmpty_iff.2 (List.eq_nil_of_length_eq_zero h0))
set_option maxRecDepth 100000 in
theorem pFlush_c (hP : Px w0 R w sp d P) (hk : ∀ w' C', Mod R w w' → Px w0 (Gro R w w') w' sp d ⟨C', P.last, P.ons.filterMap flOn⟩ → C'.D = flSt P.C.D → C'.most = P.C.most → K (.int .i64 0) w') :
    Cal Tryz.prog F_patch_Store_Flush #[.pointer (some ⟨sp, 0, none⟩)] w K := by
  have hP0 := hP
  obtain ⟨hw, rl, c, mo, mm, ca, oa, Lo, Lm, h⟩ := hP
  apply C_patch_Store_Flush
  unfold D_patch_Store_Flush
  refine ff rfl ⟨_, rfl, _, h.lc, cFlush_c h.cx fun w1 m1 x1 => ⟨_, rfl, ff rfl ?_⟩⟩
  obtain ⟨rl1, h1, hr1⟩ := h.cache m1 (Mod.refl _ _) x1 (fl_len _) rfl
  have hz1 := m1.size
  have hlo := hP0.lo
  have hw0 := h.mod.size
  have M1 : Mod R w w1 := m1.mono fun z _ e => h.reg z (by have e : rl z = 1 := e; omega)
  obtain ⟨Es, clock, g1, g2, g3, g4, g5⟩ := h1.mapM
  refine ⟨_, rfl, _, h1.lm, _, _, range_run u_ons g1, ?_⟩
  have m2 : Mod No w1 (w1.alloc (.mapIter (some mm) clock #[] clock)) := (Mod.refl No w1).alloc _
  have hR2 : RanD (w1.alloc (.mapIter (some mm) clock #[] clock)) w1.heap.size mm Es clock [] := ⟨m2.keep g1 id, heap_new w1 _, g4, g5, g3⟩
  have s2 : (w1.alloc (.mapIter (some mm) clock #[] clock)).heap.size = w1.heap.size + 1 := by simp
  generalize w1.alloc (.mapIter (some mm) clock #[] clock) = w2 at *
  have h2 := h1.nos m2
  have e0 : P.ons.filterMap (flG fun n => ([] : List Nat).contains n) = P.ons := by
    have : P.ons.filterMap (flG fun n => ([] : List Nat).contains n) = P.ons.filterMap some := fmap_congr fun o _ => rfl
    rw [this, List.filterMap_some]
  refine ⟨fun _ w3 => ∃ vis R3 rl3 Lo3 C3 Es3 seen, FlI w0 R w w1.heap.size sp c d mo mm ca oa clock P w3 vis R3 rl3 Lo3 C3 Es3 seen, fun _ w3 => togo mm w1.heap.size w3,
    ⟨[], Gro R w w1, rl1, Lo, { P.C with D := flSt P.C.D }, Es, [], ?_⟩, ?_⟩
  · exact {
      pin := by rw [e0, g2]; exact h2
      gro := fun z hz => by
        rcases hz with hz | hz
        · exact .inl hz
        · exact .inr (by omega)
      nr := fun hz => by
        rcases hz with hz | hz
        · have := hlo _ hz; omega
        · omega
      M := M1.no m2
      D := rfl
      most := rfl
      l := by
        show P.C.l = _
        conv => lhs; rw [← List.map_id P.C.l]
        apply List.map_congr_left
        intro z _
        show z = fC P [] z
        unfold fC
        rw [if_neg]
        rw [List.any_eq_true]
        rintro ⟨o, _, e⟩
        simp at e
      ran := hR2
      vis_ := fun e _ => by simp }
  rintro x w3 ⟨vis, R3, rl3, Lo3, C3, Es3, seen, I⟩
  have hz3 := I.M.size
  have hrl3 : w1.heap.size < w3.heap.size := lt_of_heap I.ran.iter
  rcases I.ran.next (P := Tryz.prog) (ty := 0) with ⟨hall, hrun⟩ | ⟨e, he, hns, w4, hrun, hent, hR4, m4, hlt⟩
  · refine ⟨_, _, hrun, false, fun _ => rfl, ff rfl ?_⟩
    exact hk w3 C3 I.M (I.done hall hP0) I.D I.most
  obtain ⟨o, ho, ho3, ek, hnv, ev⟩ := I.on he hns
  rw [ek, ev] at hrun hent
  refine ⟨_, w4, hrun, true, fun _ => rfl, tt rfl ⟨_, hent, _, fun _ => rfl, _, fun _ => rfl, ?_⟩⟩
  -- the parts at w4
  have hrr : rl3 w1.heap.size = 0 := by
    by_cases e : rl3 w1.heap.size = 0
    · exact e
    · exact absurd (I.pin.reg _ e) I.nr
  have h4 := I.pin.keepS m4 (fun z hz e => I.nr (by rw [← show z = w1.heap.size from e]; exact hz)) fun z hz e => by have e : z = w1.heap.size := e; omega
  have hz4 := m4.size
  have hoa := fun x hx => on_all (P := ⟨C3, P.last, P.ons.filterMap (flG fun n => vis.contains n)⟩) ho3 (x := x) hx
  have hbl := h4.wf.base o ho3
  refine with_c h4 ho3 (f := (·.out)) (tells_flush h4 hoa fun _ _ _ hh => by apply C_patch_Store_Flush_1; exact hh) fun w5 g cc m5 hg hat => ⟨_, _, _, rfl, _, rfl, ?_⟩
  have h5 := h4.nos m5
  have hz5 := m5.size
  obtain ⟨k1, k2, g9, cc9, la, lc, c1, c2, c3, c4, c5⟩ := h5.ons o ho3
  have hrmo := h5.rmo
  have hrmm := h5.rmm
  have hout4 : ∀ {z}, w4.heap.size ≤ z → rl3 z = 0 := fun hz => h4.out_of hz
  have hlast := h5.wf.last
  have hlen := h5.wf.llen o ho3
  obtain ⟨w6, u1, u2, u3, u4⟩ := c1.store (P := Tryz.prog) (T := 36) (i := 0) (v := .slice (some ⟨g, 0, none⟩) 256 cc) (by kernel_rfl) (by simp) rfl
  have u2 : AtU w6 (oa o.b) 0 [.slice (some ⟨g, 0, none⟩) 256 cc, .slice la o.l.length lc] := by simpa using u2
  have hnoa : ∀ {z}, rl3 z ≠ 8 + 3 * o.b → z ≠ oa o.b := fun hz e => hz (by rw [e]; exact k2)
  have hnmo : ∀ {z}, rl3 z ≠ 3 → z ≠ mo := fun hz e => hz (by rw [e]; exact hrmo)
  have hnmm : ∀ {z}, rl3 z ≠ 4 → z ≠ mm := fun hz e => hz (by rw [e]; exact hrmm)
  have hlaS : ∀ {z}, rl3 z ≠ 9 + 3 * o.b → ¬ Of la z := fun hz ⟨q, hq, e⟩ => hz (by rw [e]; exact c5 q hq)
  have r6 : Own Tryz.prog w6 w0.heap.size 178 1 la o.l.length lc (pL (o.l.map fun x => ca x.id)) := c4.keep u3 fun q hq => hnoa (by rw [c5 q hq]; omega)
  have hat6 := hat.keep u3 (hnoa (by rw [hout4 hg]; omega))
  refine ⟨w6, by rw [add_none]; exact u1, _, rfl, la, _, lc, by rw [add_none]; exact u2.at.load (by kernel_rfl) rfl, ?_⟩
  have hz6 := u3.size
  have hcut3 : cutO Lo3 (o.l.take 0) = Lo3 := by rw [List.take_zero]; exact cutO_nil _
  refine ⟨fun x w7 => ∃ i : Nat, i ≤ o.l.length ∧ x = [.int .i64 i] ∧ MapAt w7 mo (cutO Lo3 (o.l.take i)) ∧ Mod (fun z => z = mo) w6 w7, fun x _ => (o.l.length - nI x 0).toNat, ⟨0, by omega, rfl, by rw [hcut3]; exact h5.mapO.keep u3 (hnoa (by rw [hrmo]; omega)), Mod.refl _ _⟩, ?_⟩
  rintro x w7 ⟨i, hi, rfl, mp7, M7⟩
  refine ⟨_, rfl, cond_of (fun hb => ?_) (fun hb => ?_)⟩
  · have hi : i < o.l.length := by have := of_decide_eq_true hb; omega
    have hxm := List.getElem_mem hi
    have hxa := hoa _ hxm
    have hr7 : Row w7 la (pL (o.l.map fun x => ca x.id)) := (r6.keep M7 fun q hq => hnmo (by rw [c5 q hq]; omega)).rowU.row
    obtain ⟨b3, o3, hla, hat3⟩ := row_someP hr7 (i := i) (by simp; exact hi)
    subst hla
    have hld := hat3.load (P := Tryz.prog) (T := 181) (by kernel_rfl) (pL_get (i := i) (by simp; exact hi))
    rw [List.getElem_map] at hld
    refine ⟨_, index_slice (k := 1) (by kernel_rfl) (by omega) (by omega), ?_⟩
    rw [add_none, show (i : Int).toNat * 1 = i by omega]
    obtain ⟨ch1, ch2, ch3⟩ := h5.chs _ hxa
    have ch7 := (ch3.keep u3 (hnoa (by rw [ch2]; omega)) fun z hz => hnoa (by rw [hz]; omega)).keep M7 (hnmo (by rw [ch2]; omega)) fun z hz => hnmo (by rw [hz]; omega)
    refine ⟨_, hld, _, rfl, _, ch7.ld (j := 5) (by kernel_rfl) (fun _ _ _ _ => rfl), ?_⟩
    have hcs := cutO_snoc Lo3 (o.l.take i) o.l[i]
    rw [← List.take_succ_eq_append_getElem hi] at hcs
    refine Share.cut (fun _ w9 => MapAt w9 mo (cutO Lo3 (o.l.take (i + 1))) ∧ Mod (fun z => z = mo) w6 w9) (cond_of (fun hf => ?_) (fun hf => ?_)) ?_
    · have md : Mod No w7 (Go.Den.drew w7) := (Mod.refl No w7).drew
      have ch7d := ch7.keep md id fun _ _ => id
      have hc7 : AtU w7 sp 0 [.pointer (some ⟨c, 0, none⟩), .int .i64 C3.D.vs.length, .int .i64 P.last, .map (some mo), .map (some mm)] := (h5.cell.keep u3 (hnoa (by rw [h5.rsp]; omega))).keep M7 (hnmo (by rw [h5.rsp]; omega))
      obtain ⟨w8, v1, v2, v3, v4⟩ := delete_run (P := Tryz.prog) (T := 154) (T2 := 2) (ty := 0) (k := (o.l[i].id : Int)) mapOpen (mp7.keep md id)
      refine ⟨_, rfl, _, by rw [add_none]; exact (hc7.keep md id).at.load (by kernel_rfl) rfl, _, rfl, _, ch7d.ld (j := 0) (by kernel_rfl) (fun _ _ _ _ => rfl), w8, v1, ?_, (M7.no md).trans v3 fun _ _ e => e⟩
      rw [hcs, if_pos hf]; exact v2
    · rw [hcs, if_neg (by rw [hf]; simp)]; exact ⟨mp7, M7⟩
    · rintro z w9 ⟨mp9, M9⟩
      rw [wrap64 (x := (i : Int) + 1) (by omega) (by omega)]
      exact ⟨⟨i + 1, by omega, rfl, mp9, M9⟩, by simp [nI, nth]; omega⟩
  have hil : i = o.l.length := by have := of_decide_eq_false hb; omega
  subst hil
  rw [List.take_length] at mp7
  have a7 := u2.keep M7 (hnmo (by rw [k2]; omega))
  have r7 := r6.keep M7 fun q hq => hnmo (by rw [c5 q hq]; omega)
  have hz7 := M7.size
  refine ⟨_, rfl, la, _, lc, by rw [add_none]; exact a7.at.load (by kernel_rfl) rfl, ?_⟩
  have hT5 : TellsP (.func (.func F_patch_Store_Flush_2) #[] #[]) w5 (fun z => z = mo ∨ z = oa o.b ∨ rl3 z = 9 + 3 * o.b) (pOf ca (·.out) o.l) (o.l.map fun x => ca x.id) :=
    tells_flush2 h5 hoa (fun x hx e => by
      have := (h5.chs x (hoa x hx)).2.1
      rcases e with e | e | e
      · rw [e, hrmo] at this; omega
      · rw [e, k2] at this; omega
      · omega) (fun z hz e => by
      rcases e with e | e | e
      · rw [e, hrmo] at hz; omega
      · rw [e, k2] at hz; omega
      · omega) fun _ _ _ hh => by apply C_patch_Store_Flush_2; exact hh
  have hT7 : TellsP (.func (.func F_patch_Store_Flush_2) #[] #[]) w7 (Of la) (pOf ca (·.out) o.l) (o.l.map fun x => ca x.id) := fun w' k => hT5 w' (((u3.mono fun z _ e => .inr (.inl e)).trans M7 fun z _ e => .inl e).trans k fun z _ e => by
    obtain ⟨q, hq, e⟩ := e
    exact .inr (.inr (by rw [e]; exact c5 q hq)))
  refine DeleteFuncP_c r7 (by omega) hT7 fun w10 l' o10 hl' m10 => ⟨_, _, _, rfl, _, rfl, ?_⟩
  have hfm := filter_map_ca (ca := ca) (l := o.l) (p := pOf ca (·.out) o.l) fun x hx => h5.pOf hoa hx
  rw [hfm] at o10 hl'
  rw [List.length_map] at hl'
  have a10 := a7.keep m10 (hlaS (by rw [k2]; omega))
  obtain ⟨w11, v1, v2, v3, v4⟩ := a10.store (P := Tryz.prog) (T := 178) (i := 1) (v := .slice la l' lc) (by kernel_rfl) (by simp) rfl
  have v2 : AtU w11 (oa o.b) 0 [.slice (some ⟨g, 0, none⟩) 256 cc, .slice la l' lc] := by simpa using v2
  refine ⟨w11, by rw [add_none]; exact v1, _, rfl, la, l', lc, by rw [add_none]; exact v2.at.load (by kernel_rfl) rfl, ?_⟩
  have hz10 := m10.size
  have hz11 := v3.size
  -- from w4 to w11
  have M11 : Mod (fun z => z = mo ∨ z = oa o.b ∨ rl3 z = 9 + 3 * o.b ∨ z = mm) w4 w11 :=
    (((m5.anys.trans u3 fun z _ e => .inr (.inl e)).trans M7 fun z _ e => .inl e).trans m10 fun z _ ⟨q, hq, e⟩ => .inr (.inr (.inl (by rw [e]; exact c5 q hq)))).trans v3 fun z _ e => .inr (.inl e)
  have mp11 : MapAt w11 mo (cutO Lo3 o.l) := (mp7.keep m10 (hlaS (by rw [hrmo]; omega))).keep v3 (hnoa (by rw [hrmo]; omega))
  have o11 : Own Tryz.prog w11 w0.heap.size 178 1 la l' lc (pL ((o.l.filter fun x => !x.out).map fun x => ca x.id)) := o10.keep v3 fun q hq => hnoa (by rw [c5 q hq]; omega)
  have g11 : At w11 g 0 (u8L (withL o.base (o.l.filter (·.out)))) := (((hat6.keep M7 (hnmo (by rw [hout4 hg]; omega))).keep m10 (hlaS (by rw [hout4 hg]; omega))).keep v3 (hnoa (by rw [hout4 hg]; omega))).at
  have hgl := g11.lt
  have hrS : ∀ {z : Nat}, rl3 z = 0 → ¬ (z = mo ∨ z = oa o.b ∨ rl3 z = 9 + 3 * o.b) := fun hz e => by
    rcases e with e | e | e
    · rw [e, hrmo] at hz; omega
    · rw [e, k2] at hz; omega
    · omega
  have hmmS : ¬ (mm = mo ∨ mm = oa o.b ∨ rl3 mm = 9 + 3 * o.b) := fun e => by
    rcases e with e | e | e
    · rw [e, hrmo] at hrmm; omega
    · rw [e, k2] at hrmm; omega
    · omega
  have M11' : Mod (fun z => z = mo ∨ z = oa o.b ∨ rl3 z = 9 + 3 * o.b) w4 w11 :=
    (((m5.anys.trans u3 fun z _ e => .inr (.inl e)).trans M7 fun z _ e => .inl e).trans m10 fun z _ ⟨q, hq, e⟩ => .inr (.inr (by rw [e]; exact c5 q hq))).trans v3 fun z _ e => .inr (.inl e)
  have hR11 := hR4.keep M11' (hrS hrr) hmmS
  have hvis' : ∀ e' ∈ Es3, (e'.2.2 ∈ seen ++ [e.2.2] ↔ ∃ b ∈ vis ++ [o.b], e'.1 = ((b : Nat) : Int)) := fun e' he' => by
    constructor
    · intro hm
      rcases List.mem_append.1 hm with hm | hm
      · obtain ⟨b, hb, e2⟩ := (I.vis_ e' he').1 hm
        exact ⟨b, List.mem_append.2 (.inl hb), e2⟩
      · have : e'.2.2 = e.2.2 := by simpa using hm
        rw [born_eq I.ran.all he' he this]
        exact ⟨o.b, by simp, ek⟩
    · rintro ⟨b, hb, e2⟩
      rcases List.mem_append.1 hb with hb | hb
      · exact List.mem_append.2 (.inl ((I.vis_ e' he').2 ⟨b, hb, e2⟩))
      · have hb : b = o.b := by simpa using hb
        have : e' = e := map_inj I.ran.keys he' he (by rw [e2, ek, hb])
        rw [this]; simp
  have hR3M : ∀ {z}, z < w.heap.size → rl3 z ≠ 0 → R z := fun {z} hz hn => by
    rcases I.gro z (I.pin.reg z hn) with e | e
    · exact e
    · omega
  have MR4 : Mod R w w4 := I.M.trans m4 fun z hz e => by have e : z = w1.heap.size := e; omega
  have MR11 : Mod R w w11 := MR4.trans M11' fun z hz e => hR3M hz (fun e0 => hrS e0 e)
  have hG : ∀ w', w4.heap.size ≤ w'.heap.size → ∀ z, Gro R3 w4 w' z → Gro R w w' z := fun w' hw z hz => by
    rcases hz with hz | hz
    · rcases I.gro z hz with e | e
      · exact .inl e
      · exact .inr (by omega)
    · exact .inr (by omega)
  have hnr : ∀ w', ¬ Gro R3 w4 w' w1.heap.size := fun w' hz => by
    rcases hz with hz | hz
    · exact I.nr hz
    · omega
  refine Share.dup (cond_of (fun hl0 => ?_) (fun hl0 => ?_))
  · -- none is left
    have hl0 : l' = 0 := by
      have : (l' : Int) = 0 := by simpa using hl0
      omega
    have hfn : flOn o = none := by
      cases hf : flOn o with
      | none => rfl
      | some o' => exact absurd (by rw [← hl', hl0]) (flOn_some (o := o) (by rw [hf]; simp))
    have hc11 : AtU w11 sp 0 [.pointer (some ⟨c, 0, none⟩), .int .i64 C3.D.vs.length, .int .i64 P.last, .map (some mo), .map (some mm)] := h4.cell.keep M11' (fun e => by
      have hsp := h4.rsp
      rcases e with e | e | e
      · rw [e, hrmo] at hsp; omega
      · rw [e, k2] at hsp; omega
      · omega)
    obtain ⟨w12, d1, d2, d3, d4⟩ := hR11.del (P := Tryz.prog) (T := 155) (T2 := 3) (ty := 0) (k := (o.b : Int)) mapOns
    refine ⟨_, rfl, _, by rw [add_none]; exact hc11.at.load (by kernel_rfl) rfl, w12, d1, ?_⟩
    have hz12 := d3.size
    have hkv : (Es3.filter fun e => !decide (e.1 = (o.b : Int))).map kv = delL (o.b : Int) (Es3.map kv) := by
      unfold delL; rw [List.filter_map]; rfl
    have h12 := h4.flS (w' := w12) (b := o.b) (g := g) (cc := cc) (l' := l') (lc := lc) (la := la) (Lm' := delL (o.b : Int) (Es3.map kv)) ho3 rfl (M11.trans d3 fun z _ e => .inr (.inr (.inr e))) (fun _ e => e) ⟨hg, by omega⟩
      (mp11.keep d3 (hnmm (by rw [hrmo]; omega))) (by rw [← hkv]; exact d2.at) (fun n hn => by rw [look_del, if_neg hn]) (fun p hp => (del_mem.1 hp).1) (fun _ p hp => (del_mem.1 hp).2) (fun hne => absurd hfn hne)
    rw [ons_more P.ons vis hnv, ← hkv] at h12
    refine ⟨_, rfl, _, h12.lc, ?_⟩
    -- the pin
    obtain ⟨x, hx, x1, x2, x3⟩ := hw.pin o ho
    have hfx : fC P vis x = x := by
      unfold fC
      rw [if_neg]
      rw [List.any_eq_true]
      rintro ⟨p, hp, e⟩
      simp only [Bool.and_eq_true, decide_eq_true_eq] at e
      apply hnv
      have : p.b = o.b := by omega
      rw [← this]; simpa using e.1.2
    have hx3 : x ∈ C3.l := by rw [I.l]; exact List.mem_map.2 ⟨x, hx, hfx⟩
    have hn := h.cx.wf.1.nodup
    have hn3 := I.pin.cx.wf.1.nodup
    have hheld : heldC C3 (o.b : Int) = some x := by
      unfold heldC
      rw [if_neg (by omega), Int.toNat_natCast]
      have := findB_mem hn3 hx3
      rw [x1] at this; exact this
    have hun : unpinX C3 (o.b : Int) = ({ C3 with l := P.C.l.map (fC P (vis ++ [o.b])) }, 0) := by
      unfold unpinX
      rw [hheld]
      simp only
      rw [if_neg (by omega), x2]
      have := fC_cut (vis := vis) h.wf hn ho hfn hx x1
      rw [I.l]
      show (({ C3 with l := turn (P.C.l.map (fC P vis)) { x with pins := 0 } } : Ca), (0 : Int)) = _
      rw [this]
    refine cUnpin_c (n := (o.b : Int)) h12.cx fun w13 m13 x13 => ⟨_, rfl, ?_⟩
    have x13 : Cx w0 (Gro (fun z => ro rl3 g 5 z = 1) w12 w13) w13 c d (unpinX C3 (o.b : Int)).1 := x13
    rw [hun] at x13
    obtain ⟨rl13, h13, hr13⟩ := h12.cache m13 (Mod.refl _ _) x13 rfl rfl
    have hz13 := m13.size
    have hro1 : ∀ {z}, ro rl3 g 5 z = 1 → rl3 z = 1 := fun {z} e => by
      by_cases e1 : z = g
      · subst e1; rw [ro_same] at e; omega
      · rw [ro_ne _ e1] at e; exact e
    have hR13 := d2.keep m13 (fun e => by have := hro1 e; omega) (fun e => by have := hro1 e; omega)
    refine ⟨⟨vis ++ [o.b], Gro (Gro R3 w4 w12) w12 w13, rl13, _, _, _, _, {
      pin := h13
      gro := fun z hz => by
        rcases hz with hz | hz
        · rcases hG w12 (by omega) z hz with e | e
          · exact .inl e
          · exact .inr (by omega)
        · exact .inr (by omega)
      nr := fun hz => by
        rcases hz with hz | hz
        · exact hnr w12 hz
        · omega
      M := (MR11.trans d3 fun z hz e => hR3M hz (by rw [show z = mm from e, hrmm]; omega)).trans m13 fun z hz e => hR3M hz (by have := hro1 e; omega)
      D := I.D
      most := I.most
      l := rfl
      ran := hR13
      vis_ := fun e' he' => hvis' e' (List.mem_filter.1 he').1 }⟩, ?_⟩
    · show togo mm w1.heap.size w13 < togo mm w1.heap.size w3
      have e1 : togo mm w1.heap.size w13 = togo mm w1.heap.size w12 := by rw [hR13.togo, d2.togo]
      have e2 : togo mm w1.heap.size w11 = togo mm w1.heap.size w4 := by rw [hR11.togo, hR4.togo]
      omega
  · -- some are left
    have hl0 : l' ≠ 0 := fun e => by rw [e] at hl0; simp at hl0
    have hfn : flOn o ≠ none := fun hf => hl0 (by rw [hl', flOn_none hf])
    have h11 := h4.flS (w' := w11) (b := o.b) (g := g) (cc := cc) (l' := l') (lc := lc) (la := la) (Lm' := Es3.map kv) ho3 rfl M11 (fun _ e => e) ⟨hg, by omega⟩
      mp11 hR11.at (fun _ _ => rfl) (fun _ hp => hp) (fun hf => absurd hf hfn) (fun _ => ⟨rfl, v2, g11, hl', o11, c5⟩)
    rw [ons_more P.ons vis hnv] at h11
    refine ⟨⟨vis ++ [o.b], Gro R3 w4 w11, ro rl3 g 5, _, C3, Es3, _, {
      pin := h11
      gro := hG w11 (by omega)
      nr := hnr w11
      M := MR11
      D := I.D
      most := I.most
      l := by rw [I.l]; exact List.map_congr_left fun z _ => (fC_skip h.wf ho hnv hfn z).symm
      ran := hR11
      vis_ := hvis' }⟩, ?_⟩
    · show togo mm w1.heap.size w11 < togo mm w1.heap.size w3
      have e2 : togo mm w1.heap.size w11 = togo mm w1.heap.size w4 := by rw [hR11.togo, hR4.togo]
      omega
end
end Go.Proofs.YtocjjigmpgekfaaGreat

/- Layer 11, the program's store: its calls, whatever its cache holds. -/
open Go Go.Den Go.Proofs
namespace Go.Den
end Go.Den
namespace Go.Proofs.YtocjjigmpgekfaaGreat
section
variable {w0 w w' : World} {R R' : Nat → Prop} {rl : Nat → Nat} {sp c d mo mm : Nat} {ca oa : Nat → Nat} {Lo Lm : List (Int × Value)} {P V : Ps} {K : Value → World → Prop}
theorem newX_C {C : Ca} {b f : Nat} {data : Bk} {after : List Int} : newX ⟨C, V.last, V.ons⟩ b f data after = newX V b f data after := rfl
theorem patE_C {C : Ca} {n f : Int} {data : Bk} {after : List Int} (e : C.D = V.C.D) : patE ⟨C, V.last, V.ons⟩ n f data after = patE V n f data after := by
  unfold patE
  show (if errOf C.D n ≠ 0 then (3 : Int) else _) = _
  rw [e]; rfl
theorem patS_C {C : Ca} {n f : Int} {data : Bk} {after : List Int} (e : C.D = V.C.D) : (patS ⟨C, V.last, V.ons⟩ n f data after).last = (patS V n f data after).last ∧ (patS ⟨C, V.last, V.ons⟩ n f data after).ons = (patS V n f data after).ons ∧ (patS V n f data after).C = V.C := by
  unfold patS
  rw [patE_C e, newX_C]
  by_cases h : patE V n f data after = 0
  · rw [if_pos h, if_pos h]
    refine ⟨rfl, ?_, (newO_C (V := V)).1⟩
    show (newO ⟨C, V.last, V.ons⟩ _).ons.map _ = (newO V _).ons.map _
    rw [newO_ons e]
  · rw [if_neg h, if_neg h]; exact ⟨rfl, rfl, rfl⟩
theorem patN_C {C : Ca} {n f : Int} {data : Bk} {after : List Int} (e : C.D = V.C.D) : patN ⟨C, V.last, V.ons⟩ n f data after = patN V n f data after := by unfold patN; rw [patE_C e]
theorem qPatch_c {n frm : Int} {a3 a4 : Option Addr} {l3 c3 l4 c4 : Nat} {data : Bk} {after : List Int} (hP : Pz w0 R w sp d V) (hlast : V.last + 1 ≤ 1000000) (hd : data.length = l3) (hrd : Row w a3 (u8L data)) (hdo : data ≠ [] → ∀ q, a3 = some q → ¬ R q.block) (h63 : l3 ≤ 9223372036854775807)
    (ha : after.length = l4) (ha6 : l4 ≤ 1000000) (hra : Row w a4 (iL after)) (hao : after ≠ [] → ∀ q, a4 = some q → ¬ R q.block)
    (hk : ∀ w', Mod R w w' → Pz w0 (Gro R w w') w' sp d (patS V n frm data after) → K (.tuple #[.int .i64 (patN V n frm data after), .int .i64 (patE V n frm data after)]) w') :
    Cal Tryz.prog F_patch_Store_Patch #[.pointer (some ⟨sp, 0, none⟩), .int .i64 n, .int .i64 frm, .slice a3 l3 c3, .slice a4 l4 c4] w K := by
  obtain ⟨C, eD, eM, hP⟩ := hP
  refine pPatch_c (n := n) (frm := frm) hP hlast hd hrd hdo h63 ha ha6 hra hao fun w' C' M h e1 e2 => ?_
  obtain ⟨p1, p2, p3⟩ := patS_C (V := V) (C := C) (n := n) (f := frm) (data := data) (after := after) eD
  rw [patN_C eD, patE_C eD]
  refine hk w' M ⟨C', ?_, ?_, ?_⟩
  · rw [p3, e1]; exact eD
  · rw [p3, e2]; exact eM
  · rw [← p1, ← p2]; exact h
theorem wrVE_C {C : Ca} {n : Int} (e : C.D = V.C.D) : wrVE ⟨C, V.last, V.ons⟩ n = wrVE V n := by
  unfold wrVE
  show (if errOf C.D n ≠ 0 then (3 : Int) else _) = _
  rw [e]; rfl
theorem wrV_C {C : Ca} {n : Int} (e : C.D = V.C.D) : (wrV ⟨C, V.last, V.ons⟩ n).last = (wrV V n).last ∧ (wrV ⟨C, V.last, V.ons⟩ n).ons = (wrV V n).ons ∧ (wrV ⟨C, V.last, V.ons⟩ n).C.D = (wrV V n).C.D ∧ (wrV V n).C.most = V.C.most := by
  unfold wrV
  rw [wrVE_C e, imgB_C e]
  by_cases h : wrVE V n = 0
  · rw [if_pos h, if_pos h]
    refine ⟨rfl, rfl, ?_, rfl⟩
    show wrSt C.D n _ = wrSt V.C.D n _
    rw [e]
  · rw [if_neg h, if_neg h]; exact ⟨rfl, rfl, e, rfl⟩
theorem qWrite_c {n : Int} (hP : Pz w0 R w sp d V) (hb9 : ∀ v ∈ V.C.D.vs, v.length ≤ 999999) (hk : ∀ w', Mod R w w' → Pz w0 (Gro R w w') w' sp d (wrV V n) → K (.int .i64 (wrVE V n)) w') :
    Cal Tryz.prog F_patch_Store_Write #[.pointer (some ⟨sp, 0, none⟩), .int .i64 n] w K := by
  obtain ⟨C, eD, eM, hP⟩ := hP
  refine pWrite_c (n := n) hP (by show ∀ v ∈ C.D.vs, _; rw [eD]; exact hb9) fun w' C' M h e1 e2 => ?_
  obtain ⟨p1, p2, p3, p4⟩ := wrV_C (V := V) (C := C) (n := n) eD
  rw [wrVE_C eD]
  refine hk w' M ⟨C', ?_, ?_, ?_⟩
  · rw [e1, p3]
  · rw [p4, e2]; exact eM
  · rw [← p1, ← p2]; exact h
theorem qFlush_c (hP : Pz w0 R w sp d V) (hk : ∀ w', Mod R w w' → Pz w0 (Gro R w w') w' sp d (flV V) → K (.int .i64 0) w') : Cal Tryz.prog F_patch_Store_Flush #[.pointer (some ⟨sp, 0, none⟩)] w K := by
  obtain ⟨C, eD, eM, hP⟩ := hP
  refine pFlush_c hP fun w' C' M h e1 e2 => hk w' M ⟨C', ?_, ?_, h⟩
  · rw [e1]; show flSt C.D = flSt V.C.D; rw [eD]
  · rw [e2]; exact eM
def safeV (V : Ps) (n : Int) : Bool := decide (1 ≤ n ∧ n ≤ (V.last : Int)) && !V.opn n
theorem qSafe_c {n : Int} (hP : Pz w0 R w sp d V) (hk : K (.bool (safeV V n)) w) : Cal Tryz.prog F_patch_Store_Safe #[.pointer (some ⟨sp, 0, none⟩), .int .i64 n] w K := by
  obtain ⟨C, eD, eM, hw, rl, c, mo, mm, ca, oa, Lo, Lm, h⟩ := hP
  apply C_patch_Store_Safe
  unfold D_patch_Store_Safe
  obtain ⟨p, hp, hpn, _⟩ := h.lookO n
  refine Share.cut (fun x w' => w = w' ∧ x = [.bool (safeV V n)]) (tt rfl (given_c h ⟨_, rfl, cond_of (fun hb => ?_) (fun hb => ?_)⟩)) ?_
  · refine ⟨_, rfl, _, h.lo', p, hp, rfl, ?_⟩
    unfold safeV
    rw [show decide (1 ≤ n ∧ n ≤ (V.last : Int)) = true from hb, Bool.true_and]
    have : p.isNone = !V.opn n := hpn
    rw [this]
  · refine ⟨rfl, ?_⟩
    unfold safeV
    rw [show decide (1 ≤ n ∧ n ≤ (V.last : Int)) = false from hb, Bool.false_and]
  · rintro x w' ⟨rfl, rfl⟩
    exact ⟨_, rfl, hk⟩
def openV (V : Ps) : Nat := V.all.length
def readyV (V : Ps) (n : Int) : Nat := match onOf V n with | some o => (o.l.filter fun x => (mayL V.opn o.l).contains (x.id : Int) && !x.out).length | none => 0
set_option maxRecDepth 100000 in
theorem qReady_c {n : Int} (hP : Pz w0 R w sp d V) (hk : ∀ w', Mod No w w' → K (.int .i64 (readyV V n)) w') : Cal Tryz.prog F_patch_Store_Ready #[.pointer (some ⟨sp, 0, none⟩), .int .i64 n] w K := by
  obtain ⟨C, eD, eM, hw, rl, c, mo, mm, ca, oa, Lo, Lm, h⟩ := hP
  apply C_patch_Store_Ready
  unfold D_patch_Store_Ready
  have hlk := h.lookM n
  refine Share.dup (ff rfl ⟨_, rfl, _, h.lm, _, hlk, ?_⟩)
  cases ho : onOf V n with
  | none =>
    have ho' : onOf (⟨C, V.last, V.ons⟩ : Ps) n = none := ho
    rw [ho']
    refine ⟨_, rfl, tt rfl ?_⟩
    have := hk w (Mod.refl _ _)
    unfold readyV at this
    rw [ho] at this; exact this
  | some o =>
    have ho' : onOf (⟨C, V.last, V.ons⟩ : Ps) n = some o := ho
    rw [ho'] at hlk ⊢
    obtain ⟨hom, hob⟩ := onOf_some ho
    refine ⟨_, rfl, ff rfl ⟨_, rfl, _, h.lm, _, hlk, may11_c h hom fun w2 m m2 hm hmp => ⟨_, rfl, _, rfl, ?_⟩⟩⟩
    have h2 := h.nos m2
    have hlk2 := h2.lookM n
    rw [ho'] at hlk2
    obtain ⟨la, lc, l1, l2, l3, l4⟩ := (h2.ons o hom).2.2.ldL
    refine ⟨_, h2.lm, _, hlk2, _, rfl, la, _, lc, l1, ?_⟩
    have hlast := h.wf.last
    have hlen := h.wf.llen o hom
    have hoa := fun x hx => on_all (P := ⟨C, V.last, V.ons⟩) hom (x := x) hx
    have hop : Ps.opn ⟨C, V.last, V.ons⟩ = V.opn := rfl
    rw [hop] at hmp
    refine ⟨fun x w3 => w2 = w3 ∧ ∃ (i : Nat) (y : Value), i ≤ o.l.length ∧ x = [.int .i64 (((o.l.take i).filter fun x => (mayL V.opn o.l).contains (x.id : Int) && !x.out).length : Nat), .int .i64 i, y], fun x _ => (o.l.length - nI x 1).toNat, ⟨rfl, 0, _, by omega, rfl⟩, ?_⟩
    rintro x w3 ⟨rfl, i, y, hi, rfl⟩
    refine ⟨_, rfl, cond_of (fun hb => ?_) (fun hb => ?_)⟩
    · have hi : i < o.l.length := by have := of_decide_eq_true hb; omega
      have hxm := List.getElem_mem hi
      obtain ⟨b3, o3, hla, hat3⟩ := row_someP l2 (i := i) (by simp; exact hi)
      subst hla
      have hld := hat3.load (P := Tryz.prog) (T := 181) (by kernel_rfl) (pL_get (i := i) (by simp; exact hi))
      rw [List.getElem_map] at hld
      refine ⟨_, index_slice (k := 1) (by kernel_rfl) (by omega) (by omega), ?_⟩
      rw [add_none, show (i : Int).toNat * 1 = i by omega]
      have hc := (h2.chs _ (hoa _ hxm)).2.2
      have hfl : ((o.l.take i).filter fun x => (mayL V.opn o.l).contains (x.id : Int) && !x.out).length ≤ i := by
        have := List.length_filter_le (fun x : Ch => (mayL V.opn o.l).contains (x.id : Int) && !x.out) (o.l.take i)
        rw [List.length_take] at this; omega
      have hsucc : ((o.l.take (i + 1)).filter fun x => (mayL V.opn o.l).contains (x.id : Int) && !x.out).length = ((o.l.take i).filter fun x => (mayL V.opn o.l).contains (x.id : Int) && !x.out).length + if ((mayL V.opn o.l).contains (o.l[i].id : Int) && !o.l[i].out) = true then 1 else 0 := by
        rw [List.take_succ_eq_append_getElem hi, List.filter_append, List.length_append]
        congr 1
        cases hf : ((mayL V.opn o.l).contains (o.l[i].id : Int) && !o.l[i].out) <;> simp only [List.filter, hf] <;> rfl
      refine ⟨_, hld, Share.cut (fun z w4 => w2 = w4 ∧ z = [.bool ((mayL V.opn o.l).contains (o.l[i].id : Int) && !o.l[i].out)]) ⟨_, rfl, _, hc.ld (j := 0) (by kernel_rfl) (fun _ _ _ _ => rfl), _, lookOk hmp _, cond_of (fun hb => ?_) (fun hb => ?_)⟩ ?_⟩
      · refine ⟨_, rfl, _, hc.ld (j := 5) (by kernel_rfl) (fun _ _ _ _ => rfl), rfl, ?_⟩
        rw [hb, Bool.true_and]
      · rw [hb, Bool.false_and]; exact ⟨rfl, rfl⟩
      rintro z w4 ⟨rfl, rfl⟩
      refine ⟨_, rfl, Share.cut (fun z w5 => w2 = w5 ∧ z = [.int .i64 (((o.l.take (i + 1)).filter fun x => (mayL V.opn o.l).contains (x.id : Int) && !x.out).length : Nat)]) (cond_of (fun hb => ?_) (fun hb => ?_)) ?_⟩
      · refine ⟨_, rfl, rfl, ?_⟩
        rw [hsucc, if_pos hb, wrap64 (by omega) (by omega)]
        rfl
      · rw [hsucc, if_neg (by rw [hb]; simp)]
        exact ⟨rfl, rfl⟩
      · rintro z w5 ⟨rfl, rfl⟩
        rw [wrap64 (x := (i : Int) + 1) (by omega) (by omega)]
        exact ⟨⟨rfl, i + 1, _, by omega, rfl⟩, by simp [nI, nth]; omega⟩
    · have hil : i = o.l.length := by have := of_decide_eq_false hb; omega
      subst hil
      refine ⟨_, rfl, ?_⟩
      rw [List.take_length]
      have := hk w2 m2
      unfold readyV at this
      rw [ho] at this; exact this
end
end Go.Proofs.YtocjjigmpgekfaaGreat

/- Layer 11: a new store, the fixed calls, and a store that is not there. -/
open Go Go.Den Go.Proofs
namespace Go.Proofs.YtocjjigmpgekfaaGreat
theorem build_store (w : World) (p : Option Addr) (n : Int) (m1 m2 : Option Nat) : (Instr.build 157 #[(0, .pointer p), (1, .int .i64 n), (3, .map m1), (4, .map m2)]).run Tryz.prog w = .ok (.agg ⟨[.pointer p, .int .i64 n, .int .i64 0, .map m1, .map m2]⟩) w := by kernel_rfl
theorem box_sto (w : World) (cs : List Value) : (Instr.box 157 (.agg ⟨cs⟩)).run Tryz.prog w = .ok (.pointer (some ⟨w.heap.size, 0, none⟩)) (w.alloc (.cells ⟨cs⟩ 157)) := rfl
def zeroV (k n : Nat) : Ps := ⟨⟨newSt k, n, []⟩, 0, []⟩
section
variable {w0 w w' : World} {R R' : Nat → Prop} {sp c d sb mb sc : Nat} {L : List (Int × Value)} {P V : Ps} {K : Value → World → Prop}
theorem Pz.mod (h : Pz w0 R w sp d V) : Mod No w0 w := by
  obtain ⟨C, _, _, h⟩ := h; exact h.wf.2.2.2.2.1
set_option maxRecDepth 100000 in
theorem qNew_c {D : St} {k : Nat} (hd : DiskIn w R d sb mb sc L D) (hsm : Small D) (hlo : ∀ x, R x → w0.heap.size ≤ x ∧ x < w.heap.size) (hm : Mod No w0 w) (hrun : D.left = -1) (h1 : 1 ≤ k) (h2 : k ≤ 4096) (hf : D.vs.length ≤ k)
    (hk : ∀ w' sp, Mod No w w' → Pz w0 (Gro R w w') w' sp d ⟨⟨D, k, []⟩, 0, []⟩ → K (.tuple #[.pointer (some ⟨sp, 0, none⟩), .int .i64 0]) w') : Cal Tryz.prog F_patch_Open #[.pointer (some ⟨d, 0, none⟩), .int .i64 k] w K := by
  classical
  apply C_patch_Open
  unfold D_patch_Open
  refine cNew_c (w0 := w0) hd hsm hlo hm (fun h => by omega) fun k' hk' _ _ w2 c m2 x2 => ⟨_, _, rfl, ff rfl ?_⟩
  have : k' = k := by omega
  subst this
  have hx2 := x2
  obtain ⟨rl, m, sb', mb', sc', lc', la', L', mp', hC⟩ := x2
  refine Len_c hC.disk ⟨_, rfl, _, _, makeMap_run, _, _, makeMap_run, _, fun w => build_store w _ _ _ _, _, _, box_sto _ _, ?_⟩
  have m3 : Mod No w2 (w2.alloc (.map #[] 0)) := (Mod.refl No w2).alloc _
  have p3 : MapAt (w2.alloc (.map #[] 0)) w2.heap.size [] := MapAt.new
  have s3 : (w2.alloc (.map #[] 0)).heap.size = w2.heap.size + 1 := by simp
  generalize w2.alloc (.map #[] 0) = w3 at *
  have m4 : Mod No w3 (w3.alloc (.map #[] 0)) := (Mod.refl No w3).alloc _
  have p4 : MapAt (w3.alloc (.map #[] 0)) w3.heap.size [] := MapAt.new
  have s4 : (w3.alloc (.map #[] 0)).heap.size = w3.heap.size + 1 := by simp
  generalize w3.alloc (.map #[] 0) = w4 at *
  have m5 : Mod No w4 (w4.alloc (.cells ⟨[.pointer (some ⟨c, 0, none⟩), .int .i64 D.vs.length, .int .i64 0, .map (some w2.heap.size), .map (some w3.heap.size)]⟩ 157)) := (Mod.refl No w4).alloc _
  have a5 : AtU (w4.alloc (.cells ⟨[.pointer (some ⟨c, 0, none⟩), .int .i64 D.vs.length, .int .i64 0, .map (some w2.heap.size), .map (some w3.heap.size)]⟩ 157)) w4.heap.size 0 [.pointer (some ⟨c, 0, none⟩), .int .i64 D.vs.length, .int .i64 0, .map (some w2.heap.size), .map (some w3.heap.size)] := AtU.new
  have s5 : (w4.alloc (.cells ⟨[.pointer (some ⟨c, 0, none⟩), .int .i64 D.vs.length, .int .i64 0, .map (some w2.heap.size), .map (some w3.heap.size)]⟩ 157)).heap.size = w4.heap.size + 1 := by simp
  generalize w4.alloc (.cells ⟨[.pointer (some ⟨c, 0, none⟩), .int .i64 D.vs.length, .int .i64 0, .map (some w2.heap.size), .map (some w3.heap.size)]⟩ 157) = w5 at *
  have M5 : Mod No w2 w5 := (m3.no m4).no m5
  have hz2 := m2.size
  have hw0 := hm.size
  have hG : ∀ x, Gro R w w2 x → w0.heap.size ≤ x ∧ x < w2.heap.size := fun x hx => by
    rcases hx with hx | hx
    · have := hlo x hx; omega
    · omega
  refine hk w5 w4.heap.size (m2.no M5) ⟨⟨D, k', []⟩, rfl, rfl, ?_, fun x => if x = w4.heap.size then 2 else if x = w2.heap.size then 3 else if x = w3.heap.size then 4 else if Gro R w w2 x then 1 else 0, c, w2.heap.size, w3.heap.size, fun _ => 0, fun _ => 0, [], [], ?_⟩
  · exact {
      lne := fun o ho => (by cases ho)
      pin := fun o ho => (by cases ho)
      unp := fun x hx => (by cases hx)
      run := hrun
      acc := fun o ho => (by cases ho)
      may := fun o ho => (by cases ho)
      cls := fun o ho => (by cases ho)
      afl := fun x hx => (by cases hx) }
  have e1 : (fun x => (if x = w4.heap.size then 2 else if x = w2.heap.size then 3 else if x = w3.heap.size then 4 else if Gro R w w2 x then 1 else 0) = 1) = Gro R w w2 := by
    funext x
    apply propext
    constructor
    · intro e
      by_cases h1 : x = w4.heap.size
      · rw [if_pos h1] at e; omega
      · rw [if_neg h1] at e
        by_cases h2 : x = w2.heap.size
        · rw [if_pos h2] at e; omega
        · rw [if_neg h2] at e
          by_cases h3 : x = w3.heap.size
          · rw [if_pos h3] at e; omega
          · rw [if_neg h3] at e
            by_cases h4 : Gro R w w2 x
            · exact h4
            · rw [if_neg h4] at e; omega
    · intro hx
      have := hG x hx
      rw [if_neg (by omega), if_neg (by omega), if_neg (by omega), if_pos hx]
  exact {
    cx := by rw [e1]; exact hx2.nos M5
    cell := a5
    mapO := (p3.keep m4 id).keep m5 id
    mapM := p4.keep m5 id
    rsp := if_pos rfl
    rmo := by rw [if_neg (by omega), if_pos rfl]
    rmm := by rw [if_neg (by omega), if_neg (by omega), if_pos rfl]
    chs := fun x hx => (by cases hx)
    ons := fun o ho => (by cases ho)
    keysO := fun p hp => (by cases hp)
    keysM := fun p hp => (by cases hp)
    wf := { full := hf, onsN := List.nodup_nil, onlt := fun o ho => (by cases ho), base := fun o ho => (by cases ho), llen := fun o ho => (by cases ho), ids := List.nodup_nil, idr := fun x hx => (by cases hx), chb := fun o ho => (by cases ho), dat := fun x hx => (by cases hx), aft := fun x hx => (by cases hx), last := Nat.zero_le _ }
    reg := fun x hx => by
      by_cases h4 : Gro R w w2 x
      · rcases h4 with h4 | h4
        · exact .inl h4
        · exact .inr (by omega)
      · right
        by_cases h1 : x = w4.heap.size
        · omega
        · by_cases h2 : x = w2.heap.size
          · omega
          · by_cases h3 : x = w3.heap.size
            · omega
            · rw [if_neg h1, if_neg h2, if_neg h3, if_neg h4] at hx; omega
    lo := fun x hx => by
      rcases hx with hx | hx
      · have := hlo x hx; omega
      · omega
    mod := ((hm.no m2).no M5) }
/-- Bytes of one's own beside a store. -/
structure Kp (R : Nat → Prop) (w : World) (g : Nat) (cs : List Value) : Prop where
  at_ : AtU w g 0 cs
  no : ¬ R g
theorem Kp.nos {g : Nat} {cs : List Value} (h : Kp R w g cs) (m : Mod No w w') : Kp R w' g cs := ⟨h.at_.keep m id, h.no⟩
theorem Kp.step {g : Nat} {cs : List Value} (h : Kp R w g cs) (m : Mod R w w') : Kp (Gro R w w') w' g cs := ⟨h.at_.keep m h.no, fun e => by
  have := h.at_.lt
  rcases e with e | e
  · exact h.no e
  · omega⟩
theorem lit (w : World) (v : UInt8) : Mod No w (w.alloc (.cells ⟨[.int .u8 (v.toNat : Int)]⟩ 5 (1, 2))) ∧ Row (w.alloc (.cells ⟨[.int .u8 (v.toNat : Int)]⟩ 5 (1, 2))) (some ⟨w.heap.size, 0, none⟩) (u8L [v]) :=
  ⟨(Mod.refl No w).alloc _, .inr ⟨_, _, rfl, _, _, _, heap_new w _, by simp [u8L], by simp [u8L, u8]⟩⟩
theorem Kp.of {w1 : World} {g : Nat} {cs : List Value} (h : Pz w0 R w sp d V) (m : Mod R w w1) (hg : w1.heap.size ≤ g) (hat : AtU w' g 0 cs) : Kp (Gro R w w1) w' g cs := ⟨hat, fun e => by
  have := m.size
  rcases e with e | e
  · have := (h.lo _ e).2; omega
  · omega⟩
def p0 : Ps := zeroV 8 8
def p1 : Ps := patS p0 5 0 [97] []
def p2 : Ps := patS p1 6 0 [98] [1]
def p3 : Ps := patS p2 5 1 [99] [2]
def p4 : Ps := wrV p3 5
def p5 : Ps := flV p4
def p6 : Ps := wrV p5 6
end
end Go.Proofs.YtocjjigmpgekfaaGreat
end
section
/- Layer 10: rows of calls, and the small functions of the laws. -/
open Go Go.Den Go.Proofs
namespace Go.Proofs.YtocjjigmpgekfaaGreat
/-- A call: its kind, its number, its bytes. -/
structure A3 where
  k : Int
  n : Int
  xs : List UInt8
def A3.fit (x : A3) (w : World) (cs : List Value) : Prop := ∃ (ad : Option Addr) (cd : Nat), cs = [.int .i64 x.k, .int .i64 x.n, .slice ad x.xs.length cd] ∧ Row w ad (u8L x.xs) ∧ (ad = none → x.xs.length = 0 ∧ cd = 0) ∧ x.xs.length ≤ 9223372036854775807
def Acts3 (w : World) (a : Option Addr) (acts : List A3) : Prop :=
  acts = [] ∨ ∃ (b o : Nat) (H : List Value), a = some ⟨b, o, none⟩ ∧ At w b o H ∧ H.length = acts.length * 3 ∧ ∀ (r : Nat) (x : A3), acts[r]? = some x → x.fit w ((H.drop (r * 3)).take 3)
section
variable {w w0 : World} {K : Value → World → Prop}
theorem A3.fit.nos {x : A3} {w' : World} {cs : List Value} (h : x.fit w cs) (m : Mod No w w') : x.fit w' cs := by
  obtain ⟨ad, cd, h1, h2, h3⟩ := h
  exact ⟨ad, cd, h1, h2.nos m, h3⟩
theorem Acts3.nos {w' : World} {a : Option Addr} {acts : List A3} (h : Acts3 w a acts) (m : Mod No w w') : Acts3 w' a acts := by
  rcases h with h | ⟨b, o, H, h1, h2, h3, h4⟩
  · exact .inl h
  · exact .inr ⟨b, o, H, h1, h2.keep m id, h3, fun r x hx => (h4 r x hx).nos m⟩
end
end Go.Proofs.YtocjjigmpgekfaaGreat
end
section
/- The statement PatchGoes in plain terms: the least open change may always be written. -/
open Go Go.Den Go.Proofs
namespace Go.Proofs.YtocjjigmpgekfaaGreat
/-- Changes lie in the order of their numbers. -/
def Srt (V : Ps) : Prop := ∀ o ∈ V.ons, o.l.Pairwise fun x y => x.id < y.id
/-- A block without changes has one version. -/
def One1 (V : Ps) : Prop := ∀ b, b < V.C.D.vs.length → (∀ o ∈ V.ons, o.b ≠ b) → (verOf V.C.D b).length = 1
theorem Srt.add {V : Ps} (h : Srt V) (hs : WFS V) {x : Ch} (hx : x.id = V.last + 1) : Srt (addX V x) := by
  intro o ho
  obtain ⟨p, hp, rfl⟩ := List.mem_map.1 ho
  have hold : p ∈ V.ons ∨ p.l = [] := by
    unfold newO at hp
    split at hp
    · exact .inl hp
    · rcases List.mem_append.1 hp with hp | hp
      · exact .inl hp
      · simp at hp; right; rw [hp]
  have hpl : p.l.Pairwise fun x y => x.id < y.id := by
    rcases hold with hp | hp
    · exact h p hp
    · rw [hp]; exact List.Pairwise.nil
  split
  · show (p.l ++ [x]).Pairwise _
    rw [List.pairwise_append]
    refine ⟨hpl, by simp, fun a ha c hc => ?_⟩
    simp at hc; subst hc
    rcases hold with hp | hp
    · have := hs.idr a (on_all hp ha); omega
    · rw [hp] at ha; cases ha
  · exact hpl
theorem Srt.pat {V : Ps} (h : Srt V) (hs : WFS V) (n f : Int) (data : Bk) (after : List Int) : Srt (patS V n f data after) := by
  unfold patS
  split
  · exact h.add hs rfl
  · exact h
theorem Srt.wr {V : Ps} (h : Srt V) (n : Int) : Srt (wrV V n) := by
  unfold wrV
  split
  · intro o ho
    obtain ⟨p, hp, rfl⟩ := List.mem_map.1 ho
    show (p.l.map _).Pairwise _
    rw [List.pairwise_map]
    refine (h p hp).imp fun {a c} hac => ?_
    rw [(markF_like V n.toNat).id, (markF_like V n.toNat).id]; exact hac
  · exact h
theorem Srt.fl {V : Ps} (h : Srt V) : Srt (flV V) := by
  intro o ho
  obtain ⟨p, hp, e⟩ := List.mem_filterMap.1 ho
  unfold flOn at e
  split at e
  · cases e
  · rw [← Option.some.inj e]
    exact (h p hp).filter _
theorem One1.pat {V : Ps} (h : One1 V) (n f : Int) (data : Bk) (after : List Int) : One1 (patS V n f data after) := by
  intro b hb hno
  have e : (patS V n f data after).C = V.C := (patS_C (V := V) (C := V.C) rfl).2.2
  rw [e] at hb ⊢
  refine h b hb fun o ho hob => ?_
  unfold patS at hno
  split at hno
  · have hin : o ∈ (newO V (newX V n.toNat f.toNat data after).b).ons := by
      unfold newO
      split
      · exact ho
      · exact List.mem_append.2 (.inl ho)
    have := hno _ (List.mem_map.2 ⟨o, hin, rfl⟩)
    split at this <;> exact this hob
  · exact hno o ho hob
theorem One1.wr {V : Ps} (h : One1 V) (n : Int) : One1 (wrV V n) := by
  intro b hb hno
  by_cases hE : wrVE V n = 0
  · have e : wrV V n = { V with C := { V.C with D := wrSt V.C.D n (imgB V n.toNat) }, ons := mapX V (markF V n.toNat) } := by unfold wrV; rw [if_pos hE]
    rw [e] at hb hno ⊢
    have hno' : ∀ o ∈ V.ons, o.b ≠ b := fun o ho => hno { o with l := o.l.map (markF V n.toNat) } (List.mem_map.2 ⟨o, ho, rfl⟩)
    have hb : b < (wrSt V.C.D n (imgB V n.toNat)).vs.length := hb
    rw [len_wr] at hb
    have h1 := h b hb hno'
    show (verOf (wrSt V.C.D n (imgB V n.toNat)) b).length = 1
    have hnb : n ≠ b := by
      rintro rfl
      unfold wrVE at hE
      split at hE
      · omega
      · split at hE
        · omega
        · rename_i hn
          cases ho : onOf V (b : Int) with
          | none => rw [ho] at hn; exact hn rfl
          | some o =>
            obtain ⟨h1, h2⟩ := onOf_some ho
            exact hno' o h1 (by omega)
    have hn0 : 0 ≤ n := by
      unfold wrVE at hE
      split at hE
      · omega
      · rename_i he
        have := err_range (Classical.not_not.1 he)
        obtain ⟨k, hk, _⟩ := this
        omega
    unfold wrSt
    split
    · exact h1
    · unfold verOf at h1 ⊢
      rw [if_neg (by omega), Int.toNat_natCast] at h1 ⊢
      rw [List.getElem?_set_ne (by omega)]; exact h1
  · have e : wrV V n = V := by unfold wrV; rw [if_neg hE]
    rw [e] at hb hno ⊢
    exact h b hb hno
theorem One1.fl {V : Ps} (hl : V.C.D.left = -1) : One1 (flV V) := by
  intro b hb _
  show (verOf (flSt V.C.D) b).length = 1
  have hb : b < (flSt V.C.D).vs.length := hb
  have e : flSt V.C.D = ⟨V.C.D.vs.map fun v => [lastV v], dec V.C.D.left⟩ := by unfold flSt; rw [if_neg (by omega)]
  rw [e] at hb ⊢
  rw [ver_at hb]; simp
/-- The least open change may be written. -/
theorem least_may {V : Ps} (hs : WFS V) (hf : ∀ x ∈ V.all, ∀ k ∈ x.after, k < (x.id : Int)) (hsrt : Srt V) {o : On} {x : Ch} (ho : o ∈ V.ons) (hx : x ∈ o.l) (hmin : ∀ y ∈ V.all, x.id ≤ y.id) : (x.id : Int) ∈ mayL V.opn o.l := by
  obtain ⟨j, hj, rfl⟩ := List.getElem_of_mem hx
  have hj0 : j = 0 := by
    by_cases e : j = 0
    · exact e
    · have h1 := List.pairwise_iff_getElem.1 (hsrt o ho) 0 j (by omega) hj (by omega)
      have h2 := hmin _ (on_all ho (List.getElem_mem (by omega : 0 < o.l.length)))
      omega
  subst hj0
  refine mayN_mono (n := 1) (by omega) ?_
  unfold mayN
  rw [List.getElem?_eq_getElem hj]
  show (o.l[0].id : Int) ∈ (if badB V.opn (o.l.take 0) (mayN V.opn o.l 0) o.l[0] = true then _ else _)
  rw [if_neg]
  · simp
  · unfold badB
    rw [Bool.or_eq_true, List.any_eq_true, List.any_eq_true]
    rintro (⟨k, hk, e⟩ | ⟨y, hy, _⟩)
    · rw [Bool.and_eq_true] at e
      have hop := e.1
      unfold Ps.opn at hop
      rw [List.any_eq_true] at hop
      obtain ⟨y, hy, ey⟩ := hop
      have ey : (y.id : Int) = k := by simpa using ey
      have h1 := hf _ (on_all ho hx) k hk
      have h2 := hmin y hy
      omega
    · simp at hy
theorem wr_opn {V : Ps} (n : Int) : (wrV V n).opn = V.opn ∧ (wrV V n).last = V.last ∧ (wrV V n).ons.map (·.b) = V.ons.map (·.b) ∧ (wrV V n).C.D.vs.length = V.C.D.vs.length := by
  unfold wrV
  split
  · have hL := markF_like V n.toNat
    refine ⟨opn_mapX hL, rfl, ?_, len_wr _ _ _⟩
    show (mapX V (markF V n.toNat)).map (·.b) = _
    unfold mapX; rw [List.map_map]; rfl
  · exact ⟨rfl, rfl, rfl, rfl⟩
/-- The same changes, with other marks. -/
def Sim (V W : Ps) : Prop := W.last = V.last ∧ ∃ f, Like f ∧ W.ons = mapX V f
theorem Sim.refl (V : Ps) : Sim V V := by
  refine ⟨rfl, fun x => x, ⟨fun _ => rfl, fun _ => rfl, fun _ => rfl, fun _ => rfl, fun _ => rfl⟩, ?_⟩
  unfold mapX
  conv => lhs; rw [← List.map_id V.ons]
  apply List.map_congr_left
  intro o _
  show o = { o with l := o.l.map fun x => x }
  rw [List.map_id']
theorem Sim.wr {V W : Ps} (h : Sim V W) (n : Int) : Sim V (wrV W n) := by
  obtain ⟨h1, f, hf, h2⟩ := h
  unfold wrV
  split
  · have hL := markF_like W n.toNat
    refine ⟨h1, fun x => markF W n.toNat (f x), ⟨fun x => by rw [hL.id, hf.id], fun x => by rw [hL.b, hf.b], fun x => by rw [hL.frm, hf.frm], fun x => by rw [hL.data, hf.data], fun x => by rw [hL.after, hf.after]⟩, ?_⟩
    show mapX W (markF W n.toNat) = _
    unfold mapX
    rw [h2]
    unfold mapX
    rw [List.map_map]
    apply List.map_congr_left
    intro o _
    simp only [Function.comp]
    rw [List.map_map]; rfl
  · exact ⟨h1, f, hf, h2⟩
theorem Sim.bs {V W : Ps} (h : Sim V W) : W.ons.map (·.b) = V.ons.map (·.b) := by
  obtain ⟨_, f, _, h2⟩ := h
  rw [h2]; unfold mapX; rw [List.map_map]; rfl
theorem Sim.ids {V W : Ps} (h : Sim V W) : W.all.map (·.id) = V.all.map (·.id) := by
  obtain ⟨_, f, hf, h2⟩ := h
  have : W.all = V.all.map f := by
    have := all_mapX (V := V) (C := V.C) (f := f)
    unfold Ps.all at this ⊢
    rw [h2]; exact this
  rw [this, List.map_map]
  congr 1
  funext x
  exact hf.id x
theorem Sim.num {V W : Ps} (h : Sim V W) : openV W = openV V := by
  have := congrArg List.length h.ids
  simpa [openV] using this
/-- A change that was in an image. -/
def Mkd (V : Ps) (i : Nat) : Prop := ∃ x ∈ V.all, x.id = i ∧ x.out = true
theorem Mkd.wr {V : Ps} {i : Nat} (h : Mkd V i) (n : Int) : Mkd (wrV V n) i := by
  obtain ⟨x, hx, e1, e2⟩ := h
  unfold wrV
  split
  · refine ⟨markF V n.toNat x, ?_, by rw [(markF_like V n.toNat).id]; exact e1, ?_⟩
    · show _ ∈ Ps.all ⟨_, V.last, mapX V (markF V n.toNat)⟩
      rw [all_mapX]; exact List.mem_map.2 ⟨x, hx, rfl⟩
    · unfold markF
      split
      · show (x.out || _) = true; rw [e2]; rfl
      · exact e2
  · exact ⟨x, hx, e1, e2⟩
theorem wrVE_on {V : Ps} (hs : WFS V) {o : On} (ho : o ∈ V.ons) : wrVE V (o.b : Int) = 0 := by
  unfold wrVE
  rw [if_neg (by rw [(rd_at V.C.D (hs.onlt o ho)).1]; simp), onOf_mem hs ho]; rfl
/-- Its block is written: the least one is in the image. -/
theorem Mkd.least {V : Ps} (hs : WFS V) (hf : ∀ x ∈ V.all, ∀ k ∈ x.after, k < (x.id : Int)) (hsrt : Srt V) {o : On} {x : Ch} (ho : o ∈ V.ons) (hx : x ∈ o.l) (hmin : ∀ y ∈ V.all, x.id ≤ y.id) : Mkd (wrV V (o.b : Int)) x.id := by
  have hm := least_may hs hf hsrt ho hx hmin
  unfold wrV
  rw [if_pos (wrVE_on hs ho), Int.toNat_natCast]
  refine ⟨markF V o.b x, ?_, (markF_like V o.b).id x, ?_⟩
  · show _ ∈ Ps.all ⟨_, V.last, mapX V (markF V o.b)⟩
    rw [all_mapX]; exact List.mem_map.2 ⟨x, on_all ho hx, rfl⟩
  · unfold markF
    rw [if_pos (hs.chb o ho x hx)]
    show (x.out || (mayB V o.b).contains (x.id : Int)) = true
    have : mayB V o.b = mayL V.opn o.l := by unfold mayB; rw [onOf_mem hs ho]
    rw [this]
    have : (mayL V.opn o.l).contains (x.id : Int) = true := by simpa using hm
    rw [this, Bool.or_true]
theorem all_fl (V : Ps) : (flV V).all = V.all.filter fun x => !x.out := by
  unfold flV Ps.all
  show (V.ons.filterMap flOn).flatMap (·.l) = (V.ons.flatMap (·.l)).filter _
  generalize V.ons = l
  induction l with
  | nil => rfl
  | cons o r ih =>
    rw [List.flatMap_cons, List.filter_append, ← ih]
    unfold flOn
    by_cases h : (o.l.filter fun x => !x.out).isEmpty = true
    · rw [List.filterMap_cons_none (by rw [if_pos h]), List.isEmpty_iff.1 h]; rfl
    · rw [List.filterMap_cons_some (by rw [if_neg h]), List.flatMap_cons]
theorem Mkd.fewer {V : Ps} {i : Nat} (h : Mkd V i) : openV (flV V) < openV V := by
  unfold openV
  rw [all_fl, List.length_filter_lt_length_iff_exists]
  obtain ⟨x, hx, _, e⟩ := h
  exact ⟨x, hx, by rw [e]; simp⟩
theorem exists_least : ∀ {l : List Ch}, l ≠ [] → ∃ x ∈ l, ∀ y ∈ l, x.id ≤ y.id
  | [], h => absurd rfl h
  | [x], _ => ⟨x, by simp, by simp⟩
  | x :: y :: r, _ => by
    obtain ⟨z, hz, hmin⟩ := exists_least (l := y :: r) (by simp)
    by_cases h : x.id ≤ z.id
    · refine ⟨x, by simp, fun u hu => ?_⟩
      rcases List.mem_cons.1 hu with rfl | hu
      · exact Nat.le_refl _
      · exact Nat.le_trans h (hmin u hu)
    · refine ⟨z, List.mem_cons_of_mem x hz, fun u hu => ?_⟩
      rcases List.mem_cons.1 hu with rfl | hu
      · omega
      · exact hmin u hu
/-- A round so far: the first of the dirty blocks have been written. -/
structure Rd (V W : Ps) (ks : List Int) : Prop where
  sim : Sim V W
  srt : Srt W
  one : One1 W
  mkd : ∀ o ∈ V.ons, ∀ x ∈ o.l, (∀ y ∈ V.all, x.id ≤ y.id) → (o.b : Int) ∈ ks → Mkd W x.id
theorem Rd.start {V : Ps} (h : Srt V) (h1 : One1 V) : Rd V V [] := ⟨Sim.refl V, h, h1, fun _ _ _ _ _ h => by cases h⟩
theorem Rd.next {V W : Ps} {ks : List Int} {n : Int} (h : Rd V W ks) (hs : WFS W) (hf : ∀ x ∈ W.all, ∀ k ∈ x.after, k < (x.id : Int)) : Rd V (wrV W n) (ks ++ [n]) := by
  refine ⟨h.sim.wr n, h.srt.wr n, h.one.wr n, fun o ho x hx hmin hk => ?_⟩
  rcases List.mem_append.1 hk with hk | hk
  · exact (h.mkd o ho x hx hmin hk).wr n
  · have hn : n = (o.b : Int) := by simpa using (List.mem_singleton.1 hk).symm
    subst hn
    obtain ⟨_, f, hL, e⟩ := h.sim
    have ho' : { o with l := o.l.map f } ∈ W.ons := by rw [e]; exact List.mem_map.2 ⟨o, ho, rfl⟩
    have := Mkd.least hs hf h.srt (o := { o with l := o.l.map f }) (x := f x) ho' (List.mem_map.2 ⟨x, hx, rfl⟩) fun y hy => by
      have hm : y.id ∈ W.all.map (·.id) := List.mem_map.2 ⟨y, hy, rfl⟩
      rw [h.sim.ids] at hm
      obtain ⟨z, hz, ez⟩ := List.mem_map.1 hm
      have := hmin z hz
      rw [hL.id]; omega
    rw [hL.id] at this
    exact this
theorem Rd.fewer {V W : Ps} {ks : List Int} (h : Rd V W ks) (hall : ∀ o ∈ V.ons, (o.b : Int) ∈ ks) (h0 : 0 < openV V) : openV (flV W) < openV V := by
  have hne : V.all ≠ [] := fun e => by unfold openV at h0; rw [e] at h0; simp at h0
  obtain ⟨x, hx, hmin⟩ := exists_least hne
  obtain ⟨o, ho, hxo⟩ := mem_all.1 hx
  have := (h.mkd o ho x hxo hmin (hall o ho)).fewer
  rw [h.sim.num] at this
  exact this
end Go.Proofs.YtocjjigmpgekfaaGreat

/- Layer 11: rows of calls; the numbers ahead; the blocks that are dirty; what the disk has. -/
open Go Go.Den Go.Proofs
namespace Go.Proofs.YtocjjigmpgekfaaGreat
/-- A call: its kind, its block, where it begins, its bytes, what it waits for, and whether that is taken as it is. -/
structure A6 where
  k : Int
  n : Int
  f : Int
  xs : List UInt8
  af : List Int
  raw : Bool
def A6.fit (x : A6) (w : World) (cs : List Value) : Prop := ∃ (ad : Option Addr) (cd : Nat) (aa : Option Addr) (ca : Nat), cs = [.int .i64 x.k, .int .i64 x.n, .int .i64 x.f, .slice ad x.xs.length cd, .slice aa x.af.length ca, .bool x.raw] ∧
  Row w ad (u8L x.xs) ∧ (ad = none → x.xs.length = 0 ∧ cd = 0) ∧ x.xs.length ≤ 9223372036854775807 ∧ Row w aa (iL x.af) ∧ x.af.length ≤ 9223372036854775807
def Acts6 (w : World) (a : Option Addr) (acts : List A6) : Prop :=
  acts = [] ∨ ∃ (b o : Nat) (H : List Value), a = some ⟨b, o, none⟩ ∧ At w b o H ∧ H.length = acts.length * 6 ∧ ∀ (r : Nat) (x : A6), acts[r]? = some x → x.fit w ((H.drop (r * 6)).take 6)
section
variable {w w' w0 : World} {R : Nat → Prop} {sp d : Nat} {V : Ps} {K : Value → World → Prop}
theorem Acts6.get {acts : List A6} {a : Option Addr} {l cc i : Nat} {x : A6} (h : Acts6 w a acts) (m : Mod No w w') (hl : acts.length = l) (hx : acts[i]? = some x) :
    ∃ q : Addr, Al (Instr.indexAt 22 (.slice a l cc) (.int .i64 i)) (.pointer (some q)) ∧ ∃ cs, x.fit w cs ∧ Ru (Instr.loadAt 39 (.pointer (some q))) w' (.agg ⟨cs⟩) w' := by
  have hi := (List.getElem?_eq_some_iff.1 hx).1
  obtain ⟨b, o, H, rfl, hat, hH, hfit⟩ := h.resolve_left (fun e => by rw [e] at hi; simp at hi)
  have hle : (i + 1) * 6 ≤ acts.length * 6 := Nat.mul_le_mul_right _ hi
  refine ⟨_, index_slice (k := 6) (by kernel_rfl) (by omega) (by omega), (H.drop (i * 6)).take 6, hfit i x hx, ?_⟩
  rw [add_none, show (i : Int).toNat * 6 = i * 6 by omega]
  exact (hat.keep m id).loadAgg (by kernel_rfl) (by omega)
/-- Numbers of changes ahead. -/
def aheadN (last k : Int) : Int := last - (if k.tmod last < 0 then -(k.tmod last) else k.tmod last)
theorem sorted_perm {xs ys : List Int} (h : xs.Perm ys) : sorted xs = sorted ys := by
  have hs : ∀ zs : List Int, (sorted zs).Pairwise fun a b => a ≤ b := fun zs => by
    have := List.pairwise_mergeSort (le := fun x y : Int => decide (x ≤ y)) (fun a b c h1 h2 => by simp only [decide_eq_true_eq] at *; omega) (fun a b => by simp only [Bool.or_eq_true, decide_eq_true_eq]; omega) zs
    refine List.Pairwise.imp ?_ this
    intro a b h; simpa using h
  exact List.Perm.eq_of_pairwise (le := fun a b : Int => a ≤ b) (fun a b _ _ h1 h2 => by omega) (hs xs) (hs ys) (((List.mergeSort_perm _ _).trans h).trans (List.mergeSort_perm _ _).symm)
/-- What holds of a store, in plain terms. -/
theorem Pz.wf (h : Pz w0 R w sp d V) : WFS V ∧ (∀ x ∈ V.all, ∀ k ∈ x.after, k < (x.id : Int)) ∧ (∀ o ∈ V.ons, o.l ≠ []) ∧ V.C.D.left = -1 ∧ WF V.C.D := by
  obtain ⟨C, eD, eM, hP⟩ := h
  have hwf := hP.wf
  refine ⟨?_, hwf.1.afl, hwf.1.lne, ?_, ?_⟩
  · exact WFS.cache (P := ⟨C, V.last, V.ons⟩) (C := V.C) hwf.2.1 (by rw [eD]) eM.symm
  · rw [← eD]; exact hwf.1.run
  · rw [← eD]; exact hwf.2.2.2.1
theorem Pz.full (h : Pz w0 R w sp d V) : ∃ C, C.D = V.C.D ∧ WFP ⟨C, V.last, V.ons⟩ := by
  obtain ⟨C, eD, eM, hP⟩ := h
  exact ⟨C, eD, hP.wf.1⟩
end
end Go.Proofs.YtocjjigmpgekfaaGreat

/- The statement PatchGoes: all changes get safe. -/
open Go Go.Den Go.Proofs
namespace Go.Proofs.YtocjjigmpgekfaaGreat
section
variable {w w' w0 : World} {R : Nat → Prop} {sp d : Nat} {V : Ps} {K : Value → World → Prop}
theorem Row.lt {w : World} {a : Option Addr} {xs : List Value} {q : Addr} (h : Row w a xs) (hne : xs ≠ []) (hq : a = some q) : q.block < w.heap.size := by
  rcases h with h | ⟨b, o, e, hat⟩
  · exact absurd h hne
  · rw [hq] at e; cases e; exact hat.lt
theorem u8L_ne {xs : List UInt8} (h : xs ≠ []) : u8L xs ≠ [] := fun e => h (List.eq_nil_of_length_eq_zero (by have := congrArg List.length e; rw [length_u8L] at this; exact this))
theorem iL_ne {xs : List Int} (h : xs ≠ []) : iL xs ≠ [] := fun e => h (by
  have := congrArg List.length e
  simp at this; exact this)
theorem open_le {V : Ps} (h : WFS V) : openV V ≤ V.last := by
  have h1 := List.Nodup.length_le_of_subset h.ids (l₂ := (List.range V.last).map (· + 1)) fun k hk => by
    obtain ⟨x, hx, rfl⟩ := List.mem_map.1 hk
    have := h.idr x hx
    rw [List.mem_map]
    exact ⟨x.id - 1, List.mem_range.2 (by omega), by omega⟩
  simpa [openV] using h1
theorem Bnd_fl {D : St} (h : D.left = -1) {m : Nat} (hm : 1 ≤ m) : Bnd (flSt D) m := by
  intro v hv
  have e : flSt D = ⟨D.vs.map fun v => [lastV v], dec D.left⟩ := by unfold flSt; rw [if_neg (by omega)]
  rw [e] at hv
  obtain ⟨u, _, rfl⟩ := List.mem_map.1 hv
  exact hm
/-- What the first part of the law comes to. -/
structure GI (V : Ps) (i : Nat) : Prop where
  srt : Srt V
  one : One1 V
  bnd : Bnd V.C.D (i + 1)
  len : V.C.D.vs.length = 5
  last : V.last ≤ i
theorem GI.pat {i : Nat} (h : GI V i) (hs : WFS V) (n f : Int) (data : Bk) (after : List Int) : Srt (patS V n f data after) ∧ One1 (patS V n f data after) ∧ Bnd (patS V n f data after).C.D (i + 1) ∧ (patS V n f data after).C.D.vs.length = 5 ∧ (patS V n f data after).last ≤ i + 1 ∧
    (patE V n f data after = 0 → (patS V n f data after).last = V.last + 1) ∧ (patE V n f data after ≠ 0 → patS V n f data after = V) := by
  have e := (patS_C (V := V) (C := V.C) (n := n) (f := f) (data := data) (after := after) rfl).2.2
  have hl := h.last
  refine ⟨h.srt.pat hs n f data after, h.one.pat n f data after, by rw [e]; exact h.bnd, by rw [e]; exact h.len, ?_, ?_, ?_⟩
  · unfold patS
    split
    · show V.last + 1 ≤ i + 1; omega
    · omega
  · intro h0; unfold patS; rw [if_pos h0]; rfl
  · intro h0; unfold patS; rw [if_neg h0]
theorem WFS.bnd (h : WFS V) (hb : Bnd V.C.D 1000000) : True := trivial
end
end Go.Proofs.YtocjjigmpgekfaaGreat
end
section
/- The statement PatchOrder in plain terms: all that a change waits for is there. -/
open Go Go.Den Go.Proofs
namespace Go.Proofs.YtocjjigmpgekfaaGreat
/-- A change of one byte: its block, and those ahead. Its byte is where its place in the row says. -/
structure Mk where
  b : Nat
  after : List Nat
theorem withL_at : ∀ {L : List Ch} {b : Bk} (k : Nat), b.length = 256 → (∀ x ∈ L, x.data = [1] ∧ x.frm < 256) → ((withL b L)[k]? = some 1 ↔ (∃ x ∈ L, x.frm = k) ∨ b[k]? = some 1)
  | [], b, k, _, _ => by
    show b[k]? = some 1 ↔ _
    simp
  | c :: r, b, k, hb, hL => by
    obtain ⟨hd, hf⟩ := hL c (by simp)
    have hlen : c.frm + c.data.length ≤ b.length := by rw [hd, hb]; simp; omega
    have ih := withL_at (L := r) (b := overB b c.frm c.data) k (by rw [overB_len hlen, hb]) fun x hx => hL x (by simp [hx])
    show (withL (overB b c.frm c.data) r)[k]? = some 1 ↔ _
    rw [ih, overB_get hlen, hd]
    have e1 : ([1] : List UInt8).length = 1 := rfl
    rw [e1]
    by_cases hk : c.frm = k
    · subst hk
      rw [if_pos (by omega), Nat.sub_self]
      constructor
      · intro _; exact .inl ⟨c, by simp, rfl⟩
      · intro _; exact .inr rfl
    · rw [if_neg (by omega)]
      constructor
      · rintro (⟨x, hx, e⟩ | e)
        · exact .inl ⟨x, by simp [hx], e⟩
        · exact .inr e
      · rintro (⟨x, hx, e⟩ | e)
        · rcases List.mem_cons.1 hx with rfl | hx
          · exact absurd e hk
          · exact .inl ⟨x, hx, e⟩
        · exact .inr e
theorem opn_iff {V : Ps} {n : Int} : V.opn n = true ↔ ∃ x ∈ V.all, (x.id : Int) = n := by
  unfold Ps.opn
  rw [List.any_eq_true]
  constructor
  · rintro ⟨x, hx, e⟩; exact ⟨x, hx, by simpa using e⟩
  · rintro ⟨x, hx, e⟩; exact ⟨x, hx, by simpa using e⟩
theorem opn_not {V : Ps} {n : Int} : V.opn n = false ↔ ∀ x ∈ V.all, (x.id : Int) ≠ n := by
  rw [← Bool.not_eq_true, opn_iff]
  constructor
  · intro h x hx e; exact h ⟨x, hx, e⟩
  · rintro h ⟨x, hx, e⟩; exact h x hx e
theorem opn_fl {V : Ps} {n : Int} : (flV V).opn n = true ↔ ∃ x ∈ V.all, x.out = false ∧ (x.id : Int) = n := by
  rw [opn_iff, all_fl]
  constructor
  · rintro ⟨x, hx, e⟩
    obtain ⟨h1, h2⟩ := List.mem_filter.1 hx
    exact ⟨x, h1, by simpa using h2, e⟩
  · rintro ⟨x, hx, h1, e⟩
    exact ⟨x, List.mem_filter.2 ⟨hx, by simp [h1]⟩, e⟩
theorem opn_fl_of {V : Ps} {n : Int} (h : V.opn n = false) : (flV V).opn n = false := by
  rw [← Bool.not_eq_true, opn_fl]
  rintro ⟨x, hx, _, e⟩
  exact opn_not.1 h x hx e
/-- Of one version of a block. -/
def VerOk (ms : List Mk) (op : Int → Bool) (b : Nat) (v : Bk) : Prop :=
  (∀ (k : Nat) (m : Mk), ms[k]? = some m → m.b = b → (op ((k + 1 : Nat) : Int) = false → v[k]? = some 1) ∧
    (v[k]? = some 1 → ∀ j ∈ m.after, op ((j + 1 : Nat) : Int) = false ∨ ∃ m', ms[j]? = some m' ∧ m'.b = b ∧ v[j]? = some 1)) ∧
  ∀ k : Nat, ms.length ≤ k → v[k]? ≠ some 1
structure OrdI (ms : List Mk) (V : Ps) : Prop where
  last : V.last = ms.length
  len : V.C.D.vs.length = 5
  small : ms.length ≤ 60
  mk_ : ∀ (k : Nat) (m : Mk), ms[k]? = some m → m.b < 5 ∧ ∀ j ∈ m.after, j < k
  ch : ∀ x ∈ V.all, ∃ k m, x.id = k + 1 ∧ ms[k]? = some m ∧ x.b = m.b ∧ x.frm = k ∧ x.data = [1] ∧ ∀ j ∈ m.after, ((j + 1 : Nat) : Int) ∈ x.after ∨ V.opn ((j + 1 : Nat) : Int) = false
  safe : ∀ (k : Nat) (m : Mk), ms[k]? = some m → V.opn ((k + 1 : Nat) : Int) = false → ∀ j ∈ m.after, V.opn ((j + 1 : Nat) : Int) = false
  ver : ∀ b : Nat, b < 5 → ∀ v ∈ verOf V.C.D b, VerOk ms V.opn b v
  base : ∀ o ∈ V.ons, (∀ (k : Nat) (m : Mk), ms[k]? = some m → m.b = o.b → (o.base[k]? = some 1 ↔ V.opn ((k + 1 : Nat) : Int) = false)) ∧ ∀ k : Nat, ms.length ≤ k → o.base[k]? ≠ some 1
  out : ∀ o ∈ V.ons, ∀ x ∈ o.l, x.out = true → ∀ j ∈ x.after, V.opn j = true → ∃ y ∈ o.l, (y.id : Int) = j ∧ y.out = true
theorem OrdI.dat {ms : List Mk} {V : Ps} (h : OrdI ms V) {x : Ch} (hx : x ∈ V.all) : x.data = [1] ∧ x.frm < 256 := by
  obtain ⟨k, m, _, h2, _, h4, h5, _⟩ := h.ch x hx
  have := (List.getElem?_eq_some_iff.1 h2).1
  have := h.small
  exact ⟨h5, by omega⟩
/-- A block is written. -/
theorem OrdI.wr {ms : List Mk} {V : Ps} (h : OrdI ms V) (hs : WFS V) (hl : V.C.D.left = -1) (hD : WF V.C.D) (n : Int) : OrdI ms (wrV V n) := by
  by_cases hE : ¬ wrVE V n = 0
  · have : wrV V n = V := by unfold wrV; rw [if_neg hE]
    rw [this]; exact h
  have hE : wrVE V n = 0 := Classical.not_not.1 hE
  have he : errOf V.C.D n = 0 := by
    unfold wrVE at hE
    split at hE
    · omega
    · rename_i he; exact Classical.not_not.1 he
  obtain ⟨b, rfl, hb⟩ := err_range he
  have hoo : ∃ o, onOf V (b : Int) = some o := by
    unfold wrVE at hE
    rw [if_neg (by rw [he]; simp)] at hE
    cases ho : onOf V (b : Int) with
    | none => rw [ho] at hE; simp at hE
    | some o => exact ⟨o, rfl⟩
  obtain ⟨o, ho⟩ := hoo
  obtain ⟨hom, hob⟩ := onOf_some ho
  have hob : o.b = b := by omega
  have eV : wrV V b = ⟨{ V.C with D := wrSt V.C.D b (imgB V b) }, V.last, mapX V (markF V b)⟩ := by unfold wrV; rw [if_pos hE, Int.toNat_natCast]
  have hL := markF_like V b
  have hop : (wrV V b).opn = V.opn := (wr_opn (V := V) b).1
  have hil := img_len hs hD hb
  have hbase := hs.base o hom
  have hmb : mayB V b = mayL V.opn o.l := by unfold mayB; rw [ho]
  have himg : ∀ k, (imgB V b)[k]? = some 1 ↔ (∃ x ∈ o.l, (x.id : Int) ∈ mayL V.opn o.l ∧ x.frm = k) ∨ o.base[k]? = some 1 := fun k => by
    unfold imgB
    rw [ho]
    show (withL o.base _)[k]? = some 1 ↔ _
    rw [withL_at k hbase fun x hx => h.dat (on_all hom (List.mem_filter.1 hx).1)]
    constructor
    · rintro (⟨x, hx, e⟩ | e)
      · obtain ⟨h1, h2⟩ := List.mem_filter.1 hx
        exact .inl ⟨x, h1, by simpa using h2, e⟩
      · exact .inr e
    · rintro (⟨x, hx, h1, e⟩ | e)
      · exact .inl ⟨x, List.mem_filter.2 ⟨hx, by simpa using h1⟩, e⟩
      · exact .inr e
  have hall : (wrV V b).all = V.all.map (markF V b) := by rw [eV]; exact all_mapX
  exact {
    last := by rw [(wr_opn (V := V) b).2.1]; exact h.last
    len := by rw [(wr_opn (V := V) b).2.2.2]; exact h.len
    small := h.small
    mk_ := h.mk_
    ch := fun x hx => by
      rw [hall] at hx
      obtain ⟨y, hy, rfl⟩ := List.mem_map.1 hx
      rw [hL.id, hL.b, hL.frm, hL.data, hL.after, hop]
      exact h.ch y hy
    safe := by rw [hop]; exact h.safe
    ver := fun b' hb' v hv => by
      rw [hop]
      rw [eV] at hv
      have hv : v ∈ verOf (wrSt V.C.D b (imgB V b)) b' := hv
      rw [(wr_is hb hil hl).2] at hv
      have hb5 : b' < V.C.D.vs.length := by rw [h.len]; exact hb'
      rw [ver_at (D := ⟨_, _⟩) (by simpa using hb5)] at hv
      simp only at hv
      by_cases e : b = b'
      · subst e
        rw [List.getElem_set_self] at hv
        rcases List.mem_append.1 hv with hv | hv
        · exact h.ver b hb' v (by rw [ver_at hb5]; exact hv)
        · have : v = imgB V b := by simpa using hv
          subst this
          refine ⟨fun k m hm hmb' => ⟨fun hsafe => ?_, fun h1 j hj => ?_⟩, fun k hk h1 => ?_⟩
          · rw [himg]
            exact .inr (((h.base o hom).1 k m hm (by omega)).2 hsafe)
          · rcases (himg k).1 h1 with ⟨x, hx, hmay, hfk⟩ | hbk
            · obtain ⟨k', m', e1, e2, e3, e4, e5, e6⟩ := h.ch x (on_all hom hx)
              have : k' = k := by omega
              subst this
              have : m' = m := by rw [e2] at hm; exact Option.some.inj hm
              subst this
              rcases e6 j hj with hja | hja
              · cases hopj : V.opn ((j + 1 : Nat) : Int) with
                | false => exact .inl rfl
                | true =>
                  right
                  have hw := mayL_waits (ids_on hs hom) hx hmay _ hja hopj
                  obtain ⟨y, hy, ey⟩ := mayN_mem _ _ hw
                  have hyl : y ∈ o.l := List.mem_of_mem_take hy
                  obtain ⟨ky, my, f1, f2, f3, f4, _, _⟩ := h.ch y (on_all hom hyl)
                  have : ky = j := by omega
                  subst this
                  refine ⟨my, f2, ?_, ?_⟩
                  · rw [← f3, hs.chb o hom y hyl]; exact hob
                  · rw [himg]
                    exact .inl ⟨y, hyl, by rw [← ey]; exact hw, f4⟩
              · exact .inl hja
            · exact .inl (h.safe k m hm (((h.base o hom).1 k m hm (by omega)).1 hbk) j hj)
          · rcases (himg k).1 h1 with ⟨x, hx, _, hfk⟩ | hbk
            · obtain ⟨k', m', e1, e2, e3, e4, _⟩ := h.ch x (on_all hom hx)
              have := (List.getElem?_eq_some_iff.1 e2).1
              omega
            · exact (h.base o hom).2 k hk hbk
      · rw [List.getElem_set_ne e] at hv
        exact h.ver b' hb' v (by rw [ver_at hb5]; exact hv)
    base := fun p hp => by
      rw [eV] at hp
      obtain ⟨q, hq, rfl⟩ := List.mem_map.1 hp
      rw [hop]
      exact h.base q hq
    out := fun p hp x hx hxo j hj hopj => by
      rw [hop] at hopj
      rw [eV] at hp
      obtain ⟨q, hq, rfl⟩ := List.mem_map.1 hp
      obtain ⟨y, hy, rfl⟩ := List.mem_map.1 hx
      rw [hL.after] at hj
      by_cases e : q.b = b
      · have : q = o := on_uniq hs hq hom (by omega)
        subst this
        have hmk : ∀ z ∈ q.l, (markF V b z).out = (z.out || (mayL V.opn q.l).contains (z.id : Int)) := fun z hz => by
          unfold markF; rw [if_pos (by rw [hs.chb q hq z hz]; exact e), hmb]
        rw [hmk y hy] at hxo
        by_cases hyo : y.out = true
        · obtain ⟨z, hz, e1, e2⟩ := h.out q hq y hy hyo j hj hopj
          exact ⟨markF V b z, List.mem_map.2 ⟨z, hz, rfl⟩, by rw [hL.id]; exact e1, by rw [hmk z hz, e2]; rfl⟩
        · have hym : (y.id : Int) ∈ mayL V.opn q.l := by
            have : y.out = false := by simpa using hyo
            rw [this, Bool.false_or] at hxo
            simpa using hxo
          have hw := mayL_waits (ids_on hs hq) hy hym j hj hopj
          obtain ⟨z, hz, ez⟩ := mayN_mem _ _ hw
          have hzl : z ∈ q.l := List.mem_of_mem_take hz
          refine ⟨markF V b z, List.mem_map.2 ⟨z, hzl, rfl⟩, by rw [hL.id]; exact ez.symm, ?_⟩
          rw [hmk z hzl]
          have : (mayL V.opn q.l).contains (z.id : Int) = true := by rw [← ez]; simpa using hw
          rw [this, Bool.or_true]
      · have hno : ∀ z ∈ q.l, markF V b z = z := fun z hz => by unfold markF; rw [if_neg (by rw [hs.chb q hq z hz]; exact e)]
        rw [hno y hy] at hxo
        obtain ⟨z, hz, e1, e2⟩ := h.out q hq y hy hxo j hj hopj
        exact ⟨markF V b z, List.mem_map.2 ⟨z, hz, rfl⟩, by rw [hL.id]; exact e1, by rw [hno z hz]; exact e2⟩ }
/-- All is flushed. -/
theorem OrdI.fl {ms : List Mk} {V : Ps} (h : OrdI ms V) (hs : WFS V) (hl : V.C.D.left = -1) (hD : WF V.C.D) (hacc : ∀ o ∈ V.ons, atD V.C.D o.b = withL o.base (o.l.filter (·.out))) : OrdI ms (flV V) := by
  -- a change that gets safe
  have hnew : ∀ (k : Nat) (m : Mk), ms[k]? = some m → (flV V).opn ((k + 1 : Nat) : Int) = false → V.opn ((k + 1 : Nat) : Int) = false ∨ ∃ o ∈ V.ons, ∃ x ∈ o.l, x.id = k + 1 ∧ x.out = true ∧ x.frm = k ∧ o.b = m.b ∧ x.b = m.b := fun k m hm hf => by
    cases hop : V.opn ((k + 1 : Nat) : Int) with
    | false => exact .inl rfl
    | true =>
      right
      obtain ⟨x, hx, e⟩ := opn_iff.1 hop
      obtain ⟨o, ho, hxo⟩ := mem_all.1 hx
      obtain ⟨k', m', e1, e2, e3, e4, _⟩ := h.ch x hx
      have : k' = k := by omega
      subst this
      have : m' = m := by rw [e2] at hm; exact Option.some.inj hm
      subst this
      refine ⟨o, ho, x, hxo, e1, ?_, e4, by rw [← hs.chb o ho x hxo]; exact e3, e3⟩
      cases hout : x.out with
      | true => rfl
      | false =>
        have : (flV V).opn ((k' + 1 : Nat) : Int) = true := opn_fl.2 ⟨x, hx, hout, e⟩
        rw [this] at hf; cases hf
  have hgone : ∀ x ∈ V.all, x.out = true → (flV V).opn (x.id : Int) = false := fun x hx hout => by
    rw [← Bool.not_eq_true, opn_fl]
    rintro ⟨y, hy, h1, e⟩
    have := map_inj hs.ids hy hx (by omega)
    subst this
    rw [hout] at h1; cases h1
  have hwl : ∀ o ∈ V.ons, ∀ k, (withL o.base (o.l.filter (·.out)))[k]? = some 1 ↔ (∃ x ∈ o.l, x.out = true ∧ x.frm = k) ∨ o.base[k]? = some 1 := fun o ho k => by
    rw [withL_at k (hs.base o ho) fun x hx => h.dat (on_all ho (List.mem_filter.1 hx).1)]
    constructor
    · rintro (⟨x, hx, e⟩ | e)
      · obtain ⟨h1, h2⟩ := List.mem_filter.1 hx
        exact .inl ⟨x, h1, h2, e⟩
      · exact .inr e
    · rintro (⟨x, hx, h1, e⟩ | e)
      · exact .inl ⟨x, List.mem_filter.2 ⟨hx, h1⟩, e⟩
      · exact .inr e
  have hon : ∀ p ∈ (flV V).ons, ∃ o ∈ V.ons, p.b = o.b ∧ p.base = withL o.base (o.l.filter (·.out)) ∧ p.l = o.l.filter fun x => !x.out := fun p hp => by
    obtain ⟨o, ho, e⟩ := List.mem_filterMap.1 hp
    unfold flOn at e
    split at e
    · cases e
    · have := Option.some.inj e
      subst this
      exact ⟨o, ho, rfl, rfl, rfl⟩
  exact {
    last := h.last
    len := by show (flSt V.C.D).vs.length = 5; rw [fl_len]; exact h.len
    small := h.small
    mk_ := h.mk_
    ch := fun x hx => by
      rw [all_fl] at hx
      obtain ⟨k, m, e1, e2, e3, e4, e5, e6⟩ := h.ch x (List.mem_filter.1 hx).1
      refine ⟨k, m, e1, e2, e3, e4, e5, fun j hj => ?_⟩
      rcases e6 j hj with h1 | h1
      · exact .inl h1
      · exact .inr (opn_fl_of h1)
    safe := fun k m hm hf j hj => by
      rcases hnew k m hm hf with hold | ⟨o, ho, x, hx, e1, e2, e3, _, _⟩
      · exact opn_fl_of (h.safe k m hm hold j hj)
      · obtain ⟨k', m', f1, f2, _, _, _, f6⟩ := h.ch x (on_all ho hx)
        have : k' = k := by omega
        subst this
        have : m' = m := by rw [f2] at hm; exact Option.some.inj hm
        subst this
        rcases f6 j hj with h1 | h1
        · cases hop : V.opn ((j + 1 : Nat) : Int) with
          | false => exact opn_fl_of hop
          | true =>
            obtain ⟨y, hy, g1, g2⟩ := h.out o ho x hx e2 _ h1 hop
            rw [← g1]; exact hgone y (on_all ho hy) g2
        · exact opn_fl_of h1
    ver := fun b hb v hv => by
      have hb5 : b < V.C.D.vs.length := by rw [h.len]; exact hb
      have e : flSt V.C.D = ⟨V.C.D.vs.map fun v => [lastV v], dec V.C.D.left⟩ := by unfold flSt; rw [if_neg (by omega)]
      have hv : v ∈ verOf (flSt V.C.D) b := hv
      rw [e, ver_at (D := ⟨_, _⟩) (by simpa using hb5)] at hv
      simp only [List.getElem_map] at hv
      have hv : v = lastV V.C.D.vs[b] := by simpa using hv
      have hat : v = atD V.C.D b := by unfold atD; rw [ver_at hb5]; exact hv
      have hmem : v ∈ verOf V.C.D b := by
        rw [ver_at hb5, hv]
        have hne := (hD.ver _ (List.getElem_mem hb5)).1
        unfold lastV
        rw [List.getLastD_eq_getLast?, List.getLast?_eq_some_getLast hne]
        exact List.getLast_mem hne
      obtain ⟨h1, h2⟩ := h.ver b hb v hmem
      refine ⟨fun k m hm hmb => ⟨fun hf => ?_, fun hk j hj => ?_⟩, h2⟩
      · rcases hnew k m hm hf with hold | ⟨o, ho, x, hx, e1, e2, e3, e4, _⟩
        · exact (h1 k m hm hmb).1 hold
        · rw [hat, show b = o.b by omega, hacc o ho, hwl o ho]
          exact .inl ⟨x, hx, e2, e3⟩
      · rcases (h1 k m hm hmb).2 hk j hj with h3 | h3
        · exact .inl (opn_fl_of h3)
        · exact .inr h3
    base := fun p hp => by
      obtain ⟨o, ho, e1, e2, e3⟩ := hon p hp
      rw [e1, e2]
      obtain ⟨b1, b2⟩ := h.base o ho
      refine ⟨fun k m hm hmb => ?_, fun k hk hk1 => ?_⟩
      · rw [hwl o ho]
        constructor
        · rintro (⟨x, hx, h1, h2⟩ | hb)
          · obtain ⟨k', m', f1, _, _, f4, _⟩ := h.ch x (on_all ho hx)
            have := hgone x (on_all ho hx) h1
            rw [show k + 1 = x.id by omega]; exact this
          · exact opn_fl_of ((b1 k m hm hmb).1 hb)
        · intro hf
          rcases hnew k m hm hf with hold | ⟨o', ho', x, hx, f1, f2, f3, f4, _⟩
          · exact .inr ((b1 k m hm hmb).2 hold)
          · have : o' = o := on_uniq hs ho' ho (by omega)
            subst this
            exact .inl ⟨x, hx, f2, f3⟩
      · rcases (hwl o ho k).1 hk1 with ⟨x, hx, _, h2⟩ | hb
        · obtain ⟨k', m', f1, f2, _, f4, _⟩ := h.ch x (on_all ho hx)
          have := (List.getElem?_eq_some_iff.1 f2).1
          omega
        · exact b2 k hk hb
    out := fun p hp x hx hxo => by
      obtain ⟨o, ho, e1, e2, e3⟩ := hon p hp
      rw [e3] at hx
      have := (List.mem_filter.1 hx).2
      rw [hxo] at this
      cases this }
/-- A change is made. -/
theorem OrdI.add {ms : List Mk} {V : Ps} {b : Nat} {ahead : List Nat} (h : OrdI ms V) (hs : WFS V) (hD : WF V.C.D) (hafl : ∀ x ∈ V.all, ∀ k ∈ x.after, k < (x.id : Int)) (hb : b < 5) (hah : ∀ j ∈ ahead, j < ms.length) (hsm : ms.length < 60) :
    OrdI (ms ++ [⟨b, ahead⟩]) (addX V (newX V b ms.length [1] (ahead.map fun j => ((j + 1 : Nat) : Int)))) := by
  have hb5 : b < V.C.D.vs.length := by rw [h.len]; exact hb
  have hcl := cont_len hs hD hb5
  have hsN := hs.newO hb5 hcl
  obtain ⟨o, ho, hob⟩ := newO_on (V := V) (b := b)
  have hxid : (newX V b ms.length [1] (ahead.map fun j => ((j + 1 : Nat) : Int))).id = ms.length + 1 := by show V.last + 1 = _; rw [h.last]
  generalize hx : newX V b ms.length [1] (ahead.map fun j => ((j + 1 : Nat) : Int)) = x at *
  have xb : x.b = b := by rw [← hx]; rfl
  have xf : x.frm = ms.length := by rw [← hx]; rfl
  have xd : x.data = [1] := by rw [← hx]; rfl
  have xa : x.after = (ahead.map fun j => ((j + 1 : Nat) : Int)).filter V.opn := by rw [← hx]; rfl
  have xo : x.out = false := by rw [← hx]; rfl
  have eA : addX V x = appO (newO V b) x := by unfold addX; rw [xb]
  obtain ⟨s, t, h1, h2, h3, hp⟩ := appO_all hsN ho (x := x) (by rw [xb]; exact hob)
  have hall : ∀ y, y ∈ (addX V x).all ↔ y = x ∨ y ∈ V.all := fun y => by
    rw [eA, hp.mem_iff, List.mem_cons, all_newO]
  have hop : ∀ n, (addX V x).opn n = (decide ((x.id : Int) = n) || V.opn n) := fun n => by
    have := opn_app hsN ho (x := x) (by rw [xb]; exact hob) n
    rw [opn_newO] at this
    rw [eA]; exact this
  have hopo : ∀ j, j < ms.length → (addX V x).opn ((j + 1 : Nat) : Int) = V.opn ((j + 1 : Nat) : Int) := fun j hj => by
    rw [hop, decide_eq_false (by omega), Bool.false_or]
  have hopx : (addX V x).opn ((ms.length + 1 : Nat) : Int) = true := by rw [hop, decide_eq_true (by omega), Bool.true_or]
  have hget : ∀ k, k < ms.length → (ms ++ [(⟨b, ahead⟩ : Mk)])[k]? = ms[k]? := fun k hk => List.getElem?_append_left hk
  have hcase : ∀ (k : Nat) (m : Mk), (ms ++ [(⟨b, ahead⟩ : Mk)])[k]? = some m → (k < ms.length ∧ ms[k]? = some m) ∨ (k = ms.length ∧ m = ⟨b, ahead⟩) := fun k m hm => by
    have hk := (List.getElem?_eq_some_iff.1 hm).1
    simp at hk
    by_cases e : k < ms.length
    · rw [hget k e] at hm; exact .inl ⟨e, hm⟩
    · have : k = ms.length := by omega
      subst this
      rw [List.getElem?_append_right (Nat.le_refl _), Nat.sub_self] at hm
      exact .inr ⟨rfl, by simpa using hm.symm⟩
  have hgo : ∀ (j : Nat) (m' : Mk), ms[j]? = some m' → (ms ++ [(⟨b, ahead⟩ : Mk)])[j]? = some m' := fun j m' hj => by
    rw [hget j (List.getElem?_eq_some_iff.1 hj).1]; exact hj
  have hC : (addX V x).C = V.C := by rw [eA]; exact (newO_C (V := V)).1
  have hmemv : ∀ v, v = atD V.C.D b → v ∈ verOf V.C.D b := fun v hv => by
    rw [hv]
    unfold atD
    rw [ver_at hb5]
    have hne := (hD.ver _ (List.getElem_mem hb5)).1
    unfold lastV
    rw [List.getLastD_eq_getLast?, List.getLast?_eq_some_getLast hne]
    exact List.getLast_mem hne
  -- the bytes of a block without its changes
  have hbase : ∀ p ∈ (newO V b).ons, (∀ (k : Nat) (m : Mk), ms[k]? = some m → m.b = p.b → (p.base[k]? = some 1 ↔ V.opn ((k + 1 : Nat) : Int) = false)) ∧ ∀ k : Nat, ms.length ≤ k → p.base[k]? ≠ some 1 := fun p hp => by
    unfold newO at hp
    split at hp
    · exact h.base p hp
    · rename_i hno
      rcases List.mem_append.1 hp with hp | hp
      · exact h.base p hp
      · have hp : p = ⟨b, contV V b, []⟩ := by simpa using hp
        subst hp
        have hcv : contV V b = atD V.C.D b := by unfold contV; rw [hno]
        have hvo := h.ver b hb _ (hmemv _ rfl)
        rw [← hcv] at hvo
        refine ⟨fun k m hm hmb => ?_, hvo.2⟩
        have hmb : m.b = b := hmb
        have hsafe : V.opn ((k + 1 : Nat) : Int) = false := by
          rw [opn_not]
          intro y hy e
          obtain ⟨k', m', f1, f2, f3, _⟩ := h.ch y hy
          have : k' = k := by omega
          subst this
          have : m' = m := by rw [f2] at hm; exact Option.some.inj hm
          subst this
          obtain ⟨q, hq, hyq⟩ := mem_all.1 hy
          exact onOf_none hno q hq (by rw [← hs.chb q hq y hyq, f3, hmb])
        exact ⟨fun _ => hsafe, fun _ => (hvo.1 k m hm hmb).1 hsafe⟩
  have honp : ∀ p ∈ (addX V x).ons, ∃ q ∈ (newO V b).ons, p.b = q.b ∧ p.base = q.base ∧ ∀ y, y ∈ p.l → y ∈ q.l ∨ y = x := fun p hp' => by
    rw [eA] at hp'
    obtain ⟨q, hq, rfl⟩ := List.mem_map.1 hp'
    refine ⟨q, hq, ?_, ?_, ?_⟩
    · split <;> rfl
    · split <;> rfl
    · intro y hy
      split at hy
      · rcases List.mem_append.1 hy with hy | hy
        · exact .inl hy
        · exact .inr (by simpa using hy)
      · exact .inl hy
  exact {
    last := by rw [eA]; show x.id = _; rw [hxid]; simp
    len := by rw [hC]; exact h.len
    small := by simp; omega
    mk_ := fun k m hm => by
      rcases hcase k m hm with ⟨hk, hm⟩ | ⟨rfl, rfl⟩
      · exact h.mk_ k m hm
      · exact ⟨hb, hah⟩
    ch := fun y hy => by
      rcases (hall y).1 hy with rfl | hy
      · refine ⟨ms.length, ⟨b, ahead⟩, hxid, by rw [List.getElem?_append_right (Nat.le_refl _), Nat.sub_self]; rfl, xb, xf, xd, fun j hj => ?_⟩
        have hjl := hah j hj
        rw [hopo j hjl]
        cases hopj : V.opn ((j + 1 : Nat) : Int) with
        | false => exact .inr rfl
        | true => left; rw [xa]; exact List.mem_filter.2 ⟨List.mem_map.2 ⟨j, hj, rfl⟩, hopj⟩
      · obtain ⟨k, m, e1, e2, e3, e4, e5, e6⟩ := h.ch y hy
        refine ⟨k, m, e1, hgo k m e2, e3, e4, e5, fun j hj => ?_⟩
        have hjk := (h.mk_ k m e2).2 j hj
        have hkl := (List.getElem?_eq_some_iff.1 e2).1
        rw [hopo j (by omega)]
        exact e6 j hj
    safe := fun k m hm hf j hj => by
      rcases hcase k m hm with ⟨hk, hm⟩ | ⟨rfl, rfl⟩
      · have hjk := (h.mk_ k m hm).2 j hj
        rw [hopo k hk] at hf
        rw [hopo j (by omega)]
        exact h.safe k m hm hf j hj
      · rw [hopx] at hf; cases hf
    ver := fun b' hb' v hv => by
      rw [hC] at hv
      obtain ⟨v1, v2⟩ := h.ver b' hb' v hv
      refine ⟨fun k m hm hmb => ?_, fun k hk => v2 k (by simp at hk; omega)⟩
      rcases hcase k m hm with ⟨hk, hm⟩ | ⟨rfl, rfl⟩
      · obtain ⟨w1, w2⟩ := v1 k m hm hmb
        refine ⟨fun hf => w1 (by rw [← hopo k hk]; exact hf), fun h1 j hj => ?_⟩
        have hjk := (h.mk_ k m hm).2 j hj
        rcases w2 h1 j hj with h3 | ⟨m', h3, h4, h5⟩
        · left; rw [hopo j (by omega)]; exact h3
        · exact .inr ⟨m', hgo j m' h3, h4, h5⟩
      · refine ⟨fun hf => ?_, fun h1 => absurd h1 (v2 _ (Nat.le_refl _))⟩
        rw [hopx] at hf; cases hf
    base := fun p hp => by
      obtain ⟨q, hq, e1, e2, _⟩ := honp p hp
      obtain ⟨b1, b2⟩ := hbase q hq
      rw [e1, e2]
      refine ⟨fun k m hm hmb => ?_, fun k hk => b2 k (by simp at hk; omega)⟩
      rcases hcase k m hm with ⟨hk, hm⟩ | ⟨rfl, rfl⟩
      · rw [hopo k hk]; exact b1 k m hm hmb
      · constructor
        · intro h1; exact absurd h1 (b2 _ (Nat.le_refl _))
        · intro hf; rw [hopx] at hf; cases hf
    out := fun p hp' y hy hyo j hj hopj => by
      rw [eA] at hp'
      obtain ⟨q, hq, rfl⟩ := List.mem_map.1 hp'
      have hyq : y ∈ q.l := by
        split at hy
        · rcases List.mem_append.1 hy with hy | hy
          · exact hy
          · have : y = x := by simpa using hy
            rw [this, xo] at hyo; cases hyo
        · exact hy
      have hqV : q ∈ V.ons := by
        unfold newO at hq
        split at hq
        · exact hq
        · rcases List.mem_append.1 hq with hq | hq
          · exact hq
          · have : q = ⟨b, contV V b, []⟩ := by simpa using hq
            rw [this] at hyq; cases hyq
      have hya := on_all hqV hyq
      have h4 := hafl y hya j hj
      have h5 := hs.idr y hya
      have hold : V.opn j = true := by
        rw [hop, decide_eq_false (by have := h.last; omega), Bool.false_or] at hopj; exact hopj
      obtain ⟨z, hz, e1, e2⟩ := h.out q hqV y hyq hyo j hj hold
      refine ⟨z, ?_, e1, e2⟩
      split
      · exact List.mem_append.2 (.inl hz)
      · exact hz }
/-- Wherever the power goes. -/
theorem OrdI.end {ms : List Mk} {V : Ps} (h : OrdI ms V) {f : Nat → Bk} (hf : ∀ b : Nat, b < 5 → f b ∈ verOf V.C.D b) {k : Nat} {m : Mk} (hm : ms[k]? = some m) :
    (V.opn ((k + 1 : Nat) : Int) = false → (f m.b)[k]? = some 1) ∧ ((f m.b)[k]? = some 1 → ∀ j ∈ m.after, ∃ m', ms[j]? = some m' ∧ (f m'.b)[j]? = some 1) := by
  obtain ⟨hmb, hma⟩ := h.mk_ k m hm
  obtain ⟨v1, _⟩ := h.ver m.b hmb _ (hf _ hmb)
  obtain ⟨w1, w2⟩ := v1 k m hm rfl
  refine ⟨w1, fun h1 j hj => ?_⟩
  rcases w2 h1 j hj with h3 | ⟨m', h3, h4, h5⟩
  · have hjk := hma j hj
    have hkl := (List.getElem?_eq_some_iff.1 hm).1
    have hmj : ms[j]? = some ms[j] := List.getElem?_eq_getElem (by omega)
    have hbj := (h.mk_ j _ hmj).1
    exact ⟨ms[j], hmj, ((h.ver _ hbj _ (hf _ hbj)).1 j _ hmj rfl).1 h3⟩
  · exact ⟨m', h3, by rw [h4]; exact h5⟩
end Go.Proofs.YtocjjigmpgekfaaGreat
end
section
/- A row of one's own that grows, of any elements. -/
open Go Go.Den Go.Proofs
namespace Go.Den
section
variable {P : Program} {w : World}
/-- What an element's type lays: its size, its bytes. -/
def elemG (P : Program) (T : TypeId) (k bytes : Nat) : Prop := ∃ e i zv, P.underlying T = some (.slice e) ∧ P.info? e = some i ∧ i.size = k ∧ i.zero = some zv ∧ zv.cells.size = k ∧ i.bytes = bytes
def elemGb (P : Program) (T : TypeId) : Option (Nat × Nat × Nat) :=
  match P.underlying T with
  | some (.slice e) => match P.info? e with
    | some i => match i.zero with
      | some z => some (i.size, z.cells.size, i.bytes)
      | none => none
    | none => none
  | _ => none
theorem elemG_of {T : TypeId} {k bytes : Nat} (h : elemGb P T = some (k, k, bytes)) : elemG P T k bytes := by
  unfold elemGb at h
  split at h
  · rename_i e he
    split at h
    · rename_i i hi
      split at h
      · rename_i zv hz
        have h := Option.some.inj h
        simp only [Prod.mk.injEq] at h
        exact ⟨e, i, zv, he, hi, h.1, hz, h.2.1, h.2.2⟩
      · cases h
    · cases h
  · cases h
theorem Own.nilG {base k bytes : Nat} {T : TypeId} (hT : elemG P T k bytes) : Own P w base T k none 0 0 [] := by
  obtain ⟨e, i, zv, he, _⟩ := hT
  exact ⟨e, he, World.ownsRow_nil w base e k⟩
/-- append of some new values: the row is where it was, or new. -/
theorem Own.appG {base k bytes l c m c2 : Nat} {T ty : TypeId} {a : Option Addr} {ad : Addr} {xs ys : List Value} (hT : elemG P T k bytes) (hk : 0 < k) (h : Own P w base T k a l c xs)
    (hr : Row w (some ad) ys) (hl : ys.length = m * k) (hm : 0 < m) (h1 : ∀ v ∈ ys, v.oneCell' = true) (h63 : (l + m) * bytes ≤ 140737488355328) (hb : 0 < bytes) (hbase : base ≤ w.heap.size) :
    ∃ q c' w', (Builtin.append_ #[T, T] ty #[.slice a l c, .slice (some ad) m c2]).run P w = .ok (.slice (some q) (l + m) c') w' ∧ Own P w' base T k (some q) (l + m) c' (xs ++ ys) ∧ Mod (fun x => ∃ q, a = some q ∧ x = q.block) w w' ∧
      ((∃ q', a = some q' ∧ q.block = q'.block) ∨ w.heap.size ≤ q.block) := by
  obtain ⟨e, i, zv, he, hi, hsz, hz, hzc, hby⟩ := hT
  obtain ⟨e', he', how⟩ := h
  have : e' = e := by rw [he] at he'; simpa using he'.symm
  subst this
  have hlm : l + m ≤ (l + m) * bytes := Nat.le_mul_of_pos_right _ hb
  have hmb : m * bytes ≤ (l + m) * bytes := Nat.mul_le_mul_right _ (by omega)
  have hcell : ∀ j u, ys[j]? = some u → w.cell? (ad.add j) = some u := by
    intro j u hj
    rcases hr with hr | ⟨b, o, e, hat⟩
    · subst hr; simp at hj
    · simp at e; subst e; exact hat.cell hj
  obtain ⟨v', w', hrun, how', hgr, _⟩ := run_append_own w base T ty e' i zv k bytes he hi hz hsz hby hzc hk (.slice a l c) l xs how ad m c2 ys hl hcell h1 (by simp [maxLen]; omega) h63 hbase
  have hmod : Mod (fun x => ∃ q, a = some q ∧ x = q.block) w w' := (Mod.grown hgr).mono fun x hx e => by
    cases a with
    | none => cases e
    | some q => exact ⟨q, rfl, by simpa [Value.ownBlock] using e.symm⟩
  rcases how.2 with ⟨hv, hx⟩ | ⟨g, cap, cur, hv, hbg, hg, hnc, hcm, hcs, htake⟩
  · simp at hv
    obtain ⟨rfl, rfl, rfl⟩ := hv
    have hr2 := run_append_nil (P := P) w T ty e' i zv he hi hz ad m c2 ys (by rw [hsz]; exact hl) hcell hm (by omega) (by rw [hby]; omega)
    have hrun' := hrun
    rw [hr2] at hrun'
    simp only [Result.ok.injEq] at hrun'
    obtain ⟨rfl, _⟩ := hrun'
    rw [Nat.zero_add] at how' ⊢
    exact ⟨_, _, w', hrun, ⟨e', he, how'⟩, hmod, .inr (Nat.le_refl _)⟩
  · simp at hv
    obtain ⟨rfl, rfl⟩ := hv
    by_cases hroom : l + m ≤ c
    · have hr2 := run_append_room (P := P) w T ty e' i he hi g l c cur hg ad m c2 ys (by rw [hsz]; exact hl) hcell h1 hroom (by rw [hsz, hl, hcs, ← Nat.add_mul]; exact Nat.mul_le_mul_right _ hroom)
      have hrun' := hrun
      rw [hr2] at hrun'
      simp only [Result.ok.injEq] at hrun'
      obtain ⟨rfl, _⟩ := hrun'
      exact ⟨_, _, w', hrun, ⟨e', he, how'⟩, hmod, .inl ⟨_, rfl, rfl⟩⟩
    · have holds : ∀ j u, xs[j]? = some u → w.cell? ((⟨g, 0, none⟩ : Addr).add j) = some u := how.cells (g := g) rfl
      have hr2 := run_append_grow (P := P) w T ty e' i zv he hi hz ⟨g, 0, none⟩ l c xs (by rw [hsz]; exact how.1) holds ad m c2 ys (by rw [hsz]; exact hl) hcell (by omega) (by omega) (growslice_fits (by omega) (by rw [hby]; exact h63))
      have hrun' := hrun
      rw [hr2] at hrun'
      simp only [Result.ok.injEq] at hrun'
      obtain ⟨rfl, _⟩ := hrun'
      exact ⟨_, _, w', hrun, ⟨e', he, how'⟩, hmod, .inr (Nat.le_refl _)⟩
/-- A store into a row of one's own. -/
theorem Own.setK {base k l c g i : Nat} {T T' : TypeId} {ys : List Value} {v : Value} (h : Own P w base T k (some ⟨g, 0, none⟩) l c ys) (hT : scal P T' = true) (hi : i < l * k) (hv : v.oneCell' = true) :
    ∃ w', (Instr.storeAt T' (.pointer (some ⟨g, i, none⟩)) v).run P w = .ok () w' ∧ Own P w' base T k (some ⟨g, 0, none⟩) l c (ys.set i v) ∧ Mod (fun x => x = g) w w' := by
  have hlen := h.len
  obtain ⟨e, he, h1, h2⟩ := h
  rcases h2 with ⟨hn, _⟩ | ⟨g', cap, cur, hw, hb, hg, hle, hm, hsz, ht⟩
  · cases hn
  · simp at hw
    obtain ⟨rfl, rfl⟩ := hw
    have hcur : w.heap[g]? = some (.cells ⟨cur.toList⟩ e (0, 0)) := hg
    have hmul : l * k ≤ c * k := Nat.mul_le_mul_right _ hle
    have hci : i < cur.toList.length := by simp [hsz]; omega
    refine ⟨_, store_cell hT hcur hci (by simp) hv, ⟨e, he, by simpa using h1, .inr ⟨g, c, ⟨cur.toList.set i v⟩, rfl, hb, heap_put_same (lt_of_heap hg), hle, hm, by simp [hsz], ?_⟩⟩, (Mod.refl (fun x => x = g) w).put (.inr rfl) _⟩
    show (cur.toList.set i v).take (l * k) = ys.set i v
    rw [List.take_set, ht]
end
end Go.Den
end
section
/- The statement DiskSafe: behind a crash. -/
open Go Go.Den Go.Proofs
namespace Go.Den
/-- Rows of bytes in a row. -/
def Rows2 (w : World) (a : Option Addr) (xss : List (List UInt8)) : Prop :=
  xss = [] ∨ ∃ (b o : Nat) (H : List Value), a = some ⟨b, o, none⟩ ∧ At w b o H ∧ H.length = xss.length ∧ ∀ (r : Nat) (x : List UInt8), xss[r]? = some x → ∃ (ar : Option Addr) (cr : Nat), H[r]? = some (Value.slice ar x.length cr) ∧ Row w ar (u8L x) ∧ x.length ≤ 9223372036854775807
theorem Rows2.nos {w w' : World} {a : Option Addr} {xss : List (List UInt8)} (h : Rows2 w a xss) (m : Mod No w w') : Rows2 w' a xss := by
  rcases h with h | ⟨b, o, H, h1, h2, h3, h4⟩
  · exact .inl h
  · refine .inr ⟨b, o, H, h1, h2.keep m id, h3, fun r x hx => ?_⟩
    obtain ⟨ar, cr, e1, e2, e3⟩ := h4 r x hx
    exact ⟨ar, cr, e1, e2.nos m, e3⟩
end Go.Den
namespace Go.Proofs.YtocjjigmpgekfaaGreat
section
variable {w : World} {D : St}
end
end Go.Proofs.YtocjjigmpgekfaaGreat
end
section
/- The statement PatchOrder: the law's text. -/
open Go Go.Den Go.Proofs
namespace Go.Proofs.YtocjjigmpgekfaaGreat
def bL (bs : List Bool) : List Value := bs.map .bool
@[simp] theorem length_bL (bs : List Bool) : (bL bs).length = bs.length := by simp [bL]
theorem elemZ_bool : elemZ Tryz.prog 93 1 (.bool false) 1 := by unfold elemZ; kernel_rfl
def nI' (js : List Nat) : List Int := js.map fun j : Nat => (j : Int)
section
variable {w w' w0 : World} {R R' : Nat → Prop} {sp d base lc : Nat} {la : Option Addr} {ms : List Mk} {V : Ps} {K : Value → World → Prop}
theorem flat_get {H : List (List Value)} (hH : ∀ c ∈ H, c.length = 3) : ∀ {k j : Nat} {c : List Value} {v : Value}, H[k]? = some c → c[j]? = some v → H.flatten[k * 3 + j]? = some v := by
  induction H with
  | nil => intro k j c v h; simp at h
  | cons u r ih =>
    intro k j c v h hv
    have hu := hH u (by simp)
    rw [List.flatten_cons]
    cases k with
    | zero =>
      simp at h; subst h
      rw [Nat.zero_mul, Nat.zero_add, List.getElem?_append_left (by have := (List.getElem?_eq_some_iff.1 hv).1; omega)]; exact hv
    | succ k =>
      rw [List.getElem?_append_right (by omega)]
      have e : (k + 1) * 3 + j - u.length = k * 3 + j := by omega
      rw [e]; exact ih (fun c hc => hH c (by simp [hc])) (by simpa using h) hv
end
end Go.Proofs.YtocjjigmpgekfaaGreat
end
section
/- The statement PatchOrder: the law's text, walked. -/
open Go Go.Den Go.Proofs
namespace Go.Proofs.YtocjjigmpgekfaaGreat
section
variable {w w' w0 : World} {R R' : Nat → Prop} {sp d base lc : Nat} {la : Option Addr} {ms : List Mk} {V : Ps} {K : Value → World → Prop}
theorem bcell {p q : Prop} [Decidable p] [Decidable q] (h : p ↔ q) : [Value.bool (decide p)] = [Value.bool (decide q)] := by rw [decide_eq_decide.2 h]
theorem bcellF {q : Prop} [Decidable q] (h : ¬ q) : [Value.bool false] = [Value.bool (decide q)] := by rw [decide_eq_false h]
theorem elemG_ids : elemG Tryz.prog 37 1 8 := elemG_of (by kernel_rfl)
theorem elemG_ints : elemG Tryz.prog 49 1 8 := elemG_of (by kernel_rfl)
theorem Pz.ord (h : Pz w0 R w sp d V) : ∀ o ∈ V.ons, atD V.C.D o.b = withL o.base (o.l.filter (·.out)) := by
  obtain ⟨C, e, hw⟩ := h.full
  intro o ho
  rw [← e]; exact hw.acc o ho
theorem Pz.keep {S : Nat → Prop} (h : Pz w0 R w sp d V) (k : Mod S w w') (hs : ∀ x, R x → ¬ S x) (hw : ∀ x, x < w0.heap.size → ¬ S x) : Pz w0 R w' sp d V := by
  obtain ⟨C, e1, e2, hw', rl, c, mo, mm, ca, oa, Lo, Lm, h⟩ := h
  exact ⟨C, e1, e2, hw', rl, c, mo, mm, ca, oa, Lo, Lm, h.keepS k hs hw⟩
/-- Those ahead, as the law makes them. -/
def Ahd (w7 : World) (n : Nat) (x : List Value) (w16 : World) : Prop :=
  ∃ (js : List Nat) (a13 a14 : Option Addr) (c13 c14 : Nat) (y : Value), x = [.slice a13 js.length c13, .slice a14 js.length c14, .int .i64 js.length, y] ∧ js.length ≤ 4 ∧ (∀ j ∈ js, j < n) ∧
    Own Tryz.prog w16 w7.heap.size 37 1 a13 js.length c13 (iL (js.map fun j => ((j + 1 : Nat) : Int))) ∧ Own Tryz.prog w16 w7.heap.size 49 1 a14 js.length c14 (iL (nI' js)) ∧ (∀ q q', a13 = some q → a14 = some q' → q.block ≠ q'.block) ∧ Mod No w7 w16
theorem Ahd.next {w7 w16 : World} {n j : Nat} {js : List Nat} {a13 a14 : Option Addr} {c13 c14 : Nat} {y0 y1 : Value} (hl : js.length < 4) (hjs : ∀ j ∈ js, j < n) (hj : j < n)
    (o1 : Own Tryz.prog w16 w7.heap.size 37 1 a13 js.length c13 (iL (js.map fun j => ((j + 1 : Nat) : Int)))) (o2 : Own Tryz.prog w16 w7.heap.size 49 1 a14 js.length c14 (iL (nI' js))) (hne : ∀ q q', a13 = some q → a14 = some q' → q.block ≠ q'.block) (hm : Mod No w7 w16) :
    ∃ (a104 : Option Addr) (l104 c104 : Nat), ∃ w19 : World, Ru (Instr.buildSlice 37 1 #[(0, .int .i64 ((j + 1 : Nat) : Int))]) w16 (.slice a104 l104 c104) w19 ∧ ∃ (a105 : Option Addr) (l105 c105 : Nat), ∃ w20 : World, Ru (Builtin.append_ #[37, 37] 37 #[.slice a13 js.length c13, .slice a104 l104 c104]) w19 (.slice a105 l105 c105) w20 ∧
      ∃ (a14' : Option Addr) (l14' c14' : Nat), (.slice a14 js.length c14 : Value) = .slice a14' l14' c14' ∧ ∃ (a108 : Option Addr) (l108 c108 : Nat), ∃ w21 : World, Ru (Instr.buildSlice 49 1 #[(0, .int .i64 j)]) w20 (.slice a108 l108 c108) w21 ∧ ∃ (a109 : Option Addr) (l109 c109 : Nat), ∃ w22 : World, Ru (Builtin.append_ #[49, 49] 49 #[.slice a14' l14' c14', .slice a108 l108 c108]) w21 (.slice a109 l109 c109) w22 ∧ (Ahd w7 n [.slice a105 l105 c105, .slice a109 l109 c109, .int .i64 ((js.length + 1 : Nat) : Int), y0] w22 ∧ (4 - nI [.slice a105 l105 c105, .slice a109 l109 c109, .int .i64 ((js.length + 1 : Nat) : Int), y0] 2).toNat < (4 - nI [.slice a13 js.length c13, .slice a14 js.length c14, .int .i64 js.length, y1] 2).toNat) := by
  refine ⟨_, _, _, _, builtI64 _ _, ?_⟩
  have m19 : Mod No w16 (w16.alloc (.cells ⟨[.int .i64 ((j + 1 : Nat) : Int)]⟩ 2)) := (Mod.refl No w16).alloc _
  have r19 : Row (w16.alloc (.cells ⟨[.int .i64 ((j + 1 : Nat) : Int)]⟩ 2)) (some ⟨w16.heap.size, 0, none⟩) (iL [((j + 1 : Nat) : Int)]) := .inr ⟨_, _, rfl, AtU.new.at⟩
  generalize w16.alloc (.cells ⟨[.int .i64 ((j + 1 : Nat) : Int)]⟩ 2) = w19 at *
  have hz0 := hm.size
  have hz1 := m19.size
  obtain ⟨q1, c1, w20, run1, p1, mm1, hq1⟩ := (o1.nos m19).appG (ty := 37) (m := 1) (c2 := 1) elemG_ids (by omega) r19 rfl (by omega) (one_iL _) (by omega) (by omega) (by omega)
  have b1 : ∀ {q}, a13 = some q → _ := fun {q} hq => o1.base (q := q) hq
  have b2 : ∀ {q}, a14 = some q → _ := fun {q} hq => o2.base (q := q) hq
  have hb1 := p1.base rfl
  have M20 : Mod No w7 w20 := (hm.no m19).trans mm1 fun x hx ⟨q, hq, e⟩ => by have := (b1 hq).1; omega
  have o2' := (o2.nos m19).keep mm1 fun q hq ⟨q', hq', e⟩ => hne q' q hq' hq e.symm
  refine ⟨_, _, _, w20, run1, _, _, _, rfl, _, _, _, _, builtI _ _, ?_⟩
  have hz2 := mm1.size
  have m21 : Mod No w20 (w20.alloc (.cells ⟨[.int .i64 (j : Int)]⟩ 3)) := (Mod.refl No w20).alloc _
  have r21 : Row (w20.alloc (.cells ⟨[.int .i64 (j : Int)]⟩ 3)) (some ⟨w20.heap.size, 0, none⟩) (iL [(j : Int)]) := .inr ⟨_, _, rfl, AtU.new.at⟩
  generalize w20.alloc (.cells ⟨[.int .i64 (j : Int)]⟩ 3) = w21 at *
  have hz3 := m21.size
  obtain ⟨q2, c2, w22, run2, p2, mm2, hq2⟩ := (o2'.nos m21).appG (ty := 49) (m := 1) (c2 := 1) elemG_ints (by omega) r21 rfl (by omega) (one_iL _) (by omega) (by omega) (by omega)
  have hz4 := mm2.size
  have hd : q1.block ≠ q2.block := by
    rcases hq2 with ⟨q', hq', e⟩ | e
    · rcases hq1 with ⟨q'', hq'', e2⟩ | e2
      · rw [e, e2]; exact hne _ _ hq'' hq'
      · have := (b2 hq').2; omega
    · omega
  refine ⟨_, _, _, w22, run2, ⟨js ++ [j], some q1, some q2, c1, c2, y0, by simp, by simp; omega, fun i hi => ?_, ?_, ?_, fun q q' e e' => ?_, ?_⟩, by simp [nI, nth]; omega⟩
  · rcases List.mem_append.1 hi with h | h
    · exact hjs i h
    · rw [List.mem_singleton.1 h]; exact hj
  · have := (p1.nos m21).keep mm2 fun q hq ⟨q', hq', e⟩ => by
      cases hq
      rcases hq1 with ⟨q'', hq'', e2⟩ | e2
      · exact hne _ _ hq'' hq' (by rw [← e2]; exact e)
      · have := (b2 hq').2; omega
    simpa [iL] using this
  · simpa [iL, nI'] using p2
  · cases e; cases e'; exact hd
  · exact (M20.no m21).trans mm2 fun x hx ⟨q, hq, e⟩ => by have := (b2 hq).1; omega
end
end Go.Proofs.YtocjjigmpgekfaaGreat
end
section
/- Layer 2, the document's disk: what it is in memory, and the functions that read it. -/
open Go Go.Den Go.Proofs
namespace Go.Den
section
variable {P : Program} {w : World}
def strBT (P : Program) (S T : TypeId) : Bool :=
  match P.underlying S with
  | some .string => match P.underlying T with
    | some (.slice e) => match P.underlying e with | some (.int .u8) => true | _ => false
    | _ => false
  | _ => false
/-- A string's bytes. -/
theorem bytes_run {S T : TypeId} {xs : List UInt8} (hT : strBT P S T = true) : ∃ c w', (convert S T (.string ⟨xs.toArray⟩)).run P w = .ok (.slice (some ⟨w.heap.size, 0, none⟩) xs.length c) w' ∧ AtU w' w.heap.size 0 (u8L xs) ∧ Mod No w w' ∧ xs.length ≤ c := by
  have hT' : ∃ e, P.underlying S = some .string ∧ P.underlying T = some (.slice e) ∧ P.underlying e = some (.int .u8) := by
    unfold strBT at hT
    split at hT
    · rename_i h0
      split at hT
      · rename_i e he
        split at hT
        · rename_i h1; exact ⟨e, h0, he, h1⟩
        · cases hT
      · cases hT
    · cases hT
  obtain ⟨e, h1, h2, h3⟩ := hT'
  have hsz : (⟨xs.toArray⟩ : ByteArray).size = xs.length := by simp [ByteArray.size]
  have h := run_bytes_of_string (P := P) w S T e ⟨xs.toArray⟩ h1 h2 h3
  rw [hsz] at h
  have hl : (bytesRow ⟨xs.toArray⟩ (grownCap w xs.length 0 e)).toList = u8L xs ++ List.replicate (grownCap w xs.length 0 e - xs.length) (.int .u8 0) := by
    unfold bytesRow; rw [hsz]; simp [u8L, u8]
  have hs2 : xs.length ≤ (bytesRow ⟨xs.toArray⟩ (grownCap w xs.length 0 e)).size := by
    rw [← Array.length_toList, hl]; simp
  generalize bytesRow ⟨xs.toArray⟩ (grownCap w xs.length 0 e) = arr at *
  refine ⟨_, _, h, ⟨arr.toList, e, (arr.size, arr.size + 1), heap_new w.drew _, ?_, ?_, fun j _ hj hc => ?_⟩, (((Mod.refl No w).drew (b := w)).alloc _ : Mod No w (w.drew.alloc _)), grownCap_ge w xs.length 0 e⟩
  · rw [hl]; simp
  · rw [hl]; simp
  · simp at hj; omega
end
def strV (x : Bk) : Value := .string ⟨x.toArray⟩
def hdrs (hs : List (Nat × Nat)) (vs : List (List Bk)) : List Value := List.zipWith (fun h v => .slice (some ⟨h.1, 0, none⟩) (List.length v) h.2) hs vs
def heldB (D : St) : Bool := decide (D.left ≠ -1)
def leftB (D : St) : Int := if D.left = -1 then 0 else D.left
structure RefIn (w : World) (R : Nat → Prop) (b vb vc : Nat) (hs : List (Nat × Nat)) (D : St) : Prop where
  cell : AtU w b 0 [.slice (some ⟨vb, 0, none⟩) D.vs.length vc, .bool (heldB D), .int .i64 (leftB D)]
  vec : AtU w vb 0 (hdrs hs D.vs)
  cap : D.vs.length ≤ vc
  hl : hs.length = D.vs.length
  row : ∀ (i : Nat) (v : List Bk), D.vs[i]? = some v → ∃ q c, hs[i]? = some (q, c) ∧ v.length ≤ c ∧ At w q 0 (v.map strV) ∧ R q ∧ q ≠ b ∧ q ≠ vb
  rb : R b
  rv : R vb
  ne : b ≠ vb
  wf : WF D
  lt : ∀ x, R x → x < w.heap.size
section
variable {w : World} {R : Nat → Prop} {b vb vc : Nat} {hs : List (Nat × Nat)} {D : St}
theorem RefIn.keep {S : Nat → Prop} {w' : World} (h : RefIn w R b vb vc hs D) (m : Mod S w w') (hS : ∀ x, R x → ¬ S x) : RefIn w' R b vb vc hs D where
  cell := h.cell.keep m (hS _ h.rb)
  vec := h.vec.keep m (hS _ h.rv)
  cap := h.cap
  hl := h.hl
  row := fun i v hv => by
    obtain ⟨q, c, h1, h2, h3, h4, h5⟩ := h.row i v hv
    exact ⟨q, c, h1, h2, h3.keep m (hS _ h4), h4, h5⟩
  rb := h.rb
  rv := h.rv
  ne := h.ne
  wf := h.wf
  lt := fun x hx => Nat.lt_of_lt_of_le (h.lt x hx) m.size
theorem RefIn.nos {w' : World} (h : RefIn w R b vb vc hs D) (m : Mod No w w') : RefIn w' R b vb vc hs D := h.keep m fun _ _ => id
theorem RefIn.drew (h : RefIn w R b vb vc hs D) : RefIn (drew w) R b vb vc hs D := h.nos (Mod.refl No w).drew
theorem hdrs_get {i q c : Nat} {vs : List (List Bk)} {v : List Bk} (h1 : hs[i]? = some (q, c)) (h2 : vs[i]? = some v) : (hdrs hs vs)[i]? = some (.slice (some ⟨q, 0, none⟩) v.length c) := by
  simp [hdrs, List.getElem?_zipWith, h1, h2]
end
end Go.Den
namespace Go.Proofs.YtocjjigmpgekfaaGreat
section
variable {w : World} {R : Nat → Prop} {b vb vc : Nat} {hs : List (Nat × Nat)} {D : St} {K : Value → World → Prop}
theorem rv (h : RefIn w R b vb vc hs D) : Ru (Instr.loadAt 145 (.pointer (some (Addr.add ⟨b, 0, none⟩ 0)))) w (.slice (some ⟨vb, 0, none⟩) D.vs.length vc) w := by
  rw [add_none]; exact h.cell.at.load (by kernel_rfl) rfl
theorem rh (h : RefIn w R b vb vc hs D) : Ru (Instr.loadAt 4 (.pointer (some (Addr.add ⟨b, 0, none⟩ 1)))) w (.bool (heldB D)) w := by
  rw [add_none]; exact h.cell.at.load (by kernel_rfl) rfl
theorem rl (h : RefIn w R b vb vc hs D) : Ru (Instr.loadAt 3 (.pointer (some (Addr.add ⟨b, 0, none⟩ 2)))) w (.int .i64 (leftB D)) w := by
  rw [add_none]; exact h.cell.at.load (by kernel_rfl) rfl
theorem idx_blk {a : Addr} {n c i : Nat} (hi : i < n) : Al (Instr.indexAt 145 (.slice (some a) n c) (.int .i64 i)) (.pointer (some (a.add i))) := by
  intro w'
  have := index_slice (P := Tryz.prog) (T := 145) (k := 1) (a := a) (n := n) (c := c) (kk := .i64) (i := i) (by kernel_rfl) (by omega) (by omega) w'
  rwa [Int.toNat_natCast, Nat.mul_one] at this
theorem idx_str {a : Addr} {n c i : Nat} (hi : i < n) : Al (Instr.indexAt 40 (.slice (some a) n c) (.int .i64 i)) (.pointer (some (a.add i))) := by
  intro w'
  have := index_slice (P := Tryz.prog) (T := 40) (k := 1) (a := a) (n := n) (c := c) (kk := .i64) (i := i) (by kernel_rfl) (by omega) (by omega) w'
  rwa [Int.toNat_natCast, Nat.mul_one] at this
/-- The versions of a block, as they are loaded. -/
theorem rrow (h : RefIn w R b vb vc hs D) {i : Nat} {v : List Bk} (hv : D.vs[i]? = some v) : ∃ q c, Ru (Instr.loadAt 40 (.pointer (some (Addr.add (Addr.add ⟨vb, 0, none⟩ i) 0)))) w (.slice (some ⟨q, 0, none⟩) v.length c) w ∧ v.length ≤ c ∧ At w q 0 (v.map strV) ∧ R q ∧ q ≠ b ∧ q ≠ vb ∧ hs[i]? = some (q, c) := by
  obtain ⟨q, c, h1, h2, h3, h4, h5, h6⟩ := h.row i v hv
  refine ⟨q, c, ?_, h2, h3, h4, h5, h6, h1⟩
  rw [add_none, add_none, Nat.add_zero]
  exact h.vec.at.load (by kernel_rfl) (hdrs_get h1 hv)
theorem strV_get {w : World} {q i : Nat} {v : List Bk} {x : Bk} (h : At w q 0 (v.map strV)) (hx : v[i]? = some x) : Ru (Instr.loadAt 9 (.pointer (some (Addr.add ⟨q, 0, none⟩ i)))) w (.string ⟨x.toArray⟩) w := by
  rw [add_none]
  exact h.load (by kernel_rfl) (by rw [List.getElem?_map, hx]; rfl)
theorem last_get {v : List Bk} (h : v ≠ []) : v[v.length - 1]? = some (lastV v) := by
  rw [← List.getLast?_eq_getElem?]; unfold lastV
  rw [List.getLastD_eq_getLast?, List.getLast?_eq_some_getLast h]; rfl
theorem there_c (h : RefIn w R b vb vc hs D) {n : Int} (hk : K (.bool (decide (errOf D n = 0))) w) : Cal Tryz.prog F_leveeref02_Disk_there #[.pointer (some ⟨b, 0, none⟩), .int .i64 n] w K := by
  apply C_leveeref02_Disk_there
  unfold D_leveeref02_Disk_there
  refine Share.cut (fun x w' => x = [.bool (decide (errOf D n = 0))] ∧ w' = w) (cond_of (fun hb => ?_) (fun hb => ?_)) ?_
  · have hb := of_decide_eq_true hb
    refine ⟨_, rfl, _, _, _, rv h, ?_, rfl⟩
    congr 2; rw [Bool.eq_iff_iff]; simp only [decide_eq_true_eq]
    unfold errOf; split <;> omega
  · have hb := of_decide_eq_false hb
    refine ⟨?_, rfl⟩
    have : errOf D n = 3 := by unfold errOf; rw [if_pos (by omega)]
    rw [this]; rfl
  · rintro x w' ⟨rfl, rfl⟩
    exact ⟨_, rfl, hk⟩
theorem refRead_c (h : RefIn w R b vb vc hs D) (hsm : Small D) {n : Int} (hk : ∀ w' a c, Mod No w w' → Fresh w w' a (rdB D n) → K (.tuple #[.slice a (rdB D n).length c, .int .i64 (errOf D n)]) w') : Cal Tryz.prog F_leveeref02_Disk_Read #[.pointer (some ⟨b, 0, none⟩), .int .i64 n] w K := by
  apply C_leveeref02_Disk_Read
  unfold D_leveeref02_Disk_Read
  refine there_c h ⟨_, rfl, ?_⟩
  rcases err_cases (D := D) n with ⟨he, _⟩ | ⟨he, i, v, rfl, hv, hver⟩
  · have hb : rdB D n = [] := by unfold rdB; rw [if_neg (by omega)]
    refine tt (by rw [he]; rfl) ?_
    have := hk w none 0 (Mod.refl _ _) (.inl ⟨rfl, hb⟩)
    rw [hb, he] at this; exact this
  · have hb : rdB D i = lastV v := by unfold rdB; rw [if_pos he, hver]
    have hvne := (h.wf.ver v (List.mem_of_getElem? hv)).1
    have hvp := List.length_pos_iff.2 hvne
    have hvl := hsm v (List.mem_of_getElem? hv)
    obtain ⟨q, c, hl, hc, hat, _⟩ := rrow h hv
    refine ff (by rw [he]; rfl) ⟨_, rfl, _, _, _, rv h, _, idx_blk (List.getElem?_eq_some_iff.1 hv).1, _, _, _, hl, ?_⟩
    rw [wrap64 (x := (v.length : Int) - 1) (by omega) (by omega), show (v.length : Int) - 1 = ((v.length - 1 : Nat) : Int) by omega]
    refine ⟨_, idx_str (by omega), _, strV_get hat (last_get hvne), ?_⟩
    obtain ⟨c2, w2, h2, at2, m2, _⟩ := bytes_run (P := Tryz.prog) (w := w) (S := 9) (T := 36) (xs := lastV v) (by kernel_rfl)
    refine ⟨_, _, _, w2, h2, ?_⟩
    have := hk w2 (some ⟨w.heap.size, 0, none⟩) c2 m2 (.inr ⟨_, rfl, Nat.le_refl _, by rw [hb]; exact at2⟩)
    rw [hb, he] at this; exact this
theorem refStopped_c (h : RefIn w R b vb vc hs D) (hk : K (.bool (decide (D.left = 0))) w) : Cal Tryz.prog F_leveeref02_Disk_Stopped #[.pointer (some ⟨b, 0, none⟩)] w K := by
  apply C_leveeref02_Disk_Stopped
  unfold D_leveeref02_Disk_Stopped
  refine Share.dup ⟨_, rfl, _, rh h, cond_of (fun hb => ?_) (fun hb => ?_)⟩
  · have hb : D.left ≠ -1 := by unfold heldB at hb; exact of_decide_eq_true hb
    refine ⟨_, rfl, _, rl h, _, rfl, ?_⟩
    have : (leftB D == 0) = decide (D.left = 0) := by unfold leftB; rw [if_neg hb]; rfl
    rw [this]; exact hk
  · have hb : D.left = -1 := by unfold heldB at hb; simpa using of_decide_eq_false hb
    refine ⟨_, rfl, ?_⟩
    rw [hb] at hk; exact hk
end
end Go.Proofs.YtocjjigmpgekfaaGreat
end
section
/- Layer 2: whether both disks are alike; new disks of the document's; disks of bytes. -/
open Go Go.Den Go.Proofs
namespace Go.Proofs.YtocjjigmpgekfaaGreat
section
variable {w : World} {R R2 : Nat → Prop} {b vb vc b2 sb mb sc : Nat} {hs : List (Nat × Nat)} {L : List (Int × Value)} {D : St} {K : Value → World → Prop}
theorem Fresh.keep {w0 w w' : World} {a : Option Addr} {xs : List UInt8} {S : Nat → Prop} (h : Fresh w0 w a xs) (m : Mod S w w') (hs : ∀ q, a = some q → ¬ S q.block) : Fresh w0 w' a xs := by
  rcases h with h | ⟨q, rfl, hq, hat⟩
  · exact .inl h
  · exact .inr ⟨q, rfl, hq, hat.keep m (hs _ rfl)⟩
end
end Go.Proofs.YtocjjigmpgekfaaGreat
end
section
/- Layer 2, the document's disk: new ones, and those of bytes. -/
open Go Go.Den Go.Proofs
namespace Go.Den
theorem At_ne {w : World} {q g o o' : Nat} {x y : Value} {r r' : List Value} (h : At w q o (x :: r)) (k : At w g o' (y :: r')) (ho : o = o') (hne : x ≠ y) : q ≠ g := by
  rintro rfl
  subst ho
  obtain ⟨l, t, fz, h1, h2, h3⟩ := h
  obtain ⟨l', t', fz', k1, k2, k3⟩ := k
  rw [h1] at k1
  simp at k1
  obtain ⟨rfl, _⟩ := k1
  have a1 := take_drop_get h3 0 (by simp)
  have a2 := take_drop_get k3 0 (by simp)
  rw [a1] at a2
  simp at a2
  exact hne a2
theorem hdrs_snoc {hs : List (Nat × Nat)} {vs : List (List Bk)} (h : hs.length = vs.length) (q c : Nat) (v : List Bk) : hdrs (hs ++ [(q, c)]) (vs ++ [v]) = hdrs hs vs ++ [.slice (some ⟨q, 0, none⟩) v.length c] := by
  unfold hdrs; rw [List.zipWith_append h]; rfl
end Go.Den
namespace Go.Proofs.YtocjjigmpgekfaaGreat
theorem elemZ_blks : elemZ Tryz.prog 145 1 (.slice none 0 0) 24 := by unfold elemZ; kernel_rfl
theorem elemZ_strs : elemZ Tryz.prog 40 1 (.string ByteArray.empty) 16 := by unfold elemZ; kernel_rfl
theorem built_str (w : World) (s : ByteArray) : (Instr.buildSlice 40 1 #[(0, .string s)]).run Tryz.prog w = .ok (.slice (some ⟨w.heap.size, 0, none⟩) 1 1) (w.alloc (.cells ⟨[.string s]⟩ 9)) := by kernel_rfl
theorem build_blk (w : World) (a : Option Addr) (l c : Nat) : (Instr.build 150 #[(0, .slice a l c)]).run Tryz.prog w = .ok (.agg ⟨[.slice a l c]⟩) w := by kernel_rfl
theorem built_blk (w : World) (a : Option Addr) (l c : Nat) : (Instr.buildSlice 145 1 #[(0, .agg ⟨[.slice a l c]⟩)]).run Tryz.prog w = .ok (.slice (some ⟨w.heap.size, 0, none⟩) 1 1) (w.alloc (.cells ⟨[.slice a l c]⟩ 150)) := by kernel_rfl
theorem build_ref (w : World) : (Instr.build 147 #[]).run Tryz.prog w = .ok (.agg ⟨[.slice none 0 0, .bool false, .int .i64 0]⟩) w := by kernel_rfl

/-- A disk that is being built. -/
structure Bld (w0 w : World) (b : Nat) (a : Option Addr) (l c : Nat) (hs : List (Nat × Nat)) (vs : List (List Bk)) : Prop where
  cell : AtU w b 0 [.slice a l c, .bool false, .int .i64 0]
  own : Own Tryz.prog w (b + 1) 145 1 a l c (hdrs hs vs)
  hl : hs.length = vs.length
  row : ∀ (i : Nat) (v : List Bk), vs[i]? = some v → ∃ q cc, hs[i]? = some (q, cc) ∧ v.length ≤ cc ∧ At w q 0 (v.map strV) ∧ v ≠ [] ∧ b < q
  mod : Mod No w0 w
  b0 : w0.heap.size ≤ b
section
variable {w0 w : World} {b l c : Nat} {a : Option Addr} {hs : List (Nat × Nat)} {vs : List (List Bk)} {K : Value → World → Prop}
theorem Bld.len (h : Bld w0 w b a l c hs vs) : l = vs.length := by
  have := h.own.len
  simp [hdrs, h.hl] at this; exact this.symm
theorem Bld.nos {w' : World} (h : Bld w0 w b a l c hs vs) (m : Mod No w w') : Bld w0 w' b a l c hs vs where
  cell := h.cell.keep m id
  own := h.own.nos m
  hl := h.hl
  row := fun i v hv => by
    obtain ⟨q, cc, h1, h2, h3, h4⟩ := h.row i v hv
    exact ⟨q, cc, h1, h2, h3.keep m id, h4⟩
  mod := h.mod.no m
  b0 := h.b0
theorem Bld.ld (h : Bld w0 w b a l c hs vs) : Ru (Instr.loadAt 145 (.pointer (some (Addr.add ⟨b, 0, none⟩ 0)))) w (.slice a l c) w := by
  rw [add_none]; exact h.cell.at.load (by kernel_rfl) rfl
theorem Bld.start (w : World) : Bld w (w.alloc (.cells (Value.agg ⟨[.slice none 0 0, .bool false, .int .i64 0]⟩).cells 147)) w.heap.size none 0 0 [] [] where
  cell := AtU.new
  own := Own.nil elemZ_blks
  hl := rfl
  row := fun i v hv => by simp at hv
  mod := (Mod.refl No w).alloc _
  b0 := Nat.le_refl _
theorem hdr_first {i : Nat} {v : List Bk} (hl : hs.length = vs.length) (hv : vs[i]? = some v) : ∃ q cc u r, hdrs hs vs = .slice (some ⟨q, 0, none⟩) (List.length (u : List Bk)) cc :: r := by
  cases vs with
  | nil => simp at hv
  | cons u r =>
    cases hs with
    | nil => simp at hl
    | cons p r' => exact ⟨p.1, p.2, u, _, rfl⟩

/-- One block more. -/
theorem Bld.step (h : Bld w0 w b a l c hs vs) (x : Bk) (hl : l ≤ 5000) :
    ∃ a' c' w6 w7, Ru (Builtin.append_ #[145, 145] 145 #[.slice a l c, .slice (some ⟨(w.alloc (.cells ⟨[.string ⟨x.toArray⟩]⟩ 9)).heap.size, 0, none⟩) 1 1])
        ((w.alloc (.cells ⟨[.string ⟨x.toArray⟩]⟩ 9)).alloc (.cells ⟨[.slice (some ⟨w.heap.size, 0, none⟩) 1 1]⟩ 150)) (.slice a' (l + 1) c') w6 ∧
      RuU (Instr.storeAt 145 (.pointer (some (Addr.add ⟨b, 0, none⟩ 0))) (.slice a' (l + 1) c')) w6 w7 ∧ Bld w0 w7 b a' (l + 1) c' (hs ++ [(w.heap.size, 1)]) (vs ++ [[x]]) := by
  have m1 : Mod No w (w.alloc (.cells ⟨[.string ⟨x.toArray⟩]⟩ 9)) := (Mod.refl No w).alloc _
  have atx : At (w.alloc (.cells ⟨[.string ⟨x.toArray⟩]⟩ 9)) w.heap.size 0 ([x].map strV) := AtU.new.at
  have hs1 : (w.alloc (.cells ⟨[.string ⟨x.toArray⟩]⟩ 9)).heap.size = w.heap.size + 1 := by simp
  have hb := h.cell.lt
  generalize w.alloc (.cells ⟨[.string ⟨x.toArray⟩]⟩ 9) = w4 at *
  have m2 : Mod No w4 (w4.alloc (.cells ⟨[.slice (some ⟨w.heap.size, 0, none⟩) 1 1]⟩ 150)) := (Mod.refl No w4).alloc _
  have aty : At (w4.alloc (.cells ⟨[.slice (some ⟨w.heap.size, 0, none⟩) 1 1]⟩ 150)) w4.heap.size 0 [.slice (some ⟨w.heap.size, 0, none⟩) 1 1] := AtU.new.at
  have hs2 : (w4.alloc (.cells ⟨[.slice (some ⟨w.heap.size, 0, none⟩) 1 1]⟩ 150)).heap.size = w4.heap.size + 1 := by simp
  generalize w4.alloc (.cells ⟨[.slice (some ⟨w.heap.size, 0, none⟩) 1 1]⟩ 150) = w5 at *
  have h5 := (h.nos m1).nos m2
  have atx5 := atx.keep m2 id
  obtain ⟨a', c', w6, h6, o6, m6⟩ := h5.own.append' (ty := 145) (a2 := some ⟨w4.heap.size, 0, none⟩) (m := 1) (c2 := 1) (ys := [.slice (some ⟨w.heap.size, 0, none⟩) 1 1]) elemZ_blks (by omega) (.inr ⟨_, _, rfl, aty⟩) rfl (by simp) (by simp; rfl) (by omega) (by omega) (by omega)
  have hbq : ∀ q, a = some q → b + 1 ≤ q.block := fun q hq => (h5.own.base hq).1
  have hbq2 : ∀ q, a = some q → q.block < w.heap.size := fun q hq => (h.own.base hq).2
  have c6 := h5.cell.keep m6 (fun ⟨q, hq, e⟩ => by have := hbq q hq; omega)
  obtain ⟨w7, s1, s2, s3, s4⟩ := c6.store (P := Tryz.prog) (T := 145) (i := 0) (v := .slice a' (l + 1) c') (by kernel_rfl) (by simp) rfl
  refine ⟨a', c', w6, w7, h6, by rw [add_none]; exact s1, ?_⟩
  exact { cell := by simpa using s2
          own := by
            rw [hdrs_snoc h.hl]
            exact o6.keep s3 fun q hq e => by have := (o6.base hq).1; omega
          hl := by simp [h.hl]
          row := fun i v hv => by
            by_cases hi : i < vs.length
            · rw [List.getElem?_append_left hi] at hv
              obtain ⟨q, cc, r1, r2, r3, r4, r5⟩ := h5.row i v hv
              refine ⟨q, cc, by rw [List.getElem?_append_left (by rw [h.hl]; exact hi)]; exact r1, r2, (r3.keep m6 fun ⟨p, hp, e⟩ => ?_).keep s3 (by omega), r4, r5⟩
              obtain ⟨q1, c1, u1, r, hf⟩ := hdr_first h.hl hv
              have hpos : 0 < l := by rw [h.len]; omega
              obtain ⟨g, hg, _, hat⟩ := h5.own.sm hpos
              rw [hf] at hat
              cases v with
              | nil => exact r4 rfl
              | cons y rr =>
                have := At_ne r3 hat.at rfl (by simp [strV])
                rw [hg] at hp; cases hp
                exact this e
            · have hi2 : i = vs.length := by
                have := (List.getElem?_eq_some_iff.1 hv).1
                simp at this; omega
              subst hi2
              rw [List.getElem?_append_right (Nat.le_refl _), Nat.sub_self] at hv
              simp at hv; subst hv
              refine ⟨w.heap.size, 1, by rw [← h.hl]; simp, by simp, (atx5.keep m6 fun ⟨p, hp, e⟩ => ?_).keep s3 (by omega), by simp, hb⟩
              have := hbq2 p hp; omega
          mod := ((h5.mod.trans m6 fun y hy ⟨q, hq, e⟩ => by have := hbq q hq; have := h.b0; omega).trans s3 fun y hy e => by have := h.b0; omega)
          b0 := h.b0 }
theorem Bld.done (h : Bld w0 w b a l c hs vs) (hwf : WF ⟨vs, -1⟩) : ∃ vb, RefIn w (fun x => w0.heap.size ≤ x ∧ x < w.heap.size) b vb c hs ⟨vs, -1⟩ := by
  have hlo := hwf.lo
  have hlen := h.len
  simp only at hlo
  obtain ⟨g, rfl, hg, hat⟩ := h.own.sm (by omega)
  have hcap := h.own.cap
  have hb0 := h.b0
  refine ⟨g, ?_⟩
  exact { cell := by have := h.cell; rw [hlen] at this; exact this
          vec := hat
          cap := by simp only; omega
          hl := h.hl
          row := fun i v hv => by
            obtain ⟨q, cc, r1, r2, r3, r4, r5⟩ := h.row i v hv
            refine ⟨q, cc, r1, r2, r3, ⟨by omega, r3.lt⟩, by omega, ?_⟩
            obtain ⟨q1, c1, u1, r, hf⟩ := hdr_first h.hl hv
            rw [hf] at hat
            cases v with
            | nil => exact absurd rfl r4
            | cons y rr => exact At_ne r3 hat.at rfl (by simp [strV])
          rb := ⟨hb0, h.cell.lt⟩
          rv := ⟨by omega, hat.lt⟩
          ne := by omega
          wf := hwf
          lt := fun x hx => hx.2 }
end
end Go.Proofs.YtocjjigmpgekfaaGreat
end
section
/- Layer 2: new disks of the document's; disks of bytes, both. -/
open Go Go.Den Go.Proofs
namespace Go.Den
theorem DiskIn.widen {w : World} {R R' : Nat → Prop} {b sb mb sc : Nat} {L : List (Int × Value)} {D : St} (h : DiskIn w R b sb mb sc L D) (h1 : ∀ x, R x → R' x) (h2 : ∀ x, R' x → x < w.heap.size) : DiskIn w R' b sb mb sc L D where
  cell := h.cell
  cap := h.cap
  safe := h.safe
  map := h.map
  rb := h1 _ h.rb
  rs := h1 _ h.rs
  rm := h1 _ h.rm
  ne := h.ne
  opn := fun i v hv => by
    rcases h.opn i v hv with h | ⟨g1, vb, c, g2, g3, g4, g5, g6⟩
    · exact .inl h
    · exact .inr ⟨g1, vb, c, g2, g3, g4, h1 _ g5, g6⟩
  keys := h.keys
  wf := h.wf
  lt := h2
end Go.Den
namespace Go.Proofs.YtocjjigmpgekfaaGreat
section
variable {w : World} {K : Value → World → Prop}
theorem none_c (hk : ∀ w', Mod No w w' → K (.string ⟨zeroB.toArray⟩) w') : Cal Tryz.prog F_leveeref02_none #[] w K := by
  apply C_leveeref02_none
  unfold D_leveeref02_none
  obtain ⟨w1, hm1, hat1, hmod1, hsz1⟩ := makeSlice_run (P := Tryz.prog) (w := w) (n := 256) elemZ_bytes (by omega) (by omega) (by omega)
  have hz : List.replicate (256 * 1) (Value.int .u8 0) = u8L zeroB := by unfold u8L zeroB; rw [List.map_replicate]; rfl
  rw [hz] at hat1
  exact ⟨_, _, _, w1, hm1, _, str_run (by kernel_rfl) (.inr ⟨_, _, rfl, hat1.at⟩) List.length_replicate, hk w1 hmod1⟩

theorem refNew_c {n : Int} (h0 : -9223372036854775808 ≤ n) (h1 : n ≤ 9223372036854775807) (hbad : n < 1 ∨ 4096 < n → K (.tuple #[.pointer none, .int .i64 1]) w)
    (hok : ∀ k : Nat, n = k → 1 ≤ k → k ≤ 4096 → ∀ w' b vb vc hs, Mod No w w' → RefIn w' (fun x => w.heap.size ≤ x ∧ x < w'.heap.size) b vb vc hs (newSt k) → K (.tuple #[.pointer (some ⟨b, 0, none⟩), .int .i64 0]) w') :
    Cal Tryz.prog F_leveeref02_New #[.int .i64 n] w K := by
  apply C_leveeref02_New
  unfold D_leveeref02_New
  refine Share.or ⟨_, rfl, cond_of (fun hb => ?_) (fun hb => ?_)⟩
  · exact hbad (by simpa using hb)
  have hn : ¬ (n < 1 ∨ 4096 < n) := by simpa using hb
  obtain ⟨k, rfl⟩ := Int.eq_ofNat_of_zero_le (show 0 ≤ n by omega)
  refine ⟨_, fun w => build_ref w, _, _, box_run, ?_⟩
  refine ⟨fun x w2 => ∃ (i : Nat) (a : Option Addr) (c : Nat) (hs : List (Nat × Nat)), i ≤ k ∧ x = [.int .i64 i] ∧ Bld w w2 w.heap.size a i c hs (List.replicate i [zeroB]), fun x _ => (k - nI x 0).toNat, ⟨0, none, 0, [], by omega, rfl, Bld.start w⟩, ?_⟩
  rintro x w2 ⟨i, a, c, hs, hi, rfl, hB⟩
  refine ⟨_, rfl, cond_of (fun hb => ?_) (fun hb => ?_)⟩
  · have hi : i < k := by have := of_decide_eq_true hb; omega
    have hBd := hB.nos (Mod.refl No w2).drew
    refine ⟨_, rfl, _, _, _, hBd.ld, none_c fun w3 m3 => ⟨_, rfl, (hBd.nos m3).ld, _, _, _, _, built_str _ _, ?_⟩⟩
    have hB3 := hBd.nos m3
    have m4 : Mod No w3 (w3.alloc (.cells ⟨[.string ⟨zeroB.toArray⟩]⟩ 9)) := (Mod.refl No w3).alloc _
    refine ⟨(hB3.nos m4).ld, _, fun w => build_blk w _ _ _, _, _, _, _, built_blk _ _ _ _, ?_⟩
    have m5 : Mod No (w3.alloc (.cells ⟨[.string ⟨zeroB.toArray⟩]⟩ 9)) ((w3.alloc (.cells ⟨[.string ⟨zeroB.toArray⟩]⟩ 9)).alloc (.cells ⟨[.slice (some ⟨w3.heap.size, 0, none⟩) 1 1]⟩ 150)) := (Mod.refl No _).alloc _
    refine ⟨((hB3.nos m4).nos m5).ld, ?_⟩
    obtain ⟨a', c', w6, w7, s1, s2, s3⟩ := hB3.step zeroB (by omega)
    refine ⟨_, _, _, w6, s1, _, rfl, w7, s2, ?_⟩
    rw [wrap64 (x := (i : Int) + 1) (by omega) (by omega)]
    refine ⟨⟨i + 1, a', c', hs ++ [(w3.heap.size, 1)], by omega, rfl, ?_⟩, by simp [nI, nth]; omega⟩
    have e : List.replicate (i + 1) [zeroB] = List.replicate i [zeroB] ++ [[zeroB]] := List.replicate_succ'
    rw [e]; exact s3
  · have hik : i = k := by have := of_decide_eq_false hb; omega
    subst hik
    obtain ⟨vb, hR⟩ := hB.done (WF.new (by omega) (by omega))
    exact hok i rfl (by omega) (by omega) w2 _ vb c hs hB.mod hR

def chunk (xs : List UInt8) (i : Nat) : Bk := (xs.drop (256 * i)).take 256
def ldSt (k : Nat) (xs : List UInt8) : St := ⟨(List.range k).map fun i => [chunk xs i], -1⟩
theorem chunk_len {xs : List UInt8} {k i : Nat} (hl : xs.length = 256 * k) (hi : i < k) : (chunk xs i).length = 256 := by
  unfold chunk; simp; omega
theorem WF.ld {xs : List UInt8} {k : Nat} (hl : xs.length = 256 * k) (h0 : 1 ≤ k) (h1 : k ≤ 4096) : WF (ldSt k xs) where
  ver := by
    intro v hv
    obtain ⟨i, hi, rfl⟩ := List.mem_map.1 hv
    refine ⟨by simp, fun x hx => ?_⟩
    simp at hx; subst hx
    exact chunk_len hl (List.mem_range.1 hi)
  lo := by simp [ldSt]; exact h0
  hi := by simp [ldSt]; exact h1
  l0 := by simp [ldSt]
  l1 := by simp [ldSt]

end
end Go.Proofs.YtocjjigmpgekfaaGreat
end
section
/- Layer 2, the document's disk: its writes. -/
open Go Go.Den Go.Proofs
namespace Go.Proofs.YtocjjigmpgekfaaGreat
section
variable {w : World} {R : Nat → Prop} {b vb vc : Nat} {hs : List (Nat × Nat)} {D : St} {K : Value → World → Prop}
theorem RefIn_lft (h : RefIn w R b vb vc hs D) {w' : World} {left : Int} (hc : AtU w' b 0 [.slice (some ⟨vb, 0, none⟩) D.vs.length vc, .bool (heldB ⟨D.vs, left⟩), .int .i64 (leftB ⟨D.vs, left⟩)]) (m : Mod (fun x => x = b) w w') (h0 : -1 ≤ left) (h1 : left ≤ 9223372036854775807) :
    RefIn w' R b vb vc hs ⟨D.vs, left⟩ where
  cell := hc
  vec := h.vec.keep m h.ne.symm
  cap := h.cap
  hl := h.hl
  row := fun i v hv => by
    obtain ⟨q, c, r1, r2, r3, r4, r5, r6⟩ := h.row i v hv
    exact ⟨q, c, r1, r2, r3.keep m r5, r4, r5, r6⟩
  rb := h.rb
  rv := h.rv
  ne := h.ne
  wf := { ver := h.wf.ver, lo := h.wf.lo, hi := h.wf.hi, l0 := h0, l1 := h1 }
  lt := fun x hx => Nat.lt_of_lt_of_le (h.lt x hx) m.size
theorem RefIn_set (h : RefIn w R b vb vc hs D) {R' : Nat → Prop} {i q' c' : Nat} {v v' : List Bk} (hv : D.vs[i]? = some v) (hR : ∀ x, R x → R' x) (hq : R' q') (hlt : ∀ x, R' x → x < w.heap.size)
    (hat : At w q' 0 (v'.map strV)) (hqb : q' ≠ b) (hqv : q' ≠ vb) (hne : v' ≠ []) (hx : ∀ x ∈ v', x.length = 256) (hc : v'.length ≤ c') :
    ∃ w', RuU (Instr.storeAt 40 (.pointer (some (Addr.add (Addr.add ⟨vb, 0, none⟩ i) 0))) (.slice (some ⟨q', 0, none⟩) v'.length c')) w w' ∧ RefIn w' R' b vb vc (hs.set i (q', c')) ⟨D.vs.set i v', D.left⟩ ∧ Mod (fun x => x = vb) w w' := by
  have hilt := (List.getElem?_eq_some_iff.1 hv).1
  have hhl := h.hl
  have hlen : (hdrs hs D.vs).length = D.vs.length := by simp [hdrs, h.hl]
  obtain ⟨w', s1, s2, s3, s4⟩ := h.vec.store (P := Tryz.prog) (T := 40) (i := i) (v := .slice (some ⟨q', 0, none⟩) v'.length c') (by kernel_rfl) (by omega) rfl
  refine ⟨w', ?_, ?_, s3⟩
  · rw [add_none, add_none, Nat.add_zero]; exact s1
  have hset : (hdrs hs D.vs).set i (.slice (some ⟨q', 0, none⟩) v'.length c') = hdrs (hs.set i (q', c')) (D.vs.set i v') := by
    apply List.ext_getElem?
    intro j
    by_cases hj : i = j
    · subst hj
      rw [List.getElem?_set_self (by omega), hdrs_get (List.getElem?_set_self (by omega)) (List.getElem?_set_self hilt)]
    · rw [List.getElem?_set_ne hj]
      simp [hdrs, List.getElem?_zipWith, List.getElem?_set_ne hj]
  rw [hset] at s2
  exact { cell := by have := h.cell.keep s3 h.ne; simpa [heldB, leftB] using this
          vec := s2
          cap := by simpa using h.cap
          hl := by simpa using h.hl
          row := fun j u hu => by
            by_cases hj : i = j
            · subst hj
              rw [List.getElem?_set_self hilt] at hu
              have := Option.some.inj hu
              subst this
              exact ⟨q', c', List.getElem?_set_self (by omega), hc, hat.keep s3 hqv, hq, hqb, hqv⟩
            · rw [List.getElem?_set_ne hj] at hu
              obtain ⟨q, c, r1, r2, r3, r4, r5, r6⟩ := h.row j u hu
              exact ⟨q, c, by rw [List.getElem?_set_ne hj]; exact r1, r2, r3.keep s3 r6, hR _ r4, r5, r6⟩
          rb := hR _ h.rb
          rv := hR _ h.rv
          ne := h.ne
          wf := { ver := fun y hy => by
                    rcases List.mem_or_eq_of_mem_set hy with hy | rfl
                    · exact h.wf.ver y hy
                    · exact ⟨hne, hx⟩
                  lo := by simpa using h.wf.lo
                  hi := by simpa using h.wf.hi
                  l0 := h.wf.l0
                  l1 := h.wf.l1 }
          lt := fun x hx => Nat.lt_of_lt_of_le (hlt x hx) s3.size }

theorem refGoes_c (h : RefIn w R b vb vc hs D) (h0 : D.left = 0 → K (.bool false) w)
    (h1 : D.left ≠ 0 → ∀ w', RefIn w' R b vb vc hs ⟨D.vs, dec D.left⟩ → Mod (fun x => x = b) w w' → K (.bool true) w') : Cal Tryz.prog F_leveeref02_Disk_goes #[.pointer (some ⟨b, 0, none⟩)] w K := by
  apply C_leveeref02_Disk_goes
  unfold D_leveeref02_Disk_goes
  refine refStopped_c h ⟨_, rfl, cond_of (fun hb => ?_) (fun hb => ?_)⟩
  · exact h0 (of_decide_eq_true hb)
  have hnz := of_decide_eq_false hb
  have hl0 := h.wf.l0
  have hl1 := h.wf.l1
  refine ⟨_, rfl, _, rh h, Share.dup (cond_of (fun hb => ?_) (fun hb => ?_))⟩
  · have hb : D.left ≠ -1 := by unfold heldB at hb; exact of_decide_eq_true hb
    have hlB : leftB D = D.left := by unfold leftB; rw [if_neg hb]
    have hd : dec D.left = D.left - 1 := by unfold dec; rw [if_neg (by omega)]
    obtain ⟨w', s1, s2, s3, s4⟩ := h.cell.store (P := Tryz.prog) (T := 3) (i := 2) (v := .int .i64 (D.left - 1)) (by kernel_rfl) (by simp) rfl
    refine ⟨_, rfl, _, rl h, _, rfl, w', ?_, ?_⟩
    · rw [hlB, wrap64 (by omega) (by omega), add_none]; exact s1
    refine h1 hnz w' (RefIn_lft h ?_ s3 (by rw [hd]; omega) (by rw [hd]; omega)) s3
    have e1 : heldB D = heldB ⟨D.vs, dec D.left⟩ := by unfold heldB; rw [hd]; simp only; rw [Bool.eq_iff_iff]; simp only [decide_eq_true_eq]; omega
    have e2 : leftB ⟨D.vs, dec D.left⟩ = D.left - 1 := by unfold leftB; rw [hd]; simp only; rw [if_neg (by omega)]
    rw [e2, ← e1]; simpa using s2
  · have hb : D.left = -1 := by unfold heldB at hb; simpa using of_decide_eq_false hb
    have hd : dec D.left = D.left := by rw [hb]; rfl
    refine h1 hnz w ?_ (Mod.refl _ _)
    rw [hd]; exact h

theorem gro_lt {R : Nat → Prop} {w0 w' : World} (hR : ∀ x, R x → x < w0.heap.size) (hs : w0.heap.size ≤ w'.heap.size) : ∀ x, Gro R w0 w' x → x < w'.heap.size := fun x hx => by
  rcases hx with hx | hx
  · have := hR x hx; omega
  · exact hx.2

theorem refWrite_c (h : RefIn w R b vb vc hs D) (hsm : ∀ v ∈ D.vs, v.length ≤ 999999) {n : Int} {a : Option Addr} {l c : Nat} {ys : List UInt8} (hl : ys.length = l) (hr : Row w a (u8L ys)) (hdis : ys ≠ [] → ∀ q, a = some q → ¬ R q.block)
    (hk : ∀ w' hs', Mod R w w' → RefIn w' (Gro R w w') b vb vc hs' (wrSt D n ys) → K (.int .i64 (wrE D n ys)) w') : Cal Tryz.prog F_leveeref02_Disk_Write #[.pointer (some ⟨b, 0, none⟩), .int .i64 n, .slice a l c] w K := by
  apply C_leveeref02_Disk_Write
  unfold D_leveeref02_Disk_Write
  have gro : ∀ {w' : World} {hs' : List (Nat × Nat)} {D' : St}, RefIn w' R b vb vc hs' D' → RefIn w' (Gro R w w') b vb vc hs' D' := fun h' =>
    { cell := h'.cell, vec := h'.vec, cap := h'.cap, hl := h'.hl,
      row := fun i v hv => by obtain ⟨q, c, r1, r2, r3, r4, r5⟩ := h'.row i v hv; exact ⟨q, c, r1, r2, r3, .inl r4, r5⟩
      rb := .inl h'.rb, rv := .inl h'.rv, ne := h'.ne, wf := h'.wf
      lt := fun x hx => by
        rcases hx with hx | hx
        · exact h'.lt x hx
        · exact hx.2 }
  refine there_c h ⟨_, rfl, ?_⟩
  rcases err_cases (D := D) n with ⟨he, ho⟩ | ⟨he, i, v, rfl, hv, hver⟩
  · have hw : wrE D n ys = 3 := by unfold wrE; rw [he, if_pos (by omega)]
    have hS : wrSt D n ys = D := by unfold wrSt; rw [if_pos (.inl (by omega))]
    refine tt (by rw [he]; rfl) ?_
    have := hk w hs (Mod.refl _ _) (by rw [hS]; exact gro h)
    rw [hw] at this; exact this
  refine ff (by rw [he]; rfl) (cond_of (fun hb => ?_) (fun hb => ?_))
  · have hne : ys.length ≠ 256 := by simp at hb; omega
    have hw : wrE D i ys = 4 := by unfold wrE; rw [he, if_neg (by omega), if_pos hne]
    have hS : wrSt D i ys = D := by unfold wrSt; rw [if_pos (.inl (by omega))]
    have := hk w hs (Mod.refl _ _) (by rw [hS]; exact gro h)
    rw [hw] at this; exact this
  have hl2 : l = 256 := by simp at hb; omega
  subst hl2
  have hw : wrE D i ys = 0 := by unfold wrE; rw [he, if_neg (by omega), if_neg (by omega)]
  rw [hw] at hk
  refine refGoes_c h (fun hz => ⟨_, rfl, tt rfl ?_⟩) fun hnz w2 h2 m2 => ⟨_, rfl, ff rfl ?_⟩
  · have hS : wrSt D i ys = D := by unfold wrSt; rw [if_pos (.inr hz)]
    exact hk w hs (Mod.refl _ _) (by rw [hS]; exact gro h)
  have hS : wrSt D i ys = ⟨D.vs.set i (v ++ [ys]), dec D.left⟩ := by unfold wrSt; rw [if_neg (by omega), hver]; rfl
  rw [hS] at hk
  have hilt := (List.getElem?_eq_some_iff.1 hv).1
  have hvne := (h.wf.ver v (List.mem_of_getElem? hv)).1
  have hvlen := hsm v (List.mem_of_getElem? hv)
  obtain ⟨q, cq, hrow, hcq, hat, hRq, hqb, hqv, _⟩ := rrow h2 (D := ⟨D.vs, dec D.left⟩) hv
  refine ⟨_, rfl, _, _, _, rv h2, _, idx_blk hilt, _, _, _, hrow, ?_⟩
  have one : ∀ (u : List Bk), ∀ y ∈ u.map strV, y.oneCell' = true := fun u y hy => by
    obtain ⟨z, _, rfl⟩ := List.mem_map.1 hy; rfl
  obtain ⟨a3, c3, w3, h3, o3, m3⟩ := (Own.nil (P := Tryz.prog) (w := w2) (base := w2.heap.size) elemZ_strs).append (ty := 40) elemZ_strs (by omega) (a2 := some ⟨q, 0, none⟩) (m := v.length) (c2 := cq) (ys := v.map strV) (.inr ⟨_, _, rfl, hat⟩) (by simp) (fun e => by cases e) (one v) (by omega) (by omega) (Nat.le_refl _)
  simp only [Nat.zero_add, List.nil_append] at h3 o3
  have m3' : Mod No w2 w3 := (Mod.refl No w2).up m3 (Nat.le_refl _)
  have hyne : ys ≠ [] := fun e => by rw [e] at hl; simp at hl
  have hb2 : ∀ q', a = some q' → q'.block ≠ b := fun q' hq' e => hdis hyne q' hq' (by rw [e]; exact h.rb)
  have hr3 : Row (drew w3) a (u8L ys) := ((hr.keep m2 fun q' hq' => hb2 q' hq').nos m3').nos (Mod.refl No w3).drew
  have h3R := (h2.nos m3').drew
  refine ⟨_, _, _, w3, h3, _, rfl, _, _, _, rv h3R, _, str_run (by kernel_rfl) hr3 hl, _, _, _, _, built_str _ _, ?_⟩
  have m4 : Mod No (drew w3) ((drew w3).alloc (.cells ⟨[.string ⟨ys.toArray⟩]⟩ 9)) := (Mod.refl No _).alloc _
  refine ⟨rv (h3R.nos m4), ?_⟩
  have hs4 : ((drew w3).alloc (.cells ⟨[.string ⟨ys.toArray⟩]⟩ 9)).heap.size = w3.heap.size + 1 := by simp
  have aty : At ((drew w3).alloc (.cells ⟨[.string ⟨ys.toArray⟩]⟩ 9)) (drew w3).heap.size 0 ([ys].map strV) := AtU.new.at
  have h4R := h3R.nos m4
  have o4 := (o3.nos (Mod.refl No w3).drew).nos m4
  generalize (drew w3).alloc (.cells ⟨[.string ⟨ys.toArray⟩]⟩ 9) = w4 at *
  have hz2 := m2.size
  have hz3 := m3'.size
  obtain ⟨a5, c5, w5, h5, o5, m5⟩ := o4.append (ty := 40) elemZ_strs (by omega) (a2 := some ⟨(drew w3).heap.size, 0, none⟩) (m := 1) (c2 := 1) (ys := [ys].map strV) (.inr ⟨_, _, rfl, aty⟩) (by simp) (fun e => by cases e) (one [ys]) (by omega) (by omega) (by omega)
  have hlt2 : ∀ x, R x → x < w2.heap.size := h2.lt
  have h5R := h4R.keep m5 fun x hx e => by have := hlt2 x hx; omega
  obtain ⟨g, rfl, hg, hgat⟩ := o5.sm (by omega)
  have hz5 := m5.size
  have hglt := hgat.lt
  have hgat' : At w5 g 0 ((v ++ [ys]).map strV) := by rw [List.map_append]; exact hgat.at
  have hcap5 := o5.cap
  refine ⟨_, _, _, w5, h5, rv h5R, _, idx_blk hilt, ?_⟩
  have hrb := hlt2 b h.rb
  have hrvb := hlt2 vb h.rv
  obtain ⟨w6, t1, t2, t3⟩ := RefIn_set h5R (D := ⟨D.vs, dec D.left⟩) (R' := Gro R w w5) (q' := g) (c' := c5) (v' := v ++ [ys]) hv (fun x hx => .inl hx) (.inr ⟨by omega, hglt⟩) (gro_lt h.lt (by omega)) hgat' (by omega) (by omega) (by simp)
    (fun x hx => by
      rcases List.mem_append.1 hx with hx | hx
      · exact (h.wf.ver v (List.mem_of_getElem? hv)).2 x hx
      · simp at hx; subst hx; omega) (by simp; omega)
  have hlv : (v ++ [ys]).length = v.length + 1 := by simp
  rw [hlv] at t1
  refine ⟨w6, t1, ?_⟩
  have M2 : Mod R w w2 := m2.mono fun x _ e => by subst e; exact h.rb
  have M5 : Mod R w w5 := (((M2.no m3').no (Mod.refl No w3).drew).no m4).trans m5 fun x hx e => by omega
  have hz6 := t3.size
  refine hk w6 (hs.set i (g, c5)) (M5.trans t3 fun x _ e => by subst e; exact h.rv) ?_
  exact { cell := t2.cell, vec := t2.vec, cap := t2.cap, hl := t2.hl
          row := fun j u hu => by
            obtain ⟨q, cc, r1, r2, r3, r4, r5⟩ := t2.row j u hu
            exact ⟨q, cc, r1, r2, r3, by rcases r4 with r4 | r4
                                         · exact .inl r4
                                         · exact .inr ⟨r4.1, by omega⟩, r5⟩
          rb := .inl h.rb, rv := .inl h.rv, ne := h.ne, wf := t2.wf
          lt := gro_lt h.lt (by omega) }
end
end Go.Proofs.YtocjjigmpgekfaaGreat
end
section
/- Layer 2, the document's disk: a flush, a crash. -/
open Go Go.Den Go.Proofs
namespace Go.Proofs.YtocjjigmpgekfaaGreat
/-- Some blocks with one version. -/
def updR (D : St) (ks : List Nat) (f : Nat → List Bk → Bk) : St := ⟨D.vs.mapIdx fun i v => if i ∈ ks then [f i v] else v, D.left⟩
section
variable {w : World} {R : Nat → Prop} {b vb vc : Nat} {hs : List (Nat × Nat)} {D : St} {K : Value → World → Prop}
theorem St_ext {A B : St} (h1 : A.vs = B.vs) (h2 : A.left = B.left) : A = B := by
  cases A; cases B; simp only at h1 h2; rw [h1, h2]
theorem updR_get {ks : List Nat} {f : Nat → List Bk → Bk} {i : Nat} {v : List Bk} (hv : D.vs[i]? = some v) : (updR D ks f).vs[i]? = some (if i ∈ ks then [f i v] else v) := by
  simp [updR, List.getElem?_mapIdx, hv]
theorem updR_step {ks : List Nat} {f : Nat → List Bk → Bk} {i : Nat} {v : List Bk} (hv : D.vs[i]? = some v) : (updR D ks f).vs.set i [f i v] = (updR D (ks ++ [i]) f).vs := by
  apply List.ext_getElem?
  intro j
  by_cases hj : i = j
  · subst hj
    have hlt : i < (updR D ks f).vs.length := by simp [updR]; exact (List.getElem?_eq_some_iff.1 hv).1
    rw [List.getElem?_set_self hlt, updR_get hv, if_pos (by simp)]
  · rw [List.getElem?_set_ne hj]
    cases hw : D.vs[j]? with
    | none => simp [updR, List.getElem?_mapIdx, hw]
    | some u =>
      rw [updR_get hw, updR_get hw]
      have : (j ∈ ks ++ [i]) ↔ j ∈ ks := by simp; intro e; exact absurd e.symm hj
      simp only [this]
theorem updR_nil (D : St) (f : Nat → List Bk → Bk) : updR D [] f = D := by
  have : (D.vs.mapIdx fun i v => if i ∈ ([] : List Nat) then [f i v] else v) = D.vs := by
    apply List.ext_getElem?
    intro i
    rw [List.getElem?_mapIdx]
    cases D.vs[i]? <;> simp
  unfold updR; rw [this]
theorem updR_all {ks : List Nat} {f : Nat → List Bk → Bk} (h : ∀ i v, D.vs[i]? = some v → i ∉ ks → v = [f i v]) : (updR D ks f).vs = (put1 D f).vs := by
  unfold updR put1
  apply List.ext_getElem?
  intro i
  rw [List.getElem?_mapIdx, List.getElem?_mapIdx]
  cases hv : D.vs[i]? with
  | none => rfl
  | some v =>
    simp only [Option.map_some]
    by_cases hi : i ∈ ks
    · rw [if_pos hi]
    · rw [if_neg hi, ← h i v hv hi]
theorem Gro_mono {w0 w1 w2 : World} (h : w1.heap.size ≤ w2.heap.size) : ∀ x, Gro R w0 w1 x → Gro R w0 w2 x := fun x hx => by
  rcases hx with hx | hx
  · exact .inl hx
  · exact .inr ⟨hx.1, by omega⟩
theorem _root_.Go.Den.RefIn.widen {R' : Nat → Prop} (h : RefIn w R b vb vc hs D) (h1 : ∀ x, R x → R' x) (h2 : ∀ x, R' x → x < w.heap.size) : RefIn w R' b vb vc hs D where
  cell := h.cell
  vec := h.vec
  cap := h.cap
  hl := h.hl
  row := fun i v hv => by obtain ⟨q, c, r1, r2, r3, r4, r5⟩ := h.row i v hv; exact ⟨q, c, r1, r2, r3, h1 _ r4, r5⟩
  rb := h1 _ h.rb
  rv := h1 _ h.rv
  ne := h.ne
  wf := h.wf
  lt := h2

/-- A block gets one version: a new row of one string, and its header. -/
theorem one_row {w0 : World} (hR : ∀ x, R x → x < w0.heap.size) (hrb : R b) (hrv : R vb) (h : RefIn w (Gro R w0 w) b vb vc hs D) (hz : w0.heap.size ≤ w.heap.size) {i : Nat} {v : List Bk} {x : Bk} (hv : D.vs[i]? = some v) (hx : x.length = 256) :
    RefIn (w.alloc (.cells ⟨[.string ⟨x.toArray⟩]⟩ 9)) (Gro R w0 (w.alloc (.cells ⟨[.string ⟨x.toArray⟩]⟩ 9))) b vb vc hs D ∧
    ∃ w', RuU (Instr.storeAt 40 (.pointer (some (Addr.add (Addr.add ⟨vb, 0, none⟩ i) 0))) (.slice (some ⟨w.heap.size, 0, none⟩) 1 1)) (w.alloc (.cells ⟨[.string ⟨x.toArray⟩]⟩ 9)) w' ∧
      RefIn w' (Gro R w0 w') b vb vc (hs.set i (w.heap.size, 1)) ⟨D.vs.set i [x], D.left⟩ ∧ Mod R w w' := by
  have m1 : Mod No w (w.alloc (.cells ⟨[.string ⟨x.toArray⟩]⟩ 9)) := (Mod.refl No w).alloc _
  have hat : At (w.alloc (.cells ⟨[.string ⟨x.toArray⟩]⟩ 9)) w.heap.size 0 ([x].map strV) := AtU.new.at
  have hs1 : (w.alloc (.cells ⟨[.string ⟨x.toArray⟩]⟩ 9)).heap.size = w.heap.size + 1 := by simp
  generalize w.alloc (.cells ⟨[.string ⟨x.toArray⟩]⟩ 9) = w1 at *
  have h1 := (h.nos m1).widen (R' := Gro R w0 w1) (Gro_mono (by omega)) (gro_lt hR (by omega))
  refine ⟨h1, ?_⟩
  have hb := hR b hrb
  have hvb := hR vb hrv
  obtain ⟨w2, s1, s2, s3⟩ := RefIn_set h1 (R' := Gro R w0 w1) (q' := w.heap.size) (c' := 1) (v' := [x]) hv (fun _ h => h) (.inr ⟨by omega, by omega⟩) h1.lt hat (by omega) (by omega) (by simp) (fun y hy => by simp at hy; subst hy; exact hx) (by simp)
  have hz2 := s3.size
  exact ⟨w2, s1, s2.widen (Gro_mono (by omega)) (gro_lt hR (by omega)), (m1.mono fun _ _ h => h.elim).trans s3 fun y _ e => by subst e; exact hrv⟩

theorem refFlush_c (h : RefIn w R b vb vc hs D) (hsm : Small D) (hk : ∀ w' hs', Mod R w w' → RefIn w' (Gro R w w') b vb vc hs' (flSt D) → K (.int .i64 0) w') : Cal Tryz.prog F_leveeref02_Disk_Flush #[.pointer (some ⟨b, 0, none⟩)] w K := by
  apply C_leveeref02_Disk_Flush
  unfold D_leveeref02_Disk_Flush
  refine refGoes_c h (fun hz => ⟨_, rfl, tt rfl ?_⟩) fun hnz w2 h2 m2 => ⟨_, rfl, ff rfl ?_⟩
  · have e : flSt D = D := by unfold flSt; rw [if_pos hz]
    exact hk w hs (Mod.refl _ _) (by rw [e]; exact h.widen (fun x hx => .inl hx) (gro_lt h.lt (Nat.le_refl _)))
  have eF : flSt D = ⟨D.vs.map fun v => [lastV v], dec D.left⟩ := by unfold flSt; rw [if_neg hnz]
  rw [eF] at hk
  have hhi := h.wf.hi
  have hz2 := m2.size
  have M2 : Mod R w w2 := m2.mono fun x _ e => by subst e; exact h.rb
  generalize hD2 : (⟨D.vs, dec D.left⟩ : St) = D2 at *
  have hvs : D2.vs = D.vs := by rw [← hD2]
  have hn2 : D2.vs.length = D.vs.length := by rw [hvs]
  have hlt2 : D2.left = dec D.left := by rw [← hD2]
  refine ⟨fun x w3 => ∃ (i : Nat) (hs' : List (Nat × Nat)), i ≤ D2.vs.length ∧ x = [.int .i64 i] ∧ RefIn w3 (Gro R w w3) b vb vc hs' (updR D2 (List.range i) fun _ v => lastV v) ∧ Mod R w w3 ∧ w.heap.size ≤ w3.heap.size, fun x _ => (D2.vs.length - nI x 0).toNat,
    ⟨0, hs, by omega, rfl, by rw [List.range_zero, updR_nil]; exact h2.widen (fun x hx => .inl hx) (gro_lt h.lt hz2), M2, hz2⟩, ?_⟩
  rintro x w3 ⟨i, hs', hi, rfl, h3, M3, hz3⟩
  have hn3 : (updR D2 (List.range i) fun _ v => lastV v).vs.length = D2.vs.length := by simp [updR]
  have hrv3 := rv h3
  rw [hn3] at hrv3
  refine ⟨_, rfl, _, rfl, _, _, _, hrv3, cond_of (fun hb => ?_) (fun hb => ?_)⟩
  · have hi : i < D2.vs.length := by have := of_decide_eq_true hb; omega
    have hv : D2.vs[i]? = some D2.vs[i] := by simp [hi]
    have hv3 : (updR D2 (List.range i) fun _ v => lastV v).vs[i]? = some D2.vs[i] := by rw [updR_get hv, if_neg (by simp)]
    have hvm : D2.vs[i] ∈ D.vs := by rw [← hvs]; exact List.getElem_mem hi
    have hvne := (h.wf.ver _ hvm).1
    have hvp := List.length_pos_iff.2 hvne
    have hvl := hsm _ hvm
    have hll : (lastV D2.vs[i]).length = 256 := h2.wf.lastLen hv
    obtain ⟨q, cq, hrow, hcq, hat, _⟩ := rrow h3 hv3
    refine ⟨_, rfl, _, _, _, hrv3, _, idx_blk hi, _, _, _, hrow, _, rfl, ?_⟩
    have h3d := h3.drew
    have hrv3d := rv h3d
    rw [hn3] at hrv3d
    refine ⟨_, _, _, hrv3d, ?_⟩
    rw [wrap64 (x := (D2.vs[i].length : Int) - 1) (by omega) (by omega), show (D2.vs[i].length : Int) - 1 = ((D2.vs[i].length - 1 : Nat) : Int) by omega]
    refine ⟨_, idx_str (by omega), _, strV_get (show At (drew w3) q 0 _ from hat) (last_get hvne), _, _, _, _, built_str _ _, ?_⟩
    have h3g : RefIn (drew w3) (Gro R w (drew w3)) b vb vc hs' (updR D2 (List.range i) fun _ v => lastV v) := h3d
    obtain ⟨h4, w5, s1, s2, s3⟩ := one_row (w0 := w) h.lt h.rb h.rv h3g hz3 hv3 hll
    have hrv4 := rv h4
    rw [hn3] at hrv4
    refine ⟨hrv4, _, idx_blk hi, w5, s1, ?_⟩
    rw [wrap64 (x := (i : Int) + 1) (by omega) (by omega)]
    have M5 : Mod R w w5 := (M3.no (Mod.refl No w3).drew).trans s3 fun _ _ h => h
    refine ⟨⟨i + 1, hs'.set i ((drew w3).heap.size, 1), by omega, rfl, ?_, M5, M5.size⟩, by simp [nI, nth]; omega⟩
    have e := updR_step (ks := List.range i) (f := fun _ v => lastV v) hv
    rw [← List.range_succ] at e
    rw [e] at s2
    exact s2
  · have hik : i = D2.vs.length := by have := of_decide_eq_false hb; omega
    subst hik
    refine hk w3 hs' M3 ?_
    have e : updR D2 (List.range D2.vs.length) (fun _ v => lastV v) = ⟨D.vs.map fun v => [lastV v], dec D.left⟩ := by
      have h1 := updR_all (D := D2) (ks := List.range D2.vs.length) (f := fun _ v => lastV v) (fun i v hv hi => by
        have := (List.getElem?_eq_some_iff.1 hv).1
        simp at hi; omega)
      rw [put1_const] at h1
      exact St_ext (by rw [h1, ← hvs]) hlt2
    rw [e] at h3
    exact h3

end
end Go.Proofs.YtocjjigmpgekfaaGreat
end
section
/- Layer 11, the document's store: what it is in memory, and its small functions. -/
open Go Go.Den Go.Proofs
namespace Go.Proofs.YtocjjigmpgekfaaGreat
/-- A store as the document has it: a disk, its blocks' bytes without open changes, these, the last number given. -/
structure Rs where
  D : St
  base : List Bk
  l : List Ch
  last : Nat
structure WFR (S : Rs) : Prop where
  len : S.base.length = S.D.vs.length
  small : Small S.D
  bl : ∀ b ∈ S.base, b.length = 256
  dat : ∀ x ∈ S.l, 1 ≤ x.data.length ∧ x.frm + x.data.length ≤ 256
  blt : ∀ x ∈ S.l, x.b < S.base.length
  srt : S.l.Pairwise fun x y => x.id < y.id
  idr : ∀ x ∈ S.l, 1 ≤ x.id ∧ x.id ≤ S.last
  aft : ∀ x ∈ S.l, ∀ k ∈ x.after, k < (x.id : Int)
  aftn : ∀ x ∈ S.l, x.after.length ≤ 1000000
  last : S.last ≤ 1000000
theorem WFR.llen {S : Rs} (h : WFR S) : S.l.length ≤ S.last := by
  have hn : (S.l.map (·.id)).Nodup := List.Pairwise.map _ (fun a b h => by have h : a.id < b.id := h; omega) h.srt
  have := List.Nodup.length_le_of_subset hn (l₂ := (List.range S.last).map (· + 1)) fun k hk => by
    obtain ⟨x, hx, rfl⟩ := List.mem_map.1 hk
    have := h.idr x hx
    exact List.mem_map.2 ⟨x.id - 1, List.mem_range.2 (by omega), by omega⟩
  simpa using this
def chV (x : Ch) (h : Option Addr × Nat) : List Value := [.int .i64 x.id, .int .i64 x.b, .int .i64 x.frm, .string ⟨x.data.toArray⟩, .slice h.1 x.after.length h.2, .bool x.out]
def rowL (l : List Ch) (H : List (Option Addr × Nat)) : List Value := (List.zipWith chV l H).flatten
theorem one_chV (x : Ch) (h : Option Addr × Nat) : ∀ v ∈ chV x h, v.oneCell' = true := by
  intro v hv
  simp [chV] at hv
  rcases hv with rfl | rfl | rfl | rfl | rfl | rfl <;> rfl
theorem rowL_len : ∀ {l : List Ch} {H : List (Option Addr × Nat)}, H.length = l.length → (rowL l H).length = l.length * 6
  | [], [], _ => rfl
  | x :: l, h :: H, e => by
    have e : H.length = l.length := by simpa using e
    have := rowL_len e
    unfold rowL at this ⊢
    simp only [List.zipWith_cons_cons, List.flatten_cons, List.length_append, this, List.length_cons]
    simp [chV]; omega
theorem rowL_snoc {l : List Ch} {H : List (Option Addr × Nat)} (e : H.length = l.length) (x : Ch) (h : Option Addr × Nat) : rowL (l ++ [x]) (H ++ [h]) = rowL l H ++ chV x h := by
  unfold rowL
  rw [List.zipWith_append e.symm]; simp
theorem rowL_get : ∀ {l : List Ch} {H : List (Option Addr × Nat)} {i : Nat} {x : Ch} {h : Option Addr × Nat}, l[i]? = some x → H[i]? = some h → ((rowL l H).drop (i * 6)).take 6 = chV x h
  | [], _, i, x, h, e, _ => by simp at e
  | _ :: _, [], i, x, h, _, e => by simp at e
  | y :: l, k :: H, 0, x, h, e1, e2 => by
    simp at e1 e2; subst e1; subst e2
    simp [rowL, chV]
  | y :: l, k :: H, i + 1, x, h, e1, e2 => by
    have := rowL_get (l := l) (H := H) (i := i) (x := x) (h := h) (by simpa using e1) (by simpa using e2)
    rw [← this]
    unfold rowL
    rw [List.zipWith_cons_cons, List.flatten_cons, show (i + 1) * 6 = (chV y k).length + i * 6 by simp [chV]; omega, ← List.drop_drop]
    simp
theorem rowL_cell {l : List Ch} {H : List (Option Addr × Nat)} {i j : Nat} {x : Ch} {h : Option Addr × Nat} {v : Value} (h1 : l[i]? = some x) (h2 : H[i]? = some h) (hj : (chV x h)[j]? = some v) : (rowL l H)[i * 6 + j]? = some v := by
  have hj6 : j < 6 := by have := (List.getElem?_eq_some_iff.1 hj).1; simpa [chV] using this
  rw [← rowL_get h1 h2, List.getElem?_take, if_pos hj6, List.getElem?_drop] at hj
  exact hj
/-- The document's store in memory: 1 the store itself, 2 the row of bytes, 3 that of changes, 4 its disk, 5 rows that stay. -/
structure RIn (w0 : World) (R : Nat → Prop) (rl : Nat → Nat) (w : World) (rp r vb vc : Nat) (hs : List (Nat × Nat)) (ba : Option Addr) (bc : Nat) (la : Option Addr) (lc : Nat) (H : List (Option Addr × Nat)) (S : Rs) : Prop where
  disk : RefIn w (fun x => rl x = 4) r vb vc hs S.D
  cell : AtU w rp 0 [.pointer (some ⟨r, 0, none⟩), .slice ba S.base.length bc, .slice la S.l.length lc, .int .i64 S.last]
  base : Own Tryz.prog w w0.heap.size 40 1 ba S.base.length bc (S.base.map strV)
  row : Own Tryz.prog w w0.heap.size 41 6 la S.l.length lc (rowL S.l H)
  hl : H.length = S.l.length
  aft : ∀ (i : Nat) (x : Ch) (h : Option Addr × Nat), S.l[i]? = some x → H[i]? = some h → Row w h.1 (iL x.after) ∧ (x.after ≠ [] → ∀ q, h.1 = some q → rl q.block = 5)
  rp1 : rl rp = 1
  rba : ∀ q, ba = some q → rl q.block = 2
  rla : ∀ q, la = some q → rl q.block = 3
  wf : WFR S
  reg : ∀ x, rl x ≠ 0 → R x
  lo : ∀ x, R x → w0.heap.size ≤ x ∧ x < w.heap.size
  mod : Mod No w0 w
section
variable {w0 w w' : World} {R : Nat → Prop} {rl : Nat → Nat} {rp r vb vc bc lc : Nat} {hs : List (Nat × Nat)} {ba la : Option Addr} {H : List (Option Addr × Nat)} {S : Rs} {K : Value → World → Prop}
theorem row_ne {a : Option Addr} {xs : List Int} (h : Row w a (iL xs)) (hne : xs ≠ []) : ∃ q, a = some q ∧ q.block < w.heap.size := by
  rcases h with h | ⟨b, o, e, hat⟩
  · exact absurd h (iL_ne hne)
  · exact ⟨_, e, hat.lt⟩
theorem RIn.keepS {Z : Nat → Prop} (h : RIn w0 R rl w rp r vb vc hs ba bc la lc H S) (k : Mod Z w w') (hsr : ∀ x, R x → ¬ Z x) (hw : ∀ x, x < w0.heap.size → ¬ Z x) : RIn w0 R rl w' rp r vb vc hs ba bc la lc H S := by
  have hr : ∀ {x}, rl x ≠ 0 → ¬ Z x := fun hx => hsr _ (h.reg _ hx)
  exact {
    disk := h.disk.keep k fun x hx => hr (by omega)
    cell := h.cell.keep k (hr (by rw [h.rp1]; omega))
    base := h.base.keep k fun q hq => hr (by rw [h.rba q hq]; omega)
    row := h.row.keep k fun q hq => hr (by rw [h.rla q hq]; omega)
    hl := h.hl
    aft := fun i x p h1 h2 => by
      obtain ⟨g1, g2⟩ := h.aft i x p h1 h2
      refine ⟨?_, g2⟩
      by_cases hne : x.after = []
      · rw [hne]; exact .inl rfl
      · exact g1.keep k fun q hq => hr (by rw [g2 hne q hq]; omega)
    rp1 := h.rp1
    rba := h.rba
    rla := h.rla
    wf := h.wf
    reg := h.reg
    lo := fun x hx => by have := h.lo x hx; have := k.size; omega
    mod := h.mod.trans k fun x hx e => absurd e (hw x hx) }
theorem RIn.nos (h : RIn w0 R rl w rp r vb vc hs ba bc la lc H S) (k : Mod No w w') : RIn w0 R rl w' rp r vb vc hs ba bc la lc H S := h.keepS k (fun _ _ => id) fun _ _ => id
theorem RIn.drew (h : RIn w0 R rl w rp r vb vc hs ba bc la lc H S) : RIn w0 R rl (Go.Den.drew w) rp r vb vc hs ba bc la lc H S := h.nos (Mod.refl No w).drew
theorem RIn.widen {R' : Nat → Prop} (h : RIn w0 R rl w rp r vb vc hs ba bc la lc H S) (h1 : ∀ x, R x → R' x) (h2 : ∀ x, R' x → w0.heap.size ≤ x ∧ x < w.heap.size) : RIn w0 R' rl w rp r vb vc hs ba bc la lc H S :=
  { h with reg := fun x hx => h1 x (h.reg x hx), lo := h2 }
theorem RIn.gro (h : RIn w0 R rl w rp r vb vc hs ba bc la lc H S) (k : Mod No w w') : RIn w0 (Gro R w w') rl w' rp r vb vc hs ba bc la lc H S :=
  (h.nos k).widen (fun x hx => .inl hx) fun x hx => by
    have := k.size
    have := h.mod.size
    rcases hx with hx | hx
    · have := h.lo x hx; omega
    · omega
theorem RIn.out_of {x : Nat} (h : RIn w0 R rl w rp r vb vc hs ba bc la lc H S) (hx : w.heap.size ≤ x) : rl x = 0 := by
  by_cases e : rl x = 0
  · exact e
  · have := h.lo x (h.reg x e); omega
/-- A step in memory: the parts anew; the disk is as it was. -/
theorem RIn.step {Z : Nat → Prop} {rl' : Nat → Nat} {bc' lc' : Nat} {ba' la' : Option Addr} {H' : List (Option Addr × Nat)} {S' : Rs} (h : RIn w0 R rl w rp r vb vc hs ba bc la lc H S) (hD : S'.D = S.D) (k : Mod Z w w') (hx : Ext w w' rl rl')
    (hS : ∀ x, x < w.heap.size → Z x → rl x ≠ 0 ∧ rl x ≠ 4 ∧ rl x ≠ 5)
    (hcell : AtU w' rp 0 [.pointer (some ⟨r, 0, none⟩), .slice ba' S'.base.length bc', .slice la' S'.l.length lc', .int .i64 S'.last])
    (hbase : Own Tryz.prog w' w0.heap.size 40 1 ba' S'.base.length bc' (S'.base.map strV)) (hrow : Own Tryz.prog w' w0.heap.size 41 6 la' S'.l.length lc' (rowL S'.l H')) (hl : H'.length = S'.l.length)
    (haft : ∀ (i : Nat) (x : Ch) (p : Option Addr × Nat), S'.l[i]? = some x → H'[i]? = some p → (∃ (i0 : Nat) (x0 : Ch), S.l[i0]? = some x0 ∧ H[i0]? = some p ∧ x0.after = x.after) ∨ (Row w' p.1 (iL x.after) ∧ (x.after ≠ [] → ∀ q, p.1 = some q → rl' q.block = 5)))
    (hba : ∀ q, ba' = some q → rl' q.block = 2) (hla : ∀ q, la' = some q → rl' q.block = 3) (hwf : WFR S') :
    RIn w0 (Gro R w w') rl' w' rp r vb vc hs ba' bc' la' lc' H' S' where
  disk := by
    rw [hD]
    have e : (fun x => rl' x = 4) = fun x => rl x = 4 := by
      funext x; apply propext
      exact ⟨hx.dsk x, fun e => by rw [hx.old x (by omega)]; exact e⟩
    rw [e]
    exact h.disk.keep k fun x hx e => by
      have := h.lo x (h.reg x (by omega))
      exact (hS x this.2 e).2.1 hx
  cell := hcell
  base := hbase
  row := hrow
  hl := hl
  aft := fun i x p h1 h2 => by
    rcases haft i x p h1 h2 with ⟨i0, x0, e1, e2, e3⟩ | h
    · obtain ⟨g1, g2⟩ := h.aft i0 x0 p e1 e2
      rw [e3] at g1 g2
      refine ⟨?_, fun hne q hq => by rw [hx.old _ (by rw [g2 hne q hq]; omega)]; exact g2 hne q hq⟩
      by_cases hne : x.after = []
      · rw [hne]; exact .inl rfl
      · exact Row.keep2 g1 k fun q hq hlt e => (hS _ hlt e).2.2 (g2 hne q hq)
    · exact h
  rp1 := by rw [hx.old _ (by rw [h.rp1]; omega)]; exact h.rp1
  rba := hba
  rla := hla
  wf := hwf
  reg := fun x hx' => by
    by_cases e : rl x = 0
    · exact .inr (hx.new x e hx')
    · exact .inl (h.reg x e)
  lo := fun x hx => by
    have := k.size
    have := h.mod.size
    rcases hx with hx | hx
    · have := h.lo x hx; omega
    · omega
  mod := h.mod.trans k fun x hx' e => by
    have hsz := h.mod.size
    have := (hS x (by omega) e).1
    have := h.lo x (h.reg x this)
    omega
theorem RIn.dsk {Z : Nat → Prop} {hs' : List (Nat × Nat)} {D' : St} (h : RIn w0 R rl w rp r vb vc hs ba bc la lc H S) (k : Mod Z w w') (hS : ∀ x, Z x → rl x = 4)
    (hd : RefIn w' (Gro (fun x => rl x = 4) w w') r vb vc hs' D') (hsm : Small D') (hn : D'.vs.length = S.D.vs.length) :
    ∃ rl', RIn w0 (Gro R w w') rl' w' rp r vb vc hs' ba bc la lc H { S with D := D' } := by
  classical
  have hz := k.size
  have old : ∀ x, rl x ≠ 0 → x < w.heap.size := fun x hx => (h.lo x (h.reg x hx)).2
  have e4 : (fun x => (if w.heap.size ≤ x ∧ x < w'.heap.size then 4 else rl x) = 4) = Gro (fun x => rl x = 4) w w' := by
    funext x; apply propext
    unfold Gro
    constructor
    · intro e
      split at e
      · right; assumption
      · left; exact e
    · rintro (e | e)
      · have := old x (by omega)
        rw [if_neg (by omega)]; exact e
      · rw [if_pos e]
  have keepr : ∀ {x}, rl x ≠ 0 → (if w.heap.size ≤ x ∧ x < w'.heap.size then 4 else rl x) = rl x := fun {x} hx => by have := old x hx; rw [if_neg (by omega)]
  refine ⟨fun x => if w.heap.size ≤ x ∧ x < w'.heap.size then 4 else rl x, {
    disk := by rw [e4]; exact hd
    cell := h.cell.keep k fun e => by have := hS _ e; rw [h.rp1] at this; omega
    base := h.base.keep k fun q hq e => by have := hS _ e; rw [h.rba q hq] at this; omega
    row := h.row.keep k fun q hq e => by have := hS _ e; rw [h.rla q hq] at this; omega
    hl := h.hl
    aft := fun i x p h1 h2 => by
      obtain ⟨g1, g2⟩ := h.aft i x p h1 h2
      refine ⟨?_, fun hne q hq => by rw [keepr (by rw [g2 hne q hq]; omega)]; exact g2 hne q hq⟩
      by_cases hne : x.after = []
      · rw [hne]; exact .inl rfl
      · exact g1.keep k fun q hq e => by have := hS _ e; rw [g2 hne q hq] at this; omega
    rp1 := by rw [keepr (by rw [h.rp1]; omega)]; exact h.rp1
    rba := fun q hq => by rw [keepr (by rw [h.rba q hq]; omega)]; exact h.rba q hq
    rla := fun q hq => by rw [keepr (by rw [h.rla q hq]; omega)]; exact h.rla q hq
    wf := { h.wf with len := h.wf.len.trans hn.symm, small := hsm }
    reg := fun x hx => by
      by_cases e : w.heap.size ≤ x ∧ x < w'.heap.size
      · exact .inr e
      · rw [if_neg e] at hx; exact .inl (h.reg x hx)
    lo := fun x hx => by
      have := h.mod.size
      rcases hx with hx | hx
      · have := h.lo x hx; omega
      · omega
    mod := h.mod.trans k fun x hx e => by
      have hne : rl x ≠ 0 := by rw [hS x e]; omega
      have := h.lo x (h.reg x hne); omega }⟩
theorem RIn.ld (h : RIn w0 R rl w rp r vb vc hs ba bc la lc H S) : Ru (Instr.loadAt 27 (.pointer (some (Addr.add ⟨rp, 0, none⟩ 0)))) w (.pointer (some ⟨r, 0, none⟩)) w := by
  rw [add_none]; exact h.cell.at.load (by kernel_rfl) rfl
theorem RIn.lb (h : RIn w0 R rl w rp r vb vc hs ba bc la lc H S) : Ru (Instr.loadAt 40 (.pointer (some (Addr.add ⟨rp, 0, none⟩ 1)))) w (.slice ba S.base.length bc) w := by
  rw [add_none]; exact h.cell.at.load (by kernel_rfl) rfl
theorem RIn.ll (h : RIn w0 R rl w rp r vb vc hs ba bc la lc H S) : Ru (Instr.loadAt 41 (.pointer (some (Addr.add ⟨rp, 0, none⟩ 2)))) w (.slice la S.l.length lc) w := by
  rw [add_none]; exact h.cell.at.load (by kernel_rfl) rfl
theorem RIn.llast (h : RIn w0 R rl w rp r vb vc hs ba bc la lc H S) : Ru (Instr.loadAt 2 (.pointer (some (Addr.add ⟨rp, 0, none⟩ 3)))) w (.int .i64 S.last) w := by
  rw [add_none]; exact h.cell.at.load (by kernel_rfl) rfl
theorem agg_chg : aggN Tryz.prog 186 = some 6 := by kernel_rfl
theorem elemG_chgs : elemG Tryz.prog 41 6 72 := elemG_of (by kernel_rfl)
/-- One change's cells. -/
theorem RIn.at {i : Nat} {x : Ch} (h : RIn w0 R rl w rp r vb vc hs ba bc la lc H S) (hx : S.l[i]? = some x) : ∃ g p, la = some ⟨g, 0, none⟩ ∧ H[i]? = some p ∧ Al (Instr.indexAt 41 (.slice la S.l.length lc) (.int .i64 i)) (.pointer (some ⟨g, i * 6, none⟩)) ∧
    (∀ (j : Nat) (T : TypeId) (v : Value), scal Tryz.prog T = true → (chV x p)[j]? = some v → Ru (Instr.loadAt T (.pointer (some (Addr.add ⟨g, i * 6, none⟩ j)))) w v w) ∧
    Ru (Instr.loadAt 186 (.pointer (some ⟨g, i * 6, none⟩))) w (.agg ⟨chV x p⟩) w ∧ Row w p.1 (iL x.after) := by
  have hi := (List.getElem?_eq_some_iff.1 hx).1
  obtain ⟨g, rfl, hg, hat⟩ := h.row.sm (by omega)
  obtain ⟨p, hp⟩ : ∃ p, H[i]? = some p := ⟨H[i]'(by rw [h.hl]; exact hi), List.getElem?_eq_getElem (by rw [h.hl]; exact hi)⟩
  refine ⟨g, p, rfl, hp, fun w' => ?_, fun j T v hT hj => ?_, ?_, (h.aft i x p hx hp).1⟩
  · have := index_slice (P := Tryz.prog) (T := 41) (k := 6) (a := ⟨g, 0, none⟩) (n := S.l.length) (c := lc) (kk := .i64) (i := i) (by kernel_rfl) (by omega) (by omega) w'
    rw [add_none, show 0 + (i : Int).toNat * 6 = i * 6 by omega] at this
    exact this
  · rw [add_none]
    have := hat.at.load (P := Tryz.prog) (i := i * 6 + j) hT (rowL_cell hx hp hj)
    rwa [Nat.zero_add] at this
  · have := hat.at.loadAgg (P := Tryz.prog) (i := i * 6) agg_chg (by rw [rowL_len h.hl]; omega)
    rw [rowL_get hx hp, Nat.zero_add] at this
    exact this
theorem rthere_c (h : RIn w0 R rl w rp r vb vc hs ba bc la lc H S) {n : Int} (hk : K (.bool (decide (0 ≤ n ∧ n < S.base.length))) w) : Cal Tryz.prog F_leveeref11_Store_there #[.pointer (some ⟨rp, 0, none⟩), .int .i64 n] w K := by
  apply C_leveeref11_Store_there
  unfold D_leveeref11_Store_there
  refine Share.dup (cond_of (fun hb => ⟨_, rfl, _, _, _, h.lb, _, rfl, ?_⟩) (fun hb => ⟨_, rfl, ?_⟩))
  · have hb := of_decide_eq_true hb
    rw [show decide (n < (S.base.length : Int)) = decide (0 ≤ n ∧ n < S.base.length) by rw [Bool.eq_iff_iff]; simp only [decide_eq_true_eq]; omega]
    exact hk
  · have hb := of_decide_eq_false hb
    rw [show false = decide (0 ≤ n ∧ n < S.base.length) by rw [Bool.eq_iff_iff]; simp; omega]
    exact hk
theorem rfind11_c (h : RIn w0 R rl w rp r vb vc hs ba bc la lc H S) {n : Int} (hk0 : (∀ x ∈ S.l, (x.id : Int) ≠ n) → K (.int .i64 (-1)) w) (hk1 : ∀ (i : Nat) (x : Ch), S.l[i]? = some x → (x.id : Int) = n → K (.int .i64 i) w) :
    Cal Tryz.prog F_leveeref11_Store_find #[.pointer (some ⟨rp, 0, none⟩), .int .i64 n] w K := by
  have hlen := h.wf.llen
  have hlast := h.wf.last
  apply C_leveeref11_Store_find
  unfold D_leveeref11_Store_find
  refine ⟨fun x w1 => w = w1 ∧ ∃ i : Nat, x = [.int .i64 i] ∧ i ≤ S.l.length ∧ ∀ y ∈ S.l.take i, (y.id : Int) ≠ n, fun x _ => (S.l.length - nI x 0).toNat, ⟨rfl, 0, rfl, by omega, by simp⟩, ?_⟩
  rintro x w1 ⟨rfl, i, rfl, hi, hno⟩
  refine ⟨_, rfl, _, rfl, _, _, _, h.ll, cond_of (fun hb => ?_) (fun hb => ?_)⟩
  · have hi : i < S.l.length := by have := of_decide_eq_true hb; omega
    obtain ⟨g, p, hg, hp, hix, hld, _, _⟩ := h.at (List.getElem?_eq_getElem hi)
    refine ⟨_, rfl, _, _, _, h.ll, _, hix, _, hld 0 _ _ (by kernel_rfl) rfl, cond_of (fun hb => ?_) (fun hb => ?_)⟩
    · exact hk1 i _ (List.getElem?_eq_getElem hi) (by simpa using hb)
    · rw [wrap64 (x := (i : Int) + 1) (by omega) (by omega)]
      refine ⟨⟨rfl, i + 1, rfl, by omega, fun y hy => ?_⟩, by simp [nI, nth]; omega⟩
      rw [List.take_succ_eq_append_getElem hi] at hy
      rcases List.mem_append.1 hy with hy | hy
      · exact hno y hy
      · rw [List.mem_singleton.1 hy]; simpa using hb
  · have hi : i = S.l.length := by have := of_decide_eq_false hb; omega
    subst hi
    exact hk0 (by rw [List.take_length] at hno; exact hno)
theorem rSafe11_c (h : RIn w0 R rl w rp r vb vc hs ba bc la lc H S) {n : Int} (hk : K (.bool (decide (1 ≤ n ∧ n ≤ S.last) && S.l.all fun x => !decide ((x.id : Int) = n))) w) : Cal Tryz.prog F_leveeref11_Store_Safe #[.pointer (some ⟨rp, 0, none⟩), .int .i64 n] w K := by
  apply C_leveeref11_Store_Safe
  unfold D_leveeref11_Store_Safe
  refine Share.cut (fun z w1 => w = w1 ∧ z = [.bool (decide (1 ≤ n ∧ n ≤ S.last) && S.l.all fun x => !decide ((x.id : Int) = n))]) (cond_of (fun hb => ⟨_, rfl, _, h.llast, cond_of (fun hb2 => ?_) (fun hb2 => ?_)⟩) (fun hb => ?_)) ?_
  · have hb := of_decide_eq_true hb
    have hb2 := of_decide_eq_true hb2
    rw [decide_eq_true (show 1 ≤ n ∧ n ≤ S.last from ⟨hb, hb2⟩), Bool.true_and]
    refine rfind11_c h (fun hno => ⟨_, rfl, rfl, ?_⟩) fun i x hx e => ⟨_, rfl, rfl, ?_⟩
    · have : (S.l.all fun x => !decide ((x.id : Int) = n)) = true := by
        rw [List.all_eq_true]; intro x hx; simpa using hno x hx
      rw [this]; rfl
    · have : (S.l.all fun x => !decide ((x.id : Int) = n)) = false := by
        rw [List.all_eq_false]; exact ⟨x, List.mem_of_getElem? hx, by simpa using e⟩
      rw [this, decide_eq_false (by omega)]
  · have hb2 := of_decide_eq_false hb2
    rw [decide_eq_false (by omega)]; exact ⟨rfl, rfl⟩
  · have hb := of_decide_eq_false hb
    rw [decide_eq_false (by omega)]; exact ⟨rfl, rfl⟩
  · rintro z w1 ⟨rfl, rfl⟩
    exact ⟨_, rfl, hk⟩
theorem box_chg (w : World) (cs : List Value) : (Instr.box 186 (.agg ⟨cs⟩)).run Tryz.prog w = .ok (.pointer (some ⟨w.heap.size, 0, none⟩)) (w.alloc (.cells ⟨cs⟩ 186)) := rfl
def meetR (x y : Ch) : Bool := decide (x.b = y.b) && meetB x y
theorem meet_c {x y : Ch} {p q : Option Addr × Nat} (hx : x.frm + x.data.length ≤ 256) (hy : y.frm + y.data.length ≤ 256) (hk : ∀ w', Mod No w w' → K (.bool (meetR x y)) w') : Cal Tryz.prog F_leveeref11_meet #[.agg ⟨chV x p⟩, .agg ⟨chV y q⟩] w K := by
  apply C_leveeref11_meet
  unfold D_leveeref11_meet
  refine ⟨_, _, box_chg _ _, _, _, box_chg _ _, ?_⟩
  have a1 : At ((w.alloc (.cells ⟨chV x p⟩ 186)).alloc (.cells ⟨chV y q⟩ 186)) w.heap.size 0 (chV x p) := AtU.new.at.keep ((Mod.refl No _).alloc _) id
  have a2 : At ((w.alloc (.cells ⟨chV x p⟩ 186)).alloc (.cells ⟨chV y q⟩ 186)) (w.alloc (.cells ⟨chV x p⟩ 186)).heap.size 0 (chV y q) := AtU.new.at
  have m2 : Mod No w ((w.alloc (.cells ⟨chV x p⟩ 186)).alloc (.cells ⟨chV y q⟩ 186)) := ((Mod.refl No w).alloc _).alloc _
  generalize (w.alloc (.cells ⟨chV x p⟩ 186)).heap.size = g2 at *
  generalize (w.alloc (.cells ⟨chV x p⟩ 186)).alloc (.cells ⟨chV y q⟩ 186) = w2 at *
  have l1 : ∀ (j : Nat) (T : TypeId) (v : Value), scal Tryz.prog T = true → (chV x p)[j]? = some v → Ru (Instr.loadAt T (.pointer (some (Addr.add ⟨w.heap.size, 0, none⟩ j)))) w2 v w2 := fun j T v hT hj => by rw [add_none]; exact a1.load hT hj
  have l2 : ∀ (j : Nat) (T : TypeId) (v : Value), scal Tryz.prog T = true → (chV y q)[j]? = some v → Ru (Instr.loadAt T (.pointer (some (Addr.add ⟨g2, 0, none⟩ j)))) w2 v w2 := fun j T v hT hj => by rw [add_none]; exact a2.load hT hj
  refine Share.cut (fun z w3 => w2 = w3 ∧ z = [.bool (meetR x y)]) ⟨_, l1 1 _ _ (by kernel_rfl) rfl, _, l2 1 _ _ (by kernel_rfl) rfl, cond_of (fun hb => ?_) (fun hb => ⟨rfl, ?_⟩)⟩ ?_
  · have hb : x.b = y.b := by
      have : (x.b : Int) = y.b := by simpa using hb
      omega
    refine ⟨_, l1 2 _ _ (by kernel_rfl) rfl, _, l2 2 _ _ (by kernel_rfl) rfl, _, l2 3 _ _ (by kernel_rfl) rfl, cond_of (fun hb2 => ⟨_, l2 2 _ _ (by kernel_rfl) rfl, _, l1 2 _ _ (by kernel_rfl) rfl, _, l1 3 _ _ (by kernel_rfl) rfl, rfl, ?_⟩) (fun hb2 => ⟨rfl, ?_⟩)⟩
    · rw [show (ByteArray.size ⟨x.data.toArray⟩ : Int) = x.data.length by simp [ByteArray.size], wrap64 (by omega) (by omega)]
      rw [show (ByteArray.size ⟨y.data.toArray⟩ : Int) = y.data.length by simp [ByteArray.size], wrap64 (by omega) (by omega)] at hb2
      have hb2 := of_decide_eq_true hb2
      unfold meetR meetB
      rw [decide_eq_true hb, decide_eq_true (show x.frm < y.frm + y.data.length by omega), Bool.true_and, Bool.true_and]
      congr 2; rw [Bool.eq_iff_iff]; simp only [decide_eq_true_eq]; omega
    · rw [show (ByteArray.size ⟨y.data.toArray⟩ : Int) = y.data.length by simp [ByteArray.size], wrap64 (by omega) (by omega)] at hb2
      have hb2 := of_decide_eq_false hb2
      unfold meetR meetB
      rw [decide_eq_false (show ¬ x.frm < y.frm + y.data.length by omega)]; simp
  · have hb : ¬ x.b = y.b := fun e => by rw [e] at hb; simp at hb
    unfold meetR
    rw [decide_eq_false hb]; rfl
  · rintro z w3 ⟨rfl, rfl⟩
    exact ⟨_, rfl, hk _ m2⟩
end
end Go.Proofs.YtocjjigmpgekfaaGreat
end
section
/- Layer 11, the document's store: bytes with changes, which may be written, images. -/
open Go Go.Den Go.Proofs
namespace Go.Proofs.YtocjjigmpgekfaaGreat
section
variable {w0 w w' : World} {R : Nat → Prop} {rl : Nat → Nat} {rp r vb vc bc lc : Nat} {hs : List (Nat × Nat)} {ba la : Option Addr} {H : List (Option Addr × Nat)} {S : Rs} {K : Value → World → Prop}
theorem refLay_c {a0 a2 : Option Addr} {l0 c0 l2 c2 i : Nat} {b ys : List UInt8} (hb : b.length = l0) (hy : ys.length = l2) (hin : i + l2 ≤ l0) (h63 : l0 ≤ 1048576) (hc : l0 ≤ c0) (h0 : Row w a0 (u8L b)) (h2 : Row w a2 (u8L ys)) (hn0 : a0 ≠ none) (hn2 : a2 ≠ none)
    (hk : ∀ w' a c, Mod No w w' → Own Tryz.prog w' w.heap.size 36 1 a l0 c (u8L (overB b i ys)) → K (.tuple #[.slice a l0 c, .int .i64 0]) w') : Cal Tryz.prog F_leveeref01_Lay #[.slice a0 l0 c0, .int .i64 i, .slice a2 l2 c2] w K := by
  subst hb; subst hy
  apply C_leveeref01_Lay
  unfold D_leveeref01_Lay
  refine Share.cut (fun z w1 => w = w1 ∧ z = [.bool false]) (ff (by simp) (ff (by simp; omega) ⟨rfl, ?_⟩)) ?_
  · rw [wrap64 (x := (b.length : Int) - i) (by omega) (by omega), decide_eq_false (by omega)]
  rintro z w1 ⟨rfl, rfl⟩
  refine ⟨_, rfl, ff rfl ⟨_, _, _, slice_h (k := 1) (by kernel_rfl) (by omega) (by omega), ?_⟩⟩
  rw [show (i : Int).toNat = i by omega]
  have hcut : ∀ k, cutA a0 c0 k 1 ≠ none := fun k => by
    unfold cutA
    split
    · exact hn0
    · obtain ⟨q, rfl⟩ := Option.ne_none_iff_exists'.1 hn0
      simp
  have r1 : Row w (cutA a0 c0 0 1) (u8L (b.take i)) := by
    by_cases hm : i = 0
    · left; rw [hm]; rfl
    · have := h0.sub (i := 0) (m := i) (c := c0) (by omega) hc (by omega)
      rwa [List.drop_zero] at this
  obtain ⟨a3, c3, w2, run2, o2, m2⟩ := (Own.nil (P := Tryz.prog) (w := w) (base := w.heap.size) elemZ_bytes).append' (ty := 36) (m := i) (c2 := c0) elemZ_bytes (by omega) r1 (by simp; omega) (hcut 0) (one_u8L _) (by omega) (by omega) (Nat.le_refl _)
  have M2 : Mod No w w2 := m2.mono fun x _ ⟨q, e, _⟩ => by cases e
  refine ⟨_, _, _, w2, run2, ?_⟩
  have hz2 := M2.size
  obtain ⟨a4, c4, w3, run3, o3, m3⟩ := o2.append' (ty := 36) (m := ys.length) (c2 := c2) elemZ_bytes (by omega) (h2.nos M2) (by simp) hn2 (one_u8L _) (by omega) (by omega) (by omega)
  have M3 : Mod No w w3 := M2.trans m3 fun x hx ⟨q, e, e2⟩ => by have := (o2.base e).1; omega
  refine ⟨_, _, _, w3, run3, ?_⟩
  have hz3 := M3.size
  rw [wrap64 (x := (i : Int) + (ys.length : Int)) (by omega) (by omega)]
  refine ⟨_, _, _, slice_l (k := 1) (by kernel_rfl) (by omega) (by omega), ?_⟩
  rw [show ((i : Int) + (ys.length : Int)).toNat = i + ys.length by omega]
  have r4 : Row w3 (cutA a0 c0 (i + ys.length) 1) (u8L (b.drop (i + ys.length))) := by
    by_cases hm : b.length - (i + ys.length) = 0
    · left; rw [List.drop_eq_nil_of_le (by omega)]; rfl
    · have := (h0.nos M3).sub (i := i + ys.length) (m := b.length - (i + ys.length)) (c := c0) (by omega) hc (by omega)
      rwa [List.take_of_length_le (by simp)] at this
  have hn4 := hcut (i + ys.length)
  obtain ⟨a5, c5, w4, run4, o4, m4⟩ := o3.append' (ty := 36) (m := b.length - (i + ys.length)) (c2 := c0 - (i + ys.length)) elemZ_bytes (by omega) r4 (by simp) hn4 (one_u8L _) (by omega) (by omega) (by omega)
  have M4 : Mod No w w4 := M3.trans m4 fun x hx ⟨q, e, e2⟩ => by have := (o3.base e).1; omega
  refine ⟨_, _, _, w4, run4, ?_⟩
  have hl : 0 + i + ys.length + (b.length - (i + ys.length)) = b.length := by omega
  rw [hl] at o4 ⊢
  refine hk w4 a5 c5 M4 ?_
  have e : [] ++ u8L (b.take i) ++ u8L ys ++ u8L (b.drop (i + ys.length)) = u8L (overB b i ys) := by
    unfold overB u8L; simp
  rwa [e] at o4
theorem upon_c {a0 : Option Addr} {c0 : Nat} {b : Bk} {x : Ch} {p : Option Addr × Nat} (hb : b.length = 256) (hx : x.frm + x.data.length ≤ 256) (hc : 256 ≤ c0) (h0 : Row w a0 (u8L b))
    (hk : ∀ w' a c, Mod No w w' → Own Tryz.prog w' w.heap.size 36 1 a 256 c (u8L (overB b x.frm x.data)) → K (.slice a 256 c) w') : Cal Tryz.prog F_leveeref11_upon #[.slice a0 256 c0, .agg ⟨chV x p⟩] w K := by
  apply C_leveeref11_upon
  unfold D_leveeref11_upon
  refine ⟨_, _, box_chg _ _, ?_⟩
  have a1 : At (w.alloc (.cells ⟨chV x p⟩ 186)) w.heap.size 0 (chV x p) := AtU.new.at
  have m1 : Mod No w (w.alloc (.cells ⟨chV x p⟩ 186)) := (Mod.refl No w).alloc _
  generalize w.alloc (.cells ⟨chV x p⟩ 186) = w1 at *
  have l1 : ∀ (j : Nat) (T : TypeId) (v : Value), scal Tryz.prog T = true → (chV x p)[j]? = some v → Ru (Instr.loadAt T (.pointer (some (Addr.add ⟨w.heap.size, 0, none⟩ j)))) w1 v w1 := fun j T v hT hj => by rw [add_none]; exact a1.load hT hj
  obtain ⟨cc, w2, c1, c2, c3, c4⟩ := bytes_run (P := Tryz.prog) (w := w1) (S := 9) (T := 36) (xs := x.data) (by kernel_rfl)
  refine ⟨_, l1 2 _ _ (by kernel_rfl) rfl, _, l1 3 _ _ (by kernel_rfl) rfl, _, _, _, w2, c1, ?_⟩
  have hz1 := m1.size
  have hz3 := c3.size
  have hn0 : a0 ≠ none := by
    rcases h0 with h0 | ⟨q, o, e, _⟩
    · exact absurd h0 (u8L_ne (fun e => by rw [e] at hb; simp at hb))
    · rw [e]; simp
  refine refLay_c (b := b) (ys := x.data) hb rfl hx (by omega) hc ((h0.nos m1).nos c3) (.inr ⟨_, _, rfl, c2.at⟩) hn0 (by simp) fun w3 a c m3 o3 => ⟨_, _, _, _, rfl, ?_⟩
  exact hk w3 a c ((m1.no c3).no m3) (o3.mono (by omega))
/-- Some changes upon a block's bytes. -/
def rdR (S : Rs) (b : Nat) (f : Ch → Bool) : Bk := withL ((S.base[b]?).getD []) (S.l.filter f)
theorem rdR_take {S : Rs} {b i : Nat} {f : Ch → Bool} (hi : i < S.l.length) : withL ((S.base[b]?).getD []) ((S.l.take (i + 1)).filter f) = if f S.l[i] = true then overB (withL ((S.base[b]?).getD []) ((S.l.take i).filter f)) S.l[i].frm S.l[i].data else withL ((S.base[b]?).getD []) ((S.l.take i).filter f) := by
  rw [List.take_succ_eq_append_getElem hi, List.filter_append]
  split
  · rename_i e
    rw [show [S.l[i]].filter f = [S.l[i]] by simp [e], withL_snoc]
  · rename_i e
    rw [show [S.l[i]].filter f = [] by simp [e], List.append_nil]
theorem RIn.bas (h : RIn w0 R rl w rp r vb vc hs ba bc la lc H S) {b : Nat} (hb : b < S.base.length) : ∃ g, ba = some ⟨g, 0, none⟩ ∧ Al (Instr.indexAt 40 (.slice ba S.base.length bc) (.int .i64 b)) (.pointer (some ⟨g, b, none⟩)) ∧ Ru (Instr.loadAt 9 (.pointer (some ⟨g, b, none⟩))) w (.string ⟨S.base[b].toArray⟩) w ∧ S.base[b].length = 256 := by
  obtain ⟨g, rfl, hg, hat⟩ := h.base.sm (by omega)
  refine ⟨g, rfl, fun w' => ?_, ?_, h.wf.bl _ (List.getElem_mem hb)⟩
  · have := index_slice (P := Tryz.prog) (T := 40) (k := 1) (a := ⟨g, 0, none⟩) (n := S.base.length) (c := bc) (kk := .i64) (i := b) (by kernel_rfl) (by omega) (by omega) w'
    rw [add_none, show 0 + (b : Int).toNat * 1 = b by omega] at this
    exact this
  · have := hat.at.load (P := Tryz.prog) (T := 9) (i := b) (v := strV S.base[b]) (by kernel_rfl) (by simp [hb])
    rwa [Nat.zero_add] at this
theorem rdR_len (h : WFR S) {b n : Nat} {f : Ch → Bool} (hb : b < S.base.length) : (withL ((S.base[b]?).getD []) ((S.l.take n).filter f)).length = 256 := by
  refine withL_len ?_ _ fun x hx => (h.dat x (List.mem_of_mem_take (List.mem_filter.1 hx).1)).2
  rw [List.getElem?_eq_getElem hb]
  exact h.bl _ (List.getElem_mem hb)
/-- Which may be written, as the document says: a mark that is as it says. -/
def MayR (S : Rs) (b : Nat) (f : Ch → Bool) : Prop :=
  ∀ (i : Nat) (x : Ch), S.l[i]? = some x → f x = (decide (x.b = b) && (x.after.all (fun k => S.l.all fun y => !decide ((y.id : Int) = k) || (decide (y.b = b) && f y)) && (S.l.take i).all fun y => !meetR y x || f y))
theorem srt_lt {l : List Ch} (h : l.Pairwise fun x y => x.id < y.id) {i j : Nat} {x y : Ch} (hx : l[i]? = some x) (hy : l[j]? = some y) (e : x.id < y.id) : i < j := by
  obtain ⟨h1, rfl⟩ := List.getElem?_eq_some_iff.1 hx
  obtain ⟨h2, rfl⟩ := List.getElem?_eq_some_iff.1 hy
  rcases Nat.lt_trichotomy i j with h' | h' | h'
  · exact h'
  · subst h'; omega
  · have := List.pairwise_iff_getElem.1 h j i h2 h1 h'; omega
theorem srt_uniq {l : List Ch} (h : l.Pairwise fun x y => x.id < y.id) {x y : Ch} (hx : x ∈ l) (hy : y ∈ l) (e : x.id = y.id) : x = y := by
  obtain ⟨i, h1, rfl⟩ := List.getElem_of_mem hx
  obtain ⟨j, h2, rfl⟩ := List.getElem_of_mem hy
  rcases Nat.lt_trichotomy i j with h' | h' | h'
  · have := List.pairwise_iff_getElem.1 h i j h1 h2 h'; omega
  · subst h'; rfl
  · have := List.pairwise_iff_getElem.1 h j i h2 h1 h'; omega
theorem bL_set (bs : List Bool) (i : Nat) (b : Bool) : (bL bs).set i (.bool b) = bL (bs.set i b) := by unfold bL; rw [List.map_set]
theorem ldBool {g j : Nat} {bs : List Bool} {b : Bool} (h : AtU w g 0 (bL bs)) (hj : bs[j]? = some b) : Ru (Instr.loadAt 4 (.pointer (some ⟨g, j, none⟩))) w (.bool b) w := by
  have := h.at.load (P := Tryz.prog) (T := 4) (i := j) (v := .bool b) (by kernel_rfl) (by unfold bL; rw [List.getElem?_map, hj]; rfl)
  rwa [Nat.zero_add] at this
theorem stBool {g j : Nat} {bs : List Bool} {b : Bool} (h : AtU w g 0 (bL bs)) (hj : j < bs.length) : ∃ w', RuU (Instr.storeAt 4 (.pointer (some ⟨g, j, none⟩)) (.bool b)) w w' ∧ AtU w' g 0 (bL (bs.set j b)) ∧ Mod (fun x => x = g) w w' := by
  obtain ⟨w', h1, h2, h3, _⟩ := h.store (P := Tryz.prog) (T := 4) (i := j) (v := .bool b) (by kernel_rfl) (by simpa using hj) rfl
  rw [Nat.zero_add] at h1
  rw [bL_set] at h2
  exact ⟨w', h1, h2, h3⟩
theorem ixBool {g n c i : Nat} (hi : i < n) : Al (Instr.indexAt 93 (.slice (some ⟨g, 0, none⟩) n c) (.int .i64 i)) (.pointer (some ⟨g, i, none⟩)) := fun w => by
  have := index_slice (P := Tryz.prog) (T := 93) (k := 1) (a := ⟨g, 0, none⟩) (n := n) (c := c) (kk := .i64) (i := i) (by kernel_rfl) (by omega) (by omega) w
  rw [add_none, show 0 + (i : Int).toNat * 1 = i by omega] at this
  exact this
/-- What the marks are, so far: those ahead, the one at hand, none behind. -/
def Mks (S : Rs) (f : Ch → Bool) (i : Nat) (b : Bool) (bs : List Bool) : Prop := bs.length = S.l.length ∧ (∀ j x, j < i → S.l[j]? = some x → bs[j]? = some (f x)) ∧ (i < S.l.length → bs[i]? = some b) ∧ ∀ j, i < j → j < S.l.length → bs[j]? = some false
theorem Mks.set {f : Ch → Bool} {i : Nat} {b b' : Bool} {bs : List Bool} (h : Mks S f i b bs) (hi : i < S.l.length) : Mks S f i b' (bs.set i b') := by
  obtain ⟨h1, h2, h3, h4⟩ := h
  refine ⟨by simpa using h1, fun j x hj hx => ?_, fun _ => ?_, fun j hj hj' => ?_⟩
  · rw [List.getElem?_set_ne (by omega)]; exact h2 j x hj hx
  · rw [List.getElem?_set_self (by omega)]
  · rw [List.getElem?_set_ne (by omega)]; exact h4 j hj hj'
theorem Mks.next {f : Ch → Bool} {i : Nat} {x : Ch} {bs : List Bool} (hx : S.l[i]? = some x) (h : Mks S f i (f x) bs) : Mks S f (i + 1) false bs := by
  obtain ⟨h1, h2, h3, h4⟩ := h
  have hi := (List.getElem?_eq_some_iff.1 hx).1
  refine ⟨h1, fun j y hj hy => ?_, fun hl => h4 _ (by omega) hl, fun j hj hj' => h4 j (by omega) hj'⟩
  by_cases e : j = i
  · subst e; rw [hx] at hy; cases hy; exact h3 hi
  · exact h2 j y (by omega) hy
theorem rmay_c (h : RIn w0 R rl w rp r vb vc hs ba bc la lc H S) {b : Nat} {f : Ch → Bool} (hf : MayR S b f)
    (hk : ∀ w' g, Mod No w w' → w.heap.size ≤ g → AtU w' g 0 (bL (S.l.map f)) → K (.slice (some ⟨g, 0, none⟩) S.l.length S.l.length) w') :
    Cal Tryz.prog F_leveeref11_Store_may #[.pointer (some ⟨rp, 0, none⟩), .int .i64 b] w K := by
  have hlen := h.wf.llen
  have hlast := h.wf.last
  have hsrt := h.wf.srt
  apply C_leveeref11_Store_may
  unfold D_leveeref11_Store_may
  obtain ⟨w1, mk1, s1, m1, _⟩ := makeSlice_run (P := Tryz.prog) (w := w) (n := S.l.length) elemZ_bool (by omega) (by omega) (by omega)
  rw [Nat.mul_one] at s1
  refine ⟨_, rfl, _, _, _, h.ll, _, _, _, w1, mk1, ?_⟩
  refine ⟨fun x w2 => ∃ (i : Nat) (y1 y2 y3 y4 : Value) (bs : List Bool), x = [.int .i64 i, y1, y2, y3, y4] ∧ i ≤ S.l.length ∧ Mks S f i false bs ∧ AtU w2 w.heap.size 0 (bL bs) ∧ Mod No w w2, fun x _ => (S.l.length - nI x 0).toNat,
    ⟨0, _, _, _, _, List.replicate S.l.length false, rfl, by omega, ⟨by simp, fun j x hj => by omega, fun hl => by simp [hl], fun j _ hj => by simp [hj]⟩, by unfold bL; rw [List.map_replicate]; exact s1, m1⟩, ?_⟩
  clear s1 mk1 m1
  rintro x w2 ⟨i, y1, y2, y3, y4, bs, rfl, hi, hM, hat, hm⟩
  have h2 := h.nos hm
  refine ⟨_, rfl, _, rfl, _, _, _, h2.ll, cond_of (fun hb => ?_) (fun hb => ?_)⟩
  · have hi : i < S.l.length := by have := of_decide_eq_true hb; omega
    have hxi := List.getElem?_eq_getElem hi
    generalize S.l[i] = x at hxi
    have hxm := List.mem_of_getElem? hxi
    obtain ⟨g, p, hg, hp, hix, hld, hagg, hra⟩ := h2.at hxi
    have hfx := hf i x hxi
    have hnexti : IntKind.i64.wrap ((i : Int) + 1) = ((i + 1 : Nat) : Int) := by rw [wrap64 (by omega) (by omega)]; omega
    refine Share.cut (fun z w14 => ∃ (y1 y2 y3 y4 : Value) (bs : List Bool), z = [y1, y2, y3, y4] ∧ Mks S f (i + 1) false bs ∧ AtU w14 w.heap.size 0 (bL bs) ∧ Mod No w w14) ⟨_, rfl, _, _, _, h2.ll, _, hix, _, hld 1 _ _ (by kernel_rfl) rfl, cond_of (fun hb => ?_) (fun hb => ?_)⟩ ?_
    · have hb : ¬ x.b = b := fun e => by rw [e] at hb; simp at hb
      rw [decide_eq_false hb, Bool.false_and] at hfx
      exact ⟨_, _, _, _, bs, rfl, Mks.next hxi (by rw [hfx]; exact hM), hat, hm⟩
    · have hb : x.b = b := by
        have : (x.b : Int) = b := by simpa using hb
        omega
      rw [decide_eq_true hb, Bool.true_and] at hfx
      obtain ⟨w3, st3, a3, m3⟩ := stBool (b := true) hat (j := i) (by rw [hM.1]; exact hi)
      have M3 : Mod No w w3 := hm.trans m3 fun z hz e => by have e : z = w.heap.size := e; omega
      refine ⟨_, ixBool hi, w3, st3, ?_⟩
      -- what it waits for
      refine ⟨fun z w4 => ∃ (k : Nat) (y : Value) (bs : List Bool), z = [.int .i64 k, y] ∧ k ≤ x.after.length ∧ Mks S f i ((x.after.take k).all fun k => S.l.all fun y => !decide ((y.id : Int) = k) || (decide (y.b = b) && f y)) bs ∧ AtU w4 w.heap.size 0 (bL bs) ∧ Mod No w w4, fun z _ => (x.after.length - nI z 0).toNat,
        ⟨0, _, _, rfl, by omega, by rw [List.take_zero]; exact hM.set hi, a3, M3⟩, ?_⟩
      clear a3 st3 m3 M3
      rintro z w4 ⟨k, y, bs4, rfl, hk4, hM4, hat4, hm4⟩
      have h4 := h.nos hm4
      obtain ⟨g', p', hg', hp', hix', hld', hagg', hra'⟩ := h4.at hxi
      have haft := h.wf.aftn x hxm
      refine ⟨_, rfl, _, rfl, _, _, _, h4.ll, _, hix', _, _, _, hld' 4 _ _ (by kernel_rfl) rfl, cond_of (fun hb2 => ?_) (fun hb2 => ?_)⟩
      · have hk4 : k < x.after.length := by have := of_decide_eq_true hb2; omega
        obtain ⟨b4, o4, hb4, hatk⟩ := row_some hra' hk4
        refine ⟨_, rfl, _, _, _, h4.ll, _, hix', _, _, _, hld' 4 _ _ (by kernel_rfl) rfl, ?_⟩
        rw [hb4]
        refine ⟨_, index_slice (k := 1) (by kernel_rfl) (by omega) (by omega), ?_⟩
        rw [add_none, show (k : Int).toNat * 1 = k by omega]
        refine ⟨_, hatk.load (by kernel_rfl) (iL_get hk4), ?_⟩
        have htk : (x.after.take (k + 1)).all (fun k => S.l.all fun y => !decide ((y.id : Int) = k) || (decide (y.b = b) && f y)) = ((x.after.take k).all (fun k => S.l.all fun y => !decide ((y.id : Int) = k) || (decide (y.b = b) && f y)) && S.l.all fun y => !decide ((y.id : Int) = x.after[k]) || (decide (y.b = b) && f y)) := by
          rw [List.take_succ_eq_append_getElem hk4, List.all_append]; simp
        rw [wrap64 (x := (k : Int) + 1) (by omega) (by omega), show ((k : Int) + 1) = ((k + 1 : Nat) : Int) by omega]
        -- is it in the way?
        have key : ∀ (n63 : Int) (bad : Bool), (S.l.all fun y => !decide ((y.id : Int) = x.after[k]) || (decide (y.b = b) && f y)) = !bad →
            (Share (fun k_5 => (bif bad then
 ∃ q87 : Addr, Al (Instr.indexAt 93 (.slice (some ⟨w.heap.size, 0, none⟩) S.l.length S.l.length) (.int .i64 i)) (.pointer (some q87)) ∧ ∃ w7 : World, RuU (Instr.storeAt 4 (.pointer (some q87)) (.bool false)) w4 w7 ∧ k_5 [] w7
 else
 k_5 [] w4)) fun x_5 w8 => ((∃ (k' : Nat) (y : Value) (bs : List Bool), ([.int .i64 ((k + 1 : Nat) : Int), .bool bad] : List Value) = [.int .i64 k', y] ∧ k' ≤ x.after.length ∧ Mks S f i ((x.after.take k').all fun k => S.l.all fun y => !decide ((y.id : Int) = k) || (decide (y.b = b) && f y)) bs ∧ AtU w8 w.heap.size 0 (bL bs) ∧ Mod No w w8) ∧ (x.after.length - nI [.int .i64 ((k + 1 : Nat) : Int), .bool bad] 0).toNat < (x.after.length - nI [.int .i64 (k : Int), y] 0).toNat)) := by
          intro n63 bad hbad
          refine Share.dup (cond_of (fun hb => ?_) (fun hb => ?_))
          · subst hb
            obtain ⟨w7, st7, a7, m7⟩ := stBool (b := false) hat4 (j := i) (by rw [hM4.1]; exact hi)
            refine ⟨_, ixBool hi, w7, st7, ⟨k + 1, _, _, rfl, by omega, ?_, a7, hm4.trans m7 fun z hz e => by have e : z = w.heap.size := e; omega⟩, by simp [nI, nth]; omega⟩
            rw [htk, hbad]; simp only [Bool.not_true, Bool.and_false]; exact hM4.set hi
          · subst hb
            refine ⟨⟨k + 1, _, bs4, rfl, by omega, ?_, hat4, hm4⟩, by simp [nI, nth]; omega⟩
            rw [htk, hbad]; simp only [Bool.not_false, Bool.and_true]; exact hM4
        refine rfind11_c h4 (fun hno => ⟨_, rfl, ?_⟩) fun j y hy e => ⟨_, rfl, ?_⟩
        · refine Share.cut (fun z w6 => w4 = w6 ∧ z = [.bool false]) (ff (by simp) ⟨rfl, rfl⟩) ?_
          rintro z w6 ⟨rfl, rfl⟩
          refine ⟨_, rfl, key (-1) false ?_⟩
          rw [Bool.not_false, List.all_eq_true]
          intro y hy
          rw [decide_eq_false (hno y hy)]; rfl
        · have hym := List.mem_of_getElem? hy
          have hyx : y.id < x.id := by have := h.wf.aft x hxm _ (List.getElem_mem hk4); omega
          have hji : j < i := srt_lt hsrt hy hxi hyx
          have hjl : j < S.l.length := by omega
          obtain ⟨g2, p2, hg2, hp2, hix2, hld2, _, _⟩ := h4.at hy
          have hall : (S.l.all fun y' => !decide ((y'.id : Int) = x.after[k]) || (decide (y'.b = b) && f y')) = (decide (y.b = b) && f y) := by
            rw [Bool.eq_iff_iff, List.all_eq_true]
            constructor
            · intro ha
              have := ha y hym
              rw [decide_eq_true e] at this
              simpa using this
            · intro ha y' hy'
              by_cases e' : (y'.id : Int) = x.after[k]
              · have : y' = y := srt_uniq hsrt hy' hym (by omega)
                subst this; rw [ha]; simp
              · rw [decide_eq_false e']; rfl
          refine Share.cut (fun z w6 => w4 = w6 ∧ z = [.bool (!(decide (y.b = b) && f y))]) (tt (by simp) ⟨_, rfl, _, _, _, h4.ll, _, hix2, _, hld2 1 _ _ (by kernel_rfl) rfl, cond_of (fun hb => ⟨rfl, ?_⟩) (fun hb => ?_)⟩) ?_
          · have hb : ¬ y.b = b := fun e => by rw [e] at hb; simp at hb
            rw [decide_eq_false hb]; rfl
          · have hb : y.b = b := by
              have : (y.b : Int) = b := by simpa using hb
              omega
            refine ⟨_, ixBool hjl, _, ldBool hat4 (hM4.2.1 j y hji hy), rfl, ?_⟩
            rw [decide_eq_true hb]; rfl
          · rintro z w6 ⟨rfl, rfl⟩
            refine ⟨_, rfl, key j _ ?_⟩
            rw [hall, Bool.not_not]
      · have hk4 : k = x.after.length := by have := of_decide_eq_false hb2; omega
        subst hk4
        rw [List.take_length] at hM4
        generalize (x.after.all fun k => S.l.all fun y => !decide ((y.id : Int) = k) || (decide (y.b = b) && f y)) = B1 at *
        -- those that it meets
        refine ⟨fun z w9 => ∃ (n : Nat) (y : Value) (bs : List Bool), z = [.int .i64 n, y] ∧ n ≤ i ∧ Mks S f i (B1 && (S.l.take n).all fun y => !meetR y x || f y) bs ∧ AtU w9 w.heap.size 0 (bL bs) ∧ Mod No w w9, fun z _ => (i - nI z 0).toNat,
          ⟨0, _, bs4, rfl, by omega, by rw [List.take_zero]; simpa using hM4, hat4, hm4⟩, ?_⟩
        clear hM4 hat4
        rintro z w9 ⟨n, y5, bs9, rfl, hn, hM9, hat9, hm9⟩
        refine ⟨_, rfl, cond_of (fun hb3 => ?_) (fun hb3 => ?_)⟩
        · have hn : n < i := by have := of_decide_eq_true hb3; omega
          have hm9' := hm9.no (Mod.refl No w9).drew
          have h9 := h.nos hm9'
          have hyn := List.getElem?_eq_getElem (show n < S.l.length by omega)
          generalize S.l[n]'(by omega) = y at hyn
          obtain ⟨ga, pa, hga, hpa, hixa, hlda, hagga, _⟩ := h9.at hyn
          obtain ⟨gb, pb, hgb, hpb, hixb, hldb, haggb, _⟩ := h9.at hxi
          have htk : (S.l.take (n + 1)).all (fun y => !meetR y x || f y) = ((S.l.take n).all (fun y => !meetR y x || f y) && (!meetR y x || f y)) := by
            have hnl : n < S.l.length := by omega
            have : S.l[n] = y := by rw [List.getElem?_eq_getElem hnl] at hyn; exact Option.some.inj hyn
            rw [List.take_succ_eq_append_getElem hnl, List.all_append, this]; simp
          rw [wrap64 (x := (n : Int) + 1) (by omega) (by omega), show ((n : Int) + 1) = ((n + 1 : Nat) : Int) by omega]
          refine Share.cut (fun z w11 => z = [.bool (!(!meetR y x || f y))] ∧ AtU w11 w.heap.size 0 (bL bs9) ∧ Mod No w w11) ⟨_, rfl, _, _, _, h9.ll, _, hixa, _, hagga, _, rfl, _, _, _, h9.ll, _, hixb, _, haggb, meet_c (h.wf.dat y (List.mem_of_getElem? hyn)).2 (h.wf.dat x hxm).2 fun w10 m10 => ⟨_, rfl, cond_of (fun hb4 => ?_) (fun hb4 => ?_)⟩⟩ ?_
          · have hat10 := (hat9.drew).keep m10 id
            refine ⟨_, ixBool (by omega), _, ldBool hat10 (hM9.2.1 n y hn hyn), ?_, hat10, hm9'.no m10⟩
            rw [hb4]; simp
          · exact ⟨by rw [hb4]; rfl, (hat9.drew).keep m10 id, hm9'.no m10⟩
          rintro z w11 ⟨rfl, hat11, hm11⟩
          refine ⟨_, rfl, Share.dup (cond_of (fun hb5 => ?_) (fun hb5 => ?_))⟩
          · obtain ⟨w12, st12, a12, m12⟩ := stBool (b := false) hat11 (j := i) (by rw [hM9.1]; exact hi)
            refine ⟨_, ixBool hi, w12, st12, ⟨n + 1, _, _, rfl, by omega, ?_, a12, hm11.trans m12 fun z hz e => by have e : z = w.heap.size := e; omega⟩, by simp [nI, nth]; omega⟩
            have hb5 : (!meetR y x || f y) = false := by rw [Bool.not_eq_true'] at hb5; exact hb5
            rw [htk, hb5, Bool.and_false, Bool.and_false]; exact hM9.set hi
          · refine ⟨⟨n + 1, _, bs9, rfl, by omega, ?_, hat11, hm11⟩, by simp [nI, nth]; omega⟩
            have hb5 : (!meetR y x || f y) = true := by rw [Bool.not_eq_false'] at hb5; exact hb5
            rw [htk, hb5, Bool.and_true]; exact hM9
        · have hn : n = i := by have := of_decide_eq_false hb3; omega
          subst hn
          exact ⟨_, _, _, _, bs9, rfl, Mks.next hxi (by rw [hfx]; exact hM9), hat9, hm9⟩
    rintro z w14 ⟨z1, z2, z3, z4, bs14, rfl, hM14, hat14, hm14⟩
    rw [hnexti]
    exact ⟨⟨i + 1, _, _, _, _, bs14, rfl, by omega, hM14, hat14, hm14⟩, by simp [nI, nth]; omega⟩
  · have hi : i = S.l.length := by have := of_decide_eq_false hb; omega
    subst hi
    refine hk w2 _ hm (Nat.le_refl _) ?_
    have : S.l.map f = bs := List.ext_getElem? fun j => by
      by_cases hj : j < S.l.length
      · rw [List.getElem?_map, List.getElem?_eq_getElem hj, hM.2.1 j _ hj (List.getElem?_eq_getElem hj)]; rfl
      · rw [List.getElem?_eq_none (by simp; omega), List.getElem?_eq_none (by rw [hM.1]; omega)]
    rw [this]; exact hat
end
end Go.Proofs.YtocjjigmpgekfaaGreat
end
section
/- Layer 11, the document's store: images, what is ready, what is dirty, a change's block. -/
open Go Go.Den Go.Proofs
namespace Go.Proofs.YtocjjigmpgekfaaGreat
section
variable {w0 w w' : World} {R : Nat → Prop} {rl : Nat → Nat} {rp r vb vc bc lc : Nat} {hs : List (Nat × Nat)} {ba la : Option Addr} {H : List (Option Addr × Nat)} {S : Rs} {K : Value → World → Prop}
theorem rImage11_c (h : RIn w0 R rl w rp r vb vc hs ba bc la lc H S) {n : Int} {f : Nat → Ch → Bool} (hf : ∀ b, n = (b : Nat) → MayR S b (f b)) (hk0 : ¬ (0 ≤ n ∧ n < S.base.length) → K (.tuple #[.slice none 0 0, .int .i64 3]) w)
    (hk : ∀ b : Nat, n = b → b < S.base.length → ∀ w' a c, Mod No w w' → Row w' a (u8L (rdR S b (f b))) → (∀ q, a = some q → w.heap.size ≤ q.block) → K (.tuple #[.slice a 256 c, .int .i64 0]) w') :
    Cal Tryz.prog F_leveeref11_Store_Image #[.pointer (some ⟨rp, 0, none⟩), .int .i64 n] w K := by
  have hlen := h.wf.llen
  have hlast := h.wf.last
  apply C_leveeref11_Store_Image
  unfold D_leveeref11_Store_Image
  refine rthere_c h ⟨_, rfl, cond_of (fun hb => ?_) (fun hb => ?_)⟩
  · exact hk0 (by simp only [Bool.not_eq_true', decide_eq_false_iff_not] at hb; exact hb)
  have hb : 0 ≤ n ∧ n < S.base.length := by simp only [Bool.not_eq_false', decide_eq_true_eq] at hb; exact hb
  obtain ⟨b, rfl⟩ := Int.eq_ofNat_of_zero_le hb.1
  have hbl : b < S.base.length := by omega
  have hfb := hf b rfl
  generalize hfe : f b = f1 at hfb
  obtain ⟨g, hg, hix, hld, hl256⟩ := h.bas hbl
  obtain ⟨cc, w2, c1, c2, c3, c4⟩ := bytes_run (P := Tryz.prog) (w := w) (S := 9) (T := 36) (xs := S.base[b]) (by kernel_rfl)
  rw [hl256] at c1 c4
  refine ⟨_, rfl, _, _, _, h.lb, _, hix, _, hld, _, _, _, w2, c1, ?_⟩
  have hz2 := c3.size
  refine rmay_c (h.nos c3) hfb fun w3 gm m3 hgm atm => ⟨_, _, _, rfl, ?_⟩
  have M3 := c3.no m3
  refine ⟨fun x w4 => ∃ (i : Nat) (a : Option Addr) (c : Nat), x = [.slice a 256 c, .int .i64 i] ∧ i ≤ S.l.length ∧ 256 ≤ c ∧ Row w4 a (u8L (withL ((S.base[b]?).getD []) ((S.l.take i).filter f1))) ∧ Mod No w3 w4 ∧ (∀ q, a = some q → w.heap.size ≤ q.block), fun x _ => (S.l.length - nI x 1).toNat,
    ⟨0, _, cc, rfl, by omega, c4, by rw [List.getElem?_eq_getElem hbl]; exact .inr ⟨_, _, rfl, c2.at.keep m3 id⟩, Mod.refl _ _, fun q hq => by cases hq; exact Nat.le_refl _⟩, ?_⟩
  rintro x w4 ⟨i, a, c, rfl, hi, hc, hr, hm, hfr⟩
  have hM4 := M3.no hm
  have hz4 := hM4.size
  have h4 := h.nos hM4
  have atm4 := atm.keep hm id
  refine ⟨_, rfl, _, rfl, _, _, _, h4.ll, cond_of (fun hb => ?_) (fun hb => ?_)⟩
  · have hi : i < S.l.length := by have := of_decide_eq_true hb; omega
    obtain ⟨g, p, hg, hp, hix, hld, hagg, _⟩ := h4.at (List.getElem?_eq_getElem hi)
    have hd := h.wf.dat _ (List.getElem_mem hi)
    refine ⟨_, ixBool hi, _, ldBool atm4 (show (S.l.map f1)[i]? = some (f1 S.l[i]) by simp [hi]), ?_⟩
    rw [wrap64 (x := (i : Int) + 1) (by omega) (by omega)]
    have ht := rdR_take (S := S) (b := b) (f := f1) hi
    refine Share.dup (cond_of (fun hb => ⟨_, _, _, rfl, _, rfl, _, _, _, h4.ll, _, hix, _, hagg, upon_c (rdR_len h.wf hbl) hd.2 hc hr fun w5 a5 c5 m5 o5 => ⟨_, _, _, rfl, ?_⟩⟩) (fun hb => ?_))
    · rw [if_pos hb] at ht
      refine ⟨⟨i + 1, a5, c5, rfl, by omega, o5.cap.1, by rw [ht]; exact o5.rowU.row, hm.no m5, fun q hq => by have := (o5.base hq).1; omega⟩, by simp [nI, nth]; omega⟩
    · rw [if_neg (by rw [hb]; simp)] at ht
      exact ⟨⟨i + 1, a, c, rfl, by omega, hc, by rw [ht]; exact hr, hm, hfr⟩, by simp [nI, nth]; omega⟩
  · have hi : i = S.l.length := by have := of_decide_eq_false hb; omega
    subst hi
    refine ⟨_, _, _, rfl, hk b rfl hbl w4 a c hM4 ?_ hfr⟩
    unfold rdR
    rw [List.take_length] at hr
    rw [hfe]; exact hr
end
end Go.Proofs.YtocjjigmpgekfaaGreat
end
section
/- Layer 11, the document's store: a change, a write, a flush, a new store. -/
open Go Go.Den Go.Proofs
namespace Go.Den
section
variable {P : Program} {w : World}
theorem cutA_zero {T : TypeId} {base k l c n : Nat} {a : Option Addr} {xs : List Value} (h : Own P w base T k a l c xs) : cutA a n 0 k = a := by
  obtain ⟨e, he, h1, h2⟩ := h
  unfold cutA
  split
  · rfl
  · rcases h2 with ⟨hv, _⟩ | ⟨g, cap, cur, hv, _⟩
    · simp at hv; rw [hv.1]; rfl
    · simp at hv; rw [hv.1]; simp [add_none]
theorem Own.cut3 {T : TypeId} {base k l c : Nat} {a : Option Addr} {xs : List Value} (h : Own P w base T k a l c xs) (hT : elemN P T = some k) (w' : World) :
    (Instr.sliceAt T (.slice a l c) none (some (.int .i64 l)) (some (.int .i64 l))).run P w' = .ok (.slice a l l) w' := by
  have := slice_3 (a := a) hT h.cap.1 w'
  rwa [cutA_zero h] at this
theorem append_none0 {T ty : TypeId} {k bytes c2 : Nat} {z : Value} (hT : elemZ P T k z bytes) : (Builtin.append_ #[T, T] ty #[.slice none 0 0, .slice none 0 c2]).run P w = .ok (.slice none 0 0) w := by
  obtain ⟨e, i, zv, he, hi, hsz, hz, hzc, hby⟩ := hT.is
  simp [Builtin.append_, run_und he, sizeOf, typeInfo, hi, Builtin.lenOf, Builtin.firstCells, loadCells, loadCellsFrom]
/-- append of one element to a row that is shown as full: the row anew. -/
theorem Own.full {base k bytes l c c2 : Nat} {T ty : TypeId} {a : Option Addr} {ad : Addr} {xs ys : List Value} (hT : elemG P T k bytes) (h : Own P w base T k a l c xs) (hr : Row w (some ad) ys) (hl : ys.length = k)
    (h63 : (l + 1) * bytes ≤ 140737488355328) (hb : 0 < bytes) (hbase : base ≤ w.heap.size) :
    ∃ c' w', (Builtin.append_ #[T, T] ty #[.slice a l l, .slice (some ad) 1 c2]).run P w = .ok (.slice (some ⟨w.heap.size, 0, none⟩) (l + 1) c') w' ∧ Own P w' base T k (some ⟨w.heap.size, 0, none⟩) (l + 1) c' (xs ++ ys) ∧ Mod No w w' ∧ w.heap.size < w'.heap.size := by
  obtain ⟨e, i, zv, he, hi, hsz, hz, hzc, hby⟩ := hT
  obtain ⟨e', he', how⟩ := h
  have : e' = e := by rw [he] at he'; simpa using he'.symm
  subst this
  have hcell : ∀ j u, ys[j]? = some u → w.cell? (ad.add j) = some u := by
    intro j u hj
    rcases hr with hr | ⟨b, o, e, hat⟩
    · subst hr; simp at hj
    · simp at e; subst e; exact hat.cell hj
  have hle : l + 1 ≤ (l + 1) * bytes := Nat.le_mul_of_pos_right _ hb
  have hm : ∀ o : Obj, Mod No w (w.drew.alloc o) := fun o => ((Mod.refl No w).drew (b := w)).alloc o
  have hlen : (xs ++ ys).length = (l + 1) * k := by rw [List.length_append, how.1, hl, Nat.add_mul, Nat.one_mul]
  have hcm : ∀ old, grownCap w (l + 1) old e' ≤ maxLen := fun old => grownCap_le_maxLen w (l + 1) old e' (by simp [maxLen]; omega)
  have hown : ∀ (old : Nat) (arr : Array Value), arr.toList = xs ++ ys → Own P (w.drew.alloc (.cells (arr ++ Builtin.zeroCells zv.cells (grownCap w (l + 1) old e' - (l + 1))) e')) base T k (some ⟨w.heap.size, 0, none⟩) (l + 1) (grownCap w (l + 1) old e') (xs ++ ys) := by
    intro old arr harr
    have hge := grownCap_ge w (l + 1) old e'
    have hasz : arr.size = (l + 1) * k := by rw [← hlen, ← harr, Array.length_toList]
    refine ⟨e', he, hlen, .inr ⟨w.heap.size, _, _, rfl, hbase, heap_new w.drew _, hge, hcm old, ?_, ?_⟩⟩
    · rw [Array.size_append, size_zeroCells, hzc, hasz, ← Nat.add_mul]
      congr 1; omega
    · rw [Array.toList_append, harr, ← hlen]
      exact List.take_left
  rcases how.2 with ⟨hv, hx⟩ | ⟨g, cap, cur, hv, hbg, hg, hnc, hcm', hcs, htake⟩
  · simp at hv
    obtain ⟨rfl, rfl, rfl⟩ := hv
    have hx0 : xs = [] := List.eq_nil_of_length_eq_zero (by have := how.1; omega)
    subst hx0
    have hr2 := run_append_nil (P := P) w T ty e' i zv he hi hz ad 1 c2 ys (by rw [hsz]; omega) hcell (by omega) (by omega) (by rw [hby]; omega)
    refine ⟨_, _, hr2, ?_, hm _, size_drew_alloc _⟩
    have := hown 0 ys.toArray (by simp)
    simpa using this
  · simp at hv
    obtain ⟨rfl, rfl⟩ := hv
    have holds : ∀ j u, xs[j]? = some u → w.cell? ((⟨g, 0, none⟩ : Addr).add j) = some u := how.cells (g := g) rfl
    have hr2 := run_append_grow (P := P) w T ty e' i zv he hi hz ⟨g, 0, none⟩ l l xs (by rw [hsz]; exact how.1) holds ad 1 c2 ys (by rw [hsz]; omega) hcell (by omega) (by omega) (growslice_fits (by omega) (by rw [hby]; exact h63))
    exact ⟨_, _, hr2, hown l (xs.toArray ++ ys.toArray) (by simp), hm _, size_drew_alloc _⟩
end
end Go.Den
namespace Go.Proofs.YtocjjigmpgekfaaGreat
/-- A store as the document has it, in memory. -/
def Rx (w0 : World) (R : Nat → Prop) (w : World) (rp r : Nat) (S : Rs) : Prop := ∃ rl vb vc hs ba bc la lc H, RIn w0 R rl w rp r vb vc hs ba bc la lc H S
section
variable {w0 w w' : World} {R : Nat → Prop} {rl : Nat → Nat} {rp r vb vc bc lc : Nat} {hs : List (Nat × Nat)} {ba la : Option Addr} {H : List (Option Addr × Nat)} {S : Rs} {K : Value → World → Prop}
theorem Rx.nos (h : Rx w0 R w rp r S) (k : Mod No w w') : Rx w0 R w' rp r S := by
  obtain ⟨rl, vb, vc, hs, ba, bc, la, lc, H, h⟩ := h; exact ⟨rl, vb, vc, hs, ba, bc, la, lc, H, h.nos k⟩
theorem Rx.keep {Z : Nat → Prop} (h : Rx w0 R w rp r S) (k : Mod Z w w') (hsr : ∀ x, R x → ¬ Z x) (hw : ∀ x, x < w0.heap.size → ¬ Z x) : Rx w0 R w' rp r S := by
  obtain ⟨rl, vb, vc, hs, ba, bc, la, lc, H, h⟩ := h; exact ⟨rl, vb, vc, hs, ba, bc, la, lc, H, h.keepS k hsr hw⟩
theorem Rx.wf (h : Rx w0 R w rp r S) : WFR S ∧ WF S.D ∧ Mod No w0 w ∧ ∀ x, R x → w0.heap.size ≤ x ∧ x < w.heap.size := by
  obtain ⟨rl, vb, vc, hs, ba, bc, la, lc, H, h⟩ := h; exact ⟨h.wf, h.disk.wf, h.mod, h.lo⟩
theorem Rx.gro (h : Rx w0 R w rp r S) (k : Mod No w w') : Rx w0 (Gro R w w') w' rp r S := by
  obtain ⟨rl, vb, vc, hs, ba, bc, la, lc, H, h⟩ := h; exact ⟨rl, vb, vc, hs, ba, bc, la, lc, H, h.gro k⟩
theorem build_chg (w : World) (i b f : Int) (s : ByteArray) (a : Option Addr) (l cc : Nat) : (Instr.build 186 #[(0, .int .i64 i), (1, .int .i64 b), (2, .int .i64 f), (3, .string s), (4, .slice a l cc)]).run Tryz.prog w = .ok (.agg ⟨[.int .i64 i, .int .i64 b, .int .i64 f, .string s, .slice a l cc, .bool false]⟩) w := by kernel_rfl
theorem built_chg (w : World) (x : Ch) (p : Option Addr × Nat) : (Instr.buildSlice 41 1 #[(0, .agg ⟨chV x p⟩)]).run Tryz.prog w = .ok (.slice (some ⟨w.heap.size, 0, none⟩) 1 1) (w.alloc (.cells ⟨chV x p⟩ 186)) := by kernel_rfl
def chZ : List Value := [.int .i64 0, .int .i64 0, .int .i64 0, .string ByteArray.empty, .slice none 0 0, .bool false]
theorem alloc_chg (w : World) : (Instr.alloc 186 true (.tuple #[])).run Tryz.prog w = .ok (.pointer (some ⟨w.heap.size, 0, none⟩)) (w.alloc (.cells ⟨chZ⟩ 186)) := by kernel_rfl
/-- What is wrong with a change, as the document says. -/
def patER (S : Rs) (n frm : Int) (data : Bk) (after : List Int) : Int :=
  if ¬ (0 ≤ n ∧ n < S.base.length) then 3 else if data.length = 0 ∨ frm < 0 ∨ 256 < frm ∨ 256 - frm < data.length then 4 else if after.any (fun k => !decide (1 ≤ k ∧ k ≤ (S.last : Int))) = true then 1 else 0
def newR (S : Rs) (n frm : Int) (data : Bk) (after : List Int) : Ch := ⟨S.last + 1, n.toNat, frm.toNat, data, after, false⟩
def patSR (S : Rs) (n frm : Int) (data : Bk) (after : List Int) : Rs := if patER S n frm data after = 0 then { S with last := S.last + 1, l := S.l ++ [newR S n frm data after] } else S
def patNR (S : Rs) (n frm : Int) (data : Bk) (after : List Int) : Int := if patER S n frm data after = 0 then (S.last + 1 : Nat) else 0
theorem WFR.add {n frm : Int} {data : Bk} {after : List Int} (h : WFR S) (he : patER S n frm data after = 0) (ha6 : after.length ≤ 1000000) (hl : S.last + 1 ≤ 1000000) : WFR { S with last := S.last + 1, l := S.l ++ [newR S n frm data after] } := by
  unfold patER at he
  split at he
  · omega
  rename_i h1
  split at he
  · omega
  rename_i h2
  split at he
  · omega
  rename_i h3
  have hmem : ∀ {x : Ch}, x ∈ S.l ++ [newR S n frm data after] → x ∈ S.l ∨ x = newR S n frm data after := fun hx => by
    rcases List.mem_append.1 hx with hx | hx
    · exact .inl hx
    · exact .inr (List.mem_singleton.1 hx)
  exact {
    len := h.len
    small := h.small
    bl := h.bl
    dat := fun x hx => by
      rcases hmem hx with hx | rfl
      · exact h.dat x hx
      · show 1 ≤ data.length ∧ frm.toNat + data.length ≤ 256
        omega
    blt := fun x hx => by
      rcases hmem hx with hx | rfl
      · exact h.blt x hx
      · show n.toNat < S.base.length
        omega
    srt := by
      rw [List.pairwise_append]
      refine ⟨h.srt, List.pairwise_singleton _ _, fun x hx y hy => ?_⟩
      rw [List.mem_singleton.1 hy]
      have := h.idr x hx
      show x.id < S.last + 1
      omega
    idr := fun x hx => by
      rcases hmem hx with hx | rfl
      · have := h.idr x hx
        show 1 ≤ x.id ∧ x.id ≤ S.last + 1
        omega
      · show 1 ≤ S.last + 1 ∧ S.last + 1 ≤ S.last + 1
        omega
    aft := fun x hx k hk => by
      rcases hmem hx with hx | rfl
      · exact h.aft x hx k hk
      · have hk : k ∈ after := hk
        have h3 : ∀ k ∈ after, 1 ≤ k ∧ k ≤ (S.last : Int) := by simpa using h3
        have := h3 k hk
        show k < ((S.last + 1 : Nat) : Int)
        omega
    aftn := fun x hx => by
      rcases hmem hx with hx | rfl
      · exact h.aftn x hx
      · exact ha6
    last := hl }
theorem rPatch11_c {n frm : Int} {a3 a4 : Option Addr} {l3 c3 l4 c4 : Nat} {data : Bk} {after : List Int} (hR : Rx w0 R w rp r S) (hlast : S.last + 1 ≤ 1000000) (hd : data.length = l3) (hrd : Row w a3 (u8L data)) (hdo : data ≠ [] → ∀ q, a3 = some q → ¬ R q.block) (h63 : l3 ≤ 9223372036854775807)
    (ha : after.length = l4) (ha6 : l4 ≤ 1000000) (hra : Row w a4 (iL after)) (hao : after ≠ [] → ∀ q, a4 = some q → ¬ R q.block)
    (hk : ∀ w', Mod R w w' → Rx w0 (Gro R w w') w' rp r (patSR S n frm data after) → K (.tuple #[.int .i64 (patNR S n frm data after), .int .i64 (patER S n frm data after)]) w') :
    Cal Tryz.prog F_leveeref11_Store_Patch #[.pointer (some ⟨rp, 0, none⟩), .int .i64 n, .int .i64 frm, .slice a3 l3 c3, .slice a4 l4 c4] w K := by
  have hR' := hR
  obtain ⟨rl, vb, vc, hs, ba, bc, la, lc, H, h⟩ := hR
  have hno : ∀ e : Int, e ≠ 0 → patER S n frm data after = e → ∀ w', Mod No w w' → K (.tuple #[.int .i64 0, .int .i64 e]) w' := fun e he hpe w' m => by
    have := hk w' (m.mono fun _ _ => False.elim) (by unfold patSR; rw [if_neg (by omega)]; exact hR'.gro m)
    unfold patNR at this
    rw [if_neg (by omega), hpe] at this
    exact this
  have hlen := h.wf.llen
  apply C_leveeref11_Store_Patch
  unfold D_leveeref11_Store_Patch
  refine rthere_c h ⟨_, rfl, cond_of (fun hb => ?_) (fun hb => ?_)⟩
  · simp only [Bool.not_eq_true', decide_eq_false_iff_not] at hb
    exact hno 3 (by omega) (by unfold patER; rw [if_pos hb]) w (Mod.refl _ _)
  have hb : 0 ≤ n ∧ n < S.base.length := by simp only [Bool.not_eq_false', decide_eq_true_eq] at hb; exact hb
  refine Share.cut (fun z w2 => w = w2 ∧ z = [.bool (decide (data.length = 0 ∨ frm < 0 ∨ 256 < frm ∨ 256 - frm < data.length))]) (cond_of (fun h1 => ⟨rfl, ?_⟩) (fun h1 => cond_of (fun h2 => ⟨rfl, ?_⟩) (fun h2 => cond_of (fun h3 => ⟨rfl, ?_⟩) (fun h3 => ⟨rfl, ?_⟩)))) ?_
  · have h1 : (l3 : Int) = 0 := by simpa using h1
    rw [decide_eq_true (by omega)]
  · have h2 := of_decide_eq_true h2
    rw [decide_eq_true (by omega)]
  · have h3 := of_decide_eq_true h3
    rw [decide_eq_true (by omega)]
  · have h1 : ¬ (l3 : Int) = 0 := by simpa using h1
    have h2 := of_decide_eq_false h2
    have h3 := of_decide_eq_false h3
    rw [wrap64 (x := 256 - frm) (by omega) (by omega)]
    exact bcell (by omega)
  rintro z w2 ⟨rfl, rfl⟩
  refine ⟨_, rfl, cond_of (fun hb2 => ?_) (fun hb2 => ?_)⟩
  · exact hno 4 (by omega) (by unfold patER; rw [if_neg (by omega), if_pos (of_decide_eq_true hb2)]) w (Mod.refl _ _)
  have hb2 := of_decide_eq_false hb2
  refine ⟨fun x w3 => ∃ (i : Nat) (y : Value), x = [.int .i64 i, y] ∧ i ≤ l4 ∧ (∀ k ∈ after.take i, 1 ≤ k ∧ k ≤ (S.last : Int)) ∧ Mod No w w3, fun x _ => (l4 - nI x 0).toNat, ⟨0, _, rfl, by omega, by simp, Mod.refl _ _⟩, ?_⟩
  rintro x w3 ⟨i, y, rfl, hi, hgood, m3⟩
  refine ⟨_, rfl, cond_of (fun hb3 => ?_) (fun hb3 => ?_)⟩
  · have hi : i < after.length := by have := of_decide_eq_true hb3; omega
    have m3' := m3.no (Mod.refl No w3).drew
    have h3 := h.nos m3'
    obtain ⟨g4, o4, hg4, hat4⟩ := row_some (hra.nos m3') hi
    rw [hg4]
    have hld : Ru (Instr.loadAt 2 (.pointer (some ⟨g4, o4 + i, none⟩))) (drew w3) (.int .i64 after[i]) (drew w3) := hat4.load (by kernel_rfl) (iL_get hi)
    have hix : Al (Instr.indexAt 37 (.slice (some ⟨g4, o4, none⟩) l4 c4) (.int .i64 i)) (.pointer (some ⟨g4, o4 + i, none⟩)) := fun w => by
      have := index_slice (P := Tryz.prog) (T := 37) (k := 1) (a := ⟨g4, o4, none⟩) (n := l4) (c := c4) (kk := .i64) (i := i) (by kernel_rfl) (by omega) (by omega) w
      rw [add_none, show o4 + (i : Int).toNat * 1 = o4 + i by omega] at this
      exact this
    refine Share.cut (fun z w4 => drew w3 = w4 ∧ z = [.bool (!decide (1 ≤ after[i] ∧ after[i] ≤ (S.last : Int)))]) ⟨_, hix, _, hld, cond_of (fun h1 => ⟨rfl, ?_⟩) (fun h1 => ⟨_, hix, _, hld, _, rfl, _, h3.llast, rfl, ?_⟩)⟩ ?_
    · have h1 := of_decide_eq_true h1
      rw [decide_eq_false (by omega)]; rfl
    · have h1 := of_decide_eq_false h1
      exact congrArg (fun b => [Value.bool b]) (by rw [Bool.eq_iff_iff]; simp only [decide_eq_true_eq, Bool.not_eq_true', decide_eq_false_iff_not]; omega)
    rintro z w4 ⟨rfl, rfl⟩
    refine ⟨_, rfl, cond_of (fun hb4 => ?_) (fun hb4 => ?_)⟩
    · refine hno 1 (by omega) ?_ _ m3'
      unfold patER
      rw [if_neg (by omega), if_neg hb2, if_pos]
      rw [List.any_eq_true]
      exact ⟨_, List.getElem_mem hi, hb4⟩
    · rw [wrap64 (x := (i : Int) + 1) (by omega) (by omega)]
      refine ⟨⟨i + 1, _, rfl, by omega, fun k hk' => ?_, m3'⟩, by simp [nI, nth]; omega⟩
      rw [List.take_succ_eq_append_getElem hi] at hk'
      rcases List.mem_append.1 hk' with hk' | hk'
      · exact hgood k hk'
      · rw [List.mem_singleton.1 hk']
        simp only [Bool.not_eq_false', decide_eq_true_eq] at hb4
        exact hb4
  -- it is one
  have hi : i = l4 := by have := of_decide_eq_false hb3; omega
  subst hi
  rw [← ha, List.take_length] at hgood
  have hE : patER S n frm data after = 0 := by
    unfold patER
    rw [if_neg (by omega), if_neg hb2, if_neg]
    rw [Bool.not_eq_true, List.any_eq_false]
    intro k hk'
    simpa using hgood k hk'
  have hwf' := h.wf.add hE (by omega) hlast
  have hpS : patSR S n frm data after = { S with last := S.last + 1, l := S.l ++ [newR S n frm data after] } := by unfold patSR; rw [if_pos hE]
  have hpN : patNR S n frm data after = ((S.last + 1 : Nat) : Int) := by unfold patNR; rw [if_pos hE]
  rw [hpS, hpN, hE] at hk
  have h3 := h.nos m3
  obtain ⟨w5, st5, c5, m5, _⟩ := h3.cell.store (P := Tryz.prog) (T := 2) (i := 3) (v := .int .i64 ((S.last + 1 : Nat) : Int)) (by kernel_rfl) (by simp) rfl
  have c5 : AtU w5 rp 0 [.pointer (some ⟨r, 0, none⟩), .slice ba S.base.length bc, .slice la S.l.length lc, .int .i64 ((S.last + 1 : Nat) : Int)] := c5
  refine ⟨_, rfl, _, h3.llast, _, rfl, w5, by rw [wrap64 (x := (S.last : Int) + 1) (by omega) (by omega), show ((S.last : Int) + 1) = ((S.last + 1 : Nat) : Int) by omega, add_none]; exact st5, ?_⟩
  have hrpR : R rp := h.reg rp (by rw [h.rp1]; omega)
  have hz3 := m3.size
  have hz5 := m5.size
  have hlo := h.lo
  have hrplt := (hlo rp hrpR).2
  have hra5 : Row w5 a4 (iL after) := by
    by_cases hne : after = []
    · rw [hne]; exact .inl rfl
    · exact (hra.nos m3).keep m5 fun q hq e => hao hne q hq (by have e : q.block = rp := e; rw [e]; exact hrpR)
  have hrd5 : Row w5 a3 (u8L data) := by
    by_cases hne : data = []
    · rw [hne]; exact .inl rfl
    · exact (hrd.nos m3).keep m5 fun q hq e => hdo hne q hq (by have e : q.block = rp := e; rw [e]; exact hrpR)
  obtain ⟨a6, c6, w6, run6, o6, M6⟩ : ∃ a6 c6 w6, (Builtin.append_ #[37, 37] 37 #[.slice none 0 0, .slice a4 i c4]).run Tryz.prog w5 = .ok (.slice a6 (0 + i) c6) w6 ∧ Own Tryz.prog w6 w5.heap.size 37 1 a6 (0 + i) c6 ([] ++ iL after) ∧ Mod No w5 w6 := by
    cases a4 with
    | none =>
      have hnil : after = [] := by
        rcases hra with hra | ⟨_, _, e', _⟩
        · unfold iL at hra; rwa [List.map_eq_nil_iff] at hra
        · cases e'
      subst hnil
      have hi0 : i = 0 := by rw [← ha]; rfl
      subst hi0
      exact ⟨none, 0, w5, append_none0 elemZ_64, Own.nil elemZ_64, Mod.refl _ _⟩
    | some q4 =>
      obtain ⟨a6, c6, w6, run6, o6, m6⟩ := (Own.nil (P := Tryz.prog) (w := w5) (base := w5.heap.size) elemZ_64).append (ty := 37) (m := i) (c2 := c4) elemZ_64 (by omega) hra5 (by simp [ha]) (fun e => by cases e) (one_iL _) (by omega) (by omega) (Nat.le_refl _)
      exact ⟨a6, c6, w6, run6, o6, m6.mono fun x hx e => by have e : w5.heap.size ≤ x := e; omega⟩
  rw [Nat.zero_add, List.nil_append] at o6
  rw [Nat.zero_add] at run6
  refine ⟨_, _, _, w6, run6, ?_⟩
  have c6' := (c5.keep M6 id).drew
  have hz6 := M6.size
  have ld : ∀ {w2 : World} (_ : AtU w2 rp 0 [.pointer (some ⟨r, 0, none⟩), .slice ba S.base.length bc, .slice la S.l.length lc, .int .i64 ((S.last + 1 : Nat) : Int)]), Ru (Instr.loadAt 41 (.pointer (some (Addr.add ⟨rp, 0, none⟩ 2)))) w2 (.slice la S.l.length lc) w2 := by
    intro w2 hc; rw [add_none]; exact hc.at.load (by kernel_rfl) rfl
  have ldl : ∀ {w2 : World} {v : Value} (_ : AtU w2 rp 0 [.pointer (some ⟨r, 0, none⟩), .slice ba S.base.length bc, v, .int .i64 ((S.last + 1 : Nat) : Int)]), Ru (Instr.loadAt 2 (.pointer (some (Addr.add ⟨rp, 0, none⟩ 3)))) w2 (.int .i64 ((S.last + 1 : Nat) : Int)) w2 := by
    intro w2 v hc; rw [add_none]; exact hc.at.load (by kernel_rfl) rfl
  have hlaR : ∀ q, la = some q → q.block ≠ rp ∧ R q.block := fun q hq => ⟨fun e => by have := h.rla q hq; rw [e, h.rp1] at this; omega, h.reg _ (by rw [h.rla q hq]; omega)⟩
  have hrow6 := ((h3.row.keep m5 fun q hq e => (hlaR q hq).1 e).nos M6).nos (Mod.refl No w6).drew
  refine ⟨_, rfl, _, _, _, ld c6', _, rfl, _, _, _, ld c6', _, rfl, _, _, _, ld c6', _, _, _, h3.row.cut3 (by kernel_rfl), _, rfl, _, ldl c6', _, str_run (by kernel_rfl) ((hrd5.nos M6).nos (Mod.refl No w6).drew) hd, _, fun w => build_chg w _ _ _ _ _ _ _, ?_⟩
  have hv : ([.int .i64 ((S.last + 1 : Nat) : Int), .int .i64 n, .int .i64 frm, .string ⟨data.toArray⟩, .slice a6 i c6, .bool false] : List Value) = chV (newR S n frm data after) (a6, c6) := by
    unfold chV newR
    simp only [ha]
    rw [show ((n.toNat : Nat) : Int) = n by omega, show ((frm.toNat : Nat) : Int) = frm by omega]
  rw [hv]
  refine ⟨_, _, _, _, built_chg _ _ _, ?_⟩
  have m7 : Mod No (drew w6) ((drew w6).alloc (.cells ⟨chV (newR S n frm data after) (a6, c6)⟩ 186)) := (Mod.refl No _).alloc _
  have r7 : Row ((drew w6).alloc (.cells ⟨chV (newR S n frm data after) (a6, c6)⟩ 186)) (some ⟨(drew w6).heap.size, 0, none⟩) (chV (newR S n frm data after) (a6, c6)) := .inr ⟨_, _, rfl, AtU.new.at⟩
  generalize (drew w6).alloc (.cells ⟨chV (newR S n frm data after) (a6, c6)⟩ 186) = w7 at *
  have c7 := c6'.keep m7 id
  have hz7 : w6.heap.size ≤ w7.heap.size := m7.size
  obtain ⟨c8, w8, run8, o8, m8, hz8⟩ := (hrow6.nos m7).full (ty := 41) (c2 := 1) elemG_chgs r7 rfl (by omega) (by omega) (by have := h.mod.size; omega)
  refine ⟨ld c7, ld c7, ld c7, _, _, _, w8, run8, ?_⟩
  have c8' := c7.keep m8 id
  obtain ⟨w9, st9, c9, m9, _⟩ := c8'.store (P := Tryz.prog) (T := 41) (i := 2) (v := .slice (some ⟨w7.heap.size, 0, none⟩) (S.l.length + 1) c8) (by kernel_rfl) (by simp) rfl
  have c9 : AtU w9 rp 0 [.pointer (some ⟨r, 0, none⟩), .slice ba S.base.length bc, .slice (some ⟨w7.heap.size, 0, none⟩) (S.l.length + 1) c8, .int .i64 ((S.last + 1 : Nat) : Int)] := c9
  refine ⟨_, rfl, w9, by rw [add_none]; exact st9, _, rfl, _, ldl c9, ?_⟩
  have hz9 := m9.size
  have M68 : Mod No w5 w8 := ((M6.no (Mod.refl No w6).drew).no m7).no m8
  have hz68 := M68.size
  have M5 : Mod (fun x => x = rp) w w5 := (m3.mono fun _ _ => False.elim).trans m5 fun _ _ e => e
  have M9 : Mod (fun x => x = rp) w w9 := (M5.no M68).trans m9 fun _ _ e => e
  refine hk w9 (M9.mono fun x _ e => by rw [e]; exact hrpR) ⟨fun z => if z = w7.heap.size then 3 else if w5.heap.size ≤ z ∧ z < w6.heap.size then 5 else rl z, vb, vc, hs, ba, bc, some ⟨w7.heap.size, 0, none⟩, c8, H ++ [(a6, c6)], ?_⟩
  have old : ∀ x, rl x ≠ 0 → x < w.heap.size := fun x hx => (hlo x (h.reg x hx)).2
  have hbaR : ∀ q, ba = some q → q.block ≠ rp := fun q hq e => by have := h.rba q hq; rw [e, h.rp1] at this; omega
  refine h.step rfl M9 ⟨fun x hx => ?_, fun x h0 hx => ?_, fun x hx => ?_⟩ (fun x hx e => by subst e; rw [h.rp1]; omega) (by rw [show ((S.l ++ [newR S n frm data after]).length) = S.l.length + 1 by simp]; exact c9) ?_ ?_ (by simp [h.hl]) (fun j x p hx hp => ?_) (fun q hq => ?_) (fun q hq => ?_) hwf'
  · have := old x hx
    rw [if_neg (by omega), if_neg (by omega)]
  · by_cases e : x = w7.heap.size
    · omega
    · rw [if_neg e] at hx
      split at hx
      · omega
      · exact absurd h0 hx
  · split at hx
    · omega
    · split at hx
      · omega
      · exact hx
  · exact (((h.base.nos m3).keep m5 fun q hq e => hbaR q hq e).nos M68).keep m9 fun q hq e => hbaR q hq e
  · rw [show ((S.l ++ [newR S n frm data after]).length) = S.l.length + 1 by simp, rowL_snoc h.hl]
    exact o8.keep m9 fun q hq e => by cases hq; have e : w7.heap.size = rp := e; omega
  · by_cases hj : j < S.l.length
    · rw [List.getElem?_append_left hj] at hx
      rw [List.getElem?_append_left (by rw [h.hl]; exact hj)] at hp
      exact .inl ⟨j, x, hx, hp, rfl⟩
    · have hj2 := (List.getElem?_eq_some_iff.1 hx).1
      simp at hj2
      have : j = S.l.length := by omega
      subst this
      rw [List.getElem?_append_right (Nat.le_refl _), Nat.sub_self] at hx
      rw [List.getElem?_append_right (by rw [h.hl]; exact Nat.le_refl _), h.hl, Nat.sub_self] at hp
      have hx : newR S n frm data after = x := Option.some.inj hx
      have hp : (a6, c6) = p := Option.some.inj hp
      subst hx; subst hp
      right
      have hb6 : ∀ q, a6 = some q → w5.heap.size ≤ q.block ∧ q.block < w6.heap.size := fun q hq => o6.base hq
      refine ⟨?_, fun _ q hq => ?_⟩
      · show Row w9 a6 (iL after)
        exact (((o6.rowU.row.nos (Mod.refl No w6).drew).nos m7).nos m8).keep m9 fun q hq e => by
          have := hb6 q hq
          have e : q.block = rp := e
          omega
      · have := hb6 q hq
        have hz7 : w6.heap.size ≤ w7.heap.size := hz7
        rw [if_neg (by omega), if_pos this]
  · have := old _ (by rw [h.rba q hq]; omega : rl q.block ≠ 0)
    rw [if_neg (by omega), if_neg (by omega)]; exact h.rba q hq
  · cases hq; rw [if_pos rfl]
end
end Go.Proofs.YtocjjigmpgekfaaGreat
end
