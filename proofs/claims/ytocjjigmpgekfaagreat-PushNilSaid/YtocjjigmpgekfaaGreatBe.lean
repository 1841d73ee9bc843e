/- Parts of the proof, in order: what the statement leans on. -/
import Derived.Test.YtocjjigmpgekfaaGreatBd
section
/- Layer 11, the program's store: a range over a map from which the entry at hand may be taken; a block that is flushed. -/
open Go Go.Den Go.Proofs
namespace Go.Den
/-- A range over a map that loses entries that have been met. -/
structure RanD (w : World) (r mb : Nat) (Es : List Ent) (clock : Nat) (seen : List Nat) : Prop where
  map : w.heap[mb]? = some (.map (Es.map toE).toArray clock)
  iter : w.heap[r]? = some (.mapIter (some mb) clock seen.toArray clock)
  born : ∀ e ∈ Es, e.2.2 < clock
  all : (Es.map (·.2.2)).Nodup
  keys : (Es.map (·.1)).Nodup
section
variable {P : Program} {w : World}
theorem RanD.at {r mb clock : Nat} {Es : List Ent} {seen : List Nat} (h : RanD w r mb Es clock seen) : MapAt w mb (Es.map kv) := ⟨Es, clock, h.map, rfl, h.keys, h.born, h.all⟩
theorem RanD.keep {S : Nat → Prop} {r mb clock : Nat} {Es : List Ent} {seen : List Nat} {w' : World} (h : RanD w r mb Es clock seen) (m : Mod S w w') (h1 : ¬ S r) (h2 : ¬ S mb) : RanD w' r mb Es clock seen :=
  ⟨m.keep h.map h2, m.keep h.iter h1, h.born, h.all, h.keys⟩
theorem RanD.togo {r mb clock : Nat} {Es : List Ent} {seen : List Nat} (h : RanD w r mb Es clock seen) : togo mb r w = (leftOf (Es.map toE).toArray seen.toArray).size := by
  unfold Go.Den.togo; rw [h.map, iterSeen_of h.iter]
theorem left_len (Es : List Ent) (seen : List Nat) : (leftOf (Es.map toE).toArray seen.toArray).size = (Es.filter fun e => !seen.contains e.2.2).length := by
  have e : leftOf (Es.map toE).toArray seen.toArray = ((Es.map toE).filter fun e => !seen.toArray.contains e.born).toArray := by unfold leftOf; simp
  rw [e, List.size_toArray, List.filter_map, List.length_map]
  congr 1
  apply List.filter_congr
  intro x _
  show (!(seen.toArray.contains (toE x).born)) = !(seen.contains x.2.2)
  congr 1
  rw [Bool.eq_iff_iff]
  simp [toE]
theorem RanD.next {r mb clock : Nat} {ty : TypeId} {Es : List Ent} {seen : List Nat} (h : RanD w r mb Es clock seen) :
    ((∀ e ∈ Es, e.2.2 ∈ seen) ∧ (Instr.next (.pointer (some ⟨r, 0, none⟩)) false ty).run P w = .ok (.tuple #[.bool false]) w) ∨
    ∃ e ∈ Es, e.2.2 ∉ seen ∧ ∃ w', (Instr.next (.pointer (some ⟨r, 0, none⟩)) false ty).run P w = .ok (.tuple #[.bool true, .int .i64 e.1, e.2.1]) w' ∧ (Instr.entry (.pointer (some ⟨r, 0, none⟩))).run P w' = .ok (.tuple #[.int .i64 e.1, e.2.1]) w' ∧
      RanD w' r mb Es clock (seen ++ [e.2.2]) ∧ Mod (fun x => x = r) w w' ∧ Go.Den.togo mb r w' < Go.Den.togo mb r w := by
  have hborn : ∀ x ∈ ((Es.map toE).toArray).toList, x.born < clock := by
    intro x hx
    simp only [List.mem_map] at hx
    obtain ⟨e, he, rfl⟩ := hx
    exact h.born e he
  have hnd : (((Es.map toE).toArray).toList.map (·.born)).Nodup := by
    have := h.all
    rw [List.map_map]; exact this
  rcases next_run (P := P) (ty := ty) h.iter h.map hborn (Nat.le_refl _) with ⟨h0, hrun⟩ | ⟨e, he, w', hrun, hit, hm, hsz⟩
  · refine .inl ⟨fun a ha => ?_, hrun⟩
    have := all_seen _ _ h0 (toE a) (by simp only [List.mem_map]; exact ⟨a, ha, rfl⟩)
    simpa [toE] using this
  · right
    obtain ⟨hin, hns⟩ := mem_left he
    simp only [List.mem_map] at hin
    obtain ⟨x, hx, rfl⟩ := hin
    have hnx : x.2.2 ∉ seen := by
      intro hc
      have : seen.toArray.contains (toE x).born = true := by simpa [toE] using hc
      rw [this] at hns; cases hns
    have hne : mb ≠ r := by
      rintro rfl
      have h1 := h.map; rw [h.iter] at h1; cases h1
    have hmap' := hm.keep h.map hne
    have hR : RanD w' r mb Es clock (seen ++ [x.2.2]) := by
      refine ⟨hmap', ?_, h.born, h.all, h.keys⟩
      rw [hit]; simp [toE]
    refine ⟨x, hx, hnx, w', hrun, ?_, hR, hm, ?_⟩
    · exact entry_run (e := toE x) hit hmap' (by simp only [List.mem_map]; exact ⟨x, hx, rfl⟩) hnd
    · rw [hR.togo, h.togo]
      have := left_shrinks _ _ _ he
      simpa [toE] using this
theorem RanD.del {T T2 ty : TypeId} {z : Value} {r mb clock : Nat} {Es : List Ent} {seen : List Nat} {k : Int} (hT : mapZ P T = some z) (h : RanD w r mb Es clock seen) :
    ∃ w', (Builtin.delete_ #[T, T2] ty #[.map (some mb), .int .i64 k]).run P w = .ok (.tuple #[]) w' ∧ RanD w' r mb (Es.filter fun e => !decide (e.1 = k)) clock seen ∧ Mod (fun x => x = mb) w w' ∧ Go.Den.togo mb r w' ≤ Go.Den.togo mb r w := by
  obtain ⟨kt, e, i, h1, h2, h3, h4⟩ := mapZ_is hT
  have hund : (underlying T).run P w = .ok (.map kt e) w := run_und h1 w
  have hmod : ∀ o, Mod (fun x => x = mb) w (put w mb o) := fun o => (Mod.refl (fun x => x = mb) w).put (.inr rfl) _
  have hsub : (Es.filter fun e => !decide (e.1 = k)).Sublist Es := List.filter_sublist
  have hne : r ≠ mb := by
    rintro rfl
    have h1 := h.map; rw [h.iter] at h1; cases h1
  have fin : ∀ (w' : World), w' = put w mb (.map ((Es.filter fun e => !decide (e.1 = k)).map toE).toArray clock) → (Builtin.delete_ #[T, T2] ty #[.map (some mb), .int .i64 k]).run P w = .ok (.tuple #[]) w' →
      ∃ w', (Builtin.delete_ #[T, T2] ty #[.map (some mb), .int .i64 k]).run P w = .ok (.tuple #[]) w' ∧ RanD w' r mb (Es.filter fun e => !decide (e.1 = k)) clock seen ∧ Mod (fun x => x = mb) w w' ∧ Go.Den.togo mb r w' ≤ Go.Den.togo mb r w := by
    rintro w' rfl hr
    have hR : RanD (put w mb (.map ((Es.filter fun e => !decide (e.1 = k)).map toE).toArray clock)) r mb (Es.filter fun e => !decide (e.1 = k)) clock seen :=
      ⟨heap_put_same (lt_of_heap h.map), by rw [heap_put_other hne]; exact h.iter, fun x hx => h.born x (hsub.subset hx), (hsub.map _).nodup h.all, (hsub.map _).nodup h.keys⟩
    refine ⟨_, hr, hR, hmod _, ?_⟩
    rw [hR.togo, h.togo, left_len, left_len]
    exact (hsub.filter _).length_le
  cases hf : findE k Es 0 with
  | none =>
    have hall := findE_all k Es 0 hf
    refine fin (put w mb (.map (Es.map toE).toArray clock)) (by rw [hall]) ?_
    simp [Builtin.delete_, hund, run_getMap h.map, run_checkKey h2, run_findKey h2, hf, run_setMap h.map]
  | some q =>
    obtain ⟨j, u⟩ := q
    obtain ⟨_, e2, e3⟩ := findE_erase k Es 0 j u h.keys hf
    rw [Nat.sub_zero] at e2 e3
    refine fin (put w mb (.map ((Es.eraseIdx j).map toE).toArray clock)) (by rw [e3]) ?_
    simp [Builtin.delete_, hund, run_getMap h.map, run_checkKey h2, run_findKey h2, hf, run_setMap h.map, erase_map]
end
end Go.Den
namespace Go.Proofs.YtocjjigmpgekfaaGreat
section
variable {w0 w w' : World} {R R' : Nat → Prop} {rl : Nat → Nat} {sp c d mo mm : Nat} {ca oa : Nat → Nat} {Lo Lm : List (Int × Value)} {P V : Ps} {K : Value → World → Prop}
theorem tells_flush2 {S : Nat → Prop} {F : FuncId} {l : List Ch} (h : PIn w0 R rl w sp c d mo mm ca oa Lo Lm P) (hl : ∀ x ∈ l, x ∈ P.all) (hS : ∀ x ∈ l, ¬ S (ca x.id)) (h5 : ∀ z, rl z = 5 → ¬ S z)
    (hF : ∀ (p0 : Option Addr) (w : World) (K : Value → World → Prop), (∃ q4 : Addr, (.pointer p0 : Value) = .pointer (some q4) ∧ ∃ b6 : Bool, Ru (Instr.loadAt 4 (.pointer (some (Addr.add q4 5)))) w (.bool b6) w ∧ K (.bool b6) w) → Cal Tryz.prog F #[.pointer p0] w K) :
    TellsP (.func (.func F) #[] #[]) w S (pOf ca (·.out) l) (l.map fun x => ca x.id) := by
  intro w' k qx hqx K hK
  obtain ⟨x, hx, rfl⟩ := List.mem_map.1 hqx
  refine ⟨_, _, _, rfl, ?_⟩
  show Cal Tryz.prog F #[.pointer (some ⟨ca x.id, 0, none⟩)] w' K
  have hc := (h.chs x (hl x hx)).2.2.keep k (hS x hx) h5
  refine hF _ _ _ ⟨_, rfl, _, hc.ld (j := 5) (by kernel_rfl) (fun _ _ _ _ => rfl), ?_⟩
  have := hK w' (Mod.refl _ _)
  rwa [h.pOf hl hx] at this
/-- The open changes without those of a block that were in an image. -/
def cutO (Lo : List (Int × Value)) (l : List Ch) : List (Int × Value) := Lo.filter fun p => !(l.any fun x => x.out && decide ((x.id : Int) = p.1))
theorem look_filter {L : List (Int × Value)} {f : Int × Value → Bool} {k : Int} (h : ∀ v, f (k, v) = true) : lookupL (L.filter f) k = lookupL L k := by
  induction L with
  | nil => rfl
  | cons p r ih =>
    obtain ⟨k', v⟩ := p
    by_cases e : k = k'
    · subst e
      rw [List.filter_cons_of_pos (h v)]
      simp [lookupL]
    · by_cases hf : f (k', v) = true
      · rw [List.filter_cons_of_pos hf]
        simp only [lookupL]
        rw [ih]
      · rw [List.filter_cons_of_neg (by simpa using hf), ih]
        simp only [lookupL]
        rw [if_neg (fun e2 => e (by first | exact e2 | exact e2.symm))]
/-- A block is flushed, in memory. -/
theorem PIn.flS {S : Nat → Prop} {o : On} {b g cc l' lc : Nat} {la : Option Addr} {Lm' : List (Int × Value)} (h : PIn w0 R rl w sp c d mo mm ca oa Lo Lm P) (ho : o ∈ P.ons) (hob : o.b = b)
    (k : Mod S w w') (hS : ∀ z, S z → z = mo ∨ z = oa b ∨ rl z = 9 + 3 * b ∨ z = mm) (hg : w.heap.size ≤ g ∧ g < w'.heap.size)
    (hmO : MapAt w' mo (cutO Lo o.l)) (hmM : MapAt w' mm Lm') (hk1 : ∀ n : Int, n ≠ b → lookupL Lm' n = lookupL Lm n) (hk2 : ∀ p ∈ Lm', p ∈ Lm)
    (hno : flOn o = none → ∀ p ∈ Lm', p.1 ≠ b)
    (hyes : flOn o ≠ none → lookupL Lm' b = lookupL Lm b ∧ AtU w' (oa b) 0 [.slice (some ⟨g, 0, none⟩) 256 cc, .slice la l' lc] ∧ At w' g 0 (u8L (withL o.base (o.l.filter (·.out)))) ∧ l' = (o.l.filter fun x => !x.out).length ∧
      Own Tryz.prog w' w0.heap.size 178 1 la l' lc (pL ((o.l.filter fun x => !x.out).map fun x => ca x.id)) ∧ ∀ q, la = some q → rl q.block = 9 + 3 * b) :
    PIn w0 (Gro R w w') (ro rl g 5) w' sp c d mo mm ca oa (cutO Lo o.l) Lm' ⟨P.C, P.last, P.ons.filterMap (flG fun n => decide (n = b))⟩ := by
  have hon := h.ons o ho
  rw [hob] at hon
  have hrS : ∀ {z}, S z → rl z = 3 ∨ rl z = 8 + 3 * b ∨ rl z = 9 + 3 * b ∨ rl z = 4 := fun {z} e => by
    rcases hS z e with e | e | e | e
    · left; rw [e]; exact h.rmo
    · right; left; rw [e]; exact hon.2.1
    · exact .inr (.inr (.inl e))
    · right; right; right; rw [e]; exact h.rmm
  have hgz := h.out_of (x := g) hg.1
  have hx : Ext w w' rl (ro rl g 5) := (Ext.refl _ _ _).ro (.inr ⟨hg.1, hg.2, hgz⟩) (by omega) (by omega)
  have hxo : ∀ {p p' : On}, p ∈ P.ons → flG (fun n => decide (n = b)) p = some p' → (p.b ≠ b ∧ p' = p) ∨ (p = o ∧ flOn o = some p') := fun {p p'} hp e => by
    unfold flG at e
    split at e
    · rename_i hb
      have hb : p.b = b := by simpa using hb
      have := on_uniq h.wf hp ho (by omega)
      subst this
      exact .inr ⟨rfl, e⟩
    · rename_i hb
      have hb : p.b ≠ b := by simpa using hb
      exact .inl ⟨hb, (Option.some.inj e).symm⟩
  have hflo : ∀ {p'}, flOn o = some p' → p' = { o with base := withL o.base (o.l.filter (·.out)), l := o.l.filter fun x => !x.out } := fun {p'} e => by
    unfold flOn at e
    split at e
    · cases e
    · exact (Option.some.inj e).symm
  -- a change that stays
  have hstay : ∀ y, y ∈ Ps.all ⟨P.C, P.last, P.ons.filterMap (flG fun n => decide (n = b))⟩ ↔ y ∈ P.all ∧ (y.b = b → y.out = false) := by
    intro y
    rw [mem_all]
    constructor
    · rintro ⟨p', hp', hy⟩
      obtain ⟨p, hp, e⟩ := List.mem_filterMap.1 hp'
      rcases hxo hp e with ⟨hb, rfl⟩ | ⟨rfl, e2⟩
      · exact ⟨on_all hp hy, fun e3 => absurd (by rw [← h.wf.chb _ hp y hy]; exact e3) hb⟩
      · rw [hflo e2] at hy
        obtain ⟨h1, h2⟩ := List.mem_filter.1 hy
        exact ⟨on_all hp h1, fun _ => by simpa using h2⟩
    · rintro ⟨hy, hout⟩
      obtain ⟨p, hp, hyp⟩ := mem_all.1 hy
      by_cases hb : p.b = b
      · have := on_uniq h.wf hp ho (by omega)
        subst this
        have hyo := hout (by rw [h.wf.chb _ hp y hyp]; exact hb)
        have hmem : y ∈ p.l.filter fun x => !x.out := List.mem_filter.2 ⟨hyp, by rw [hyo]; rfl⟩
        refine ⟨{ p with base := withL p.base (p.l.filter (·.out)), l := p.l.filter fun x => !x.out }, List.mem_filterMap.2 ⟨p, hp, ?_⟩, hmem⟩
        unfold flG flOn
        rw [if_pos (by simpa using hb), if_neg]
        intro he
        rw [List.isEmpty_iff.1 he] at hmem
        cases hmem
      · refine ⟨p, List.mem_filterMap.2 ⟨p, hp, ?_⟩, hyp⟩
        unfold flG
        rw [if_neg (by simpa using hb)]
  have hcutk : ∀ y ∈ P.all, (y.b = b → y.out = false) → ∀ v : Value, (!(o.l.any fun x => x.out && decide ((x.id : Int) = ((y.id : Int), v).1))) = true := fun y hy hout v => by
    rw [Bool.not_eq_true', List.any_eq_false]
    intro x hx hxe
    simp only [Bool.and_eq_true, decide_eq_true_eq] at hxe
    have := map_inj h.wf.ids (on_all ho hx) hy (by omega)
    subst this
    rw [hout (by rw [h.wf.chb _ ho x hx]; exact hob)] at hxe
    cases hxe.1
  refine h.step (P' := ⟨P.C, P.last, P.ons.filterMap (flG fun n => decide (n = b))⟩) rfl k hx (fun z e => ?_) (fun z _ e => by have := hrS e; omega) (h.cell.keep k fun e => by have := hrS e; rw [h.rsp] at this; omega) hmO hmM ?_ ?_ ?_ ?_ (h.wf.fl rfl rfl)
  · by_cases e1 : z = g
    · subst e1; rw [ro_same] at e; omega
    · rw [ro_ne _ e1] at e; exact e
  · intro y hy
    obtain ⟨hy1, hy2⟩ := (hstay y).1 hy
    left
    exact ⟨hy1, look_filter (hcutk y hy1 hy2), rfl, fun q e e2 => by have := hrS e; omega⟩
  · intro p' hp'
    obtain ⟨p, hp, e⟩ := List.mem_filterMap.1 hp'
    rcases hxo hp e with ⟨hb, rfl⟩ | ⟨rfl, e2⟩
    · left
      exact ⟨hp, hk1 _ (by omega), rfl, fun _ _ => rfl, fun q e => by have := hrS e; omega⟩
    · right
      have hne : flOn p ≠ none := by rw [e2]; simp
      obtain ⟨y1, y2, y3, y4, y5, y6⟩ := hyes hne
      rw [hflo e2]
      refine ⟨by show lookupL Lm' (p.b : Int) = _; rw [hob, y1]; exact hon.1, by show ro rl g 5 (oa p.b) = 8 + 3 * p.b; rw [hob, hx.old _ (by rw [hon.2.1]; omega)]; exact hon.2.1, ?_⟩
      refine ⟨g, cc, la, lc, ?_, y3, ro_same _ _ _, ?_, ?_⟩
      · show AtU w' (oa p.b) 0 [_, .slice la (p.l.filter fun x => !x.out).length lc]
        rw [hob, ← y4]; exact y2
      · rw [← y4]; exact y5
      · intro q hq
        show ro rl g 5 q.block = 9 + 3 * p.b
        have := y6 q hq
        rw [hx.old _ (by omega), hob]; exact this
  · intro p hp
    obtain ⟨hp1, hp2⟩ := List.mem_filter.1 hp
    obtain ⟨y, hy, e⟩ := h.keysO p hp1
    refine ⟨y, (hstay y).2 ⟨hy, fun hyb => ?_⟩, e⟩
    obtain ⟨q, hq, hyq⟩ := mem_all.1 hy
    have := on_uniq h.wf hq ho (by rw [← h.wf.chb _ hq y hyq, hyb, hob])
    subst this
    cases hyo : y.out with
    | false => rfl
    | true =>
      exfalso
      rw [Bool.not_eq_true', List.any_eq_false] at hp2
      exact hp2 y hyq (by rw [hyo, e]; simp)
  · intro p hp
    obtain ⟨q, hq, e⟩ := h.keysM p (hk2 p hp)
    by_cases hb : q.b = b
    · have := on_uniq h.wf hq ho (by omega)
      subst this
      cases hf : flOn q with
      | none => exact absurd (by rw [e, hb]) (hno hf p hp)
      | some q' =>
        refine ⟨q', List.mem_filterMap.2 ⟨q, hq, ?_⟩, ?_⟩
        · unfold flG; rw [if_pos (by simpa using hb)]; exact hf
        · rw [hflo hf]; exact e
    · refine ⟨q, List.mem_filterMap.2 ⟨q, hq, ?_⟩, e⟩
      unfold flG; rw [if_neg (by simpa using hb)]
end
end Go.Proofs.YtocjjigmpgekfaaGreat

/- Layer 11, the program's store: Flush. -/
open Go Go.Den Go.Proofs
namespace Go.Proofs.YtocjjigmpgekfaaGreat
theorem fmap_congr {α β : Type} {f g : α → Option β} : ∀ {l : List α}, (∀ x ∈ l, f x = g x) → l.filterMap f = l.filterMap g
  | [], _ => rfl
  | x :: r, h => by
    have ih := fmap_congr (f := f) (g := g) (l := r) fun y hy => h y (by simp [hy])
    have hx := h x (by simp)
    cases hf : f x with
    | none => rw [List.filterMap_cons_none hf, List.filterMap_cons_none (by rw [← hx]; exact hf), ih]
    | some y => rw [List.filterMap_cons_some hf, List.filterMap_cons_some (by rw [← hx]; exact hf), ih]
theorem cutO_snoc (Lo : List (Int × Value)) (l : List Ch) (x : Ch) : cutO Lo (l ++ [x]) = if x.out = true then delL (x.id : Int) (cutO Lo l) else cutO Lo l := by
  unfold cutO delL
  by_cases h : x.out = true
  · rw [if_pos h, List.filter_filter]
    apply List.filter_congr
    intro p _
    rw [List.any_append]
    simp only [List.any_cons, List.any_nil, Bool.or_false, h, Bool.true_and]
    have : decide ((x.id : Int) = p.1) = decide (p.1 = (x.id : Int)) := decide_eq_decide.2 ⟨Eq.symm, Eq.symm⟩
    rw [this]
    cases l.any (fun x => x.out && decide ((x.id : Int) = p.1)) <;> cases decide (p.1 = (x.id : Int)) <;> rfl
  · rw [if_neg h]
    apply List.filter_congr
    intro p _
    rw [List.any_append]
    simp [h]
theorem cutO_nil (Lo : List (Int × Value)) : cutO Lo [] = Lo := by
  unfold cutO
  exact List.filter_eq_self.2 fun _ _ => rfl
def fC (P : Ps) (vis : List Nat) (z : Bf) : Bf := if (P.ons.any fun o => decide (o.b = z.b) && vis.contains o.b && (flOn o).isNone) = true then { z with pins := 0 } else z
theorem fC_b (P : Ps) (vis : List Nat) (z : Bf) : (fC P vis z).b = z.b := by unfold fC; split <;> rfl
theorem flOn_b {o o' : On} (h : flOn o = some o') : o'.b = o.b := by
  unfold flOn at h
  split at h
  · cases h
  · rw [← Option.some.inj h]
theorem ons_more (l : List On) (vis : List Nat) {b : Nat} (hb : b ∉ vis) : (l.filterMap (flG fun n => vis.contains n)).filterMap (flG fun n => decide (n = b)) = l.filterMap (flG fun n => (vis ++ [b]).contains n) := by
  rw [List.filterMap_filterMap]
  apply fmap_congr
  intro o _
  have e : (vis ++ [b]).contains o.b = (vis.contains o.b || decide (o.b = b)) := by
    rw [Bool.eq_iff_iff]; simp
  by_cases hv : vis.contains o.b = true
  · have e1 : flG (fun n => vis.contains n) o = flOn o := by unfold flG; rw [if_pos hv]
    have e2 : flG (fun n => (vis ++ [b]).contains n) o = flOn o := by unfold flG; rw [if_pos (by show (vis ++ [b]).contains o.b = true; rw [e, hv]; rfl)]
    rw [e1, e2]
    cases hf : flOn o with
    | none => rfl
    | some o' =>
      have hne : o'.b ≠ b := fun e3 => hb (by rw [← e3, flOn_b hf]; simpa using hv)
      show flG (fun n => decide (n = b)) o' = some o'
      unfold flG; rw [if_neg (by simpa using hne)]
  · have e1 : flG (fun n => vis.contains n) o = some o := by unfold flG; rw [if_neg hv]
    rw [e1]
    show flG (fun n => decide (n = b)) o = _
    have hv' : vis.contains o.b = false := by simpa using hv
    unfold flG
    show (if decide (o.b = b) = true then flOn o else some o) = if (vis ++ [b]).contains o.b = true then flOn o else some o
    rw [e, hv', Bool.false_or]
section
variable {w0 w w' : World} {R R' : Nat → Prop} {rl : Nat → Nat} {sp c d mo mm : Nat} {ca oa : Nat → Nat} {Lo Lm : List (Int × Value)} {P V : Ps} {K : Value → World → Prop}
/-- What a range over the blocks with changes has come to. -/
structure FlI (w0 : World) (R : Nat → Prop) (w : World) (r sp c d mo mm : Nat) (ca oa : Nat → Nat) (clock : Nat) (P : Ps) (w3 : World) (vis : List Nat) (R3 : Nat → Prop) (rl3 : Nat → Nat) (Lo3 : List (Int × Value)) (C3 : Ca) (Es3 : List Ent) (seen : List Nat) : Prop where
  pin : PIn w0 R3 rl3 w3 sp c d mo mm ca oa Lo3 (Es3.map kv) ⟨C3, P.last, P.ons.filterMap (flG fun n => vis.contains n)⟩
  gro : ∀ z, R3 z → Gro R w w3 z
  nr : ¬ R3 r
  M : Mod R w w3
  D : C3.D = flSt P.C.D
  most : C3.most = P.C.most
  l : C3.l = P.C.l.map (fC P vis)
  ran : RanD w3 r mm Es3 clock seen
  vis_ : ∀ e ∈ Es3, e.2.2 ∈ seen ↔ ∃ b ∈ vis, e.1 = ((b : Nat) : Int)
theorem FlI.on {r clock : Nat} {w3 : World} {vis : List Nat} {R3 : Nat → Prop} {rl3 : Nat → Nat} {Lo3 : List (Int × Value)} {C3 : Ca} {Es3 : List Ent} {seen : List Nat} {e : Ent} (h : FlI w0 R w r sp c d mo mm ca oa clock P w3 vis R3 rl3 Lo3 C3 Es3 seen) (he : e ∈ Es3) (hs : e.2.2 ∉ seen) :
    ∃ o, o ∈ P.ons ∧ o ∈ P.ons.filterMap (flG fun n => vis.contains n) ∧ e.1 = (o.b : Int) ∧ o.b ∉ vis ∧ e.2.1 = pV (oa o.b) := by
  obtain ⟨o, ho, e1⟩ := h.pin.keysM (kv e) (List.mem_map.2 ⟨e, he, rfl⟩)
  have e1 : e.1 = (o.b : Int) := e1
  have hnv : o.b ∉ vis := fun hv => hs ((h.vis_ e he).2 ⟨o.b, hv, e1⟩)
  obtain ⟨o0, ho0, e2⟩ := List.mem_filterMap.1 ho
  have hb := (flG_facts e2).1
  have heq : o = o0 := by
    unfold flG at e2
    rw [if_neg (by rw [← hb]; simpa using hnv)] at e2
    exact (Option.some.inj e2).symm
  subst heq
  refine ⟨o, ho0, ho, e1, hnv, ?_⟩
  have h1 := (h.pin.ons o ho).1
  have h2 := look_of_mem (L := Es3.map kv) (k := e.1) (v := e.2.1) h.pin.mapM.nodup (List.mem_map.2 ⟨e, he, rfl⟩)
  rw [e1, h1] at h2
  exact (Option.some.inj h2).symm
theorem fC_skip {vis : List Nat} {o : On} (hs : WFS P) (ho : o ∈ P.ons) (hv : o.b ∉ vis) (hf : flOn o ≠ none) (z : Bf) : fC P (vis ++ [o.b]) z = fC P vis z := by
  unfold fC
  have : (P.ons.any fun o' => decide (o'.b = z.b) && (vis ++ [o.b]).contains o'.b && (flOn o').isNone) = P.ons.any fun o' => decide (o'.b = z.b) && vis.contains o'.b && (flOn o').isNone := by
    rw [Bool.eq_iff_iff, List.any_eq_true, List.any_eq_true]
    constructor
    · rintro ⟨p, hp, e⟩
      simp only [Bool.and_eq_true, decide_eq_true_eq] at e
      have hmem : p.b ∈ vis ++ [o.b] := by simpa using e.1.2
      rcases List.mem_append.1 hmem with hm | hm
      · exact ⟨p, hp, by rw [Bool.and_eq_true, Bool.and_eq_true]; exact ⟨⟨decide_eq_true e.1.1, by simp [hm]⟩, e.2⟩⟩
      · have : p.b = o.b := by simpa using hm
        have := on_uniq hs hp ho this
        subst this
        have := e.2
        cases hfo : flOn p with
        | none => exact absurd hfo hf
        | some _ => rw [hfo] at this; cases this
    · rintro ⟨p, hp, e⟩
      simp only [Bool.and_eq_true, decide_eq_true_eq] at e
      have hmem : p.b ∈ vis := by simpa using e.1.2
      exact ⟨p, hp, by rw [Bool.and_eq_true, Bool.and_eq_true]; exact ⟨⟨decide_eq_true e.1.1, by simp [hmem]⟩, e.2⟩⟩
  rw [this]
theorem fC_cut {vis : List Nat} {o : On} {x : Bf} (hs : WFS P) (hn : (P.C.l.map (·.b)).Nodup) (ho : o ∈ P.ons) (hf : flOn o = none) (hx : x ∈ P.C.l) (hxb : x.b = o.b) : turn (P.C.l.map (fC P vis)) { x with pins := 0 } = P.C.l.map (fC P (vis ++ [o.b])) := by
  unfold turn
  rw [List.map_map]
  apply List.map_congr_left
  intro z hz
  simp only [Function.comp]
  rw [fC_b]
  by_cases e : z.b = x.b
  · have := map_inj hn hz hx e
    subst this
    rw [if_pos rfl]
    unfold fC
    rw [if_pos]
    rw [List.any_eq_true]
    exact ⟨o, ho, by simp [hxb, hf]⟩
  · rw [if_neg e]
    unfold fC
    have : (P.ons.any fun o' => decide (o'.b = z.b) && (vis ++ [o.b]).contains o'.b && (flOn o').isNone) = P.ons.any fun o' => decide (o'.b = z.b) && vis.contains o'.b && (flOn o').isNone := by
      rw [Bool.eq_iff_iff, List.any_eq_true, List.any_eq_true]
      constructor
      · rintro ⟨p, hp, e2⟩
        simp only [Bool.and_eq_true, decide_eq_true_eq] at e2
        have hmem : p.b ∈ vis ++ [o.b] := by simpa using e2.1.2
        rcases List.mem_append.1 hmem with hm | hm
        · exact ⟨p, hp, by rw [Bool.and_eq_true, Bool.and_eq_true]; exact ⟨⟨decide_eq_true e2.1.1, by simp [hm]⟩, e2.2⟩⟩
        · have : p.b = o.b := by simpa using hm
          omega
      · rintro ⟨p, hp, e2⟩
        simp only [Bool.and_eq_true, decide_eq_true_eq] at e2
        have hmem : p.b ∈ vis := by simpa using e2.1.2
        exact ⟨p, hp, by rw [Bool.and_eq_true, Bool.and_eq_true]; exact ⟨⟨decide_eq_true e2.1.1, by simp [hmem]⟩, e2.2⟩⟩
    rw [this]
/-- At the end. -/
theorem FlI.done {r clock : Nat} {w3 : World} {vis : List Nat} {R3 : Nat → Prop} {rl3 : Nat → Nat} {Lo3 : List (Int × Value)} {C3 : Ca} {Es3 : List Ent} {seen : List Nat} (h : FlI w0 R w r sp c d mo mm ca oa clock P w3 vis R3 rl3 Lo3 C3 Es3 seen) (hall : ∀ e ∈ Es3, e.2.2 ∈ seen) (hP : Px w0 R w sp d P) :
    Px w0 (Gro R w w3) w3 sp d ⟨C3, P.last, P.ons.filterMap flOn⟩ := by
  have hwf := hP.wf
  have hv : ∀ o ∈ P.ons, o.b ∈ vis := fun o ho => by
    by_cases hv : o.b ∈ vis
    · exact hv
    · have hm : o ∈ P.ons.filterMap (flG fun n => vis.contains n) := List.mem_filterMap.2 ⟨o, ho, by unfold flG; rw [if_neg (by simpa using hv)]⟩
      have hl := look_mem (h.pin.ons o hm).1
      obtain ⟨e, he, e2⟩ := List.mem_map.1 hl
      obtain ⟨b, hb, e3⟩ := (h.vis_ e he).1 (hall e he)
      have : e.1 = (o.b : Int) := congrArg Prod.fst e2
      have : b = o.b := by omega
      rw [← this]; exact hb
  have e1 : P.ons.filterMap (flG fun n => vis.contains n) = P.ons.filterMap flOn := by
    apply fmap_congr
    intro o ho
    unfold flG; rw [if_pos (by simpa using hv o ho)]
  have hpin := h.pin
  rw [e1] at hpin
  have hC : C3 = { P.C with D := flSt P.C.D, l := P.C.l.map fun x => if (P.ons.any fun o => decide (o.b = x.b) && (flOn o).isNone) = true then { x with pins := 0 } else x } := by
    have hl := h.l
    have hD := h.D
    have hm := h.most
    have e2 : P.C.l.map (fC P vis) = P.C.l.map fun x => if (P.ons.any fun o => decide (o.b = x.b) && (flOn o).isNone) = true then { x with pins := 0 } else x := by
      apply List.map_congr_left
      intro z _
      unfold fC
      have : (P.ons.any fun o => decide (o.b = z.b) && vis.contains o.b && (flOn o).isNone) = P.ons.any fun o => decide (o.b = z.b) && (flOn o).isNone := by
        rw [Bool.eq_iff_iff, List.any_eq_true, List.any_eq_true]
        constructor
        · rintro ⟨p, hp, e⟩
          simp only [Bool.and_eq_true] at e
          exact ⟨p, hp, by rw [e.1.1, e.2]; rfl⟩
        · rintro ⟨p, hp, e⟩
          simp only [Bool.and_eq_true] at e
          have := hv p hp
          exact ⟨p, hp, by rw [e.1, e.2]; simp [this]⟩
      rw [this]
    rw [e2] at hl
    cases C3
    simp only at hl hD hm
    rw [hl, hD, hm]
  have hw := hwf.1.flush hwf.2.1 hwf.2.2.1.nodup
  have hw : WFP ⟨C3, P.last, P.ons.filterMap flOn⟩ := by rw [hC]; exact hw
  have hz := h.M.size
  have hw0 := hwf.2.2.2.2.1.size
  refine ⟨hw, rl3, c, mo, mm, ca, oa, Lo3, _, hpin.widen h.gro fun z hz => ?_⟩
  rcases hz with hz | hz
  · have := hP.lo z hz; omega
  · omega
end
end Go.Proofs.YtocjjigmpgekfaaGreat

/- Layer 11, the program's store: Flush. -/
open Go Go.Den Go.Proofs
namespace Go.Proofs.YtocjjigmpgekfaaGreat
section
variable {w0 w w' : World} {R R' : Nat → Prop} {rl : Nat → Nat} {sp c d mo mm : Nat} {ca oa : Nat → Nat} {Lo Lm : List (Int × Value)} {P V : Ps} {K : Value → World → Prop}
theorem u_ons : Tryz.prog.underlying 155 = some (.map 3 175) := by kernel_rfl
theorem filter_map_ca {l : List Ch} {p : Nat → Bool} (hp : ∀ x ∈ l, p (ca x.id) = x.out) : (l.map fun x => ca x.id).filter (fun q => !p q) = (l.filter fun x => !x.out).map fun x => ca x.id := by
  rw [List.filter_map]
  congr 1
  apply List.filter_congr
  intro x hx
  simp only [Function.comp]
  rw [hp x hx]
theorem flOn_none {o : On} (h : flOn o = none) : (o.l.filter fun x => !x.out).length = 0 := by
  unfold flOn at h
  split at h
  · rename_i he; rw [List.isEmpty_iff.1 he]; rfl
  · cases h
theorem flOn_some {o : On} (h : flOn o ≠ none) : (o.l.filter fun x => !x.out).length ≠ 0 := by
  unfold flOn at h
  split at h
  · exact absurd rfl h
  · rename_i he
    intro h0
    exact he (List.isEmpty_iff.2 (List.eq_nil_of_length_eq_zero h0))
set_option maxRecDepth 100000 in
theorem pFlush_c (hP : Px w0 R w sp d P) (hk : ∀ w' C', Mod R w w' → Px w0 (Gro R w w') w' sp d ⟨C', P.last, P.ons.filterMap flOn⟩ → C'.D = flSt P.C.D → C'.most = P.C.most → K (.int .i64 0) w') :
    Cal Tryz.prog F_patch_Store_Flush #[.pointer (some ⟨sp, 0, none⟩)] w K := by
  have hP0 := hP
  obtain ⟨hw, rl, c, mo, mm, ca, oa, Lo, Lm, h⟩ := hP
  apply C_patch_Store_Flush
  unfold D_patch_Store_Flush
  refine ff rfl ⟨_, rfl, _, h.lc, cFlush_c h.cx fun w1 m1 x1 => ⟨_, rfl, ff rfl ?_⟩⟩
  obtain ⟨rl1, h1, hr1⟩ := h.cache m1 (Mod.refl _ _) x1 (fl_len _) rfl
  have hz1 := m1.size
  have hlo := hP0.lo
  have hw0 := h.mod.size
  have M1 : Mod R w w1 := m1.mono fun z _ e => h.reg z (by have e : rl z = 1 := e; omega)
  obtain ⟨Es, clock, g1, g2, g3, g4, g5⟩ := h1.mapM
  refine ⟨_, rfl, _, h1.lm, _, _, range_run u_ons g1, ?_⟩
  have m2 : Mod No w1 (w1.alloc (.mapIter (some mm) clock #[] clock)) := (Mod.refl No w1).alloc _
  have hR2 : RanD (w1.alloc (.mapIter (some mm) clock #[] clock)) w1.heap.size mm Es clock [] := ⟨m2.keep g1 id, heap_new w1 _, g4, g5, g3⟩
  have s2 : (w1.alloc (.mapIter (some mm) clock #[] clock)).heap.size = w1.heap.size + 1 := by simp
  generalize w1.alloc (.mapIter (some mm) clock #[] clock) = w2 at *
  have h2 := h1.nos m2
  have e0 : P.ons.filterMap (flG fun n => ([] : List Nat).contains n) = P.ons := by
    have : P.ons.filterMap (flG fun n => ([] : List Nat).contains n) = P.ons.filterMap some := fmap_congr fun o _ => rfl
    rw [this, List.filterMap_some]
  refine ⟨fun _ w3 => ∃ vis R3 rl3 Lo3 C3 Es3 seen, FlI w0 R w w1.heap.size sp c d mo mm ca oa clock P w3 vis R3 rl3 Lo3 C3 Es3 seen, fun _ w3 => togo mm w1.heap.size w3,
    ⟨[], Gro R w w1, rl1, Lo, { P.C with D := flSt P.C.D }, Es, [], ?_⟩, ?_⟩
  · exact {
      pin := by rw [e0, g2]; exact h2
      gro := fun z hz => by
        rcases hz with hz | hz
        · exact .inl hz
        · exact .inr (by omega)
      nr := fun hz => by
        rcases hz with hz | hz
        · have := hlo _ hz; omega
        · omega
      M := M1.no m2
      D := rfl
      most := rfl
      l := by
        show P.C.l = _
        conv => lhs; rw [← List.map_id P.C.l]
        apply List.map_congr_left
        intro z _
        show z = fC P [] z
        unfold fC
        rw [if_neg]
        rw [List.any_eq_true]
        rintro ⟨o, _, e⟩
        simp at e
      ran := hR2
      vis_ := fun e _ => by simp }
  rintro x w3 ⟨vis, R3, rl3, Lo3, C3, Es3, seen, I⟩
  have hz3 := I.M.size
  have hrl3 : w1.heap.size < w3.heap.size := lt_of_heap I.ran.iter
  rcases I.ran.next (P := Tryz.prog) (ty := 0) with ⟨hall, hrun⟩ | ⟨e, he, hns, w4, hrun, hent, hR4, m4, hlt⟩
  · refine ⟨_, _, hrun, false, fun _ => rfl, ff rfl ?_⟩
    exact hk w3 C3 I.M (I.done hall hP0) I.D I.most
  obtain ⟨o, ho, ho3, ek, hnv, ev⟩ := I.on he hns
  rw [ek, ev] at hrun hent
  refine ⟨_, w4, hrun, true, fun _ => rfl, tt rfl ⟨_, hent, _, fun _ => rfl, _, fun _ => rfl, ?_⟩⟩
  -- the parts at w4
  have hrr : rl3 w1.heap.size = 0 := by
    by_cases e : rl3 w1.heap.size = 0
    · exact e
    · exact absurd (I.pin.reg _ e) I.nr
  have h4 := I.pin.keepS m4 (fun z hz e => I.nr (by rw [← show z = w1.heap.size from e]; exact hz)) fun z hz e => by have e : z = w1.heap.size := e; omega
  have hz4 := m4.size
  have hoa := fun x hx => on_all (P := ⟨C3, P.last, P.ons.filterMap (flG fun n => vis.contains n)⟩) ho3 (x := x) hx
  have hbl := h4.wf.base o ho3
  refine with_c h4 ho3 (f := (·.out)) (tells_flush h4 hoa fun _ _ _ hh => by apply C_patch_Store_Flush_1; exact hh) fun w5 g cc m5 hg hat => ⟨_, _, _, rfl, _, rfl, ?_⟩
  have h5 := h4.nos m5
  have hz5 := m5.size
  obtain ⟨k1, k2, g9, cc9, la, lc, c1, c2, c3, c4, c5⟩ := h5.ons o ho3
  have hrmo := h5.rmo
  have hrmm := h5.rmm
  have hout4 : ∀ {z}, w4.heap.size ≤ z → rl3 z = 0 := fun hz => h4.out_of hz
  have hlast := h5.wf.last
  have hlen := h5.wf.llen o ho3
  obtain ⟨w6, u1, u2, u3, u4⟩ := c1.store (P := Tryz.prog) (T := 36) (i := 0) (v := .slice (some ⟨g, 0, none⟩) 256 cc) (by kernel_rfl) (by simp) rfl
  have u2 : AtU w6 (oa o.b) 0 [.slice (some ⟨g, 0, none⟩) 256 cc, .slice la o.l.length lc] := by simpa using u2
  have hnoa : ∀ {z}, rl3 z ≠ 8 + 3 * o.b → z ≠ oa o.b := fun hz e => hz (by rw [e]; exact k2)
  have hnmo : ∀ {z}, rl3 z ≠ 3 → z ≠ mo := fun hz e => hz (by rw [e]; exact hrmo)
  have hnmm : ∀ {z}, rl3 z ≠ 4 → z ≠ mm := fun hz e => hz (by rw [e]; exact hrmm)
  have hlaS : ∀ {z}, rl3 z ≠ 9 + 3 * o.b → ¬ Of la z := fun hz ⟨q, hq, e⟩ => hz (by rw [e]; exact c5 q hq)
  have r6 : Own Tryz.prog w6 w0.heap.size 178 1 la o.l.length lc (pL (o.l.map fun x => ca x.id)) := c4.keep u3 fun q hq => hnoa (by rw [c5 q hq]; omega)
  have hat6 := hat.keep u3 (hnoa (by rw [hout4 hg]; omega))
  refine ⟨w6, by rw [add_none]; exact u1, _, rfl, la, _, lc, by rw [add_none]; exact u2.at.load (by kernel_rfl) rfl, ?_⟩
  have hz6 := u3.size
  have hcut3 : cutO Lo3 (o.l.take 0) = Lo3 := by rw [List.take_zero]; exact cutO_nil _
  refine ⟨fun x w7 => ∃ i : Nat, i ≤ o.l.length ∧ x = [.int .i64 i] ∧ MapAt w7 mo (cutO Lo3 (o.l.take i)) ∧ Mod (fun z => z = mo) w6 w7, fun x _ => (o.l.length - nI x 0).toNat, ⟨0, by omega, rfl, by rw [hcut3]; exact h5.mapO.keep u3 (hnoa (by rw [hrmo]; omega)), Mod.refl _ _⟩, ?_⟩
  rintro x w7 ⟨i, hi, rfl, mp7, M7⟩
  refine ⟨_, rfl, cond_of (fun hb => ?_) (fun hb => ?_)⟩
  · have hi : i < o.l.length := by have := of_decide_eq_true hb; omega
    have hxm := List.getElem_mem hi
    have hxa := hoa _ hxm
    have hr7 : Row w7 la (pL (o.l.map fun x => ca x.id)) := (r6.keep M7 fun q hq => hnmo (by rw [c5 q hq]; omega)).rowU.row
    obtain ⟨b3, o3, hla, hat3⟩ := row_someP hr7 (i := i) (by simp; exact hi)
    subst hla
    have hld := hat3.load (P := Tryz.prog) (T := 181) (by kernel_rfl) (pL_get (i := i) (by simp; exact hi))
    rw [List.getElem_map] at hld
    refine ⟨_, index_slice (k := 1) (by kernel_rfl) (by omega) (by omega), ?_⟩
    rw [add_none, show (i : Int).toNat * 1 = i by omega]
    obtain ⟨ch1, ch2, ch3⟩ := h5.chs _ hxa
    have ch7 := (ch3.keep u3 (hnoa (by rw [ch2]; omega)) fun z hz => hnoa (by rw [hz]; omega)).keep M7 (hnmo (by rw [ch2]; omega)) fun z hz => hnmo (by rw [hz]; omega)
    refine ⟨_, hld, _, rfl, _, ch7.ld (j := 5) (by kernel_rfl) (fun _ _ _ _ => rfl), ?_⟩
    have hcs := cutO_snoc Lo3 (o.l.take i) o.l[i]
    rw [← List.take_succ_eq_append_getElem hi] at hcs
    refine Share.cut (fun _ w9 => MapAt w9 mo (cutO Lo3 (o.l.take (i + 1))) ∧ Mod (fun z => z = mo) w6 w9) (cond_of (fun hf => ?_) (fun hf => ?_)) ?_
    · have md : Mod No w7 (Go.Den.drew w7) := (Mod.refl No w7).drew
      have ch7d := ch7.keep md id fun _ _ => id
      have hc7 : AtU w7 sp 0 [.pointer (some ⟨c, 0, none⟩), .int .i64 C3.D.vs.length, .int .i64 P.last, .map (some mo), .map (some mm)] := (h5.cell.keep u3 (hnoa (by rw [h5.rsp]; omega))).keep M7 (hnmo (by rw [h5.rsp]; omega))
      obtain ⟨w8, v1, v2, v3, v4⟩ := delete_run (P := Tryz.prog) (T := 154) (T2 := 2) (ty := 0) (k := (o.l[i].id : Int)) mapOpen (mp7.keep md id)
      refine ⟨_, rfl, _, by rw [add_none]; exact (hc7.keep md id).at.load (by kernel_rfl) rfl, _, rfl, _, ch7d.ld (j := 0) (by kernel_rfl) (fun _ _ _ _ => rfl), w8, v1, ?_, (M7.no md).trans v3 fun _ _ e => e⟩
      rw [hcs, if_pos hf]; exact v2
    · rw [hcs, if_neg (by rw [hf]; simp)]; exact ⟨mp7, M7⟩
    · rintro z w9 ⟨mp9, M9⟩
      rw [wrap64 (x := (i : Int) + 1) (by omega) (by omega)]
      exact ⟨⟨i + 1, by omega, rfl, mp9, M9⟩, by simp [nI, nth]; omega⟩
  have hil : i = o.l.length := by have := of_decide_eq_false hb; omega
  subst hil
  rw [List.take_length] at mp7
  have a7 := u2.keep M7 (hnmo (by rw [k2]; omega))
  have r7 := r6.keep M7 fun q hq => hnmo (by rw [c5 q hq]; omega)
  have hz7 := M7.size
  refine ⟨_, rfl, la, _, lc, by rw [add_none]; exact a7.at.load (by kernel_rfl) rfl, ?_⟩
  have hT5 : TellsP (.func (.func F_patch_Store_Flush_2) #[] #[]) w5 (fun z => z = mo ∨ z = oa o.b ∨ rl3 z = 9 + 3 * o.b) (pOf ca (·.out) o.l) (o.l.map fun x => ca x.id) :=
    tells_flush2 h5 hoa (fun x hx e => by
      have := (h5.chs x (hoa x hx)).2.1
      rcases e with e | e | e
      · rw [e, hrmo] at this; omega
      · rw [e, k2] at this; omega
      · omega) (fun z hz e => by
      rcases e with e | e | e
      · rw [e, hrmo] at hz; omega
      · rw [e, k2] at hz; omega
      · omega) fun _ _ _ hh => by apply C_patch_Store_Flush_2; exact hh
  have hT7 : TellsP (.func (.func F_patch_Store_Flush_2) #[] #[]) w7 (Of la) (pOf ca (·.out) o.l) (o.l.map fun x => ca x.id) := fun w' k => hT5 w' (((u3.mono fun z _ e => .inr (.inl e)).trans M7 fun z _ e => .inl e).trans k fun z _ e => by
    obtain ⟨q, hq, e⟩ := e
    exact .inr (.inr (by rw [e]; exact c5 q hq)))
  refine DeleteFuncP_c r7 (by omega) hT7 fun w10 l' o10 hl' m10 => ⟨_, _, _, rfl, _, rfl, ?_⟩
  have hfm := filter_map_ca (ca := ca) (l := o.l) (p := pOf ca (·.out) o.l) fun x hx => h5.pOf hoa hx
  rw [hfm] at o10 hl'
  rw [List.length_map] at hl'
  have a10 := a7.keep m10 (hlaS (by rw [k2]; omega))
  obtain ⟨w11, v1, v2, v3, v4⟩ := a10.store (P := Tryz.prog) (T := 178) (i := 1) (v := .slice la l' lc) (by kernel_rfl) (by simp) rfl
  have v2 : AtU w11 (oa o.b) 0 [.slice (some ⟨g, 0, none⟩) 256 cc, .slice la l' lc] := by simpa using v2
  refine ⟨w11, by rw [add_none]; exact v1, _, rfl, la, l', lc, by rw [add_none]; exact v2.at.load (by kernel_rfl) rfl, ?_⟩
  have hz10 := m10.size
  have hz11 := v3.size
  -- from w4 to w11
  have M11 : Mod (fun z => z = mo ∨ z = oa o.b ∨ rl3 z = 9 + 3 * o.b ∨ z = mm) w4 w11 :=
    (((m5.anys.trans u3 fun z _ e => .inr (.inl e)).trans M7 fun z _ e => .inl e).trans m10 fun z _ ⟨q, hq, e⟩ => .inr (.inr (.inl (by rw [e]; exact c5 q hq)))).trans v3 fun z _ e => .inr (.inl e)
  have mp11 : MapAt w11 mo (cutO Lo3 o.l) := (mp7.keep m10 (hlaS (by rw [hrmo]; omega))).keep v3 (hnoa (by rw [hrmo]; omega))
  have o11 : Own Tryz.prog w11 w0.heap.size 178 1 la l' lc (pL ((o.l.filter fun x => !x.out).map fun x => ca x.id)) := o10.keep v3 fun q hq => hnoa (by rw [c5 q hq]; omega)
  have g11 : At w11 g 0 (u8L (withL o.base (o.l.filter (·.out)))) := (((hat6.keep M7 (hnmo (by rw [hout4 hg]; omega))).keep m10 (hlaS (by rw [hout4 hg]; omega))).keep v3 (hnoa (by rw [hout4 hg]; omega))).at
  have hgl := g11.lt
  have hrS : ∀ {z : Nat}, rl3 z = 0 → ¬ (z = mo ∨ z = oa o.b ∨ rl3 z = 9 + 3 * o.b) := fun hz e => by
    rcases e with e | e | e
    · rw [e, hrmo] at hz; omega
    · rw [e, k2] at hz; omega
    · omega
  have hmmS : ¬ (mm = mo ∨ mm = oa o.b ∨ rl3 mm = 9 + 3 * o.b) := fun e => by
    rcases e with e | e | e
    · rw [e, hrmo] at hrmm; omega
    · rw [e, k2] at hrmm; omega
    · omega
  have M11' : Mod (fun z => z = mo ∨ z = oa o.b ∨ rl3 z = 9 + 3 * o.b) w4 w11 :=
    (((m5.anys.trans u3 fun z _ e => .inr (.inl e)).trans M7 fun z _ e => .inl e).trans m10 fun z _ ⟨q, hq, e⟩ => .inr (.inr (by rw [e]; exact c5 q hq))).trans v3 fun z _ e => .inr (.inl e)
  have hR11 := hR4.keep M11' (hrS hrr) hmmS
  have hvis' : ∀ e' ∈ Es3, (e'.2.2 ∈ seen ++ [e.2.2] ↔ ∃ b ∈ vis ++ [o.b], e'.1 = ((b : Nat) : Int)) := fun e' he' => by
    constructor
    · intro hm
      rcases List.mem_append.1 hm with hm | hm
      · obtain ⟨b, hb, e2⟩ := (I.vis_ e' he').1 hm
        exact ⟨b, List.mem_append.2 (.inl hb), e2⟩
      · have : e'.2.2 = e.2.2 := by simpa using hm
        rw [born_eq I.ran.all he' he this]
        exact ⟨o.b, by simp, ek⟩
    · rintro ⟨b, hb, e2⟩
      rcases List.mem_append.1 hb with hb | hb
      · exact List.mem_append.2 (.inl ((I.vis_ e' he').2 ⟨b, hb, e2⟩))
      · have hb : b = o.b := by simpa using hb
        have : e' = e := map_inj I.ran.keys he' he (by rw [e2, ek, hb])
        rw [this]; simp
  have hR3M : ∀ {z}, z < w.heap.size → rl3 z ≠ 0 → R z := fun {z} hz hn => by
    rcases I.gro z (I.pin.reg z hn) with e | e
    · exact e
    · omega
  have MR4 : Mod R w w4 := I.M.trans m4 fun z hz e => by have e : z = w1.heap.size := e; omega
  have MR11 : Mod R w w11 := MR4.trans M11' fun z hz e => hR3M hz (fun e0 => hrS e0 e)
  have hG : ∀ w', w4.heap.size ≤ w'.heap.size → ∀ z, Gro R3 w4 w' z → Gro R w w' z := fun w' hw z hz => by
    rcases hz with hz | hz
    · rcases I.gro z hz with e | e
      · exact .inl e
      · exact .inr (by omega)
    · exact .inr (by omega)
  have hnr : ∀ w', ¬ Gro R3 w4 w' w1.heap.size := fun w' hz => by
    rcases hz with hz | hz
    · exact I.nr hz
    · omega
  refine Share.dup (cond_of (fun hl0 => ?_) (fun hl0 => ?_))
  · -- none is left
    have hl0 : l' = 0 := by
      have : (l' : Int) = 0 := by simpa using hl0
      omega
    have hfn : flOn o = none := by
      cases hf : flOn o with
      | none => rfl
      | some o' => exact absurd (by rw [← hl', hl0]) (flOn_some (o := o) (by rw [hf]; simp))
    have hc11 : AtU w11 sp 0 [.pointer (some ⟨c, 0, none⟩), .int .i64 C3.D.vs.length, .int .i64 P.last, .map (some mo), .map (some mm)] := h4.cell.keep M11' (fun e => by
      have hsp := h4.rsp
      rcases e with e | e | e
      · rw [e, hrmo] at hsp; omega
      · rw [e, k2] at hsp; omega
      · omega)
    obtain ⟨w12, d1, d2, d3, d4⟩ := hR11.del (P := Tryz.prog) (T := 155) (T2 := 3) (ty := 0) (k := (o.b : Int)) mapOns
    refine ⟨_, rfl, _, by rw [add_none]; exact hc11.at.load (by kernel_rfl) rfl, w12, d1, ?_⟩
    have hz12 := d3.size
    have hkv : (Es3.filter fun e => !decide (e.1 = (o.b : Int))).map kv = delL (o.b : Int) (Es3.map kv) := by
      unfold delL; rw [List.filter_map]; rfl
    have h12 := h4.flS (w' := w12) (b := o.b) (g := g) (cc := cc) (l' := l') (lc := lc) (la := la) (Lm' := delL (o.b : Int) (Es3.map kv)) ho3 rfl (M11.trans d3 fun z _ e => .inr (.inr (.inr e))) (fun _ e => e) ⟨hg, by omega⟩
      (mp11.keep d3 (hnmm (by rw [hrmo]; omega))) (by rw [← hkv]; exact d2.at) (fun n hn => by rw [look_del, if_neg hn]) (fun p hp => (del_mem.1 hp).1) (fun _ p hp => (del_mem.1 hp).2) (fun hne => absurd hfn hne)
    rw [ons_more P.ons vis hnv, ← hkv] at h12
    refine ⟨_, rfl, _, h12.lc, ?_⟩
    -- the pin
    obtain ⟨x, hx, x1, x2, x3⟩ := hw.pin o ho
    have hfx : fC P vis x = x := by
      unfold fC
      rw [if_neg]
      rw [List.any_eq_true]
      rintro ⟨p, hp, e⟩
      simp only [Bool.and_eq_true, decide_eq_true_eq] at e
      apply hnv
      have : p.b = o.b := by omega
      rw [← this]; simpa using e.1.2
    have hx3 : x ∈ C3.l := by rw [I.l]; exact List.mem_map.2 ⟨x, hx, hfx⟩
    have hn := h.cx.wf.1.nodup
    have hn3 := I.pin.cx.wf.1.nodup
    have hheld : heldC C3 (o.b : Int) = some x := by
      unfold heldC
      rw [if_neg (by omega), Int.toNat_natCast]
      have := findB_mem hn3 hx3
      rw [x1] at this; exact this
    have hun : unpinX C3 (o.b : Int) = ({ C3 with l := P.C.l.map (fC P (vis ++ [o.b])) }, 0) := by
      unfold unpinX
      rw [hheld]
      simp only
      rw [if_neg (by omega), x2]
      have := fC_cut (vis := vis) h.wf hn ho hfn hx x1
      rw [I.l]
      show (({ C3 with l := turn (P.C.l.map (fC P vis)) { x with pins := 0 } } : Ca), (0 : Int)) = _
      rw [this]
    refine cUnpin_c (n := (o.b : Int)) h12.cx fun w13 m13 x13 => ⟨_, rfl, ?_⟩
    have x13 : Cx w0 (Gro (fun z => ro rl3 g 5 z = 1) w12 w13) w13 c d (unpinX C3 (o.b : Int)).1 := x13
    rw [hun] at x13
    obtain ⟨rl13, h13, hr13⟩ := h12.cache m13 (Mod.refl _ _) x13 rfl rfl
    have hz13 := m13.size
    have hro1 : ∀ {z}, ro rl3 g 5 z = 1 → rl3 z = 1 := fun {z} e => by
      by_cases e1 : z = g
      · subst e1; rw [ro_same] at e; omega
      · rw [ro_ne _ e1] at e; exact e
    have hR13 := d2.keep m13 (fun e => by have := hro1 e; omega) (fun e => by have := hro1 e; omega)
    refine ⟨⟨vis ++ [o.b], Gro (Gro R3 w4 w12) w12 w13, rl13, _, _, _, _, {
      pin := h13
      gro := fun z hz => by
        rcases hz with hz | hz
        · rcases hG w12 (by omega) z hz with e | e
          · exact .inl e
          · exact .inr (by omega)
        · exact .inr (by omega)
      nr := fun hz => by
        rcases hz with hz | hz
        · exact hnr w12 hz
        · omega
      M := (MR11.trans d3 fun z hz e => hR3M hz (by rw [show z = mm from e, hrmm]; omega)).trans m13 fun z hz e => hR3M hz (by have := hro1 e; omega)
      D := I.D
      most := I.most
      l := rfl
      ran := hR13
      vis_ := fun e' he' => hvis' e' (List.mem_filter.1 he').1 }⟩, ?_⟩
    · show togo mm w1.heap.size w13 < togo mm w1.heap.size w3
      have e1 : togo mm w1.heap.size w13 = togo mm w1.heap.size w12 := by rw [hR13.togo, d2.togo]
      have e2 : togo mm w1.heap.size w11 = togo mm w1.heap.size w4 := by rw [hR11.togo, hR4.togo]
      omega
  · -- some are left
    have hl0 : l' ≠ 0 := fun e => by rw [e] at hl0; simp at hl0
    have hfn : flOn o ≠ none := fun hf => hl0 (by rw [hl', flOn_none hf])
    have h11 := h4.flS (w' := w11) (b := o.b) (g := g) (cc := cc) (l' := l') (lc := lc) (la := la) (Lm' := Es3.map kv) ho3 rfl M11 (fun _ e => e) ⟨hg, by omega⟩
      mp11 hR11.at (fun _ _ => rfl) (fun _ hp => hp) (fun hf => absurd hf hfn) (fun _ => ⟨rfl, v2, g11, hl', o11, c5⟩)
    rw [ons_more P.ons vis hnv] at h11
    refine ⟨⟨vis ++ [o.b], Gro R3 w4 w11, ro rl3 g 5, _, C3, Es3, _, {
      pin := h11
      gro := hG w11 (by omega)
      nr := hnr w11
      M := MR11
      D := I.D
      most := I.most
      l := by rw [I.l]; exact List.map_congr_left fun z _ => (fC_skip h.wf ho hnv hfn z).symm
      ran := hR11
      vis_ := hvis' }⟩, ?_⟩
    · show togo mm w1.heap.size w11 < togo mm w1.heap.size w3
      have e2 : togo mm w1.heap.size w11 = togo mm w1.heap.size w4 := by rw [hR11.togo, hR4.togo]
      omega
end
end Go.Proofs.YtocjjigmpgekfaaGreat

/- Layer 11, the program's store: its calls, whatever its cache holds. -/
open Go Go.Den Go.Proofs
namespace Go.Den
end Go.Den
namespace Go.Proofs.YtocjjigmpgekfaaGreat
section
variable {w0 w w' : World} {R R' : Nat → Prop} {rl : Nat → Nat} {sp c d mo mm : Nat} {ca oa : Nat → Nat} {Lo Lm : List (Int × Value)} {P V : Ps} {K : Value → World → Prop}
theorem newX_C {C : Ca} {b f : Nat} {data : Bk} {after : List Int} : newX ⟨C, V.last, V.ons⟩ b f data after = newX V b f data after := rfl
theorem patE_C {C : Ca} {n f : Int} {data : Bk} {after : List Int} (e : C.D = V.C.D) : patE ⟨C, V.last, V.ons⟩ n f data after = patE V n f data after := by
  unfold patE
  show (if errOf C.D n ≠ 0 then (3 : Int) else _) = _
  rw [e]; rfl
theorem patS_C {C : Ca} {n f : Int} {data : Bk} {after : List Int} (e : C.D = V.C.D) : (patS ⟨C, V.last, V.ons⟩ n f data after).last = (patS V n f data after).last ∧ (patS ⟨C, V.last, V.ons⟩ n f data after).ons = (patS V n f data after).ons ∧ (patS V n f data after).C = V.C := by
  unfold patS
  rw [patE_C e, newX_C]
  by_cases h : patE V n f data after = 0
  · rw [if_pos h, if_pos h]
    refine ⟨rfl, ?_, (newO_C (V := V)).1⟩
    show (newO ⟨C, V.last, V.ons⟩ _).ons.map _ = (newO V _).ons.map _
    rw [newO_ons e]
  · rw [if_neg h, if_neg h]; exact ⟨rfl, rfl, rfl⟩
theorem patN_C {C : Ca} {n f : Int} {data : Bk} {after : List Int} (e : C.D = V.C.D) : patN ⟨C, V.last, V.ons⟩ n f data after = patN V n f data after := by unfold patN; rw [patE_C e]
theorem qPatch_c {n frm : Int} {a3 a4 : Option Addr} {l3 c3 l4 c4 : Nat} {data : Bk} {after : List Int} (hP : Pz w0 R w sp d V) (hlast : V.last + 1 ≤ 1000000) (hd : data.length = l3) (hrd : Row w a3 (u8L data)) (hdo : data ≠ [] → ∀ q, a3 = some q → ¬ R q.block) (h63 : l3 ≤ 9223372036854775807)
    (ha : after.length = l4) (ha6 : l4 ≤ 1000000) (hra : Row w a4 (iL after)) (hao : after ≠ [] → ∀ q, a4 = some q → ¬ R q.block)
    (hk : ∀ w', Mod R w w' → Pz w0 (Gro R w w') w' sp d (patS V n frm data after) → K (.tuple #[.int .i64 (patN V n frm data after), .int .i64 (patE V n frm data after)]) w') :
    Cal Tryz.prog F_patch_Store_Patch #[.pointer (some ⟨sp, 0, none⟩), .int .i64 n, .int .i64 frm, .slice a3 l3 c3, .slice a4 l4 c4] w K := by
  obtain ⟨C, eD, eM, hP⟩ := hP
  refine pPatch_c (n := n) (frm := frm) hP hlast hd hrd hdo h63 ha ha6 hra hao fun w' C' M h e1 e2 => ?_
  obtain ⟨p1, p2, p3⟩ := patS_C (V := V) (C := C) (n := n) (f := frm) (data := data) (after := after) eD
  rw [patN_C eD, patE_C eD]
  refine hk w' M ⟨C', ?_, ?_, ?_⟩
  · rw [p3, e1]; exact eD
  · rw [p3, e2]; exact eM
  · rw [← p1, ← p2]; exact h
theorem wrVE_C {C : Ca} {n : Int} (e : C.D = V.C.D) : wrVE ⟨C, V.last, V.ons⟩ n = wrVE V n := by
  unfold wrVE
  show (if errOf C.D n ≠ 0 then (3 : Int) else _) = _
  rw [e]; rfl
theorem wrV_C {C : Ca} {n : Int} (e : C.D = V.C.D) : (wrV ⟨C, V.last, V.ons⟩ n).last = (wrV V n).last ∧ (wrV ⟨C, V.last, V.ons⟩ n).ons = (wrV V n).ons ∧ (wrV ⟨C, V.last, V.ons⟩ n).C.D = (wrV V n).C.D ∧ (wrV V n).C.most = V.C.most := by
  unfold wrV
  rw [wrVE_C e, imgB_C e]
  by_cases h : wrVE V n = 0
  · rw [if_pos h, if_pos h]
    refine ⟨rfl, rfl, ?_, rfl⟩
    show wrSt C.D n _ = wrSt V.C.D n _
    rw [e]
  · rw [if_neg h, if_neg h]; exact ⟨rfl, rfl, e, rfl⟩
theorem qWrite_c {n : Int} (hP : Pz w0 R w sp d V) (hb9 : ∀ v ∈ V.C.D.vs, v.length ≤ 999999) (hk : ∀ w', Mod R w w' → Pz w0 (Gro R w w') w' sp d (wrV V n) → K (.int .i64 (wrVE V n)) w') :
    Cal Tryz.prog F_patch_Store_Write #[.pointer (some ⟨sp, 0, none⟩), .int .i64 n] w K := by
  obtain ⟨C, eD, eM, hP⟩ := hP
  refine pWrite_c (n := n) hP (by show ∀ v ∈ C.D.vs, _; rw [eD]; exact hb9) fun w' C' M h e1 e2 => ?_
  obtain ⟨p1, p2, p3, p4⟩ := wrV_C (V := V) (C := C) (n := n) eD
  rw [wrVE_C eD]
  refine hk w' M ⟨C', ?_, ?_, ?_⟩
  · rw [e1, p3]
  · rw [p4, e2]; exact eM
  · rw [← p1, ← p2]; exact h
theorem qFlush_c (hP : Pz w0 R w sp d V) (hk : ∀ w', Mod R w w' → Pz w0 (Gro R w w') w' sp d (flV V) → K (.int .i64 0) w') : Cal Tryz.prog F_patch_Store_Flush #[.pointer (some ⟨sp, 0, none⟩)] w K := by
  obtain ⟨C, eD, eM, hP⟩ := hP
  refine pFlush_c hP fun w' C' M h e1 e2 => hk w' M ⟨C', ?_, ?_, h⟩
  · rw [e1]; show flSt C.D = flSt V.C.D; rw [eD]
  · rw [e2]; exact eM
def safeV (V : Ps) (n : Int) : Bool := decide (1 ≤ n ∧ n ≤ (V.last : Int)) && !V.opn n
theorem qSafe_c {n : Int} (hP : Pz w0 R w sp d V) (hk : K (.bool (safeV V n)) w) : Cal Tryz.prog F_patch_Store_Safe #[.pointer (some ⟨sp, 0, none⟩), .int .i64 n] w K := by
  obtain ⟨C, eD, eM, hw, rl, c, mo, mm, ca, oa, Lo, Lm, h⟩ := hP
  apply C_patch_Store_Safe
  unfold D_patch_Store_Safe
  obtain ⟨p, hp, hpn, _⟩ := h.lookO n
  refine Share.cut (fun x w' => w = w' ∧ x = [.bool (safeV V n)]) (tt rfl (given_c h ⟨_, rfl, cond_of (fun hb => ?_) (fun hb => ?_)⟩)) ?_
  · refine ⟨_, rfl, _, h.lo', p, hp, rfl, ?_⟩
    unfold safeV
    rw [show decide (1 ≤ n ∧ n ≤ (V.last : Int)) = true from hb, Bool.true_and]
    have : p.isNone = !V.opn n := hpn
    rw [this]
  · refine ⟨rfl, ?_⟩
    unfold safeV
    rw [show decide (1 ≤ n ∧ n ≤ (V.last : Int)) = false from hb, Bool.false_and]
  · rintro x w' ⟨rfl, rfl⟩
    exact ⟨_, rfl, hk⟩
def openV (V : Ps) : Nat := V.all.length
def readyV (V : Ps) (n : Int) : Nat := match onOf V n with | some o => (o.l.filter fun x => (mayL V.opn o.l).contains (x.id : Int) && !x.out).length | none => 0
set_option maxRecDepth 100000 in
theorem qReady_c {n : Int} (hP : Pz w0 R w sp d V) (hk : ∀ w', Mod No w w' → K (.int .i64 (readyV V n)) w') : Cal Tryz.prog F_patch_Store_Ready #[.pointer (some ⟨sp, 0, none⟩), .int .i64 n] w K := by
  obtain ⟨C, eD, eM, hw, rl, c, mo, mm, ca, oa, Lo, Lm, h⟩ := hP
  apply C_patch_Store_Ready
  unfold D_patch_Store_Ready
  have hlk := h.lookM n
  refine Share.dup (ff rfl ⟨_, rfl, _, h.lm, _, hlk, ?_⟩)
  cases ho : onOf V n with
  | none =>
    have ho' : onOf (⟨C, V.last, V.ons⟩ : Ps) n = none := ho
    rw [ho']
    refine ⟨_, rfl, tt rfl ?_⟩
    have := hk w (Mod.refl _ _)
    unfold readyV at this
    rw [ho] at this; exact this
  | some o =>
    have ho' : onOf (⟨C, V.last, V.ons⟩ : Ps) n = some o := ho
    rw [ho'] at hlk ⊢
    obtain ⟨hom, hob⟩ := onOf_some ho
    refine ⟨_, rfl, ff rfl ⟨_, rfl, _, h.lm, _, hlk, may11_c h hom fun w2 m m2 hm hmp => ⟨_, rfl, _, rfl, ?_⟩⟩⟩
    have h2 := h.nos m2
    have hlk2 := h2.lookM n
    rw [ho'] at hlk2
    obtain ⟨la, lc, l1, l2, l3, l4⟩ := (h2.ons o hom).2.2.ldL
    refine ⟨_, h2.lm, _, hlk2, _, rfl, la, _, lc, l1, ?_⟩
    have hlast := h.wf.last
    have hlen := h.wf.llen o hom
    have hoa := fun x hx => on_all (P := ⟨C, V.last, V.ons⟩) hom (x := x) hx
    have hop : Ps.opn ⟨C, V.last, V.ons⟩ = V.opn := rfl
    rw [hop] at hmp
    refine ⟨fun x w3 => w2 = w3 ∧ ∃ (i : Nat) (y : Value), i ≤ o.l.length ∧ x = [.int .i64 (((o.l.take i).filter fun x => (mayL V.opn o.l).contains (x.id : Int) && !x.out).length : Nat), .int .i64 i, y], fun x _ => (o.l.length - nI x 1).toNat, ⟨rfl, 0, _, by omega, rfl⟩, ?_⟩
    rintro x w3 ⟨rfl, i, y, hi, rfl⟩
    refine ⟨_, rfl, cond_of (fun hb => ?_) (fun hb => ?_)⟩
    · have hi : i < o.l.length := by have := of_decide_eq_true hb; omega
      have hxm := List.getElem_mem hi
      obtain ⟨b3, o3, hla, hat3⟩ := row_someP l2 (i := i) (by simp; exact hi)
      subst hla
      have hld := hat3.load (P := Tryz.prog) (T := 181) (by kernel_rfl) (pL_get (i := i) (by simp; exact hi))
      rw [List.getElem_map] at hld
      refine ⟨_, index_slice (k := 1) (by kernel_rfl) (by omega) (by omega), ?_⟩
      rw [add_none, show (i : Int).toNat * 1 = i by omega]
      have hc := (h2.chs _ (hoa _ hxm)).2.2
      have hfl : ((o.l.take i).filter fun x => (mayL V.opn o.l).contains (x.id : Int) && !x.out).length ≤ i := by
        have := List.length_filter_le (fun x : Ch => (mayL V.opn o.l).contains (x.id : Int) && !x.out) (o.l.take i)
        rw [List.length_take] at this; omega
      have hsucc : ((o.l.take (i + 1)).filter fun x => (mayL V.opn o.l).contains (x.id : Int) && !x.out).length = ((o.l.take i).filter fun x => (mayL V.opn o.l).contains (x.id : Int) && !x.out).length + if ((mayL V.opn o.l).contains (o.l[i].id : Int) && !o.l[i].out) = true then 1 else 0 := by
        rw [List.take_succ_eq_append_getElem hi, List.filter_append, List.length_append]
        congr 1
        cases hf : ((mayL V.opn o.l).contains (o.l[i].id : Int) && !o.l[i].out) <;> simp only [List.filter, hf] <;> rfl
      refine ⟨_, hld, Share.cut (fun z w4 => w2 = w4 ∧ z = [.bool ((mayL V.opn o.l).contains (o.l[i].id : Int) && !o.l[i].out)]) ⟨_, rfl, _, hc.ld (j := 0) (by kernel_rfl) (fun _ _ _ _ => rfl), _, lookOk hmp _, cond_of (fun hb => ?_) (fun hb => ?_)⟩ ?_⟩
      · refine ⟨_, rfl, _, hc.ld (j := 5) (by kernel_rfl) (fun _ _ _ _ => rfl), rfl, ?_⟩
        rw [hb, Bool.true_and]
      · rw [hb, Bool.false_and]; exact ⟨rfl, rfl⟩
      rintro z w4 ⟨rfl, rfl⟩
      refine ⟨_, rfl, Share.cut (fun z w5 => w2 = w5 ∧ z = [.int .i64 (((o.l.take (i + 1)).filter fun x => (mayL V.opn o.l).contains (x.id : Int) && !x.out).length : Nat)]) (cond_of (fun hb => ?_) (fun hb => ?_)) ?_⟩
      · refine ⟨_, rfl, rfl, ?_⟩
        rw [hsucc, if_pos hb, wrap64 (by omega) (by omega)]
        rfl
      · rw [hsucc, if_neg (by rw [hb]; simp)]
        exact ⟨rfl, rfl⟩
      · rintro z w5 ⟨rfl, rfl⟩
        rw [wrap64 (x := (i : Int) + 1) (by omega) (by omega)]
        exact ⟨⟨rfl, i + 1, _, by omega, rfl⟩, by simp [nI, nth]; omega⟩
    · have hil : i = o.l.length := by have := of_decide_eq_false hb; omega
      subst hil
      refine ⟨_, rfl, ?_⟩
      rw [List.take_length]
      have := hk w2 m2
      unfold readyV at this
      rw [ho] at this; exact this
end
end Go.Proofs.YtocjjigmpgekfaaGreat

/- Layer 11: a new store, the fixed calls, and a store that is not there. -/
open Go Go.Den Go.Proofs
namespace Go.Proofs.YtocjjigmpgekfaaGreat
theorem build_store (w : World) (p : Option Addr) (n : Int) (m1 m2 : Option Nat) : (Instr.build 157 #[(0, .pointer p), (1, .int .i64 n), (3, .map m1), (4, .map m2)]).run Tryz.prog w = .ok (.agg ⟨[.pointer p, .int .i64 n, .int .i64 0, .map m1, .map m2]⟩) w := by kernel_rfl
theorem box_sto (w : World) (cs : List Value) : (Instr.box 157 (.agg ⟨cs⟩)).run Tryz.prog w = .ok (.pointer (some ⟨w.heap.size, 0, none⟩)) (w.alloc (.cells ⟨cs⟩ 157)) := rfl
def zeroV (k n : Nat) : Ps := ⟨⟨newSt k, n, []⟩, 0, []⟩
section
variable {w0 w w' : World} {R R' : Nat → Prop} {sp c d sb mb sc : Nat} {L : List (Int × Value)} {P V : Ps} {K : Value → World → Prop}
theorem Pz.mod (h : Pz w0 R w sp d V) : Mod No w0 w := by
  obtain ⟨C, _, _, h⟩ := h; exact h.wf.2.2.2.2.1
set_option maxRecDepth 100000 in
theorem qNew_c {D : St} {k : Nat} (hd : DiskIn w R d sb mb sc L D) (hsm : Small D) (hlo : ∀ x, R x → w0.heap.size ≤ x ∧ x < w.heap.size) (hm : Mod No w0 w) (hrun : D.left = -1) (h1 : 1 ≤ k) (h2 : k ≤ 4096) (hf : D.vs.length ≤ k)
    (hk : ∀ w' sp, Mod No w w' → Pz w0 (Gro R w w') w' sp d ⟨⟨D, k, []⟩, 0, []⟩ → K (.tuple #[.pointer (some ⟨sp, 0, none⟩), .int .i64 0]) w') : Cal Tryz.prog F_patch_Open #[.pointer (some ⟨d, 0, none⟩), .int .i64 k] w K := by
  classical
  apply C_patch_Open
  unfold D_patch_Open
  refine cNew_c (w0 := w0) hd hsm hlo hm (fun h => by omega) fun k' hk' _ _ w2 c m2 x2 => ⟨_, _, rfl, ff rfl ?_⟩
  have : k' = k := by omega
  subst this
  have hx2 := x2
  obtain ⟨rl, m, sb', mb', sc', lc', la', L', mp', hC⟩ := x2
  refine Len_c hC.disk ⟨_, rfl, _, _, makeMap_run, _, _, makeMap_run, _, fun w => build_store w _ _ _ _, _, _, box_sto _ _, ?_⟩
  have m3 : Mod No w2 (w2.alloc (.map #[] 0)) := (Mod.refl No w2).alloc _
  have p3 : MapAt (w2.alloc (.map #[] 0)) w2.heap.size [] := MapAt.new
  have s3 : (w2.alloc (.map #[] 0)).heap.size = w2.heap.size + 1 := by simp
  generalize w2.alloc (.map #[] 0) = w3 at *
  have m4 : Mod No w3 (w3.alloc (.map #[] 0)) := (Mod.refl No w3).alloc _
  have p4 : MapAt (w3.alloc (.map #[] 0)) w3.heap.size [] := MapAt.new
  have s4 : (w3.alloc (.map #[] 0)).heap.size = w3.heap.size + 1 := by simp
  generalize w3.alloc (.map #[] 0) = w4 at *
  have m5 : Mod No w4 (w4.alloc (.cells ⟨[.pointer (some ⟨c, 0, none⟩), .int .i64 D.vs.length, .int .i64 0, .map (some w2.heap.size), .map (some w3.heap.size)]⟩ 157)) := (Mod.refl No w4).alloc _
  have a5 : AtU (w4.alloc (.cells ⟨[.pointer (some ⟨c, 0, none⟩), .int .i64 D.vs.length, .int .i64 0, .map (some w2.heap.size), .map (some w3.heap.size)]⟩ 157)) w4.heap.size 0 [.pointer (some ⟨c, 0, none⟩), .int .i64 D.vs.length, .int .i64 0, .map (some w2.heap.size), .map (some w3.heap.size)] := AtU.new
  have s5 : (w4.alloc (.cells ⟨[.pointer (some ⟨c, 0, none⟩), .int .i64 D.vs.length, .int .i64 0, .map (some w2.heap.size), .map (some w3.heap.size)]⟩ 157)).heap.size = w4.heap.size + 1 := by simp
  generalize w4.alloc (.cells ⟨[.pointer (some ⟨c, 0, none⟩), .int .i64 D.vs.length, .int .i64 0, .map (some w2.heap.size), .map (some w3.heap.size)]⟩ 157) = w5 at *
  have M5 : Mod No w2 w5 := (m3.no m4).no m5
  have hz2 := m2.size
  have hw0 := hm.size
  have hG : ∀ x, Gro R w w2 x → w0.heap.size ≤ x ∧ x < w2.heap.size := fun x hx => by
    rcases hx with hx | hx
    · have := hlo x hx; omega
    · omega
  refine hk w5 w4.heap.size (m2.no M5) ⟨⟨D, k', []⟩, rfl, rfl, ?_, fun x => if x = w4.heap.size then 2 else if x = w2.heap.size then 3 else if x = w3.heap.size then 4 else if Gro R w w2 x then 1 else 0, c, w2.heap.size, w3.heap.size, fun _ => 0, fun _ => 0, [], [], ?_⟩
  · exact {
      lne := fun o ho => (by cases ho)
      pin := fun o ho => (by cases ho)
      unp := fun x hx => (by cases hx)
      run := hrun
      acc := fun o ho => (by cases ho)
      may := fun o ho => (by cases ho)
      cls := fun o ho => (by cases ho)
      afl := fun x hx => (by cases hx) }
  have e1 : (fun x => (if x = w4.heap.size then 2 else if x = w2.heap.size then 3 else if x = w3.heap.size then 4 else if Gro R w w2 x then 1 else 0) = 1) = Gro R w w2 := by
    funext x
    apply propext
    constructor
    · intro e
      by_cases h1 : x = w4.heap.size
      · rw [if_pos h1] at e; omega
      · rw [if_neg h1] at e
        by_cases h2 : x = w2.heap.size
        · rw [if_pos h2] at e; omega
        · rw [if_neg h2] at e
          by_cases h3 : x = w3.heap.size
          · rw [if_pos h3] at e; omega
          · rw [if_neg h3] at e
            by_cases h4 : Gro R w w2 x
            · exact h4
            · rw [if_neg h4] at e; omega
    · intro hx
      have := hG x hx
      rw [if_neg (by omega), if_neg (by omega), if_neg (by omega), if_pos hx]
  exact {
    cx := by rw [e1]; exact hx2.nos M5
    cell := a5
    mapO := (p3.keep m4 id).keep m5 id
    mapM := p4.keep m5 id
    rsp := if_pos rfl
    rmo := by rw [if_neg (by omega), if_pos rfl]
    rmm := by rw [if_neg (by omega), if_neg (by omega), if_pos rfl]
    chs := fun x hx => (by cases hx)
    ons := fun o ho => (by cases ho)
    keysO := fun p hp => (by cases hp)
    keysM := fun p hp => (by cases hp)
    wf := { full := hf, onsN := List.nodup_nil, onlt := fun o ho => (by cases ho), base := fun o ho => (by cases ho), llen := fun o ho => (by cases ho), ids := List.nodup_nil, idr := fun x hx => (by cases hx), chb := fun o ho => (by cases ho), dat := fun x hx => (by cases hx), aft := fun x hx => (by cases hx), last := Nat.zero_le _ }
    reg := fun x hx => by
      by_cases h4 : Gro R w w2 x
      · rcases h4 with h4 | h4
        · exact .inl h4
        · exact .inr (by omega)
      · right
        by_cases h1 : x = w4.heap.size
        · omega
        · by_cases h2 : x = w2.heap.size
          · omega
          · by_cases h3 : x = w3.heap.size
            · omega
            · rw [if_neg h1, if_neg h2, if_neg h3, if_neg h4] at hx; omega
    lo := fun x hx => by
      rcases hx with hx | hx
      · have := hlo x hx; omega
      · omega
    mod := ((hm.no m2).no M5) }
/-- Bytes of one's own beside a store. -/
structure Kp (R : Nat → Prop) (w : World) (g : Nat) (cs : List Value) : Prop where
  at_ : AtU w g 0 cs
  no : ¬ R g
theorem Kp.nos {g : Nat} {cs : List Value} (h : Kp R w g cs) (m : Mod No w w') : Kp R w' g cs := ⟨h.at_.keep m id, h.no⟩
theorem Kp.step {g : Nat} {cs : List Value} (h : Kp R w g cs) (m : Mod R w w') : Kp (Gro R w w') w' g cs := ⟨h.at_.keep m h.no, fun e => by
  have := h.at_.lt
  rcases e with e | e
  · exact h.no e
  · omega⟩
theorem lit (w : World) (v : UInt8) : Mod No w (w.alloc (.cells ⟨[.int .u8 (v.toNat : Int)]⟩ 5 (1, 2))) ∧ Row (w.alloc (.cells ⟨[.int .u8 (v.toNat : Int)]⟩ 5 (1, 2))) (some ⟨w.heap.size, 0, none⟩) (u8L [v]) :=
  ⟨(Mod.refl No w).alloc _, .inr ⟨_, _, rfl, _, _, _, heap_new w _, by simp [u8L], by simp [u8L, u8]⟩⟩
theorem Kp.of {w1 : World} {g : Nat} {cs : List Value} (h : Pz w0 R w sp d V) (m : Mod R w w1) (hg : w1.heap.size ≤ g) (hat : AtU w' g 0 cs) : Kp (Gro R w w1) w' g cs := ⟨hat, fun e => by
  have := m.size
  rcases e with e | e
  · have := (h.lo _ e).2; omega
  · omega⟩
def p0 : Ps := zeroV 8 8
def p1 : Ps := patS p0 5 0 [97] []
def p2 : Ps := patS p1 6 0 [98] [1]
def p3 : Ps := patS p2 5 1 [99] [2]
def p4 : Ps := wrV p3 5
def p5 : Ps := flV p4
def p6 : Ps := wrV p5 6
end
end Go.Proofs.YtocjjigmpgekfaaGreat
end
section
/- Layer 10: rows of calls, and the small functions of the laws. -/
open Go Go.Den Go.Proofs
namespace Go.Proofs.YtocjjigmpgekfaaGreat
/-- A call: its kind, its number, its bytes. -/
structure A3 where
  k : Int
  n : Int
  xs : List UInt8
def A3.fit (x : A3) (w : World) (cs : List Value) : Prop := ∃ (ad : Option Addr) (cd : Nat), cs = [.int .i64 x.k, .int .i64 x.n, .slice ad x.xs.length cd] ∧ Row w ad (u8L x.xs) ∧ (ad = none → x.xs.length = 0 ∧ cd = 0) ∧ x.xs.length ≤ 9223372036854775807
def Acts3 (w : World) (a : Option Addr) (acts : List A3) : Prop :=
  acts = [] ∨ ∃ (b o : Nat) (H : List Value), a = some ⟨b, o, none⟩ ∧ At w b o H ∧ H.length = acts.length * 3 ∧ ∀ (r : Nat) (x : A3), acts[r]? = some x → x.fit w ((H.drop (r * 3)).take 3)
section
variable {w w0 : World} {K : Value → World → Prop}
theorem A3.fit.nos {x : A3} {w' : World} {cs : List Value} (h : x.fit w cs) (m : Mod No w w') : x.fit w' cs := by
  obtain ⟨ad, cd, h1, h2, h3⟩ := h
  exact ⟨ad, cd, h1, h2.nos m, h3⟩
theorem Acts3.nos {w' : World} {a : Option Addr} {acts : List A3} (h : Acts3 w a acts) (m : Mod No w w') : Acts3 w' a acts := by
  rcases h with h | ⟨b, o, H, h1, h2, h3, h4⟩
  · exact .inl h
  · exact .inr ⟨b, o, H, h1, h2.keep m id, h3, fun r x hx => (h4 r x hx).nos m⟩
end
end Go.Proofs.YtocjjigmpgekfaaGreat
end
section
/- The statement PatchGoes in plain terms: the least open change may always be written. -/
open Go Go.Den Go.Proofs
namespace Go.Proofs.YtocjjigmpgekfaaGreat
/-- Changes lie in the order of their numbers. -/
def Srt (V : Ps) : Prop := ∀ o ∈ V.ons, o.l.Pairwise fun x y => x.id < y.id
/-- A block without changes has one version. -/
def One1 (V : Ps) : Prop := ∀ b, b < V.C.D.vs.length → (∀ o ∈ V.ons, o.b ≠ b) → (verOf V.C.D b).length = 1
theorem Srt.add {V : Ps} (h : Srt V) (hs : WFS V) {x : Ch} (hx : x.id = V.last + 1) : Srt (addX V x) := by
  intro o ho
  obtain ⟨p, hp, rfl⟩ := List.mem_map.1 ho
  have hold : p ∈ V.ons ∨ p.l = [] := by
    unfold newO at hp
    split at hp
    · exact .inl hp
    · rcases List.mem_append.1 hp with hp | hp
      · exact .inl hp
      · simp at hp; right; rw [hp]
  have hpl : p.l.Pairwise fun x y => x.id < y.id := by
    rcases hold with hp | hp
    · exact h p hp
    · rw [hp]; exact List.Pairwise.nil
  split
  · show (p.l ++ [x]).Pairwise _
    rw [List.pairwise_append]
    refine ⟨hpl, by simp, fun a ha c hc => ?_⟩
    simp at hc; subst hc
    rcases hold with hp | hp
    · have := hs.idr a (on_all hp ha); omega
    · rw [hp] at ha; cases ha
  · exact hpl
theorem Srt.pat {V : Ps} (h : Srt V) (hs : WFS V) (n f : Int) (data : Bk) (after : List Int) : Srt (patS V n f data after) := by
  unfold patS
  split
  · exact h.add hs rfl
  · exact h
theorem Srt.wr {V : Ps} (h : Srt V) (n : Int) : Srt (wrV V n) := by
  unfold wrV
  split
  · intro o ho
    obtain ⟨p, hp, rfl⟩ := List.mem_map.1 ho
    show (p.l.map _).Pairwise _
    rw [List.pairwise_map]
    refine (h p hp).imp fun {a c} hac => ?_
    rw [(markF_like V n.toNat).id, (markF_like V n.toNat).id]; exact hac
  · exact h
theorem Srt.fl {V : Ps} (h : Srt V) : Srt (flV V) := by
  intro o ho
  obtain ⟨p, hp, e⟩ := List.mem_filterMap.1 ho
  unfold flOn at e
  split at e
  · cases e
  · rw [← Option.some.inj e]
    exact (h p hp).filter _
theorem One1.pat {V : Ps} (h : One1 V) (n f : Int) (data : Bk) (after : List Int) : One1 (patS V n f data after) := by
  intro b hb hno
  have e : (patS V n f data after).C = V.C := (patS_C (V := V) (C := V.C) rfl).2.2
  rw [e] at hb ⊢
  refine h b hb fun o ho hob => ?_
  unfold patS at hno
  split at hno
  · have hin : o ∈ (newO V (newX V n.toNat f.toNat data after).b).ons := by
      unfold newO
      split
      · exact ho
      · exact List.mem_append.2 (.inl ho)
    have := hno _ (List.mem_map.2 ⟨o, hin, rfl⟩)
    split at this <;> exact this hob
  · exact hno o ho hob
theorem One1.wr {V : Ps} (h : One1 V) (n : Int) : One1 (wrV V n) := by
  intro b hb hno
  by_cases hE : wrVE V n = 0
  · have e : wrV V n = { V with C := { V.C with D := wrSt V.C.D n (imgB V n.toNat) }, ons := mapX V (markF V n.toNat) } := by unfold wrV; rw [if_pos hE]
    rw [e] at hb hno ⊢
    have hno' : ∀ o ∈ V.ons, o.b ≠ b := fun o ho => hno { o with l := o.l.map (markF V n.toNat) } (List.mem_map.2 ⟨o, ho, rfl⟩)
    have hb : b < (wrSt V.C.D n (imgB V n.toNat)).vs.length := hb
    rw [len_wr] at hb
    have h1 := h b hb hno'
    show (verOf (wrSt V.C.D n (imgB V n.toNat)) b).length = 1
    have hnb : n ≠ b := by
      rintro rfl
      unfold wrVE at hE
      split at hE
      · omega
      · split at hE
        · omega
        · rename_i hn
          cases ho : onOf V (b : Int) with
          | none => rw [ho] at hn; exact hn rfl
          | some o =>
            obtain ⟨h1, h2⟩ := onOf_some ho
            exact hno' o h1 (by omega)
    have hn0 : 0 ≤ n := by
      unfold wrVE at hE
      split at hE
      · omega
      · rename_i he
        have := err_range (Classical.not_not.1 he)
        obtain ⟨k, hk, _⟩ := this
        omega
    unfold wrSt
    split
    · exact h1
    · unfold verOf at h1 ⊢
      rw [if_neg (by omega), Int.toNat_natCast] at h1 ⊢
      rw [List.getElem?_set_ne (by omega)]; exact h1
  · have e : wrV V n = V := by unfold wrV; rw [if_neg hE]
    rw [e] at hb hno ⊢
    exact h b hb hno
theorem One1.fl {V : Ps} (hl : V.C.D.left = -1) : One1 (flV V) := by
  intro b hb _
  show (verOf (flSt V.C.D) b).length = 1
  have hb : b < (flSt V.C.D).vs.length := hb
  have e : flSt V.C.D = ⟨V.C.D.vs.map fun v => [lastV v], dec V.C.D.left⟩ := by unfold flSt; rw [if_neg (by omega)]
  rw [e] at hb ⊢
  rw [ver_at hb]; simp
/-- The least open change may be written. -/
theorem least_may {V : Ps} (hs : WFS V) (hf : ∀ x ∈ V.all, ∀ k ∈ x.after, k < (x.id : Int)) (hsrt : Srt V) {o : On} {x : Ch} (ho : o ∈ V.ons) (hx : x ∈ o.l) (hmin : ∀ y ∈ V.all, x.id ≤ y.id) : (x.id : Int) ∈ mayL V.opn o.l := by
  obtain ⟨j, hj, rfl⟩ := List.getElem_of_mem hx
  have hj0 : j = 0 := by
    by_cases e : j = 0
    · exact e
    · have h1 := List.pairwise_iff_getElem.1 (hsrt o ho) 0 j (by omega) hj (by omega)
      have h2 := hmin _ (on_all ho (List.getElem_mem (by omega : 0 < o.l.length)))
      omega
  subst hj0
  refine mayN_mono (n := 1) (by omega) ?_
  unfold mayN
  rw [List.getElem?_eq_getElem hj]
  show (o.l[0].id : Int) ∈ (if badB V.opn (o.l.take 0) (mayN V.opn o.l 0) o.l[0] = true then _ else _)
  rw [if_neg]
  · simp
  · unfold badB
    rw [Bool.or_eq_true, List.any_eq_true, List.any_eq_true]
    rintro (⟨k, hk, e⟩ | ⟨y, hy, _⟩)
    · rw [Bool.and_eq_true] at e
      have hop := e.1
      unfold Ps.opn at hop
      rw [List.any_eq_true] at hop
      obtain ⟨y, hy, ey⟩ := hop
      have ey : (y.id : Int) = k := by simpa using ey
      have h1 := hf _ (on_all ho hx) k hk
      have h2 := hmin y hy
      omega
    · simp at hy
theorem wr_opn {V : Ps} (n : Int) : (wrV V n).opn = V.opn ∧ (wrV V n).last = V.last ∧ (wrV V n).ons.map (·.b) = V.ons.map (·.b) ∧ (wrV V n).C.D.vs.length = V.C.D.vs.length := by
  unfold wrV
  split
  · have hL := markF_like V n.toNat
    refine ⟨opn_mapX hL, rfl, ?_, len_wr _ _ _⟩
    show (mapX V (markF V n.toNat)).map (·.b) = _
    unfold mapX; rw [List.map_map]; rfl
  · exact ⟨rfl, rfl, rfl, rfl⟩
/-- The same changes, with other marks. -/
def Sim (V W : Ps) : Prop := W.last = V.last ∧ ∃ f, Like f ∧ W.ons = mapX V f
theorem Sim.refl (V : Ps) : Sim V V := by
  refine ⟨rfl, fun x => x, ⟨fun _ => rfl, fun _ => rfl, fun _ => rfl, fun _ => rfl, fun _ => rfl⟩, ?_⟩
  unfold mapX
  conv => lhs; rw [← List.map_id V.ons]
  apply List.map_congr_left
  intro o _
  show o = { o with l := o.l.map fun x => x }
  rw [List.map_id']
theorem Sim.wr {V W : Ps} (h : Sim V W) (n : Int) : Sim V (wrV W n) := by
  obtain ⟨h1, f, hf, h2⟩ := h
  unfold wrV
  split
  · have hL := markF_like W n.toNat
    refine ⟨h1, fun x => markF W n.toNat (f x), ⟨fun x => by rw [hL.id, hf.id], fun x => by rw [hL.b, hf.b], fun x => by rw [hL.frm, hf.frm], fun x => by rw [hL.data, hf.data], fun x => by rw [hL.after, hf.after]⟩, ?_⟩
    show mapX W (markF W n.toNat) = _
    unfold mapX
    rw [h2]
    unfold mapX
    rw [List.map_map]
    apply List.map_congr_left
    intro o _
    simp only [Function.comp]
    rw [List.map_map]; rfl
  · exact ⟨h1, f, hf, h2⟩
theorem Sim.bs {V W : Ps} (h : Sim V W) : W.ons.map (·.b) = V.ons.map (·.b) := by
  obtain ⟨_, f, _, h2⟩ := h
  rw [h2]; unfold mapX; rw [List.map_map]; rfl
theorem Sim.ids {V W : Ps} (h : Sim V W) : W.all.map (·.id) = V.all.map (·.id) := by
  obtain ⟨_, f, hf, h2⟩ := h
  have : W.all = V.all.map f := by
    have := all_mapX (V := V) (C := V.C) (f := f)
    unfold Ps.all at this ⊢
    rw [h2]; exact this
  rw [this, List.map_map]
  congr 1
  funext x
  exact hf.id x
theorem Sim.num {V W : Ps} (h : Sim V W) : openV W = openV V := by
  have := congrArg List.length h.ids
  simpa [openV] using this
/-- A change that was in an image. -/
def Mkd (V : Ps) (i : Nat) : Prop := ∃ x ∈ V.all, x.id = i ∧ x.out = true
theorem Mkd.wr {V : Ps} {i : Nat} (h : Mkd V i) (n : Int) : Mkd (wrV V n) i := by
  obtain ⟨x, hx, e1, e2⟩ := h
  unfold wrV
  split
  · refine ⟨markF V n.toNat x, ?_, by rw [(markF_like V n.toNat).id]; exact e1, ?_⟩
    · show _ ∈ Ps.all ⟨_, V.last, mapX V (markF V n.toNat)⟩
      rw [all_mapX]; exact List.mem_map.2 ⟨x, hx, rfl⟩
    · unfold markF
      split
      · show (x.out || _) = true; rw [e2]; rfl
      · exact e2
  · exact ⟨x, hx, e1, e2⟩
theorem wrVE_on {V : Ps} (hs : WFS V) {o : On} (ho : o ∈ V.ons) : wrVE V (o.b : Int) = 0 := by
  unfold wrVE
  rw [if_neg (by rw [(rd_at V.C.D (hs.onlt o ho)).1]; simp), onOf_mem hs ho]; rfl
/-- Its block is written: the least one is in the image. -/
theorem Mkd.least {V : Ps} (hs : WFS V) (hf : ∀ x ∈ V.all, ∀ k ∈ x.after, k < (x.id : Int)) (hsrt : Srt V) {o : On} {x : Ch} (ho : o ∈ V.ons) (hx : x ∈ o.l) (hmin : ∀ y ∈ V.all, x.id ≤ y.id) : Mkd (wrV V (o.b : Int)) x.id := by
  have hm := least_may hs hf hsrt ho hx hmin
  unfold wrV
  rw [if_pos (wrVE_on hs ho), Int.toNat_natCast]
  refine ⟨markF V o.b x, ?_, (markF_like V o.b).id x, ?_⟩
  · show _ ∈ Ps.all ⟨_, V.last, mapX V (markF V o.b)⟩
    rw [all_mapX]; exact List.mem_map.2 ⟨x, on_all ho hx, rfl⟩
  · unfold markF
    rw [if_pos (hs.chb o ho x hx)]
    show (x.out || (mayB V o.b).contains (x.id : Int)) = true
    have : mayB V o.b = mayL V.opn o.l := by unfold mayB; rw [onOf_mem hs ho]
    rw [this]
    have : (mayL V.opn o.l).contains (x.id : Int) = true := by simpa using hm
    rw [this, Bool.or_true]
theorem all_fl (V : Ps) : (flV V).all = V.all.filter fun x => !x.out := by
  unfold flV Ps.all
  show (V.ons.filterMap flOn).flatMap (·.l) = (V.ons.flatMap (·.l)).filter _
  generalize V.ons = l
  induction l with
  | nil => rfl
  | cons o r ih =>
    rw [List.flatMap_cons, List.filter_append, ← ih]
    unfold flOn
    by_cases h : (o.l.filter fun x => !x.out).isEmpty = true
    · rw [List.filterMap_cons_none (by rw [if_pos h]), List.isEmpty_iff.1 h]; rfl
    · rw [List.filterMap_cons_some (by rw [if_neg h]), List.flatMap_cons]
theorem Mkd.fewer {V : Ps} {i : Nat} (h : Mkd V i) : openV (flV V) < openV V := by
  unfold openV
  rw [all_fl, List.length_filter_lt_length_iff_exists]
  obtain ⟨x, hx, _, e⟩ := h
  exact ⟨x, hx, by rw [e]; simp⟩
theorem exists_least : ∀ {l : List Ch}, l ≠ [] → ∃ x ∈ l, ∀ y ∈ l, x.id ≤ y.id
  | [], h => absurd rfl h
  | [x], _ => ⟨x, by simp, by simp⟩
  | x :: y :: r, _ => by
    obtain ⟨z, hz, hmin⟩ := exists_least (l := y :: r) (by simp)
    by_cases h : x.id ≤ z.id
    · refine ⟨x, by simp, fun u hu => ?_⟩
      rcases List.mem_cons.1 hu with rfl | hu
      · exact Nat.le_refl _
      · exact Nat.le_trans h (hmin u hu)
    · refine ⟨z, List.mem_cons_of_mem x hz, fun u hu => ?_⟩
      rcases List.mem_cons.1 hu with rfl | hu
      · omega
      · exact hmin u hu
/-- A round so far: the first of the dirty blocks have been written. -/
structure Rd (V W : Ps) (ks : List Int) : Prop where
  sim : Sim V W
  srt : Srt W
  one : One1 W
  mkd : ∀ o ∈ V.ons, ∀ x ∈ o.l, (∀ y ∈ V.all, x.id ≤ y.id) → (o.b : Int) ∈ ks → Mkd W x.id
theorem Rd.start {V : Ps} (h : Srt V) (h1 : One1 V) : Rd V V [] := ⟨Sim.refl V, h, h1, fun _ _ _ _ _ h => by cases h⟩
theorem Rd.next {V W : Ps} {ks : List Int} {n : Int} (h : Rd V W ks) (hs : WFS W) (hf : ∀ x ∈ W.all, ∀ k ∈ x.after, k < (x.id : Int)) : Rd V (wrV W n) (ks ++ [n]) := by
  refine ⟨h.sim.wr n, h.srt.wr n, h.one.wr n, fun o ho x hx hmin hk => ?_⟩
  rcases List.mem_append.1 hk with hk | hk
  · exact (h.mkd o ho x hx hmin hk).wr n
  · have hn : n = (o.b : Int) := by simpa using (List.mem_singleton.1 hk).symm
    subst hn
    obtain ⟨_, f, hL, e⟩ := h.sim
    have ho' : { o with l := o.l.map f } ∈ W.ons := by rw [e]; exact List.mem_map.2 ⟨o, ho, rfl⟩
    have := Mkd.least hs hf h.srt (o := { o with l := o.l.map f }) (x := f x) ho' (List.mem_map.2 ⟨x, hx, rfl⟩) fun y hy => by
      have hm : y.id ∈ W.all.map (·.id) := List.mem_map.2 ⟨y, hy, rfl⟩
      rw [h.sim.ids] at hm
      obtain ⟨z, hz, ez⟩ := List.mem_map.1 hm
      have := hmin z hz
      rw [hL.id]; omega
    rw [hL.id] at this
    exact this
theorem Rd.fewer {V W : Ps} {ks : List Int} (h : Rd V W ks) (hall : ∀ o ∈ V.ons, (o.b : Int) ∈ ks) (h0 : 0 < openV V) : openV (flV W) < openV V := by
  have hne : V.all ≠ [] := fun e => by unfold openV at h0; rw [e] at h0; simp at h0
  obtain ⟨x, hx, hmin⟩ := exists_least hne
  obtain ⟨o, ho, hxo⟩ := mem_all.1 hx
  have := (h.mkd o ho x hxo hmin (hall o ho)).fewer
  rw [h.sim.num] at this
  exact this
end Go.Proofs.YtocjjigmpgekfaaGreat

/- Layer 11: rows of calls; the numbers ahead; the blocks that are dirty; what the disk has. -/
open Go Go.Den Go.Proofs
namespace Go.Proofs.YtocjjigmpgekfaaGreat
/-- A call: its kind, its block, where it begins, its bytes, what it waits for, and whether that is taken as it is. -/
structure A6 where
  k : Int
  n : Int
  f : Int
  xs : List UInt8
  af : List Int
  raw : Bool
def A6.fit (x : A6) (w : World) (cs : List Value) : Prop := ∃ (ad : Option Addr) (cd : Nat) (aa : Option Addr) (ca : Nat), cs = [.int .i64 x.k, .int .i64 x.n, .int .i64 x.f, .slice ad x.xs.length cd, .slice aa x.af.length ca, .bool x.raw] ∧
  Row w ad (u8L x.xs) ∧ (ad = none → x.xs.length = 0 ∧ cd = 0) ∧ x.xs.length ≤ 9223372036854775807 ∧ Row w aa (iL x.af) ∧ x.af.length ≤ 9223372036854775807
section
variable {w w' w0 : World} {R : Nat → Prop} {sp d : Nat} {V : Ps} {K : Value → World → Prop}
theorem sorted_perm {xs ys : List Int} (h : xs.Perm ys) : sorted xs = sorted ys := by
  have hs : ∀ zs : List Int, (sorted zs).Pairwise fun a b => a ≤ b := fun zs => by
    have := List.pairwise_mergeSort (le := fun x y : Int => decide (x ≤ y)) (fun a b c h1 h2 => by simp only [decide_eq_true_eq] at *; omega) (fun a b => by simp only [Bool.or_eq_true, decide_eq_true_eq]; omega) zs
    refine List.Pairwise.imp ?_ this
    intro a b h; simpa using h
  exact List.Perm.eq_of_pairwise (le := fun a b : Int => a ≤ b) (fun a b _ _ h1 h2 => by omega) (hs xs) (hs ys) (((List.mergeSort_perm _ _).trans h).trans (List.mergeSort_perm _ _).symm)
/-- What holds of a store, in plain terms. -/
theorem Pz.wf (h : Pz w0 R w sp d V) : WFS V ∧ (∀ x ∈ V.all, ∀ k ∈ x.after, k < (x.id : Int)) ∧ (∀ o ∈ V.ons, o.l ≠ []) ∧ V.C.D.left = -1 ∧ WF V.C.D := by
  obtain ⟨C, eD, eM, hP⟩ := h
  have hwf := hP.wf
  refine ⟨?_, hwf.1.afl, hwf.1.lne, ?_, ?_⟩
  · exact WFS.cache (P := ⟨C, V.last, V.ons⟩) (C := V.C) hwf.2.1 (by rw [eD]) eM.symm
  · rw [← eD]; exact hwf.1.run
  · rw [← eD]; exact hwf.2.2.2.1
theorem Pz.full (h : Pz w0 R w sp d V) : ∃ C, C.D = V.C.D ∧ WFP ⟨C, V.last, V.ons⟩ := by
  obtain ⟨C, eD, eM, hP⟩ := h
  exact ⟨C, eD, hP.wf.1⟩
end
end Go.Proofs.YtocjjigmpgekfaaGreat

/- The statement PatchGoes: all changes get safe. -/
open Go Go.Den Go.Proofs
namespace Go.Proofs.YtocjjigmpgekfaaGreat
section
variable {w w' w0 : World} {R : Nat → Prop} {sp d : Nat} {V : Ps} {K : Value → World → Prop}
theorem Row.lt {w : World} {a : Option Addr} {xs : List Value} {q : Addr} (h : Row w a xs) (hne : xs ≠ []) (hq : a = some q) : q.block < w.heap.size := by
  rcases h with h | ⟨b, o, e, hat⟩
  · exact absurd h hne
  · rw [hq] at e; cases e; exact hat.lt
theorem iL_ne {xs : List Int} (h : xs ≠ []) : iL xs ≠ [] := fun e => h (by
  have := congrArg List.length e
  simp at this; exact this)
theorem open_le {V : Ps} (h : WFS V) : openV V ≤ V.last := by
  have h1 := List.Nodup.length_le_of_subset h.ids (l₂ := (List.range V.last).map (· + 1)) fun k hk => by
    obtain ⟨x, hx, rfl⟩ := List.mem_map.1 hk
    have := h.idr x hx
    rw [List.mem_map]
    exact ⟨x.id - 1, List.mem_range.2 (by omega), by omega⟩
  simpa [openV] using h1
theorem Bnd_fl {D : St} (h : D.left = -1) {m : Nat} (hm : 1 ≤ m) : Bnd (flSt D) m := by
  intro v hv
  have e : flSt D = ⟨D.vs.map fun v => [lastV v], dec D.left⟩ := by unfold flSt; rw [if_neg (by omega)]
  rw [e] at hv
  obtain ⟨u, _, rfl⟩ := List.mem_map.1 hv
  exact hm
/-- What the first part of the law comes to. -/
structure GI (V : Ps) (i : Nat) : Prop where
  srt : Srt V
  one : One1 V
  bnd : Bnd V.C.D (i + 1)
  len : V.C.D.vs.length = 5
  last : V.last ≤ i
theorem GI.pat {i : Nat} (h : GI V i) (hs : WFS V) (n f : Int) (data : Bk) (after : List Int) : Srt (patS V n f data after) ∧ One1 (patS V n f data after) ∧ Bnd (patS V n f data after).C.D (i + 1) ∧ (patS V n f data after).C.D.vs.length = 5 ∧ (patS V n f data after).last ≤ i + 1 ∧
    (patE V n f data after = 0 → (patS V n f data after).last = V.last + 1) ∧ (patE V n f data after ≠ 0 → patS V n f data after = V) := by
  have e := (patS_C (V := V) (C := V.C) (n := n) (f := f) (data := data) (after := after) rfl).2.2
  have hl := h.last
  refine ⟨h.srt.pat hs n f data after, h.one.pat n f data after, by rw [e]; exact h.bnd, by rw [e]; exact h.len, ?_, ?_, ?_⟩
  · unfold patS
    split
    · show V.last + 1 ≤ i + 1; omega
    · omega
  · intro h0; unfold patS; rw [if_pos h0]; rfl
  · intro h0; unfold patS; rw [if_neg h0]
theorem WFS.bnd (h : WFS V) (hb : Bnd V.C.D 1000000) : True := trivial
end
end Go.Proofs.YtocjjigmpgekfaaGreat
end
section
/- The statement PatchOrder in plain terms: all that a change waits for is there. -/
open Go Go.Den Go.Proofs
namespace Go.Proofs.YtocjjigmpgekfaaGreat
/-- A change of one byte: its block, and those ahead. Its byte is where its place in the row says. -/
structure Mk where
  b : Nat
  after : List Nat
theorem withL_at : ∀ {L : List Ch} {b : Bk} (k : Nat), b.length = 256 → (∀ x ∈ L, x.data = [1] ∧ x.frm < 256) → ((withL b L)[k]? = some 1 ↔ (∃ x ∈ L, x.frm = k) ∨ b[k]? = some 1)
  | [], b, k, _, _ => by
    show b[k]? = some 1 ↔ _
    simp
  | c :: r, b, k, hb, hL => by
    obtain ⟨hd, hf⟩ := hL c (by simp)
    have hlen : c.frm + c.data.length ≤ b.length := by rw [hd, hb]; simp; omega
    have ih := withL_at (L := r) (b := overB b c.frm c.data) k (by rw [overB_len hlen, hb]) fun x hx => hL x (by simp [hx])
    show (withL (overB b c.frm c.data) r)[k]? = some 1 ↔ _
    rw [ih, overB_get hlen, hd]
    have e1 : ([1] : List UInt8).length = 1 := rfl
    rw [e1]
    by_cases hk : c.frm = k
    · subst hk
      rw [if_pos (by omega), Nat.sub_self]
      constructor
      · intro _; exact .inl ⟨c, by simp, rfl⟩
      · intro _; exact .inr rfl
    · rw [if_neg (by omega)]
      constructor
      · rintro (⟨x, hx, e⟩ | e)
        · exact .inl ⟨x, by simp [hx], e⟩
        · exact .inr e
      · rintro (⟨x, hx, e⟩ | e)
        · rcases List.mem_cons.1 hx with rfl | hx
          · exact absurd e hk
          · exact .inl ⟨x, hx, e⟩
        · exact .inr e
theorem opn_iff {V : Ps} {n : Int} : V.opn n = true ↔ ∃ x ∈ V.all, (x.id : Int) = n := by
  unfold Ps.opn
  rw [List.any_eq_true]
  constructor
  · rintro ⟨x, hx, e⟩; exact ⟨x, hx, by simpa using e⟩
  · rintro ⟨x, hx, e⟩; exact ⟨x, hx, by simpa using e⟩
theorem opn_not {V : Ps} {n : Int} : V.opn n = false ↔ ∀ x ∈ V.all, (x.id : Int) ≠ n := by
  rw [← Bool.not_eq_true, opn_iff]
  constructor
  · intro h x hx e; exact h ⟨x, hx, e⟩
  · rintro h ⟨x, hx, e⟩; exact h x hx e
theorem opn_fl {V : Ps} {n : Int} : (flV V).opn n = true ↔ ∃ x ∈ V.all, x.out = false ∧ (x.id : Int) = n := by
  rw [opn_iff, all_fl]
  constructor
  · rintro ⟨x, hx, e⟩
    obtain ⟨h1, h2⟩ := List.mem_filter.1 hx
    exact ⟨x, h1, by simpa using h2, e⟩
  · rintro ⟨x, hx, h1, e⟩
    exact ⟨x, List.mem_filter.2 ⟨hx, by simp [h1]⟩, e⟩
theorem opn_fl_of {V : Ps} {n : Int} (h : V.opn n = false) : (flV V).opn n = false := by
  rw [← Bool.not_eq_true, opn_fl]
  rintro ⟨x, hx, _, e⟩
  exact opn_not.1 h x hx e
/-- Of one version of a block. -/
def VerOk (ms : List Mk) (op : Int → Bool) (b : Nat) (v : Bk) : Prop :=
  (∀ (k : Nat) (m : Mk), ms[k]? = some m → m.b = b → (op ((k + 1 : Nat) : Int) = false → v[k]? = some 1) ∧
    (v[k]? = some 1 → ∀ j ∈ m.after, op ((j + 1 : Nat) : Int) = false ∨ ∃ m', ms[j]? = some m' ∧ m'.b = b ∧ v[j]? = some 1)) ∧
  ∀ k : Nat, ms.length ≤ k → v[k]? ≠ some 1
structure OrdI (ms : List Mk) (V : Ps) : Prop where
  last : V.last = ms.length
  len : V.C.D.vs.length = 5
  small : ms.length ≤ 60
  mk_ : ∀ (k : Nat) (m : Mk), ms[k]? = some m → m.b < 5 ∧ ∀ j ∈ m.after, j < k
  ch : ∀ x ∈ V.all, ∃ k m, x.id = k + 1 ∧ ms[k]? = some m ∧ x.b = m.b ∧ x.frm = k ∧ x.data = [1] ∧ ∀ j ∈ m.after, ((j + 1 : Nat) : Int) ∈ x.after ∨ V.opn ((j + 1 : Nat) : Int) = false
  safe : ∀ (k : Nat) (m : Mk), ms[k]? = some m → V.opn ((k + 1 : Nat) : Int) = false → ∀ j ∈ m.after, V.opn ((j + 1 : Nat) : Int) = false
  ver : ∀ b : Nat, b < 5 → ∀ v ∈ verOf V.C.D b, VerOk ms V.opn b v
  base : ∀ o ∈ V.ons, (∀ (k : Nat) (m : Mk), ms[k]? = some m → m.b = o.b → (o.base[k]? = some 1 ↔ V.opn ((k + 1 : Nat) : Int) = false)) ∧ ∀ k : Nat, ms.length ≤ k → o.base[k]? ≠ some 1
  out : ∀ o ∈ V.ons, ∀ x ∈ o.l, x.out = true → ∀ j ∈ x.after, V.opn j = true → ∃ y ∈ o.l, (y.id : Int) = j ∧ y.out = true
theorem OrdI.dat {ms : List Mk} {V : Ps} (h : OrdI ms V) {x : Ch} (hx : x ∈ V.all) : x.data = [1] ∧ x.frm < 256 := by
  obtain ⟨k, m, _, h2, _, h4, h5, _⟩ := h.ch x hx
  have := (List.getElem?_eq_some_iff.1 h2).1
  have := h.small
  exact ⟨h5, by omega⟩
/-- A block is written. -/
theorem OrdI.wr {ms : List Mk} {V : Ps} (h : OrdI ms V) (hs : WFS V) (hl : V.C.D.left = -1) (hD : WF V.C.D) (n : Int) : OrdI ms (wrV V n) := by
  by_cases hE : ¬ wrVE V n = 0
  · have : wrV V n = V := by unfold wrV; rw [if_neg hE]
    rw [this]; exact h
  have hE : wrVE V n = 0 := Classical.not_not.1 hE
  have he : errOf V.C.D n = 0 := by
    unfold wrVE at hE
    split at hE
    · omega
    · rename_i he; exact Classical.not_not.1 he
  obtain ⟨b, rfl, hb⟩ := err_range he
  have hoo : ∃ o, onOf V (b : Int) = some o := by
    unfold wrVE at hE
    rw [if_neg (by rw [he]; simp)] at hE
    cases ho : onOf V (b : Int) with
    | none => rw [ho] at hE; simp at hE
    | some o => exact ⟨o, rfl⟩
  obtain ⟨o, ho⟩ := hoo
  obtain ⟨hom, hob⟩ := onOf_some ho
  have hob : o.b = b := by omega
  have eV : wrV V b = ⟨{ V.C with D := wrSt V.C.D b (imgB V b) }, V.last, mapX V (markF V b)⟩ := by unfold wrV; rw [if_pos hE, Int.toNat_natCast]
  have hL := markF_like V b
  have hop : (wrV V b).opn = V.opn := (wr_opn (V := V) b).1
  have hil := img_len hs hD hb
  have hbase := hs.base o hom
  have hmb : mayB V b = mayL V.opn o.l := by unfold mayB; rw [ho]
  have himg : ∀ k, (imgB V b)[k]? = some 1 ↔ (∃ x ∈ o.l, (x.id : Int) ∈ mayL V.opn o.l ∧ x.frm = k) ∨ o.base[k]? = some 1 := fun k => by
    unfold imgB
    rw [ho]
    show (withL o.base _)[k]? = some 1 ↔ _
    rw [withL_at k hbase fun x hx => h.dat (on_all hom (List.mem_filter.1 hx).1)]
    constructor
    · rintro (⟨x, hx, e⟩ | e)
      · obtain ⟨h1, h2⟩ := List.mem_filter.1 hx
        exact .inl ⟨x, h1, by simpa using h2, e⟩
      · exact .inr e
    · rintro (⟨x, hx, h1, e⟩ | e)
      · exact .inl ⟨x, List.mem_filter.2 ⟨hx, by simpa using h1⟩, e⟩
      · exact .inr e
  have hall : (wrV V b).all = V.all.map (markF V b) := by rw [eV]; exact all_mapX
  exact {
    last := by rw [(wr_opn (V := V) b).2.1]; exact h.last
    len := by rw [(wr_opn (V := V) b).2.2.2]; exact h.len
    small := h.small
    mk_ := h.mk_
    ch := fun x hx => by
      rw [hall] at hx
      obtain ⟨y, hy, rfl⟩ := List.mem_map.1 hx
      rw [hL.id, hL.b, hL.frm, hL.data, hL.after, hop]
      exact h.ch y hy
    safe := by rw [hop]; exact h.safe
    ver := fun b' hb' v hv => by
      rw [hop]
      rw [eV] at hv
      have hv : v ∈ verOf (wrSt V.C.D b (imgB V b)) b' := hv
      rw [(wr_is hb hil hl).2] at hv
      have hb5 : b' < V.C.D.vs.length := by rw [h.len]; exact hb'
      rw [ver_at (D := ⟨_, _⟩) (by simpa using hb5)] at hv
      simp only at hv
      by_cases e : b = b'
      · subst e
        rw [List.getElem_set_self] at hv
        rcases List.mem_append.1 hv with hv | hv
        · exact h.ver b hb' v (by rw [ver_at hb5]; exact hv)
        · have : v = imgB V b := by simpa using hv
          subst this
          refine ⟨fun k m hm hmb' => ⟨fun hsafe => ?_, fun h1 j hj => ?_⟩, fun k hk h1 => ?_⟩
          · rw [himg]
            exact .inr (((h.base o hom).1 k m hm (by omega)).2 hsafe)
          · rcases (himg k).1 h1 with ⟨x, hx, hmay, hfk⟩ | hbk
            · obtain ⟨k', m', e1, e2, e3, e4, e5, e6⟩ := h.ch x (on_all hom hx)
              have : k' = k := by omega
              subst this
              have : m' = m := by rw [e2] at hm; exact Option.some.inj hm
              subst this
              rcases e6 j hj with hja | hja
              · cases hopj : V.opn ((j + 1 : Nat) : Int) with
                | false => exact .inl rfl
                | true =>
                  right
                  have hw := mayL_waits (ids_on hs hom) hx hmay _ hja hopj
                  obtain ⟨y, hy, ey⟩ := mayN_mem _ _ hw
                  have hyl : y ∈ o.l := List.mem_of_mem_take hy
                  obtain ⟨ky, my, f1, f2, f3, f4, _, _⟩ := h.ch y (on_all hom hyl)
                  have : ky = j := by omega
                  subst this
                  refine ⟨my, f2, ?_, ?_⟩
                  · rw [← f3, hs.chb o hom y hyl]; exact hob
                  · rw [himg]
                    exact .inl ⟨y, hyl, by rw [← ey]; exact hw, f4⟩
              · exact .inl hja
            · exact .inl (h.safe k m hm (((h.base o hom).1 k m hm (by omega)).1 hbk) j hj)
          · rcases (himg k).1 h1 with ⟨x, hx, _, hfk⟩ | hbk
            · obtain ⟨k', m', e1, e2, e3, e4, _⟩ := h.ch x (on_all hom hx)
              have := (List.getElem?_eq_some_iff.1 e2).1
              omega
            · exact (h.base o hom).2 k hk hbk
      · rw [List.getElem_set_ne e] at hv
        exact h.ver b' hb' v (by rw [ver_at hb5]; exact hv)
    base := fun p hp => by
      rw [eV] at hp
      obtain ⟨q, hq, rfl⟩ := List.mem_map.1 hp
      rw [hop]
      exact h.base q hq
    out := fun p hp x hx hxo j hj hopj => by
      rw [hop] at hopj
      rw [eV] at hp
      obtain ⟨q, hq, rfl⟩ := List.mem_map.1 hp
      obtain ⟨y, hy, rfl⟩ := List.mem_map.1 hx
      rw [hL.after] at hj
      by_cases e : q.b = b
      · have : q = o := on_uniq hs hq hom (by omega)
        subst this
        have hmk : ∀ z ∈ q.l, (markF V b z).out = (z.out || (mayL V.opn q.l).contains (z.id : Int)) := fun z hz => by
          unfold markF; rw [if_pos (by rw [hs.chb q hq z hz]; exact e), hmb]
        rw [hmk y hy] at hxo
        by_cases hyo : y.out = true
        · obtain ⟨z, hz, e1, e2⟩ := h.out q hq y hy hyo j hj hopj
          exact ⟨markF V b z, List.mem_map.2 ⟨z, hz, rfl⟩, by rw [hL.id]; exact e1, by rw [hmk z hz, e2]; rfl⟩
        · have hym : (y.id : Int) ∈ mayL V.opn q.l := by
            have : y.out = false := by simpa using hyo
            rw [this, Bool.false_or] at hxo
            simpa using hxo
          have hw := mayL_waits (ids_on hs hq) hy hym j hj hopj
          obtain ⟨z, hz, ez⟩ := mayN_mem _ _ hw
          have hzl : z ∈ q.l := List.mem_of_mem_take hz
          refine ⟨markF V b z, List.mem_map.2 ⟨z, hzl, rfl⟩, by rw [hL.id]; exact ez.symm, ?_⟩
          rw [hmk z hzl]
          have : (mayL V.opn q.l).contains (z.id : Int) = true := by rw [← ez]; simpa using hw
          rw [this, Bool.or_true]
      · have hno : ∀ z ∈ q.l, markF V b z = z := fun z hz => by unfold markF; rw [if_neg (by rw [hs.chb q hq z hz]; exact e)]
        rw [hno y hy] at hxo
        obtain ⟨z, hz, e1, e2⟩ := h.out q hq y hy hxo j hj hopj
        exact ⟨markF V b z, List.mem_map.2 ⟨z, hz, rfl⟩, by rw [hL.id]; exact e1, by rw [hno z hz]; exact e2⟩ }
/-- All is flushed. -/
theorem OrdI.fl {ms : List Mk} {V : Ps} (h : OrdI ms V) (hs : WFS V) (hl : V.C.D.left = -1) (hD : WF V.C.D) (hacc : ∀ o ∈ V.ons, atD V.C.D o.b = withL o.base (o.l.filter (·.out))) : OrdI ms (flV V) := by
  -- a change that gets safe
  have hnew : ∀ (k : Nat) (m : Mk), ms[k]? = some m → (flV V).opn ((k + 1 : Nat) : Int) = false → V.opn ((k + 1 : Nat) : Int) = false ∨ ∃ o ∈ V.ons, ∃ x ∈ o.l, x.id = k + 1 ∧ x.out = true ∧ x.frm = k ∧ o.b = m.b ∧ x.b = m.b := fun k m hm hf => by
    cases hop : V.opn ((k + 1 : Nat) : Int) with
    | false => exact .inl rfl
    | true =>
      right
      obtain ⟨x, hx, e⟩ := opn_iff.1 hop
      obtain ⟨o, ho, hxo⟩ := mem_all.1 hx
      obtain ⟨k', m', e1, e2, e3, e4, _⟩ := h.ch x hx
      have : k' = k := by omega
      subst this
      have : m' = m := by rw [e2] at hm; exact Option.some.inj hm
      subst this
      refine ⟨o, ho, x, hxo, e1, ?_, e4, by rw [← hs.chb o ho x hxo]; exact e3, e3⟩
      cases hout : x.out with
      | true => rfl
      | false =>
        have : (flV V).opn ((k' + 1 : Nat) : Int) = true := opn_fl.2 ⟨x, hx, hout, e⟩
        rw [this] at hf; cases hf
  have hgone : ∀ x ∈ V.all, x.out = true → (flV V).opn (x.id : Int) = false := fun x hx hout => by
    rw [← Bool.not_eq_true, opn_fl]
    rintro ⟨y, hy, h1, e⟩
    have := map_inj hs.ids hy hx (by omega)
    subst this
    rw [hout] at h1; cases h1
  have hwl : ∀ o ∈ V.ons, ∀ k, (withL o.base (o.l.filter (·.out)))[k]? = some 1 ↔ (∃ x ∈ o.l, x.out = true ∧ x.frm = k) ∨ o.base[k]? = some 1 := fun o ho k => by
    rw [withL_at k (hs.base o ho) fun x hx => h.dat (on_all ho (List.mem_filter.1 hx).1)]
    constructor
    · rintro (⟨x, hx, e⟩ | e)
      · obtain ⟨h1, h2⟩ := List.mem_filter.1 hx
        exact .inl ⟨x, h1, h2, e⟩
      · exact .inr e
    · rintro (⟨x, hx, h1, e⟩ | e)
      · exact .inl ⟨x, List.mem_filter.2 ⟨hx, h1⟩, e⟩
      · exact .inr e
  have hon : ∀ p ∈ (flV V).ons, ∃ o ∈ V.ons, p.b = o.b ∧ p.base = withL o.base (o.l.filter (·.out)) ∧ p.l = o.l.filter fun x => !x.out := fun p hp => by
    obtain ⟨o, ho, e⟩ := List.mem_filterMap.1 hp
    unfold flOn at e
    split at e
    · cases e
    · have := Option.some.inj e
      subst this
      exact ⟨o, ho, rfl, rfl, rfl⟩
  exact {
    last := h.last
    len := by show (flSt V.C.D).vs.length = 5; rw [fl_len]; exact h.len
    small := h.small
    mk_ := h.mk_
    ch := fun x hx => by
      rw [all_fl] at hx
      obtain ⟨k, m, e1, e2, e3, e4, e5, e6⟩ := h.ch x (List.mem_filter.1 hx).1
      refine ⟨k, m, e1, e2, e3, e4, e5, fun j hj => ?_⟩
      rcases e6 j hj with h1 | h1
      · exact .inl h1
      · exact .inr (opn_fl_of h1)
    safe := fun k m hm hf j hj => by
      rcases hnew k m hm hf with hold | ⟨o, ho, x, hx, e1, e2, e3, _, _⟩
      · exact opn_fl_of (h.safe k m hm hold j hj)
      · obtain ⟨k', m', f1, f2, _, _, _, f6⟩ := h.ch x (on_all ho hx)
        have : k' = k := by omega
        subst this
        have : m' = m := by rw [f2] at hm; exact Option.some.inj hm
        subst this
        rcases f6 j hj with h1 | h1
        · cases hop : V.opn ((j + 1 : Nat) : Int) with
          | false => exact opn_fl_of hop
          | true =>
            obtain ⟨y, hy, g1, g2⟩ := h.out o ho x hx e2 _ h1 hop
            rw [← g1]; exact hgone y (on_all ho hy) g2
        · exact opn_fl_of h1
    ver := fun b hb v hv => by
      have hb5 : b < V.C.D.vs.length := by rw [h.len]; exact hb
      have e : flSt V.C.D = ⟨V.C.D.vs.map fun v => [lastV v], dec V.C.D.left⟩ := by unfold flSt; rw [if_neg (by omega)]
      have hv : v ∈ verOf (flSt V.C.D) b := hv
      rw [e, ver_at (D := ⟨_, _⟩) (by simpa using hb5)] at hv
      simp only [List.getElem_map] at hv
      have hv : v = lastV V.C.D.vs[b] := by simpa using hv
      have hat : v = atD V.C.D b := by unfold atD; rw [ver_at hb5]; exact hv
      have hmem : v ∈ verOf V.C.D b := by
        rw [ver_at hb5, hv]
        have hne := (hD.ver _ (List.getElem_mem hb5)).1
        unfold lastV
        rw [List.getLastD_eq_getLast?, List.getLast?_eq_some_getLast hne]
        exact List.getLast_mem hne
      obtain ⟨h1, h2⟩ := h.ver b hb v hmem
      refine ⟨fun k m hm hmb => ⟨fun hf => ?_, fun hk j hj => ?_⟩, h2⟩
      · rcases hnew k m hm hf with hold | ⟨o, ho, x, hx, e1, e2, e3, e4, _⟩
        · exact (h1 k m hm hmb).1 hold
        · rw [hat, show b = o.b by omega, hacc o ho, hwl o ho]
          exact .inl ⟨x, hx, e2, e3⟩
      · rcases (h1 k m hm hmb).2 hk j hj with h3 | h3
        · exact .inl (opn_fl_of h3)
        · exact .inr h3
    base := fun p hp => by
      obtain ⟨o, ho, e1, e2, e3⟩ := hon p hp
      rw [e1, e2]
      obtain ⟨b1, b2⟩ := h.base o ho
      refine ⟨fun k m hm hmb => ?_, fun k hk hk1 => ?_⟩
      · rw [hwl o ho]
        constructor
        · rintro (⟨x, hx, h1, h2⟩ | hb)
          · obtain ⟨k', m', f1, _, _, f4, _⟩ := h.ch x (on_all ho hx)
            have := hgone x (on_all ho hx) h1
            rw [show k + 1 = x.id by omega]; exact this
          · exact opn_fl_of ((b1 k m hm hmb).1 hb)
        · intro hf
          rcases hnew k m hm hf with hold | ⟨o', ho', x, hx, f1, f2, f3, f4, _⟩
          · exact .inr ((b1 k m hm hmb).2 hold)
          · have : o' = o := on_uniq hs ho' ho (by omega)
            subst this
            exact .inl ⟨x, hx, f2, f3⟩
      · rcases (hwl o ho k).1 hk1 with ⟨x, hx, _, h2⟩ | hb
        · obtain ⟨k', m', f1, f2, _, f4, _⟩ := h.ch x (on_all ho hx)
          have := (List.getElem?_eq_some_iff.1 f2).1
          omega
        · exact b2 k hk hb
    out := fun p hp x hx hxo => by
      obtain ⟨o, ho, e1, e2, e3⟩ := hon p hp
      rw [e3] at hx
      have := (List.mem_filter.1 hx).2
      rw [hxo] at this
      cases this }
/-- A change is made. -/
theorem OrdI.add {ms : List Mk} {V : Ps} {b : Nat} {ahead : List Nat} (h : OrdI ms V) (hs : WFS V) (hD : WF V.C.D) (hafl : ∀ x ∈ V.all, ∀ k ∈ x.after, k < (x.id : Int)) (hb : b < 5) (hah : ∀ j ∈ ahead, j < ms.length) (hsm : ms.length < 60) :
    OrdI (ms ++ [⟨b, ahead⟩]) (addX V (newX V b ms.length [1] (ahead.map fun j => ((j + 1 : Nat) : Int)))) := by
  have hb5 : b < V.C.D.vs.length := by rw [h.len]; exact hb
  have hcl := cont_len hs hD hb5
  have hsN := hs.newO hb5 hcl
  obtain ⟨o, ho, hob⟩ := newO_on (V := V) (b := b)
  have hxid : (newX V b ms.length [1] (ahead.map fun j => ((j + 1 : Nat) : Int))).id = ms.length + 1 := by show V.last + 1 = _; rw [h.last]
  generalize hx : newX V b ms.length [1] (ahead.map fun j => ((j + 1 : Nat) : Int)) = x at *
  have xb : x.b = b := by rw [← hx]; rfl
  have xf : x.frm = ms.length := by rw [← hx]; rfl
  have xd : x.data = [1] := by rw [← hx]; rfl
  have xa : x.after = (ahead.map fun j => ((j + 1 : Nat) : Int)).filter V.opn := by rw [← hx]; rfl
  have xo : x.out = false := by rw [← hx]; rfl
  have eA : addX V x = appO (newO V b) x := by unfold addX; rw [xb]
  obtain ⟨s, t, h1, h2, h3, hp⟩ := appO_all hsN ho (x := x) (by rw [xb]; exact hob)
  have hall : ∀ y, y ∈ (addX V x).all ↔ y = x ∨ y ∈ V.all := fun y => by
    rw [eA, hp.mem_iff, List.mem_cons, all_newO]
  have hop : ∀ n, (addX V x).opn n = (decide ((x.id : Int) = n) || V.opn n) := fun n => by
    have := opn_app hsN ho (x := x) (by rw [xb]; exact hob) n
    rw [opn_newO] at this
    rw [eA]; exact this
  have hopo : ∀ j, j < ms.length → (addX V x).opn ((j + 1 : Nat) : Int) = V.opn ((j + 1 : Nat) : Int) := fun j hj => by
    rw [hop, decide_eq_false (by omega), Bool.false_or]
  have hopx : (addX V x).opn ((ms.length + 1 : Nat) : Int) = true := by rw [hop, decide_eq_true (by omega), Bool.true_or]
  have hget : ∀ k, k < ms.length → (ms ++ [(⟨b, ahead⟩ : Mk)])[k]? = ms[k]? := fun k hk => List.getElem?_append_left hk
  have hcase : ∀ (k : Nat) (m : Mk), (ms ++ [(⟨b, ahead⟩ : Mk)])[k]? = some m → (k < ms.length ∧ ms[k]? = some m) ∨ (k = ms.length ∧ m = ⟨b, ahead⟩) := fun k m hm => by
    have hk := (List.getElem?_eq_some_iff.1 hm).1
    simp at hk
    by_cases e : k < ms.length
    · rw [hget k e] at hm; exact .inl ⟨e, hm⟩
    · have : k = ms.length := by omega
      subst this
      rw [List.getElem?_append_right (Nat.le_refl _), Nat.sub_self] at hm
      exact .inr ⟨rfl, by simpa using hm.symm⟩
  have hgo : ∀ (j : Nat) (m' : Mk), ms[j]? = some m' → (ms ++ [(⟨b, ahead⟩ : Mk)])[j]? = some m' := fun j m' hj => by
    rw [hget j (List.getElem?_eq_some_iff.1 hj).1]; exact hj
  have hC : (addX V x).C = V.C := by rw [eA]; exact (newO_C (V := V)).1
  have hmemv : ∀ v, v = atD V.C.D b → v ∈ verOf V.C.D b := fun v hv => by
    rw [hv]
    unfold atD
    rw [ver_at hb5]
    have hne := (hD.ver _ (List.getElem_mem hb5)).1
    unfold lastV
    rw [List.getLastD_eq_getLast?, List.getLast?_eq_some_getLast hne]
    exact List.getLast_mem hne
  -- the bytes of a block without its changes
  have hbase : ∀ p ∈ (newO V b).ons, (∀ (k : Nat) (m : Mk), ms[k]? = some m → m.b = p.b → (p.base[k]? = some 1 ↔ V.opn ((k + 1 : Nat) : Int) = false)) ∧ ∀ k : Nat, ms.length ≤ k → p.base[k]? ≠ some 1 := fun p hp => by
    unfold newO at hp
    split at hp
    · exact h.base p hp
    · rename_i hno
      rcases List.mem_append.1 hp with hp | hp
      · exact h.base p hp
      · have hp : p = ⟨b, contV V b, []⟩ := by simpa using hp
        subst hp
        have hcv : contV V b = atD V.C.D b := by unfold contV; rw [hno]
        have hvo := h.ver b hb _ (hmemv _ rfl)
        rw [← hcv] at hvo
        refine ⟨fun k m hm hmb => ?_, hvo.2⟩
        have hmb : m.b = b := hmb
        have hsafe : V.opn ((k + 1 : Nat) : Int) = false := by
          rw [opn_not]
          intro y hy e
          obtain ⟨k', m', f1, f2, f3, _⟩ := h.ch y hy
          have : k' = k := by omega
          subst this
          have : m' = m := by rw [f2] at hm; exact Option.some.inj hm
          subst this
          obtain ⟨q, hq, hyq⟩ := mem_all.1 hy
          exact onOf_none hno q hq (by rw [← hs.chb q hq y hyq, f3, hmb])
        exact ⟨fun _ => hsafe, fun _ => (hvo.1 k m hm hmb).1 hsafe⟩
  have honp : ∀ p ∈ (addX V x).ons, ∃ q ∈ (newO V b).ons, p.b = q.b ∧ p.base = q.base ∧ ∀ y, y ∈ p.l → y ∈ q.l ∨ y = x := fun p hp' => by
    rw [eA] at hp'
    obtain ⟨q, hq, rfl⟩ := List.mem_map.1 hp'
    refine ⟨q, hq, ?_, ?_, ?_⟩
    · split <;> rfl
    · split <;> rfl
    · intro y hy
      split at hy
      · rcases List.mem_append.1 hy with hy | hy
        · exact .inl hy
        · exact .inr (by simpa using hy)
      · exact .inl hy
  exact {
    last := by rw [eA]; show x.id = _; rw [hxid]; simp
    len := by rw [hC]; exact h.len
    small := by simp; omega
    mk_ := fun k m hm => by
      rcases hcase k m hm with ⟨hk, hm⟩ | ⟨rfl, rfl⟩
      · exact h.mk_ k m hm
      · exact ⟨hb, hah⟩
    ch := fun y hy => by
      rcases (hall y).1 hy with rfl | hy
      · refine ⟨ms.length, ⟨b, ahead⟩, hxid, by rw [List.getElem?_append_right (Nat.le_refl _), Nat.sub_self]; rfl, xb, xf, xd, fun j hj => ?_⟩
        have hjl := hah j hj
        rw [hopo j hjl]
        cases hopj : V.opn ((j + 1 : Nat) : Int) with
        | false => exact .inr rfl
        | true => left; rw [xa]; exact List.mem_filter.2 ⟨List.mem_map.2 ⟨j, hj, rfl⟩, hopj⟩
      · obtain ⟨k, m, e1, e2, e3, e4, e5, e6⟩ := h.ch y hy
        refine ⟨k, m, e1, hgo k m e2, e3, e4, e5, fun j hj => ?_⟩
        have hjk := (h.mk_ k m e2).2 j hj
        have hkl := (List.getElem?_eq_some_iff.1 e2).1
        rw [hopo j (by omega)]
        exact e6 j hj
    safe := fun k m hm hf j hj => by
      rcases hcase k m hm with ⟨hk, hm⟩ | ⟨rfl, rfl⟩
      · have hjk := (h.mk_ k m hm).2 j hj
        rw [hopo k hk] at hf
        rw [hopo j (by omega)]
        exact h.safe k m hm hf j hj
      · rw [hopx] at hf; cases hf
    ver := fun b' hb' v hv => by
      rw [hC] at hv
      obtain ⟨v1, v2⟩ := h.ver b' hb' v hv
      refine ⟨fun k m hm hmb => ?_, fun k hk => v2 k (by simp at hk; omega)⟩
      rcases hcase k m hm with ⟨hk, hm⟩ | ⟨rfl, rfl⟩
      · obtain ⟨w1, w2⟩ := v1 k m hm hmb
        refine ⟨fun hf => w1 (by rw [← hopo k hk]; exact hf), fun h1 j hj => ?_⟩
        have hjk := (h.mk_ k m hm).2 j hj
        rcases w2 h1 j hj with h3 | ⟨m', h3, h4, h5⟩
        · left; rw [hopo j (by omega)]; exact h3
        · exact .inr ⟨m', hgo j m' h3, h4, h5⟩
      · refine ⟨fun hf => ?_, fun h1 => absurd h1 (v2 _ (Nat.le_refl _))⟩
        rw [hopx] at hf; cases hf
    base := fun p hp => by
      obtain ⟨q, hq, e1, e2, _⟩ := honp p hp
      obtain ⟨b1, b2⟩ := hbase q hq
      rw [e1, e2]
      refine ⟨fun k m hm hmb => ?_, fun k hk => b2 k (by simp at hk; omega)⟩
      rcases hcase k m hm with ⟨hk, hm⟩ | ⟨rfl, rfl⟩
      · rw [hopo k hk]; exact b1 k m hm hmb
      · constructor
        · intro h1; exact absurd h1 (b2 _ (Nat.le_refl _))
        · intro hf; rw [hopx] at hf; cases hf
    out := fun p hp' y hy hyo j hj hopj => by
      rw [eA] at hp'
      obtain ⟨q, hq, rfl⟩ := List.mem_map.1 hp'
      have hyq : y ∈ q.l := by
        split at hy
        · rcases List.mem_append.1 hy with hy | hy
          · exact hy
          · have : y = x := by simpa using hy
            rw [this, xo] at hyo; cases hyo
        · exact hy
      have hqV : q ∈ V.ons := by
        unfold newO at hq
        split at hq
        · exact hq
        · rcases List.mem_append.1 hq with hq | hq
          · exact hq
          · have : q = ⟨b, contV V b, []⟩ := by simpa using hq
            rw [this] at hyq; cases hyq
      have hya := on_all hqV hyq
      have h4 := hafl y hya j hj
      have h5 := hs.idr y hya
      have hold : V.opn j = true := by
        rw [hop, decide_eq_false (by have := h.last; omega), Bool.false_or] at hopj; exact hopj
      obtain ⟨z, hz, e1, e2⟩ := h.out q hqV y hyq hyo j hj hold
      refine ⟨z, ?_, e1, e2⟩
      split
      · exact List.mem_append.2 (.inl hz)
      · exact hz }
/-- Wherever the power goes. -/
theorem OrdI.end {ms : List Mk} {V : Ps} (h : OrdI ms V) {f : Nat → Bk} (hf : ∀ b : Nat, b < 5 → f b ∈ verOf V.C.D b) {k : Nat} {m : Mk} (hm : ms[k]? = some m) :
    (V.opn ((k + 1 : Nat) : Int) = false → (f m.b)[k]? = some 1) ∧ ((f m.b)[k]? = some 1 → ∀ j ∈ m.after, ∃ m', ms[j]? = some m' ∧ (f m'.b)[j]? = some 1) := by
  obtain ⟨hmb, hma⟩ := h.mk_ k m hm
  obtain ⟨v1, _⟩ := h.ver m.b hmb _ (hf _ hmb)
  obtain ⟨w1, w2⟩ := v1 k m hm rfl
  refine ⟨w1, fun h1 j hj => ?_⟩
  rcases w2 h1 j hj with h3 | ⟨m', h3, h4, h5⟩
  · have hjk := hma j hj
    have hkl := (List.getElem?_eq_some_iff.1 hm).1
    have hmj : ms[j]? = some ms[j] := List.getElem?_eq_getElem (by omega)
    have hbj := (h.mk_ j _ hmj).1
    exact ⟨ms[j], hmj, ((h.ver _ hbj _ (hf _ hbj)).1 j _ hmj rfl).1 h3⟩
  · exact ⟨m', h3, by rw [h4]; exact h5⟩
end Go.Proofs.YtocjjigmpgekfaaGreat
end
section
/- A row of one's own that grows, of any elements. -/
open Go Go.Den Go.Proofs
namespace Go.Den
section
variable {P : Program} {w : World}
/-- What an element's type lays: its size, its bytes. -/
def elemG (P : Program) (T : TypeId) (k bytes : Nat) : Prop := ∃ e i zv, P.underlying T = some (.slice e) ∧ P.info? e = some i ∧ i.size = k ∧ i.zero = some zv ∧ zv.cells.size = k ∧ i.bytes = bytes
def elemGb (P : Program) (T : TypeId) : Option (Nat × Nat × Nat) :=
  match P.underlying T with
  | some (.slice e) => match P.info? e with
    | some i => match i.zero with
      | some z => some (i.size, z.cells.size, i.bytes)
      | none => none
    | none => none
  | _ => none
theorem elemG_of {T : TypeId} {k bytes : Nat} (h : elemGb P T = some (k, k, bytes)) : elemG P T k bytes := by
  unfold elemGb at h
  split at h
  · rename_i e he
    split at h
    · rename_i i hi
      split at h
      · rename_i zv hz
        have h := Option.some.inj h
        simp only [Prod.mk.injEq] at h
        exact ⟨e, i, zv, he, hi, h.1, hz, h.2.1, h.2.2⟩
      · cases h
    · cases h
  · cases h
theorem Own.nilG {base k bytes : Nat} {T : TypeId} (hT : elemG P T k bytes) : Own P w base T k none 0 0 [] := by
  obtain ⟨e, i, zv, he, _⟩ := hT
  exact ⟨e, he, World.ownsRow_nil w base e k⟩
/-- append of some new values: the row is where it was, or new. -/
theorem Own.appG {base k bytes l c m c2 : Nat} {T ty : TypeId} {a : Option Addr} {ad : Addr} {xs ys : List Value} (hT : elemG P T k bytes) (hk : 0 < k) (h : Own P w base T k a l c xs)
    (hr : Row w (some ad) ys) (hl : ys.length = m * k) (hm : 0 < m) (h1 : ∀ v ∈ ys, v.oneCell' = true) (h63 : (l + m) * bytes ≤ 140737488355328) (hb : 0 < bytes) (hbase : base ≤ w.heap.size) :
    ∃ q c' w', (Builtin.append_ #[T, T] ty #[.slice a l c, .slice (some ad) m c2]).run P w = .ok (.slice (some q) (l + m) c') w' ∧ Own P w' base T k (some q) (l + m) c' (xs ++ ys) ∧ Mod (fun x => ∃ q, a = some q ∧ x = q.block) w w' ∧
      ((∃ q', a = some q' ∧ q.block = q'.block) ∨ w.heap.size ≤ q.block) := by
  obtain ⟨e, i, zv, he, hi, hsz, hz, hzc, hby⟩ := hT
  obtain ⟨e', he', how⟩ := h
  have : e' = e := by rw [he] at he'; simpa using he'.symm
  subst this
  have hlm : l + m ≤ (l + m) * bytes := Nat.le_mul_of_pos_right _ hb
  have hmb : m * bytes ≤ (l + m) * bytes := Nat.mul_le_mul_right _ (by omega)
  have hcell : ∀ j u, ys[j]? = some u → w.cell? (ad.add j) = some u := by
    intro j u hj
    rcases hr with hr | ⟨b, o, e, hat⟩
    · subst hr; simp at hj
    · simp at e; subst e; exact hat.cell hj
  obtain ⟨v', w', hrun, how', hgr, _⟩ := run_append_own w base T ty e' i zv k bytes he hi hz hsz hby hzc hk (.slice a l c) l xs how ad m c2 ys hl hcell h1 (by simp [maxLen]; omega) h63 hbase
  have hmod : Mod (fun x => ∃ q, a = some q ∧ x = q.block) w w' := (Mod.grown hgr).mono fun x hx e => by
    cases a with
    | none => cases e
    | some q => exact ⟨q, rfl, by simpa [Value.ownBlock] using e.symm⟩
  rcases how.2 with ⟨hv, hx⟩ | ⟨g, cap, cur, hv, hbg, hg, hnc, hcm, hcs, htake⟩
  · simp at hv
    obtain ⟨rfl, rfl, rfl⟩ := hv
    have hr2 := run_append_nil (P := P) w T ty e' i zv he hi hz ad m c2 ys (by rw [hsz]; exact hl) hcell hm (by omega) (by rw [hby]; omega)
    have hrun' := hrun
    rw [hr2] at hrun'
    simp only [Result.ok.injEq] at hrun'
    obtain ⟨rfl, _⟩ := hrun'
    rw [Nat.zero_add] at how' ⊢
    exact ⟨_, _, w', hrun, ⟨e', he, how'⟩, hmod, .inr (Nat.le_refl _)⟩
  · simp at hv
    obtain ⟨rfl, rfl⟩ := hv
    by_cases hroom : l + m ≤ c
    · have hr2 := run_append_room (P := P) w T ty e' i he hi g l c cur hg ad m c2 ys (by rw [hsz]; exact hl) hcell h1 hroom (by rw [hsz, hl, hcs, ← Nat.add_mul]; exact Nat.mul_le_mul_right _ hroom)
      have hrun' := hrun
      rw [hr2] at hrun'
      simp only [Result.ok.injEq] at hrun'
      obtain ⟨rfl, _⟩ := hrun'
      exact ⟨_, _, w', hrun, ⟨e', he, how'⟩, hmod, .inl ⟨_, rfl, rfl⟩⟩
    · have holds : ∀ j u, xs[j]? = some u → w.cell? ((⟨g, 0, none⟩ : Addr).add j) = some u := how.cells (g := g) rfl
      have hr2 := run_append_grow (P := P) w T ty e' i zv he hi hz ⟨g, 0, none⟩ l c xs (by rw [hsz]; exact how.1) holds ad m c2 ys (by rw [hsz]; exact hl) hcell (by omega) (by omega) (growslice_fits (by omega) (by rw [hby]; exact h63))
      have hrun' := hrun
      rw [hr2] at hrun'
      simp only [Result.ok.injEq] at hrun'
      obtain ⟨rfl, _⟩ := hrun'
      exact ⟨_, _, w', hrun, ⟨e', he, how'⟩, hmod, .inr (Nat.le_refl _)⟩
end
end Go.Den
end
section
/- The statement DiskSafe: behind a crash. -/
open Go Go.Den Go.Proofs
namespace Go.Den
/-- Rows of bytes in a row. -/
def Rows2 (w : World) (a : Option Addr) (xss : List (List UInt8)) : Prop :=
  xss = [] ∨ ∃ (b o : Nat) (H : List Value), a = some ⟨b, o, none⟩ ∧ At w b o H ∧ H.length = xss.length ∧ ∀ (r : Nat) (x : List UInt8), xss[r]? = some x → ∃ (ar : Option Addr) (cr : Nat), H[r]? = some (Value.slice ar x.length cr) ∧ Row w ar (u8L x) ∧ x.length ≤ 9223372036854775807
theorem Rows2.nos {w w' : World} {a : Option Addr} {xss : List (List UInt8)} (h : Rows2 w a xss) (m : Mod No w w') : Rows2 w' a xss := by
  rcases h with h | ⟨b, o, H, h1, h2, h3, h4⟩
  · exact .inl h
  · refine .inr ⟨b, o, H, h1, h2.keep m id, h3, fun r x hx => ?_⟩
    obtain ⟨ar, cr, e1, e2, e3⟩ := h4 r x hx
    exact ⟨ar, cr, e1, e2.nos m, e3⟩
end Go.Den
namespace Go.Proofs.YtocjjigmpgekfaaGreat
section
variable {w : World} {D : St}
end
end Go.Proofs.YtocjjigmpgekfaaGreat
end
section
/- The statement PatchOrder: the law's text. -/
open Go Go.Den Go.Proofs
namespace Go.Proofs.YtocjjigmpgekfaaGreat
def bL (bs : List Bool) : List Value := bs.map .bool
@[simp] theorem length_bL (bs : List Bool) : (bL bs).length = bs.length := by simp [bL]
def nI' (js : List Nat) : List Int := js.map fun j : Nat => (j : Int)
section
variable {w w' w0 : World} {R R' : Nat → Prop} {sp d base lc : Nat} {la : Option Addr} {ms : List Mk} {V : Ps} {K : Value → World → Prop}
theorem flat_get {H : List (List Value)} (hH : ∀ c ∈ H, c.length = 3) : ∀ {k j : Nat} {c : List Value} {v : Value}, H[k]? = some c → c[j]? = some v → H.flatten[k * 3 + j]? = some v := by
  induction H with
  | nil => intro k j c v h; simp at h
  | cons u r ih =>
    intro k j c v h hv
    have hu := hH u (by simp)
    rw [List.flatten_cons]
    cases k with
    | zero =>
      simp at h; subst h
      rw [Nat.zero_mul, Nat.zero_add, List.getElem?_append_left (by have := (List.getElem?_eq_some_iff.1 hv).1; omega)]; exact hv
    | succ k =>
      rw [List.getElem?_append_right (by omega)]
      have e : (k + 1) * 3 + j - u.length = k * 3 + j := by omega
      rw [e]; exact ih (fun c hc => hH c (by simp [hc])) (by simpa using h) hv
end
end Go.Proofs.YtocjjigmpgekfaaGreat
end
section
/- The statement PatchOrder: the law's text, walked. -/
open Go Go.Den Go.Proofs
namespace Go.Proofs.YtocjjigmpgekfaaGreat
section
variable {w w' w0 : World} {R R' : Nat → Prop} {sp d base lc : Nat} {la : Option Addr} {ms : List Mk} {V : Ps} {K : Value → World → Prop}
theorem bcell {p q : Prop} [Decidable p] [Decidable q] (h : p ↔ q) : [Value.bool (decide p)] = [Value.bool (decide q)] := by rw [decide_eq_decide.2 h]
theorem elemG_ids : elemG Tryz.prog 37 1 8 := elemG_of (by kernel_rfl)
theorem elemG_ints : elemG Tryz.prog 49 1 8 := elemG_of (by kernel_rfl)
theorem Pz.keep {S : Nat → Prop} (h : Pz w0 R w sp d V) (k : Mod S w w') (hs : ∀ x, R x → ¬ S x) (hw : ∀ x, x < w0.heap.size → ¬ S x) : Pz w0 R w' sp d V := by
  obtain ⟨C, e1, e2, hw', rl, c, mo, mm, ca, oa, Lo, Lm, h⟩ := h
  exact ⟨C, e1, e2, hw', rl, c, mo, mm, ca, oa, Lo, Lm, h.keepS k hs hw⟩
/-- Those ahead, as the law makes them. -/
def Ahd (w7 : World) (n : Nat) (x : List Value) (w16 : World) : Prop :=
  ∃ (js : List Nat) (a13 a14 : Option Addr) (c13 c14 : Nat) (y : Value), x = [.slice a13 js.length c13, .slice a14 js.length c14, .int .i64 js.length, y] ∧ js.length ≤ 4 ∧ (∀ j ∈ js, j < n) ∧
    Own Tryz.prog w16 w7.heap.size 37 1 a13 js.length c13 (iL (js.map fun j => ((j + 1 : Nat) : Int))) ∧ Own Tryz.prog w16 w7.heap.size 49 1 a14 js.length c14 (iL (nI' js)) ∧ (∀ q q', a13 = some q → a14 = some q' → q.block ≠ q'.block) ∧ Mod No w7 w16
theorem Ahd.next {w7 w16 : World} {n j : Nat} {js : List Nat} {a13 a14 : Option Addr} {c13 c14 : Nat} {y0 y1 : Value} (hl : js.length < 4) (hjs : ∀ j ∈ js, j < n) (hj : j < n)
    (o1 : Own Tryz.prog w16 w7.heap.size 37 1 a13 js.length c13 (iL (js.map fun j => ((j + 1 : Nat) : Int)))) (o2 : Own Tryz.prog w16 w7.heap.size 49 1 a14 js.length c14 (iL (nI' js))) (hne : ∀ q q', a13 = some q → a14 = some q' → q.block ≠ q'.block) (hm : Mod No w7 w16) :
    ∃ (a104 : Option Addr) (l104 c104 : Nat), ∃ w19 : World, Ru (Instr.buildSlice 37 1 #[(0, .int .i64 ((j + 1 : Nat) : Int))]) w16 (.slice a104 l104 c104) w19 ∧ ∃ (a105 : Option Addr) (l105 c105 : Nat), ∃ w20 : World, Ru (Builtin.append_ #[37, 37] 37 #[.slice a13 js.length c13, .slice a104 l104 c104]) w19 (.slice a105 l105 c105) w20 ∧
      ∃ (a14' : Option Addr) (l14' c14' : Nat), (.slice a14 js.length c14 : Value) = .slice a14' l14' c14' ∧ ∃ (a108 : Option Addr) (l108 c108 : Nat), ∃ w21 : World, Ru (Instr.buildSlice 49 1 #[(0, .int .i64 j)]) w20 (.slice a108 l108 c108) w21 ∧ ∃ (a109 : Option Addr) (l109 c109 : Nat), ∃ w22 : World, Ru (Builtin.append_ #[49, 49] 49 #[.slice a14' l14' c14', .slice a108 l108 c108]) w21 (.slice a109 l109 c109) w22 ∧ (Ahd w7 n [.slice a105 l105 c105, .slice a109 l109 c109, .int .i64 ((js.length + 1 : Nat) : Int), y0] w22 ∧ (4 - nI [.slice a105 l105 c105, .slice a109 l109 c109, .int .i64 ((js.length + 1 : Nat) : Int), y0] 2).toNat < (4 - nI [.slice a13 js.length c13, .slice a14 js.length c14, .int .i64 js.length, y1] 2).toNat) := by
  refine ⟨_, _, _, _, builtI64 _ _, ?_⟩
  have m19 : Mod No w16 (w16.alloc (.cells ⟨[.int .i64 ((j + 1 : Nat) : Int)]⟩ 2)) := (Mod.refl No w16).alloc _
  have r19 : Row (w16.alloc (.cells ⟨[.int .i64 ((j + 1 : Nat) : Int)]⟩ 2)) (some ⟨w16.heap.size, 0, none⟩) (iL [((j + 1 : Nat) : Int)]) := .inr ⟨_, _, rfl, AtU.new.at⟩
  generalize w16.alloc (.cells ⟨[.int .i64 ((j + 1 : Nat) : Int)]⟩ 2) = w19 at *
  have hz0 := hm.size
  have hz1 := m19.size
  obtain ⟨q1, c1, w20, run1, p1, mm1, hq1⟩ := (o1.nos m19).appG (ty := 37) (m := 1) (c2 := 1) elemG_ids (by omega) r19 rfl (by omega) (one_iL _) (by omega) (by omega) (by omega)
  have b1 : ∀ {q}, a13 = some q → _ := fun {q} hq => o1.base (q := q) hq
  have b2 : ∀ {q}, a14 = some q → _ := fun {q} hq => o2.base (q := q) hq
  have hb1 := p1.base rfl
  have M20 : Mod No w7 w20 := (hm.no m19).trans mm1 fun x hx ⟨q, hq, e⟩ => by have := (b1 hq).1; omega
  have o2' := (o2.nos m19).keep mm1 fun q hq ⟨q', hq', e⟩ => hne q' q hq' hq e.symm
  refine ⟨_, _, _, w20, run1, _, _, _, rfl, _, _, _, _, builtI _ _, ?_⟩
  have hz2 := mm1.size
  have m21 : Mod No w20 (w20.alloc (.cells ⟨[.int .i64 (j : Int)]⟩ 3)) := (Mod.refl No w20).alloc _
  have r21 : Row (w20.alloc (.cells ⟨[.int .i64 (j : Int)]⟩ 3)) (some ⟨w20.heap.size, 0, none⟩) (iL [(j : Int)]) := .inr ⟨_, _, rfl, AtU.new.at⟩
  generalize w20.alloc (.cells ⟨[.int .i64 (j : Int)]⟩ 3) = w21 at *
  have hz3 := m21.size
  obtain ⟨q2, c2, w22, run2, p2, mm2, hq2⟩ := (o2'.nos m21).appG (ty := 49) (m := 1) (c2 := 1) elemG_ints (by omega) r21 rfl (by omega) (one_iL _) (by omega) (by omega) (by omega)
  have hz4 := mm2.size
  have hd : q1.block ≠ q2.block := by
    rcases hq2 with ⟨q', hq', e⟩ | e
    · rcases hq1 with ⟨q'', hq'', e2⟩ | e2
      · rw [e, e2]; exact hne _ _ hq'' hq'
      · have := (b2 hq').2; omega
    · omega
  refine ⟨_, _, _, w22, run2, ⟨js ++ [j], some q1, some q2, c1, c2, y0, by simp, by simp; omega, fun i hi => ?_, ?_, ?_, fun q q' e e' => ?_, ?_⟩, by simp [nI, nth]; omega⟩
  · rcases List.mem_append.1 hi with h | h
    · exact hjs i h
    · rw [List.mem_singleton.1 h]; exact hj
  · have := (p1.nos m21).keep mm2 fun q hq ⟨q', hq', e⟩ => by
      cases hq
      rcases hq1 with ⟨q'', hq'', e2⟩ | e2
      · exact hne _ _ hq'' hq' (by rw [← e2]; exact e)
      · have := (b2 hq').2; omega
    simpa [iL] using this
  · simpa [iL, nI'] using p2
  · cases e; cases e'; exact hd
  · exact (M20.no m21).trans mm2 fun x hx ⟨q, hq, e⟩ => by have := (b2 hq).1; omega
end
end Go.Proofs.YtocjjigmpgekfaaGreat
end
section
/- Layer 2, the document's disk: what it is in memory, and the functions that read it. -/
open Go Go.Den Go.Proofs
namespace Go.Den
section
variable {P : Program} {w : World}
def strBT (P : Program) (S T : TypeId) : Bool :=
  match P.underlying S with
  | some .string => match P.underlying T with
    | some (.slice e) => match P.underlying e with | some (.int .u8) => true | _ => false
    | _ => false
  | _ => false
/-- A string's bytes. -/
theorem bytes_run {S T : TypeId} {xs : List UInt8} (hT : strBT P S T = true) : ∃ c w', (convert S T (.string ⟨xs.toArray⟩)).run P w = .ok (.slice (some ⟨w.heap.size, 0, none⟩) xs.length c) w' ∧ AtU w' w.heap.size 0 (u8L xs) ∧ Mod No w w' ∧ xs.length ≤ c := by
  have hT' : ∃ e, P.underlying S = some .string ∧ P.underlying T = some (.slice e) ∧ P.underlying e = some (.int .u8) := by
    unfold strBT at hT
    split at hT
    · rename_i h0
      split at hT
      · rename_i e he
        split at hT
        · rename_i h1; exact ⟨e, h0, he, h1⟩
        · cases hT
      · cases hT
    · cases hT
  obtain ⟨e, h1, h2, h3⟩ := hT'
  have hsz : (⟨xs.toArray⟩ : ByteArray).size = xs.length := by simp [ByteArray.size]
  have h := run_bytes_of_string (P := P) w S T e ⟨xs.toArray⟩ h1 h2 h3
  rw [hsz] at h
  have hl : (bytesRow ⟨xs.toArray⟩ (grownCap w xs.length 0 e)).toList = u8L xs ++ List.replicate (grownCap w xs.length 0 e - xs.length) (.int .u8 0) := by
    unfold bytesRow; rw [hsz]; simp [u8L, u8]
  have hs2 : xs.length ≤ (bytesRow ⟨xs.toArray⟩ (grownCap w xs.length 0 e)).size := by
    rw [← Array.length_toList, hl]; simp
  generalize bytesRow ⟨xs.toArray⟩ (grownCap w xs.length 0 e) = arr at *
  refine ⟨_, _, h, ⟨arr.toList, e, (arr.size, arr.size + 1), heap_new w.drew _, ?_, ?_, fun j _ hj hc => ?_⟩, (((Mod.refl No w).drew (b := w)).alloc _ : Mod No w (w.drew.alloc _)), grownCap_ge w xs.length 0 e⟩
  · rw [hl]; simp
  · rw [hl]; simp
  · simp at hj; omega
end
def strV (x : Bk) : Value := .string ⟨x.toArray⟩
def hdrs (hs : List (Nat × Nat)) (vs : List (List Bk)) : List Value := List.zipWith (fun h v => .slice (some ⟨h.1, 0, none⟩) (List.length v) h.2) hs vs
def heldB (D : St) : Bool := decide (D.left ≠ -1)
def leftB (D : St) : Int := if D.left = -1 then 0 else D.left
structure RefIn (w : World) (R : Nat → Prop) (b vb vc : Nat) (hs : List (Nat × Nat)) (D : St) : Prop where
  cell : AtU w b 0 [.slice (some ⟨vb, 0, none⟩) D.vs.length vc, .bool (heldB D), .int .i64 (leftB D)]
  vec : AtU w vb 0 (hdrs hs D.vs)
  cap : D.vs.length ≤ vc
  hl : hs.length = D.vs.length
  row : ∀ (i : Nat) (v : List Bk), D.vs[i]? = some v → ∃ q c, hs[i]? = some (q, c) ∧ v.length ≤ c ∧ At w q 0 (v.map strV) ∧ R q ∧ q ≠ b ∧ q ≠ vb
  rb : R b
  rv : R vb
  ne : b ≠ vb
  wf : WF D
  lt : ∀ x, R x → x < w.heap.size
section
variable {w : World} {R : Nat → Prop} {b vb vc : Nat} {hs : List (Nat × Nat)} {D : St}
theorem RefIn.keep {S : Nat → Prop} {w' : World} (h : RefIn w R b vb vc hs D) (m : Mod S w w') (hS : ∀ x, R x → ¬ S x) : RefIn w' R b vb vc hs D where
  cell := h.cell.keep m (hS _ h.rb)
  vec := h.vec.keep m (hS _ h.rv)
  cap := h.cap
  hl := h.hl
  row := fun i v hv => by
    obtain ⟨q, c, h1, h2, h3, h4, h5⟩ := h.row i v hv
    exact ⟨q, c, h1, h2, h3.keep m (hS _ h4), h4, h5⟩
  rb := h.rb
  rv := h.rv
  ne := h.ne
  wf := h.wf
  lt := fun x hx => Nat.lt_of_lt_of_le (h.lt x hx) m.size
theorem RefIn.nos {w' : World} (h : RefIn w R b vb vc hs D) (m : Mod No w w') : RefIn w' R b vb vc hs D := h.keep m fun _ _ => id
theorem RefIn.drew (h : RefIn w R b vb vc hs D) : RefIn (drew w) R b vb vc hs D := h.nos (Mod.refl No w).drew
theorem hdrs_get {i q c : Nat} {vs : List (List Bk)} {v : List Bk} (h1 : hs[i]? = some (q, c)) (h2 : vs[i]? = some v) : (hdrs hs vs)[i]? = some (.slice (some ⟨q, 0, none⟩) v.length c) := by
  simp [hdrs, List.getElem?_zipWith, h1, h2]
end
end Go.Den
namespace Go.Proofs.YtocjjigmpgekfaaGreat
section
variable {w : World} {R : Nat → Prop} {b vb vc : Nat} {hs : List (Nat × Nat)} {D : St} {K : Value → World → Prop}
theorem rv (h : RefIn w R b vb vc hs D) : Ru (Instr.loadAt 145 (.pointer (some (Addr.add ⟨b, 0, none⟩ 0)))) w (.slice (some ⟨vb, 0, none⟩) D.vs.length vc) w := by
  rw [add_none]; exact h.cell.at.load (by kernel_rfl) rfl
theorem rl (h : RefIn w R b vb vc hs D) : Ru (Instr.loadAt 3 (.pointer (some (Addr.add ⟨b, 0, none⟩ 2)))) w (.int .i64 (leftB D)) w := by
  rw [add_none]; exact h.cell.at.load (by kernel_rfl) rfl
theorem idx_blk {a : Addr} {n c i : Nat} (hi : i < n) : Al (Instr.indexAt 145 (.slice (some a) n c) (.int .i64 i)) (.pointer (some (a.add i))) := by
  intro w'
  have := index_slice (P := Tryz.prog) (T := 145) (k := 1) (a := a) (n := n) (c := c) (kk := .i64) (i := i) (by kernel_rfl) (by omega) (by omega) w'
  rwa [Int.toNat_natCast, Nat.mul_one] at this
theorem idx_str {a : Addr} {n c i : Nat} (hi : i < n) : Al (Instr.indexAt 40 (.slice (some a) n c) (.int .i64 i)) (.pointer (some (a.add i))) := by
  intro w'
  have := index_slice (P := Tryz.prog) (T := 40) (k := 1) (a := a) (n := n) (c := c) (kk := .i64) (i := i) (by kernel_rfl) (by omega) (by omega) w'
  rwa [Int.toNat_natCast, Nat.mul_one] at this
/-- The versions of a block, as they are loaded. -/
theorem rrow (h : RefIn w R b vb vc hs D) {i : Nat} {v : List Bk} (hv : D.vs[i]? = some v) : ∃ q c, Ru (Instr.loadAt 40 (.pointer (some (Addr.add (Addr.add ⟨vb, 0, none⟩ i) 0)))) w (.slice (some ⟨q, 0, none⟩) v.length c) w ∧ v.length ≤ c ∧ At w q 0 (v.map strV) ∧ R q ∧ q ≠ b ∧ q ≠ vb ∧ hs[i]? = some (q, c) := by
  obtain ⟨q, c, h1, h2, h3, h4, h5, h6⟩ := h.row i v hv
  refine ⟨q, c, ?_, h2, h3, h4, h5, h6, h1⟩
  rw [add_none, add_none, Nat.add_zero]
  exact h.vec.at.load (by kernel_rfl) (hdrs_get h1 hv)
theorem strV_get {w : World} {q i : Nat} {v : List Bk} {x : Bk} (h : At w q 0 (v.map strV)) (hx : v[i]? = some x) : Ru (Instr.loadAt 9 (.pointer (some (Addr.add ⟨q, 0, none⟩ i)))) w (.string ⟨x.toArray⟩) w := by
  rw [add_none]
  exact h.load (by kernel_rfl) (by rw [List.getElem?_map, hx]; rfl)
theorem last_get {v : List Bk} (h : v ≠ []) : v[v.length - 1]? = some (lastV v) := by
  rw [← List.getLast?_eq_getElem?]; unfold lastV
  rw [List.getLastD_eq_getLast?, List.getLast?_eq_some_getLast h]; rfl
theorem there_c (h : RefIn w R b vb vc hs D) {n : Int} (hk : K (.bool (decide (errOf D n = 0))) w) : Cal Tryz.prog F_leveeref02_Disk_there #[.pointer (some ⟨b, 0, none⟩), .int .i64 n] w K := by
  apply C_leveeref02_Disk_there
  unfold D_leveeref02_Disk_there
  refine Share.cut (fun x w' => x = [.bool (decide (errOf D n = 0))] ∧ w' = w) (cond_of (fun hb => ?_) (fun hb => ?_)) ?_
  · have hb := of_decide_eq_true hb
    refine ⟨_, rfl, _, _, _, rv h, ?_, rfl⟩
    congr 2; rw [Bool.eq_iff_iff]; simp only [decide_eq_true_eq]
    unfold errOf; split <;> omega
  · have hb := of_decide_eq_false hb
    refine ⟨?_, rfl⟩
    have : errOf D n = 3 := by unfold errOf; rw [if_pos (by omega)]
    rw [this]; rfl
  · rintro x w' ⟨rfl, rfl⟩
    exact ⟨_, rfl, hk⟩
theorem refRead_c (h : RefIn w R b vb vc hs D) (hsm : Small D) {n : Int} (hk : ∀ w' a c, Mod No w w' → Fresh w w' a (rdB D n) → K (.tuple #[.slice a (rdB D n).length c, .int .i64 (errOf D n)]) w') : Cal Tryz.prog F_leveeref02_Disk_Read #[.pointer (some ⟨b, 0, none⟩), .int .i64 n] w K := by
  apply C_leveeref02_Disk_Read
  unfold D_leveeref02_Disk_Read
  refine there_c h ⟨_, rfl, ?_⟩
  rcases err_cases (D := D) n with ⟨he, _⟩ | ⟨he, i, v, rfl, hv, hver⟩
  · have hb : rdB D n = [] := by unfold rdB; rw [if_neg (by omega)]
    refine tt (by rw [he]; rfl) ?_
    have := hk w none 0 (Mod.refl _ _) (.inl ⟨rfl, hb⟩)
    rw [hb, he] at this; exact this
  · have hb : rdB D i = lastV v := by unfold rdB; rw [if_pos he, hver]
    have hvne := (h.wf.ver v (List.mem_of_getElem? hv)).1
    have hvp := List.length_pos_iff.2 hvne
    have hvl := hsm v (List.mem_of_getElem? hv)
    obtain ⟨q, c, hl, hc, hat, _⟩ := rrow h hv
    refine ff (by rw [he]; rfl) ⟨_, rfl, _, _, _, rv h, _, idx_blk (List.getElem?_eq_some_iff.1 hv).1, _, _, _, hl, ?_⟩
    rw [wrap64 (x := (v.length : Int) - 1) (by omega) (by omega), show (v.length : Int) - 1 = ((v.length - 1 : Nat) : Int) by omega]
    refine ⟨_, idx_str (by omega), _, strV_get hat (last_get hvne), ?_⟩
    obtain ⟨c2, w2, h2, at2, m2, _⟩ := bytes_run (P := Tryz.prog) (w := w) (S := 9) (T := 36) (xs := lastV v) (by kernel_rfl)
    refine ⟨_, _, _, w2, h2, ?_⟩
    have := hk w2 (some ⟨w.heap.size, 0, none⟩) c2 m2 (.inr ⟨_, rfl, Nat.le_refl _, by rw [hb]; exact at2⟩)
    rw [hb, he] at this; exact this
end
end Go.Proofs.YtocjjigmpgekfaaGreat
end
section
/- Layer 2: whether both disks are alike; new disks of the document's; disks of bytes. -/
open Go Go.Den Go.Proofs
namespace Go.Proofs.YtocjjigmpgekfaaGreat
section
variable {w : World} {R R2 : Nat → Prop} {b vb vc b2 sb mb sc : Nat} {hs : List (Nat × Nat)} {L : List (Int × Value)} {D : St} {K : Value → World → Prop}
theorem Fresh.keep {w0 w w' : World} {a : Option Addr} {xs : List UInt8} {S : Nat → Prop} (h : Fresh w0 w a xs) (m : Mod S w w') (hs : ∀ q, a = some q → ¬ S q.block) : Fresh w0 w' a xs := by
  rcases h with h | ⟨q, rfl, hq, hat⟩
  · exact .inl h
  · exact .inr ⟨q, rfl, hq, hat.keep m (hs _ rfl)⟩
end
end Go.Proofs.YtocjjigmpgekfaaGreat
end
section
/- Layer 2, the document's disk: new ones, and those of bytes. -/
open Go Go.Den Go.Proofs
namespace Go.Den
theorem At_ne {w : World} {q g o o' : Nat} {x y : Value} {r r' : List Value} (h : At w q o (x :: r)) (k : At w g o' (y :: r')) (ho : o = o') (hne : x ≠ y) : q ≠ g := by
  rintro rfl
  subst ho
  obtain ⟨l, t, fz, h1, h2, h3⟩ := h
  obtain ⟨l', t', fz', k1, k2, k3⟩ := k
  rw [h1] at k1
  simp at k1
  obtain ⟨rfl, _⟩ := k1
  have a1 := take_drop_get h3 0 (by simp)
  have a2 := take_drop_get k3 0 (by simp)
  rw [a1] at a2
  simp at a2
  exact hne a2
theorem hdrs_snoc {hs : List (Nat × Nat)} {vs : List (List Bk)} (h : hs.length = vs.length) (q c : Nat) (v : List Bk) : hdrs (hs ++ [(q, c)]) (vs ++ [v]) = hdrs hs vs ++ [.slice (some ⟨q, 0, none⟩) v.length c] := by
  unfold hdrs; rw [List.zipWith_append h]; rfl
end Go.Den
namespace Go.Proofs.YtocjjigmpgekfaaGreat
theorem elemZ_blks : elemZ Tryz.prog 145 1 (.slice none 0 0) 24 := by unfold elemZ; kernel_rfl
theorem built_str (w : World) (s : ByteArray) : (Instr.buildSlice 40 1 #[(0, .string s)]).run Tryz.prog w = .ok (.slice (some ⟨w.heap.size, 0, none⟩) 1 1) (w.alloc (.cells ⟨[.string s]⟩ 9)) := by kernel_rfl
theorem build_blk (w : World) (a : Option Addr) (l c : Nat) : (Instr.build 150 #[(0, .slice a l c)]).run Tryz.prog w = .ok (.agg ⟨[.slice a l c]⟩) w := by kernel_rfl
theorem built_blk (w : World) (a : Option Addr) (l c : Nat) : (Instr.buildSlice 145 1 #[(0, .agg ⟨[.slice a l c]⟩)]).run Tryz.prog w = .ok (.slice (some ⟨w.heap.size, 0, none⟩) 1 1) (w.alloc (.cells ⟨[.slice a l c]⟩ 150)) := by kernel_rfl
theorem build_ref (w : World) : (Instr.build 147 #[]).run Tryz.prog w = .ok (.agg ⟨[.slice none 0 0, .bool false, .int .i64 0]⟩) w := by kernel_rfl

/-- A disk that is being built. -/
structure Bld (w0 w : World) (b : Nat) (a : Option Addr) (l c : Nat) (hs : List (Nat × Nat)) (vs : List (List Bk)) : Prop where
  cell : AtU w b 0 [.slice a l c, .bool false, .int .i64 0]
  own : Own Tryz.prog w (b + 1) 145 1 a l c (hdrs hs vs)
  hl : hs.length = vs.length
  row : ∀ (i : Nat) (v : List Bk), vs[i]? = some v → ∃ q cc, hs[i]? = some (q, cc) ∧ v.length ≤ cc ∧ At w q 0 (v.map strV) ∧ v ≠ [] ∧ b < q
  mod : Mod No w0 w
  b0 : w0.heap.size ≤ b
section
variable {w0 w : World} {b l c : Nat} {a : Option Addr} {hs : List (Nat × Nat)} {vs : List (List Bk)} {K : Value → World → Prop}
theorem Bld.len (h : Bld w0 w b a l c hs vs) : l = vs.length := by
  have := h.own.len
  simp [hdrs, h.hl] at this; exact this.symm
theorem Bld.nos {w' : World} (h : Bld w0 w b a l c hs vs) (m : Mod No w w') : Bld w0 w' b a l c hs vs where
  cell := h.cell.keep m id
  own := h.own.nos m
  hl := h.hl
  row := fun i v hv => by
    obtain ⟨q, cc, h1, h2, h3, h4⟩ := h.row i v hv
    exact ⟨q, cc, h1, h2, h3.keep m id, h4⟩
  mod := h.mod.no m
  b0 := h.b0
theorem Bld.ld (h : Bld w0 w b a l c hs vs) : Ru (Instr.loadAt 145 (.pointer (some (Addr.add ⟨b, 0, none⟩ 0)))) w (.slice a l c) w := by
  rw [add_none]; exact h.cell.at.load (by kernel_rfl) rfl
theorem Bld.start (w : World) : Bld w (w.alloc (.cells (Value.agg ⟨[.slice none 0 0, .bool false, .int .i64 0]⟩).cells 147)) w.heap.size none 0 0 [] [] where
  cell := AtU.new
  own := Own.nil elemZ_blks
  hl := rfl
  row := fun i v hv => by simp at hv
  mod := (Mod.refl No w).alloc _
  b0 := Nat.le_refl _
theorem hdr_first {i : Nat} {v : List Bk} (hl : hs.length = vs.length) (hv : vs[i]? = some v) : ∃ q cc u r, hdrs hs vs = .slice (some ⟨q, 0, none⟩) (List.length (u : List Bk)) cc :: r := by
  cases vs with
  | nil => simp at hv
  | cons u r =>
    cases hs with
    | nil => simp at hl
    | cons p r' => exact ⟨p.1, p.2, u, _, rfl⟩

/-- One block more. -/
theorem Bld.step (h : Bld w0 w b a l c hs vs) (x : Bk) (hl : l ≤ 5000) :
    ∃ a' c' w6 w7, Ru (Builtin.append_ #[145, 145] 145 #[.slice a l c, .slice (some ⟨(w.alloc (.cells ⟨[.string ⟨x.toArray⟩]⟩ 9)).heap.size, 0, none⟩) 1 1])
        ((w.alloc (.cells ⟨[.string ⟨x.toArray⟩]⟩ 9)).alloc (.cells ⟨[.slice (some ⟨w.heap.size, 0, none⟩) 1 1]⟩ 150)) (.slice a' (l + 1) c') w6 ∧
      RuU (Instr.storeAt 145 (.pointer (some (Addr.add ⟨b, 0, none⟩ 0))) (.slice a' (l + 1) c')) w6 w7 ∧ Bld w0 w7 b a' (l + 1) c' (hs ++ [(w.heap.size, 1)]) (vs ++ [[x]]) := by
  have m1 : Mod No w (w.alloc (.cells ⟨[.string ⟨x.toArray⟩]⟩ 9)) := (Mod.refl No w).alloc _
  have atx : At (w.alloc (.cells ⟨[.string ⟨x.toArray⟩]⟩ 9)) w.heap.size 0 ([x].map strV) := AtU.new.at
  have hs1 : (w.alloc (.cells ⟨[.string ⟨x.toArray⟩]⟩ 9)).heap.size = w.heap.size + 1 := by simp
  have hb := h.cell.lt
  generalize w.alloc (.cells ⟨[.string ⟨x.toArray⟩]⟩ 9) = w4 at *
  have m2 : Mod No w4 (w4.alloc (.cells ⟨[.slice (some ⟨w.heap.size, 0, none⟩) 1 1]⟩ 150)) := (Mod.refl No w4).alloc _
  have aty : At (w4.alloc (.cells ⟨[.slice (some ⟨w.heap.size, 0, none⟩) 1 1]⟩ 150)) w4.heap.size 0 [.slice (some ⟨w.heap.size, 0, none⟩) 1 1] := AtU.new.at
  have hs2 : (w4.alloc (.cells ⟨[.slice (some ⟨w.heap.size, 0, none⟩) 1 1]⟩ 150)).heap.size = w4.heap.size + 1 := by simp
  generalize w4.alloc (.cells ⟨[.slice (some ⟨w.heap.size, 0, none⟩) 1 1]⟩ 150) = w5 at *
  have h5 := (h.nos m1).nos m2
  have atx5 := atx.keep m2 id
  obtain ⟨a', c', w6, h6, o6, m6⟩ := h5.own.append' (ty := 145) (a2 := some ⟨w4.heap.size, 0, none⟩) (m := 1) (c2 := 1) (ys := [.slice (some ⟨w.heap.size, 0, none⟩) 1 1]) elemZ_blks (by omega) (.inr ⟨_, _, rfl, aty⟩) rfl (by simp) (by simp; rfl) (by omega) (by omega) (by omega)
  have hbq : ∀ q, a = some q → b + 1 ≤ q.block := fun q hq => (h5.own.base hq).1
  have hbq2 : ∀ q, a = some q → q.block < w.heap.size := fun q hq => (h.own.base hq).2
  have c6 := h5.cell.keep m6 (fun ⟨q, hq, e⟩ => by have := hbq q hq; omega)
  obtain ⟨w7, s1, s2, s3, s4⟩ := c6.store (P := Tryz.prog) (T := 145) (i := 0) (v := .slice a' (l + 1) c') (by kernel_rfl) (by simp) rfl
  refine ⟨a', c', w6, w7, h6, by rw [add_none]; exact s1, ?_⟩
  exact { cell := by simpa using s2
          own := by
            rw [hdrs_snoc h.hl]
            exact o6.keep s3 fun q hq e => by have := (o6.base hq).1; omega
          hl := by simp [h.hl]
          row := fun i v hv => by
            by_cases hi : i < vs.length
            · rw [List.getElem?_append_left hi] at hv
              obtain ⟨q, cc, r1, r2, r3, r4, r5⟩ := h5.row i v hv
              refine ⟨q, cc, by rw [List.getElem?_append_left (by rw [h.hl]; exact hi)]; exact r1, r2, (r3.keep m6 fun ⟨p, hp, e⟩ => ?_).keep s3 (by omega), r4, r5⟩
              obtain ⟨q1, c1, u1, r, hf⟩ := hdr_first h.hl hv
              have hpos : 0 < l := by rw [h.len]; omega
              obtain ⟨g, hg, _, hat⟩ := h5.own.sm hpos
              rw [hf] at hat
              cases v with
              | nil => exact r4 rfl
              | cons y rr =>
                have := At_ne r3 hat.at rfl (by simp [strV])
                rw [hg] at hp; cases hp
                exact this e
            · have hi2 : i = vs.length := by
                have := (List.getElem?_eq_some_iff.1 hv).1
                simp at this; omega
              subst hi2
              rw [List.getElem?_append_right (Nat.le_refl _), Nat.sub_self] at hv
              simp at hv; subst hv
              refine ⟨w.heap.size, 1, by rw [← h.hl]; simp, by simp, (atx5.keep m6 fun ⟨p, hp, e⟩ => ?_).keep s3 (by omega), by simp, hb⟩
              have := hbq2 p hp; omega
          mod := ((h5.mod.trans m6 fun y hy ⟨q, hq, e⟩ => by have := hbq q hq; have := h.b0; omega).trans s3 fun y hy e => by have := h.b0; omega)
          b0 := h.b0 }
theorem Bld.done (h : Bld w0 w b a l c hs vs) (hwf : WF ⟨vs, -1⟩) : ∃ vb, RefIn w (fun x => w0.heap.size ≤ x ∧ x < w.heap.size) b vb c hs ⟨vs, -1⟩ := by
  have hlo := hwf.lo
  have hlen := h.len
  simp only at hlo
  obtain ⟨g, rfl, hg, hat⟩ := h.own.sm (by omega)
  have hcap := h.own.cap
  have hb0 := h.b0
  refine ⟨g, ?_⟩
  exact { cell := by have := h.cell; rw [hlen] at this; exact this
          vec := hat
          cap := by simp only; omega
          hl := h.hl
          row := fun i v hv => by
            obtain ⟨q, cc, r1, r2, r3, r4, r5⟩ := h.row i v hv
            refine ⟨q, cc, r1, r2, r3, ⟨by omega, r3.lt⟩, by omega, ?_⟩
            obtain ⟨q1, c1, u1, r, hf⟩ := hdr_first h.hl hv
            rw [hf] at hat
            cases v with
            | nil => exact absurd rfl r4
            | cons y rr => exact At_ne r3 hat.at rfl (by simp [strV])
          rb := ⟨hb0, h.cell.lt⟩
          rv := ⟨by omega, hat.lt⟩
          ne := by omega
          wf := hwf
          lt := fun x hx => hx.2 }
end
end Go.Proofs.YtocjjigmpgekfaaGreat
end
section
/- Layer 2: new disks of the document's; disks of bytes, both. -/
open Go Go.Den Go.Proofs
namespace Go.Den
theorem DiskIn.widen {w : World} {R R' : Nat → Prop} {b sb mb sc : Nat} {L : List (Int × Value)} {D : St} (h : DiskIn w R b sb mb sc L D) (h1 : ∀ x, R x → R' x) (h2 : ∀ x, R' x → x < w.heap.size) : DiskIn w R' b sb mb sc L D where
  cell := h.cell
  cap := h.cap
  safe := h.safe
  map := h.map
  rb := h1 _ h.rb
  rs := h1 _ h.rs
  rm := h1 _ h.rm
  ne := h.ne
  opn := fun i v hv => by
    rcases h.opn i v hv with h | ⟨g1, vb, c, g2, g3, g4, g5, g6⟩
    · exact .inl h
    · exact .inr ⟨g1, vb, c, g2, g3, g4, h1 _ g5, g6⟩
  keys := h.keys
  wf := h.wf
  lt := h2
end Go.Den
namespace Go.Proofs.YtocjjigmpgekfaaGreat
section
variable {w : World} {K : Value → World → Prop}
theorem none_c (hk : ∀ w', Mod No w w' → K (.string ⟨zeroB.toArray⟩) w') : Cal Tryz.prog F_leveeref02_none #[] w K := by
  apply C_leveeref02_none
  unfold D_leveeref02_none
  obtain ⟨w1, hm1, hat1, hmod1, hsz1⟩ := makeSlice_run (P := Tryz.prog) (w := w) (n := 256) elemZ_bytes (by omega) (by omega) (by omega)
  have hz : List.replicate (256 * 1) (Value.int .u8 0) = u8L zeroB := by unfold u8L zeroB; rw [List.map_replicate]; rfl
  rw [hz] at hat1
  exact ⟨_, _, _, w1, hm1, _, str_run (by kernel_rfl) (.inr ⟨_, _, rfl, hat1.at⟩) List.length_replicate, hk w1 hmod1⟩

theorem refNew_c {n : Int} (h0 : -9223372036854775808 ≤ n) (h1 : n ≤ 9223372036854775807) (hbad : n < 1 ∨ 4096 < n → K (.tuple #[.pointer none, .int .i64 1]) w)
    (hok : ∀ k : Nat, n = k → 1 ≤ k → k ≤ 4096 → ∀ w' b vb vc hs, Mod No w w' → RefIn w' (fun x => w.heap.size ≤ x ∧ x < w'.heap.size) b vb vc hs (newSt k) → K (.tuple #[.pointer (some ⟨b, 0, none⟩), .int .i64 0]) w') :
    Cal Tryz.prog F_leveeref02_New #[.int .i64 n] w K := by
  apply C_leveeref02_New
  unfold D_leveeref02_New
  refine Share.or ⟨_, rfl, cond_of (fun hb => ?_) (fun hb => ?_)⟩
  · exact hbad (by simpa using hb)
  have hn : ¬ (n < 1 ∨ 4096 < n) := by simpa using hb
  obtain ⟨k, rfl⟩ := Int.eq_ofNat_of_zero_le (show 0 ≤ n by omega)
  refine ⟨_, fun w => build_ref w, _, _, box_run, ?_⟩
  refine ⟨fun x w2 => ∃ (i : Nat) (a : Option Addr) (c : Nat) (hs : List (Nat × Nat)), i ≤ k ∧ x = [.int .i64 i] ∧ Bld w w2 w.heap.size a i c hs (List.replicate i [zeroB]), fun x _ => (k - nI x 0).toNat, ⟨0, none, 0, [], by omega, rfl, Bld.start w⟩, ?_⟩
  rintro x w2 ⟨i, a, c, hs, hi, rfl, hB⟩
  refine ⟨_, rfl, cond_of (fun hb => ?_) (fun hb => ?_)⟩
  · have hi : i < k := by have := of_decide_eq_true hb; omega
    have hBd := hB.nos (Mod.refl No w2).drew
    refine ⟨_, rfl, _, _, _, hBd.ld, none_c fun w3 m3 => ⟨_, rfl, (hBd.nos m3).ld, _, _, _, _, built_str _ _, ?_⟩⟩
    have hB3 := hBd.nos m3
    have m4 : Mod No w3 (w3.alloc (.cells ⟨[.string ⟨zeroB.toArray⟩]⟩ 9)) := (Mod.refl No w3).alloc _
    refine ⟨(hB3.nos m4).ld, _, fun w => build_blk w _ _ _, _, _, _, _, built_blk _ _ _ _, ?_⟩
    have m5 : Mod No (w3.alloc (.cells ⟨[.string ⟨zeroB.toArray⟩]⟩ 9)) ((w3.alloc (.cells ⟨[.string ⟨zeroB.toArray⟩]⟩ 9)).alloc (.cells ⟨[.slice (some ⟨w3.heap.size, 0, none⟩) 1 1]⟩ 150)) := (Mod.refl No _).alloc _
    refine ⟨((hB3.nos m4).nos m5).ld, ?_⟩
    obtain ⟨a', c', w6, w7, s1, s2, s3⟩ := hB3.step zeroB (by omega)
    refine ⟨_, _, _, w6, s1, _, rfl, w7, s2, ?_⟩
    rw [wrap64 (x := (i : Int) + 1) (by omega) (by omega)]
    refine ⟨⟨i + 1, a', c', hs ++ [(w3.heap.size, 1)], by omega, rfl, ?_⟩, by simp [nI, nth]; omega⟩
    have e : List.replicate (i + 1) [zeroB] = List.replicate i [zeroB] ++ [[zeroB]] := List.replicate_succ'
    rw [e]; exact s3
  · have hik : i = k := by have := of_decide_eq_false hb; omega
    subst hik
    obtain ⟨vb, hR⟩ := hB.done (WF.new (by omega) (by omega))
    exact hok i rfl (by omega) (by omega) w2 _ vb c hs hB.mod hR

def chunk (xs : List UInt8) (i : Nat) : Bk := (xs.drop (256 * i)).take 256
def ldSt (k : Nat) (xs : List UInt8) : St := ⟨(List.range k).map fun i => [chunk xs i], -1⟩
theorem chunk_len {xs : List UInt8} {k i : Nat} (hl : xs.length = 256 * k) (hi : i < k) : (chunk xs i).length = 256 := by
  unfold chunk; simp; omega
theorem WF.ld {xs : List UInt8} {k : Nat} (hl : xs.length = 256 * k) (h0 : 1 ≤ k) (h1 : k ≤ 4096) : WF (ldSt k xs) where
  ver := by
    intro v hv
    obtain ⟨i, hi, rfl⟩ := List.mem_map.1 hv
    refine ⟨by simp, fun x hx => ?_⟩
    simp at hx; subst hx
    exact chunk_len hl (List.mem_range.1 hi)
  lo := by simp [ldSt]; exact h0
  hi := by simp [ldSt]; exact h1
  l0 := by simp [ldSt]
  l1 := by simp [ldSt]

end
end Go.Proofs.YtocjjigmpgekfaaGreat
end
section
/- Layer 2, the document's disk: a flush, a crash. -/
open Go Go.Den Go.Proofs
namespace Go.Proofs.YtocjjigmpgekfaaGreat
section
variable {w : World} {R : Nat → Prop} {b vb vc : Nat} {hs : List (Nat × Nat)} {D : St} {K : Value → World → Prop}
theorem _root_.Go.Den.RefIn.widen {R' : Nat → Prop} (h : RefIn w R b vb vc hs D) (h1 : ∀ x, R x → R' x) (h2 : ∀ x, R' x → x < w.heap.size) : RefIn w R' b vb vc hs D where
  cell := h.cell
  vec := h.vec
  cap := h.cap
  hl := h.hl
  row := fun i v hv => by obtain ⟨q, c, r1, r2, r3, r4, r5⟩ := h.row i v hv; exact ⟨q, c, r1, r2, r3, h1 _ r4, r5⟩
  rb := h1 _ h.rb
  rv := h1 _ h.rv
  ne := h.ne
  wf := h.wf
  lt := h2

end
end Go.Proofs.YtocjjigmpgekfaaGreat
end
section
/- Layer 11, the document's store: what it is in memory, and its small functions. -/
open Go Go.Den Go.Proofs
namespace Go.Proofs.YtocjjigmpgekfaaGreat
/-- A store as the document has it: a disk, its blocks' bytes without open changes, these, the last number given. -/
structure Rs where
  D : St
  base : List Bk
  l : List Ch
  last : Nat
structure WFR (S : Rs) : Prop where
  len : S.base.length = S.D.vs.length
  small : Small S.D
  bl : ∀ b ∈ S.base, b.length = 256
  dat : ∀ x ∈ S.l, 1 ≤ x.data.length ∧ x.frm + x.data.length ≤ 256
  blt : ∀ x ∈ S.l, x.b < S.base.length
  srt : S.l.Pairwise fun x y => x.id < y.id
  idr : ∀ x ∈ S.l, 1 ≤ x.id ∧ x.id ≤ S.last
  aft : ∀ x ∈ S.l, ∀ k ∈ x.after, k < (x.id : Int)
  aftn : ∀ x ∈ S.l, x.after.length ≤ 1000000
  last : S.last ≤ 1000000
theorem WFR.llen {S : Rs} (h : WFR S) : S.l.length ≤ S.last := by
  have hn : (S.l.map (·.id)).Nodup := List.Pairwise.map _ (fun a b h => by have h : a.id < b.id := h; omega) h.srt
  have := List.Nodup.length_le_of_subset hn (l₂ := (List.range S.last).map (· + 1)) fun k hk => by
    obtain ⟨x, hx, rfl⟩ := List.mem_map.1 hk
    have := h.idr x hx
    exact List.mem_map.2 ⟨x.id - 1, List.mem_range.2 (by omega), by omega⟩
  simpa using this
def chV (x : Ch) (h : Option Addr × Nat) : List Value := [.int .i64 x.id, .int .i64 x.b, .int .i64 x.frm, .string ⟨x.data.toArray⟩, .slice h.1 x.after.length h.2, .bool x.out]
def rowL (l : List Ch) (H : List (Option Addr × Nat)) : List Value := (List.zipWith chV l H).flatten
theorem rowL_len : ∀ {l : List Ch} {H : List (Option Addr × Nat)}, H.length = l.length → (rowL l H).length = l.length * 6
  | [], [], _ => rfl
  | x :: l, h :: H, e => by
    have e : H.length = l.length := by simpa using e
    have := rowL_len e
    unfold rowL at this ⊢
    simp only [List.zipWith_cons_cons, List.flatten_cons, List.length_append, this, List.length_cons]
    simp [chV]; omega
theorem rowL_get : ∀ {l : List Ch} {H : List (Option Addr × Nat)} {i : Nat} {x : Ch} {h : Option Addr × Nat}, l[i]? = some x → H[i]? = some h → ((rowL l H).drop (i * 6)).take 6 = chV x h
  | [], _, i, x, h, e, _ => by simp at e
  | _ :: _, [], i, x, h, _, e => by simp at e
  | y :: l, k :: H, 0, x, h, e1, e2 => by
    simp at e1 e2; subst e1; subst e2
    simp [rowL, chV]
  | y :: l, k :: H, i + 1, x, h, e1, e2 => by
    have := rowL_get (l := l) (H := H) (i := i) (x := x) (h := h) (by simpa using e1) (by simpa using e2)
    rw [← this]
    unfold rowL
    rw [List.zipWith_cons_cons, List.flatten_cons, show (i + 1) * 6 = (chV y k).length + i * 6 by simp [chV]; omega, ← List.drop_drop]
    simp
theorem rowL_cell {l : List Ch} {H : List (Option Addr × Nat)} {i j : Nat} {x : Ch} {h : Option Addr × Nat} {v : Value} (h1 : l[i]? = some x) (h2 : H[i]? = some h) (hj : (chV x h)[j]? = some v) : (rowL l H)[i * 6 + j]? = some v := by
  have hj6 : j < 6 := by have := (List.getElem?_eq_some_iff.1 hj).1; simpa [chV] using this
  rw [← rowL_get h1 h2, List.getElem?_take, if_pos hj6, List.getElem?_drop] at hj
  exact hj
/-- The document's store in memory: 1 the store itself, 2 the row of bytes, 3 that of changes, 4 its disk, 5 rows that stay. -/
structure RIn (w0 : World) (R : Nat → Prop) (rl : Nat → Nat) (w : World) (rp r vb vc : Nat) (hs : List (Nat × Nat)) (ba : Option Addr) (bc : Nat) (la : Option Addr) (lc : Nat) (H : List (Option Addr × Nat)) (S : Rs) : Prop where
  disk : RefIn w (fun x => rl x = 4) r vb vc hs S.D
  cell : AtU w rp 0 [.pointer (some ⟨r, 0, none⟩), .slice ba S.base.length bc, .slice la S.l.length lc, .int .i64 S.last]
  base : Own Tryz.prog w w0.heap.size 40 1 ba S.base.length bc (S.base.map strV)
  row : Own Tryz.prog w w0.heap.size 41 6 la S.l.length lc (rowL S.l H)
  hl : H.length = S.l.length
  aft : ∀ (i : Nat) (x : Ch) (h : Option Addr × Nat), S.l[i]? = some x → H[i]? = some h → Row w h.1 (iL x.after) ∧ (x.after ≠ [] → ∀ q, h.1 = some q → rl q.block = 5)
  rp1 : rl rp = 1
  rba : ∀ q, ba = some q → rl q.block = 2
  rla : ∀ q, la = some q → rl q.block = 3
  wf : WFR S
  reg : ∀ x, rl x ≠ 0 → R x
  lo : ∀ x, R x → w0.heap.size ≤ x ∧ x < w.heap.size
  mod : Mod No w0 w
section
variable {w0 w w' : World} {R : Nat → Prop} {rl : Nat → Nat} {rp r vb vc bc lc : Nat} {hs : List (Nat × Nat)} {ba la : Option Addr} {H : List (Option Addr × Nat)} {S : Rs} {K : Value → World → Prop}
theorem row_ne {a : Option Addr} {xs : List Int} (h : Row w a (iL xs)) (hne : xs ≠ []) : ∃ q, a = some q ∧ q.block < w.heap.size := by
  rcases h with h | ⟨b, o, e, hat⟩
  · exact absurd h (iL_ne hne)
  · exact ⟨_, e, hat.lt⟩
theorem RIn.keepS {Z : Nat → Prop} (h : RIn w0 R rl w rp r vb vc hs ba bc la lc H S) (k : Mod Z w w') (hsr : ∀ x, R x → ¬ Z x) (hw : ∀ x, x < w0.heap.size → ¬ Z x) : RIn w0 R rl w' rp r vb vc hs ba bc la lc H S := by
  have hr : ∀ {x}, rl x ≠ 0 → ¬ Z x := fun hx => hsr _ (h.reg _ hx)
  exact {
    disk := h.disk.keep k fun x hx => hr (by omega)
    cell := h.cell.keep k (hr (by rw [h.rp1]; omega))
    base := h.base.keep k fun q hq => hr (by rw [h.rba q hq]; omega)
    row := h.row.keep k fun q hq => hr (by rw [h.rla q hq]; omega)
    hl := h.hl
    aft := fun i x p h1 h2 => by
      obtain ⟨g1, g2⟩ := h.aft i x p h1 h2
      refine ⟨?_, g2⟩
      by_cases hne : x.after = []
      · rw [hne]; exact .inl rfl
      · exact g1.keep k fun q hq => hr (by rw [g2 hne q hq]; omega)
    rp1 := h.rp1
    rba := h.rba
    rla := h.rla
    wf := h.wf
    reg := h.reg
    lo := fun x hx => by have := h.lo x hx; have := k.size; omega
    mod := h.mod.trans k fun x hx e => absurd e (hw x hx) }
theorem RIn.nos (h : RIn w0 R rl w rp r vb vc hs ba bc la lc H S) (k : Mod No w w') : RIn w0 R rl w' rp r vb vc hs ba bc la lc H S := h.keepS k (fun _ _ => id) fun _ _ => id
theorem RIn.drew (h : RIn w0 R rl w rp r vb vc hs ba bc la lc H S) : RIn w0 R rl (Go.Den.drew w) rp r vb vc hs ba bc la lc H S := h.nos (Mod.refl No w).drew
theorem RIn.widen {R' : Nat → Prop} (h : RIn w0 R rl w rp r vb vc hs ba bc la lc H S) (h1 : ∀ x, R x → R' x) (h2 : ∀ x, R' x → w0.heap.size ≤ x ∧ x < w.heap.size) : RIn w0 R' rl w rp r vb vc hs ba bc la lc H S :=
  { h with reg := fun x hx => h1 x (h.reg x hx), lo := h2 }
theorem RIn.gro (h : RIn w0 R rl w rp r vb vc hs ba bc la lc H S) (k : Mod No w w') : RIn w0 (Gro R w w') rl w' rp r vb vc hs ba bc la lc H S :=
  (h.nos k).widen (fun x hx => .inl hx) fun x hx => by
    have := k.size
    have := h.mod.size
    rcases hx with hx | hx
    · have := h.lo x hx; omega
    · omega
theorem RIn.out_of {x : Nat} (h : RIn w0 R rl w rp r vb vc hs ba bc la lc H S) (hx : w.heap.size ≤ x) : rl x = 0 := by
  by_cases e : rl x = 0
  · exact e
  · have := h.lo x (h.reg x e); omega
/-- A step in memory: the parts anew; the disk is as it was. -/
theorem RIn.step {Z : Nat → Prop} {rl' : Nat → Nat} {bc' lc' : Nat} {ba' la' : Option Addr} {H' : List (Option Addr × Nat)} {S' : Rs} (h : RIn w0 R rl w rp r vb vc hs ba bc la lc H S) (hD : S'.D = S.D) (k : Mod Z w w') (hx : Ext w w' rl rl')
    (hS : ∀ x, x < w.heap.size → Z x → rl x ≠ 0 ∧ rl x ≠ 4 ∧ rl x ≠ 5)
    (hcell : AtU w' rp 0 [.pointer (some ⟨r, 0, none⟩), .slice ba' S'.base.length bc', .slice la' S'.l.length lc', .int .i64 S'.last])
    (hbase : Own Tryz.prog w' w0.heap.size 40 1 ba' S'.base.length bc' (S'.base.map strV)) (hrow : Own Tryz.prog w' w0.heap.size 41 6 la' S'.l.length lc' (rowL S'.l H')) (hl : H'.length = S'.l.length)
    (haft : ∀ (i : Nat) (x : Ch) (p : Option Addr × Nat), S'.l[i]? = some x → H'[i]? = some p → (∃ (i0 : Nat) (x0 : Ch), S.l[i0]? = some x0 ∧ H[i0]? = some p ∧ x0.after = x.after) ∨ (Row w' p.1 (iL x.after) ∧ (x.after ≠ [] → ∀ q, p.1 = some q → rl' q.block = 5)))
    (hba : ∀ q, ba' = some q → rl' q.block = 2) (hla : ∀ q, la' = some q → rl' q.block = 3) (hwf : WFR S') :
    RIn w0 (Gro R w w') rl' w' rp r vb vc hs ba' bc' la' lc' H' S' where
  disk := by
    rw [hD]
    have e : (fun x => rl' x = 4) = fun x => rl x = 4 := by
      funext x; apply propext
      exact ⟨hx.dsk x, fun e => by rw [hx.old x (by omega)]; exact e⟩
    rw [e]
    exact h.disk.keep k fun x hx e => by
      have := h.lo x (h.reg x (by omega))
      exact (hS x this.2 e).2.1 hx
  cell := hcell
  base := hbase
  row := hrow
  hl := hl
  aft := fun i x p h1 h2 => by
    rcases haft i x p h1 h2 with ⟨i0, x0, e1, e2, e3⟩ | h
    · obtain ⟨g1, g2⟩ := h.aft i0 x0 p e1 e2
      rw [e3] at g1 g2
      refine ⟨?_, fun hne q hq => by rw [hx.old _ (by rw [g2 hne q hq]; omega)]; exact g2 hne q hq⟩
      by_cases hne : x.after = []
      · rw [hne]; exact .inl rfl
      · exact Row.keep2 g1 k fun q hq hlt e => (hS _ hlt e).2.2 (g2 hne q hq)
    · exact h
  rp1 := by rw [hx.old _ (by rw [h.rp1]; omega)]; exact h.rp1
  rba := hba
  rla := hla
  wf := hwf
  reg := fun x hx' => by
    by_cases e : rl x = 0
    · exact .inr (hx.new x e hx')
    · exact .inl (h.reg x e)
  lo := fun x hx => by
    have := k.size
    have := h.mod.size
    rcases hx with hx | hx
    · have := h.lo x hx; omega
    · omega
  mod := h.mod.trans k fun x hx' e => by
    have hsz := h.mod.size
    have := (hS x (by omega) e).1
    have := h.lo x (h.reg x this)
    omega
theorem RIn.dsk {Z : Nat → Prop} {hs' : List (Nat × Nat)} {D' : St} (h : RIn w0 R rl w rp r vb vc hs ba bc la lc H S) (k : Mod Z w w') (hS : ∀ x, Z x → rl x = 4)
    (hd : RefIn w' (Gro (fun x => rl x = 4) w w') r vb vc hs' D') (hsm : Small D') (hn : D'.vs.length = S.D.vs.length) :
    ∃ rl', RIn w0 (Gro R w w') rl' w' rp r vb vc hs' ba bc la lc H { S with D := D' } := by
  classical
  have hz := k.size
  have old : ∀ x, rl x ≠ 0 → x < w.heap.size := fun x hx => (h.lo x (h.reg x hx)).2
  have e4 : (fun x => (if w.heap.size ≤ x ∧ x < w'.heap.size then 4 else rl x) = 4) = Gro (fun x => rl x = 4) w w' := by
    funext x; apply propext
    unfold Gro
    constructor
    · intro e
      split at e
      · right; assumption
      · left; exact e
    · rintro (e | e)
      · have := old x (by omega)
        rw [if_neg (by omega)]; exact e
      · rw [if_pos e]
  have keepr : ∀ {x}, rl x ≠ 0 → (if w.heap.size ≤ x ∧ x < w'.heap.size then 4 else rl x) = rl x := fun {x} hx => by have := old x hx; rw [if_neg (by omega)]
  refine ⟨fun x => if w.heap.size ≤ x ∧ x < w'.heap.size then 4 else rl x, {
    disk := by rw [e4]; exact hd
    cell := h.cell.keep k fun e => by have := hS _ e; rw [h.rp1] at this; omega
    base := h.base.keep k fun q hq e => by have := hS _ e; rw [h.rba q hq] at this; omega
    row := h.row.keep k fun q hq e => by have := hS _ e; rw [h.rla q hq] at this; omega
    hl := h.hl
    aft := fun i x p h1 h2 => by
      obtain ⟨g1, g2⟩ := h.aft i x p h1 h2
      refine ⟨?_, fun hne q hq => by rw [keepr (by rw [g2 hne q hq]; omega)]; exact g2 hne q hq⟩
      by_cases hne : x.after = []
      · rw [hne]; exact .inl rfl
      · exact g1.keep k fun q hq e => by have := hS _ e; rw [g2 hne q hq] at this; omega
    rp1 := by rw [keepr (by rw [h.rp1]; omega)]; exact h.rp1
    rba := fun q hq => by rw [keepr (by rw [h.rba q hq]; omega)]; exact h.rba q hq
    rla := fun q hq => by rw [keepr (by rw [h.rla q hq]; omega)]; exact h.rla q hq
    wf := { h.wf with len := h.wf.len.trans hn.symm, small := hsm }
    reg := fun x hx => by
      by_cases e : w.heap.size ≤ x ∧ x < w'.heap.size
      · exact .inr e
      · rw [if_neg e] at hx; exact .inl (h.reg x hx)
    lo := fun x hx => by
      have := h.mod.size
      rcases hx with hx | hx
      · have := h.lo x hx; omega
      · omega
    mod := h.mod.trans k fun x hx e => by
      have hne : rl x ≠ 0 := by rw [hS x e]; omega
      have := h.lo x (h.reg x hne); omega }⟩
theorem RIn.ld (h : RIn w0 R rl w rp r vb vc hs ba bc la lc H S) : Ru (Instr.loadAt 27 (.pointer (some (Addr.add ⟨rp, 0, none⟩ 0)))) w (.pointer (some ⟨r, 0, none⟩)) w := by
  rw [add_none]; exact h.cell.at.load (by kernel_rfl) rfl
theorem RIn.lb (h : RIn w0 R rl w rp r vb vc hs ba bc la lc H S) : Ru (Instr.loadAt 40 (.pointer (some (Addr.add ⟨rp, 0, none⟩ 1)))) w (.slice ba S.base.length bc) w := by
  rw [add_none]; exact h.cell.at.load (by kernel_rfl) rfl
theorem RIn.llast (h : RIn w0 R rl w rp r vb vc hs ba bc la lc H S) : Ru (Instr.loadAt 2 (.pointer (some (Addr.add ⟨rp, 0, none⟩ 3)))) w (.int .i64 S.last) w := by
  rw [add_none]; exact h.cell.at.load (by kernel_rfl) rfl
theorem agg_chg : aggN Tryz.prog 186 = some 6 := by kernel_rfl
theorem elemG_chgs : elemG Tryz.prog 41 6 72 := elemG_of (by kernel_rfl)
/-- One change's cells. -/
theorem RIn.at {i : Nat} {x : Ch} (h : RIn w0 R rl w rp r vb vc hs ba bc la lc H S) (hx : S.l[i]? = some x) : ∃ g p, la = some ⟨g, 0, none⟩ ∧ H[i]? = some p ∧ Al (Instr.indexAt 41 (.slice la S.l.length lc) (.int .i64 i)) (.pointer (some ⟨g, i * 6, none⟩)) ∧
    (∀ (j : Nat) (T : TypeId) (v : Value), scal Tryz.prog T = true → (chV x p)[j]? = some v → Ru (Instr.loadAt T (.pointer (some (Addr.add ⟨g, i * 6, none⟩ j)))) w v w) ∧
    Ru (Instr.loadAt 186 (.pointer (some ⟨g, i * 6, none⟩))) w (.agg ⟨chV x p⟩) w ∧ Row w p.1 (iL x.after) := by
  have hi := (List.getElem?_eq_some_iff.1 hx).1
  obtain ⟨g, rfl, hg, hat⟩ := h.row.sm (by omega)
  obtain ⟨p, hp⟩ : ∃ p, H[i]? = some p := ⟨H[i]'(by rw [h.hl]; exact hi), List.getElem?_eq_getElem (by rw [h.hl]; exact hi)⟩
  refine ⟨g, p, rfl, hp, fun w' => ?_, fun j T v hT hj => ?_, ?_, (h.aft i x p hx hp).1⟩
  · have := index_slice (P := Tryz.prog) (T := 41) (k := 6) (a := ⟨g, 0, none⟩) (n := S.l.length) (c := lc) (kk := .i64) (i := i) (by kernel_rfl) (by omega) (by omega) w'
    rw [add_none, show 0 + (i : Int).toNat * 6 = i * 6 by omega] at this
    exact this
  · rw [add_none]
    have := hat.at.load (P := Tryz.prog) (i := i * 6 + j) hT (rowL_cell hx hp hj)
    rwa [Nat.zero_add] at this
  · have := hat.at.loadAgg (P := Tryz.prog) (i := i * 6) agg_chg (by rw [rowL_len h.hl]; omega)
    rw [rowL_get hx hp, Nat.zero_add] at this
    exact this
def meetR (x y : Ch) : Bool := decide (x.b = y.b) && meetB x y
end
end Go.Proofs.YtocjjigmpgekfaaGreat
end
section
/- Layer 11, the document's store: bytes with changes, which may be written, images. -/
open Go Go.Den Go.Proofs
namespace Go.Proofs.YtocjjigmpgekfaaGreat
section
variable {w0 w w' : World} {R : Nat → Prop} {rl : Nat → Nat} {rp r vb vc bc lc : Nat} {hs : List (Nat × Nat)} {ba la : Option Addr} {H : List (Option Addr × Nat)} {S : Rs} {K : Value → World → Prop}
/-- Some changes upon a block's bytes. -/
def rdR (S : Rs) (b : Nat) (f : Ch → Bool) : Bk := withL ((S.base[b]?).getD []) (S.l.filter f)
/-- Which may be written, as the document says: a mark that is as it says. -/
def MayR (S : Rs) (b : Nat) (f : Ch → Bool) : Prop :=
  ∀ (i : Nat) (x : Ch), S.l[i]? = some x → f x = (decide (x.b = b) && (x.after.all (fun k => S.l.all fun y => !decide ((y.id : Int) = k) || (decide (y.b = b) && f y)) && (S.l.take i).all fun y => !meetR y x || f y))
theorem srt_lt {l : List Ch} (h : l.Pairwise fun x y => x.id < y.id) {i j : Nat} {x y : Ch} (hx : l[i]? = some x) (hy : l[j]? = some y) (e : x.id < y.id) : i < j := by
  obtain ⟨h1, rfl⟩ := List.getElem?_eq_some_iff.1 hx
  obtain ⟨h2, rfl⟩ := List.getElem?_eq_some_iff.1 hy
  rcases Nat.lt_trichotomy i j with h' | h' | h'
  · exact h'
  · subst h'; omega
  · have := List.pairwise_iff_getElem.1 h j i h2 h1 h'; omega
theorem srt_uniq {l : List Ch} (h : l.Pairwise fun x y => x.id < y.id) {x y : Ch} (hx : x ∈ l) (hy : y ∈ l) (e : x.id = y.id) : x = y := by
  obtain ⟨i, h1, rfl⟩ := List.getElem_of_mem hx
  obtain ⟨j, h2, rfl⟩ := List.getElem_of_mem hy
  rcases Nat.lt_trichotomy i j with h' | h' | h'
  · have := List.pairwise_iff_getElem.1 h i j h1 h2 h'; omega
  · subst h'; rfl
  · have := List.pairwise_iff_getElem.1 h j i h2 h1 h'; omega
/-- What the marks are, so far: those ahead, the one at hand, none behind. -/
def Mks (S : Rs) (f : Ch → Bool) (i : Nat) (b : Bool) (bs : List Bool) : Prop := bs.length = S.l.length ∧ (∀ j x, j < i → S.l[j]? = some x → bs[j]? = some (f x)) ∧ (i < S.l.length → bs[i]? = some b) ∧ ∀ j, i < j → j < S.l.length → bs[j]? = some false
theorem Mks.set {f : Ch → Bool} {i : Nat} {b b' : Bool} {bs : List Bool} (h : Mks S f i b bs) (hi : i < S.l.length) : Mks S f i b' (bs.set i b') := by
  obtain ⟨h1, h2, h3, h4⟩ := h
  refine ⟨by simpa using h1, fun j x hj hx => ?_, fun _ => ?_, fun j hj hj' => ?_⟩
  · rw [List.getElem?_set_ne (by omega)]; exact h2 j x hj hx
  · rw [List.getElem?_set_self (by omega)]
  · rw [List.getElem?_set_ne (by omega)]; exact h4 j hj hj'
theorem Mks.next {f : Ch → Bool} {i : Nat} {x : Ch} {bs : List Bool} (hx : S.l[i]? = some x) (h : Mks S f i (f x) bs) : Mks S f (i + 1) false bs := by
  obtain ⟨h1, h2, h3, h4⟩ := h
  have hi := (List.getElem?_eq_some_iff.1 hx).1
  refine ⟨h1, fun j y hj hy => ?_, fun hl => h4 _ (by omega) hl, fun j hj hj' => h4 j (by omega) hj'⟩
  by_cases e : j = i
  · subst e; rw [hx] at hy; cases hy; exact h3 hi
  · exact h2 j y (by omega) hy
end
end Go.Proofs.YtocjjigmpgekfaaGreat
end
section
/- Layer 11, the document's store: a change, a write, a flush, a new store. -/
open Go Go.Den Go.Proofs
namespace Go.Den
section
variable {P : Program} {w : World}
theorem cutA_zero {T : TypeId} {base k l c n : Nat} {a : Option Addr} {xs : List Value} (h : Own P w base T k a l c xs) : cutA a n 0 k = a := by
  obtain ⟨e, he, h1, h2⟩ := h
  unfold cutA
  split
  · rfl
  · rcases h2 with ⟨hv, _⟩ | ⟨g, cap, cur, hv, _⟩
    · simp at hv; rw [hv.1]; rfl
    · simp at hv; rw [hv.1]; simp [add_none]
theorem Own.cut3 {T : TypeId} {base k l c : Nat} {a : Option Addr} {xs : List Value} (h : Own P w base T k a l c xs) (hT : elemN P T = some k) (w' : World) :
    (Instr.sliceAt T (.slice a l c) none (some (.int .i64 l)) (some (.int .i64 l))).run P w' = .ok (.slice a l l) w' := by
  have := slice_3 (a := a) hT h.cap.1 w'
  rwa [cutA_zero h] at this
/-- append of one element to a row that is shown as full: the row anew. -/
theorem Own.full {base k bytes l c c2 : Nat} {T ty : TypeId} {a : Option Addr} {ad : Addr} {xs ys : List Value} (hT : elemG P T k bytes) (h : Own P w base T k a l c xs) (hr : Row w (some ad) ys) (hl : ys.length = k)
    (h63 : (l + 1) * bytes ≤ 140737488355328) (hb : 0 < bytes) (hbase : base ≤ w.heap.size) :
    ∃ c' w', (Builtin.append_ #[T, T] ty #[.slice a l l, .slice (some ad) 1 c2]).run P w = .ok (.slice (some ⟨w.heap.size, 0, none⟩) (l + 1) c') w' ∧ Own P w' base T k (some ⟨w.heap.size, 0, none⟩) (l + 1) c' (xs ++ ys) ∧ Mod No w w' ∧ w.heap.size < w'.heap.size := by
  obtain ⟨e, i, zv, he, hi, hsz, hz, hzc, hby⟩ := hT
  obtain ⟨e', he', how⟩ := h
  have : e' = e := by rw [he] at he'; simpa using he'.symm
  subst this
  have hcell : ∀ j u, ys[j]? = some u → w.cell? (ad.add j) = some u := by
    intro j u hj
    rcases hr with hr | ⟨b, o, e, hat⟩
    · subst hr; simp at hj
    · simp at e; subst e; exact hat.cell hj
  have hle : l + 1 ≤ (l + 1) * bytes := Nat.le_mul_of_pos_right _ hb
  have hm : ∀ o : Obj, Mod No w (w.drew.alloc o) := fun o => ((Mod.refl No w).drew (b := w)).alloc o
  have hlen : (xs ++ ys).length = (l + 1) * k := by rw [List.length_append, how.1, hl, Nat.add_mul, Nat.one_mul]
  have hcm : ∀ old, grownCap w (l + 1) old e' ≤ maxLen := fun old => grownCap_le_maxLen w (l + 1) old e' (by simp [maxLen]; omega)
  have hown : ∀ (old : Nat) (arr : Array Value), arr.toList = xs ++ ys → Own P (w.drew.alloc (.cells (arr ++ Builtin.zeroCells zv.cells (grownCap w (l + 1) old e' - (l + 1))) e')) base T k (some ⟨w.heap.size, 0, none⟩) (l + 1) (grownCap w (l + 1) old e') (xs ++ ys) := by
    intro old arr harr
    have hge := grownCap_ge w (l + 1) old e'
    have hasz : arr.size = (l + 1) * k := by rw [← hlen, ← harr, Array.length_toList]
    refine ⟨e', he, hlen, .inr ⟨w.heap.size, _, _, rfl, hbase, heap_new w.drew _, hge, hcm old, ?_, ?_⟩⟩
    · rw [Array.size_append, size_zeroCells, hzc, hasz, ← Nat.add_mul]
      congr 1; omega
    · rw [Array.toList_append, harr, ← hlen]
      exact List.take_left
  rcases how.2 with ⟨hv, hx⟩ | ⟨g, cap, cur, hv, hbg, hg, hnc, hcm', hcs, htake⟩
  · simp at hv
    obtain ⟨rfl, rfl, rfl⟩ := hv
    have hx0 : xs = [] := List.eq_nil_of_length_eq_zero (by have := how.1; omega)
    subst hx0
    have hr2 := run_append_nil (P := P) w T ty e' i zv he hi hz ad 1 c2 ys (by rw [hsz]; omega) hcell (by omega) (by omega) (by rw [hby]; omega)
    refine ⟨_, _, hr2, ?_, hm _, size_drew_alloc _⟩
    have := hown 0 ys.toArray (by simp)
    simpa using this
  · simp at hv
    obtain ⟨rfl, rfl⟩ := hv
    have holds : ∀ j u, xs[j]? = some u → w.cell? ((⟨g, 0, none⟩ : Addr).add j) = some u := how.cells (g := g) rfl
    have hr2 := run_append_grow (P := P) w T ty e' i zv he hi hz ⟨g, 0, none⟩ l l xs (by rw [hsz]; exact how.1) holds ad 1 c2 ys (by rw [hsz]; omega) hcell (by omega) (by omega) (growslice_fits (by omega) (by rw [hby]; exact h63))
    exact ⟨_, _, hr2, hown l (xs.toArray ++ ys.toArray) (by simp), hm _, size_drew_alloc _⟩
end
end Go.Den
namespace Go.Proofs.YtocjjigmpgekfaaGreat
/-- A store as the document has it, in memory. -/
def Rx (w0 : World) (R : Nat → Prop) (w : World) (rp r : Nat) (S : Rs) : Prop := ∃ rl vb vc hs ba bc la lc H, RIn w0 R rl w rp r vb vc hs ba bc la lc H S
section
variable {w0 w w' : World} {R : Nat → Prop} {rl : Nat → Nat} {rp r vb vc bc lc : Nat} {hs : List (Nat × Nat)} {ba la : Option Addr} {H : List (Option Addr × Nat)} {S : Rs} {K : Value → World → Prop}
theorem Rx.nos (h : Rx w0 R w rp r S) (k : Mod No w w') : Rx w0 R w' rp r S := by
  obtain ⟨rl, vb, vc, hs, ba, bc, la, lc, H, h⟩ := h; exact ⟨rl, vb, vc, hs, ba, bc, la, lc, H, h.nos k⟩
theorem Rx.keep {Z : Nat → Prop} (h : Rx w0 R w rp r S) (k : Mod Z w w') (hsr : ∀ x, R x → ¬ Z x) (hw : ∀ x, x < w0.heap.size → ¬ Z x) : Rx w0 R w' rp r S := by
  obtain ⟨rl, vb, vc, hs, ba, bc, la, lc, H, h⟩ := h; exact ⟨rl, vb, vc, hs, ba, bc, la, lc, H, h.keepS k hsr hw⟩
theorem Rx.wf (h : Rx w0 R w rp r S) : WFR S ∧ WF S.D ∧ Mod No w0 w ∧ ∀ x, R x → w0.heap.size ≤ x ∧ x < w.heap.size := by
  obtain ⟨rl, vb, vc, hs, ba, bc, la, lc, H, h⟩ := h; exact ⟨h.wf, h.disk.wf, h.mod, h.lo⟩
theorem Rx.gro (h : Rx w0 R w rp r S) (k : Mod No w w') : Rx w0 (Gro R w w') w' rp r S := by
  obtain ⟨rl, vb, vc, hs, ba, bc, la, lc, H, h⟩ := h; exact ⟨rl, vb, vc, hs, ba, bc, la, lc, H, h.gro k⟩
/-- What is wrong with a change, as the document says. -/
def patER (S : Rs) (n frm : Int) (data : Bk) (after : List Int) : Int :=
  if ¬ (0 ≤ n ∧ n < S.base.length) then 3 else if data.length = 0 ∨ frm < 0 ∨ 256 < frm ∨ 256 - frm < data.length then 4 else if after.any (fun k => !decide (1 ≤ k ∧ k ≤ (S.last : Int))) = true then 1 else 0
def newR (S : Rs) (n frm : Int) (data : Bk) (after : List Int) : Ch := ⟨S.last + 1, n.toNat, frm.toNat, data, after, false⟩
def patSR (S : Rs) (n frm : Int) (data : Bk) (after : List Int) : Rs := if patER S n frm data after = 0 then { S with last := S.last + 1, l := S.l ++ [newR S n frm data after] } else S
def patNR (S : Rs) (n frm : Int) (data : Bk) (after : List Int) : Int := if patER S n frm data after = 0 then (S.last + 1 : Nat) else 0
theorem WFR.add {n frm : Int} {data : Bk} {after : List Int} (h : WFR S) (he : patER S n frm data after = 0) (ha6 : after.length ≤ 1000000) (hl : S.last + 1 ≤ 1000000) : WFR { S with last := S.last + 1, l := S.l ++ [newR S n frm data after] } := by
  unfold patER at he
  split at he
  · omega
  rename_i h1
  split at he
  · omega
  rename_i h2
  split at he
  · omega
  rename_i h3
  have hmem : ∀ {x : Ch}, x ∈ S.l ++ [newR S n frm data after] → x ∈ S.l ∨ x = newR S n frm data after := fun hx => by
    rcases List.mem_append.1 hx with hx | hx
    · exact .inl hx
    · exact .inr (List.mem_singleton.1 hx)
  exact {
    len := h.len
    small := h.small
    bl := h.bl
    dat := fun x hx => by
      rcases hmem hx with hx | rfl
      · exact h.dat x hx
      · show 1 ≤ data.length ∧ frm.toNat + data.length ≤ 256
        omega
    blt := fun x hx => by
      rcases hmem hx with hx | rfl
      · exact h.blt x hx
      · show n.toNat < S.base.length
        omega
    srt := by
      rw [List.pairwise_append]
      refine ⟨h.srt, List.pairwise_singleton _ _, fun x hx y hy => ?_⟩
      rw [List.mem_singleton.1 hy]
      have := h.idr x hx
      show x.id < S.last + 1
      omega
    idr := fun x hx => by
      rcases hmem hx with hx | rfl
      · have := h.idr x hx
        show 1 ≤ x.id ∧ x.id ≤ S.last + 1
        omega
      · show 1 ≤ S.last + 1 ∧ S.last + 1 ≤ S.last + 1
        omega
    aft := fun x hx k hk => by
      rcases hmem hx with hx | rfl
      · exact h.aft x hx k hk
      · have hk : k ∈ after := hk
        have h3 : ∀ k ∈ after, 1 ≤ k ∧ k ≤ (S.last : Int) := by simpa using h3
        have := h3 k hk
        show k < ((S.last + 1 : Nat) : Int)
        omega
    aftn := fun x hx => by
      rcases hmem hx with hx | rfl
      · exact h.aftn x hx
      · exact ha6
    last := hl }
end
end Go.Proofs.YtocjjigmpgekfaaGreat
end
section
/- Layer 11, the document's store: a write, a flush, a new store. -/
open Go Go.Den Go.Proofs
namespace Go.Proofs.YtocjjigmpgekfaaGreat
section
variable {w0 w w' : World} {R : Nat → Prop} {rl : Nat → Nat} {rp r vb vc bc lc : Nat} {hs : List (Nat × Nat)} {ba la : Option Addr} {H : List (Option Addr × Nat)} {S : Rs} {K : Value → World → Prop}
def outF (f : Ch → Bool) (x : Ch) : Ch := { x with out := x.out || f x }
def wrER (S : Rs) (n : Int) : Int := if ¬ (0 ≤ n ∧ n < S.base.length) then 3 else if (S.l.any fun x => decide ((x.b : Int) = n)) = true then 0 else 20
def wrSR (S : Rs) (n : Int) (f : Ch → Bool) : Rs := if wrER S n = 0 then { S with D := wrSt S.D n (rdR S n.toNat f), l := S.l.map (outF f) } else S
theorem WFR.map {f : Ch → Ch} (h : WFR S) (hf : Like f) : WFR { S with l := S.l.map f } := by
  have hm : ∀ {y : Ch}, y ∈ S.l.map f → ∃ x ∈ S.l, y = f x := fun hy => by obtain ⟨x, hx, rfl⟩ := List.mem_map.1 hy; exact ⟨x, hx, rfl⟩
  exact {
    len := h.len
    small := h.small
    bl := h.bl
    dat := fun y hy => by obtain ⟨x, hx, rfl⟩ := hm hy; rw [hf.data, hf.frm]; exact h.dat x hx
    blt := fun y hy => by obtain ⟨x, hx, rfl⟩ := hm hy; rw [hf.b]; exact h.blt x hx
    srt := List.Pairwise.map _ (fun a b hab => by rw [hf.id, hf.id]; exact hab) h.srt
    idr := fun y hy => by obtain ⟨x, hx, rfl⟩ := hm hy; rw [hf.id]; exact h.idr x hx
    aft := fun y hy => by obtain ⟨x, hx, rfl⟩ := hm hy; rw [hf.after, hf.id]; exact h.aft x hx
    aftn := fun y hy => by obtain ⟨x, hx, rfl⟩ := hm hy; rw [hf.after]; exact h.aftn x hx
    last := h.last }
theorem WFR.dsk {D : St} (h : WFR S) (hs : Small D) (hn : D.vs.length = S.D.vs.length) : WFR { S with D := D } := { h with len := h.len.trans hn.symm, small := hs }
theorem Rx.dsk {Z : Nat → Prop} {rl : Nat → Nat} {hs' : List (Nat × Nat)} {D' : St} (h : RIn w0 R rl w rp r vb vc hs ba bc la lc H S) (k : Mod Z w w') (hS : ∀ x, Z x → rl x = 4)
    (hd : RefIn w' (Gro (fun x => rl x = 4) w w') r vb vc hs' D') (hsm : Small D') (hn : D'.vs.length = S.D.vs.length) : Rx w0 (Gro R w w') w' rp r { S with D := D' } := by
  obtain ⟨rl', h'⟩ := h.dsk k hS hd hsm hn
  exact ⟨rl', vb, vc, hs', ba, bc, la, lc, H, h'⟩
/-- A flush, as the document says. -/
def basR (S : Rs) (l : List Ch) : List Bk := S.base.mapIdx fun b x => withL x (l.filter fun c => decide (c.b = b) && c.out)
def flR (S : Rs) : Rs := { S with D := flSt S.D, base := basR S S.l, l := S.l.filter fun x => !x.out }
theorem basR_len (S : Rs) (l : List Ch) : (basR S l).length = S.base.length := by unfold basR; simp
theorem basR_get {S : Rs} {l : List Ch} {b : Nat} (hb : b < S.base.length) : (basR S l)[b]? = some (withL S.base[b] (l.filter fun c => decide (c.b = b) && c.out)) := by
  unfold basR
  rw [List.getElem?_mapIdx, List.getElem?_eq_getElem hb]; rfl
theorem withL_256 {b : Bk} {l : List Ch} (hb : b.length = 256) (hl : ∀ x ∈ l, x.frm + x.data.length ≤ 256) : (withL b l).length = 256 := withL_len hb l hl
theorem WFR.base {l : List Ch} (h : WFR S) (hl : ∀ x ∈ l, x ∈ S.l) : WFR { S with base := basR S l } := { h with
  len := by rw [← h.len]; exact basR_len S l
  bl := fun b hb => by
    have hb : b ∈ basR S l := hb
    obtain ⟨i, hi, rfl⟩ := List.getElem_of_mem hb
    rw [basR_len] at hi
    have := basR_get (l := l) hi
    rw [List.getElem?_eq_getElem (by rw [basR_len]; exact hi)] at this
    rw [Option.some.inj this]
    exact withL_256 (h.bl _ (List.getElem_mem hi)) fun x hx => (h.dat x (hl x (List.mem_filter.1 hx).1)).2
  blt := fun x hx => by
    show x.b < (basR S l).length
    rw [basR_len]; exact h.blt x hx }
theorem WFR.sub {p : Ch → Bool} (h : WFR S) : WFR { S with l := S.l.filter p } := { h with
  dat := fun x hx => h.dat x (List.mem_filter.1 hx).1
  blt := fun x hx => h.blt x (List.mem_filter.1 hx).1
  srt := h.srt.filter p
  idr := fun x hx => h.idr x (List.mem_filter.1 hx).1
  aft := fun x hx => h.aft x (List.mem_filter.1 hx).1
  aftn := fun x hx => h.aftn x (List.mem_filter.1 hx).1 }
end
end Go.Proofs.YtocjjigmpgekfaaGreat
end
section
/- Layer 11: what waits with a change, in plain terms; the document's store: what waits; lists alike; a new store. -/
open Go Go.Den Go.Proofs
namespace Go.Proofs.YtocjjigmpgekfaaGreat
/-- From the last change on to the first: those wanted, and what they want. -/
def cloR : List Ch → List Int → List Int
  | [], _ => []
  | x :: r, acc => if acc.contains (x.id : Int) = true then cloR r (acc ++ x.after ++ (r.filter fun y => meetR y x).map fun y => (y.id : Int)) ++ [(x.id : Int)] else cloR r acc
def waitsL (l : List Ch) (n : Int) : List Int := cloR l.reverse [n]
theorem cloR_sub : ∀ (l : List Ch) (acc : List Int), ∀ k ∈ cloR l acc, ∃ x ∈ l, k = (x.id : Int)
  | [], _, k, h => by cases h
  | x :: r, acc, k, h => by
    unfold cloR at h
    split at h
    · rcases List.mem_append.1 h with h | h
      · obtain ⟨y, hy, e⟩ := cloR_sub r _ k h; exact ⟨y, List.mem_cons_of_mem _ hy, e⟩
      · exact ⟨x, List.mem_cons_self, List.mem_singleton.1 h⟩
    · obtain ⟨y, hy, e⟩ := cloR_sub r _ k h; exact ⟨y, List.mem_cons_of_mem _ hy, e⟩
theorem cloR_srt : ∀ {l : List Ch} {acc : List Int}, l.Pairwise (fun x y => y.id < x.id) → (cloR l acc).Pairwise (· < ·)
  | [], _, _ => List.Pairwise.nil
  | x :: r, acc, h => by
    obtain ⟨h1, h2⟩ := List.pairwise_cons.1 h
    unfold cloR
    split
    · rw [List.pairwise_append]
      refine ⟨cloR_srt h2, List.pairwise_singleton _ _, fun a ha b hb => ?_⟩
      obtain ⟨y, hy, rfl⟩ := cloR_sub r _ a ha
      rw [List.mem_singleton.1 hb]
      have := h1 y hy
      omega
    · exact cloR_srt h2
theorem cloR_skip {l : List Ch} {x : Ch} {acc : List Int} (h : acc.contains (x.id : Int) = false) : cloR (x :: l) acc = cloR l acc := by
  rw [cloR, if_neg (by rw [h]; simp)]
section
variable {w0 w w' : World} {R : Nat → Prop} {rl : Nat → Nat} {rp r vb vc bc lc : Nat} {hs : List (Nat × Nat)} {ba la : Option Addr} {H : List (Option Addr × Nat)} {S : Rs} {K : Value → World → Prop}
/-- The marks so far: those ahead as the wanted are, those behind told already. -/
structure Wm (S : Rs) (n : Int) (i : Nat) (bs : List Bool) (acc : List Int) : Prop where
  len : bs.length = S.l.length
  lo : ∀ (j : Nat) (x : Ch), j < i → S.l[j]? = some x → bs[j]? = some (acc.contains (x.id : Int))
  out : waitsL S.l n = cloR (S.l.take i).reverse acc ++ ((S.l.zip bs).drop i |>.filter (·.2)).map fun p => (p.1.id : Int)
theorem take_rev {l : List Ch} {i : Nat} (hi : i < l.length) : (l.take (i + 1)).reverse = l[i] :: (l.take i).reverse := by
  rw [List.take_succ_eq_append_getElem hi, List.reverse_append]; rfl
theorem zdrop (l : List Ch) (bs : List Bool) (i : Nat) : (l.zip bs).drop i = (l.drop i).zip (bs.drop i) := by unfold List.zip; exact List.drop_zipWith
theorem zip_drop {l : List Ch} {bs : List Bool} {i : Nat} {x : Ch} {b : Bool} (hx : l[i]? = some x) (hb : bs[i]? = some b) : (l.zip bs).drop i = (x, b) :: (l.zip bs).drop (i + 1) := by
  have hz : (l.zip bs)[i]? = some (x, b) := by rw [List.getElem?_zip_eq_some]; exact ⟨hx, hb⟩
  obtain ⟨hi, e⟩ := List.getElem?_eq_some_iff.1 hz
  rw [List.drop_eq_getElem_cons hi, e]
theorem Wm.start {k : Nat} {x : Ch} (hw : WFR S) (hx : S.l[k]? = some x) : Wm S x.id (k + 1) ((List.replicate S.l.length false).set k true) [(x.id : Int)] := by
  have hk := (List.getElem?_eq_some_iff.1 hx).1
  refine ⟨by simp, fun j y hj hy => ?_, ?_⟩
  · have hjl := (List.getElem?_eq_some_iff.1 hy).1
    by_cases e : j = k
    · subst e
      rw [List.getElem?_set_self (by simpa using hk)]
      rw [hx] at hy; cases hy; simp
    · rw [List.getElem?_set_ne (fun e' => e e'.symm), List.getElem?_replicate, if_pos hjl]
      have : y.id ≠ x.id := fun e2 => e (by
        have := srt_uniq hw.srt (List.mem_of_getElem? hy) (List.mem_of_getElem? hx) e2
        subst this
        obtain ⟨h1, e1⟩ := List.getElem?_eq_some_iff.1 hx
        obtain ⟨h3, e3⟩ := List.getElem?_eq_some_iff.1 hy
        rcases Nat.lt_trichotomy j k with h | h | h
        · have := List.pairwise_iff_getElem.1 hw.srt j k h3 h1 h; rw [e1, e3] at this; omega
        · exact h
        · have := List.pairwise_iff_getElem.1 hw.srt k j h1 h3 h; rw [e1, e3] at this; omega)
      congr 1
      symm
      rw [Bool.eq_false_iff]
      intro hc
      rw [List.contains_iff_mem, List.mem_singleton] at hc
      omega
  · have e2 : ((S.l.zip ((List.replicate S.l.length false).set k true)).drop (k + 1)).filter (·.2) = [] := by
      rw [List.filter_eq_nil_iff]
      intro p hp
      obtain ⟨j, hj, rfl⟩ := List.getElem_of_mem hp
      have hg := List.getElem?_eq_getElem hj
      rw [List.getElem?_drop, List.getElem?_zip_eq_some, List.getElem?_set_ne (by omega), List.getElem?_replicate] at hg
      have hg2 := hg.2
      split at hg2
      · rw [← Option.some.inj hg2]; simp
      · cases hg2
    rw [e2, List.map_nil, List.append_nil]
    -- those behind it are not wanted
    have key : ∀ m, k + 1 ≤ m → m ≤ S.l.length → cloR (S.l.take m).reverse [(x.id : Int)] = cloR (S.l.take (k + 1)).reverse [(x.id : Int)] := by
      intro m hm
      induction m with
      | zero => omega
      | succ m ih =>
        intro hml
        by_cases e : m = k
        · subst e; rfl
        · rw [take_rev (by omega), cloR_skip, ih (by omega) (by omega)]
          have hlt := List.pairwise_iff_getElem.1 hw.srt k m hk (by omega) (by omega)
          have hxe : S.l[k] = x := by rw [List.getElem?_eq_getElem hk] at hx; exact Option.some.inj hx
          rw [hxe] at hlt
          rw [Bool.eq_false_iff]
          intro hc
          rw [List.contains_iff_mem, List.mem_singleton] at hc
          omega
    have := key S.l.length (by omega) (Nat.le_refl _)
    rw [List.take_length] at this
    exact this
theorem Wm.down {n : Int} {i : Nat} {bs : List Bool} {acc : List Int} {x : Ch} (h : Wm S n (i + 1) bs acc) (hx : S.l[i]? = some x) (hb : bs[i]? = some false) : Wm S n i bs acc := by
  have hc : acc.contains (x.id : Int) = false := by
    have := h.lo i x (by omega) hx
    rw [hb] at this; exact (Option.some.inj this).symm
  obtain ⟨hi, e⟩ := List.getElem?_eq_some_iff.1 hx
  refine ⟨h.len, fun j y hj hy => h.lo j y (by omega) hy, ?_⟩
  rw [h.out, take_rev hi, e, cloR_skip hc, zip_drop hx hb]; rfl
/-- One is wanted: what it wants is. -/
theorem Wm.take (hw : WFR S) {n : Int} {i : Nat} {bs bs' : List Bool} {acc : List Int} {x : Ch} (h : Wm S n (i + 1) bs acc) (hx : S.l[i]? = some x) (hb : bs[i]? = some true) (hl : bs'.length = S.l.length)
    (hlo : ∀ (j : Nat) (y : Ch), j < i → S.l[j]? = some y → bs'[j]? = some (acc.contains (y.id : Int) || x.after.contains (y.id : Int) || meetR y x)) (hhi : ∀ j, i ≤ j → bs'[j]? = bs[j]?) :
    Wm S n i bs' (acc ++ x.after ++ ((S.l.take i).reverse.filter fun y => meetR y x).map fun y => (y.id : Int)) := by
  have hc : acc.contains (x.id : Int) = true := by
    have := h.lo i x (by omega) hx
    rw [hb] at this; exact (Option.some.inj this).symm
  obtain ⟨hi, e⟩ := List.getElem?_eq_some_iff.1 hx
  refine ⟨hl, fun j y hj hy => ?_, ?_⟩
  · rw [hlo j y hj hy]
    congr 1
    rw [Bool.eq_iff_iff, Bool.or_eq_true, Bool.or_eq_true, List.contains_iff_mem, List.contains_iff_mem, List.contains_iff_mem, List.mem_append, List.mem_append]
    refine or_congr_right ?_
    rw [List.mem_map]
    have hym : y ∈ (S.l.take i).reverse := by
      rw [List.mem_reverse]
      obtain ⟨hj2, e2⟩ := List.getElem?_eq_some_iff.1 hy
      rw [List.mem_take_iff_getElem]
      exact ⟨j, by omega, e2⟩
    constructor
    · intro hm; exact ⟨y, List.mem_filter.2 ⟨hym, hm⟩, rfl⟩
    · rintro ⟨z, hz, ez⟩
      obtain ⟨hz1, hz2⟩ := List.mem_filter.1 hz
      have : z = y := srt_uniq hw.srt (List.mem_of_mem_take (List.mem_reverse.1 hz1)) (List.mem_of_getElem? hy) (by omega)
      rw [← this]; exact hz2
  · rw [h.out, take_rev hi, e, cloR, if_pos hc, zip_drop hx (by rw [hhi i (Nat.le_refl _)]; exact hb)]
    have e3 : (S.l.zip bs').drop (i + 1) = (S.l.zip bs).drop (i + 1) := by
      rw [zdrop, zdrop]
      congr 1
      refine List.ext_getElem? fun k => ?_
      rw [List.getElem?_drop, List.getElem?_drop, hhi _ (by omega)]
    rw [e3, List.append_assoc]; rfl
theorem srt_lt2 {l : List Ch} (h : l.Pairwise fun x y => x.id < y.id) {i j : Nat} {x y : Ch} (hx : l[i]? = some x) (hy : l[j]? = some y) (e : i < j) : x.id < y.id := by
  obtain ⟨h1, rfl⟩ := List.getElem?_eq_some_iff.1 hx
  obtain ⟨h2, rfl⟩ := List.getElem?_eq_some_iff.1 hy
  exact List.pairwise_iff_getElem.1 h i j h1 h2 e
theorem build_rst (w : World) (p : Option Addr) : (Instr.build 43 #[(0, .pointer p)]).run Tryz.prog w = .ok (.agg ⟨[.pointer p, .slice none 0 0, .slice none 0 0, .int .i64 0]⟩) w := by kernel_rfl
theorem box_rst (w : World) (cs : List Value) : (Instr.box 43 (.agg ⟨cs⟩)).run Tryz.prog w = .ok (.pointer (some ⟨w.heap.size, 0, none⟩)) (w.alloc (.cells ⟨cs⟩ 43)) := rfl
theorem elemG_strs : elemG Tryz.prog 40 1 16 := elemG_of (by kernel_rfl)
def newRs (D : St) : Rs := ⟨D, (List.range D.vs.length).map fun b => atD D b, [], 0⟩
theorem rOpen11_c {D : St} (hd : RefIn w R r vb vc hs D) (hsm : Small D) (hlo : ∀ x, R x → w0.heap.size ≤ x ∧ x < w.heap.size) (hm : Mod No w0 w)
    (hk : ∀ w' rp, Mod No w w' → Rx w0 (Gro R w w') w' rp r (newRs D) → K (.pointer (some ⟨rp, 0, none⟩)) w') : Cal Tryz.prog F_leveeref11_Open #[.pointer (some ⟨r, 0, none⟩)] w K := by
  classical
  apply C_leveeref11_Open
  unfold D_leveeref11_Open
  refine ⟨_, fun w => build_rst w _, _, _, box_rst _ _, ?_⟩
  have hhi := hd.wf.hi
  have m1 : Mod No w (w.alloc (.cells ⟨[.pointer (some ⟨r, 0, none⟩), .slice none 0 0, .slice none 0 0, .int .i64 0]⟩ 43)) := (Mod.refl No w).alloc _
  have a1 : AtU (w.alloc (.cells ⟨[.pointer (some ⟨r, 0, none⟩), .slice none 0 0, .slice none 0 0, .int .i64 0]⟩ 43)) w.heap.size 0 [.pointer (some ⟨r, 0, none⟩), .slice none 0 0, .slice none 0 0, .int .i64 0] := AtU.new
  have s1 : (w.alloc (.cells ⟨[.pointer (some ⟨r, 0, none⟩), .slice none 0 0, .slice none 0 0, .int .i64 0]⟩ 43)).heap.size = w.heap.size + 1 := by simp
  generalize w.alloc (.cells ⟨[.pointer (some ⟨r, 0, none⟩), .slice none 0 0, .slice none 0 0, .int .i64 0]⟩ 43) = w1 at *
  refine ⟨fun x w2 => ∃ (i : Nat) (a : Option Addr) (c : Nat), x = [.int .i64 i] ∧ i ≤ D.vs.length ∧ AtU w2 w.heap.size 0 [.pointer (some ⟨r, 0, none⟩), .slice a i c, .slice none 0 0, .int .i64 0] ∧ Own Tryz.prog w2 w1.heap.size 40 1 a i c (((List.range i).map fun b => atD D b).map strV) ∧ Mod No w w2, fun x _ => (D.vs.length - nI x 0).toNat,
    ⟨0, none, 0, rfl, by omega, a1, Own.nilG elemG_strs, m1⟩, ?_⟩
  rintro x w2 ⟨i, a, c, rfl, hi, a2, o2, m2⟩
  have hd2 := hd.nos m2
  have hz2 := m2.size
  have hlt2 := a2.lt
  have ob : ∀ {q}, a = some q → _ := fun {q} hq => o2.base (q := q) hq
  refine ⟨_, rfl, _, rfl, _, _, _, rv hd2, cond_of (fun hb => ?_) (fun hb => ?_)⟩
  · have hi : i < D.vs.length := by have := of_decide_eq_true hb; omega
    have hat := rd_at D hi
    refine refRead_c (n := (i : Int)) hd2 hsm fun w3 a3 c3 m3 f3 => ⟨_, _, _, _, rfl, _, rfl, ?_⟩
    rw [hat.2] at f3 ⊢
    have M3 := m2.no m3
    have a3' := (a2.keep m3 id).drew
    have f3' := f3.nos (Mod.refl No w3).drew
    have hl256 : (atD D i).length = 256 := by
      unfold atD
      rw [ver_at hi]
      exact hd.wf.lastLen (List.getElem?_eq_getElem hi)
    have ld : ∀ {w' : World} (_ : AtU w' w.heap.size 0 [.pointer (some ⟨r, 0, none⟩), .slice a i c, .slice none 0 0, .int .i64 0]), Ru (Instr.loadAt 40 (.pointer (some (Addr.add ⟨w.heap.size, 0, none⟩ 1)))) w' (.slice a i c) w' := fun h => by rw [add_none]; exact h.at.load (by kernel_rfl) rfl
    refine ⟨_, _, _, ld a3', _, str_run (by kernel_rfl) f3'.row rfl, _, _, _, _, built_str _ _, ?_⟩
    have m4 : Mod No (drew w3) ((drew w3).alloc (.cells ⟨[.string ⟨(atD D i).toArray⟩]⟩ 9)) := (Mod.refl No _).alloc _
    have r4 : Row ((drew w3).alloc (.cells ⟨[.string ⟨(atD D i).toArray⟩]⟩ 9)) (some ⟨(drew w3).heap.size, 0, none⟩) [strV (atD D i)] := .inr ⟨_, _, rfl, AtU.new.at⟩
    generalize (drew w3).alloc (.cells ⟨[.string ⟨(atD D i).toArray⟩]⟩ 9) = w4 at *
    have a4 := a3'.keep m4 id
    have hz3 := m3.size
    have hz4 : w3.heap.size ≤ w4.heap.size := m4.size
    obtain ⟨q, c', w5, run, p5, mm, hq5⟩ := (((o2.nos m3).nos (Mod.refl No w3).drew).nos m4).appG (ty := 40) (m := 1) (c2 := 1) elemG_strs (by omega) r4 rfl (by omega) (by intro v hv; rw [List.mem_singleton.1 hv]; rfl) (by omega) (by omega) (by omega)
    have hz5 := mm.size
    have a5 := a4.keep mm fun ⟨q', hq', e⟩ => by have := (ob hq').1; omega
    obtain ⟨w6, st6, a6, m6, _⟩ := a5.store (P := Tryz.prog) (T := 40) (i := 1) (v := .slice (some q) (i + 1) c') (by kernel_rfl) (by simp) rfl
    refine ⟨ld a4, _, _, _, w5, run, _, rfl, w6, by rw [add_none]; exact st6, ?_⟩
    rw [wrap64 (x := (i : Int) + 1) (by omega) (by omega)]
    refine ⟨⟨i + 1, some q, c', rfl, by omega, a6, ?_, ((((m2.no m3).no (Mod.refl No w3).drew).no m4).trans mm fun z hz ⟨q', hq', e⟩ => by have := (ob hq').1; omega).trans m6 fun z hz e => by have e : z = w.heap.size := e; omega⟩, by simp [nI, nth]; omega⟩
    rw [List.range_succ, List.map_append, List.map_append]
    exact p5.keep m6 fun q' hq' e => by
      cases hq'
      have e : q.block = w.heap.size := e
      rcases hq5 with ⟨q', hq', e2⟩ | e2
      · have := (ob hq').1; omega
      · omega
  · have hi : i = D.vs.length := by have := of_decide_eq_false hb; omega
    subst hi
    have hw0 := hm.size
    have hR : ∀ x, R x → x ≠ w.heap.size := fun x hx => by have := hlo x hx; omega
    refine hk w2 w.heap.size m2 ⟨fun x => if x = w.heap.size then 1 else if R x then 4 else if w1.heap.size ≤ x ∧ x < w2.heap.size then 2 else 0, vb, vc, hs, a, c, none, 0, [], {
      disk := ?_
      cell := by
        show AtU w2 w.heap.size 0 [.pointer (some ⟨r, 0, none⟩), .slice a ((List.range D.vs.length).map fun b => atD D b).length c, .slice none 0 0, .int .i64 0]
        rw [List.length_map, List.length_range]; exact a2
      base := by
        show Own Tryz.prog w2 w0.heap.size 40 1 a ((List.range D.vs.length).map fun b => atD D b).length c _
        rw [List.length_map, List.length_range]; exact o2.mono (by omega)
      row := Own.nilG elemG_chgs
      hl := rfl
      aft := fun i x p hx => by cases hx
      rp1 := by rw [if_pos rfl]
      rba := fun q hq => by
        have := ob hq
        have hn : ¬ R q.block := fun e => by have := hlo _ e; omega
        rw [if_neg (by omega), if_neg hn, if_pos (by omega)]
      rla := fun q hq => by cases hq
      wf := {
        len := by show ((List.range D.vs.length).map fun b => atD D b).length = D.vs.length; rw [List.length_map, List.length_range]
        small := hsm
        bl := fun b hb => by
          obtain ⟨i, hi, rfl⟩ := List.mem_map.1 hb
          have hi := List.mem_range.1 hi
          unfold atD
          rw [ver_at hi]
          exact hd.wf.lastLen (List.getElem?_eq_getElem hi)
        dat := fun x hx => by cases hx
        blt := fun x hx => by cases hx
        srt := List.Pairwise.nil
        idr := fun x hx => by cases hx
        aft := fun x hx => by cases hx
        aftn := fun x hx => by cases hx
        last := by show 0 ≤ 1000000; omega }
      reg := fun x hx => by
        by_cases hRx : R x
        · exact .inl hRx
        · right
          by_cases e1 : x = w.heap.size
          · omega
          · rw [if_neg e1, if_neg hRx] at hx
            split at hx
            · omega
            · exact absurd rfl hx
      lo := fun x hx => by
        rcases hx with hx | hx
        · have := hlo x hx; omega
        · omega
      mod := hm.no m2 }⟩
    have e4 : (fun x => (if x = w.heap.size then 1 else if R x then 4 else if w1.heap.size ≤ x ∧ x < w2.heap.size then 2 else 0) = 4) = R := by
      funext x
      apply propext
      constructor
      · intro e
        split at e
        · omega
        · split at e
          · assumption
          · split at e <;> omega
      · intro hx
        rw [if_neg (hR x hx), if_pos hx]
    rw [e4]
    exact hd2
end
end Go.Proofs.YtocjjigmpgekfaaGreat
end
section
/- Layer 11, the program's store: what waits with a change. -/
open Go Go.Den Go.Proofs
namespace Go.Proofs.YtocjjigmpgekfaaGreat
/-- A change waits for another one. -/
def Dep (x z : Ch) : Prop := (z.id : Int) ∈ x.after ∨ (z.id < x.id ∧ meetR z x = true)
inductive Rc (l : List Ch) : Ch → Ch → Prop
  | refl (x : Ch) : Rc l x x
  | head {x z y : Ch} : z ∈ l → Dep x z → Rc l z y → Rc l x y
theorem Rc.trans {l : List Ch} {x y z : Ch} (h : Rc l x y) (k : Rc l y z) : Rc l x z := by
  induction h with
  | refl => exact k
  | head a b _ ih => exact Rc.head a b (ih k)
theorem Rc.mono {l l' : List Ch} {x y : Ch} (h : Rc l x y) (hs : ∀ z ∈ l, z ∈ l') : Rc l' x y := by
  induction h with
  | refl => exact Rc.refl _
  | head a b _ ih => exact Rc.head (hs _ a) b ih
theorem Rc.mem {l : List Ch} {x y : Ch} (h : Rc l x y) (hx : x ∈ l) : y ∈ l := by
  induction h with
  | refl => exact hx
  | head a _ _ ih => exact ih a
theorem Dep.lt {x z : Ch} (h : Dep x z) (ha : ∀ k ∈ x.after, k < (x.id : Int)) : z.id < x.id := by
  rcases h with h | h
  · have := ha _ h; omega
  · exact h.1
theorem Rc.down {x0 : Ch} {r : List Ch} {z y : Ch} (h : Rc (x0 :: r) z y) (hz : z ∈ r) (hlt : ∀ u ∈ r, u.id < x0.id) (ha : ∀ u ∈ r, ∀ k ∈ u.after, k < (u.id : Int)) : Rc r z y := by
  induction h with
  | refl => exact Rc.refl _
  | @head x z y hm hd _ ih =>
    have h1 := hd.lt (ha x hz)
    have h2 := hlt x hz
    have hzr : z ∈ r := by
      rcases List.mem_cons.1 hm with e | e
      · subst e; omega
      · exact e
    exact Rc.head hzr hd (ih hzr)
theorem mem_clo : ∀ {l : List Ch} {acc : List Int} {k : Int}, l.Pairwise (fun x y => y.id < x.id) → (∀ u ∈ l, ∀ k ∈ u.after, k < (u.id : Int)) → (k ∈ cloR l acc ↔ ∃ x ∈ l, (x.id : Int) ∈ acc ∧ ∃ y, Rc l x y ∧ k = (y.id : Int))
  | [], acc, k, _, _ => by
    constructor
    · intro h; cases h
    · rintro ⟨x, hx, _⟩; cases hx
  | x :: r, acc, k, hp, ha => by
    obtain ⟨h1, h2⟩ := List.pairwise_cons.1 hp
    have har : ∀ u ∈ r, ∀ k ∈ u.after, k < (u.id : Int) := fun u hu => ha u (List.mem_cons_of_mem _ hu)
    have hax := ha x List.mem_cons_self
    have up : ∀ z ∈ r, z ∈ x :: r := fun z hz => List.mem_cons_of_mem _ hz
    unfold cloR
    split
    · rename_i hc
      rw [List.contains_iff_mem] at hc
      rw [List.mem_append, mem_clo h2 har, List.mem_singleton]
      constructor
      · rintro (⟨u, hu, hacc, y, hy, rfl⟩ | rfl)
        · have hdu : (u.id : Int) ∈ acc ∨ Dep x u := by
            rcases List.mem_append.1 hacc with h | h
            · rcases List.mem_append.1 h with h | h
              · exact .inl h
              · exact .inr (.inl h)
            · obtain ⟨v, hv, e⟩ := List.mem_map.1 h
              obtain ⟨hv1, hv2⟩ := List.mem_filter.1 hv
              have : v = u := by
                rcases List.mem_iff_getElem.1 hv1 with ⟨i, hi, e1⟩
                rcases List.mem_iff_getElem.1 hu with ⟨j, hj, e2⟩
                rcases Nat.lt_trichotomy i j with h | h | h
                · have := List.pairwise_iff_getElem.1 h2 i j hi hj h; rw [e1, e2] at this; omega
                · subst h; rw [← e1, ← e2]
                · have := List.pairwise_iff_getElem.1 h2 j i hj hi h; rw [e1, e2] at this; omega
              subst this
              exact .inr (.inr ⟨h1 v hv1, hv2⟩)
          rcases hdu with h | h
          · exact ⟨u, up u hu, h, y, hy.mono up, rfl⟩
          · exact ⟨x, List.mem_cons_self, hc, y, Rc.head (up u hu) h (hy.mono up), rfl⟩
        · exact ⟨x, List.mem_cons_self, hc, x, Rc.refl _, rfl⟩
      · rintro ⟨u, hu, hacc, y, hy, rfl⟩
        rcases List.mem_cons.1 hu with e | hur
        · subst e
          cases hy with
          | refl => exact .inr rfl
          | @head _ z _ hz hd hzy =>
            have hlt := hd.lt hax
            have hzr : z ∈ r := by
              rcases List.mem_cons.1 hz with e | e
              · subst e; omega
              · exact e
            refine .inl ⟨z, hzr, ?_, y, hzy.down hzr h1 har, rfl⟩
            rcases hd with hd | hd
            · exact List.mem_append_left _ (List.mem_append_right _ hd)
            · exact List.mem_append_right _ (List.mem_map.2 ⟨z, List.mem_filter.2 ⟨hzr, hd.2⟩, rfl⟩)
        · exact .inl ⟨u, hur, List.mem_append_left _ (List.mem_append_left _ hacc), y, hy.down hur h1 har, rfl⟩
    · rename_i hc
      rw [List.contains_iff_mem] at hc
      rw [mem_clo h2 har]
      constructor
      · rintro ⟨u, hu, hacc, y, hy, rfl⟩
        exact ⟨u, up u hu, hacc, y, hy.mono up, rfl⟩
      · rintro ⟨u, hu, hacc, y, hy, rfl⟩
        rcases List.mem_cons.1 hu with e | hur
        · subst e; exact absurd hacc hc
        · exact ⟨u, hur, hacc, y, hy.down hur h1 har, rfl⟩
/-- The open changes by their numbers; what waits with one. -/
def srtV (V : Ps) : List Ch := V.all.mergeSort fun x y => decide (x.id ≤ y.id)
def waitsV (V : Ps) (n : Int) : List Int := waitsL (srtV V) n
theorem srtV_perm (V : Ps) : (srtV V).Perm V.all := List.mergeSort_perm _ _
theorem srtV_srt {V : Ps} (h : WFS V) : (srtV V).Pairwise fun x y => x.id < y.id := by
  have h1 : (srtV V).Pairwise fun x y => decide (x.id ≤ y.id) = true := List.pairwise_mergeSort (fun a b c h1 h2 => by simp only [decide_eq_true_eq] at *; omega) (fun a b => by simp only [Bool.or_eq_true, decide_eq_true_eq]; omega) _
  have h2 : ((srtV V).map (·.id)).Nodup := ((srtV_perm V).map (·.id)).nodup_iff.2 h.ids
  have h2 : (srtV V).Pairwise fun x y => x.id ≠ y.id := List.pairwise_map.1 h2
  exact (h1.and h2).imp fun ⟨a, b⟩ => by simp only [decide_eq_true_eq] at a; omega
theorem mem_waitsV {V : Ps} (h : WFS V) (ha : ∀ x ∈ V.all, ∀ k ∈ x.after, k < (x.id : Int)) {n k : Int} : k ∈ waitsV V n ↔ ∃ x ∈ V.all, (x.id : Int) = n ∧ ∃ y, Rc V.all x y ∧ k = (y.id : Int) := by
  have hm : ∀ {z : Ch}, z ∈ (srtV V).reverse ↔ z ∈ V.all := fun {z} => by rw [List.mem_reverse]; exact (srtV_perm V).mem_iff
  unfold waitsV waitsL
  rw [mem_clo (List.pairwise_reverse.2 (srtV_srt h)) fun u hu => ha u (hm.1 hu)]
  constructor
  · rintro ⟨x, hx, hn, y, hy, e⟩
    exact ⟨x, hm.1 hx, List.mem_singleton.1 hn, y, hy.mono fun z hz => hm.1 hz, e⟩
  · rintro ⟨x, hx, hn, y, hy, e⟩
    exact ⟨x, hm.2 hx, List.mem_singleton.2 hn, y, hy.mono fun z hz => hm.2 hz, e⟩
theorem waitsV_srt {V : Ps} (h : WFS V) (n : Int) : (waitsV V n).Pairwise (· < ·) := cloR_srt (List.pairwise_reverse.2 (srtV_srt h))
theorem sorted_of {xs : List Int} (h : xs.Pairwise (· < ·)) : sorted xs = xs := by
  unfold sorted
  refine List.mergeSort_of_pairwise (h.imp fun h => ?_)
  simp only [decide_eq_true_eq]; omega
theorem nodup_of_lt {xs : List Int} (h : xs.Pairwise (· < ·)) : xs.Nodup := h.imp fun h e => by omega
/-- What a visit does to the marks. -/
structure Vs (l : List Ch) (c : Ch) (M M' : List Int) : Prop where
  sub : ∀ k ∈ M, k ∈ M'
  nd : M'.Nodup
  has : (c.id : Int) ∈ M'
  new : ∀ k ∈ M', k ∈ M ∨ ∃ y, Rc l c y ∧ k = (y.id : Int)
  clo : ∀ k ∈ M', k ∈ M ∨ ∀ y ∈ l, (y.id : Int) = k → ∀ z ∈ l, Dep y z → (z.id : Int) ∈ M'
structure Vp (l : List Ch) (c : Ch) (M M' : List Int) (T : Ch → Prop) : Prop where
  sub : ∀ k ∈ M, k ∈ M'
  nd : M'.Nodup
  has : (c.id : Int) ∈ M'
  new : ∀ k ∈ M', k ∈ M ∨ ∃ y, Rc l c y ∧ k = (y.id : Int)
  clo : ∀ k ∈ M', k ∈ M ∨ k = (c.id : Int) ∨ ∀ y ∈ l, (y.id : Int) = k → ∀ z ∈ l, Dep y z → (z.id : Int) ∈ M'
  todo : ∀ z ∈ l, T z → (z.id : Int) ∈ M'
theorem Vp.start {l : List Ch} {c : Ch} {M : List Int} (hn : M.Nodup) (hc : (c.id : Int) ∉ M) {T : Ch → Prop} (hT : ∀ z, ¬ T z) : Vp l c M (M ++ [(c.id : Int)]) T where
  sub k hk := List.mem_append_left _ hk
  nd := by
    rw [List.nodup_append]
    exact ⟨hn, by simp, fun a ha b hb e => hc (by rw [List.mem_singleton.1 hb] at e; rw [← e]; exact ha)⟩
  has := by simp
  new k hk := by
    rcases List.mem_append.1 hk with h | h
    · exact .inl h
    · exact .inr ⟨c, Rc.refl _, List.mem_singleton.1 h⟩
  clo k hk := by
    rcases List.mem_append.1 hk with h | h
    · exact .inl h
    · exact .inr (.inl (List.mem_singleton.1 h))
  todo z _ h := absurd h (hT z)
theorem Vp.same {l : List Ch} {c : Ch} {M M' : List Int} {T T' : Ch → Prop} (h : Vp l c M M' T) (hT : ∀ z ∈ l, T' z → T z) : Vp l c M M' T' := { h with todo := fun z hz t => h.todo z hz (hT z hz t) }
theorem Vp.then {l : List Ch} {c y : Ch} {M M' M2 : List Int} {T T' : Ch → Prop} (h : Vp l c M M' T) (hy : y ∈ l) (hd : Dep c y) (k : Vs l y M' M2) (hT : ∀ z ∈ l, T' z → T z ∨ z.id = y.id) : Vp l c M M2 T' where
  sub q hq := k.sub q (h.sub q hq)
  nd := k.nd
  has := k.sub _ h.has
  new q hq := by
    rcases k.new q hq with h' | ⟨z, hz, e⟩
    · exact h.new q h'
    · exact .inr ⟨z, Rc.head hy hd hz, e⟩
  clo q hq := by
    rcases k.clo q hq with h' | h'
    · rcases h.clo q h' with h2 | h2 | h2
      · exact .inl h2
      · exact .inr (.inl h2)
      · exact .inr (.inr fun u hu e z hz hd => k.sub _ (h2 u hu e z hz hd))
    · exact .inr (.inr h')
  todo z hz t := by
    rcases hT z hz t with t | e
    · exact k.sub _ (h.todo z hz t)
    · rw [e]; exact k.has
theorem Vp.done {l : List Ch} {c : Ch} {M M' : List Int} {T : Ch → Prop} (h : Vp l c M M' T) (hu : ∀ y ∈ l, y.id = c.id → y = c) (hT : ∀ z ∈ l, Dep c z → T z) : Vs l c M M' where
  sub := h.sub
  nd := h.nd
  has := h.has
  new := h.new
  clo q hq := by
    rcases h.clo q hq with h2 | h2 | h2
    · exact .inl h2
    · right
      intro y hy e z hz hd
      have : y = c := hu y hy (by omega)
      subst this
      exact h.todo z hz (hT z hz hd)
    · exact .inr h2
/-- At the end of all. -/
theorem Vs.all {V : Ps} {c : Ch} {M' : List Int} (hs : WFS V) (ha : ∀ x ∈ V.all, ∀ k ∈ x.after, k < (x.id : Int)) (hc : c ∈ V.all) (h : Vs V.all c [] M') : sorted M' = waitsV V c.id := by
  have hiff : ∀ k, k ∈ M' ↔ k ∈ waitsV V c.id := fun k => by
    rw [mem_waitsV hs ha]
    constructor
    · intro hk
      rcases h.new k hk with h' | ⟨y, hy, e⟩
      · cases h'
      · exact ⟨c, hc, rfl, y, hy, e⟩
    · rintro ⟨x, hx, e, y, hy, rfl⟩
      have key : ∀ {x y : Ch}, Rc V.all x y → x ∈ V.all → (x.id : Int) ∈ M' → (y.id : Int) ∈ M' := by
        intro x y hxy
        induction hxy with
        | refl => intro _ h; exact h
        | head hz hd _ ih =>
          intro hxm hxi
          rcases h.clo _ hxi with h' | h'
          · cases h'
          · exact ih hz (h' _ hxm rfl _ hz hd)
      exact key hy hx (by rw [e]; exact h.has)
  have hp : M'.Perm (waitsV V c.id) := (List.perm_ext_iff_of_nodup h.nd (nodup_of_lt (waitsV_srt hs _))).2 hiff
  rw [sorted_perm hp, sorted_of (waitsV_srt hs _)]
end Go.Proofs.YtocjjigmpgekfaaGreat
end
section
/- Layer 11, the program's store: what waits with a change, walked; a change's block. -/
open Go Go.Den Go.Proofs
namespace Go.Proofs.YtocjjigmpgekfaaGreat
theorem Sort64_c {base l c : Nat} {a : Option Addr} {zs : List Int} {w : World} {K : Value → World → Prop} (h : Own Tryz.prog w base 37 1 a l c (iL zs))
    (hk : ∀ w', Own Tryz.prog w' base 37 1 a l c (iL (sorted zs)) → Mod (fun x => base ≤ x) w w' → K (.tuple #[]) w') (hl62 : zs.length < 4611686018427387904) :
    Cal Tryz.prog F_slices_Sort_int64 #[.slice a l c] w K := by
  refine ⟨⟨_, Tryz.func122, by kernel_rfl, by kernel_rfl⟩, ?_⟩
  have hlen : zs.length = l := by have := h.len; simpa using this
  obtain ⟨e, he, h1, h2⟩ := h
  rcases h2 with ⟨hv, hz⟩ | ⟨g, cap, cur, hv, hb, hg, hle, hm, hsz, ht⟩
  · subst hz
    simp at hv
    obtain ⟨rfl, rfl⟩ := hv
    have hzs : zs = [] := List.eq_nil_of_length_eq_zero hlen
    subst hzs
    refine (Tryz.slices_Sort_int_none_f122 none 0 w).mono fun e' w' he' => ?_
    obtain ⟨rfl, rfl⟩ := he'
    exact hk w' ⟨e, he, by simp [sorted, iL], .inl ⟨rfl, rfl⟩⟩ (Mod.refl _ _)
  · simp at hv
    obtain ⟨rfl, rfl⟩ := hv
    subst hlen
    have hmap : iL zs = zs.map (Value.int .i64) := rfl
    rw [Nat.mul_one, hmap] at ht
    have hH := holds_of_blockI hg ht
    refine (Tryz.slices_Sort_int_f122 g 0 c zs w hH (lt_of_heap hg) hl62).mono fun e' w' he' => ?_
    obtain ⟨rfl, n, os, rfl⟩ := he'
    refine hk _ ⟨e, he, ?_⟩ ((Mod.grown (grownBy_sortedI _)).mono fun x _ e => by cases e; exact hb)
    exact ownsRow_sortedI (ts := sorted zs) (by simp [sorted]) hb hg hle hm hsz
section
variable {w0 w w' : World} {R : Nat → Prop} {rl : Nat → Nat} {sp c d mo mm : Nat} {ca oa : Nat → Nat} {Lo Lm : List (Int × Value)} {P V : Ps} {K : Value → World → Prop}
/-- The cells that a visit reads. -/
structure Vw (w : World) (sp q2 q5 q6 m : Nat) (M : List Int) : Prop where
  s : At w q2 0 [.pointer (some ⟨sp, 0, none⟩)]
  t : At w q5 0 [.map (some m)]
  f : At w q6 0 [.func (.func F_patch_Store_Waits_1) #[] #[.pointer (some ⟨q5, 0, none⟩), .pointer (some ⟨q6, 0, none⟩), .pointer (some ⟨q2, 0, none⟩)]]
  mp : MapAt w m (okM M)
  n2 : q2 ≠ m
  n5 : q5 ≠ m
  n6 : q6 ≠ m
theorem Vw.nos {q2 q5 q6 m : Nat} {M : List Int} (h : Vw w sp q2 q5 q6 m M) (k : Mod No w w') : Vw w' sp q2 q5 q6 m M := { h with s := h.s.keep k id, t := h.t.keep k id, f := h.f.keep k id, mp := h.mp.keep k id }
theorem Vw.drew {q2 q5 q6 m : Nat} {M : List Int} (h : Vw w sp q2 q5 q6 m M) : Vw (drew w) sp q2 q5 q6 m M := h.nos (Mod.refl No w).drew
theorem Vw.mark {q2 q5 q6 m : Nat} {M M' : List Int} (h : Vw w sp q2 q5 q6 m M) (k : Mod (fun z => z = m) w w') (hm : MapAt w' m (okM M')) : Vw w' sp q2 q5 q6 m M' := { h with s := h.s.keep k h.n2, t := h.t.keep k h.n5, f := h.f.keep k h.n6, mp := hm }
theorem Vw.ls {q2 q5 q6 m : Nat} {M : List Int} (h : Vw w sp q2 q5 q6 m M) : Ru (Instr.loadAt 30 (.pointer (some ⟨q2, 0, none⟩))) w (.pointer (some ⟨sp, 0, none⟩)) w := h.s.load (i := 0) (by kernel_rfl) rfl
theorem Vw.lt {q2 q5 q6 m : Nat} {M : List Int} (h : Vw w sp q2 q5 q6 m M) : Ru (Instr.loadAt 176 (.pointer (some ⟨q5, 0, none⟩))) w (.map (some m)) w := h.t.load (i := 0) (by kernel_rfl) rfl
theorem Vw.lf {q2 q5 q6 m : Nat} {M : List Int} (h : Vw w sp q2 q5 q6 m M) : Ru (Instr.loadAt 194 (.pointer (some ⟨q6, 0, none⟩))) w (.func (.func F_patch_Store_Waits_1) #[] #[.pointer (some ⟨q5, 0, none⟩), .pointer (some ⟨q6, 0, none⟩), .pointer (some ⟨q2, 0, none⟩)]) w := h.f.load (i := 0) (by kernel_rfl) rfl
theorem visit_nil {a b e : Value} (hk : ∀ w', Mod No w w' → K (.tuple #[]) w') : Cal Tryz.prog F_patch_Store_Waits_1 #[.pointer none, a, b, e] w K := by
  apply C_patch_Store_Waits_1
  unfold D_patch_Store_Waits_1
  exact Share.dup (tt rfl ⟨_, rfl, tt rfl (hk _ (Mod.refl No w).drew)⟩)
set_option maxRecDepth 100000 in
theorem visit_c : ∀ (n : Nat) {w : World} {K : Value → World → Prop} {q2 q5 q6 m : Nat} {M : List Int} {x : Ch}, PIn w0 R rl w sp c d mo mm ca oa Lo Lm P → (∀ x ∈ P.all, ∀ k ∈ x.after, k < (x.id : Int)) → x ∈ P.all → x.id ≤ n → Vw w sp q2 q5 q6 m M → M.Nodup → ¬ R m → w0.heap.size ≤ m → m < w.heap.size →
    (∀ w' M', Mod (fun z => z = m) w w' → MapAt w' m (okM M') → Vs P.all x M M' → K (.tuple #[]) w') → Cal Tryz.prog F_patch_Store_Waits_1 #[.pointer (some ⟨ca x.id, 0, none⟩), .pointer (some ⟨q5, 0, none⟩), .pointer (some ⟨q6, 0, none⟩), .pointer (some ⟨q2, 0, none⟩)] w K := by
  intro n
  induction n with
  | zero => intro w K q2 q5 q6 m M x h _ hx hn; have := h.wf.idr x hx; omega
  | succ n ih =>
  intro w K q2 q5 q6 m M x h hafl hx hn hV hM hmR hm0 hmw hk
  apply C_patch_Store_Waits_1
  unfold D_patch_Store_Waits_1
  have hd := h.drew
  have hVd := hV.drew
  have hcx := (hd.chs x hx).2.2
  have hkeep : ∀ {w1 w2 : World}, PIn w0 R rl w1 sp c d mo mm ca oa Lo Lm P → Mod (fun z => z = m) w1 w2 → PIn w0 R rl w2 sp c d mo mm ca oa Lo Lm P := fun h k => h.keepS k (fun z hz e => by subst e; exact hmR hz) fun z hz e => by subst e; omega
  refine Share.cut (fun z w1 => drew w = w1 ∧ z = [.bool (M.contains (x.id : Int))]) (ff rfl ⟨some m, hVd.lt, _, rfl, _, hcx.ld (by kernel_rfl) (j := 0) (fun _ _ _ _ => rfl), _, lookOk hVd.mp _, rfl, rfl⟩) ?_
  rintro z w1 ⟨rfl, rfl⟩
  refine ⟨_, rfl, cond_of (fun hb => ?_) (fun hb => ?_)⟩
  · -- it is marked
    rw [List.contains_iff_mem] at hb
    exact hk _ M ((Mod.refl _ w).drew) hVd.mp ⟨fun k hk => hk, hM, hb, fun k hk => .inl hk, fun k hk => .inl hk⟩
  have hnot : (x.id : Int) ∉ M := fun e => by rw [← List.contains_iff_mem, hb] at e; cases e
  have hd2 := hd.drew
  have hVd2 := hVd.drew
  have hcx2 := (hd2.chs x hx).2.2
  obtain ⟨w2, up, mp2, m2, s2⟩ := update_run (P := Tryz.prog) (T := 176) (k := (x.id : Int)) (v := .bool true) mapOk hVd2.mp
  rw [okM_snoc hnot] at mp2
  refine ⟨some m, hVd2.lt, _, rfl, _, hcx2.ld (by kernel_rfl) (j := 0) (fun _ _ _ _ => rfl), w2, up, ?_⟩
  have h2 := hkeep hd2 m2
  have hV2 := hVd2.mark m2 mp2
  have M2 : Mod (fun z => z = m) w w2 := ((Mod.refl _ w).drew.drew).trans m2 fun _ _ e => e
  obtain ⟨aa, cc, lA, rA⟩ := ((h2.chs x hx).2.2).ldA
  have haft := h.wf.aft x hx
  refine ⟨_, rfl, _, _, _, lA, ?_⟩
  -- what it waits for
  refine ⟨fun z w3 => ∃ (i : Nat) (M3 : List Int), z = [.int .i64 i] ∧ i ≤ x.after.length ∧ Vp P.all x M M3 (fun y => (y.id : Int) ∈ x.after.take i) ∧ MapAt w3 m (okM M3) ∧ Mod (fun z => z = m) w2 w3, fun z _ => (x.after.length - nI z 0).toNat,
    ⟨0, _, rfl, by omega, Vp.start hM hnot (fun y hy => by rw [List.take_zero] at hy; cases hy), mp2, Mod.refl _ _⟩, ?_⟩
  rintro z w3 ⟨i, M3, rfl, hi, hP3, mp3, m3⟩
  have h3 := hkeep h2 m3
  have hV3 := hV2.mark m3 mp3
  have M3' : Mod (fun z => z = m) w w3 := M2.trans m3 fun _ _ e => e
  have hz3 := M3'.size
  refine ⟨_, rfl, cond_of (fun hb2 => ?_) (fun hb2 => ?_)⟩
  · have hi : i < x.after.length := by have := of_decide_eq_true hb2; omega
    have rA3 : Row w3 aa (iL x.after) := by
      obtain ⟨q, hq, hql⟩ := row_ne rA (fun e => by rw [e] at hi; simp at hi)
      obtain ⟨aa', cc', lA', rA'⟩ := ((h3.chs x hx).2.2).ldA
      obtain ⟨_, _, lA2, _⟩ := ((h3.chs x hx).2.2).ldA
      have hqm : q.block ≠ m := by
        obtain ⟨gd, cd, aa2, ca2, c1, c2, c3, c4, c5⟩ := (h2.chs x hx).2.2
        have := c1.at.load (P := Tryz.prog) (T := 37) (i := 4) (by kernel_rfl) rfl
        rw [add_none] at lA
        have e := lA.symm.trans this
        simp at e
        have := c5 q (by rw [← e.1]; exact hq)
        intro e2
        have := h.reg q.block (by omega)
        rw [e2] at this; exact hmR this
      exact rA.keep m3 fun q' hq' e => by rw [hq] at hq'; cases hq'; exact hqm e
    obtain ⟨b4, o4, ha4, hat4⟩ := row_some rA3 hi
    rw [ha4]
    refine ⟨_, index_slice (k := 1) (by kernel_rfl) (by omega) (by omega), ?_⟩
    rw [add_none, show (i : Int).toNat * 1 = i by omega]
    have h3d := h3.drew
    have hV3d := hV3.drew
    obtain ⟨p, hp, hpn, hpx⟩ := h3d.lookO x.after[i]
    refine ⟨_, hat4.load (by kernel_rfl) (iL_get hi), _, hV3d.lf, _, hV3d.ls, _, rfl, some mo, h3d.lo', p, hp, _, _, _, rfl, ?_⟩
    rw [wrap64 (x := (i : Int) + 1) (by omega) (by omega), show ((i : Int) + 1) = ((i + 1 : Nat) : Int) by omega]
    have htk : ∀ y : Ch, (y.id : Int) ∈ x.after.take (i + 1) → (y.id : Int) ∈ x.after.take i ∨ (y.id : Int) = x.after[i] := fun y hy => by
      rw [List.take_succ_eq_append_getElem hi] at hy
      rcases List.mem_append.1 hy with hy | hy
      · exact .inl hy
      · exact .inr (List.mem_singleton.1 hy)
    cases ho : P.opn x.after[i] with
    | false =>
      rw [ho] at hpn
      have : p = none := by simpa using hpn
      subst this
      show Cal Tryz.prog F_patch_Store_Waits_1 #[.pointer none, .pointer (some ⟨q5, 0, none⟩), .pointer (some ⟨q6, 0, none⟩), .pointer (some ⟨q2, 0, none⟩)] (drew w3) _
      refine visit_nil fun w4 m4 => ⟨rfl, ⟨i + 1, M3, rfl, by omega, hP3.same fun y hy hyt => ?_, (mp3.drew).keep m4 id, (m3.no (Mod.refl No w3).drew).no m4⟩, by simp [nI, nth]; omega⟩
      rcases htk y hyt with e | e
      · exact e
      · have := (opn_not.1 ho) y hy
        exact absurd e this
    | true =>
      obtain ⟨y, hy, ey⟩ := opn_iff.1 ho
      have := hpx y hy ey
      subst this
      have hyx : y.id < x.id := by have := hafl x hx _ (List.getElem_mem hi); omega
      show Cal Tryz.prog F_patch_Store_Waits_1 #[.pointer (some ⟨ca y.id, 0, none⟩), .pointer (some ⟨q5, 0, none⟩), .pointer (some ⟨q6, 0, none⟩), .pointer (some ⟨q2, 0, none⟩)] (drew w3) _
      refine ih h3d hafl hy (by omega) hV3d hP3.nd hmR hm0 (by show m < w3.heap.size; omega) fun w4 M4 m4 mp4 hs4 => ⟨rfl, ⟨i + 1, M4, rfl, by omega, hP3.then hy (.inl (by rw [ey]; exact List.getElem_mem hi)) hs4 (fun z hz hzt => ?_), mp4, (m3.no (Mod.refl No w3).drew).trans m4 fun _ _ e => e⟩, by simp [nI, nth]; omega⟩
      rcases htk z hzt with e | e
      · exact .inl e
      · exact .inr (by omega)
  · -- those that it meets
    have hi : i = x.after.length := by have := of_decide_eq_false hb2; omega
    subst hi
    rw [List.take_length] at hP3
    have h3d := h3.drew
    have hV3d := hV3.drew
    obtain ⟨o, ho, hxo⟩ := mem_all.1 hx
    have hxb := h.wf.chb o ho x hxo
    have hon : onOf P (x.b : Int) = some o := by rw [hxb]; exact onOf_mem h.wf ho
    have hlM := h3d.lookM (x.b : Int)
    rw [hon] at hlM
    obtain ⟨la, lc, l1, l2, l3, l4⟩ := ((h3d.ons o ho).2.2).ldL
    have hll := h.wf.llen o ho
    have hlast := h.wf.last
    refine ⟨_, hV3d.ls, _, rfl, some mm, h3d.lm, _, rfl, _, ((h3d.chs x hx).2.2).ld (by kernel_rfl) (j := 1) (fun _ _ _ _ => rfl), _, hlM, _, rfl, _, _, _, l1, ?_⟩
    refine ⟨fun z w5 => ∃ (j : Nat) (y1 : Value) (M5 : List Int), z = [.int .i64 j, y1] ∧ j ≤ o.l.length ∧ Vp P.all x M M5 (fun y => (y.id : Int) ∈ x.after ∨ (y ∈ o.l.take j ∧ y.id < x.id ∧ meetB y x = true)) ∧ MapAt w5 m (okM M5) ∧ Mod (fun z => z = m) (drew w3) w5, fun z _ => (o.l.length - nI z 0).toNat,
      ⟨0, _, _, rfl, by omega, hP3.same (fun y _ hy => hy.resolve_right fun e => by rw [List.take_zero] at e; cases e.1), mp3.drew, Mod.refl _ _⟩, ?_⟩
    rintro z w5 ⟨j, y1, M5, rfl, hj, hP5, mp5, m5⟩
    have h5 := hkeep h3d m5
    have hV5 := hV3d.mark m5 mp5
    have M5' : Mod (fun z => z = m) w w5 := (M3'.drew).trans m5 fun _ _ e => e
    have hz5 := M5'.size
    refine ⟨_, rfl, cond_of (fun hb3 => ?_) (fun hb3 => ?_)⟩
    · have hj : j < o.l.length := by have := of_decide_eq_true hb3; omega
      have hym := List.getElem_mem hj
      have hya := on_all ho hym
      have hlr : Row w5 la (pL (o.l.map fun x => ca x.id)) := l2.keep m5 fun q hq e => by
        have h9 := l4 q hq
        have := h.reg q.block (by omega)
        have e : q.block = m := e
        rw [e] at this; exact hmR this
      have hilm : j < (o.l.map fun x => ca x.id).length := by simp; exact hj
      obtain ⟨b3, o3, hla, hat3⟩ := row_someP hlr hilm
      subst hla
      have hld := hat3.load (P := Tryz.prog) (T := 181) (by kernel_rfl) (pL_get hilm)
      rw [List.getElem_map] at hld
      generalize hye : o.l[j] = y at *
      have h5d := h5.drew
      have cy := (h5d.chs y hya).2.2
      have cx := (h5d.chs x hx).2.2
      have hyb := h.wf.chb o ho y hym
      refine ⟨_, index_slice (k := 1) (by kernel_rfl) (by omega) (by omega), ?_⟩
      rw [add_none, show (j : Int).toNat * 1 = j by omega]
      refine ⟨_, hld, Share.cut (fun z w7 => z = [.bool (decide (y.id < x.id) && meetB y x)] ∧ Mod No w5 w7) ⟨_, rfl, _, cy.ld (by kernel_rfl) (j := 0) (fun _ _ _ _ => rfl), _, rfl, _, cx.ld (by kernel_rfl) (j := 0) (fun _ _ _ _ => rfl), cond_of (fun hb4 => ?_) (fun hb4 => ?_)⟩ ?_⟩
      · have hb4 : y.id < x.id := by have := of_decide_eq_true hb4; omega
        refine meets_c cy cx (h.wf.dat y hya).2 (h.wf.dat x hx).2 fun w6 m6 => ⟨_, rfl, ?_, ((Mod.refl No w5).drew).no m6⟩
        rw [decide_eq_true hb4, Bool.true_and]
      · have hb4 := of_decide_eq_false hb4
        refine ⟨?_, (Mod.refl No w5).drew⟩
        rw [decide_eq_false (by omega), Bool.false_and]
      rintro z w7 ⟨rfl, m7⟩
      have h7 := h5.nos m7
      have hV7 := hV5.nos m7
      have hz7 := m7.size
      rw [wrap64 (x := (j : Int) + 1) (by omega) (by omega), show ((j : Int) + 1) = ((j + 1 : Nat) : Int) by omega]
      have htk : ∀ z : Ch, z ∈ o.l.take (j + 1) → z ∈ o.l.take j ∨ z = y := fun z hz => by
        rw [List.take_succ_eq_append_getElem hj, hye] at hz
        rcases List.mem_append.1 hz with hz | hz
        · exact .inl hz
        · exact .inr (List.mem_singleton.1 hz)
      refine ⟨_, rfl, Share.dup (cond_of (fun hb5 => ?_) (fun hb5 => ?_))⟩
      · rw [Bool.and_eq_true, decide_eq_true_eq] at hb5
        refine ⟨_, hV7.lf, _, _, _, rfl, ?_⟩
        show Cal Tryz.prog F_patch_Store_Waits_1 #[.pointer (some ⟨ca y.id, 0, none⟩), .pointer (some ⟨q5, 0, none⟩), .pointer (some ⟨q6, 0, none⟩), .pointer (some ⟨q2, 0, none⟩)] w7 _
        refine ih h7 hafl hya (by omega) hV7 hP5.nd hmR hm0 (by omega) fun w8 M8 m8 mp8 hs8 => ⟨rfl, ⟨j + 1, _, M8, rfl, by omega, hP5.then hya (.inr ⟨hb5.1, by unfold meetR; rw [decide_eq_true (by omega), Bool.true_and]; exact hb5.2⟩) hs8 (fun z hz hzt => ?_), mp8, (m5.no m7).trans m8 fun _ _ e => e⟩, by simp [nI, nth]; omega⟩
        rcases hzt with e | ⟨e1, e2⟩
        · exact .inl (.inl e)
        · rcases htk z e1 with e | e
          · exact .inl (.inr ⟨e, e2⟩)
          · exact .inr (by rw [e])
      · refine ⟨⟨j + 1, _, M5, rfl, by omega, hP5.same fun z hz hzt => ?_, mp5.keep m7 id, m5.no m7⟩, by simp [nI, nth]; omega⟩
        rcases hzt with e | ⟨e1, e2⟩
        · exact .inl e
        · rcases htk z e1 with e | e
          · exact .inr ⟨e, e2⟩
          · subst e
            rw [decide_eq_true e2.1, e2.2] at hb5
            cases hb5
    · have hj : j = o.l.length := by have := of_decide_eq_false hb3; omega
      subst hj
      rw [List.take_length] at hP5
      refine hk w5 M5 M5' mp5 (hP5.done (fun y hy e => ?_) fun z hz hd => ?_)
      · exact h.inj hy hx (by rw [e])
      · rcases hd with hd | hd
        · exact .inl hd
        · right
          have hmt := hd.2
          unfold meetR at hmt
          rw [Bool.and_eq_true, decide_eq_true_eq] at hmt
          obtain ⟨o2, ho2, hz2⟩ := mem_all.1 hz
          have : o2 = o := on_uniq h.wf ho2 ho (by rw [← h.wf.chb o2 ho2 z hz2, ← hxb]; exact hmt.1)
          subst this
          exact ⟨hz2, hd.1, hmt.2⟩
theorem alloc_fn (w : World) : (Instr.alloc 194 true (.tuple #[])).run Tryz.prog w = .ok (.pointer (some ⟨w.heap.size, 0, none⟩)) (w.alloc (.cells ⟨[.nilFunc]⟩ 194)) := by kernel_rfl
theorem u_ok : Tryz.prog.underlying 176 = some (.map 2 4) := by kernel_rfl
theorem okM_keys (M : List Int) : (okM M).map (·.1) = M := by unfold okM; rw [List.map_map]; exact List.map_id _
theorem Vs.len {l : List Ch} {c : Ch} {M' : List Int} (h : Vs l c [] M') (hc : c ∈ l) : M'.length ≤ l.length := by
  have := List.Nodup.length_le_of_subset h.nd (l₂ := l.map fun x => (x.id : Int)) fun k hk => by
    rcases h.new k hk with h' | ⟨y, hy, e⟩
    · cases h'
    · exact List.mem_map.2 ⟨y, hy.mem hc, e.symm⟩
  rwa [List.length_map] at this
set_option maxRecDepth 100000 in
theorem qWaits_c {n : Int} (hP : Pz w0 R w sp d V) (hk : ∀ w' a c, Mod No w w' → Own Tryz.prog w' w.heap.size 37 1 a (waitsV V n).length c (iL (waitsV V n)) → K (.slice a (waitsV V n).length c) w') :
    Cal Tryz.prog F_patch_Store_Waits #[.pointer (some ⟨sp, 0, none⟩), .int .i64 n] w K := by
  have hwf := hP.wf
  have hop : openV V ≤ V.last := open_le hwf.1
  have hlast := hwf.1.last
  obtain ⟨C, eD, eM, hw, rl, c, mo, mm, ca, oa, Lo, Lm, h⟩ := hP
  have hafl : ∀ x ∈ Ps.all ⟨C, V.last, V.ons⟩, ∀ k ∈ x.after, k < (x.id : Int) := hwf.2.1
  apply C_patch_Store_Waits
  unfold D_patch_Store_Waits
  refine ⟨_, _, box_store _ _, ?_⟩
  have m1 : Mod No w (w.alloc (.cells ⟨[.pointer (some ⟨sp, 0, none⟩)]⟩ 30)) := (Mod.refl No w).alloc _
  have a2 : At (w.alloc (.cells ⟨[.pointer (some ⟨sp, 0, none⟩)]⟩ 30)) w.heap.size 0 [.pointer (some ⟨sp, 0, none⟩)] := AtU.new.at
  have s1 : (w.alloc (.cells ⟨[.pointer (some ⟨sp, 0, none⟩)]⟩ 30)).heap.size = w.heap.size + 1 := by simp
  generalize w.alloc (.cells ⟨[.pointer (some ⟨sp, 0, none⟩)]⟩ 30) = w1 at *
  have h1 := h.nos m1
  have ls1 : Ru (Instr.loadAt 30 (.pointer (some ⟨w.heap.size, 0, none⟩))) w1 (.pointer (some ⟨sp, 0, none⟩)) w1 := a2.load (i := 0) (by kernel_rfl) rfl
  obtain ⟨p, hp, hpn, hpx⟩ := h1.lookO n
  refine Share.cut (fun z w2 => w1 = w2 ∧ z = [.bool p.isNone]) ⟨_, ls1, ff rfl ⟨_, ls1, _, rfl, some mo, h1.lo', p, hp, rfl, rfl⟩⟩ ?_
  rintro z w2 ⟨rfl, rfl⟩
  refine ⟨_, rfl, cond_of (fun hb => ?_) (fun hb => ?_)⟩
  · have hW : waitsV V n = [] := by
      refine List.eq_nil_iff_forall_not_mem.2 fun k hkm => ?_
      obtain ⟨x, hx, e, _⟩ := (mem_waitsV hwf.1 hwf.2.1).1 hkm
      rw [hb] at hpn
      have ho : Ps.opn ⟨C, V.last, V.ons⟩ n = false := by simpa using hpn.symm
      exact (opn_not.1 ho) x hx e
    have := hk w1 none 0 m1 (by rw [hW]; exact Own.nilG elemG_ids)
    rw [hW] at this
    exact this
  have ho : Ps.opn ⟨C, V.last, V.ons⟩ n = true := by rw [hb] at hpn; simpa using hpn.symm
  obtain ⟨x, hx, ex⟩ := opn_iff.1 ho
  subst ex
  -- the marks, and the visit
  have m2 : Mod No w1 (w1.alloc (.map #[] 0)) := (Mod.refl No w1).alloc _
  have mp2 : MapAt (w1.alloc (.map #[] 0)) w1.heap.size [] := MapAt.new
  have s2 : (w1.alloc (.map #[] 0)).heap.size = w1.heap.size + 1 := by simp
  refine ⟨_, _, makeMap_run, ?_⟩
  generalize w1.alloc (.map #[] 0) = w2 at *
  have m3 : Mod No w2 (w2.alloc (.cells ⟨[.map (some w1.heap.size)]⟩ 176)) := (Mod.refl No w2).alloc _
  have a5 : At (w2.alloc (.cells ⟨[.map (some w1.heap.size)]⟩ 176)) w2.heap.size 0 [.map (some w1.heap.size)] := AtU.new.at
  have s3 : (w2.alloc (.cells ⟨[.map (some w1.heap.size)]⟩ 176)).heap.size = w2.heap.size + 1 := by simp
  refine ⟨_, _, alloc_map _, _, store_one (by kernel_rfl) rfl, ?_⟩
  generalize w2.alloc (.cells ⟨[.map (some w1.heap.size)]⟩ 176) = w3 at *
  refine ⟨_, _, alloc_fn _, _, store_one (by kernel_rfl) rfl, ?_⟩
  have m4 : Mod No w3 (w3.alloc (.cells ⟨[.func (.func F_patch_Store_Waits_1) #[] #[.pointer (some ⟨w2.heap.size, 0, none⟩), .pointer (some ⟨w3.heap.size, 0, none⟩), .pointer (some ⟨w.heap.size, 0, none⟩)]]⟩ 194)) := (Mod.refl No w3).alloc _
  have a6 : At (w3.alloc (.cells ⟨[.func (.func F_patch_Store_Waits_1) #[] #[.pointer (some ⟨w2.heap.size, 0, none⟩), .pointer (some ⟨w3.heap.size, 0, none⟩), .pointer (some ⟨w.heap.size, 0, none⟩)]]⟩ 194)) w3.heap.size 0 [.func (.func F_patch_Store_Waits_1) #[] #[.pointer (some ⟨w2.heap.size, 0, none⟩), .pointer (some ⟨w3.heap.size, 0, none⟩), .pointer (some ⟨w.heap.size, 0, none⟩)]] := AtU.new.at
  have s4 : (w3.alloc (.cells ⟨[.func (.func F_patch_Store_Waits_1) #[] #[.pointer (some ⟨w2.heap.size, 0, none⟩), .pointer (some ⟨w3.heap.size, 0, none⟩), .pointer (some ⟨w.heap.size, 0, none⟩)]]⟩ 194)).heap.size = w3.heap.size + 1 := by simp
  generalize w3.alloc (.cells ⟨[.func (.func F_patch_Store_Waits_1) #[] #[.pointer (some ⟨w2.heap.size, 0, none⟩), .pointer (some ⟨w3.heap.size, 0, none⟩), .pointer (some ⟨w.heap.size, 0, none⟩)]]⟩ 194) = w4 at *
  have M4 : Mod No w w4 := ((m1.no m2).no m3).no m4
  have hV4 : Vw w4 sp w.heap.size w2.heap.size w3.heap.size w1.heap.size [] := {
    s := ((a2.keep m2 id).keep m3 id).keep m4 id
    t := a5.keep m4 id
    f := a6
    mp := (mp2.keep m3 id).keep m4 id
    n2 := by omega
    n5 := by omega
    n6 := by omega }
  have h4d := (h.nos M4).drew
  have hV4d := hV4.drew
  obtain ⟨p4, hp4, _, hpx4⟩ := h4d.lookO x.id
  have := hpx4 x hx rfl
  subst this
  have hlo := h.lo
  have hww := h.mod.size
  refine ⟨_, hV4d.lf, _, hV4d.ls, _, rfl, some mo, h4d.lo', _, hp4, _, _, _, rfl, ?_⟩
  show Cal Tryz.prog F_patch_Store_Waits_1 #[.pointer (some ⟨ca x.id, 0, none⟩), .pointer (some ⟨w2.heap.size, 0, none⟩), .pointer (some ⟨w3.heap.size, 0, none⟩), .pointer (some ⟨w.heap.size, 0, none⟩)] (drew w4) _
  refine visit_c x.id h4d hafl hx (Nat.le_refl _) hV4d List.nodup_nil (fun e => by have := (hlo _ e).2; omega) (by omega) (by show w1.heap.size < w4.heap.size; omega) fun w5 M5 m5 mp5 hs5 => ⟨rfl, ?_⟩
  have hW : sorted M5 = waitsV V x.id := hs5.all (V := V) hwf.1 hwf.2.1 hx
  have hlenM := hs5.len hx
  have hlenM : M5.length ≤ openV V := hlenM
  have hV5 := hV4d.mark m5 mp5
  have MM5 : Mod No w w5 := (M4.no (Mod.refl No w4).drew).trans m5 fun z hz e => by have e : z = w1.heap.size := e; omega
  have hz5 := MM5.size
  have hz45 : w4.heap.size ≤ w5.heap.size := m5.size
  obtain ⟨Es, clock, g1, g2, g3, g4, g5⟩ := mp5
  refine ⟨some w1.heap.size, hV5.lt, _, _, range_run u_ok g1, ?_⟩
  have hmb := lt_of_heap g1
  have mr : Mod No w5 (w5.alloc (.mapIter (some w1.heap.size) clock #[] clock)) := (Mod.refl No w5).alloc _
  have hkeys : Es.map (·.1) = M5 := by
    have := congrArg (List.map (·.1)) g2
    rw [List.map_map, okM_keys] at this
    exact this
  have hlenE : Es.length ≤ 1000000 := by
    have := congrArg List.length hkeys
    rw [List.length_map] at this
    omega
  refine ⟨fun x w2 => ∃ vis a l c, x = [.slice a l c] ∧ Own Tryz.prog w2 (w5.heap.size + 1) 37 1 a l c (iL (vis.map (·.1))) ∧ Ranged w2 w5.heap.size w1.heap.size Es clock vis ∧ Mod No w5 w2 ∧ w5.heap.size + 1 ≤ w2.heap.size,
    fun _ w2 => togo w1.heap.size w5.heap.size w2, ⟨[], none, 0, 0, rfl, Own.nil elemZ_64, ⟨mr.keep g1 id, heap_new w5 _, by simp, by simp, g4, g5⟩, mr, by simp⟩, ?_⟩
  rintro z w6 ⟨vis, a, l, c6, rfl, how, hR, hm, hsz⟩
  have hvl : vis.length ≤ Es.length := List.Nodup.length_le_of_subset (nodup_of_map hR.nodup) (fun e he => hR.sub e he)
  have hl : l = vis.length := by have := how.len; simpa using this.symm
  rcases hR.next (P := Tryz.prog) (ty := 0) with ⟨hpe, hrun⟩ | ⟨e, he, w7, hrun, hent, hR7, hnin, hm7, hlt⟩
  · refine ⟨_, _, hrun, false, fun _ => rfl, ff rfl ⟨_, _, _, rfl, Sort64_c how (fun w8 o8 m8 => ⟨rfl, ?_⟩) (by rw [List.length_map]; omega)⟩⟩
    have hs : sorted (vis.map (·.1)) = waitsV V x.id := by rw [← hW, ← hkeys]; exact sorted_perm (hpe.map (·.1))
    rw [hs] at o8
    have hll : l = (waitsV V x.id).length := by have := o8.len; simpa using this.symm
    rw [hll] at o8 ⊢
    exact hk w8 a c6 ((MM5.no hm).trans m8 fun z hz e => by omega) (o8.mono (by omega))
  · refine ⟨_, w7, hrun, true, fun _ => rfl, tt rfl ⟨_, hent, _, fun _ => rfl, _, _, _, rfl, _, _, _, _, builtI64 _ _, ?_⟩⟩
    have how7 := how.keep hm7 (fun q hq e => by have := (how.base hq).1; omega)
    obtain ⟨a8, c8, w8, h8, o8, m8⟩ := how7.snoc (ty := 37) (t := 2) (ys := [.int .i64 e.1]) elemZ_64 (by omega) rfl (by simp; rfl) (by omega) (by omega) (by have := hm7.size; omega)
    have hR8 := hR7.keep m8 (by omega) (by omega)
    refine ⟨_, _, _, w8, h8, ⟨vis ++ [e], a8, _, c8, rfl, ?_, hR8, (hm.trans hm7 fun x hx e => by omega).trans m8 fun x hx e => by omega, by have := hm7.size; have := m8.size; omega⟩, ?_⟩
    · rw [List.map_append]; simpa [iL, I] using o8
    · have e1 : togo w1.heap.size w5.heap.size w8 = togo w1.heap.size w5.heap.size w7 := by rw [hR8.togo, hR7.togo]
      show togo w1.heap.size w5.heap.size w8 < togo w1.heap.size w5.heap.size w6
      rw [e1]; exact hlt
theorem qBlock_c {n : Int} (hP : Pz w0 R w sp d V) (hk0 : V.opn n = false → K (.tuple #[.int .i64 0, .int .i64 20]) w) (hk1 : ∀ x ∈ V.all, (x.id : Int) = n → K (.tuple #[.int .i64 x.b, .int .i64 0]) w) :
    Cal Tryz.prog F_patch_Store_Block #[.pointer (some ⟨sp, 0, none⟩), .int .i64 n] w K := by
  obtain ⟨C, eD, eM, hw, rl, c, mo, mm, ca, oa, Lo, Lm, h⟩ := hP
  apply C_patch_Store_Block
  unfold D_patch_Store_Block
  obtain ⟨p, hp, hpn, hpx⟩ := h.lookO n
  refine ff rfl ⟨_, rfl, some mo, h.lo', p, hp, cond_of (fun hb => ?_) (fun hb => ?_)⟩
  · rw [hb] at hpn
    have ho : Ps.opn ⟨C, V.last, V.ons⟩ n = false := by simpa using hpn.symm
    exact hk0 ho
  · have ho : Ps.opn ⟨C, V.last, V.ons⟩ n = true := by rw [hb] at hpn; simpa using hpn.symm
    obtain ⟨x, hx, ex⟩ := opn_iff.1 ho
    have := hpx x hx ex
    subst this
    exact ⟨_, rfl, _, ((h.chs x hx).2.2).ld (by kernel_rfl) (j := 1) (fun _ _ _ _ => rfl), hk1 x hx ex⟩
end
end Go.Proofs.YtocjjigmpgekfaaGreat
end
section
/- Layer 11, in plain terms: both stores alike. -/
open Go Go.Den Go.Proofs
namespace Go.Proofs.YtocjjigmpgekfaaGreat
def chsV (V : Ps) (b : Nat) : List Ch := match onOf V b with | some o => o.l | none => []
def bse (V : Ps) (b : Nat) : Bk := match onOf V b with | some o => o.base | none => atD V.C.D b
def setA (af : Nat → List Int) (x : Ch) : Ch := { x with after := af x.id }
structure RelA (V : Ps) (S : Rs) (af : Nat → List Int) : Prop where
  last : S.last = V.last
  D : S.D = V.C.D
  chs : ∀ b, b < V.C.D.vs.length → chsV V b = (S.l.filter fun x => decide (x.b = b)).map (setA af)
  aft : ∀ x ∈ S.l, (∀ k ∈ af x.id, k ∈ x.after) ∧ ∀ k ∈ x.after, V.opn k = true → k ∈ af x.id
  base : ∀ b, b < V.C.D.vs.length → S.base[b]? = some (bse V b)
def Rel (V : Ps) (S : Rs) : Prop := ∃ af, RelA V S af
theorem withL_setA (af : Nat → List Int) : ∀ (l : List Ch) (b : Bk), withL b (l.map (setA af)) = withL b l
  | [], _ => rfl
  | x :: r, b => withL_setA af r (overB b x.frm x.data)
section
variable {V : Ps} {S : Rs} {af : Nat → List Int}
theorem chs_mem (hs : WFS V) {o : On} (ho : o ∈ V.ons) : chsV V o.b = o.l := by unfold chsV; rw [onOf_mem hs ho]
theorem RelA.all (h : RelA V S af) (hs : WFS V) (hr : WFR S) {u : Ch} : u ∈ V.all ↔ ∃ y ∈ S.l, u = setA af y := by
  constructor
  · intro hu
    obtain ⟨o, ho, hx⟩ := mem_all.1 hu
    rw [← chs_mem hs ho, h.chs _ (hs.onlt o ho)] at hx
    obtain ⟨y, hy, e⟩ := List.mem_map.1 hx
    exact ⟨y, (List.mem_filter.1 hy).1, e.symm⟩
  · rintro ⟨y, hy, rfl⟩
    have hb : y.b < V.C.D.vs.length := by rw [← h.D, ← hr.len]; exact hr.blt y hy
    have hm : setA af y ∈ chsV V y.b := by
      rw [h.chs _ hb]
      exact List.mem_map.2 ⟨y, List.mem_filter.2 ⟨hy, by simp⟩, rfl⟩
    unfold chsV at hm
    split at hm
    · rename_i o e
      exact mem_all.2 ⟨o, (onOf_some e).1, hm⟩
    · cases hm
theorem RelA.opn (h : RelA V S af) (hs : WFS V) (hr : WFR S) {k : Int} : V.opn k = true ↔ ∃ y ∈ S.l, (y.id : Int) = k := by
  rw [opn_iff]
  constructor
  · rintro ⟨x, hx, e⟩
    obtain ⟨y, hy, rfl⟩ := (h.all hs hr).1 hx
    exact ⟨y, hy, e⟩
  · rintro ⟨y, hy, e⟩
    exact ⟨_, (h.all hs hr).2 ⟨y, hy, rfl⟩, e⟩
theorem RelA.opnF (h : RelA V S af) (hs : WFS V) (hr : WFR S) {k : Int} : V.opn k = false ↔ ∀ y ∈ S.l, (y.id : Int) ≠ k := by
  rw [Bool.eq_false_iff, Ne, h.opn hs hr]
  constructor
  · intro hn y hy e; exact hn ⟨y, hy, e⟩
  · rintro hn ⟨y, hy, e⟩; exact hn y hy e
theorem RelA.cont (h : RelA V S af) {b : Nat} (hb : b < V.C.D.vs.length) : contV V b = rdR S b fun x => decide (x.b = b) := by
  have h1 := h.chs b hb
  have h2 := h.base b hb
  unfold rdR
  rw [h2]
  show contV V b = withL (bse V b) _
  rw [← withL_setA af, ← h1]
  unfold contV bse chsV
  cases onOf V (b : Int) <;> rfl
theorem RelA.wf (h : RelA V S af) (hr : WFR S) {b : Nat} : b < V.C.D.vs.length ↔ b < S.base.length := by rw [hr.len, h.D]
theorem RelA.err (h : RelA V S af) (hr : WFR S) {n : Int} : errOf V.C.D n ≠ 0 ↔ ¬ (0 ≤ n ∧ n < S.base.length) := by
  unfold errOf
  rw [hr.len, h.D]
  split
  · constructor
    · intro _; omega
    · intro _; omega
  · constructor
    · intro e; exact absurd rfl e
    · intro e; omega
/-- Sorted lists: those ahead of a place are those with less. -/
theorem mem_take_srt {l : List Ch} (h : l.Pairwise fun x y => x.id < y.id) {i : Nat} {x y : Ch} (hx : l[i]? = some x) : y ∈ l.take i ↔ y ∈ l ∧ y.id < x.id := by
  constructor
  · intro hy
    refine ⟨List.mem_of_mem_take hy, ?_⟩
    obtain ⟨j, hj, rfl⟩ := List.mem_take_iff_getElem.1 hy
    exact srt_lt2 h (List.getElem?_eq_getElem (by omega)) hx (by omega)
  · rintro ⟨hy, e⟩
    obtain ⟨j, hj, rfl⟩ := List.getElem_of_mem hy
    have := srt_lt h (List.getElem?_eq_getElem hj) hx e
    exact List.mem_take_iff_getElem.2 ⟨j, by omega, rfl⟩
theorem mayN_split {op : Int → Bool} {l : List Ch} {p : Nat} {k : Int} : ∀ {n : Nat}, k ∈ mayN op l n → k ∈ mayN op l p ∨ ∃ (q : Nat) (y : Ch), p ≤ q ∧ l[q]? = some y ∧ k = (y.id : Int)
  | 0, h => by cases h
  | n + 1, h => by
    unfold mayN at h
    split at h
    · rename_i c hc
      split at h
      · exact mayN_split h
      · rename_i hbad
        rcases List.mem_append.1 h with h | h
        · exact mayN_split h
        · by_cases hp : p ≤ n
          · exact .inr ⟨n, c, hp, hc, List.mem_singleton.1 h⟩
          · left
            have : k ∈ mayN op l (n + 1) := by
              unfold mayN
              rw [hc]
              show k ∈ if badB op (l.take n) (mayN op l n) c = true then mayN op l n else mayN op l n ++ [(c.id : Int)]
              rw [if_neg hbad]
              exact List.mem_append_right _ h
            exact mayN_mono (by omega) this
    · exact mayN_split h
theorem mayL_iff {op : Int → Bool} {l : List Ch} (hsrt : l.Pairwise fun x y => x.id < y.id) {p : Nat} {x : Ch} (hx : l[p]? = some x) (haf : ∀ k ∈ x.after, k < (x.id : Int)) :
    (x.id : Int) ∈ mayL op l ↔ (∀ k ∈ x.after, op k = true → k ∈ mayL op l) ∧ ∀ y ∈ l.take p, meetB y x = true → (y.id : Int) ∈ mayL op l := by
  have hnd : (l.map (·.id)).Nodup := List.Pairwise.map _ (fun a b h => by have h : a.id < b.id := h; omega) hsrt
  have hxm := List.mem_of_getElem? hx
  have hpl := (List.getElem?_eq_some_iff.1 hx).1
  have down : ∀ {k : Int}, k ∈ mayL op l → k < (x.id : Int) → k ∈ mayN op l p := fun {k} hk hlt => by
    rcases mayN_split (p := p) hk with h | ⟨q, y, hq, hy, e⟩
    · exact h
    · rcases Nat.lt_or_ge p q with h | h
      · have := srt_lt2 hsrt hx hy h; omega
      · have : q = p := by omega
        subst this
        rw [hx] at hy; cases hy; omega
  constructor
  · intro h
    refine ⟨fun k hk ho => mayL_waits hnd hxm h k hk ho, fun y hy hm => ?_⟩
    obtain ⟨j, hj, rfl⟩ := List.mem_take_iff_getElem.1 hy
    have := List.pairwise_iff_getElem.1 (mayL_meets (op := op) hnd) j p (by omega) hpl (by omega)
    have hxe : l[p] = x := (List.getElem?_eq_some_iff.1 hx).2
    rw [hxe] at this
    exact this h hm
  · rintro ⟨h1, h2⟩
    have hin : (x.id : Int) ∈ mayN op l (p + 1) := by
      unfold mayN
      rw [hx]
      show (x.id : Int) ∈ if badB op (l.take p) (mayN op l p) x = true then mayN op l p else mayN op l p ++ [(x.id : Int)]
      rw [if_neg]
      · simp
      · unfold badB
        rw [Bool.or_eq_true, not_or]
        constructor
        · rw [List.any_eq_true]
          rintro ⟨k, hk, e⟩
          rw [Bool.and_eq_true, Bool.not_eq_true'] at e
          have := down (h1 k hk e.1) (haf k hk)
          rw [← List.contains_iff_mem, e.2] at this
          cases this
        · rw [List.any_eq_true]
          rintro ⟨y, hy, e⟩
          rw [Bool.and_eq_true, Bool.not_eq_true'] at e
          have hlt := ((mem_take_srt hsrt hx).1 hy).2
          have := down (h2 y hy e.1) (by omega)
          rw [← List.contains_iff_mem, e.2] at this
          cases this
    exact mayN_mono (by omega) hin
/-- Which changes of a block may be written. -/
def mayF (V : Ps) (b : Nat) (x : Ch) : Bool := decide (x.b = b) && (mayB V b).contains (x.id : Int)
theorem mayB_chs (V : Ps) (b : Nat) : mayB V b = mayL V.opn (chsV V b) := by unfold mayB chsV; cases onOf V (b : Int) <;> rfl
theorem srt_setA {l : List Ch} (h : l.Pairwise fun x y => x.id < y.id) (b : Nat) : ((l.filter fun x => decide (x.b = b)).map (setA af)).Pairwise fun x y => x.id < y.id := by
  rw [List.pairwise_map]
  exact h.filter _
theorem RelA.may (h : RelA V S af) (hs : WFS V) (hr : WFR S) {b : Nat} (hb : b < V.C.D.vs.length) : MayR S b (mayF V b) := by
  intro i x hx
  unfold mayF
  by_cases hxb : x.b = b
  · rw [decide_eq_true hxb, Bool.true_and, Bool.true_and]
    have hxm := List.mem_of_getElem? hx
    have hsrt := srt_setA (af := af) hr.srt b
    rw [← h.chs b hb] at hsrt
    have hmem : setA af x ∈ chsV V b := by
      rw [h.chs b hb]
      exact List.mem_map.2 ⟨x, List.mem_filter.2 ⟨hxm, by simpa using hxb⟩, rfl⟩
    obtain ⟨p, hp, ep⟩ := List.getElem_of_mem hmem
    have hxp : (chsV V b)[p]? = some (setA af x) := by rw [List.getElem?_eq_getElem hp, ep]
    have hiff := mayL_iff (op := V.opn) hsrt hxp (fun k hk => hr.aft x hxm k ((h.aft x hxm).1 k hk))
    have hids : ∀ {k : Int}, k ∈ mayB V b → ∃ y ∈ S.l, y.b = b ∧ k = (y.id : Int) := fun {k} hk => by
      rw [mayB_chs] at hk
      obtain ⟨u, hu, e⟩ := mayN_mem _ _ hk
      have hu := List.mem_of_mem_take hu
      rw [h.chs b hb] at hu
      obtain ⟨y, hy, rfl⟩ := List.mem_map.1 hu
      obtain ⟨hy1, hy2⟩ := List.mem_filter.1 hy
      exact ⟨y, hy1, by simpa using hy2, e⟩
    rw [mayB_chs] at hids ⊢
    rw [Bool.eq_iff_iff, Bool.and_eq_true, List.all_eq_true, List.all_eq_true, List.contains_iff_mem]
    refine hiff.trans (and_congr ?_ ?_)
    · constructor
      · intro hw k hk
        rw [List.all_eq_true]
        intro y hy
        by_cases e : (y.id : Int) = k
        · rw [decide_eq_true e, Bool.not_true, Bool.false_or, Bool.and_eq_true, decide_eq_true_eq, Bool.and_eq_true, decide_eq_true_eq, List.contains_iff_mem]
          have ho : V.opn k = true := (h.opn hs hr).2 ⟨y, hy, e⟩
          have hm := hw k ((h.aft x hxm).2 k hk ho) ho
          obtain ⟨z, hz, hzb, e2⟩ := hids hm
          have : z = y := srt_uniq hr.srt hz hy (by omega)
          subst this
          rw [e]
          exact ⟨hzb, hzb, hm⟩
        · rw [decide_eq_false e]; rfl
      · intro hw k hk ho
        obtain ⟨y, hy, e⟩ := (h.opn hs hr).1 ho
        have := hw k ((h.aft x hxm).1 k hk)
        rw [List.all_eq_true] at this
        have := this y hy
        rw [decide_eq_true e, Bool.not_true, Bool.false_or, Bool.and_eq_true, Bool.and_eq_true, List.contains_iff_mem] at this
        rw [← e]; exact this.2.2
    · constructor
      · intro hw y hy
        by_cases hm : meetR y x = true
        · unfold meetR at hm ⊢
          rw [Bool.and_eq_true, decide_eq_true_eq] at hm
          rw [decide_eq_true hm.1, hm.2, Bool.and_true, Bool.not_true, Bool.false_or, Bool.and_eq_true, decide_eq_true_eq, List.contains_iff_mem]
          have hyb : y.b = b := hm.1.trans hxb
          refine ⟨hyb, ?_⟩
          obtain ⟨hy1, hy2⟩ := (mem_take_srt hr.srt hx).1 hy
          refine hw (setA af y) ((mem_take_srt hsrt hxp).2 ⟨?_, hy2⟩) hm.2
          rw [h.chs b hb]
          exact List.mem_map.2 ⟨y, List.mem_filter.2 ⟨hy1, by simpa using hyb⟩, rfl⟩
        · rw [Bool.not_eq_true] at hm
          rw [hm]; rfl
      · intro hw u hu hm
        obtain ⟨hu1, hu2⟩ := (mem_take_srt hsrt hxp).1 hu
        rw [h.chs b hb] at hu1
        obtain ⟨y, hy, rfl⟩ := List.mem_map.1 hu1
        obtain ⟨hy1, hy2⟩ := List.mem_filter.1 hy
        have hyb : y.b = b := by simpa using hy2
        have := hw y ((mem_take_srt hr.srt hx).2 ⟨hy1, hu2⟩)
        have hmr : meetR y x = true := by unfold meetR; rw [decide_eq_true (by omega), Bool.true_and]; exact hm
        rw [hmr, Bool.not_true, Bool.false_or, Bool.and_eq_true, List.contains_iff_mem] at this
        exact this.2
  · rw [decide_eq_false hxb, Bool.false_and, Bool.false_and]
theorem filter_may (b : Nat) : (S.l.filter (mayF V b)).map (setA af) = (((S.l.filter fun x => decide (x.b = b)).map (setA af)).filter fun x => (mayB V b).contains (x.id : Int)) := by
  rw [List.filter_map, List.filter_filter]
  congr 1
  refine List.filter_congr fun x _ => ?_
  unfold mayF
  rw [Bool.and_comm]; rfl
theorem RelA.img (h : RelA V S af) {b : Nat} (hb : b < V.C.D.vs.length) : imgB V b = rdR S b (mayF V b) := by
  have h1 := h.chs b hb
  have h2 := h.base b hb
  unfold rdR
  rw [h2]
  show imgB V b = withL (bse V b) _
  rw [← withL_setA af, filter_may, ← h1]
  unfold imgB bse mayB chsV
  cases onOf V (b : Int) <;> rfl
theorem RelA.ready (h : RelA V S af) {b : Nat} (hb : b < V.C.D.vs.length) : readyV V b = (S.l.filter fun x => mayF V b x && !x.out).length := by
  have h1 := h.chs b hb
  have e : readyV V b = ((chsV V b).filter fun x => (mayB V b).contains (x.id : Int) && !x.out).length := by
    unfold readyV mayB chsV
    cases onOf V (b : Int) <;> rfl
  rw [e, h1, List.filter_map, List.length_map, List.filter_filter]
  congr 1
  refine List.filter_congr fun x _ => ?_
  unfold mayF
  show ((mayB V b).contains (x.id : Int) && !x.out && decide (x.b = b)) = (decide (x.b = b) && (mayB V b).contains (x.id : Int) && !x.out)
  cases decide (x.b = b) <;> cases (mayB V b).contains (x.id : Int) <;> cases x.out <;> rfl
theorem eq_of_srt {l r : List Ch} (h1 : l.Pairwise fun x y => x.id < y.id) (h2 : r.Pairwise fun x y => x.id < y.id) (hm : ∀ x, x ∈ l ↔ x ∈ r) : l = r := by
  have hn : ∀ {l : List Ch}, (l.Pairwise fun x y => x.id < y.id) → l.Nodup := fun h => h.imp fun h e => by rw [e] at h; omega
  have hp : l.Perm r := (List.perm_ext_iff_of_nodup (hn h1) (hn h2)).2 hm
  exact hp.eq_of_pairwise (fun a b _ _ h1 h2 => by omega) h1 h2
theorem RelA.srtV (h : RelA V S af) (hs : WFS V) (hr : WFR S) : srtV V = S.l.map (setA af) :=
  eq_of_srt (srtV_srt hs) (by rw [List.pairwise_map]; exact hr.srt) fun x => by
    rw [(srtV_perm V).mem_iff, h.all hs hr, List.mem_map]
    constructor
    · rintro ⟨y, hy, e⟩; exact ⟨y, hy, e.symm⟩
    · rintro ⟨y, hy, e⟩; exact ⟨y, hy, e.symm⟩
theorem RelA.num (h : RelA V S af) (hs : WFS V) (hr : WFR S) : openV V = S.l.length := by
  unfold openV
  rw [← (srtV_perm V).length_eq, h.srtV hs hr, List.length_map]
theorem cloR_map : ∀ {l : List Ch} {acc acc' : List Int}, (∀ x ∈ l, acc.contains (x.id : Int) = acc'.contains (x.id : Int)) → (∀ x ∈ l, ∀ y ∈ l, ((y.id : Int) ∈ af x.id ↔ (y.id : Int) ∈ x.after)) → cloR (l.map (setA af)) acc = cloR l acc'
  | [], _, _, _, _ => rfl
  | x :: r, acc, acc', h, ha => by
    rw [List.map_cons]
    unfold cloR
    have hr : ∀ y ∈ r, acc.contains (y.id : Int) = acc'.contains (y.id : Int) := fun y hy => h y (List.mem_cons_of_mem _ hy)
    have har : ∀ x ∈ r, ∀ y ∈ r, ((y.id : Int) ∈ af x.id ↔ (y.id : Int) ∈ x.after) := fun x hx y hy => ha x (List.mem_cons_of_mem _ hx) y (List.mem_cons_of_mem _ hy)
    have hx := h x List.mem_cons_self
    show (if acc.contains (x.id : Int) = true then cloR (r.map (setA af)) (acc ++ af x.id ++ ((r.map (setA af)).filter fun y => meetR y (setA af x)).map fun y => (y.id : Int)) ++ [(x.id : Int)] else cloR (r.map (setA af)) acc) = _
    rw [hx, cloR_map hr har, cloR_map (acc := acc ++ af x.id ++ ((r.map (setA af)).filter fun y => meetR y (setA af x)).map fun y => (y.id : Int)) (acc' := acc' ++ x.after ++ (r.filter fun y => meetR y x).map fun y => (y.id : Int)) ?_ har]
    intro y hy
    have e1 : ((r.map (setA af)).filter fun y => meetR y (setA af x)).map (fun y => (y.id : Int)) = (r.filter fun y => meetR y x).map fun y => (y.id : Int) := by
      rw [List.filter_map, List.map_map]; rfl
    rw [e1, List.append_assoc, List.append_assoc, Bool.eq_iff_iff, List.contains_iff_mem, List.contains_iff_mem, List.mem_append, List.mem_append (s := acc'), List.mem_append, List.mem_append (s := x.after)]
    have h1 := hr y hy
    rw [Bool.eq_iff_iff, List.contains_iff_mem, List.contains_iff_mem] at h1
    rw [h1, ha x List.mem_cons_self y (List.mem_cons_of_mem _ hy)]
theorem RelA.waits (h : RelA V S af) (hs : WFS V) (hr : WFR S) (n : Int) : waitsV V n = waitsL S.l n := by
  unfold waitsV waitsL
  rw [h.srtV hs hr, ← List.map_reverse]
  refine cloR_map (fun _ _ => rfl) fun x hx y hy => ?_
  rw [List.mem_reverse] at hx hy
  exact ⟨(h.aft x hx).1 _, fun hm => (h.aft x hx).2 _ hm ((h.opn hs hr).2 ⟨y, hy, rfl⟩)⟩
theorem RelA.safe (h : RelA V S af) (hs : WFS V) (hr : WFR S) (n : Int) : safeV V n = (decide (1 ≤ n ∧ n ≤ S.last) && S.l.all fun x => !decide ((x.id : Int) = n)) := by
  unfold safeV
  rw [h.last]
  congr 1
  rw [Bool.eq_iff_iff, Bool.not_eq_true', h.opnF hs hr, List.all_eq_true]
  constructor
  · intro hn x hx; rw [decide_eq_false (hn x hx)]; rfl
  · intro hn x hx e
    have := hn x hx
    rw [decide_eq_true e] at this; cases this
end
end Go.Proofs.YtocjjigmpgekfaaGreat
end
