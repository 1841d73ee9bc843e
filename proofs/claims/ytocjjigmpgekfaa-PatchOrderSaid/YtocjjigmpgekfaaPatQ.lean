/- Layer 11, the program's store: a range over a map from which the entry at hand may be taken; a block that is flushed. -/
import Derived.Test.YtocjjigmpgekfaaPatL
open Go Go.Den Go.Proofs
namespace Go.Den
/-- A range over a map that loses entries that have been met. -/
structure RanD (w : World) (r mb : Nat) (Es : List Ent) (clock : Nat) (seen : List Nat) : Prop where
  map : w.heap[mb]? = some (.map (Es.map toE).toArray clock)
  iter : w.heap[r]? = some (.mapIter (some mb) clock seen.toArray clock)
  born : ∀ e ∈ Es, e.2.2 < clock
  all : (Es.map (·.2.2)).Nodup
  keys : (Es.map (·.1)).Nodup
section
variable {P : Program} {w : World}
theorem RanD.at {r mb clock : Nat} {Es : List Ent} {seen : List Nat} (h : RanD w r mb Es clock seen) : MapAt w mb (Es.map kv) := ⟨Es, clock, h.map, rfl, h.keys, h.born, h.all⟩
theorem RanD.keep {S : Nat → Prop} {r mb clock : Nat} {Es : List Ent} {seen : List Nat} {w' : World} (h : RanD w r mb Es clock seen) (m : Mod S w w') (h1 : ¬ S r) (h2 : ¬ S mb) : RanD w' r mb Es clock seen :=
  ⟨m.keep h.map h2, m.keep h.iter h1, h.born, h.all, h.keys⟩
theorem RanD.togo {r mb clock : Nat} {Es : List Ent} {seen : List Nat} (h : RanD w r mb Es clock seen) : togo mb r w = (leftOf (Es.map toE).toArray seen.toArray).size := by
  unfold Go.Den.togo; rw [h.map, iterSeen_of h.iter]
theorem left_len (Es : List Ent) (seen : List Nat) : (leftOf (Es.map toE).toArray seen.toArray).size = (Es.filter fun e => !seen.contains e.2.2).length := by
  have e : leftOf (Es.map toE).toArray seen.toArray = ((Es.map toE).filter fun e => !seen.toArray.contains e.born).toArray := by unfold leftOf; simp
  rw [e, List.size_toArray, List.filter_map, List.length_map]
  congr 1
  apply List.filter_congr
  intro x _
  show (!(seen.toArray.contains (toE x).born)) = !(seen.contains x.2.2)
  congr 1
  rw [Bool.eq_iff_iff]
  simp [toE]
theorem RanD.next {r mb clock : Nat} {ty : TypeId} {Es : List Ent} {seen : List Nat} (h : RanD w r mb Es clock seen) :
    ((∀ e ∈ Es, e.2.2 ∈ seen) ∧ (Instr.next (.pointer (some ⟨r, 0, none⟩)) false ty).run P w = .ok (.tuple #[.bool false]) w) ∨
    ∃ e ∈ Es, e.2.2 ∉ seen ∧ ∃ w', (Instr.next (.pointer (some ⟨r, 0, none⟩)) false ty).run P w = .ok (.tuple #[.bool true, .int .i64 e.1, e.2.1]) w' ∧ (Instr.entry (.pointer (some ⟨r, 0, none⟩))).run P w' = .ok (.tuple #[.int .i64 e.1, e.2.1]) w' ∧
      RanD w' r mb Es clock (seen ++ [e.2.2]) ∧ Mod (fun x => x = r) w w' ∧ Go.Den.togo mb r w' < Go.Den.togo mb r w := by
  have hborn : ∀ x ∈ ((Es.map toE).toArray).toList, x.born < clock := by
    intro x hx
    simp only [List.mem_map] at hx
    obtain ⟨e, he, rfl⟩ := hx
    exact h.born e he
  have hnd : (((Es.map toE).toArray).toList.map (·.born)).Nodup := by
    have := h.all
    rw [List.map_map]; exact this
  rcases next_run (P := P) (ty := ty) h.iter h.map hborn (Nat.le_refl _) with ⟨h0, hrun⟩ | ⟨e, he, w', hrun, hit, hm, hsz⟩
  · refine .inl ⟨fun a ha => ?_, hrun⟩
    have := all_seen _ _ h0 (toE a) (by simp only [List.mem_map]; exact ⟨a, ha, rfl⟩)
    simpa [toE] using this
  · right
    obtain ⟨hin, hns⟩ := mem_left he
    simp only [List.mem_map] at hin
    obtain ⟨x, hx, rfl⟩ := hin
    have hnx : x.2.2 ∉ seen := by
      intro hc
      have : seen.toArray.contains (toE x).born = true := by simpa [toE] using hc
      rw [this] at hns; cases hns
    have hne : mb ≠ r := by
      rintro rfl
      have h1 := h.map; rw [h.iter] at h1; cases h1
    have hmap' := hm.keep h.map hne
    have hR : RanD w' r mb Es clock (seen ++ [x.2.2]) := by
      refine ⟨hmap', ?_, h.born, h.all, h.keys⟩
      rw [hit]; simp [toE]
    refine ⟨x, hx, hnx, w', hrun, ?_, hR, hm, ?_⟩
    · exact entry_run (e := toE x) hit hmap' (by simp only [List.mem_map]; exact ⟨x, hx, rfl⟩) hnd
    · rw [hR.togo, h.togo]
      have := left_shrinks _ _ _ he
      simpa [toE] using this
theorem RanD.del {T T2 ty : TypeId} {z : Value} {r mb clock : Nat} {Es : List Ent} {seen : List Nat} {k : Int} (hT : mapZ P T = some z) (h : RanD w r mb Es clock seen) :
    ∃ w', (Builtin.delete_ #[T, T2] ty #[.map (some mb), .int .i64 k]).run P w = .ok (.tuple #[]) w' ∧ RanD w' r mb (Es.filter fun e => !decide (e.1 = k)) clock seen ∧ Mod (fun x => x = mb) w w' ∧ Go.Den.togo mb r w' ≤ Go.Den.togo mb r w := by
  obtain ⟨kt, e, i, h1, h2, h3, h4⟩ := mapZ_is hT
  have hund : (underlying T).run P w = .ok (.map kt e) w := run_und h1 w
  have hmod : ∀ o, Mod (fun x => x = mb) w (put w mb o) := fun o => (Mod.refl (fun x => x = mb) w).put (.inr rfl) _
  have hsub : (Es.filter fun e => !decide (e.1 = k)).Sublist Es := List.filter_sublist
  have hne : r ≠ mb := by
    rintro rfl
    have h1 := h.map; rw [h.iter] at h1; cases h1
  have fin : ∀ (w' : World), w' = put w mb (.map ((Es.filter fun e => !decide (e.1 = k)).map toE).toArray clock) → (Builtin.delete_ #[T, T2] ty #[.map (some mb), .int .i64 k]).run P w = .ok (.tuple #[]) w' →
      ∃ w', (Builtin.delete_ #[T, T2] ty #[.map (some mb), .int .i64 k]).run P w = .ok (.tuple #[]) w' ∧ RanD w' r mb (Es.filter fun e => !decide (e.1 = k)) clock seen ∧ Mod (fun x => x = mb) w w' ∧ Go.Den.togo mb r w' ≤ Go.Den.togo mb r w := by
    rintro w' rfl hr
    have hR : RanD (put w mb (.map ((Es.filter fun e => !decide (e.1 = k)).map toE).toArray clock)) r mb (Es.filter fun e => !decide (e.1 = k)) clock seen :=
      ⟨heap_put_same (lt_of_heap h.map), by rw [heap_put_other hne]; exact h.iter, fun x hx => h.born x (hsub.subset hx), (hsub.map _).nodup h.all, (hsub.map _).nodup h.keys⟩
    refine ⟨_, hr, hR, hmod _, ?_⟩
    rw [hR.togo, h.togo, left_len, left_len]
    exact (hsub.filter _).length_le
  cases hf : findE k Es 0 with
  | none =>
    have hall := findE_all k Es 0 hf
    refine fin (put w mb (.map (Es.map toE).toArray clock)) (by rw [hall]) ?_
    simp [Builtin.delete_, hund, run_getMap h.map, run_checkKey h2, run_findKey h2, hf, run_setMap h.map]
  | some q =>
    obtain ⟨j, u⟩ := q
    obtain ⟨_, e2, e3⟩ := findE_erase k Es 0 j u h.keys hf
    rw [Nat.sub_zero] at e2 e3
    refine fin (put w mb (.map ((Es.eraseIdx j).map toE).toArray clock)) (by rw [e3]) ?_
    simp [Builtin.delete_, hund, run_getMap h.map, run_checkKey h2, run_findKey h2, hf, run_setMap h.map, erase_map]
end
end Go.Den
namespace Go.Proofs.Ytocjjigmpgekfaa
section
variable {w0 w w' : World} {R R' : Nat → Prop} {rl : Nat → Nat} {sp c d mo mm : Nat} {ca oa : Nat → Nat} {Lo Lm : List (Int × Value)} {P V : Ps} {K : Value → World → Prop}
theorem tells_flush2 {S : Nat → Prop} {F : FuncId} {l : List Ch} (h : PIn w0 R rl w sp c d mo mm ca oa Lo Lm P) (hl : ∀ x ∈ l, x ∈ P.all) (hS : ∀ x ∈ l, ¬ S (ca x.id)) (h5 : ∀ z, rl z = 5 → ¬ S z)
    (hF : ∀ (p0 : Option Addr) (w : World) (K : Value → World → Prop), (∃ q4 : Addr, (.pointer p0 : Value) = .pointer (some q4) ∧ ∃ b6 : Bool, Ru (Instr.loadAt 4 (.pointer (some (Addr.add q4 5)))) w (.bool b6) w ∧ K (.bool b6) w) → Cal Try.prog F #[.pointer p0] w K) :
    TellsP (.func (.func F) #[] #[]) w S (pOf ca (·.out) l) (l.map fun x => ca x.id) := by
  intro w' k qx hqx K hK
  obtain ⟨x, hx, rfl⟩ := List.mem_map.1 hqx
  refine ⟨_, _, _, rfl, ?_⟩
  show Cal Try.prog F #[.pointer (some ⟨ca x.id, 0, none⟩)] w' K
  have hc := (h.chs x (hl x hx)).2.2.keep k (hS x hx) h5
  refine hF _ _ _ ⟨_, rfl, _, hc.ld (j := 5) (by kernel_rfl) (fun _ _ _ _ => rfl), ?_⟩
  have := hK w' (Mod.refl _ _)
  rwa [h.pOf hl hx] at this
/-- The open changes without those of a block that were in an image. -/
def cutO (Lo : List (Int × Value)) (l : List Ch) : List (Int × Value) := Lo.filter fun p => !(l.any fun x => x.out && decide ((x.id : Int) = p.1))
theorem look_filter {L : List (Int × Value)} {f : Int × Value → Bool} {k : Int} (h : ∀ v, f (k, v) = true) : lookupL (L.filter f) k = lookupL L k := by
  induction L with
  | nil => rfl
  | cons p r ih =>
    obtain ⟨k', v⟩ := p
    by_cases e : k = k'
    · subst e
      rw [List.filter_cons_of_pos (h v)]
      simp [lookupL]
    · by_cases hf : f (k', v) = true
      · rw [List.filter_cons_of_pos hf]
        simp only [lookupL]
        rw [ih]
      · rw [List.filter_cons_of_neg (by simpa using hf), ih]
        simp only [lookupL]
        rw [if_neg (fun e2 => e (by first | exact e2 | exact e2.symm))]
/-- A block is flushed, in memory. -/
theorem PIn.flS {S : Nat → Prop} {o : On} {b g cc l' lc : Nat} {la : Option Addr} {Lm' : List (Int × Value)} (h : PIn w0 R rl w sp c d mo mm ca oa Lo Lm P) (ho : o ∈ P.ons) (hob : o.b = b)
    (k : Mod S w w') (hS : ∀ z, S z → z = mo ∨ z = oa b ∨ rl z = 9 + 3 * b ∨ z = mm) (hg : w.heap.size ≤ g ∧ g < w'.heap.size)
    (hmO : MapAt w' mo (cutO Lo o.l)) (hmM : MapAt w' mm Lm') (hk1 : ∀ n : Int, n ≠ b → lookupL Lm' n = lookupL Lm n) (hk2 : ∀ p ∈ Lm', p ∈ Lm)
    (hno : flOn o = none → ∀ p ∈ Lm', p.1 ≠ b)
    (hyes : flOn o ≠ none → lookupL Lm' b = lookupL Lm b ∧ AtU w' (oa b) 0 [.slice (some ⟨g, 0, none⟩) 256 cc, .slice la l' lc] ∧ At w' g 0 (u8L (withL o.base (o.l.filter (·.out)))) ∧ l' = (o.l.filter fun x => !x.out).length ∧
      Own Try.prog w' w0.heap.size 66 1 la l' lc (pL ((o.l.filter fun x => !x.out).map fun x => ca x.id)) ∧ ∀ q, la = some q → rl q.block = 9 + 3 * b) :
    PIn w0 (Gro R w w') (ro rl g 5) w' sp c d mo mm ca oa (cutO Lo o.l) Lm' ⟨P.C, P.last, P.ons.filterMap (flG fun n => decide (n = b))⟩ := by
  have hon := h.ons o ho
  rw [hob] at hon
  have hrS : ∀ {z}, S z → rl z = 3 ∨ rl z = 8 + 3 * b ∨ rl z = 9 + 3 * b ∨ rl z = 4 := fun {z} e => by
    rcases hS z e with e | e | e | e
    · left; rw [e]; exact h.rmo
    · right; left; rw [e]; exact hon.2.1
    · exact .inr (.inr (.inl e))
    · right; right; right; rw [e]; exact h.rmm
  have hgz := h.out_of (x := g) hg.1
  have hx : Ext w w' rl (ro rl g 5) := (Ext.refl _ _ _).ro (.inr ⟨hg.1, hg.2, hgz⟩) (by omega) (by omega)
  have hxo : ∀ {p p' : On}, p ∈ P.ons → flG (fun n => decide (n = b)) p = some p' → (p.b ≠ b ∧ p' = p) ∨ (p = o ∧ flOn o = some p') := fun {p p'} hp e => by
    unfold flG at e
    split at e
    · rename_i hb
      have hb : p.b = b := by simpa using hb
      have := on_uniq h.wf hp ho (by omega)
      subst this
      exact .inr ⟨rfl, e⟩
    · rename_i hb
      have hb : p.b ≠ b := by simpa using hb
      exact .inl ⟨hb, (Option.some.inj e).symm⟩
  have hflo : ∀ {p'}, flOn o = some p' → p' = { o with base := withL o.base (o.l.filter (·.out)), l := o.l.filter fun x => !x.out } := fun {p'} e => by
    unfold flOn at e
    split at e
    · cases e
    · exact (Option.some.inj e).symm
  -- a change that stays
  have hstay : ∀ y, y ∈ Ps.all ⟨P.C, P.last, P.ons.filterMap (flG fun n => decide (n = b))⟩ ↔ y ∈ P.all ∧ (y.b = b → y.out = false) := by
    intro y
    rw [mem_all]
    constructor
    · rintro ⟨p', hp', hy⟩
      obtain ⟨p, hp, e⟩ := List.mem_filterMap.1 hp'
      rcases hxo hp e with ⟨hb, rfl⟩ | ⟨rfl, e2⟩
      · exact ⟨on_all hp hy, fun e3 => absurd (by rw [← h.wf.chb _ hp y hy]; exact e3) hb⟩
      · rw [hflo e2] at hy
        obtain ⟨h1, h2⟩ := List.mem_filter.1 hy
        exact ⟨on_all hp h1, fun _ => by simpa using h2⟩
    · rintro ⟨hy, hout⟩
      obtain ⟨p, hp, hyp⟩ := mem_all.1 hy
      by_cases hb : p.b = b
      · have := on_uniq h.wf hp ho (by omega)
        subst this
        have hyo := hout (by rw [h.wf.chb _ hp y hyp]; exact hb)
        have hmem : y ∈ p.l.filter fun x => !x.out := List.mem_filter.2 ⟨hyp, by rw [hyo]; rfl⟩
        refine ⟨{ p with base := withL p.base (p.l.filter (·.out)), l := p.l.filter fun x => !x.out }, List.mem_filterMap.2 ⟨p, hp, ?_⟩, hmem⟩
        unfold flG flOn
        rw [if_pos (by simpa using hb), if_neg]
        intro he
        rw [List.isEmpty_iff.1 he] at hmem
        cases hmem
      · refine ⟨p, List.mem_filterMap.2 ⟨p, hp, ?_⟩, hyp⟩
        unfold flG
        rw [if_neg (by simpa using hb)]
  have hcutk : ∀ y ∈ P.all, (y.b = b → y.out = false) → ∀ v : Value, (!(o.l.any fun x => x.out && decide ((x.id : Int) = ((y.id : Int), v).1))) = true := fun y hy hout v => by
    rw [Bool.not_eq_true', List.any_eq_false]
    intro x hx hxe
    simp only [Bool.and_eq_true, decide_eq_true_eq] at hxe
    have := map_inj h.wf.ids (on_all ho hx) hy (by omega)
    subst this
    rw [hout (by rw [h.wf.chb _ ho x hx]; exact hob)] at hxe
    cases hxe.1
  refine h.step (P' := ⟨P.C, P.last, P.ons.filterMap (flG fun n => decide (n = b))⟩) rfl k hx (fun z e => ?_) (fun z _ e => by have := hrS e; omega) (h.cell.keep k fun e => by have := hrS e; rw [h.rsp] at this; omega) hmO hmM ?_ ?_ ?_ ?_ (h.wf.fl rfl rfl)
  · by_cases e1 : z = g
    · subst e1; rw [ro_same] at e; omega
    · rw [ro_ne _ e1] at e; exact e
  · intro y hy
    obtain ⟨hy1, hy2⟩ := (hstay y).1 hy
    left
    exact ⟨hy1, look_filter (hcutk y hy1 hy2), rfl, fun q e e2 => by have := hrS e; omega⟩
  · intro p' hp'
    obtain ⟨p, hp, e⟩ := List.mem_filterMap.1 hp'
    rcases hxo hp e with ⟨hb, rfl⟩ | ⟨rfl, e2⟩
    · left
      exact ⟨hp, hk1 _ (by omega), rfl, fun _ _ => rfl, fun q e => by have := hrS e; omega⟩
    · right
      have hne : flOn p ≠ none := by rw [e2]; simp
      obtain ⟨y1, y2, y3, y4, y5, y6⟩ := hyes hne
      rw [hflo e2]
      refine ⟨by show lookupL Lm' (p.b : Int) = _; rw [hob, y1]; exact hon.1, by show ro rl g 5 (oa p.b) = 8 + 3 * p.b; rw [hob, hx.old _ (by rw [hon.2.1]; omega)]; exact hon.2.1, ?_⟩
      refine ⟨g, cc, la, lc, ?_, y3, ro_same _ _ _, ?_, ?_⟩
      · show AtU w' (oa p.b) 0 [_, .slice la (p.l.filter fun x => !x.out).length lc]
        rw [hob, ← y4]; exact y2
      · rw [← y4]; exact y5
      · intro q hq
        show ro rl g 5 q.block = 9 + 3 * p.b
        have := y6 q hq
        rw [hx.old _ (by omega), hob]; exact this
  · intro p hp
    obtain ⟨hp1, hp2⟩ := List.mem_filter.1 hp
    obtain ⟨y, hy, e⟩ := h.keysO p hp1
    refine ⟨y, (hstay y).2 ⟨hy, fun hyb => ?_⟩, e⟩
    obtain ⟨q, hq, hyq⟩ := mem_all.1 hy
    have := on_uniq h.wf hq ho (by rw [← h.wf.chb _ hq y hyq, hyb, hob])
    subst this
    cases hyo : y.out with
    | false => rfl
    | true =>
      exfalso
      rw [Bool.not_eq_true', List.any_eq_false] at hp2
      exact hp2 y hyq (by rw [hyo, e]; simp)
  · intro p hp
    obtain ⟨q, hq, e⟩ := h.keysM p (hk2 p hp)
    by_cases hb : q.b = b
    · have := on_uniq h.wf hq ho (by omega)
      subst this
      cases hf : flOn q with
      | none => exact absurd (by rw [e, hb]) (hno hf p hp)
      | some q' =>
        refine ⟨q', List.mem_filterMap.2 ⟨q, hq, ?_⟩, ?_⟩
        · unfold flG; rw [if_pos (by simpa using hb)]; exact hf
        · rw [hflo hf]; exact e
    · refine ⟨q, List.mem_filterMap.2 ⟨q, hq, ?_⟩, e⟩
      unfold flG; rw [if_neg (by simpa using hb)]
end
end Go.Proofs.Ytocjjigmpgekfaa

/- Layer 11, the program's store: Flush. -/
open Go Go.Den Go.Proofs
namespace Go.Proofs.Ytocjjigmpgekfaa
theorem fmap_congr {α β : Type} {f g : α → Option β} : ∀ {l : List α}, (∀ x ∈ l, f x = g x) → l.filterMap f = l.filterMap g
  | [], _ => rfl
  | x :: r, h => by
    have ih := fmap_congr (f := f) (g := g) (l := r) fun y hy => h y (by simp [hy])
    have hx := h x (by simp)
    cases hf : f x with
    | none => rw [List.filterMap_cons_none hf, List.filterMap_cons_none (by rw [← hx]; exact hf), ih]
    | some y => rw [List.filterMap_cons_some hf, List.filterMap_cons_some (by rw [← hx]; exact hf), ih]
theorem cutO_snoc (Lo : List (Int × Value)) (l : List Ch) (x : Ch) : cutO Lo (l ++ [x]) = if x.out = true then delL (x.id : Int) (cutO Lo l) else cutO Lo l := by
  unfold cutO delL
  by_cases h : x.out = true
  · rw [if_pos h, List.filter_filter]
    apply List.filter_congr
    intro p _
    rw [List.any_append]
    simp only [List.any_cons, List.any_nil, Bool.or_false, h, Bool.true_and]
    have : decide ((x.id : Int) = p.1) = decide (p.1 = (x.id : Int)) := decide_eq_decide.2 ⟨Eq.symm, Eq.symm⟩
    rw [this]
    cases l.any (fun x => x.out && decide ((x.id : Int) = p.1)) <;> cases decide (p.1 = (x.id : Int)) <;> rfl
  · rw [if_neg h]
    apply List.filter_congr
    intro p _
    rw [List.any_append]
    simp [h]
theorem cutO_nil (Lo : List (Int × Value)) : cutO Lo [] = Lo := by
  unfold cutO
  exact List.filter_eq_self.2 fun _ _ => rfl
def fC (P : Ps) (vis : List Nat) (z : Bf) : Bf := if (P.ons.any fun o => decide (o.b = z.b) && vis.contains o.b && (flOn o).isNone) = true then { z with pins := 0 } else z
theorem fC_b (P : Ps) (vis : List Nat) (z : Bf) : (fC P vis z).b = z.b := by unfold fC; split <;> rfl
theorem flOn_b {o o' : On} (h : flOn o = some o') : o'.b = o.b := by
  unfold flOn at h
  split at h
  · cases h
  · rw [← Option.some.inj h]
theorem ons_more (l : List On) (vis : List Nat) {b : Nat} (hb : b ∉ vis) : (l.filterMap (flG fun n => vis.contains n)).filterMap (flG fun n => decide (n = b)) = l.filterMap (flG fun n => (vis ++ [b]).contains n) := by
  rw [List.filterMap_filterMap]
  apply fmap_congr
  intro o _
  have e : (vis ++ [b]).contains o.b = (vis.contains o.b || decide (o.b = b)) := by
    rw [Bool.eq_iff_iff]; simp
  by_cases hv : vis.contains o.b = true
  · have e1 : flG (fun n => vis.contains n) o = flOn o := by unfold flG; rw [if_pos hv]
    have e2 : flG (fun n => (vis ++ [b]).contains n) o = flOn o := by unfold flG; rw [if_pos (by show (vis ++ [b]).contains o.b = true; rw [e, hv]; rfl)]
    rw [e1, e2]
    cases hf : flOn o with
    | none => rfl
    | some o' =>
      have hne : o'.b ≠ b := fun e3 => hb (by rw [← e3, flOn_b hf]; simpa using hv)
      show flG (fun n => decide (n = b)) o' = some o'
      unfold flG; rw [if_neg (by simpa using hne)]
  · have e1 : flG (fun n => vis.contains n) o = some o := by unfold flG; rw [if_neg hv]
    rw [e1]
    show flG (fun n => decide (n = b)) o = _
    have hv' : vis.contains o.b = false := by simpa using hv
    unfold flG
    show (if decide (o.b = b) = true then flOn o else some o) = if (vis ++ [b]).contains o.b = true then flOn o else some o
    rw [e, hv', Bool.false_or]
section
variable {w0 w w' : World} {R R' : Nat → Prop} {rl : Nat → Nat} {sp c d mo mm : Nat} {ca oa : Nat → Nat} {Lo Lm : List (Int × Value)} {P V : Ps} {K : Value → World → Prop}
/-- What a range over the blocks with changes has come to. -/
structure FlI (w0 : World) (R : Nat → Prop) (w : World) (r sp c d mo mm : Nat) (ca oa : Nat → Nat) (clock : Nat) (P : Ps) (w3 : World) (vis : List Nat) (R3 : Nat → Prop) (rl3 : Nat → Nat) (Lo3 : List (Int × Value)) (C3 : Ca) (Es3 : List Ent) (seen : List Nat) : Prop where
  pin : PIn w0 R3 rl3 w3 sp c d mo mm ca oa Lo3 (Es3.map kv) ⟨C3, P.last, P.ons.filterMap (flG fun n => vis.contains n)⟩
  gro : ∀ z, R3 z → Gro R w w3 z
  nr : ¬ R3 r
  M : Mod R w w3
  D : C3.D = flSt P.C.D
  most : C3.most = P.C.most
  l : C3.l = P.C.l.map (fC P vis)
  ran : RanD w3 r mm Es3 clock seen
  vis_ : ∀ e ∈ Es3, e.2.2 ∈ seen ↔ ∃ b ∈ vis, e.1 = ((b : Nat) : Int)
theorem FlI.on {r clock : Nat} {w3 : World} {vis : List Nat} {R3 : Nat → Prop} {rl3 : Nat → Nat} {Lo3 : List (Int × Value)} {C3 : Ca} {Es3 : List Ent} {seen : List Nat} {e : Ent} (h : FlI w0 R w r sp c d mo mm ca oa clock P w3 vis R3 rl3 Lo3 C3 Es3 seen) (he : e ∈ Es3) (hs : e.2.2 ∉ seen) :
    ∃ o, o ∈ P.ons ∧ o ∈ P.ons.filterMap (flG fun n => vis.contains n) ∧ e.1 = (o.b : Int) ∧ o.b ∉ vis ∧ e.2.1 = pV (oa o.b) := by
  obtain ⟨o, ho, e1⟩ := h.pin.keysM (kv e) (List.mem_map.2 ⟨e, he, rfl⟩)
  have e1 : e.1 = (o.b : Int) := e1
  have hnv : o.b ∉ vis := fun hv => hs ((h.vis_ e he).2 ⟨o.b, hv, e1⟩)
  obtain ⟨o0, ho0, e2⟩ := List.mem_filterMap.1 ho
  have hb := (flG_facts e2).1
  have heq : o = o0 := by
    unfold flG at e2
    rw [if_neg (by rw [← hb]; simpa using hnv)] at e2
    exact (Option.some.inj e2).symm
  subst heq
  refine ⟨o, ho0, ho, e1, hnv, ?_⟩
  have h1 := (h.pin.ons o ho).1
  have h2 := look_of_mem (L := Es3.map kv) (k := e.1) (v := e.2.1) h.pin.mapM.nodup (List.mem_map.2 ⟨e, he, rfl⟩)
  rw [e1, h1] at h2
  exact (Option.some.inj h2).symm
theorem fC_skip {vis : List Nat} {o : On} (hs : WFS P) (ho : o ∈ P.ons) (hv : o.b ∉ vis) (hf : flOn o ≠ none) (z : Bf) : fC P (vis ++ [o.b]) z = fC P vis z := by
  unfold fC
  have : (P.ons.any fun o' => decide (o'.b = z.b) && (vis ++ [o.b]).contains o'.b && (flOn o').isNone) = P.ons.any fun o' => decide (o'.b = z.b) && vis.contains o'.b && (flOn o').isNone := by
    rw [Bool.eq_iff_iff, List.any_eq_true, List.any_eq_true]
    constructor
    · rintro ⟨p, hp, e⟩
      simp only [Bool.and_eq_true, decide_eq_true_eq] at e
      have hmem : p.b ∈ vis ++ [o.b] := by simpa using e.1.2
      rcases List.mem_append.1 hmem with hm | hm
      · exact ⟨p, hp, by rw [Bool.and_eq_true, Bool.and_eq_true]; exact ⟨⟨decide_eq_true e.1.1, by simp [hm]⟩, e.2⟩⟩
      · have : p.b = o.b := by simpa using hm
        have := on_uniq hs hp ho this
        subst this
        have := e.2
        cases hfo : flOn p with
        | none => exact absurd hfo hf
        | some _ => rw [hfo] at this; cases this
    · rintro ⟨p, hp, e⟩
      simp only [Bool.and_eq_true, decide_eq_true_eq] at e
      have hmem : p.b ∈ vis := by simpa using e.1.2
      exact ⟨p, hp, by rw [Bool.and_eq_true, Bool.and_eq_true]; exact ⟨⟨decide_eq_true e.1.1, by simp [hmem]⟩, e.2⟩⟩
  rw [this]
theorem fC_cut {vis : List Nat} {o : On} {x : Bf} (hs : WFS P) (hn : (P.C.l.map (·.b)).Nodup) (ho : o ∈ P.ons) (hf : flOn o = none) (hx : x ∈ P.C.l) (hxb : x.b = o.b) : turn (P.C.l.map (fC P vis)) { x with pins := 0 } = P.C.l.map (fC P (vis ++ [o.b])) := by
  unfold turn
  rw [List.map_map]
  apply List.map_congr_left
  intro z hz
  simp only [Function.comp]
  rw [fC_b]
  by_cases e : z.b = x.b
  · have := map_inj hn hz hx e
    subst this
    rw [if_pos rfl]
    unfold fC
    rw [if_pos]
    rw [List.any_eq_true]
    exact ⟨o, ho, by simp [hxb, hf]⟩
  · rw [if_neg e]
    unfold fC
    have : (P.ons.any fun o' => decide (o'.b = z.b) && (vis ++ [o.b]).contains o'.b && (flOn o').isNone) = P.ons.any fun o' => decide (o'.b = z.b) && vis.contains o'.b && (flOn o').isNone := by
      rw [Bool.eq_iff_iff, List.any_eq_true, List.any_eq_true]
      constructor
      · rintro ⟨p, hp, e2⟩
        simp only [Bool.and_eq_true, decide_eq_true_eq] at e2
        have hmem : p.b ∈ vis ++ [o.b] := by simpa using e2.1.2
        rcases List.mem_append.1 hmem with hm | hm
        · exact ⟨p, hp, by rw [Bool.and_eq_true, Bool.and_eq_true]; exact ⟨⟨decide_eq_true e2.1.1, by simp [hm]⟩, e2.2⟩⟩
        · have : p.b = o.b := by simpa using hm
          omega
      · rintro ⟨p, hp, e2⟩
        simp only [Bool.and_eq_true, decide_eq_true_eq] at e2
        have hmem : p.b ∈ vis := by simpa using e2.1.2
        exact ⟨p, hp, by rw [Bool.and_eq_true, Bool.and_eq_true]; exact ⟨⟨decide_eq_true e2.1.1, by simp [hmem]⟩, e2.2⟩⟩
    rw [this]
/-- At the end. -/
theorem FlI.done {r clock : Nat} {w3 : World} {vis : List Nat} {R3 : Nat → Prop} {rl3 : Nat → Nat} {Lo3 : List (Int × Value)} {C3 : Ca} {Es3 : List Ent} {seen : List Nat} (h : FlI w0 R w r sp c d mo mm ca oa clock P w3 vis R3 rl3 Lo3 C3 Es3 seen) (hall : ∀ e ∈ Es3, e.2.2 ∈ seen) (hP : Px w0 R w sp d P) :
    Px w0 (Gro R w w3) w3 sp d ⟨C3, P.last, P.ons.filterMap flOn⟩ := by
  have hwf := hP.wf
  have hv : ∀ o ∈ P.ons, o.b ∈ vis := fun o ho => by
    by_cases hv : o.b ∈ vis
    · exact hv
    · have hm : o ∈ P.ons.filterMap (flG fun n => vis.contains n) := List.mem_filterMap.2 ⟨o, ho, by unfold flG; rw [if_neg (by simpa using hv)]⟩
      have hl := look_mem (h.pin.ons o hm).1
      obtain ⟨e, he, e2⟩ := List.mem_map.1 hl
      obtain ⟨b, hb, e3⟩ := (h.vis_ e he).1 (hall e he)
      have : e.1 = (o.b : Int) := congrArg Prod.fst e2
      have : b = o.b := by omega
      rw [← this]; exact hb
  have e1 : P.ons.filterMap (flG fun n => vis.contains n) = P.ons.filterMap flOn := by
    apply fmap_congr
    intro o ho
    unfold flG; rw [if_pos (by simpa using hv o ho)]
  have hpin := h.pin
  rw [e1] at hpin
  have hC : C3 = { P.C with D := flSt P.C.D, l := P.C.l.map fun x => if (P.ons.any fun o => decide (o.b = x.b) && (flOn o).isNone) = true then { x with pins := 0 } else x } := by
    have hl := h.l
    have hD := h.D
    have hm := h.most
    have e2 : P.C.l.map (fC P vis) = P.C.l.map fun x => if (P.ons.any fun o => decide (o.b = x.b) && (flOn o).isNone) = true then { x with pins := 0 } else x := by
      apply List.map_congr_left
      intro z _
      unfold fC
      have : (P.ons.any fun o => decide (o.b = z.b) && vis.contains o.b && (flOn o).isNone) = P.ons.any fun o => decide (o.b = z.b) && (flOn o).isNone := by
        rw [Bool.eq_iff_iff, List.any_eq_true, List.any_eq_true]
        constructor
        · rintro ⟨p, hp, e⟩
          simp only [Bool.and_eq_true] at e
          exact ⟨p, hp, by rw [e.1.1, e.2]; rfl⟩
        · rintro ⟨p, hp, e⟩
          simp only [Bool.and_eq_true] at e
          have := hv p hp
          exact ⟨p, hp, by rw [e.1, e.2]; simp [this]⟩
      rw [this]
    rw [e2] at hl
    cases C3
    simp only at hl hD hm
    rw [hl, hD, hm]
  have hw := hwf.1.flush hwf.2.1 hwf.2.2.1.nodup
  have hw : WFP ⟨C3, P.last, P.ons.filterMap flOn⟩ := by rw [hC]; exact hw
  have hz := h.M.size
  have hw0 := hwf.2.2.2.2.1.size
  refine ⟨hw, rl3, c, mo, mm, ca, oa, Lo3, _, hpin.widen h.gro fun z hz => ?_⟩
  rcases hz with hz | hz
  · have := hP.lo z hz; omega
  · omega
end
end Go.Proofs.Ytocjjigmpgekfaa

/- Layer 11, the program's store: Flush. -/
open Go Go.Den Go.Proofs
namespace Go.Proofs.Ytocjjigmpgekfaa
section
variable {w0 w w' : World} {R R' : Nat → Prop} {rl : Nat → Nat} {sp c d mo mm : Nat} {ca oa : Nat → Nat} {Lo Lm : List (Int × Value)} {P V : Ps} {K : Value → World → Prop}
theorem u_ons : Try.prog.underlying 59 = some (.map 3 62) := by kernel_rfl
theorem filter_map_ca {l : List Ch} {p : Nat → Bool} (hp : ∀ x ∈ l, p (ca x.id) = x.out) : (l.map fun x => ca x.id).filter (fun q => !p q) = (l.filter fun x => !x.out).map fun x => ca x.id := by
  rw [List.filter_map]
  congr 1
  apply List.filter_congr
  intro x hx
  simp only [Function.comp]
  rw [hp x hx]
theorem flOn_none {o : On} (h : flOn o = none) : (o.l.filter fun x => !x.out).length = 0 := by
  unfold flOn at h
  split at h
  · rename_i he; rw [List.isEmpty_iff.1 he]; rfl
  · cases h
theorem flOn_some {o : On} (h : flOn o ≠ none) : (o.l.filter fun x => !x.out).length ≠ 0 := by
  unfold flOn at h
  split at h
  · exact absurd rfl h
  · rename_i he
    intro h0
    exact he (List.isEmpty_iff.2 (List.eq_nil_of_length_eq_zero h0))
set_option maxRecDepth 100000 in
theorem pFlush_c (hP : Px w0 R w sp d P) (hk : ∀ w' C', Mod R w w' → Px w0 (Gro R w w') w' sp d ⟨C', P.last, P.ons.filterMap flOn⟩ → C'.D = flSt P.C.D → C'.most = P.C.most → K (.int .i64 0) w') :
    Cal Try.prog F_patch_Store_Flush #[.pointer (some ⟨sp, 0, none⟩)] w K := by
  have hP0 := hP
  obtain ⟨hw, rl, c, mo, mm, ca, oa, Lo, Lm, h⟩ := hP
  apply C_patch_Store_Flush
  unfold D_patch_Store_Flush
  refine ff rfl ⟨_, rfl, _, h.lc, cFlush_c h.cx fun w1 m1 x1 => ⟨_, rfl, ff rfl ?_⟩⟩
  obtain ⟨rl1, h1, hr1⟩ := h.cache m1 (Mod.refl _ _) x1 (fl_len _) rfl
  have hz1 := m1.size
  have hlo := hP0.lo
  have hw0 := h.mod.size
  have M1 : Mod R w w1 := m1.mono fun z _ e => h.reg z (by have e : rl z = 1 := e; omega)
  obtain ⟨Es, clock, g1, g2, g3, g4, g5⟩ := h1.mapM
  refine ⟨_, rfl, _, h1.lm, _, _, range_run u_ons g1, ?_⟩
  have m2 : Mod No w1 (w1.alloc (.mapIter (some mm) clock #[] clock)) := (Mod.refl No w1).alloc _
  have hR2 : RanD (w1.alloc (.mapIter (some mm) clock #[] clock)) w1.heap.size mm Es clock [] := ⟨m2.keep g1 id, heap_new w1 _, g4, g5, g3⟩
  have s2 : (w1.alloc (.mapIter (some mm) clock #[] clock)).heap.size = w1.heap.size + 1 := by simp
  generalize w1.alloc (.mapIter (some mm) clock #[] clock) = w2 at *
  have h2 := h1.nos m2
  have e0 : P.ons.filterMap (flG fun n => ([] : List Nat).contains n) = P.ons := by
    have : P.ons.filterMap (flG fun n => ([] : List Nat).contains n) = P.ons.filterMap some := fmap_congr fun o _ => rfl
    rw [this, List.filterMap_some]
  refine ⟨fun _ w3 => ∃ vis R3 rl3 Lo3 C3 Es3 seen, FlI w0 R w w1.heap.size sp c d mo mm ca oa clock P w3 vis R3 rl3 Lo3 C3 Es3 seen, fun _ w3 => togo mm w1.heap.size w3,
    ⟨[], Gro R w w1, rl1, Lo, { P.C with D := flSt P.C.D }, Es, [], ?_⟩, ?_⟩
  · exact {
      pin := by rw [e0, g2]; exact h2
      gro := fun z hz => by
        rcases hz with hz | hz
        · exact .inl hz
        · exact .inr (by omega)
      nr := fun hz => by
        rcases hz with hz | hz
        · have := hlo _ hz; omega
        · omega
      M := M1.no m2
      D := rfl
      most := rfl
      l := by
        show P.C.l = _
        conv => lhs; rw [← List.map_id P.C.l]
        apply List.map_congr_left
        intro z _
        show z = fC P [] z
        unfold fC
        rw [if_neg]
        rw [List.any_eq_true]
        rintro ⟨o, _, e⟩
        simp at e
      ran := hR2
      vis_ := fun e _ => by simp }
  rintro x w3 ⟨vis, R3, rl3, Lo3, C3, Es3, seen, I⟩
  have hz3 := I.M.size
  have hrl3 : w1.heap.size < w3.heap.size := lt_of_heap I.ran.iter
  rcases I.ran.next (P := Try.prog) (ty := 0) with ⟨hall, hrun⟩ | ⟨e, he, hns, w4, hrun, hent, hR4, m4, hlt⟩
  · refine ⟨_, _, hrun, false, fun _ => rfl, ff rfl ?_⟩
    exact hk w3 C3 I.M (I.done hall hP0) I.D I.most
  obtain ⟨o, ho, ho3, ek, hnv, ev⟩ := I.on he hns
  rw [ek, ev] at hrun hent
  refine ⟨_, w4, hrun, true, fun _ => rfl, tt rfl ⟨_, hent, _, fun _ => rfl, _, fun _ => rfl, ?_⟩⟩
  -- the parts at w4
  have hrr : rl3 w1.heap.size = 0 := by
    by_cases e : rl3 w1.heap.size = 0
    · exact e
    · exact absurd (I.pin.reg _ e) I.nr
  have h4 := I.pin.keepS m4 (fun z hz e => I.nr (by rw [← show z = w1.heap.size from e]; exact hz)) fun z hz e => by have e : z = w1.heap.size := e; omega
  have hz4 := m4.size
  have hoa := fun x hx => on_all (P := ⟨C3, P.last, P.ons.filterMap (flG fun n => vis.contains n)⟩) ho3 (x := x) hx
  have hbl := h4.wf.base o ho3
  refine with_c h4 ho3 (f := (·.out)) (tells_flush h4 hoa fun _ _ _ hh => by apply C_patch_Store_Flush_1; exact hh) fun w5 g cc m5 hg hat => ⟨_, _, _, rfl, _, rfl, ?_⟩
  have h5 := h4.nos m5
  have hz5 := m5.size
  obtain ⟨k1, k2, g9, cc9, la, lc, c1, c2, c3, c4, c5⟩ := h5.ons o ho3
  have hrmo := h5.rmo
  have hrmm := h5.rmm
  have hout4 : ∀ {z}, w4.heap.size ≤ z → rl3 z = 0 := fun hz => h4.out_of hz
  have hlast := h5.wf.last
  have hlen := h5.wf.llen o ho3
  obtain ⟨w6, u1, u2, u3, u4⟩ := c1.store (P := Try.prog) (T := 32) (i := 0) (v := .slice (some ⟨g, 0, none⟩) 256 cc) (by kernel_rfl) (by simp) rfl
  have u2 : AtU w6 (oa o.b) 0 [.slice (some ⟨g, 0, none⟩) 256 cc, .slice la o.l.length lc] := by simpa using u2
  have hnoa : ∀ {z}, rl3 z ≠ 8 + 3 * o.b → z ≠ oa o.b := fun hz e => hz (by rw [e]; exact k2)
  have hnmo : ∀ {z}, rl3 z ≠ 3 → z ≠ mo := fun hz e => hz (by rw [e]; exact hrmo)
  have hnmm : ∀ {z}, rl3 z ≠ 4 → z ≠ mm := fun hz e => hz (by rw [e]; exact hrmm)
  have hlaS : ∀ {z}, rl3 z ≠ 9 + 3 * o.b → ¬ Of la z := fun hz ⟨q, hq, e⟩ => hz (by rw [e]; exact c5 q hq)
  have r6 : Own Try.prog w6 w0.heap.size 66 1 la o.l.length lc (pL (o.l.map fun x => ca x.id)) := c4.keep u3 fun q hq => hnoa (by rw [c5 q hq]; omega)
  have hat6 := hat.keep u3 (hnoa (by rw [hout4 hg]; omega))
  refine ⟨w6, by rw [add_none]; exact u1, _, rfl, la, _, lc, by rw [add_none]; exact u2.at.load (by kernel_rfl) rfl, ?_⟩
  have hz6 := u3.size
  have hcut3 : cutO Lo3 (o.l.take 0) = Lo3 := by rw [List.take_zero]; exact cutO_nil _
  refine ⟨fun x w7 => ∃ i : Nat, i ≤ o.l.length ∧ x = [.int .i64 i] ∧ MapAt w7 mo (cutO Lo3 (o.l.take i)) ∧ Mod (fun z => z = mo) w6 w7, fun x _ => (o.l.length - nI x 0).toNat, ⟨0, by omega, rfl, by rw [hcut3]; exact h5.mapO.keep u3 (hnoa (by rw [hrmo]; omega)), Mod.refl _ _⟩, ?_⟩
  rintro x w7 ⟨i, hi, rfl, mp7, M7⟩
  refine ⟨_, rfl, cond_of (fun hb => ?_) (fun hb => ?_)⟩
  · have hi : i < o.l.length := by have := of_decide_eq_true hb; omega
    have hxm := List.getElem_mem hi
    have hxa := hoa _ hxm
    have hr7 : Row w7 la (pL (o.l.map fun x => ca x.id)) := (r6.keep M7 fun q hq => hnmo (by rw [c5 q hq]; omega)).rowU.row
    obtain ⟨b3, o3, hla, hat3⟩ := row_someP hr7 (i := i) (by simp; exact hi)
    subst hla
    have hld := hat3.load (P := Try.prog) (T := 69) (by kernel_rfl) (pL_get (i := i) (by simp; exact hi))
    rw [List.getElem_map] at hld
    refine ⟨_, index_slice (k := 1) (by kernel_rfl) (by omega) (by omega), ?_⟩
    rw [add_none, show (i : Int).toNat * 1 = i by omega]
    obtain ⟨ch1, ch2, ch3⟩ := h5.chs _ hxa
    have ch7 := (ch3.keep u3 (hnoa (by rw [ch2]; omega)) fun z hz => hnoa (by rw [hz]; omega)).keep M7 (hnmo (by rw [ch2]; omega)) fun z hz => hnmo (by rw [hz]; omega)
    refine ⟨_, hld, _, rfl, _, ch7.ld (j := 5) (by kernel_rfl) (fun _ _ _ _ => rfl), ?_⟩
    have hcs := cutO_snoc Lo3 (o.l.take i) o.l[i]
    rw [← List.take_succ_eq_append_getElem hi] at hcs
    refine Share.cut (fun _ w9 => MapAt w9 mo (cutO Lo3 (o.l.take (i + 1))) ∧ Mod (fun z => z = mo) w6 w9) (cond_of (fun hf => ?_) (fun hf => ?_)) ?_
    · have md : Mod No w7 (Go.Den.drew w7) := (Mod.refl No w7).drew
      have ch7d := ch7.keep md id fun _ _ => id
      have hc7 : AtU w7 sp 0 [.pointer (some ⟨c, 0, none⟩), .int .i64 C3.D.vs.length, .int .i64 P.last, .map (some mo), .map (some mm)] := (h5.cell.keep u3 (hnoa (by rw [h5.rsp]; omega))).keep M7 (hnmo (by rw [h5.rsp]; omega))
      obtain ⟨w8, v1, v2, v3, v4⟩ := delete_run (P := Try.prog) (T := 58) (T2 := 2) (ty := 0) (k := (o.l[i].id : Int)) mapOpen (mp7.keep md id)
      refine ⟨_, rfl, _, by rw [add_none]; exact (hc7.keep md id).at.load (by kernel_rfl) rfl, _, rfl, _, ch7d.ld (j := 0) (by kernel_rfl) (fun _ _ _ _ => rfl), w8, v1, ?_, (M7.no md).trans v3 fun _ _ e => e⟩
      rw [hcs, if_pos hf]; exact v2
    · rw [hcs, if_neg (by rw [hf]; simp)]; exact ⟨mp7, M7⟩
    · rintro z w9 ⟨mp9, M9⟩
      rw [wrap64 (x := (i : Int) + 1) (by omega) (by omega)]
      exact ⟨⟨i + 1, by omega, rfl, mp9, M9⟩, by simp [nI, nth]; omega⟩
  have hil : i = o.l.length := by have := of_decide_eq_false hb; omega
  subst hil
  rw [List.take_length] at mp7
  have a7 := u2.keep M7 (hnmo (by rw [k2]; omega))
  have r7 := r6.keep M7 fun q hq => hnmo (by rw [c5 q hq]; omega)
  have hz7 := M7.size
  refine ⟨_, rfl, la, _, lc, by rw [add_none]; exact a7.at.load (by kernel_rfl) rfl, ?_⟩
  have hT5 : TellsP (.func (.func F_patch_Store_Flush_2) #[] #[]) w5 (fun z => z = mo ∨ z = oa o.b ∨ rl3 z = 9 + 3 * o.b) (pOf ca (·.out) o.l) (o.l.map fun x => ca x.id) :=
    tells_flush2 h5 hoa (fun x hx e => by
      have := (h5.chs x (hoa x hx)).2.1
      rcases e with e | e | e
      · rw [e, hrmo] at this; omega
      · rw [e, k2] at this; omega
      · omega) (fun z hz e => by
      rcases e with e | e | e
      · rw [e, hrmo] at hz; omega
      · rw [e, k2] at hz; omega
      · omega) fun _ _ _ hh => by apply C_patch_Store_Flush_2; exact hh
  have hT7 : TellsP (.func (.func F_patch_Store_Flush_2) #[] #[]) w7 (Of la) (pOf ca (·.out) o.l) (o.l.map fun x => ca x.id) := fun w' k => hT5 w' (((u3.mono fun z _ e => .inr (.inl e)).trans M7 fun z _ e => .inl e).trans k fun z _ e => by
    obtain ⟨q, hq, e⟩ := e
    exact .inr (.inr (by rw [e]; exact c5 q hq)))
  refine DeleteFuncP_c r7 (by omega) hT7 fun w10 l' o10 hl' m10 => ⟨_, _, _, rfl, _, rfl, ?_⟩
  have hfm := filter_map_ca (ca := ca) (l := o.l) (p := pOf ca (·.out) o.l) fun x hx => h5.pOf hoa hx
  rw [hfm] at o10 hl'
  rw [List.length_map] at hl'
  have a10 := a7.keep m10 (hlaS (by rw [k2]; omega))
  obtain ⟨w11, v1, v2, v3, v4⟩ := a10.store (P := Try.prog) (T := 66) (i := 1) (v := .slice la l' lc) (by kernel_rfl) (by simp) rfl
  have v2 : AtU w11 (oa o.b) 0 [.slice (some ⟨g, 0, none⟩) 256 cc, .slice la l' lc] := by simpa using v2
  refine ⟨w11, by rw [add_none]; exact v1, _, rfl, la, l', lc, by rw [add_none]; exact v2.at.load (by kernel_rfl) rfl, ?_⟩
  have hz10 := m10.size
  have hz11 := v3.size
  -- from w4 to w11
  have M11 : Mod (fun z => z = mo ∨ z = oa o.b ∨ rl3 z = 9 + 3 * o.b ∨ z = mm) w4 w11 :=
    (((m5.anys.trans u3 fun z _ e => .inr (.inl e)).trans M7 fun z _ e => .inl e).trans m10 fun z _ ⟨q, hq, e⟩ => .inr (.inr (.inl (by rw [e]; exact c5 q hq)))).trans v3 fun z _ e => .inr (.inl e)
  have mp11 : MapAt w11 mo (cutO Lo3 o.l) := (mp7.keep m10 (hlaS (by rw [hrmo]; omega))).keep v3 (hnoa (by rw [hrmo]; omega))
  have o11 : Own Try.prog w11 w0.heap.size 66 1 la l' lc (pL ((o.l.filter fun x => !x.out).map fun x => ca x.id)) := o10.keep v3 fun q hq => hnoa (by rw [c5 q hq]; omega)
  have g11 : At w11 g 0 (u8L (withL o.base (o.l.filter (·.out)))) := (((hat6.keep M7 (hnmo (by rw [hout4 hg]; omega))).keep m10 (hlaS (by rw [hout4 hg]; omega))).keep v3 (hnoa (by rw [hout4 hg]; omega))).at
  have hgl := g11.lt
  have hrS : ∀ {z : Nat}, rl3 z = 0 → ¬ (z = mo ∨ z = oa o.b ∨ rl3 z = 9 + 3 * o.b) := fun hz e => by
    rcases e with e | e | e
    · rw [e, hrmo] at hz; omega
    · rw [e, k2] at hz; omega
    · omega
  have hmmS : ¬ (mm = mo ∨ mm = oa o.b ∨ rl3 mm = 9 + 3 * o.b) := fun e => by
    rcases e with e | e | e
    · rw [e, hrmo] at hrmm; omega
    · rw [e, k2] at hrmm; omega
    · omega
  have M11' : Mod (fun z => z = mo ∨ z = oa o.b ∨ rl3 z = 9 + 3 * o.b) w4 w11 :=
    (((m5.anys.trans u3 fun z _ e => .inr (.inl e)).trans M7 fun z _ e => .inl e).trans m10 fun z _ ⟨q, hq, e⟩ => .inr (.inr (by rw [e]; exact c5 q hq))).trans v3 fun z _ e => .inr (.inl e)
  have hR11 := hR4.keep M11' (hrS hrr) hmmS
  have hvis' : ∀ e' ∈ Es3, (e'.2.2 ∈ seen ++ [e.2.2] ↔ ∃ b ∈ vis ++ [o.b], e'.1 = ((b : Nat) : Int)) := fun e' he' => by
    constructor
    · intro hm
      rcases List.mem_append.1 hm with hm | hm
      · obtain ⟨b, hb, e2⟩ := (I.vis_ e' he').1 hm
        exact ⟨b, List.mem_append.2 (.inl hb), e2⟩
      · have : e'.2.2 = e.2.2 := by simpa using hm
        rw [born_eq I.ran.all he' he this]
        exact ⟨o.b, by simp, ek⟩
    · rintro ⟨b, hb, e2⟩
      rcases List.mem_append.1 hb with hb | hb
      · exact List.mem_append.2 (.inl ((I.vis_ e' he').2 ⟨b, hb, e2⟩))
      · have hb : b = o.b := by simpa using hb
        have : e' = e := map_inj I.ran.keys he' he (by rw [e2, ek, hb])
        rw [this]; simp
  have hR3M : ∀ {z}, z < w.heap.size → rl3 z ≠ 0 → R z := fun {z} hz hn => by
    rcases I.gro z (I.pin.reg z hn) with e | e
    · exact e
    · omega
  have MR4 : Mod R w w4 := I.M.trans m4 fun z hz e => by have e : z = w1.heap.size := e; omega
  have MR11 : Mod R w w11 := MR4.trans M11' fun z hz e => hR3M hz (fun e0 => hrS e0 e)
  have hG : ∀ w', w4.heap.size ≤ w'.heap.size → ∀ z, Gro R3 w4 w' z → Gro R w w' z := fun w' hw z hz => by
    rcases hz with hz | hz
    · rcases I.gro z hz with e | e
      · exact .inl e
      · exact .inr (by omega)
    · exact .inr (by omega)
  have hnr : ∀ w', ¬ Gro R3 w4 w' w1.heap.size := fun w' hz => by
    rcases hz with hz | hz
    · exact I.nr hz
    · omega
  refine Share.dup (cond_of (fun hl0 => ?_) (fun hl0 => ?_))
  · -- none is left
    have hl0 : l' = 0 := by
      have : (l' : Int) = 0 := by simpa using hl0
      omega
    have hfn : flOn o = none := by
      cases hf : flOn o with
      | none => rfl
      | some o' => exact absurd (by rw [← hl', hl0]) (flOn_some (o := o) (by rw [hf]; simp))
    have hc11 : AtU w11 sp 0 [.pointer (some ⟨c, 0, none⟩), .int .i64 C3.D.vs.length, .int .i64 P.last, .map (some mo), .map (some mm)] := h4.cell.keep M11' (fun e => by
      have hsp := h4.rsp
      rcases e with e | e | e
      · rw [e, hrmo] at hsp; omega
      · rw [e, k2] at hsp; omega
      · omega)
    obtain ⟨w12, d1, d2, d3, d4⟩ := hR11.del (P := Try.prog) (T := 59) (T2 := 3) (ty := 0) (k := (o.b : Int)) mapOns
    refine ⟨_, rfl, _, by rw [add_none]; exact hc11.at.load (by kernel_rfl) rfl, w12, d1, ?_⟩
    have hz12 := d3.size
    have hkv : (Es3.filter fun e => !decide (e.1 = (o.b : Int))).map kv = delL (o.b : Int) (Es3.map kv) := by
      unfold delL; rw [List.filter_map]; rfl
    have h12 := h4.flS (w' := w12) (b := o.b) (g := g) (cc := cc) (l' := l') (lc := lc) (la := la) (Lm' := delL (o.b : Int) (Es3.map kv)) ho3 rfl (M11.trans d3 fun z _ e => .inr (.inr (.inr e))) (fun _ e => e) ⟨hg, by omega⟩
      (mp11.keep d3 (hnmm (by rw [hrmo]; omega))) (by rw [← hkv]; exact d2.at) (fun n hn => by rw [look_del, if_neg hn]) (fun p hp => (del_mem.1 hp).1) (fun _ p hp => (del_mem.1 hp).2) (fun hne => absurd hfn hne)
    rw [ons_more P.ons vis hnv, ← hkv] at h12
    refine ⟨_, rfl, _, h12.lc, ?_⟩
    -- the pin
    obtain ⟨x, hx, x1, x2, x3⟩ := hw.pin o ho
    have hfx : fC P vis x = x := by
      unfold fC
      rw [if_neg]
      rw [List.any_eq_true]
      rintro ⟨p, hp, e⟩
      simp only [Bool.and_eq_true, decide_eq_true_eq] at e
      apply hnv
      have : p.b = o.b := by omega
      rw [← this]; simpa using e.1.2
    have hx3 : x ∈ C3.l := by rw [I.l]; exact List.mem_map.2 ⟨x, hx, hfx⟩
    have hn := h.cx.wf.1.nodup
    have hn3 := I.pin.cx.wf.1.nodup
    have hheld : heldC C3 (o.b : Int) = some x := by
      unfold heldC
      rw [if_neg (by omega), Int.toNat_natCast]
      have := findB_mem hn3 hx3
      rw [x1] at this; exact this
    have hun : unpinX C3 (o.b : Int) = ({ C3 with l := P.C.l.map (fC P (vis ++ [o.b])) }, 0) := by
      unfold unpinX
      rw [hheld]
      simp only
      rw [if_neg (by omega), x2]
      have := fC_cut (vis := vis) h.wf hn ho hfn hx x1
      rw [I.l]
      show (({ C3 with l := turn (P.C.l.map (fC P vis)) { x with pins := 0 } } : Ca), (0 : Int)) = _
      rw [this]
    refine cUnpin_c (n := (o.b : Int)) h12.cx fun w13 m13 x13 => ⟨_, rfl, ?_⟩
    have x13 : Cx w0 (Gro (fun z => ro rl3 g 5 z = 1) w12 w13) w13 c d (unpinX C3 (o.b : Int)).1 := x13
    rw [hun] at x13
    obtain ⟨rl13, h13, hr13⟩ := h12.cache m13 (Mod.refl _ _) x13 rfl rfl
    have hz13 := m13.size
    have hro1 : ∀ {z}, ro rl3 g 5 z = 1 → rl3 z = 1 := fun {z} e => by
      by_cases e1 : z = g
      · subst e1; rw [ro_same] at e; omega
      · rw [ro_ne _ e1] at e; exact e
    have hR13 := d2.keep m13 (fun e => by have := hro1 e; omega) (fun e => by have := hro1 e; omega)
    refine ⟨⟨vis ++ [o.b], Gro (Gro R3 w4 w12) w12 w13, rl13, _, _, _, _, {
      pin := h13
      gro := fun z hz => by
        rcases hz with hz | hz
        · rcases hG w12 (by omega) z hz with e | e
          · exact .inl e
          · exact .inr (by omega)
        · exact .inr (by omega)
      nr := fun hz => by
        rcases hz with hz | hz
        · exact hnr w12 hz
        · omega
      M := (MR11.trans d3 fun z hz e => hR3M hz (by rw [show z = mm from e, hrmm]; omega)).trans m13 fun z hz e => hR3M hz (by have := hro1 e; omega)
      D := I.D
      most := I.most
      l := rfl
      ran := hR13
      vis_ := fun e' he' => hvis' e' (List.mem_filter.1 he').1 }⟩, ?_⟩
    · show togo mm w1.heap.size w13 < togo mm w1.heap.size w3
      have e1 : togo mm w1.heap.size w13 = togo mm w1.heap.size w12 := by rw [hR13.togo, d2.togo]
      have e2 : togo mm w1.heap.size w11 = togo mm w1.heap.size w4 := by rw [hR11.togo, hR4.togo]
      omega
  · -- some are left
    have hl0 : l' ≠ 0 := fun e => by rw [e] at hl0; simp at hl0
    have hfn : flOn o ≠ none := fun hf => hl0 (by rw [hl', flOn_none hf])
    have h11 := h4.flS (w' := w11) (b := o.b) (g := g) (cc := cc) (l' := l') (lc := lc) (la := la) (Lm' := Es3.map kv) ho3 rfl M11 (fun _ e => e) ⟨hg, by omega⟩
      mp11 hR11.at (fun _ _ => rfl) (fun _ hp => hp) (fun hf => absurd hf hfn) (fun _ => ⟨rfl, v2, g11, hl', o11, c5⟩)
    rw [ons_more P.ons vis hnv] at h11
    refine ⟨⟨vis ++ [o.b], Gro R3 w4 w11, ro rl3 g 5, _, C3, Es3, _, {
      pin := h11
      gro := hG w11 (by omega)
      nr := hnr w11
      M := MR11
      D := I.D
      most := I.most
      l := by rw [I.l]; exact List.map_congr_left fun z _ => (fC_skip h.wf ho hnv hfn z).symm
      ran := hR11
      vis_ := hvis' }⟩, ?_⟩
    · show togo mm w1.heap.size w11 < togo mm w1.heap.size w3
      have e2 : togo mm w1.heap.size w11 = togo mm w1.heap.size w4 := by rw [hR11.togo, hR4.togo]
      omega
end
end Go.Proofs.Ytocjjigmpgekfaa

/- Layer 11, the program's store: its calls, whatever its cache holds. -/
open Go Go.Den Go.Proofs
namespace Go.Den
theorem len_map_run {P : Program} {w : World} {T k e ty : TypeId} {m : Nat} {L : List (Int × Value)} (ht : P.underlying T = some (.map k e)) (h : MapAt w m L) :
    (Builtin.len_ #[T] ty #[.map (some m)]).run P w = .ok (.int .i64 L.length) w := by
  obtain ⟨Es, c, g1, rfl, _⟩ := h
  have hund : (underlying T).run P w = .ok (.map k e) w := run_und ht w
  simp [Builtin.len_, hund, run_getMap g1]
  rfl
end Go.Den
namespace Go.Proofs.Ytocjjigmpgekfaa
section
variable {w0 w w' : World} {R R' : Nat → Prop} {rl : Nat → Nat} {sp c d mo mm : Nat} {ca oa : Nat → Nat} {Lo Lm : List (Int × Value)} {P V : Ps} {K : Value → World → Prop}
theorem newX_C {C : Ca} {b f : Nat} {data : Bk} {after : List Int} : newX ⟨C, V.last, V.ons⟩ b f data after = newX V b f data after := rfl
theorem patE_C {C : Ca} {n f : Int} {data : Bk} {after : List Int} (e : C.D = V.C.D) : patE ⟨C, V.last, V.ons⟩ n f data after = patE V n f data after := by
  unfold patE
  show (if errOf C.D n ≠ 0 then (3 : Int) else _) = _
  rw [e]; rfl
theorem patS_C {C : Ca} {n f : Int} {data : Bk} {after : List Int} (e : C.D = V.C.D) : (patS ⟨C, V.last, V.ons⟩ n f data after).last = (patS V n f data after).last ∧ (patS ⟨C, V.last, V.ons⟩ n f data after).ons = (patS V n f data after).ons ∧ (patS V n f data after).C = V.C := by
  unfold patS
  rw [patE_C e, newX_C]
  by_cases h : patE V n f data after = 0
  · rw [if_pos h, if_pos h]
    refine ⟨rfl, ?_, (newO_C (V := V)).1⟩
    show (newO ⟨C, V.last, V.ons⟩ _).ons.map _ = (newO V _).ons.map _
    rw [newO_ons e]
  · rw [if_neg h, if_neg h]; exact ⟨rfl, rfl, rfl⟩
theorem patN_C {C : Ca} {n f : Int} {data : Bk} {after : List Int} (e : C.D = V.C.D) : patN ⟨C, V.last, V.ons⟩ n f data after = patN V n f data after := by unfold patN; rw [patE_C e]
theorem qPatch_c {n frm : Int} {a3 a4 : Option Addr} {l3 c3 l4 c4 : Nat} {data : Bk} {after : List Int} (hP : Pz w0 R w sp d V) (hlast : V.last + 1 ≤ 1000000) (hd : data.length = l3) (hrd : Row w a3 (u8L data)) (hdo : data ≠ [] → ∀ q, a3 = some q → ¬ R q.block) (h63 : l3 ≤ 9223372036854775807)
    (ha : after.length = l4) (ha6 : l4 ≤ 1000000) (hra : Row w a4 (iL after)) (hao : after ≠ [] → ∀ q, a4 = some q → ¬ R q.block)
    (hk : ∀ w', Mod R w w' → Pz w0 (Gro R w w') w' sp d (patS V n frm data after) → K (.tuple #[.int .i64 (patN V n frm data after), .int .i64 (patE V n frm data after)]) w') :
    Cal Try.prog F_patch_Store_Patch #[.pointer (some ⟨sp, 0, none⟩), .int .i64 n, .int .i64 frm, .slice a3 l3 c3, .slice a4 l4 c4] w K := by
  obtain ⟨C, eD, eM, hP⟩ := hP
  refine pPatch_c (n := n) (frm := frm) hP hlast hd hrd hdo h63 ha ha6 hra hao fun w' C' M h e1 e2 => ?_
  obtain ⟨p1, p2, p3⟩ := patS_C (V := V) (C := C) (n := n) (f := frm) (data := data) (after := after) eD
  rw [patN_C eD, patE_C eD]
  refine hk w' M ⟨C', ?_, ?_, ?_⟩
  · rw [p3, e1]; exact eD
  · rw [p3, e2]; exact eM
  · rw [← p1, ← p2]; exact h
theorem qImage_c {n : Int} (hP : Pz w0 R w sp d V) (hk0 : errOf V.C.D n ≠ 0 → ∀ w', Mod No w w' → K (.tuple #[.slice none 0 0, .int .i64 (errOf V.C.D n)]) w')
    (hk : ∀ b : Nat, n = b → b < V.C.D.vs.length → ∀ w1 w' g cc, Mod R w w1 → Mod No w1 w' → Pz w0 (Gro R w w1) w' sp d V → w1.heap.size ≤ g → AtU w' g 0 (u8L (imgB V b)) → K (.tuple #[.slice (some ⟨g, 0, none⟩) 256 cc, .int .i64 0]) w') :
    Cal Try.prog F_patch_Store_Image #[.pointer (some ⟨sp, 0, none⟩), .int .i64 n] w K := by
  obtain ⟨C, eD, eM, hP⟩ := hP
  refine pImage_c hP (fun he w' m => ?_) fun b hb hlt w1 w' g cc C' m1 m2 h e1 e2 hg hat => hk b hb (by rw [← eD]; exact hlt) w1 w' g cc m1 m2 ⟨C', e1.trans eD, e2.trans eM, h⟩ hg (by rw [imgB_C eD] at hat; exact hat)
  have he : errOf C.D n ≠ 0 := he
  show K (.tuple #[.slice none 0 0, .int .i64 (errOf C.D n)]) w'
  rw [eD] at he ⊢
  exact hk0 he w' m
theorem qRead_c {n : Int} (hP : Pz w0 R w sp d V) (hk0 : errOf V.C.D n ≠ 0 → ∀ w', Mod No w w' → K (.tuple #[.slice none 0 0, .int .i64 (errOf V.C.D n)]) w')
    (hk : ∀ b : Nat, n = b → b < V.C.D.vs.length → ∀ w1 w' g cc, Mod R w w1 → Mod No w1 w' → Pz w0 (Gro R w w1) w' sp d V → w1.heap.size ≤ g → AtU w' g 0 (u8L (contV V b)) → K (.tuple #[.slice (some ⟨g, 0, none⟩) 256 cc, .int .i64 0]) w') :
    Cal Try.prog F_patch_Store_Read #[.pointer (some ⟨sp, 0, none⟩), .int .i64 n] w K := by
  obtain ⟨C, eD, eM, hP⟩ := hP
  have hwf := hP.wf
  refine pRead_c hP (fun he w' m => ?_) fun b hb hlt w1 w' a cc C' m1 m2 h e1 e2 hc o => ?_
  · have he : errOf C.D n ≠ 0 := he
    show K (.tuple #[.slice none 0 0, .int .i64 (errOf C.D n)]) w'
    rw [eD] at he ⊢
    exact hk0 he w' m
  · obtain ⟨g, rfl, hg, hat⟩ := o.sm (by omega)
    rw [cont_view hwf.1 hwf.2.1 hwf.2.2.1, contV_C eD] at hat
    exact hk b hb (by rw [← eD]; exact hlt) w1 w' g cc m1 m2 ⟨C', e1.trans eD, e2.trans eM, h⟩ hg hat
theorem wrVE_C {C : Ca} {n : Int} (e : C.D = V.C.D) : wrVE ⟨C, V.last, V.ons⟩ n = wrVE V n := by
  unfold wrVE
  show (if errOf C.D n ≠ 0 then (3 : Int) else _) = _
  rw [e]; rfl
theorem wrV_C {C : Ca} {n : Int} (e : C.D = V.C.D) : (wrV ⟨C, V.last, V.ons⟩ n).last = (wrV V n).last ∧ (wrV ⟨C, V.last, V.ons⟩ n).ons = (wrV V n).ons ∧ (wrV ⟨C, V.last, V.ons⟩ n).C.D = (wrV V n).C.D ∧ (wrV V n).C.most = V.C.most := by
  unfold wrV
  rw [wrVE_C e, imgB_C e]
  by_cases h : wrVE V n = 0
  · rw [if_pos h, if_pos h]
    refine ⟨rfl, rfl, ?_, rfl⟩
    show wrSt C.D n _ = wrSt V.C.D n _
    rw [e]
  · rw [if_neg h, if_neg h]; exact ⟨rfl, rfl, e, rfl⟩
theorem qWrite_c {n : Int} (hP : Pz w0 R w sp d V) (hb9 : ∀ v ∈ V.C.D.vs, v.length ≤ 999999) (hk : ∀ w', Mod R w w' → Pz w0 (Gro R w w') w' sp d (wrV V n) → K (.int .i64 (wrVE V n)) w') :
    Cal Try.prog F_patch_Store_Write #[.pointer (some ⟨sp, 0, none⟩), .int .i64 n] w K := by
  obtain ⟨C, eD, eM, hP⟩ := hP
  refine pWrite_c (n := n) hP (by show ∀ v ∈ C.D.vs, _; rw [eD]; exact hb9) fun w' C' M h e1 e2 => ?_
  obtain ⟨p1, p2, p3, p4⟩ := wrV_C (V := V) (C := C) (n := n) eD
  rw [wrVE_C eD]
  refine hk w' M ⟨C', ?_, ?_, ?_⟩
  · rw [e1, p3]
  · rw [p4, e2]; exact eM
  · rw [← p1, ← p2]; exact h
theorem qFlush_c (hP : Pz w0 R w sp d V) (hk : ∀ w', Mod R w w' → Pz w0 (Gro R w w') w' sp d (flV V) → K (.int .i64 0) w') : Cal Try.prog F_patch_Store_Flush #[.pointer (some ⟨sp, 0, none⟩)] w K := by
  obtain ⟨C, eD, eM, hP⟩ := hP
  refine pFlush_c hP fun w' C' M h e1 e2 => hk w' M ⟨C', ?_, ?_, h⟩
  · rw [e1]; show flSt C.D = flSt V.C.D; rw [eD]
  · rw [e2]; exact eM
def safeV (V : Ps) (n : Int) : Bool := decide (1 ≤ n ∧ n ≤ (V.last : Int)) && !V.opn n
theorem qSafe_c {n : Int} (hP : Pz w0 R w sp d V) (hk : K (.bool (safeV V n)) w) : Cal Try.prog F_patch_Store_Safe #[.pointer (some ⟨sp, 0, none⟩), .int .i64 n] w K := by
  obtain ⟨C, eD, eM, hw, rl, c, mo, mm, ca, oa, Lo, Lm, h⟩ := hP
  apply C_patch_Store_Safe
  unfold D_patch_Store_Safe
  obtain ⟨p, hp, hpn, _⟩ := h.lookO n
  refine Share.cut (fun x w' => w = w' ∧ x = [.bool (safeV V n)]) (tt rfl (given_c h ⟨_, rfl, cond_of (fun hb => ?_) (fun hb => ?_)⟩)) ?_
  · refine ⟨_, rfl, _, h.lo', p, hp, rfl, ?_⟩
    unfold safeV
    rw [show decide (1 ≤ n ∧ n ≤ (V.last : Int)) = true from hb, Bool.true_and]
    have : p.isNone = !V.opn n := hpn
    rw [this]
  · refine ⟨rfl, ?_⟩
    unfold safeV
    rw [show decide (1 ≤ n ∧ n ≤ (V.last : Int)) = false from hb, Bool.false_and]
  · rintro x w' ⟨rfl, rfl⟩
    exact ⟨_, rfl, hk⟩
def openV (V : Ps) : Nat := V.all.length
theorem qOpen_c (hP : Pz w0 R w sp d V) (hk : K (.int .i64 (openV V)) w) : Cal Try.prog F_patch_Store_Open #[.pointer (some ⟨sp, 0, none⟩)] w K := by
  obtain ⟨C, eD, eM, hw, rl, c, mo, mm, ca, oa, Lo, Lm, h⟩ := hP
  apply C_patch_Store_Open
  have hu : Try.prog.underlying 58 = some (.map 2 69) := by kernel_rfl
  have hlen : Lo.length = openV V := by
    have h1 : (Lo.map (·.1)).Perm (V.all.map fun x => (x.id : Int)) := by
      refine (List.perm_ext_iff_of_nodup h.mapO.nodup ?_).2 fun k => ?_
      · have := h.wf.ids
        have e : (V.all.map fun x => (x.id : Int)) = (V.all.map (·.id)).map fun n : Nat => (n : Int) := by rw [List.map_map]; rfl
        rw [e]
        show List.Pairwise _ _
        rw [List.pairwise_map]
        exact this.imp fun hne e => hne (by omega)
      · rw [List.mem_map, List.mem_map]
        constructor
        · rintro ⟨p, hp, rfl⟩
          obtain ⟨x, hx, e⟩ := h.keysO p hp
          exact ⟨x, hx, e.symm⟩
        · rintro ⟨x, hx, rfl⟩
          exact ⟨_, look_mem (h.chs x hx).1, rfl⟩
    have := h1.length_eq
    rw [List.length_map, List.length_map] at this
    exact this
  refine ff rfl ⟨_, rfl, _, h.lo', _, len_map_run hu h.mapO, ?_⟩
  rw [hlen]; exact hk
def readyV (V : Ps) (n : Int) : Nat := match onOf V n with | some o => (o.l.filter fun x => (mayL V.opn o.l).contains (x.id : Int) && !x.out).length | none => 0
set_option maxRecDepth 100000 in
theorem qReady_c {n : Int} (hP : Pz w0 R w sp d V) (hk : ∀ w', Mod No w w' → K (.int .i64 (readyV V n)) w') : Cal Try.prog F_patch_Store_Ready #[.pointer (some ⟨sp, 0, none⟩), .int .i64 n] w K := by
  obtain ⟨C, eD, eM, hw, rl, c, mo, mm, ca, oa, Lo, Lm, h⟩ := hP
  apply C_patch_Store_Ready
  unfold D_patch_Store_Ready
  have hlk := h.lookM n
  refine Share.dup (ff rfl ⟨_, rfl, _, h.lm, _, hlk, ?_⟩)
  cases ho : onOf V n with
  | none =>
    have ho' : onOf (⟨C, V.last, V.ons⟩ : Ps) n = none := ho
    rw [ho']
    refine ⟨_, rfl, tt rfl ?_⟩
    have := hk w (Mod.refl _ _)
    unfold readyV at this
    rw [ho] at this; exact this
  | some o =>
    have ho' : onOf (⟨C, V.last, V.ons⟩ : Ps) n = some o := ho
    rw [ho'] at hlk ⊢
    obtain ⟨hom, hob⟩ := onOf_some ho
    refine ⟨_, rfl, ff rfl ⟨_, rfl, _, h.lm, _, hlk, may11_c h hom fun w2 m m2 hm hmp => ⟨_, rfl, _, rfl, ?_⟩⟩⟩
    have h2 := h.nos m2
    have hlk2 := h2.lookM n
    rw [ho'] at hlk2
    obtain ⟨la, lc, l1, l2, l3, l4⟩ := (h2.ons o hom).2.2.ldL
    refine ⟨_, h2.lm, _, hlk2, _, rfl, la, _, lc, l1, ?_⟩
    have hlast := h.wf.last
    have hlen := h.wf.llen o hom
    have hoa := fun x hx => on_all (P := ⟨C, V.last, V.ons⟩) hom (x := x) hx
    have hop : Ps.opn ⟨C, V.last, V.ons⟩ = V.opn := rfl
    rw [hop] at hmp
    refine ⟨fun x w3 => w2 = w3 ∧ ∃ (i : Nat) (y : Value), i ≤ o.l.length ∧ x = [.int .i64 (((o.l.take i).filter fun x => (mayL V.opn o.l).contains (x.id : Int) && !x.out).length : Nat), .int .i64 i, y], fun x _ => (o.l.length - nI x 1).toNat, ⟨rfl, 0, _, by omega, rfl⟩, ?_⟩
    rintro x w3 ⟨rfl, i, y, hi, rfl⟩
    refine ⟨_, rfl, cond_of (fun hb => ?_) (fun hb => ?_)⟩
    · have hi : i < o.l.length := by have := of_decide_eq_true hb; omega
      have hxm := List.getElem_mem hi
      obtain ⟨b3, o3, hla, hat3⟩ := row_someP l2 (i := i) (by simp; exact hi)
      subst hla
      have hld := hat3.load (P := Try.prog) (T := 69) (by kernel_rfl) (pL_get (i := i) (by simp; exact hi))
      rw [List.getElem_map] at hld
      refine ⟨_, index_slice (k := 1) (by kernel_rfl) (by omega) (by omega), ?_⟩
      rw [add_none, show (i : Int).toNat * 1 = i by omega]
      have hc := (h2.chs _ (hoa _ hxm)).2.2
      have hfl : ((o.l.take i).filter fun x => (mayL V.opn o.l).contains (x.id : Int) && !x.out).length ≤ i := by
        have := List.length_filter_le (fun x : Ch => (mayL V.opn o.l).contains (x.id : Int) && !x.out) (o.l.take i)
        rw [List.length_take] at this; omega
      have hsucc : ((o.l.take (i + 1)).filter fun x => (mayL V.opn o.l).contains (x.id : Int) && !x.out).length = ((o.l.take i).filter fun x => (mayL V.opn o.l).contains (x.id : Int) && !x.out).length + if ((mayL V.opn o.l).contains (o.l[i].id : Int) && !o.l[i].out) = true then 1 else 0 := by
        rw [List.take_succ_eq_append_getElem hi, List.filter_append, List.length_append]
        congr 1
        cases hf : ((mayL V.opn o.l).contains (o.l[i].id : Int) && !o.l[i].out) <;> simp only [List.filter, hf] <;> rfl
      refine ⟨_, hld, Share.cut (fun z w4 => w2 = w4 ∧ z = [.bool ((mayL V.opn o.l).contains (o.l[i].id : Int) && !o.l[i].out)]) ⟨_, rfl, _, hc.ld (j := 0) (by kernel_rfl) (fun _ _ _ _ => rfl), _, lookOk hmp _, cond_of (fun hb => ?_) (fun hb => ?_)⟩ ?_⟩
      · refine ⟨_, rfl, _, hc.ld (j := 5) (by kernel_rfl) (fun _ _ _ _ => rfl), rfl, ?_⟩
        rw [hb, Bool.true_and]
      · rw [hb, Bool.false_and]; exact ⟨rfl, rfl⟩
      rintro z w4 ⟨rfl, rfl⟩
      refine ⟨_, rfl, Share.cut (fun z w5 => w2 = w5 ∧ z = [.int .i64 (((o.l.take (i + 1)).filter fun x => (mayL V.opn o.l).contains (x.id : Int) && !x.out).length : Nat)]) (cond_of (fun hb => ?_) (fun hb => ?_)) ?_⟩
      · refine ⟨_, rfl, rfl, ?_⟩
        rw [hsucc, if_pos hb, wrap64 (by omega) (by omega)]
        rfl
      · rw [hsucc, if_neg (by rw [hb]; simp)]
        exact ⟨rfl, rfl⟩
      · rintro z w5 ⟨rfl, rfl⟩
        rw [wrap64 (x := (i : Int) + 1) (by omega) (by omega)]
        exact ⟨⟨rfl, i + 1, _, by omega, rfl⟩, by simp [nI, nth]; omega⟩
    · have hil : i = o.l.length := by have := of_decide_eq_false hb; omega
      subst hil
      refine ⟨_, rfl, ?_⟩
      rw [List.take_length]
      have := hk w2 m2
      unfold readyV at this
      rw [ho] at this; exact this
end
end Go.Proofs.Ytocjjigmpgekfaa

/- Layer 11: a new store, the fixed calls, and a store that is not there. -/
open Go Go.Den Go.Proofs
namespace Go.Proofs.Ytocjjigmpgekfaa
theorem build_store (w : World) (p : Option Addr) (n : Int) (m1 m2 : Option Nat) : (Instr.build 61 #[(0, .pointer p), (1, .int .i64 n), (3, .map m1), (4, .map m2)]).run Try.prog w = .ok (.agg ⟨[.pointer p, .int .i64 n, .int .i64 0, .map m1, .map m2]⟩) w := by kernel_rfl
theorem box_sto (w : World) (cs : List Value) : (Instr.box 61 (.agg ⟨cs⟩)).run Try.prog w = .ok (.pointer (some ⟨w.heap.size, 0, none⟩)) (w.alloc (.cells ⟨cs⟩ 61)) := rfl
def zeroV (k n : Nat) : Ps := ⟨⟨newSt k, n, []⟩, 0, []⟩
section
variable {w0 w w' : World} {R R' : Nat → Prop} {sp c d sb mb sc : Nat} {L : List (Int × Value)} {P V : Ps} {K : Value → World → Prop}
theorem Pz.mod (h : Pz w0 R w sp d V) : Mod No w0 w := by
  obtain ⟨C, _, _, h⟩ := h; exact h.wf.2.2.2.2.1
set_option maxRecDepth 100000 in
theorem qNew_c {D : St} {k : Nat} (hd : DiskIn w R d sb mb sc L D) (hsm : Small D) (hlo : ∀ x, R x → w0.heap.size ≤ x ∧ x < w.heap.size) (hm : Mod No w0 w) (hrun : D.left = -1) (h1 : 1 ≤ k) (h2 : k ≤ 4096) (hf : D.vs.length ≤ k)
    (hk : ∀ w' sp, Mod No w w' → Pz w0 (Gro R w w') w' sp d ⟨⟨D, k, []⟩, 0, []⟩ → K (.tuple #[.pointer (some ⟨sp, 0, none⟩), .int .i64 0]) w') : Cal Try.prog F_patch_Open #[.pointer (some ⟨d, 0, none⟩), .int .i64 k] w K := by
  classical
  apply C_patch_Open
  unfold D_patch_Open
  refine cNew_c (w0 := w0) hd hsm hlo hm (fun h => by omega) fun k' hk' _ _ w2 c m2 x2 => ⟨_, _, rfl, ff rfl ?_⟩
  have : k' = k := by omega
  subst this
  have hx2 := x2
  obtain ⟨rl, m, sb', mb', sc', lc', la', L', mp', hC⟩ := x2
  refine Len_c hC.disk ⟨_, rfl, _, _, makeMap_run, _, _, makeMap_run, _, fun w => build_store w _ _ _ _, _, _, box_sto _ _, ?_⟩
  have m3 : Mod No w2 (w2.alloc (.map #[] 0)) := (Mod.refl No w2).alloc _
  have p3 : MapAt (w2.alloc (.map #[] 0)) w2.heap.size [] := MapAt.new
  have s3 : (w2.alloc (.map #[] 0)).heap.size = w2.heap.size + 1 := by simp
  generalize w2.alloc (.map #[] 0) = w3 at *
  have m4 : Mod No w3 (w3.alloc (.map #[] 0)) := (Mod.refl No w3).alloc _
  have p4 : MapAt (w3.alloc (.map #[] 0)) w3.heap.size [] := MapAt.new
  have s4 : (w3.alloc (.map #[] 0)).heap.size = w3.heap.size + 1 := by simp
  generalize w3.alloc (.map #[] 0) = w4 at *
  have m5 : Mod No w4 (w4.alloc (.cells ⟨[.pointer (some ⟨c, 0, none⟩), .int .i64 D.vs.length, .int .i64 0, .map (some w2.heap.size), .map (some w3.heap.size)]⟩ 61)) := (Mod.refl No w4).alloc _
  have a5 : AtU (w4.alloc (.cells ⟨[.pointer (some ⟨c, 0, none⟩), .int .i64 D.vs.length, .int .i64 0, .map (some w2.heap.size), .map (some w3.heap.size)]⟩ 61)) w4.heap.size 0 [.pointer (some ⟨c, 0, none⟩), .int .i64 D.vs.length, .int .i64 0, .map (some w2.heap.size), .map (some w3.heap.size)] := AtU.new
  have s5 : (w4.alloc (.cells ⟨[.pointer (some ⟨c, 0, none⟩), .int .i64 D.vs.length, .int .i64 0, .map (some w2.heap.size), .map (some w3.heap.size)]⟩ 61)).heap.size = w4.heap.size + 1 := by simp
  generalize w4.alloc (.cells ⟨[.pointer (some ⟨c, 0, none⟩), .int .i64 D.vs.length, .int .i64 0, .map (some w2.heap.size), .map (some w3.heap.size)]⟩ 61) = w5 at *
  have M5 : Mod No w2 w5 := (m3.no m4).no m5
  have hz2 := m2.size
  have hw0 := hm.size
  have hG : ∀ x, Gro R w w2 x → w0.heap.size ≤ x ∧ x < w2.heap.size := fun x hx => by
    rcases hx with hx | hx
    · have := hlo x hx; omega
    · omega
  refine hk w5 w4.heap.size (m2.no M5) ⟨⟨D, k', []⟩, rfl, rfl, ?_, fun x => if x = w4.heap.size then 2 else if x = w2.heap.size then 3 else if x = w3.heap.size then 4 else if Gro R w w2 x then 1 else 0, c, w2.heap.size, w3.heap.size, fun _ => 0, fun _ => 0, [], [], ?_⟩
  · exact {
      lne := fun o ho => (by cases ho)
      pin := fun o ho => (by cases ho)
      unp := fun x hx => (by cases hx)
      run := hrun
      acc := fun o ho => (by cases ho)
      may := fun o ho => (by cases ho)
      cls := fun o ho => (by cases ho)
      afl := fun x hx => (by cases hx) }
  have e1 : (fun x => (if x = w4.heap.size then 2 else if x = w2.heap.size then 3 else if x = w3.heap.size then 4 else if Gro R w w2 x then 1 else 0) = 1) = Gro R w w2 := by
    funext x
    apply propext
    constructor
    · intro e
      by_cases h1 : x = w4.heap.size
      · rw [if_pos h1] at e; omega
      · rw [if_neg h1] at e
        by_cases h2 : x = w2.heap.size
        · rw [if_pos h2] at e; omega
        · rw [if_neg h2] at e
          by_cases h3 : x = w3.heap.size
          · rw [if_pos h3] at e; omega
          · rw [if_neg h3] at e
            by_cases h4 : Gro R w w2 x
            · exact h4
            · rw [if_neg h4] at e; omega
    · intro hx
      have := hG x hx
      rw [if_neg (by omega), if_neg (by omega), if_neg (by omega), if_pos hx]
  exact {
    cx := by rw [e1]; exact hx2.nos M5
    cell := a5
    mapO := (p3.keep m4 id).keep m5 id
    mapM := p4.keep m5 id
    rsp := if_pos rfl
    rmo := by rw [if_neg (by omega), if_pos rfl]
    rmm := by rw [if_neg (by omega), if_neg (by omega), if_pos rfl]
    chs := fun x hx => (by cases hx)
    ons := fun o ho => (by cases ho)
    keysO := fun p hp => (by cases hp)
    keysM := fun p hp => (by cases hp)
    wf := { full := hf, onsN := List.nodup_nil, onlt := fun o ho => (by cases ho), base := fun o ho => (by cases ho), llen := fun o ho => (by cases ho), ids := List.nodup_nil, idr := fun x hx => (by cases hx), chb := fun o ho => (by cases ho), dat := fun x hx => (by cases hx), aft := fun x hx => (by cases hx), last := Nat.zero_le _ }
    reg := fun x hx => by
      by_cases h4 : Gro R w w2 x
      · rcases h4 with h4 | h4
        · exact .inl h4
        · exact .inr (by omega)
      · right
        by_cases h1 : x = w4.heap.size
        · omega
        · by_cases h2 : x = w2.heap.size
          · omega
          · by_cases h3 : x = w3.heap.size
            · omega
            · rw [if_neg h1, if_neg h2, if_neg h3, if_neg h4] at hx; omega
    lo := fun x hx => by
      rcases hx with hx | hx
      · have := hlo x hx; omega
      · omega
    mod := ((hm.no m2).no M5) }
/-- Bytes of one's own beside a store. -/
structure Kp (R : Nat → Prop) (w : World) (g : Nat) (cs : List Value) : Prop where
  at_ : AtU w g 0 cs
  no : ¬ R g
theorem Kp.nos {g : Nat} {cs : List Value} (h : Kp R w g cs) (m : Mod No w w') : Kp R w' g cs := ⟨h.at_.keep m id, h.no⟩
theorem Kp.step {g : Nat} {cs : List Value} (h : Kp R w g cs) (m : Mod R w w') : Kp (Gro R w w') w' g cs := ⟨h.at_.keep m h.no, fun e => by
  have := h.at_.lt
  rcases e with e | e
  · exact h.no e
  · omega⟩
theorem lit (w : World) (v : UInt8) : Mod No w (w.alloc (.cells ⟨[.int .u8 (v.toNat : Int)]⟩ 5 (1, 2))) ∧ Row (w.alloc (.cells ⟨[.int .u8 (v.toNat : Int)]⟩ 5 (1, 2))) (some ⟨w.heap.size, 0, none⟩) (u8L [v]) :=
  ⟨(Mod.refl No w).alloc _, .inr ⟨_, _, rfl, _, _, _, heap_new w _, by simp [u8L], by simp [u8L, u8]⟩⟩
theorem Kp.of {w1 : World} {g : Nat} {cs : List Value} (h : Pz w0 R w sp d V) (m : Mod R w w1) (hg : w1.heap.size ≤ g) (hat : AtU w' g 0 cs) : Kp (Gro R w w1) w' g cs := ⟨hat, fun e => by
  have := m.size
  rcases e with e | e
  · have := (h.lo _ e).2; omega
  · omega⟩
def p0 : Ps := zeroV 8 8
def p1 : Ps := patS p0 5 0 [97] []
def p2 : Ps := patS p1 6 0 [98] [1]
def p3 : Ps := patS p2 5 1 [99] [2]
def p4 : Ps := wrV p3 5
def p5 : Ps := flV p4
def p6 : Ps := wrV p5 6
def p7 : Ps := flV p6
theorem p1e : patE p0 5 0 [97] [] = 0 ∧ patN p0 5 0 [97] [] = 1 ∧ p0.last = 0 := by decide +kernel
theorem p2e : patE p1 6 0 [98] [1] = 0 ∧ patN p1 6 0 [98] [1] = 2 ∧ p1.last = 1 := by decide +kernel
theorem p3e : patE p2 5 1 [99] [2] = 0 ∧ patN p2 5 1 [99] [2] = 3 ∧ p2.last = 2 := by decide +kernel
theorem p3i : errOf p3.C.D 6 = 0 ∧ errOf p3.C.D 5 = 0 := by decide +kernel
theorem p3x : (imgB p3 6)[0]? = some 0 := by decide +kernel
theorem p3y : (imgB p3 5)[0]? = some 97 ∧ (imgB p3 5)[1]? = some 0 := by decide +kernel
theorem p3z : (contV p3 5)[1]? = some 99 := by decide +kernel
theorem p4e : wrVE p3 5 = 0 := by decide +kernel
theorem p5s : safeV p5 1 = true ∧ safeV p5 2 = false ∧ safeV p5 3 = false := by decide +kernel
theorem p7s : safeV p7 2 = true ∧ readyV p7 5 = 1 ∧ openV p7 = 1 := by decide +kernel
theorem p3b : (p3.C.D.vs.all fun v => decide (v.length ≤ 999999)) = true := by decide +kernel
theorem p5b : (p5.C.D.vs.all fun v => decide (v.length ≤ 999999)) = true := by decide +kernel
theorem ldU {xs : List UInt8} {g i : Nat} {v : UInt8} {a : Addr} (h : AtU w g 0 (u8L xs)) (hv : xs[i]? = some v) (ha : a = ⟨g, i, none⟩) : Ru (Instr.loadAt 5 (.pointer (some a))) w (.int .u8 (v.toNat : Int)) w := by
  subst ha
  have := h.at.load (P := Try.prog) (T := 5) (i := i) (v := .int .u8 (v.toNat : Int)) (by kernel_rfl) (by
    unfold u8L
    rw [List.getElem?_map, hv]; rfl)
  rw [Nat.zero_add] at this; exact this
set_option maxRecDepth 100000 in
theorem known11_c (hk : ∀ w', Mod No w w' → K (.bool true) w') : Cal Try.prog F_leveelaw11_known #[] w K := by
  apply C_leveelaw11_known
  unfold D_leveelaw11_known
  refine New_c (n := 8) (by omega) (by omega) (fun h => by omega) fun k hk' _ _ w1 d sb mb m1 h1 => ⟨_, _, rfl, ?_⟩
  have : k = 8 := by omega
  subst this
  have hsm : Small (newSt 8) := Small.one (sm _ (by decide +kernel))
  refine qNew_c (w0 := w) (k := 8) h1 hsm (fun x hx => hx) m1 rfl (by omega) (by omega) (by simp [newSt]) fun w2 sp m2 z2 => ⟨_, _, rfl, Share.dup (ff rfl ⟨_, rfl, ff rfl ?_⟩)⟩
  have z2 : Pz w _ w2 sp d p0 := z2
  -- the changes
  obtain ⟨ma, ra⟩ := lit w2 97
  have lo2 := z2.lo
  refine ⟨_, _, _, _, built1 _ 97, _, _, _, _, conv_lit _ 97, qPatch_c (n := 5) (frm := 0) (data := [97]) (after := []) (z2.nos ma) (by rw [p1e.2.2]; omega) rfl ra (fun _ q hq hR => by cases hq; have := (lo2 _ hR).2; simp only at this; omega) (by omega) rfl (by omega) (.inl rfl) (fun _ q hq => by cases hq) fun w3 m3 z3 => ⟨_, _, rfl, ?_⟩⟩
  rw [p1e.1, p1e.2.1]
  have z3 : Pz w _ w3 sp d p1 := z3
  obtain ⟨mb, rb⟩ := lit w3 98
  have lo3 := z3.lo
  refine ⟨_, _, _, _, built1 _ 98, _, _, _, _, conv_lit _ 98, _, _, _, _, builtI64 _ 1, ?_⟩
  have mb2 : Mod No (w3.alloc (.cells ⟨[.int .u8 ((98 : UInt8).toNat : Int)]⟩ 5 (1, 2))) ((w3.alloc (.cells ⟨[.int .u8 ((98 : UInt8).toNat : Int)]⟩ 5 (1, 2))).alloc (.cells ⟨[.int .i64 1]⟩ 2)) := (Mod.refl No _).alloc _
  refine qPatch_c (n := 6) (frm := 0) (data := [98]) (after := [1]) ((z3.nos mb).nos mb2) (by rw [p2e.2.2]; omega) rfl (rb.nos mb2) (fun _ q hq hR => by cases hq; have := (lo3 _ hR).2; simp only at this; omega) (by omega) rfl (by omega) (.inr ⟨_, _, rfl, AtU.new.at⟩) (fun _ q hq hR => by cases hq; have := (lo3 _ hR).2; simp at this; omega) fun w4 m4 z4 => ⟨_, _, rfl, ?_⟩
  rw [p2e.1, p2e.2.1]
  have z4 : Pz w _ w4 sp d p2 := z4
  obtain ⟨mc, rc⟩ := lit w4 99
  have lo4 := z4.lo
  refine ⟨_, _, _, _, built1 _ 99, _, _, _, _, conv_lit _ 99, _, _, _, _, builtI64 _ 2, ?_⟩
  have mc2 : Mod No (w4.alloc (.cells ⟨[.int .u8 ((99 : UInt8).toNat : Int)]⟩ 5 (1, 2))) ((w4.alloc (.cells ⟨[.int .u8 ((99 : UInt8).toNat : Int)]⟩ 5 (1, 2))).alloc (.cells ⟨[.int .i64 2]⟩ 2)) := (Mod.refl No _).alloc _
  refine qPatch_c (n := 5) (frm := 1) (data := [99]) (after := [2]) ((z4.nos mc).nos mc2) (by rw [p3e.2.2]; omega) rfl (rc.nos mc2) (fun _ q hq hR => by cases hq; have := (lo4 _ hR).2; simp only at this; omega) (by omega) rfl (by omega) (.inr ⟨_, _, rfl, AtU.new.at⟩) (fun _ q hq hR => by cases hq; have := (lo4 _ hR).2; simp at this; omega) fun w5 m5 z5 => ⟨_, _, rfl, ?_⟩
  rw [p3e.1, p3e.2.1]
  have z5 : Pz w _ w5 sp d p3 := z5
  -- what is read
  refine qImage_c (n := 6) z5 (fun he => absurd p3i.1 he) fun b hb _ w6a w6 gx cx m6a m6 z6 hgx atx => ⟨_, _, _, _, rfl, ?_⟩
  have : b = 6 := by omega
  subst this
  have kx := Kp.of z5 m6a hgx atx
  refine qImage_c (n := 5) z6 (fun he => absurd p3i.2 he) fun b hb _ w7a w7 gy cy m7a m7 z7 hgy aty => ⟨_, _, _, _, rfl, ?_⟩
  have : b = 5 := by omega
  subst this
  have ky := Kp.of z6 m7a hgy aty
  have kx := (kx.step m7a).nos m7
  refine qRead_c (n := 5) z7 (fun he => absurd p3i.2 he) fun b hb _ w8a w8 gz cz m8a m8 z8 hgz atz => ⟨_, _, _, _, rfl, ?_⟩
  have : b = 5 := by omega
  subst this
  have kz := Kp.of z7 m8a hgz atz
  have kx := (kx.step m8a).nos m8
  have ky := (ky.step m8a).nos m8
  refine Share.dup (ff rfl (ff rfl ⟨_, rfl, ff rfl ?_⟩))
  -- written and flushed
  refine qWrite_c (n := 5) z8 (sm _ p3b) fun w9 m9 z9 => ⟨_, rfl, ?_⟩
  have z9 : Pz w _ w9 sp d p4 := z9
  have kx := kx.step m9
  have ky := ky.step m9
  have kz := kz.step m9
  refine qFlush_c z9 fun w10 m10 z10 => ⟨_, rfl, ?_⟩
  have z10 : Pz w _ w10 sp d p5 := z10
  have kx := kx.step m10
  have ky := ky.step m10
  have kz := kz.step m10
  refine Share.cut (fun x w' => w10 = w' ∧ x = [.bool true]) ?_ ?_
  · refine qSafe_c z10 ⟨_, rfl, tt p5s.1 (qSafe_c z10 ⟨_, rfl, tt (by rw [p5s.2.1]; rfl) (qSafe_c z10 ⟨_, rfl, rfl, ?_⟩)⟩)⟩
    rw [p5s.2.2]; rfl
  rintro x w' ⟨rfl, rfl⟩
  refine qWrite_c (n := 6) z10 (sm _ p5b) fun w11 m11 z11 => ⟨_, rfl, ?_⟩
  have z11 : Pz w _ w11 sp d p6 := z11
  have kx := kx.step m11
  have ky := ky.step m11
  have kz := kz.step m11
  refine qFlush_c z11 fun w12 m12 z12 => ⟨_, rfl, ?_⟩
  have z12 : Pz w _ w12 sp d p7 := z12
  have kx := kx.step m12
  have ky := ky.step m12
  have kz := kz.step m12
  refine Share.dup (tt rfl (tt rfl (tt rfl (tt rfl ⟨_, index_slice (k := 1) (by kernel_rfl) (by omega) (by simp), _, ldU kx.at_ p3x (by rw [add_none]; rfl), tt rfl ⟨_, index_slice (k := 1) (by kernel_rfl) (by omega) (by simp), _, ldU ky.at_ p3y.1 (by rw [add_none]; rfl), tt rfl ⟨_, index_slice (k := 1) (by kernel_rfl) (by omega) (by simp), _, ldU ky.at_ p3y.2 (by rw [add_none]; rfl), tt rfl
    ⟨_, index_slice (k := 1) (by kernel_rfl) (by omega) (by simp), _, ldU kz.at_ p3z (by rw [add_none]; rfl), tt rfl (tt (by rw [p4e]; rfl) ⟨_, rfl, tt rfl ?_⟩)⟩⟩⟩⟩))))
  refine qSafe_c z12 ⟨_, rfl, tt p7s.1 (qReady_c (n := 5) z12 fun w13 m13 => ⟨_, rfl, tt (by rw [p7s.2.1]; rfl) (qOpen_c (z12.nos m13) ⟨_, rfl, _, rfl, ?_⟩)⟩)⟩
  rw [p7s.2.2]
  exact hk w13 (z12.nos m13).mod
end
end Go.Proofs.Ytocjjigmpgekfaa
