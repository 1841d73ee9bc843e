/- A range over a map with int keys: its steps, and that at its end all entries have been met. -/
import Derived.Test.YtocjjigmpgekfaaMapsH
open Go Go.Den
namespace Go.Den
section
variable {P : Program} {w : World}
theorem next_run {r mb since c0 : Nat} {ty : TypeId} {seen : Array Nat} {es : Array MapEntry} {clock : Nat} (hr : w.heap[r]? = some (.mapIter (some mb) since seen c0)) (hb : w.heap[mb]? = some (.map es clock))
    (hold : ∀ x ∈ es.toList, x.born < since) (hsc : since ≤ c0) :
    ((leftOf es seen).size = 0 ∧ (Instr.next (.pointer (some ⟨r, 0, none⟩)) false ty).run P w = .ok (.tuple #[.bool false]) w) ∨
    ∃ e ∈ (leftOf es seen).toList, ∃ w', (Instr.next (.pointer (some ⟨r, 0, none⟩)) false ty).run P w = .ok (.tuple #[.bool true, e.key, e.val]) w' ∧ w'.heap[r]? = some (.mapIter (some mb) since (seen.push e.born) clock) ∧
      Mod (fun x => x = r) w w' ∧ w'.heap.size = w.heap.size := by
  simp only [Instr.next, getObj, Sem.run_bind, Sem.run, hr, hb, Result.andThen, next_test_false seen es since c0 hold hsc, Bool.false_eq_true, if_false]
  unfold leftOf
  have hmem : ∀ x ∈ (Array.filter (fun e => !seen.contains e.born) es).toList, x.born < since := fun x hx => hold x (by simp at hx ⊢; exact hx.1)
  generalize Array.filter (fun e => !seen.contains e.born) es = L at hmem ⊢
  have e1 : L.filter (fun x => decide (x.born < since)) = L := Array.filter_eq_self.2 (fun x hx => by simpa using hmem x (by simpa using hx))
  have e2 : L.filter (fun x => decide (x.born ≥ since)) = #[] := by
    rw [Array.filter_eq_empty_iff]
    intro x hx
    have := hmem x (by simpa using hx)
    simp
    omega
  simp only [e1, e2, Array.append_empty]
  by_cases h0 : L.size = 0
  · left
    have : L = #[] := Array.eq_empty_of_size_eq_zero h0
    subst this
    refine ⟨rfl, ?_⟩
    simp [choose, Sem.run, Question.forced]
  · right
    have hne : L.isEmpty = false := by simp [Array.isEmpty, h0]
    simp only [hne, Bool.false_eq_true, if_false, Array.empty_append, Array.size_map]
    have hch : ∃ (j : Nat) (w1 : World), j < L.size ∧ w1.heap = w.heap ∧ Mod (fun x => x = r) w w1 ∧ (choose (Question.mapNext L.size)).run P w = .ok j w1 := by
      by_cases hf : L.size ≤ 1
      · exact ⟨0, w, by omega, rfl, Mod.refl _ _, by simp [choose, Sem.run, Question.forced, hf]⟩
      · exact ⟨_, drew w, Nat.mod_lt _ (by omega), rfl, (Mod.refl _ _).drew, by
          simp only [choose, Sem.run, Question.forced, decide_eq_true_eq, hf, if_false, Question.cut]
          rfl⟩
    obtain ⟨j, w1, hj, hh, hm, hrun⟩ := hch
    have hr1 : w1.heap[r]? = some (.mapIter (some mb) since seen c0) := by rw [hh]; exact hr
    refine ⟨L[j], by simp, put w1 r (.mapIter (some mb) since (seen.push L[j].born) clock), ?_, heap_put_same (lt_of_heap hr1), ?_, by simp [hh]⟩
    · simp only [hrun, Array.getElem?_map, Array.getElem?_eq_getElem hj, Option.map_some, Sem.run_bind, setObj, Sem.run, hr1, Result.andThen]
      rfl
    · exact hm.trans ((Mod.refl (fun x => x = r) w1).put (.inr rfl) _) fun _ _ h => h
theorem entry_run {r mb since : Nat} {seen : Array Nat} {es : Array MapEntry} {clock : Nat} {e : MapEntry} (hr : w.heap[r]? = some (.mapIter (some mb) since (seen.push e.born) clock)) (hb : w.heap[mb]? = some (.map es clock))
    (he : e ∈ es.toList) (hn : (es.toList.map (·.born)).Nodup) : (Instr.entry (.pointer (some ⟨r, 0, none⟩))).run P w = .ok (.tuple #[e.key, e.val]) w := by
  have hf : es.find? (·.born == e.born) = some e := by rw [← Array.find?_toList]; exact find_born e es.toList hn he
  simp only [Instr.entry, getObj, Sem.run_bind, Sem.run, hr, hb, Result.andThen, Array.back?_push, bne_self_eq_false, Bool.false_eq_true, if_false, hf]
  rfl
theorem range_run {T k e : TypeId} {mb : Nat} {es : Array MapEntry} {clock : Nat} (ht : P.underlying T = some (.map k e)) (hb : w.heap[mb]? = some (.map es clock)) :
    (Instr.range T (.map (some mb))).run P w = .ok (.pointer (some ⟨w.heap.size, 0, none⟩)) (w.alloc (.mapIter (some mb) clock #[] clock)) := run_range_map w T k e mb es clock ht hb
theorem iterSeen_of {r : Nat} {a : Option Nat} {b c : Nat} {s : Array Nat} (h : w.heap[r]? = some (.mapIter a b s c)) : w.iterSeen r = s := by
  unfold World.iterSeen; rw [h]
/-- What a range has met so far. -/
structure Ranged (w : World) (r mb : Nat) (Es : List Ent) (clock : Nat) (vis : List Ent) : Prop where
  map : w.heap[mb]? = some (.map (Es.map toE).toArray clock)
  iter : w.heap[r]? = some (.mapIter (some mb) clock (vis.map (·.2.2)).toArray clock)
  sub : ∀ e ∈ vis, e ∈ Es
  nodup : (vis.map (·.2.2)).Nodup
  born : ∀ e ∈ Es, e.2.2 < clock
  all : (Es.map (·.2.2)).Nodup
def togo (mb r : Nat) (w : World) : Nat := match w.heap[mb]? with | some (.map es _) => (leftOf es (w.iterSeen r)).size | _ => 0
theorem Ranged.keep {S : Nat → Prop} {r mb clock : Nat} {Es vis : List Ent} {w' : World} (h : Ranged w r mb Es clock vis) (m : Mod S w w') (h1 : ¬ S r) (h2 : ¬ S mb) : Ranged w' r mb Es clock vis :=
  ⟨m.keep h.map h2, m.keep h.iter h1, h.sub, h.nodup, h.born, h.all⟩
theorem Ranged.togo {r mb clock : Nat} {Es vis : List Ent} (h : Ranged w r mb Es clock vis) : togo mb r w = (leftOf (Es.map toE).toArray (vis.map (·.2.2)).toArray).size := by
  unfold Go.Den.togo; rw [h.map, iterSeen_of h.iter]
theorem nodup_of_map {α β : Type} {f : α → β} : ∀ {l : List α}, (l.map f).Nodup → l.Nodup
  | [], _ => List.nodup_nil
  | x :: r, h => by
    rw [List.map_cons, List.nodup_cons] at h
    exact List.nodup_cons.2 ⟨fun hx => h.1 (List.mem_map.2 ⟨x, hx, rfl⟩), nodup_of_map h.2⟩
theorem born_eq {Es : List Ent} (hn : (Es.map (·.2.2)).Nodup) : ∀ {x e : Ent}, x ∈ Es → e ∈ Es → x.2.2 = e.2.2 → x = e := by
  induction Es with
  | nil => intro x e hx; cases hx
  | cons y r ih =>
    rw [List.map_cons, List.nodup_cons] at hn
    intro x e hx he h
    rcases List.mem_cons.1 hx with rfl | hx
    · rcases List.mem_cons.1 he with rfl | he
      · rfl
      · exact absurd (List.mem_map.2 ⟨e, he, h.symm⟩) hn.1
    · rcases List.mem_cons.1 he with he | he
      · exact absurd (List.mem_map.2 ⟨x, hx, by rw [h, he]⟩) hn.1
      · exact ih hn.2 hx he h
/-- One step of a range: over, and all have been met; or one that has not been met. -/
theorem Ranged.next {r mb clock : Nat} {ty : TypeId} {Es vis : List Ent} (h : Ranged w r mb Es clock vis) :
    (vis.Perm Es ∧ (Instr.next (.pointer (some ⟨r, 0, none⟩)) false ty).run P w = .ok (.tuple #[.bool false]) w) ∨
    ∃ e ∈ Es, ∃ w', (Instr.next (.pointer (some ⟨r, 0, none⟩)) false ty).run P w = .ok (.tuple #[.bool true, .int .i64 e.1, e.2.1]) w' ∧ (Instr.entry (.pointer (some ⟨r, 0, none⟩))).run P w' = .ok (.tuple #[.int .i64 e.1, e.2.1]) w' ∧
      Ranged w' r mb Es clock (vis ++ [e]) ∧ e ∉ vis ∧ Mod (fun x => x = r) w w' ∧ Go.Den.togo mb r w' < Go.Den.togo mb r w := by
  have hborn : ∀ x ∈ ((Es.map toE).toArray).toList, x.born < clock := by
    intro x hx
    simp only [List.mem_map] at hx
    obtain ⟨e, he, rfl⟩ := hx
    exact h.born e he
  have hnd : (((Es.map toE).toArray).toList.map (·.born)).Nodup := by
    have := h.all
    rw [List.map_map]; exact this
  rcases next_run (P := P) (ty := ty) h.iter h.map hborn (Nat.le_refl _) with ⟨h0, hrun⟩ | ⟨e, he, w', hrun, hit, hm, hsz⟩
  · refine .inl ⟨?_, hrun⟩
    refine (List.perm_ext_iff_of_nodup (nodup_of_map h.nodup) (nodup_of_map h.all)).2 fun a => ⟨h.sub a, fun ha => ?_⟩
    have := all_seen _ _ h0 (toE a) (by simp only [List.mem_map]; exact ⟨a, ha, rfl⟩)
    have hb : a.2.2 ∈ vis.map (·.2.2) := by simpa [toE] using this
    obtain ⟨v, hv, hve⟩ := List.mem_map.1 hb
    rw [← born_eq h.all (h.sub v hv) ha hve]; exact hv
  · right
    obtain ⟨hin, hns⟩ := mem_left he
    simp only [List.mem_map] at hin
    obtain ⟨x, hx, rfl⟩ := hin
    have hnx : x.2.2 ∉ vis.map (·.2.2) := by
      intro hc
      have : (vis.map (·.2.2)).toArray.contains (toE x).born = true := by simpa [toE] using hc
      rw [this] at hns; cases hns
    have hne : mb ≠ r := by
      rintro rfl
      have h1 := h.map; rw [h.iter] at h1; cases h1
    have hmap' := hm.keep h.map hne
    have hR : Ranged w' r mb Es clock (vis ++ [x]) := by
      refine ⟨hmap', ?_, ?_, ?_, h.born, h.all⟩
      · rw [hit]; simp [toE]
      · intro e he
        rcases List.mem_append.1 he with he | he
        · exact h.sub e he
        · simp at he; subst he; exact hx
      · rw [List.map_append]
        refine List.nodup_append.2 ⟨h.nodup, by simp, ?_⟩
        intro a ha b hb
        simp at hb; subst hb
        exact fun e => hnx (e ▸ ha)
    refine ⟨x, hx, w', hrun, ?_, hR, fun hc => hnx (List.mem_map.2 ⟨x, hc, rfl⟩), hm, ?_⟩
    · exact entry_run (e := toE x) hit hmap' (by simp only [List.mem_map]; exact ⟨x, hx, rfl⟩) hnd
    · rw [hR.togo, h.togo]
      have := left_shrinks _ _ _ he
      simpa [toE] using this
end
end Go.Den
