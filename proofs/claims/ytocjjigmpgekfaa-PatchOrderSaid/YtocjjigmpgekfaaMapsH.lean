/- Maps with keys that are ints, in memory: what the operations do there. -/
import Derived.Test.YtocjjigmpgekfaaGrow
import Derived.Laws.IdiomRangeMap
open Go Go.Den
namespace Go.Den
abbrev Ent := Int × Value × Nat
def toE (e : Ent) : MapEntry := ⟨.int .i64 e.1, e.2.1, e.2.2⟩
def kv (e : Ent) : Int × Value := (e.1, e.2.1)
def findE (k : Int) : List Ent → Nat → Option (Nat × Value)
  | [], _ => none
  | e :: r, i => if e.1 = k then some (i, e.2.1) else findE k r (i + 1)
def putE (k : Int) (v : Value) (b : Nat) : List Ent → List Ent
  | [] => [(k, v, b)]
  | e :: r => if e.1 = k then (k, v, e.2.2) :: r else e :: putE k v b r
def lookupL : List (Int × Value) → Int → Option Value
  | [], _ => none
  | p :: r, k => if p.1 = k then some p.2 else lookupL r k
def putL (k : Int) (v : Value) : List (Int × Value) → List (Int × Value)
  | [] => [(k, v)]
  | p :: r => if p.1 = k then (k, v) :: r else p :: putL k v r

theorem findE_look (k : Int) : ∀ (Es : List Ent) (i : Nat), (findE k Es i).map (·.2) = lookupL (Es.map kv) k
  | [], _ => rfl
  | e :: r, i => by
    simp only [findE, List.map_cons, lookupL, kv]
    by_cases h : e.1 = k
    · rw [if_pos h, if_pos h]; rfl
    · rw [if_neg h, if_neg h]; exact findE_look k r (i + 1)
theorem putE_kv (k : Int) (v : Value) (b : Nat) : ∀ Es : List Ent, (putE k v b Es).map kv = putL k v (Es.map kv)
  | [] => rfl
  | e :: r => by
    simp only [putE, List.map_cons, putL, kv]
    by_cases h : e.1 = k
    · rw [if_pos h, if_pos h]; rfl
    · rw [if_neg h, if_neg h, List.map_cons, putE_kv k v b r]; rfl
theorem findNow_E (q : IntKind) (k : Int) : ∀ (Es : List Ent) (i : Nat), Instr.findNow (.int q) (.int .i64 k) (Es.map toE) i = some (findE k Es i)
  | [], _ => rfl
  | e :: r, i => by
    simp only [List.map_cons, Instr.findNow, toE, Instr.sameNow, findE, if_true]
    by_cases h : e.1 = k
    · have : (k == e.1) = true := by simp [h]
      rw [if_pos h, this]
    · have : (k == e.1) = false := by simp; exact fun e => h e.symm
      rw [if_neg h, this]
      exact findNow_E q k r (i + 1)
theorem findE_modify (k : Int) (v : Value) (b : Nat) : ∀ (Es : List Ent) (i j : Nat) (u : Value), findE k Es i = some (j, u) → i ≤ j ∧ (Es.map toE).modify (j - i) (fun e => { e with key := .int .i64 k, val := v }) = (putE k v b Es).map toE ∧ ((Es.map toE)[j - i]?.map (·.key)) = some (.int .i64 k)
  | [], i, j, u, h => by cases h
  | e :: r, i, j, u, h => by
    simp only [findE] at h
    by_cases he : e.1 = k
    · rw [if_pos he] at h
      have h := Option.some.inj h
      simp only [Prod.mk.injEq] at h
      obtain ⟨rfl, _⟩ := h
      refine ⟨Nat.le_refl _, ?_, ?_⟩
      · simp only [putE, if_pos he, List.map_cons, Nat.sub_self, List.modify_zero_cons, toE]
      · simp [toE, he]
    · rw [if_neg he] at h
      obtain ⟨h1, h2, h3⟩ := findE_modify k v b r (i + 1) j u h
      refine ⟨by omega, ?_, ?_⟩
      · rw [show j - i = (j - (i + 1)) + 1 by omega]
        simp only [putE, if_neg he, List.map_cons, List.modify_succ_cons, h2]
      · rw [show j - i = (j - (i + 1)) + 1 by omega]
        simpa using h3
theorem findE_none (k : Int) (v : Value) (b : Nat) : ∀ (Es : List Ent) (i : Nat), findE k Es i = none → putE k v b Es = Es ++ [(k, v, b)] ∧ ∀ e ∈ Es, e.1 ≠ k
  | [], _, _ => ⟨rfl, by simp⟩
  | e :: r, i, h => by
    simp only [findE] at h
    by_cases he : e.1 = k
    · rw [if_pos he] at h; cases h
    · rw [if_neg he] at h
      obtain ⟨h1, h2⟩ := findE_none k v b r (i + 1) h
      refine ⟨by simp only [putE, if_neg he, h1, List.cons_append], fun x hx => ?_⟩
      rcases List.mem_cons.1 hx with rfl | hx
      · exact he
      · exact h2 x hx
theorem putE_born (k : Int) (v : Value) (b : Nat) : ∀ (Es : List Ent) (i : Nat), findE k Es i ≠ none → (putE k v b Es).map (·.2.2) = Es.map (·.2.2) ∧ (putE k v b Es).map (·.1) = Es.map (·.1)
  | [], _, h => absurd rfl h
  | e :: r, i, h => by
    simp only [findE] at h
    by_cases he : e.1 = k
    · simp [putE, he]
    · rw [if_neg he] at h
      obtain ⟨h1, h2⟩ := putE_born k v b r (i + 1) h
      simp [putE, he, h1, h2]

/-- A map in memory. -/
def MapAt (w : World) (m : Nat) (L : List (Int × Value)) : Prop :=
  ∃ (Es : List Ent) (clock : Nat), w.heap[m]? = some (.map (Es.map toE).toArray clock) ∧ Es.map kv = L ∧ (Es.map (·.1)).Nodup ∧ (∀ e ∈ Es, e.2.2 < clock) ∧ (Es.map (·.2.2)).Nodup
section
variable {P : Program} {w : World}
theorem MapAt.lt {m : Nat} {L : List (Int × Value)} (h : MapAt w m L) : m < w.heap.size := by obtain ⟨_, _, h, _⟩ := h; exact lt_of_heap h
theorem MapAt.keep {m : Nat} {L : List (Int × Value)} {S : Nat → Prop} {w' : World} (h : MapAt w m L) (hm : Mod S w w') (hs : ¬ S m) : MapAt w' m L := by
  obtain ⟨Es, c, h1, h2⟩ := h; exact ⟨Es, c, hm.keep h1 hs, h2⟩
theorem MapAt.drew {m : Nat} {L : List (Int × Value)} (h : MapAt w m L) : MapAt (drew w) m L := h
theorem MapAt.nodup {m : Nat} {L : List (Int × Value)} (h : MapAt w m L) : (L.map (·.1)).Nodup := by
  obtain ⟨Es, c, _, rfl, h, _⟩ := h
  rw [List.map_map]; exact h
theorem MapAt.ne_cells {m b o : Nat} {L : List (Int × Value)} {cs : List Value} (h : MapAt w m L) (k : At w b o cs) : b ≠ m := by
  rintro rfl
  obtain ⟨Es, c, h, _⟩ := h
  obtain ⟨l, t, fz, k, _⟩ := k
  rw [h] at k; cases k

def mapZ (P : Program) (T : TypeId) : Option Value :=
  match P.underlying T with
  | some (.map k e) => match P.underlying k with
    | some (.int .i64) => match P.info? e with | some i => i.zero | none => none
    | _ => none
  | _ => none
theorem mapZ_is {T : TypeId} {z : Value} (h : mapZ P T = some z) : ∃ k e i, P.underlying T = some (.map k e) ∧ P.underlying k = some (.int .i64) ∧ P.info? e = some i ∧ i.zero = some z := by
  unfold mapZ at h
  split at h
  · rename_i k e h1
    split at h
    · rename_i h2
      split at h
      · rename_i i h3; exact ⟨k, e, i, h1, h2, h3, h⟩
      · cases h
    · cases h
  · cases h
theorem run_checkKey {k : TypeId} {empty : Bool} {n : Int} (hk : P.underlying k = some (.int .i64)) : (Instr.checkKey empty 10000 k (.int .i64 n)).run P w = .ok () w := by
  rw [show (10000 : Nat) = 9999 + 1 from rfl, Instr.checkKey]
  simp [run_und hk]
theorem run_findKey {k : TypeId} {n : Int} {Es : List Ent} (hk : P.underlying k = some (.int .i64)) : (Instr.findKey k (.int .i64 n) (Es.map toE)).run P w = .ok (findE n Es 0) w := by
  simp [Instr.findKey, run_und hk, findNow_E]
theorem run_getMap {m : Nat} {es : Array MapEntry} {c : Nat} (h : w.heap[m]? = some (.map es c)) : (getObj m).run P w = .ok (.map es c) w := by
  simp [getObj, Sem.run, h]

theorem lookup_run {T : TypeId} {z : Value} {m : Nat} {L : List (Int × Value)} {k : Int} (hT : mapZ P T = some z) (h : MapAt w m L) :
    (Instr.lookup T (.map (some m)) (.int .i64 k) false).run P w = .ok ((lookupL L k).getD z) w := by
  obtain ⟨kt, e, i, h1, h2, h3, h4⟩ := mapZ_is hT
  obtain ⟨Es, c, g1, rfl, _⟩ := h
  have hl := findE_look k Es 0
  have hzero : (zeroValue e).run P w = .ok z w := by simp [zeroValue, typeInfo, h3, h4]
  simp only [Instr.lookup, Sem.run_bind, run_und h1, Result.andThen_ok, run_getMap g1, Sem.run_pure, run_checkKey h2, run_findKey h2]
  cases hf : findE k Es 0 with
  | none =>
    rw [hf] at hl
    simp only [Option.map_none] at hl
    simp [← hl, hzero]
  | some r =>
    rw [hf] at hl
    simp only [Option.map_some] at hl
    simp [← hl]

theorem run_setMap {m : Nat} {es : Array MapEntry} {c : Nat} {o' : Obj} (h : w.heap[m]? = some (.map es c)) : (setObj m o').run P w = .ok () (put w m o') := by
  have hlt := lt_of_heap h
  simp only [setObj, Sem.run]
  rw [h]; rfl

theorem update_run {T : TypeId} {z : Value} {m : Nat} {L : List (Int × Value)} {k : Int} {v : Value} (hT : mapZ P T = some z) (h : MapAt w m L) :
    ∃ w', (Instr.mapUpdate T (.map (some m)) (.int .i64 k) v).run P w = .ok () w' ∧ MapAt w' m (putL k v L) ∧ Mod (fun x => x = m) w w' ∧ w'.heap.size = w.heap.size := by
  obtain ⟨kt, e, i, h1, h2, h3, h4⟩ := mapZ_is hT
  obtain ⟨Es, c, g1, rfl, g3, g4, g5⟩ := h
  have hm : ∀ o, Mod (fun x => x = m) w (put w m o) := fun o => (Mod.refl (fun x => x = m) w).put (.inr rfl) _
  cases hf : findE k Es 0 with
  | none =>
    obtain ⟨e1, e2⟩ := findE_none k v c Es 0 hf
    refine ⟨put w m (.map ((putE k v c Es).map toE).toArray (c + 1)), ?_, ⟨putE k v c Es, c + 1, heap_put_same (lt_of_heap g1), putE_kv k v c Es, ?_, ?_, ?_⟩, hm _, by simp⟩
    · simp only [Instr.mapUpdate, Sem.run_bind, run_und h1, Result.andThen_ok, run_getMap g1, run_checkKey h2, run_findKey h2, hf]
      rw [run_setMap g1, e1]
      simp [toE]
    · rw [e1, List.map_append]
      refine List.nodup_append.2 ⟨g3, by simp, ?_⟩
      intro a ha b hb
      simp at hb; subst hb
      obtain ⟨x, hx, rfl⟩ := List.mem_map.1 ha
      exact e2 x hx
    · intro x hx
      rw [e1] at hx
      rcases List.mem_append.1 hx with hx | hx
      · have := g4 x hx; omega
      · simp at hx; subst hx; simp
    · rw [e1, List.map_append]
      refine List.nodup_append.2 ⟨g5, by simp, ?_⟩
      intro a ha b hb
      simp at hb; subst hb
      obtain ⟨x, hx, rfl⟩ := List.mem_map.1 ha
      have := g4 x hx; omega
  | some r =>
    obtain ⟨j, u⟩ := r
    obtain ⟨_, e1, e2⟩ := findE_modify k v c Es 0 j u hf
    rw [Nat.sub_zero] at e1 e2
    obtain ⟨b1, b2⟩ := putE_born k v c Es 0 (by rw [hf]; simp)
    refine ⟨put w m (.map ((putE k v c Es).map toE).toArray c), ?_, ⟨putE k v c Es, c, heap_put_same (lt_of_heap g1), putE_kv k v c Es, by rw [b2]; exact g3, ?_, by rw [b1]; exact g5⟩, hm _, by simp⟩
    · have hkey : (((Es.map toE).toArray[j]?).map (·.key)).getD (.int .i64 k) = .int .i64 k := by
        rw [List.getElem?_toArray, e2]; rfl
      have hstay : (Instr.keyThatStays (.int .i64 k) (.int .i64 k)).run P w = .ok (.int .i64 k) w := by
        have : Instr.sameBits 10000 (.int .i64 k) (.int .i64 k) = true := by simp [Instr.sameBits]
        simp [Instr.keyThatStays, this]
      simp only [Instr.mapUpdate, Sem.run_bind, run_und h1, Result.andThen_ok, run_getMap g1, run_checkKey h2, run_findKey h2, hf, hkey, hstay]
      rw [run_setMap g1, ← e1]
      simp
    · intro x hx
      have hx' : x.2.2 ∈ Es.map (·.2.2) := by rw [← b1]; exact List.mem_map.2 ⟨x, hx, rfl⟩
      obtain ⟨y, hy, hye⟩ := List.mem_map.1 hx'
      rw [← hye]; exact g4 y hy

theorem clear_run {T ty : TypeId} {z : Value} {m : Nat} {L : List (Int × Value)} (hT : mapZ P T = some z) (h : MapAt w m L) :
    ∃ w', (Builtin.clear_ #[T] ty #[.map (some m)]).run P w = .ok (.tuple #[]) w' ∧ MapAt w' m [] ∧ Mod (fun x => x = m) w w' ∧ w'.heap.size = w.heap.size := by
  obtain ⟨kt, e, i, h1, h2, h3, h4⟩ := mapZ_is hT
  obtain ⟨Es, c, g1, rfl, g3, g4, g5⟩ := h
  refine ⟨put w m (.map #[] c), ?_, ⟨[], c, heap_put_same (lt_of_heap g1), rfl, by simp, by simp, by simp⟩, (Mod.refl (fun x => x = m) w).put (.inr rfl) _, by simp⟩
  simp [Builtin.clear_, run_und h1, run_getMap g1, run_setMap g1]
theorem makeMap_run {T : TypeId} : (Instr.makeMap T none).run P w = .ok (.map (some w.heap.size)) (w.alloc (.map #[] 0)) := rfl
theorem MapAt.new : MapAt (w.alloc (.map #[] 0)) w.heap.size [] := ⟨[], 0, heap_new w _, rfl, by simp, by simp, by simp⟩
end
end Go.Den
