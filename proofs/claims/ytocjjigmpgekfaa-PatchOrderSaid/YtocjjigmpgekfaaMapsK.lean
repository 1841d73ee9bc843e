/- Maps with int keys in memory: lookup with a word on whether it is there, delete. -/
import Derived.Test.YtocjjigmpgekfaaMapsH
open Go Go.Den
namespace Go.Den
def delL (k : Int) (L : List (Int × Value)) : List (Int × Value) := L.filter fun p => !decide (p.1 = k)
theorem findE_erase (k : Int) : ∀ (Es : List Ent) (i j : Nat) (u : Value), (Es.map (·.1)).Nodup → findE k Es i = some (j, u) → i ≤ j ∧ j - i < Es.length ∧ Es.eraseIdx (j - i) = Es.filter fun e => !decide (e.1 = k)
  | [], _, _, _, _, h => by cases h
  | e :: r, i, j, u, hn, h => by
    rw [List.map_cons, List.nodup_cons] at hn
    simp only [findE] at h
    by_cases he : e.1 = k
    · rw [if_pos he] at h
      have h := Option.some.inj h
      simp only [Prod.mk.injEq] at h
      obtain ⟨rfl, _⟩ := h
      refine ⟨Nat.le_refl _, by simp, ?_⟩
      rw [Nat.sub_self, List.eraseIdx_cons_zero, List.filter_cons_of_neg (by simp [he])]
      refine (List.filter_eq_self.2 fun x hx => ?_).symm
      have : x.1 ≠ k := fun e' => hn.1 (List.mem_map.2 ⟨x, hx, by rw [e', he]⟩)
      simp [this]
    · rw [if_neg he] at h
      obtain ⟨h1, h2, h3⟩ := findE_erase k r (i + 1) j u hn.2 h
      refine ⟨by omega, by simp; omega, ?_⟩
      rw [show j - i = (j - (i + 1)) + 1 by omega, List.eraseIdx_cons_succ, h3, List.filter_cons_of_pos (by simp [he])]
theorem findE_all (k : Int) : ∀ (Es : List Ent) (i : Nat), findE k Es i = none → (Es.filter fun e => !decide (e.1 = k)) = Es
  | [], _, _ => rfl
  | e :: r, i, h => by
    simp only [findE] at h
    by_cases he : e.1 = k
    · rw [if_pos he] at h; cases h
    · rw [if_neg he] at h
      rw [List.filter_cons_of_pos (by simp [he]), findE_all k r (i + 1) h]
theorem erase_map {α β : Type} (f : α → β) : ∀ (l : List α) (j : Nat), (l.map f).eraseIdx j = (l.eraseIdx j).map f
  | [], _ => rfl
  | x :: r, 0 => rfl
  | x :: r, j + 1 => by simp [erase_map f r j]
theorem look_del (L : List (Int × Value)) (k k' : Int) : lookupL (delL k L) k' = if k' = k then none else lookupL L k' := by
  induction L with
  | nil => simp [delL, lookupL]
  | cons p r ih =>
    unfold delL at ih ⊢
    by_cases hp : p.1 = k
    · rw [List.filter_cons_of_neg (by simp [hp]), ih]
      by_cases hk : k' = k
      · rw [if_pos hk, if_pos hk]
      · rw [if_neg hk, if_neg hk]; simp only [lookupL]; rw [if_neg (by omega)]
    · rw [List.filter_cons_of_pos (by simp [hp])]
      simp only [lookupL]
      by_cases hk : p.1 = k'
      · rw [if_pos hk, if_pos hk, if_neg (by omega)]
      · rw [if_neg hk, if_neg hk, ih]
theorem del_mem {L : List (Int × Value)} {k : Int} {p : Int × Value} : p ∈ delL k L ↔ p ∈ L ∧ p.1 ≠ k := by
  unfold delL; rw [List.mem_filter]; simp
section
variable {P : Program} {w : World}
theorem look2_run {T : TypeId} {z : Value} {m : Nat} {L : List (Int × Value)} {k : Int} (hT : mapZ P T = some z) (h : MapAt w m L) :
    (Instr.lookup T (.map (some m)) (.int .i64 k) true).run P w = .ok (.tuple #[(lookupL L k).getD z, .bool (lookupL L k).isSome]) w := by
  obtain ⟨kt, e, i, h1, h2, h3, h4⟩ := mapZ_is hT
  obtain ⟨Es, c, g1, rfl, _⟩ := h
  have hl := findE_look k Es 0
  have hzero : (zeroValue e).run P w = .ok z w := by simp [zeroValue, typeInfo, h3, h4]
  simp only [Instr.lookup, Sem.run_bind, run_und h1, Result.andThen_ok, run_getMap g1, Sem.run_pure, run_checkKey h2, run_findKey h2]
  cases hf : findE k Es 0 with
  | none =>
    rw [hf] at hl
    simp only [Option.map_none] at hl
    simp [← hl, hzero]
  | some r =>
    rw [hf] at hl
    simp only [Option.map_some] at hl
    simp [← hl]
theorem delete_run {T T2 ty : TypeId} {z : Value} {m : Nat} {L : List (Int × Value)} {k : Int} (hT : mapZ P T = some z) (h : MapAt w m L) :
    ∃ w', (Builtin.delete_ #[T, T2] ty #[.map (some m), .int .i64 k]).run P w = .ok (.tuple #[]) w' ∧ MapAt w' m (delL k L) ∧ Mod (fun x => x = m) w w' ∧ w'.heap.size = w.heap.size := by
  obtain ⟨kt, e, i, h1, h2, h3, h4⟩ := mapZ_is hT
  obtain ⟨Es, c, g1, rfl, g3, g4, g5⟩ := h
  have hund : (underlying T).run P w = .ok (.map kt e) w := run_und h1 w
  have hmod : ∀ o, Mod (fun x => x = m) w (put w m o) := fun o => (Mod.refl (fun x => x = m) w).put (.inr rfl) _
  have hkv : (Es.filter fun e => !decide (e.1 = k)).map kv = delL k (Es.map kv) := by
    unfold delL; rw [List.filter_map]; rfl
  have hsub : (Es.filter fun e => !decide (e.1 = k)).Sublist Es := List.filter_sublist
  cases hf : findE k Es 0 with
  | none =>
    have hall := findE_all k Es 0 hf
    refine ⟨put w m (.map (Es.map toE).toArray c), ?_, ⟨Es, c, heap_put_same (lt_of_heap g1), by rw [← hkv, hall], g3, g4, g5⟩, hmod _, by simp⟩
    simp [Builtin.delete_, hund, run_getMap g1, run_checkKey h2, run_findKey h2, hf, run_setMap g1]
  | some r =>
    obtain ⟨j, u⟩ := r
    obtain ⟨_, e2, e3⟩ := findE_erase k Es 0 j u g3 hf
    rw [Nat.sub_zero] at e2 e3
    refine ⟨put w m (.map ((Es.eraseIdx j).map toE).toArray c), ?_, ⟨Es.eraseIdx j, c, heap_put_same (lt_of_heap g1), by rw [e3, hkv], ?_, ?_, ?_⟩, hmod _, by simp⟩
    · simp [Builtin.delete_, hund, run_getMap g1, run_checkKey h2, run_findKey h2, hf, run_setMap g1, erase_map]
    · rw [e3]; exact (hsub.map _).nodup g3
    · rw [e3]; exact fun x hx => g4 x (hsub.subset hx)
    · rw [e3]; exact (hsub.map _).nodup g5
end
end Go.Den
