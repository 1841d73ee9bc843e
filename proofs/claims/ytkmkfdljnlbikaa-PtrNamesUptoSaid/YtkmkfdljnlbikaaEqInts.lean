/- == and != between structs of integers. -/
import Derived.Test.YtkmkfdljnlbikaaWords
import Derived.Laws.StructEq
open Go Go.Den
namespace Go.Den
section
variable {P : Program} {w : World}

/-- A struct type whose n fields are all int, one behind the other. -/
def intsF (P : Program) : List Field → Nat → Bool
  | [], _ => true
  | f :: r, i => Nat.beq f.offset i && (match P.underlying f.type with | some (.int .i64) => true | _ => false) && (f.name != "_") && intsF P r (i + 1)
def intsT (P : Program) (T : TypeId) : Bool :=
  (match P.underlying T with | some (.struct fs) => intsF P fs.toList 0 | _ => false) && !P.stoodInHeld T && !P.eqGuardType P.depth T

theorem run_part_int {T : TypeId} (h : P.underlying T = some (.int .i64)) {cs : Array Value} {o : Nat} {v : Value} (hv : cs[o]? = some v) : (part T cs o).run P w = .ok v w := by
  simp [part, isAgg, run_und h, hv]

theorem eqFields_ints {d : Nat} : ∀ (fs : List Field) (i : Nat) (xs ys : List Int), intsF P fs i = true → xs.length = i + fs.length → ys.length = i + fs.length → ∀ w : World,
    (Op.eqFields (d + 1) ⟨xs.map (Value.int .i64)⟩ ⟨ys.map (Value.int .i64)⟩ fs).run P w = .ok (decide (xs.drop i = ys.drop i)) w
  | [], i, xs, ys, _, hx, hy, w => by
    rw [List.drop_eq_nil_of_le (by simpa using Nat.le_of_eq hx), List.drop_eq_nil_of_le (by simpa using Nat.le_of_eq hy)]
    simp [Op.eqFields]
  | f :: r, i, xs, ys, h, hx, hy, w => by
    simp only [intsF, Bool.and_eq_true] at h
    obtain ⟨⟨⟨h1, h2⟩, h3⟩, h4⟩ := h
    have ho := beq_true h1
    have hu : P.underlying f.type = some (.int .i64) := by
      split at h2
      · rename_i hu; exact hu
      · exact Bool.noConfusion h2
    simp only [List.length_cons] at hx hy
    have hix : i < xs.length := by omega
    have hiy : i < ys.length := by omega
    have e1 : (part f.type ⟨xs.map (Value.int .i64)⟩ f.offset).run P w = .ok (.int .i64 xs[i]) w := run_part_int hu (by rw [ho]; simp [hix])
    have e2 : (part f.type ⟨ys.map (Value.int .i64)⟩ f.offset).run P w = .ok (.int .i64 ys[i]) w := run_part_int hu (by rw [ho]; simp [hiy])
    have hn : f.name ≠ "_" := by simpa using h3
    have ih := eqFields_ints (d := d) r (i + 1) xs ys h4 (by omega) (by omega) w
    rw [List.drop_eq_getElem_cons hix, List.drop_eq_getElem_cons hiy]
    simp only [Op.eqFields, if_pos hn, Sem.run_bind, e1, Result.andThen_ok, e2, run_equalIn_int w d f.type .i64 .i64 _ _ hu]
    by_cases hab : xs[i] = ys[i]
    · have : (xs[i] == ys[i]) = true := by simp [hab]
      rw [this]
      simp only [Bool.not_true, Bool.false_eq_true, if_false, ih]
      simp only [List.cons.injEq, hab, true_and]
    · have : (xs[i] == ys[i]) = false := by simp [hab]
      rw [this]
      simp only [List.cons.injEq, hab, false_and, decide_false, Bool.not_false, if_true, Sem.run_pure]

theorem eq_ints {T : TypeId} (h : intsT P T = true) {o1 o2 : Operand} {xs ys : List Int} (hx : ∀ fs, P.underlying T = some (.struct fs) → xs.length = fs.toList.length) (hy : xs.length = ys.length) (w : World) :
    (eqS .eql T o1 o2 (.agg ⟨xs.map (Value.int .i64)⟩) (.agg ⟨ys.map (Value.int .i64)⟩)).run P w = .ok (.bool (decide (xs = ys))) w ∧
    (eqS .neq T o1 o2 (.agg ⟨xs.map (Value.int .i64)⟩) (.agg ⟨ys.map (Value.int .i64)⟩)).run P w = .ok (.bool (!decide (xs = ys))) w := by
  unfold intsT at h
  simp only [Bool.and_eq_true, Bool.not_eq_true'] at h
  obtain ⟨⟨h1, h2⟩, h3⟩ := h
  split at h1
  · rename_i fs hu
    have hf : P.fieldsOf T = fs := by unfold Program.fieldsOf; rw [hu]
    have hlen := hx fs hu
    have key : (Op.equalIn 10000 T (.agg ⟨xs.map (Value.int .i64)⟩) (.agg ⟨ys.map (Value.int .i64)⟩)).run P w = .ok (decide (xs = ys)) w := by
      rw [run_equalIn_struct w 9999 T _ _ (by rw [hf]; exact hu) h2, hf, eqFields_ints (d := 9998) fs.toList 0 xs ys h1 (by omega) (by omega) w]
      simp
    constructor
    · rw [eqS_run (fun w => run_eqGuard_agg w _ T _ _ _ _ h3), run_eql_struct, key]; rfl
    · rw [eqS_run (fun w => run_eqGuard_agg w _ T _ _ _ _ h3), run_neq_struct, key]; rfl
  · exact Bool.noConfusion h1
end
end Go.Den
