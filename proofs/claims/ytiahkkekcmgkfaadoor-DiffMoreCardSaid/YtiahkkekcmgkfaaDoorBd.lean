/- Parts of the proof, in order: what the statement leans on. -/
import Derived.Test.YtiahkkekcmgkfaaDoorBc
section
/- Statements over listed tables: the wrap that hands on the world's shape; the witness's world; the entries that came in. -/
open Go Go.Den
namespace Go.Proofs.YtiahkkekcmgkfaaDoor
open Go.ChangeShapes Go.WideShapes Go.ChangeAt Go.RowKit Go.Joins

theorem handed_shaped {H : Type} {enc : TypeId × Value → H} {a : Assume} {C : Checked} {os : Os} {f : FuncId} {fn : Func} {s : ChangeSpec} {conds : List PathCond} {apart fresh handsOn again : Bool} {X : World → Array Value → Prop}
    (own : ownKnob C.prog.godebug = none) (started : os.Started) (noInit : C.prog.inits.idxOf? f = none) (hfn : C.prog.funcs[f]? = some fn)
    (witness : ∃ (w : World) (tape : Tape) (i : Input), w.os = os ∧ (w.forCall tape i).Shaped C.prog ∧ i.vars = [] ∧ Input.okWide C.prog (w.forCall tape i) .any w.heap.size f i ∧
      ((s.pre enc C.prog fn conds apart (w.forCall tape i).memory i.args ∧ X (w.forCall tape i).memory i.args) ∧ sizedMet enc C.prog fn (OpenSpec.ofChange s) apart (w.forCall tape i).memory i.args) ∧ a.holds C.prog (lone (Frame.enter C.prog f i.args .normal) [] (w.forCall tape i)))
    (contract : ∀ (W : World) (base : Nat) (args : Array Value) (ds gs : List (DataW H)) (before : List MemPlace),
      (∀ (j : Nat) t v, fn.params[j]? = some t → args[j]? = some v → Value.okWide C.prog W .any base t v) →
      DataW.Whole enc C.prog fn.params.toList s.vars apart W args.toList ds gs before →
      (DataW.weightsEach C.prog (fn.params.toList ++ s.plain.varTypes C.prog) (ds ++ gs)).all (· ≤ reachBytes) = true →
      W.ShapedOpen C.prog →
      Calls C.prog f args W fun e W' => ∃ v, e = .returned v ∧ s.post enc C.prog fn apart fresh handsOn again W args v W') :
    ReturnsInHanded a C os f .any (fun w args => (s.pre enc C.prog fn conds apart w args ∧ X w args) ∧ sizedMet enc C.prog fn (OpenSpec.ofChange s) apart w args) (s.post enc C.prog fn apart fresh handsOn again) := by
  refine returnsInHanded_of_calls own started noInit witness ?_
  intro w tape i _ hsh _ hok hpre _
  obtain ⟨_, _, _, fn', hfn', _, _, _, _, hval⟩ := hok
  have e : fn' = fn := Option.some.inj (hfn'.symm.trans hfn)
  subst e
  obtain ⟨⟨⟨ds, gs, before, hw, hc⟩, hx⟩, hz⟩ := hpre
  have hw' := DataW.Whole.of_heap (w' := w.forCall tape i) (by rfl) hw
  refine (contract (w.forCall tape i) w.heap.size i.args ds gs before hval hw' (hz.weights hw) hsh).mono fun e W' ⟨v, he, hp⟩ => ?_
  subst he
  exact ChangeSpec.post_blind hp

theorem gl_of {W : World} (h : W.ShapedOpen Tryd.prog) : Gl W :=
  Go.Proofs.cell_of_shapedOpen_int (zero := #[.int .i64 0]) (t := 3) h (of_decide_eq_true (by kernel_rfl)) (by kernel_rfl) rfl (by kernel_rfl) (by kernel_rfl) Tryd.underlying3

section
variable {H : Type} {enc : TypeId × Value → H} {w : World} {base : Nat} {held : Bool}

theorem weightsAll_mem {P : Program} {e : TypeId} {d : DataW H} {n : Nat} : ∀ {l : List (DataW H)}, d ∈ l → n ∈ d.weights P e → n ∈ DataW.weightsAll P e l
  | [], h, _ => by cases h
  | x :: r, h, hn => by
    rw [DataW.weightsAll]
    rcases List.mem_cons.1 h with rfl | h
    · exact List.mem_append_left _ hn
    · exact List.mem_append_right _ (weightsAll_mem h hn)
theorem weights_slice {P : Program} {t e : TypeId} {d : DataW H} {l r : List (DataW H)} {n : Nat} (ht : P.underlying t = some (.slice e)) (h : d ∈ l) (hn : n ∈ d.weights P e) : n ∈ (DataW.slice l r).weights P t := by
  rw [DataW.weights, ht]
  exact List.mem_cons_of_mem _ (List.mem_append_left _ (weightsAll_mem h hn))
theorem weights_text {P : Program} {t : TypeId} (s : ByteArray) : (DataW.lit (H := H) (.string s.data.toList)).weights P t = [s.size] := by
  rw [DataW.weights]; rfl
theorem trod_st5 {P : Program} {spare : Nat → Bool} {t : TypeId} {f0 f1 f2 f3 f4 : Field} {fuel : Nat} {cs : List Value} {x : DataW H × List MemPlace} (ht : P.underlying t = some (.struct #[f0, f1, f2, f3, f4])) (h : DataW.trod enc P w base spare held fuel t cs = some x) :
    ∃ y0 y1 y2 y3 y4 n, x.1 = .agg [y0.1, y1.1, y2.1, y3.1, y4.1] ∧ DataW.trod enc P w base spare held n f0.type ((cs.drop f0.offset).take (P.cellsOf f0.type)) = some y0 ∧ DataW.trod enc P w base spare held n f1.type ((cs.drop f1.offset).take (P.cellsOf f1.type)) = some y1 ∧
      DataW.trod enc P w base spare held n f2.type ((cs.drop f2.offset).take (P.cellsOf f2.type)) = some y2 ∧ DataW.trod enc P w base spare held n f3.type ((cs.drop f3.offset).take (P.cellsOf f3.type)) = some y3 ∧ DataW.trod enc P w base spare held n f4.type ((cs.drop f4.offset).take (P.cellsOf f4.type)) = some y4 := by
  obtain ⟨xs, n, _, rfl, hl, hlen, hf⟩ := DataW.trod_struct ht h
  match xs, hlen with
  | [y0, y1, y2, y3, y4], _ => exact ⟨y0, y1, y2, y3, y4, n, by simp, by simpa using hf 0 f0 rfl, by simpa using hf 1 f1 rfl, by simpa using hf 2 f2 rfl, by simpa using hf 3 f3 rfl, by simpa using hf 4 f4 rfl⟩

theorem open_ent {n : Nat} {cs : List Value} {y : DataW H × List MemPlace} (hl : cs.length = 5) (h : DataW.trod enc Tryd.prog w base (fun _ => true) held n 58 cs = some y) :
    ∃ e : Tn, cs = rV e ∧ e.path.length ∈ y.1.weights Tryd.prog 58 ∧ e.link.length ∈ y.1.weights Tryd.prog 58 ∧ e.data.length ∈ y.1.weights Tryd.prog 58 := by
  match cs, hl with
  | [c0, c1, c2, c3, c4], _ =>
    obtain ⟨y0, y1, y2, y3, y4, n', hx, h0, h1, h2, h3, h4⟩ := trod_st5 Tryd.underlying58 h
    have k0 : Tryd.prog.cellsOf 3 = 1 := by kernel_rfl
    have k1 : Tryd.prog.cellsOf 9 = 1 := by kernel_rfl
    simp only [k0, k1] at h0 h1 h2 h3 h4
    have h0 : DataW.trod enc Tryd.prog w base (fun _ => true) held n' 9 [c0] = some y0 := h0
    have h1 : DataW.trod enc Tryd.prog w base (fun _ => true) held n' 3 [c1] = some y1 := h1
    have h2 : DataW.trod enc Tryd.prog w base (fun _ => true) held n' 9 [c2] = some y2 := h2
    have h3 : DataW.trod enc Tryd.prog w base (fun _ => true) held n' 9 [c3] = some y3 := h3
    have h4 : DataW.trod enc Tryd.prog w base (fun _ => true) held n' 3 [c4] = some y4 := h4
    obtain ⟨s0, e0, u0, _⟩ := DataW.trod_string Tryd.underlying9 h0
    obtain ⟨m1, e1, u1, _⟩ := DataW.trod_int Tryd.underlying3 h1
    obtain ⟨s2, e2, u2, _⟩ := DataW.trod_string Tryd.underlying9 h2
    obtain ⟨s3, e3, u3, _⟩ := DataW.trod_string Tryd.underlying9 h3
    obtain ⟨m4, e4, u4, _⟩ := DataW.trod_int Tryd.underlying3 h4
    have e0 : c0 = .string s0 := by simpa using e0
    have e1 : c1 = .int .i64 m1 := by simpa using e1
    have e2 : c2 = .string s2 := by simpa using e2
    have e3 : c3 = .string s3 := by simpa using e3
    have e4 : c4 = .int .i64 m4 := by simpa using e4
    subst e0 e1 e2 e3 e4 u0 u1 u2 u3 u4
    have hw : y.1.weights Tryd.prog 58 = [s0.data.toList.length, s2.data.toList.length, s3.data.toList.length] := by
      rw [hx, DataW.weights, Tryd.underlying58]
      rfl
    refine ⟨⟨s0.data.toList, m1, s2.data.toList, s3.data.toList, m4⟩, rfl, ?_, ?_, ?_⟩ <;> rw [hw] <;> simp

set_option maxRecDepth 100000 in
theorem open_ents {r : Reach} {b0 : Nat} {v : Value} {d : DataW H} {ps : List MemPlace} (hval : Value.okWide Tryd.prog w r b0 22 v) (hd : DataW.Trod enc Tryd.prog w base (fun _ => true) held 22 v d ps)
    (hw : ∀ n ∈ d.weights Tryd.prog 22, n ≤ reachBytes) :
    ∃ a c l, v = .slice a l.length c ∧ RE w a l ∧ BdE l := by
  obtain ⟨fuel, hf⟩ := hd
  obtain ⟨a, l, c, rfl⟩ := okWide_slice Tryd.underlying22 hval
  rcases Go.Deep.open_slice Tryd.underlying22 hf with ⟨h1, h2⟩ | ⟨a', l', c', m, n, DD, Pl, h1, _, hlc, hm, hmm, hx, hel⟩
  · simp [Value.cells] at h1
    obtain ⟨rfl, rfl, rfl⟩ := h1
    exact ⟨none, 0, [], rfl, .inl rfl, fun e he => by cases he⟩
  · simp [Value.cells] at h1
    obtain ⟨rfl, rfl, rfl⟩ := h1
    rw [if_pos rfl] at hmm
    subst hmm
    have hxd : d = .slice ((List.range l).map DD) ((List.range (m - l)).map fun j => DD (l + j)) := congrArg (·.1) hx
    have k3 : Tryd.prog.cellsOf 58 = 5 := by kernel_rfl
    rw [k3] at hel
    by_cases h0 : l = 0
    · subst h0
      exact ⟨some a', m, [], rfl, .inl rfl, fun e he => by cases he⟩
    obtain ⟨b, off, spot⟩ := a'
    have hspot : spot = none := by
      obtain ⟨cs', hc, ht⟩ := hel 0 (by omega)
      obtain ⟨_, hcl, hcc⟩ := World.cells?_some hc
      obtain ⟨x, rfl, _⟩ := open_ent hcl ht
      have h00 := hcc 0 (by omega)
      have := World.cell?_spot (h00.trans rfl)
      simpa [Addr.add] using this
    subst hspot
    have each : ∀ i : Nat, i < l → ∃ x : Tn, (∀ (j : Nat) (v : Value), (rV x)[j]? = some v → w.cell? ⟨b, off + (i * 5 + j), none⟩ = some v) ∧ x.path.length ≤ 140737488355328 ∧ x.link.length ≤ 140737488355328 ∧ x.data.length ≤ 140737488355328 := by
      intro i hi
      obtain ⟨cs', hc, ht⟩ := hel i (by omega)
      obtain ⟨_, hcl, hcc⟩ := World.cells?_some hc
      obtain ⟨x, rfl, w1, w2, w3⟩ := open_ent hcl ht
      have hmem : DD i ∈ (List.range l).map DD := List.mem_map.2 ⟨i, List.mem_range.2 hi, rfl⟩
      have hle : ∀ n ∈ (DD i).weights Tryd.prog 58, n ≤ 140737488355328 := fun n hn => Nat.le_trans (hw n (by rw [hxd]; exact weights_slice Tryd.underlying22 hmem hn)) (by decide)
      refine ⟨x, fun j v hj => ?_, hle _ w1, hle _ w2, hle _ w3⟩
      have hj4 : j < 5 := (List.getElem?_eq_some_iff.1 hj).1
      have := hcc j hj4
      rw [add_none, add_none, Nat.add_assoc] at this
      rw [this, hj]
    have pick : ∃ f : Nat → Tn, ∀ i, i < l → (∀ (j : Nat) (v : Value), (rV (f i))[j]? = some v → w.cell? ⟨b, off + (i * 5 + j), none⟩ = some v) ∧ (f i).path.length ≤ 140737488355328 ∧ (f i).link.length ≤ 140737488355328 ∧ (f i).data.length ≤ 140737488355328 := by
      have : ∀ i : Nat, ∃ x : Tn, i < l → ((∀ (j : Nat) (v : Value), (rV x)[j]? = some v → w.cell? ⟨b, off + (i * 5 + j), none⟩ = some v) ∧ x.path.length ≤ 140737488355328 ∧ x.link.length ≤ 140737488355328 ∧ x.data.length ≤ 140737488355328) := fun i => by
        by_cases hi : i < l
        · obtain ⟨x, hx⟩ := each i hi; exact ⟨x, fun _ => hx⟩
        · exact ⟨⟨[], 0, [], [], 0⟩, fun h => absurd h hi⟩
      exact Classical.axiomOfChoice this
    obtain ⟨f, hf'⟩ := pick
    refine ⟨some ⟨b, off, none⟩, m, (List.range l).map f, by simp, .inr ⟨b, off, rfl, ?_⟩, fun e he => ?_⟩
    · have flat : ∀ (zs : List Tn), ((zs.map rV).flatten).length = zs.length * 5 := by
        intro zs
        induction zs with
        | nil => rfl
        | cons u r ih => rw [List.map_cons, List.flatten_cons, List.length_append, ih, List.length_cons]; have : (rV u).length = 5 := rfl; omega
      have get : ∀ (zs : List Tn) (i : Nat) (z : Tn), zs[i]? = some z → (((zs.map rV).flatten).drop (i * 5)).take 5 = rV z := by
        intro zs
        induction zs with
        | nil => intro i z h; simp at h
        | cons u r ih =>
          intro i z h
          have hu : (rV u).length = 5 := rfl
          cases i with
          | zero => simp at h; subst h; rw [Nat.zero_mul, List.drop_zero, List.map_cons, List.flatten_cons, List.take_append_of_le_length (by omega), List.take_of_length_le (by omega)]
          | succ i =>
            have := ih i z (by simpa using h)
            rw [List.map_cons, List.flatten_cons, List.drop_append, List.drop_eq_nil_of_le (by omega), List.nil_append]
            have e : (i + 1) * 5 - (rV u).length = i * 5 := by omega
            rw [e]; exact this
      have hfl := flat ((List.range l).map f)
      rw [List.length_map, List.length_range] at hfl
      refine At.of_cells (by rw [hfl]; omega) fun j hj => ?_
      rw [hfl] at hj
      have hi : j / 5 < l := by omega
      have hg := get ((List.range l).map f) (j / 5) (f (j / 5)) (by simp [hi])
      have hcell := (hf' (j / 5) hi).1 (j % 5)
      have hlt : j < ((((List.range l).map f).map rV).flatten).length := by rw [hfl]; exact hj
      have hget : (rV (f (j / 5)))[j % 5]? = some ((((List.range l).map f).map rV).flatten[j]) := by
        rw [← hg, List.getElem?_take, if_pos (by omega), List.getElem?_drop, show j / 5 * 5 + j % 5 = j by omega]
        exact List.getElem?_eq_getElem _
      have := hcell _ hget
      rw [show j / 5 * 5 + j % 5 = j by omega] at this
      exact this
    · obtain ⟨i, hi, rfl⟩ := List.mem_map.1 he
      exact (hf' i (List.mem_range.1 hi)).2
end
end Go.Proofs.YtiahkkekcmgkfaaDoor
end
