/- The statement PatchOrder: the law's text, walked. -/
import Derived.Test.YtocjjigmpgekfaaPatW
open Go Go.Den Go.Proofs
namespace Go.Proofs.Ytocjjigmpgekfaa
section
variable {w w' w0 : World} {R R' : Nat → Prop} {sp d base lc : Nat} {la : Option Addr} {ms : List Mk} {V : Ps} {K : Value → World → Prop}
theorem bcell {p q : Prop} [Decidable p] [Decidable q] (h : p ↔ q) : [Value.bool (decide p)] = [Value.bool (decide q)] := by rw [decide_eq_decide.2 h]
theorem bcellF {q : Prop} [Decidable q] (h : ¬ q) : [Value.bool false] = [Value.bool (decide q)] := by rw [decide_eq_false h]
theorem elemG_ids : elemG Try.prog 33 1 8 := elemG_of (by kernel_rfl)
theorem elemG_ints : elemG Try.prog 23 1 8 := elemG_of (by kernel_rfl)
theorem Pz.ord (h : Pz w0 R w sp d V) : ∀ o ∈ V.ons, atD V.C.D o.b = withL o.base (o.l.filter (·.out)) := by
  obtain ⟨C, e, hw⟩ := h.full
  intro o ho
  rw [← e]; exact hw.acc o ho
theorem Pz.keep {S : Nat → Prop} (h : Pz w0 R w sp d V) (k : Mod S w w') (hs : ∀ x, R x → ¬ S x) (hw : ∀ x, x < w0.heap.size → ¬ S x) : Pz w0 R w' sp d V := by
  obtain ⟨C, e1, e2, hw', rl, c, mo, mm, ca, oa, Lo, Lm, h⟩ := h
  exact ⟨C, e1, e2, hw', rl, c, mo, mm, ca, oa, Lo, Lm, h.keepS k hs hw⟩
/-- A crash of the store's disk; the store is of no use behind it. -/
theorem qCrash_c {a1 : Option Addr} {l1 c1 : Nat} {pick : List Int} (hP : Pz w0 R w sp d V) (hpl : pick.length = l1) (hpr : Row w a1 (iL pick)) (hdis : pick ≠ [] → ∀ q, a1 = some q → ¬ R q.block) (h63 : l1 ≤ 9223372036854775807)
    (hk : ∀ w' R4 sb mb sc, Mod R w w' → (∀ x, R4 x → R x) → DiskIn w' R4 d sb mb sc [] (crSt V.C.D pick) → K (.tuple #[]) w') : Cal Try.prog F_disk_Disk_Crash #[.pointer (some ⟨d, 0, none⟩), .slice a1 l1 c1] w K := by
  obtain ⟨C, eD, eM, hw, rl, c, mo, mm, ca, oa, Lo, Lm, h⟩ := hP
  obtain ⟨rl2, m, sb, mb, sc, lc, la, L, mp, hC⟩ := h.cx
  have hin : ∀ x, rl2 x = 4 → R x := fun x hx => h.reg x (by have : rl x = 1 := hC.reg x (by omega); omega)
  refine Crash_c hC.disk hC.wf.small hpl hpr (fun hne q hq e => hdis hne q hq (hin _ e)) h63 fun w' m hd => ?_
  have hD : Ps.C (⟨C, V.last, V.ons⟩ : Ps) = C := rfl
  rw [hD, eD] at hd
  exact hk w' _ sb mb sc (m.mono fun x _ e => hin x e) hin hd
def onB (D : St) (ms : List Mk) (k : Nat) : Bool := match ms[k]? with | some m => decide ((rdB D (m.b : Int))[k]? = some 1) | none => false
/-- Those ahead, as the law makes them. -/
def Ahd (w7 : World) (n : Nat) (x : List Value) (w16 : World) : Prop :=
  ∃ (js : List Nat) (a13 a14 : Option Addr) (c13 c14 : Nat) (y : Value), x = [.slice a13 js.length c13, .slice a14 js.length c14, .int .i64 js.length, y] ∧ js.length ≤ 4 ∧ (∀ j ∈ js, j < n) ∧
    Own Try.prog w16 w7.heap.size 33 1 a13 js.length c13 (iL (js.map fun j => ((j + 1 : Nat) : Int))) ∧ Own Try.prog w16 w7.heap.size 23 1 a14 js.length c14 (iL (nI' js)) ∧ (∀ q q', a13 = some q → a14 = some q' → q.block ≠ q'.block) ∧ Mod No w7 w16
theorem Ahd.next {w7 w16 : World} {n j : Nat} {js : List Nat} {a13 a14 : Option Addr} {c13 c14 : Nat} {y0 y1 : Value} (hl : js.length < 4) (hjs : ∀ j ∈ js, j < n) (hj : j < n)
    (o1 : Own Try.prog w16 w7.heap.size 33 1 a13 js.length c13 (iL (js.map fun j => ((j + 1 : Nat) : Int)))) (o2 : Own Try.prog w16 w7.heap.size 23 1 a14 js.length c14 (iL (nI' js))) (hne : ∀ q q', a13 = some q → a14 = some q' → q.block ≠ q'.block) (hm : Mod No w7 w16) :
    ∃ (a104 : Option Addr) (l104 c104 : Nat), ∃ w19 : World, Ru (Instr.buildSlice 33 1 #[(0, .int .i64 ((j + 1 : Nat) : Int))]) w16 (.slice a104 l104 c104) w19 ∧ ∃ (a105 : Option Addr) (l105 c105 : Nat), ∃ w20 : World, Ru (Builtin.append_ #[33, 33] 33 #[.slice a13 js.length c13, .slice a104 l104 c104]) w19 (.slice a105 l105 c105) w20 ∧
      ∃ (a14' : Option Addr) (l14' c14' : Nat), (.slice a14 js.length c14 : Value) = .slice a14' l14' c14' ∧ ∃ (a108 : Option Addr) (l108 c108 : Nat), ∃ w21 : World, Ru (Instr.buildSlice 23 1 #[(0, .int .i64 j)]) w20 (.slice a108 l108 c108) w21 ∧ ∃ (a109 : Option Addr) (l109 c109 : Nat), ∃ w22 : World, Ru (Builtin.append_ #[23, 23] 23 #[.slice a14' l14' c14', .slice a108 l108 c108]) w21 (.slice a109 l109 c109) w22 ∧ (Ahd w7 n [.slice a105 l105 c105, .slice a109 l109 c109, .int .i64 ((js.length + 1 : Nat) : Int), y0] w22 ∧ (4 - nI [.slice a105 l105 c105, .slice a109 l109 c109, .int .i64 ((js.length + 1 : Nat) : Int), y0] 2).toNat < (4 - nI [.slice a13 js.length c13, .slice a14 js.length c14, .int .i64 js.length, y1] 2).toNat) := by
  refine ⟨_, _, _, _, builtI64 _ _, ?_⟩
  have m19 : Mod No w16 (w16.alloc (.cells ⟨[.int .i64 ((j + 1 : Nat) : Int)]⟩ 2)) := (Mod.refl No w16).alloc _
  have r19 : Row (w16.alloc (.cells ⟨[.int .i64 ((j + 1 : Nat) : Int)]⟩ 2)) (some ⟨w16.heap.size, 0, none⟩) (iL [((j + 1 : Nat) : Int)]) := .inr ⟨_, _, rfl, AtU.new.at⟩
  generalize w16.alloc (.cells ⟨[.int .i64 ((j + 1 : Nat) : Int)]⟩ 2) = w19 at *
  have hz0 := hm.size
  have hz1 := m19.size
  obtain ⟨q1, c1, w20, run1, p1, mm1, hq1⟩ := (o1.nos m19).appG (ty := 33) (m := 1) (c2 := 1) elemG_ids (by omega) r19 rfl (by omega) (one_iL _) (by omega) (by omega) (by omega)
  have b1 : ∀ {q}, a13 = some q → _ := fun {q} hq => o1.base (q := q) hq
  have b2 : ∀ {q}, a14 = some q → _ := fun {q} hq => o2.base (q := q) hq
  have hb1 := p1.base rfl
  have M20 : Mod No w7 w20 := (hm.no m19).trans mm1 fun x hx ⟨q, hq, e⟩ => by have := (b1 hq).1; omega
  have o2' := (o2.nos m19).keep mm1 fun q hq ⟨q', hq', e⟩ => hne q' q hq' hq e.symm
  refine ⟨_, _, _, w20, run1, _, _, _, rfl, _, _, _, _, builtI _ _, ?_⟩
  have hz2 := mm1.size
  have m21 : Mod No w20 (w20.alloc (.cells ⟨[.int .i64 (j : Int)]⟩ 3)) := (Mod.refl No w20).alloc _
  have r21 : Row (w20.alloc (.cells ⟨[.int .i64 (j : Int)]⟩ 3)) (some ⟨w20.heap.size, 0, none⟩) (iL [(j : Int)]) := .inr ⟨_, _, rfl, AtU.new.at⟩
  generalize w20.alloc (.cells ⟨[.int .i64 (j : Int)]⟩ 3) = w21 at *
  have hz3 := m21.size
  obtain ⟨q2, c2, w22, run2, p2, mm2, hq2⟩ := (o2'.nos m21).appG (ty := 23) (m := 1) (c2 := 1) elemG_ints (by omega) r21 rfl (by omega) (one_iL _) (by omega) (by omega) (by omega)
  have hz4 := mm2.size
  have hd : q1.block ≠ q2.block := by
    rcases hq2 with ⟨q', hq', e⟩ | e
    · rcases hq1 with ⟨q'', hq'', e2⟩ | e2
      · rw [e, e2]; exact hne _ _ hq'' hq'
      · have := (b2 hq').2; omega
    · omega
  refine ⟨_, _, _, w22, run2, ⟨js ++ [j], some q1, some q2, c1, c2, y0, by simp, by simp; omega, fun i hi => ?_, ?_, ?_, fun q q' e e' => ?_, ?_⟩, by simp [nI, nth]; omega⟩
  · rcases List.mem_append.1 hi with h | h
    · exact hjs i h
    · rw [List.mem_singleton.1 h]; exact hj
  · have := (p1.nos m21).keep mm2 fun q hq ⟨q', hq', e⟩ => by
      cases hq
      rcases hq1 with ⟨q'', hq'', e2⟩ | e2
      · exact hne _ _ hq'' hq' (by rw [← e2]; exact e)
      · have := (b2 hq').2; omega
    simpa [iL] using this
  · simpa [iL, nI'] using p2
  · cases e; cases e'; exact hd
  · exact (M20.no m21).trans mm2 fun x hx ⟨q, hq, e⟩ => by have := (b2 hq).1; omega
/-- A change more in the law's row. -/
theorem MR.add {Z : World → Value → Prop} {b l14 c14 : Nat} {js : List Nat} {a14 : Option Addr} (h : MR R base w la lc ms) (hsm : ms.length < 60) (hb : base ≤ w.heap.size) (hlo : ∀ x, R x → x < w.heap.size) (hl : js.length = l14) (hr : Row w a14 (iL (nI' js)))
    (hno : js ≠ [] → ∀ q, a14 = some q → ¬ R q.block ∧ ¬ Of la q.block)
    (hk : ∀ w' la' lc', MR R base w' la' lc' (ms ++ [⟨b, js⟩]) → Mod (Of la) w w' → Z w' (.slice la' (ms.length + 1) lc')) :
    ∃ g134 : Array Value, Al (Instr.build 42 #[(0, .int .i64 b), (1, .int .i64 ((ms.length : Int))), (2, .slice a14 l14 c14)]) (.agg g134) ∧ ∃ (a135 : Option Addr) (l135 c135 : Nat), ∃ w26 : World, Ru (Instr.buildSlice 31 1 #[(0, .agg g134)]) w (.slice a135 l135 c135) w26 ∧
      ∃ (a136 : Option Addr) (l136 c136 : Nat), ∃ w27 : World, Ru (Builtin.append_ #[31, 31] 31 #[.slice la ms.length lc, .slice a135 l135 c135]) w26 (.slice a136 l136 c136) w27 ∧ Z w27 (.slice a136 l136 c136) := by
  subst hl
  refine ⟨_, fun w => build_mark w _ _ _ _ _, _, _, _, _, built_mark _ _ _ _ _ _, ?_⟩
  have m1 : Mod No w (w.alloc (.cells ⟨[.int .i64 b, .int .i64 ms.length, .slice a14 js.length c14]⟩ 42)) := (Mod.refl No w).alloc _
  have r1 : Row (w.alloc (.cells ⟨[.int .i64 b, .int .i64 ms.length, .slice a14 js.length c14]⟩ 42)) (some ⟨w.heap.size, 0, none⟩) [.int .i64 b, .int .i64 ms.length, .slice a14 js.length c14] := .inr ⟨_, _, rfl, AtU.new.at⟩
  generalize w.alloc (.cells ⟨[.int .i64 b, .int .i64 ms.length, .slice a14 js.length c14]⟩ 42) = w1 at *
  have hz1 := m1.size
  obtain ⟨⟨H, h1, h2, h3⟩, h4⟩ := h
  have hbse : ∀ {q}, la = some q → _ := fun {q} hq => h1.base (q := q) hq
  obtain ⟨q, c', w2, run, p, mm, hq⟩ := (h1.nos m1).appG (ty := 31) (m := 1) (c2 := 1) elemG_mark (by omega) r1 rfl (by omega) (by intro v hv; simp at hv; rcases hv with rfl | rfl | rfl <;> rfl) (by omega) (by omega) (by omega)
  have hof : ∀ x, (∃ q, la = some q ∧ x = q.block) → Of la x := fun x e => e
  have hql : ∀ x, Of (some q) x → Of la x ∨ w1.heap.size ≤ x := fun x ⟨q2, e1, e⟩ => by
    have e : x = q.block := by rw [e, Option.some.inj e1]
    rcases hq with ⟨q', hq', e2⟩ | e2
    · exact .inl ⟨q', hq', by rw [e, e2]⟩
    · exact .inr (by omega)
  refine ⟨_, _, _, w2, run, hk w2 _ _ ⟨⟨H ++ [[.int .i64 b, .int .i64 ms.length, .slice a14 js.length c14]], by simpa using p, by simp [h2], fun k m hk' => ?_⟩, fun q' hq' e => ?_⟩ ((Mod.refl (Of la) w).no m1 |>.trans mm fun x hx e => hof _ e)⟩
  · by_cases hkl : k < ms.length
    · rw [List.getElem?_append_left hkl] at hk'
      obtain ⟨aa, ac, e1, e2, e3⟩ := h3 k m hk'
      refine ⟨aa, ac, by rw [List.getElem?_append_left (by omega)]; exact e1, ?_, fun hne q' hq' => ⟨(e3 hne q' hq').1, fun e => ?_⟩⟩
      · by_cases hne : m.after = []
        · rw [hne]; exact .inl rfl
        · exact (e2.nos m1).keep mm fun q' hq' e => (e3 hne q' hq').2 (hof _ e)
      · have hlt : q'.block < w.heap.size := Row.lt e2 (iL_ne (fun e => hne (by unfold nI' at e; exact List.map_eq_nil_iff.1 e))) hq'
        rcases hql _ e with e | e
        · exact (e3 hne q' hq').2 e
        · omega
    · have hk2 := (List.getElem?_eq_some_iff.1 hk').1
      simp at hk2
      have : k = ms.length := by omega
      subst this
      rw [List.getElem?_append_right (Nat.le_refl _), Nat.sub_self] at hk'
      have hk' : (⟨b, js⟩ : Mk) = m := Option.some.inj hk'
      subst hk'
      refine ⟨a14, c14, by rw [List.getElem?_append_right (by omega), h2, Nat.sub_self]; rfl, ?_, fun hne q' hq' => ⟨(hno hne q' hq').1, fun e => ?_⟩⟩
      · by_cases hne : js = []
        · subst hne; exact .inl rfl
        · exact (hr.nos m1).keep mm fun q' hq' e => (hno hne q' hq').2 (hof _ e)
      · have hlt : q'.block < w.heap.size := Row.lt hr (iL_ne (fun e => hne (by unfold nI' at e; exact List.map_eq_nil_iff.1 e))) hq'
        rcases hql _ e with e | e
        · exact (hno hne q' hq').2 e
        · omega
  · cases hq'
    rcases hq with ⟨q', hq', e2⟩ | e2
    · exact h4 q' hq' (by rw [← e2]; exact e)
    · have := hlo _ e; omega

theorem PatchOrder_c {a0 a1 : Option Addr} {l0 c0 l1 c1 : Nat} {acts : List A6} {pick : List Int} (hl : acts.length = l0) (ha : Acts6 w a0 acts) (hp : pick.length = l1) (hpr : Row w a1 (iL pick)) (hp63 : l1 ≤ 9223372036854775807) :
    Cal Try.prog F_leveelaw11_PatchOrder #[.slice a0 l0 c0, .slice a1 l1 c1] w (fun v w' => v = .bool true ∧ Mod No w w') := by
  apply C_leveelaw11_PatchOrder
  unfold D_leveelaw11_PatchOrder
  refine New_c (n := 5) (by omega) (by omega) (fun h => by omega) fun k hk' _ _ w1 d sb mb m1 h1 => ⟨_, _, rfl, ?_⟩
  have : k = 5 := by omega
  subst this
  have hsm : Small (newSt 5) := Small.one (sm _ (by decide +kernel))
  refine qNew_c (w0 := w) (k := 5) h1 hsm (fun x hx => hx) m1 rfl (by omega) (by omega) (by simp [newSt]) fun w2 sp m2 z2 => ⟨_, _, rfl, Share.dup (ff rfl ⟨_, rfl, ff rfl ?_⟩)⟩
  refine ⟨fun x w4 => ∃ (i : Nat) (z y2 y3 y4 y5 y6 y7 y8 y9 : Value), x = [z, .int .i64 i, y2, y3, y4, y5, y6, y7, y8, y9] ∧ i ≤ 60 ∧ OSt w sp d i z w4, fun x _ => (60 - nI x 1).toNat,
    ⟨0, _, _, _, _, _, _, _, _, _, rfl, by omega, _, zeroV 5 5, [], none, 0, rfl, Nat.le_refl _, ?_, ?_, z2, ⟨⟨[], Own.nilG elemG_mark, rfl, fun k m h => by simp at h⟩, fun q hq => by cases hq⟩, fun m h => by cases h⟩, ?_⟩
  · refine ⟨rfl, rfl, (by simp), (fun k m h => by simp at h), (fun x hx => by cases hx), (fun k m h => by simp at h), (fun b hb v hv => ⟨(fun k m h => by simp at h), (fun k _ e => ?_)⟩), (fun o ho => by cases ho), (fun o ho => by cases ho)⟩
    have hv : v ∈ verOf (newSt 5) b := hv
    rw [ver_at (show b < (newSt 5).vs.length from hb)] at hv
    rw [List.eq_of_mem_replicate (show (newSt 5).vs[b] ∈ List.replicate 5 [zeroB] from List.getElem_mem _)] at hv
    have hv : v = List.replicate 256 0 := List.mem_singleton.1 hv
    subst hv
    rw [List.getElem?_replicate] at e
    split at e <;> simp at e
  · intro v hv
    have hv : v ∈ (newSt 5).vs := hv
    rw [List.eq_of_mem_replicate hv]; simp
  rintro x w5 ⟨i, z, y2, y3, y4, y5, y6, y7, y8, y9, rfl, hi60, hO⟩
  refine Share.cut (fun z w6 => w5 = w6 ∧ z = [.bool (decide (i < l0 ∧ i < 60))]) ⟨_, rfl, cond_of (fun hb => ⟨rfl, ?_⟩) (fun hb => ⟨rfl, ?_⟩)⟩ ?_
  · have := of_decide_eq_true hb
    congr 2; rw [Bool.eq_iff_iff]; simp only [decide_eq_true_eq]; omega
  · have := of_decide_eq_false hb
    congr 2; rw [Bool.eq_iff_iff]; simp; omega
  rintro zz w6 ⟨rfl, rfl⟩
  obtain ⟨R, V, ms, la, lc, rfl, hmi, hOrd, hB, z5, hR5, h4⟩ := hO
  have hM5 := z5.mod
  have hwf5 := z5.wf
  have hlo5 := z5.lo
  have hww := hM5.size
  have hlast := hOrd.last
  have hbla : ∀ q, la = some q → w.heap.size ≤ q.block ∧ q.block < w5.heap.size := fun q hq => by
    obtain ⟨⟨H, o, _⟩, _⟩ := hR5
    exact o.base hq
  refine ⟨_, rfl, cond_of (fun hb => ?_) (fun hb => ?_)⟩
  · -- a call
    obtain ⟨hil, hi4⟩ := of_decide_eq_true hb
    have hia : i < acts.length := by omega
    obtain ⟨q, hidx, cs, hfit, hload⟩ := ha.get (i := i) (cc := c0) hM5 hl (List.getElem?_eq_getElem hia)
    have hst := store_act6 (w := w5) hfit
    refine ⟨_, rfl, q, hidx, ⟨cs⟩, hload, _, _, alloc_act6 _, _, hst, ?_⟩
    obtain ⟨ad, cd, aa, ca, rfl, had, hadn, had63, haa, haa63⟩ := hfit
    generalize acts[i] = A at *
    have m7 : Mod No w5 (w5.alloc (.cells ⟨[.int .i64 A.k, .int .i64 A.n, .int .i64 A.f, .slice ad A.xs.length cd, .slice aa A.af.length ca, .bool A.raw]⟩ 35)) := (Mod.refl No w5).alloc _
    have a7 : At (w5.alloc (.cells ⟨[.int .i64 A.k, .int .i64 A.n, .int .i64 A.f, .slice ad A.xs.length cd, .slice aa A.af.length ca, .bool A.raw]⟩ 35)) w5.heap.size 0 [.int .i64 A.k, .int .i64 A.n, .int .i64 A.f, .slice ad A.xs.length cd, .slice aa A.af.length ca, .bool A.raw] := AtU.new.at
    generalize w5.alloc (.cells ⟨[.int .i64 A.k, .int .i64 A.n, .int .i64 A.f, .slice ad A.xs.length cd, .slice aa A.af.length ca, .bool A.raw]⟩ 35) = w7 at *
    have hz7 := m7.size
    have z7 := z5.nos m7
    have r7 := hR5.nos m7
    have haa7 := (haa.nos hM5).nos m7
    have l7 : ∀ {w2 : World}, Mod No w7 w2 → ∀ (j : Nat) (v : Value) (T : TypeId), scal Try.prog T = true → ([.int .i64 A.k, .int .i64 A.n, .int .i64 A.f, .slice ad A.xs.length cd, .slice aa A.af.length ca, .bool A.raw] : List Value)[j]? = some v → Ru (Instr.loadAt T (.pointer (some (Addr.add ⟨w5.heap.size, 0, none⟩ j)))) w2 v w2 := by
      intro w2 k j v T hT hj
      rw [add_none]; exact (a7.keep k id).load hT hj
    refine ⟨_, l7 (Mod.refl _ _) 1 _ _ (by kernel_rfl) rfl, Count_c (by omega) (by omega) ⟨_, rfl, _, l7 (Mod.refl _ _) 0 _ _ (by kernel_rfl) rfl, ?_⟩⟩
    obtain ⟨b, hbe⟩ := Int.eq_ofNat_of_zero_le (show 0 ≤ A.n % 5 from Int.emod_nonneg _ (by omega))
    have hb5 : b < 5 := by have := Int.emod_lt_of_pos A.n (show (0 : Int) < 5 by omega); omega
    rw [hbe]
    refine Share.cut (fun z w11 => w7 = w11 ∧ z = [.bool (decide (A.k = 5 ∨ A.k = 6))]) (cond_of (fun hb => ⟨rfl, ?_⟩) (fun hb => ⟨rfl, ?_⟩)) ?_
    · have : A.k = 5 := by simpa using hb
      simp [this]
    · have : ¬ A.k = 5 := by simpa using hb
      simp [this]; rfl
    rintro zz w9 ⟨rfl, rfl⟩
    refine ⟨_, rfl, Share.cut (fun z w30 => ∃ z0 y1 y2 y3 y4 y5 y6, z = [z0, y1, y2, y3, y4, y5, y6] ∧ OSt w sp d (i + 1) z0 w30) (cond_of (fun hb => ?_) (fun hb => Share.dup (cond_of (fun hb => ?_) (fun hb => ?_)))) ?_⟩
    · refine qWrite_c z7 (fun v hv => by have := hB v hv; omega) fun w10 m10 z10 => ⟨_, rfl, _, _, _, _, _, _, _, rfl, _, _, ms, la, lc, rfl, by omega, hOrd.wr hwf5.1 hwf5.2.2.2.1 hwf5.2.2.2.2 _, ?_, z10, r7.step m10, h4⟩
      unfold wrV
      split
      · exact Bnd_wr hB _ _
      · exact hB.mono (by omega)
    · refine qFlush_c z7 fun w11 m11 z11 => ⟨_, rfl, _, _, _, _, _, _, _, rfl, _, _, ms, la, lc, rfl, by omega, hOrd.fl hwf5.1 hwf5.2.2.2.1 hwf5.2.2.2.2 z5.ord, Bnd_fl hwf5.2.2.2.1 (by omega), z11, r7.step m11, h4⟩
    · refine Share.cut (fun z w11 => w7 = w11 ∧ ∃ b : Bool, z = [.bool b]) (cond_of (fun hb => ⟨rfl, _, rfl⟩) (fun hb => Share.dup (cond_of (fun hb => ⟨rfl, _, rfl⟩) (fun hb => Share.dup (cond_of (fun hb => ⟨rfl, _, rfl⟩) (fun hb => Share.dup (cond_of (fun hb => ⟨rfl, _, rfl⟩) (fun hb => ⟨rfl, _, rfl⟩)))))))) ?_
      rintro zz w15 ⟨rfl, b70, rfl⟩
      refine ⟨_, rfl, Share.dup (cond_of (fun hb => ?_) (fun hb => ⟨_, _, _, _, _, _, _, rfl, OSt.up ⟨R, V, ms, la, lc, rfl, hmi, hOrd, hB, z7, r7, h4⟩⟩))⟩
      refine ⟨fun x w16 => Ahd w7 ms.length x w16, fun x _ => (4 - nI x 2).toNat, ⟨[], none, none, 0, 0, _, rfl, by simp, by simp, Own.nilG elemG_ids, Own.nilG elemG_ints, (fun q q' h => by cases h), Mod.refl _ _⟩, ?_⟩
      rintro x w16 ⟨js, a13, a14, c13, c14, y, rfl, hj4, hjs, o1, o2, hne, hM16⟩
      refine Share.cut (fun z w11 => w16 = w11 ∧ z = [.bool (decide (js.length < A.af.length ∧ js.length < 4 ∧ 0 < ms.length))]) ⟨_, rfl, _, _, _, l7 hM16 4 _ _ (by kernel_rfl) rfl, cond_of (fun hb => cond_of (fun hb2 => ⟨_, _, _, rfl, rfl, ?_⟩) (fun hb2 => ⟨rfl, ?_⟩)) (fun hb => ⟨rfl, ?_⟩)⟩ ?_
      · have h1 := of_decide_eq_true hb
        have h2 := of_decide_eq_true hb2
        exact bcell (by omega)
      · have h2 := of_decide_eq_false hb2
        exact bcellF (by omega)
      · have h2 := of_decide_eq_false hb
        exact bcellF (by omega)
      rintro zz w17 ⟨rfl, rfl⟩
      have z16 := z7.nos hM16
      refine ⟨_, rfl, cond_of (fun hb => ?_) (fun hb => ?_)⟩
      · obtain ⟨g1, g2, g3⟩ := of_decide_eq_true hb
        obtain ⟨b4, o4, rfl, hat4⟩ := row_some (haa7.nos hM16) g1
        refine ⟨_, _, _, l7 hM16 4 _ _ (by kernel_rfl) rfl, _, rfl, _, index_slice (k := 1) (by kernel_rfl) (by omega) (by omega), ?_⟩
        rw [add_none, show (js.length : Int).toNat * 1 = js.length by omega]
        refine ⟨_, hat4.load (by kernel_rfl) (iL_get g1), _, _, _, rfl, Count_c (by omega) (by omega) ⟨_, rfl, _, _, _, rfl, ?_⟩⟩
        obtain ⟨j, hje⟩ := Int.eq_ofNat_of_zero_le (show 0 ≤ (A.af[js.length].tmod 1000) % (ms.length : Int) from Int.emod_nonneg _ (by omega))
        have hjl : j < ms.length := by have := Int.emod_lt_of_pos (A.af[js.length].tmod 1000) (show (0 : Int) < (ms.length : Int) by omega); omega
        rw [hje, wrap64 (x := (j : Int) + 1) (by omega) (by omega), show ((j : Int) + 1) = ((j + 1 : Nat) : Int) by omega, wrap64 (x := (js.length : Int) + 1) (by omega) (by omega), show ((js.length : Int) + 1) = ((js.length + 1 : Nat) : Int) by omega]
        exact Ahd.next g2 hjs hjl o1 o2 hne hM16
      · clear hb
        refine ⟨_, _, _, rfl, _, _, _, _, built1 _ _, _, _, _, rfl, ?_⟩
        have m23 : Mod No w16 (w16.alloc (.cells ⟨[.int .u8 1]⟩ 5)) := (Mod.refl No w16).alloc _
        have a23 : At (w16.alloc (.cells ⟨[.int .u8 1]⟩ 5)) w16.heap.size 0 (u8L [1]) := AtU.new.at
        generalize w16.alloc (.cells ⟨[.int .u8 1]⟩ 5) = w23 at *
        have hz16 := hM16.size
        have hz23 := m23.size
        have z23 := z16.nos m23
        have hb1 : ∀ {q}, a13 = some q → _ := fun {q} hq => o1.base (q := q) hq
        have hb2 : ∀ {q}, a14 = some q → _ := fun {q} hq => o2.base (q := q) hq
        have hms60 : ms.length < 60 := by omega
        have hE := patE_ok (b := b) (js := js) hOrd hb5 hjs hms60
        refine qPatch_c (n := (b : Int)) (frm := (ms.length : Int)) (data := [1]) (after := js.map fun j => ((j + 1 : Nat) : Int)) z23 (by omega) rfl (.inr ⟨_, _, rfl, a23⟩) (fun _ q hq hR => by cases hq; have := (hlo5 _ hR).2; simp only at this; omega) (by omega) (by simp) (by omega) ((o1.nos m23).rowU.row) (fun _ q hq hR => by have := (hb1 hq).1; have := (hlo5 _ hR).2; omega) fun w24 m24 z24 => ⟨_, _, rfl, ?_⟩
        have hN : patN V (b : Int) (ms.length : Int) [1] (js.map fun j => ((j + 1 : Nat) : Int)) = ((ms.length + 1 : Nat) : Int) := by unfold patN; rw [if_pos hE, hlast]
        have hS : patS V (b : Int) (ms.length : Int) [1] (js.map fun j => ((j + 1 : Nat) : Int)) = addX V (newX V b ms.length [1] (js.map fun j => ((j + 1 : Nat) : Int))) := by unfold patS; rw [if_pos hE]; rfl
        rw [hE, hN]
        rw [hS] at z24
        refine Share.dup (ff rfl ⟨_, rfl, ff ?_ ?_⟩)
        · rw [wrap64 (x := (ms.length : Int) + 1) (by omega) (by omega)]; simp
        refine ⟨_, _, _, rfl, ?_⟩
        have hz24 := m24.size
        have r24 := ((r7.nos hM16).nos m23).step m24
        have hno14 : ∀ q, a14 = some q → ¬ Gro R w23 w24 q.block := fun q hq e => by
          have := hb2 hq
          rcases e with e | e
          · have := (hlo5 _ e).2; omega
          · omega
        refine MR.add (Z := fun w27 v => ∃ z0 y1 y2 y3 y4 y5 y6, [v, _, _, _, _, _, _] = [z0, y1, y2, y3, y4, y5, y6] ∧ OSt w sp d (i + 1) z0 w27) r24 hms60 (by omega) (fun x e => (z24.lo x e).2) rfl (Row.keep2 (o2.nos m23).rowU.row m24 fun q hq _ e => by have := (hb2 hq).1; have := (hlo5 _ e).2; omega)
          (fun _ q hq => ⟨hno14 q hq, fun ⟨q', hq', e⟩ => by have := (hb2 hq).1; have := (hbla q' hq').2; omega⟩) fun w27 la' lc' r27 m27 => ?_
        refine ⟨_, _, _, _, _, _, _, rfl, Gro R w23 w24, _, ms ++ [⟨b, js⟩], la', lc', by simp, by simp; omega, hOrd.add hwf5.1 hwf5.2.2.2.2 hwf5.2.1 hb5 hjs hms60, ?_, ?_, r27, fun m hm => ?_⟩
        · have : (addX V (newX V b ms.length [1] (js.map fun j => ((j + 1 : Nat) : Int)))).C = V.C := by unfold addX appO; exact newO_C.1
          rw [this]; exact hB.mono (by omega)
        · exact z24.keep m27 (fun x hx ⟨q, hq, e⟩ => by
            subst e
            rcases hx with hx | hx
            · exact hR5.nr q hq hx
            · have := (hbla q hq).2; omega) fun x hx ⟨q, hq, e⟩ => by subst e; have := (hbla q hq).1; omega
        · rcases List.mem_append.1 hm with hm | hm
          · exact h4 m hm
          · rw [List.mem_singleton.1 hm]; exact hj4
    rintro zz w30 ⟨z0, y1', y2', y3', y4', y5', y6', rfl, hO'⟩
    rw [wrap64 (x := (i : Int) + 1) (by omega) (by omega)]
    exact ⟨⟨i + 1, _, _, _, _, _, _, _, _, _, rfl, by omega, hO'⟩, by simp [nI, nth]; omega⟩
  -- the power goes
  clear hb
  have hn60 : ms.length ≤ 60 := hOrd.small
  obtain ⟨w31, mk31, s31, m31, _⟩ := makeSlice_run (P := Try.prog) (w := w5) (n := ms.length) elemZ_bool (by omega) (by omega) (by omega)
  refine ⟨_, _, _, rfl, _, _, _, w31, mk31, ?_⟩
  have hz31 := m31.size
  have z31 := z5.nos m31
  have r31 := hR5.nos m31
  have hgR : ¬ R w5.heap.size := fun e => by have := (hlo5 _ e).2; omega
  have hM31 := hM5.no m31
  clear z31 r31
  refine ⟨fun x w32 => ∃ (k : Nat) (ss : List Bool), x = [.int .i64 k] ∧ k ≤ ms.length ∧ ss.length = ms.length ∧ (∀ j, j < k → ss[j]? = some (safeV V ((j + 1 : Nat) : Int))) ∧ AtU w32 w5.heap.size 0 (bL ss) ∧ Mod No w5 w32, fun x _ => (ms.length - nI x 0).toNat,
    ⟨0, List.replicate ms.length false, rfl, by omega, by simp, fun j hj => by omega, by unfold bL; rw [List.map_replicate]; rw [Nat.mul_one] at s31; exact s31, m31⟩, ?_⟩
  clear m31 s31 mk31 hz31 hM31
  rintro x w32 ⟨k, ss, rfl, hkn, hsl, hss, a32, m32⟩
  have z32 := z5.nos m32
  refine ⟨_, rfl, cond_of (fun hb => ?_) (fun hb => ?_)⟩
  · have hkn : k < ms.length := by have := of_decide_eq_true hb; omega
    rw [wrap64 (x := (k : Int) + 1) (by omega) (by omega), show ((k : Int) + 1) = ((k + 1 : Nat) : Int) by omega]
    refine qSafe_c z32 ⟨_, rfl, _, index_slice (k := 1) (by kernel_rfl) (by omega) (by omega), ?_⟩
    rw [add_none, show (k : Int).toNat * 1 = k by omega]
    obtain ⟨w34, st, a34, m34, _⟩ := a32.store (P := Try.prog) (T := 4) (i := k) (v := .bool (safeV V ((k + 1 : Nat) : Int))) (by kernel_rfl) (by simp; omega) rfl
    refine ⟨w34, st, ⟨k + 1, ss.set k (safeV V ((k + 1 : Nat) : Int)), rfl, by omega, by simpa using hsl, fun j hj => ?_, ?_, m32.trans m34 fun x hx e => by have e : x = w5.heap.size := e; omega⟩, by simp [nI, nth]; omega⟩
    · by_cases e : j = k
      · subst e; rw [List.getElem?_set_self (by omega)]
      · rw [List.getElem?_set_ne (fun e' => e e'.symm)]; exact hss j (by omega)
    · unfold bL at a34 ⊢; rw [List.map_set]; exact a34
  have hkn : k = ms.length := by have := of_decide_eq_false hb; omega
  subst hkn
  clear hb
  refine qCrash_c z32 hp (hpr.nos (hM5.no m32)) (fun hne q hq hR => by have := Row.lt hpr (iL_ne hne) hq; have := (hlo5 _ hR).1; omega) hp63 fun w35 R4 sb mb sc m35 hR4 d35 => ⟨rfl, ?_⟩
  have r35 := (hR5.nos m32).step m35
  have a35 := a32.keep m35 hgR
  have hz32 := m32.size
  have hz35 := m35.size
  have M35 : Mod No w w35 := (hM5.no m32).trans m35 fun x hx e => by have := (hlo5 _ e).1; omega
  obtain ⟨w36, mk36, s36, m36, _⟩ := makeSlice_run (P := Try.prog) (w := w35) (n := ms.length) elemZ_bool (by omega) (by omega) (by omega)
  refine ⟨_, _, _, w36, mk36, ?_⟩
  refine ⟨fun x w37 => ∃ (i : Nat) (os : List Bool) (y1 y2 y3 : Value), x = [.int .i64 i, y1, y2, y3] ∧ i ≤ ms.length ∧ os.length = ms.length ∧ (∀ j, j < i → os[j]? = some (onB (crSt V.C.D pick) ms j)) ∧ AtU w37 w35.heap.size 0 (bL os) ∧ Mod No w35 w37, fun x _ => (ms.length - nI x 0).toNat,
    ⟨0, List.replicate ms.length false, _, _, _, rfl, by omega, by simp, fun j hj => by omega, by unfold bL; rw [List.map_replicate]; rw [Nat.mul_one] at s36; exact s36, m36⟩, ?_⟩
  clear m36 s36 mk36
  have hf : ∀ b : Nat, b < 5 → rdB (crSt V.C.D pick) b ∈ verOf V.C.D b := fun b hb => crSt_mem hwf5.2.2.2.2 (by rw [hOrd.len]; exact hb)
  have hend := fun (k : Nat) (m : Mk) (hm : ms[k]? = some m) => hOrd.end (f := fun b => rdB (crSt V.C.D pick) (b : Int)) hf hm
  rintro x w37 ⟨i, os, y1, y2, y3, rfl, hin, hol, hos, a37, m37⟩
  have d37 := d35.nos m37
  have r37 := r35.nos m37
  refine ⟨_, rfl, cond_of (fun hb => ?_) (fun hb => known11_c fun w43 m43 => ⟨_, rfl, rfl, (M35.no m37).no m43⟩)⟩
  have hin : i < ms.length := by have := of_decide_eq_true hb; omega
  have hmi' := List.getElem?_eq_getElem hin
  generalize hme : ms[i] = m at hmi'
  obtain ⟨g, aa, ac, hla, hix, ld0, ld1, ld2, hra⟩ := r37.get hmi'
  have hmb := hOrd.mk_ i m hmi'
  have hm4 := h4 m (List.mem_of_getElem? hmi')
  refine ⟨_, hix, _, ld0, Read_c (n := (m.b : Int)) d37 crSt_small fun w38 a172 c172 m38 f38 => ⟨_, _, _, _, rfl, _, hix, (i : Int), ?_, ?_⟩⟩
  · obtain ⟨_, _, _, hla2, _, _, ld1', _⟩ := (r37.nos m38).get hmi'
    rw [hla] at hla2
    cases hla2
    exact ld1'
  have hlen256 : (rdB (crSt V.C.D pick) (m.b : Int)).length = 256 := by
    have hv := hf m.b hmb.1
    have hlt : m.b < V.C.D.vs.length := by rw [hOrd.len]; exact hmb.1
    rw [ver_at hlt] at hv
    exact (hwf5.2.2.2.2.ver _ (List.getElem_mem hlt)).2 _ hv
  have hi256 : i < (rdB (crSt V.C.D pick) (m.b : Int)).length := by omega
  obtain ⟨qx, rfl, hqx, hatx⟩ : ∃ q, a172 = some ⟨q, 0, none⟩ ∧ w37.heap.size ≤ q ∧ AtU w38 q 0 (u8L (rdB (crSt V.C.D pick) (m.b : Int))) := by
    rcases f38 with ⟨_, e⟩ | h
    · rw [e] at hi256; simp at hi256
    · exact h
  refine ⟨_, index_slice (k := 1) (by kernel_rfl) (by omega) (by omega), ?_⟩
  rw [add_none, show (i : Int).toNat * 1 = i by omega]
  refine ⟨_, hatx.at.load (by kernel_rfl) (u8L_get hi256), _, index_slice (k := 1) (by kernel_rfl) (by omega) (by omega), ?_⟩
  rw [add_none, show (i : Int).toNat * 1 = i by omega]
  have hon : ((((rdB (crSt V.C.D pick) (m.b : Int))[i].toNat : Int)) == 1) = onB (crSt V.C.D pick) ms i := by
    unfold onB
    rw [hmi']
    show _ = decide ((rdB (crSt V.C.D pick) (m.b : Int))[i]? = some 1)
    rw [List.getElem?_eq_getElem hi256, Bool.eq_iff_iff]
    simp only [beq_iff_eq, decide_eq_true_eq, Option.some.injEq]
    constructor
    · intro e
      have : (rdB (crSt V.C.D pick) (m.b : Int))[i].toNat = (1 : UInt8).toNat := by have := (Int.ofNat_inj (n := 1)).1 e; exact this
      exact UInt8.toNat_inj.1 this
    · intro e; rw [e]; rfl
  rw [hon]
  obtain ⟨w39, st, a39, m39, _⟩ := (a37.keep m38 id).store (P := Try.prog) (T := 4) (i := i) (v := .bool (onB (crSt V.C.D pick) ms i)) (by kernel_rfl) (by simp; omega) rfl
  have hz37 := m37.size
  have hz38 := m38.size
  have M39 : Mod No w35 w39 := (m37.no m38).trans m39 fun x hx e => by have e : x = w35.heap.size := e; omega
  have a39' : AtU w39 w35.heap.size 0 (bL (os.set i (onB (crSt V.C.D pick) ms i))) := by unfold bL at a39 ⊢; rw [List.map_set]; exact a39
  have hos' : ∀ j, j < i + 1 → (os.set i (onB (crSt V.C.D pick) ms i))[j]? = some (onB (crSt V.C.D pick) ms j) := fun j hj => by
    by_cases e : j = i
    · subst e; rw [List.getElem?_set_self (by omega)]
    · rw [List.getElem?_set_ne (fun e' => e e'.symm)]; exact hos j (by omega)
  have hol' : (os.set i (onB (crSt V.C.D pick) ms i)).length = ms.length := by simpa using hol
  generalize os.set i (onB (crSt V.C.D pick) ms i) = os' at *
  clear a39 a37 hol hos
  have s39 := a35.keep M39 id
  have r39 := r35.nos M39
  have ldb : ∀ {g : Nat} {bs : List Bool} {j : Nat} {b : Bool} (_ : AtU w39 g 0 (bL bs)), bs[j]? = some b → Ru (Instr.loadAt 4 (.pointer (some ⟨g, j, none⟩))) w39 (.bool b) w39 := by
    intro g bs j b hat hj
    have := hat.at.load (P := Try.prog) (T := 4) (i := j) (v := .bool b) (by kernel_rfl) (by unfold bL; rw [List.getElem?_map, hj]; rfl)
    rwa [Nat.zero_add] at this
  refine ⟨w39, st, Share.cut (fun z w40 => w39 = w40 ∧ z = [.bool false]) ⟨_, index_slice (k := 1) (by kernel_rfl) (by omega) (by omega), ?_⟩ ?_⟩
  · rw [add_none, show 0 + (i : Int).toNat * 1 = i by omega]
    refine ⟨_, ldb s39 (hss i hin), cond_of (fun hb => ⟨_, index_slice (k := 1) (by kernel_rfl) (by omega) (by omega), ?_⟩) (fun hb => ⟨rfl, rfl⟩)⟩
    rw [add_none, show 0 + (i : Int).toNat * 1 = i by omega]
    refine ⟨_, ldb a39' (hos' i (by omega)), rfl, ?_⟩
    have : onB (crSt V.C.D pick) ms i = true := by
      unfold onB; rw [hmi']
      refine decide_eq_true ((hend i m hmi').1 ?_)
      unfold safeV at hb
      simp only [Bool.and_eq_true, Bool.not_eq_true'] at hb
      exact hb.2
    rw [this]; rfl
  rintro zz w40 ⟨rfl, rfl⟩
  refine ⟨_, rfl, ff rfl ⟨fun x w41 => w39 = w41 ∧ ∃ (k : Nat) (y : Value), x = [.int .i64 k, y] ∧ k ≤ m.after.length, fun x _ => (m.after.length - nI x 0).toNat, ⟨rfl, 0, _, rfl, by omega⟩, ?_⟩⟩
  rintro x w41 ⟨rfl, k, y, rfl, hk⟩
  obtain ⟨g', aa', ac', hla', hix', _, _, ld2', hra'⟩ := r39.get hmi'
  refine ⟨_, rfl, _, hix', _, _, _, ld2', cond_of (fun hb => ?_) (fun hb => ?_)⟩
  · have hk : k < m.after.length := by have := of_decide_eq_true hb; omega
    have hjlt := hmb.2 _ (List.getElem_mem hk)
    refine Share.cut (fun z w40 => w39 = w40 ∧ z = [.bool false]) ⟨_, index_slice (k := 1) (by kernel_rfl) (by omega) (by omega), ?_⟩ ?_
    · rw [add_none, show 0 + (i : Int).toNat * 1 = i by omega]
      refine ⟨_, ldb a39' (hos' i (by omega)), cond_of (fun hb => ⟨_, hix', _, _, _, ld2', ?_⟩) (fun hb => ⟨rfl, rfl⟩)⟩
      have hkn : k < (nI' m.after).length := by unfold nI'; simpa using hk
      obtain ⟨b4, o4, rfl, hat4⟩ := row_some hra' hkn
      refine ⟨_, index_slice (k := 1) (by kernel_rfl) (by omega) (by omega), ?_⟩
      rw [add_none, show (k : Int).toNat * 1 = k by omega]
      have hel : (nI' m.after)[k] = (m.after[k] : Int) := List.getElem_map _
      refine ⟨_, hat4.load (by kernel_rfl) (iL_get hkn), ?_⟩
      rw [hel]
      refine ⟨_, index_slice (k := 1) (by kernel_rfl) (by omega) (by omega), ?_⟩
      rw [add_none, show 0 + (m.after[k] : Int).toNat * 1 = m.after[k] by omega]
      refine ⟨_, ldb a39' (hos' _ (by omega)), rfl, ?_⟩
      have : onB (crSt V.C.D pick) ms m.after[k] = true := by
        unfold onB at hb
        rw [hmi'] at hb
        obtain ⟨m', h1, h2⟩ := (hend i m hmi').2 (of_decide_eq_true hb) _ (List.getElem_mem hk)
        unfold onB; rw [h1]; exact decide_eq_true h2
      rw [this]; rfl
    rintro zz w40 ⟨rfl, rfl⟩
    refine ⟨_, rfl, ff rfl ?_⟩
    rw [wrap64 (x := (k : Int) + 1) (by omega) (by omega)]
    exact ⟨⟨rfl, k + 1, _, rfl, by omega⟩, by simp [nI, nth]; omega⟩
  · rw [wrap64 (x := (i : Int) + 1) (by omega) (by omega)]
    exact ⟨⟨i + 1, os', _, _, _, rfl, by omega, hol', hos', a39', M39⟩, by simp [nI, nth]; omega⟩
end
end Go.Proofs.Ytocjjigmpgekfaa
