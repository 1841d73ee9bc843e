/- The statement PatchOrder: the law's text. -/
import Derived.Test.YtocjjigmpgekfaaPatV
import Derived.Test.YtocjjigmpgekfaaGrowG
import Derived.Test.YtocjjigmpgekfaaDiskS
open Go Go.Den Go.Proofs
namespace Go.Proofs.Ytocjjigmpgekfaa
def bL (bs : List Bool) : List Value := bs.map .bool
@[simp] theorem length_bL (bs : List Bool) : (bL bs).length = bs.length := by simp [bL]
theorem elemZ_bool : elemZ Try.prog 43 1 (.bool false) 1 := by unfold elemZ; kernel_rfl
theorem elemG_mark : elemG Try.prog 31 3 40 := elemG_of (by kernel_rfl)
theorem build_mark (w : World) (b k : Int) (a : Option Addr) (l c : Nat) : (Instr.build 42 #[(0, .int .i64 b), (1, .int .i64 k), (2, .slice a l c)]).run Try.prog w = .ok (.agg ⟨[.int .i64 b, .int .i64 k, .slice a l c]⟩) w := by kernel_rfl
theorem built_mark (w : World) (b k : Int) (a : Option Addr) (l c : Nat) : (Instr.buildSlice 31 1 #[(0, .agg ⟨[.int .i64 b, .int .i64 k, .slice a l c]⟩)]).run Try.prog w = .ok (.slice (some ⟨w.heap.size, 0, none⟩) 1 1) (w.alloc (.cells ⟨[.int .i64 b, .int .i64 k, .slice a l c]⟩ 42)) := by kernel_rfl
def nI' (js : List Nat) : List Int := js.map fun j : Nat => (j : Int)
/-- The law's row of changes made so far. -/
structure MR (R : Nat → Prop) (base : Nat) (w : World) (la : Option Addr) (lc : Nat) (ms : List Mk) : Prop where
  ex : ∃ H : List (List Value), Own Try.prog w base 31 3 la ms.length lc H.flatten ∧ H.length = ms.length ∧
    ∀ (k : Nat) (m : Mk), ms[k]? = some m → ∃ aa ac, H[k]? = some [.int .i64 m.b, .int .i64 k, .slice aa m.after.length ac] ∧ Row w aa (iL (nI' m.after)) ∧ (m.after ≠ [] → ∀ q, aa = some q → ¬ R q.block ∧ ¬ Of la q.block)
  nr : ∀ q, la = some q → ¬ R q.block
section
variable {w w' w0 : World} {R R' : Nat → Prop} {sp d base lc : Nat} {la : Option Addr} {ms : List Mk} {V : Ps} {K : Value → World → Prop}
theorem nI'_ne {js : List Nat} (h : iL (nI' js) ≠ []) : js ≠ [] := fun e => h (by rw [e]; rfl)
theorem MR.keep {S : Nat → Prop} (h : MR R base w la lc ms) (m : Mod S w w') (hS : ∀ x, S x → R x) (hR : ∀ x, x < w.heap.size → R' x → R x) : MR R' base w' la lc ms := by
  obtain ⟨⟨H, h1, h2, h3⟩, h4⟩ := h
  refine ⟨⟨H, h1.keep m fun q hq e => h4 q hq (hS _ e), h2, fun k mk hk => ?_⟩, fun q hq e => h4 q hq (hR _ (h1.base hq).2 e)⟩
  obtain ⟨aa, ac, e1, e2, e3⟩ := h3 k mk hk
  refine ⟨aa, ac, e1, ?_, fun hne q hq => ?_⟩
  · by_cases hn : mk.after = []
    · rw [hn]; exact .inl rfl
    · exact Row.keep2 e2 m fun q hq _ e => (e3 hn q hq).1 (hS _ e)
  · have hlt : q.block < w.heap.size := Row.lt e2 (iL_ne (fun e => hne (by
      unfold nI' at e
      exact List.map_eq_nil_iff.1 e))) hq
    exact ⟨fun e => (e3 hne q hq).1 (hR _ hlt e), (e3 hne q hq).2⟩
theorem MR.nos (h : MR R base w la lc ms) (m : Mod No w w') : MR R base w' la lc ms := h.keep m (fun _ e => e.elim) fun _ _ e => e
theorem MR.step (h : MR R base w la lc ms) (m : Mod R w w') : MR (Gro R w w') base w' la lc ms := h.keep m (fun _ e => e) fun x hx e => by
  rcases e with e | e
  · exact e
  · omega
theorem flat_get {H : List (List Value)} (hH : ∀ c ∈ H, c.length = 3) : ∀ {k j : Nat} {c : List Value} {v : Value}, H[k]? = some c → c[j]? = some v → H.flatten[k * 3 + j]? = some v := by
  induction H with
  | nil => intro k j c v h; simp at h
  | cons u r ih =>
    intro k j c v h hv
    have hu := hH u (by simp)
    rw [List.flatten_cons]
    cases k with
    | zero =>
      simp at h; subst h
      rw [Nat.zero_mul, Nat.zero_add, List.getElem?_append_left (by have := (List.getElem?_eq_some_iff.1 hv).1; omega)]; exact hv
    | succ k =>
      rw [List.getElem?_append_right (by omega)]
      have e : (k + 1) * 3 + j - u.length = k * 3 + j := by omega
      rw [e]; exact ih (fun c hc => hH c (by simp [hc])) (by simpa using h) hv
/-- A change's cells. -/
theorem MR.get {k : Nat} {m : Mk} (h : MR R base w la lc ms) (hk : ms[k]? = some m) : ∃ g aa ac, la = some ⟨g, 0, none⟩ ∧ Al (Instr.indexAt 31 (.slice la ms.length lc) (.int .i64 k)) (.pointer (some ⟨g, k * 3, none⟩)) ∧
    Ru (Instr.loadAt 3 (.pointer (some (Addr.add ⟨g, k * 3, none⟩ 0)))) w (.int .i64 m.b) w ∧ Ru (Instr.loadAt 3 (.pointer (some (Addr.add ⟨g, k * 3, none⟩ 1)))) w (.int .i64 k) w ∧
    Ru (Instr.loadAt 23 (.pointer (some (Addr.add ⟨g, k * 3, none⟩ 2)))) w (.slice aa m.after.length ac) w ∧ Row w aa (iL (nI' m.after)) := by
  obtain ⟨⟨H, h1, h2, h3⟩, h4⟩ := h
  have hkl := (List.getElem?_eq_some_iff.1 hk).1
  obtain ⟨aa, ac, e1, e2, e3⟩ := h3 k m hk
  obtain ⟨g, rfl, hg, hat⟩ := h1.sm (by omega)
  have hH : ∀ c ∈ H, c.length = 3 := fun c hc => by
    obtain ⟨i, hi, rfl⟩ := List.getElem_of_mem hc
    obtain ⟨_, _, e, _⟩ := h3 i (ms[i]'(by omega)) (List.getElem?_eq_getElem (by omega))
    rw [List.getElem?_eq_getElem hi] at e
    rw [Option.some.inj e]; rfl
  refine ⟨g, aa, ac, rfl, fun w' => ?_, ?_, ?_, ?_, e2⟩
  · have := index_slice (P := Try.prog) (T := 31) (k := 3) (a := ⟨g, 0, none⟩) (n := ms.length) (c := lc) (kk := .i64) (i := k) (by kernel_rfl) (by omega) (by omega) w'
    rw [add_none, show 0 + (k : Int).toNat * 3 = k * 3 by omega] at this
    exact this
  · rw [add_none]
    have := hat.at.load (P := Try.prog) (T := 3) (i := k * 3 + 0) (v := .int .i64 m.b) (by kernel_rfl) (flat_get hH e1 rfl)
    rw [Nat.zero_add] at this; exact this
  · rw [add_none]
    have := hat.at.load (P := Try.prog) (T := 3) (i := k * 3 + 1) (v := .int .i64 k) (by kernel_rfl) (flat_get hH e1 rfl)
    rw [Nat.zero_add] at this; exact this
  · rw [add_none]
    have := hat.at.load (P := Try.prog) (T := 23) (i := k * 3 + 2) (v := .slice aa m.after.length ac) (by kernel_rfl) (flat_get hH e1 rfl)
    rw [Nat.zero_add] at this; exact this
/-- What the law has come to. -/
def OSt (w : World) (sp d i : Nat) (z : Value) (w5 : World) : Prop :=
  ∃ (R : Nat → Prop) (V : Ps) (ms : List Mk) (la : Option Addr) (lc : Nat), z = .slice la ms.length lc ∧ ms.length ≤ i ∧ OrdI ms V ∧ Bnd V.C.D (i + 1) ∧ Pz w R w5 sp d V ∧ MR R w.heap.size w5 la lc ms ∧ ∀ m ∈ ms, m.after.length ≤ 4
theorem OSt.up {i : Nat} {z : Value} (h : OSt w sp d i z w') : OSt w sp d (i + 1) z w' := by
  obtain ⟨R, V, ms, la, lc, h1, h2, h3, h4, h5, h6⟩ := h
  exact ⟨R, V, ms, la, lc, h1, by omega, h3, h4.mono (by omega), h5, h6⟩
theorem patE_ok {ms : List Mk} {b : Nat} {js : List Nat} (h : OrdI ms V) (hb : b < 5) (hj : ∀ j ∈ js, j < ms.length) (hsm : ms.length < 60) : patE V b ms.length [1] (js.map fun j => ((j + 1 : Nat) : Int)) = 0 := by
  unfold patE
  rw [if_neg (by rw [(rd_at V.C.D (by rw [h.len]; exact hb)).1]; simp), if_neg (by simp; omega), if_neg]
  unfold badA
  rw [List.any_eq_true]
  rintro ⟨k, hk, e⟩
  obtain ⟨j, hjs, rfl⟩ := List.mem_map.1 hk
  have := hj j hjs
  have := h.last
  simp at e
  omega
theorem crSt_mem {D : St} {pick : List Int} {b : Nat} (hD : WF D) (hb : b < D.vs.length) : rdB (crSt D pick) b ∈ verOf D b := by
  have hv : (crSt D pick).vs[b]? = some [pickV D pick b D.vs[b]] := by
    unfold crSt put1
    simp [hb]
  have := (rd_ok hv).2
  rw [this, ver_at hb]
  have hne := (hD.ver _ (List.getElem_mem hb)).1
  exact pickV_mem hne
theorem crSt_small {D : St} {pick : List Int} : Small (crSt D pick) := fun v hv => by
  unfold crSt put1 at hv
  have hv : v ∈ D.vs.mapIdx fun i v => [pickV D pick i v] := hv
  obtain ⟨i, _, rfl⟩ := List.mem_mapIdx.1 hv
  simp
end
end Go.Proofs.Ytocjjigmpgekfaa
