/- Parts of the proof, in order: what the statement leans on. -/
import Derived.Test.YtocjjigmpgekfaaGreatBf
section
/- Layer 12, the program's acts that wait: in memory, and each call. -/
open Go Go.Den Go.Proofs
namespace Go.Den
section
variable {P : Program} {w w' : World}
theorem flat_len' {α : Type} {f : α → List Value} {k : Nat} (h : ∀ x, (f x).length = k) : ∀ L : List α, (L.map f).flatten.length = L.length * k
  | [] => by simp
  | x :: r => by rw [List.map_cons, List.flatten_cons, List.length_append, h, flat_len' h r, List.length_cons, Nat.add_mul]; omega
theorem flat_drop {α : Type} {f : α → List Value} {k : Nat} (h : ∀ x, (f x).length = k) : ∀ {L : List α} {i : Nat} {x : α}, L[i]? = some x → ((L.map f).flatten.drop (i * k)).take k = f x
  | [], _, _, e => by simp at e
  | y :: r, 0, x, e => by
    have e : y = x := by simpa using e
    subst e
    rw [List.map_cons, List.flatten_cons, Nat.zero_mul, List.drop_zero, List.take_append_of_le_length (by rw [h]; omega), List.take_of_length_le (by rw [h]; omega)]
  | y :: r, i + 1, x, e => by
    rw [List.getElem?_cons_succ] at e
    rw [List.map_cons, List.flatten_cons, show (i + 1) * k = (f y).length + i * k by rw [h, Nat.add_mul]; omega, List.drop_append, List.drop_eq_nil_of_le (by omega), List.nil_append, show (f y).length + i * k - (f y).length = i * k by omega]
    exact flat_drop h e
theorem flat_cell {α : Type} {f : α → List Value} {k : Nat} (h : ∀ x, (f x).length = k) {L : List α} {i j : Nat} {x : α} {v : Value} (hx : L[i]? = some x) (hj : (f x)[j]? = some v) : (L.map f).flatten[i * k + j]? = some v := by
  have h1 := flat_drop h hx
  have hl : j < k := by have := (List.getElem?_eq_some_iff.1 hj).1; rwa [h] at this
  rw [← h1, List.getElem?_take_of_lt hl, List.getElem?_drop] at hj
  exact hj
end
end Go.Den
namespace Go.Proofs.YtocjjigmpgekfaaGreat
section
variable {w w' : World}
/-- append of one element that was built just now. -/
theorem snocG {T Te : TypeId} {base k bytes l c : Nat} {a : Option Addr} {xs ys : List Value} (hT : elemG Tryz.prog T k bytes) (hk : 0 < k) (h : Own Tryz.prog w base T k a l c xs) (hl : ys.length = k) (h1 : ∀ v ∈ ys, v.oneCell' = true)
    (h63 : (l + 1) * bytes ≤ 140737488355328) (hb : 0 < bytes) (hbase : base ≤ w.heap.size) :
    ∃ q c' w', Ru (Builtin.append_ #[T, T] T #[.slice a l c, .slice (some ⟨w.heap.size, 0, none⟩) 1 1]) (w.alloc (.cells ⟨ys⟩ Te)) (.slice (some q) (l + 1) c') w' ∧ Own Tryz.prog w' base T k (some q) (l + 1) c' (xs ++ ys) ∧ Mod (Of a) w w' ∧ ((∃ q', a = some q' ∧ q.block = q'.block) ∨ w.heap.size ≤ q.block) := by
  have m1 : Mod No w (w.alloc (.cells ⟨ys⟩ Te)) := (Mod.refl No w).alloc _
  have r1 : Row (w.alloc (.cells ⟨ys⟩ Te)) (some ⟨w.heap.size, 0, none⟩) ys := .inr ⟨_, _, rfl, AtU.new.at⟩
  have s1 : (w.alloc (.cells ⟨ys⟩ Te)).heap.size = w.heap.size + 1 := by simp
  obtain ⟨q, c', w2, run, p, mm, hq⟩ := (h.nos m1).appG (ty := T) (m := 1) (c2 := 1) hT hk r1 (by omega) (by omega) h1 h63 hb (by omega)
  refine ⟨q, c', w2, run, p, (m1.mono fun _ _ h => h.elim).trans mm fun x _ e => e, ?_⟩
  rcases hq with hq | hq
  · exact .inl hq
  · exact .inr (by omega)
end
abbrev Wt := Int × Int × Int
def wtV (x : Wt) : List Value := [.int .i64 x.1, .int .i64 x.2.1, .int .i64 x.2.2]
def acV (x : Int × Int) : List Value := [.int .i64 x.1, .int .i64 x.2]
theorem wtV_len (x : Wt) : (wtV x).length = 3 := rfl
theorem acV_len (x : Int × Int) : (acV x).length = 2 := rfl
theorem wtV_one (x : Wt) : ∀ v ∈ wtV x, v.oneCell' = true := by intro v hv; simp [wtV] at hv; rcases hv with rfl | rfl | rfl <;> rfl
theorem acV_one (x : Int × Int) : ∀ v ∈ acV x, v.oneCell' = true := by intro v hv; simp [acV] at hv; rcases hv with rfl | rfl <;> rfl
def rowW (L : List Wt) : List Value := (L.map wtV).flatten
def rowC (L : List (Int × Int)) : List Value := (L.map acV).flatten
theorem rowW_snoc (L : List Wt) (x : Wt) : rowW (L ++ [x]) = rowW L ++ wtV x := by simp [rowW]
theorem rowC_snoc (L : List (Int × Int)) (x : Int × Int) : rowC (L ++ [x]) = rowC L ++ acV x := by simp [rowC]
theorem elemG_waits : elemG Tryz.prog 168 3 24 := elemG_of (by kernel_rfl)
theorem elemG_acts : elemG Tryz.prog 77 2 16 := elemG_of (by kernel_rfl)
theorem elemN_waits : elemN Tryz.prog 168 = some 3 := by kernel_rfl
theorem agg_wait : aggN Tryz.prog 174 = some 3 := by kernel_rfl
theorem agg_pact : aggN Tryz.prog 71 = some 2 := by kernel_rfl
theorem build_wait (w : World) (n k m : Int) : (Instr.build 174 #[(0, .int .i64 n), (1, .agg ⟨[.int .i64 k, .int .i64 m]⟩)]).run Tryz.prog w = .ok (.agg ⟨[.int .i64 n, .int .i64 k, .int .i64 m]⟩) w := by kernel_rfl
theorem built_wait (w : World) (x : Wt) : (Instr.buildSlice 168 1 #[(0, .agg ⟨wtV x⟩)]).run Tryz.prog w = .ok (.slice (some ⟨w.heap.size, 0, none⟩) 1 1) (w.alloc (.cells ⟨wtV x⟩ 174)) := by kernel_rfl
theorem built_act (w : World) (x : Int × Int) : (Instr.buildSlice 77 1 #[(0, .agg ⟨acV x⟩)]).run Tryz.prog w = .ok (.slice (some ⟨w.heap.size, 0, none⟩) 1 1) (w.alloc (.cells ⟨acV x⟩ 71)) := by kernel_rfl
theorem alloc_wait (w : World) : (Instr.alloc 174 true (.tuple #[])).run Tryz.prog w = .ok (.pointer (some ⟨w.heap.size, 0, none⟩)) (w.alloc (.cells ⟨[.int .i64 0, .int .i64 0, .int .i64 0]⟩ 174)) := by kernel_rfl
/-- What waits, in memory: a row of waits, of a type of its own. -/
structure WkIn (T : TypeId) (Z : Nat → Prop) (w : World) (q : Nat) (L : List Wt) (la : Option Addr) (lc : Nat) : Prop where
  cell : AtU w q 0 [.slice la L.length lc]
  row : Own Tryz.prog w 0 T 3 la L.length lc (rowW L)
  nq : ∀ a, la = some a → a.block ≠ q ∧ ¬ Z a.block
  nz : ¬ Z q
def Wk (T : TypeId) (Z : Nat → Prop) (w : World) (q : Nat) (L : List Wt) : Prop := ∃ la lc, WkIn T Z w q L la lc
section
variable {w w' w0 : World} {R : Nat → Prop} {sp d : Nat} {V : Ps} {K : Value → World → Prop} {T : TypeId} {Z Z' : Nat → Prop} {q lc : Nat} {L : List Wt} {la : Option Addr}
theorem WkIn.keep {S : Nat → Prop} (h : WkIn T Z w q L la lc) (m : Mod S w w') (hS : ∀ x, S x → Z x) (hZ : ∀ x, x < w.heap.size → Z' x → Z x) : WkIn T Z' w' q L la lc where
  cell := h.cell.keep m fun e => h.nz (hS _ e)
  row := h.row.keep m fun a ha e => (h.nq a ha).2 (hS _ e)
  nq a ha := ⟨(h.nq a ha).1, fun e => (h.nq a ha).2 (hZ _ (h.row.base ha).2 e)⟩
  nz e := h.nz (hZ _ h.cell.lt e)
theorem Wk.keep {S : Nat → Prop} (h : Wk T Z w q L) (m : Mod S w w') (hS : ∀ x, S x → Z x) (hZ : ∀ x, x < w.heap.size → Z' x → Z x) : Wk T Z' w' q L := by
  obtain ⟨la, lc, h⟩ := h; exact ⟨la, lc, h.keep m hS hZ⟩
theorem WkIn.nos (h : WkIn T Z w q L la lc) (m : Mod No w w') : WkIn T Z w' q L la lc := h.keep m (fun _ h => h.elim) fun _ _ h => h
theorem Wk.nos (h : Wk T Z w q L) (m : Mod No w w') : Wk T Z w' q L := by obtain ⟨la, lc, h⟩ := h; exact ⟨la, lc, h.nos m⟩
theorem WkIn.ld (h : WkIn T Z w q L la lc) (hT : scal Tryz.prog T = true) : Ru (Instr.loadAt T (.pointer (some (Addr.add ⟨q, 0, none⟩ 0)))) w (.slice la L.length lc) w := by
  rw [add_none]; exact h.cell.at.load (i := 0) hT rfl
/-- One more waits: the row anew. -/
theorem WkIn.add {Te : TypeId} {x : Wt} (h : WkIn T Z w q L la lc) (hT : elemG Tryz.prog T 3 24) (hs : scal Tryz.prog T = true) (hn : L.length ≤ 5000) (hZ : ∀ x, Z x → x < w.heap.size) :
    ∃ c' w4 w5, Ru (Builtin.append_ #[T, T] T #[.slice la L.length L.length, .slice (some ⟨w.heap.size, 0, none⟩) 1 1]) (w.alloc (.cells ⟨wtV x⟩ Te)) (.slice (some ⟨w.heap.size + 1, 0, none⟩) (L.length + 1) c') w4 ∧
      RuU (Instr.storeAt T (.pointer (some (Addr.add ⟨q, 0, none⟩ 0))) (.slice (some ⟨w.heap.size + 1, 0, none⟩) (L.length + 1) c')) w4 w5 ∧ WkIn T Z w5 q (L ++ [x]) (some ⟨w.heap.size + 1, 0, none⟩) c' ∧ Mod (fun z => z = q) w w5 := by
  have m1 : Mod No w (w.alloc (.cells ⟨wtV x⟩ Te)) := (Mod.refl No w).alloc _
  have r1 : Row (w.alloc (.cells ⟨wtV x⟩ Te)) (some ⟨w.heap.size, 0, none⟩) (wtV x) := .inr ⟨_, _, rfl, AtU.new.at⟩
  have s1 : (w.alloc (.cells ⟨wtV x⟩ Te)).heap.size = w.heap.size + 1 := by simp
  generalize w.alloc (.cells ⟨wtV x⟩ Te) = w1 at *
  have hqw := h.cell.lt
  obtain ⟨c', w4, run, p, m4, z4⟩ := (h.row.nos m1).full (ty := T) (c2 := 1) hT r1 rfl (by omega) (by omega) (by omega)
  rw [s1] at run p z4
  obtain ⟨w5, u1, u2, u3, u4⟩ := ((h.cell.keep m1 id).keep m4 id).store (P := Tryz.prog) (T := T) (i := 0) (v := .slice (some ⟨w.heap.size + 1, 0, none⟩) (L.length + 1) c') hs (by simp) rfl
  refine ⟨c', w4, w5, run, by rw [add_none]; exact u1, ⟨?_, ?_, ?_, h.nz⟩, ((m1.no m4).mono fun _ _ h => h.elim).trans u3 fun _ _ e => e⟩
  · have : (L ++ [x]).length = L.length + 1 := by simp
    rw [this]; exact u2
  · rw [rowW_snoc, show (L ++ [x]).length = L.length + 1 by simp]
    exact p.keep u3 fun a ha e => by cases ha; have e : w.heap.size + 1 = q := e; omega
  · intro a ha; cases ha
    exact ⟨by show w.heap.size + 1 ≠ q; omega, fun e => by have := hZ _ e; simp only at this; omega⟩
def laterE (L : List Wt) (k : Int) : Int := if k < 1 ∨ 3 < k then 1 else if 4096 ≤ L.length then 5 else 0
def laterL (L : List Wt) (x : Wt) : List Wt := if laterE L x.2.1 = 0 then L ++ [x] else L
theorem kLater_c {n k m : Int} (h : Wk 168 Z w q L) (hn : L.length ≤ 5000) (hZ : ∀ x, Z x → x < w.heap.size)
    (hk : ∀ w', Mod (fun z => z = q) w w' → Wk 168 Z w' q (laterL L (n, k, m)) → K (.int .i64 (laterE L k)) w') :
    Cal Tryz.prog F_push_Work_Later #[.pointer (some ⟨q, 0, none⟩), .int .i64 n, .agg ⟨acV (k, m)⟩] w K := by
  apply C_push_Work_Later
  unfold D_push_Work_Later
  obtain ⟨la, lc, h⟩ := h
  refine ⟨_, _, box_run, ?_⟩
  have m1 : Mod No w (w.alloc (.cells (Value.agg ⟨acV (k, m)⟩).cells 71)) := (Mod.refl No w).alloc _
  have a1 : AtU (w.alloc (.cells (Value.agg ⟨acV (k, m)⟩).cells 71)) w.heap.size 0 (acV (k, m)) := AtU.new
  generalize w.alloc (.cells (Value.agg ⟨acV (k, m)⟩).cells 71) = w1 at *
  have hz1 := m1.size
  have h1 := h.nos m1
  have l0 : Ru (Instr.loadAt 3 (.pointer (some (Addr.add ⟨w.heap.size, 0, none⟩ 0)))) w1 (.int .i64 k) w1 := by rw [add_none]; exact a1.at.load (i := 0) (by kernel_rfl) rfl
  refine ff rfl (Share.cut (fun z w2 => w1 = w2 ∧ z = [.bool (decide (k < 1 ∨ 3 < k))]) ⟨_, l0, cond_of (fun hb => ⟨rfl, ?_⟩) (fun hb => ⟨_, l0, rfl, ?_⟩)⟩ ?_)
  · have := of_decide_eq_true hb
    rw [decide_eq_true (Or.inl this)]
  · have := of_decide_eq_false hb
    exact bcell (by omega)
  rintro z w2 ⟨rfl, rfl⟩
  have ms : ∀ {w2 : World}, Mod No w1 w2 → Mod (fun z => z = q) w w2 := fun mm => (m1.no mm).mono fun _ _ h => h.elim
  refine ⟨_, rfl, cond_of (fun hb => ?_) (fun hb => ⟨_, rfl, _, _, _, h1.ld (by kernel_rfl), cond_of (fun hb2 => ?_) (fun hb2 => ?_)⟩)⟩
  · have hb := of_decide_eq_true hb
    have e : laterE L k = 1 := if_pos hb
    have := hk w1 (ms (Mod.refl _ _)) ⟨la, lc, by unfold laterL; rw [if_neg (by show ¬ laterE L k = 0; rw [e]; omega)]; exact h1⟩
    rwa [e] at this
  · have hb := of_decide_eq_false hb
    have hb2 := of_decide_eq_true hb2
    have e : laterE L k = 5 := by unfold laterE; rw [if_neg hb, if_pos (by omega)]
    have := hk w1 (ms (Mod.refl _ _)) ⟨la, lc, by unfold laterL; rw [if_neg (by show ¬ laterE L k = 0; rw [e]; omega)]; exact h1⟩
    rwa [e] at this
  · have hb := of_decide_eq_false hb
    have hb2 := of_decide_eq_false hb2
    have e : laterE L k = 0 := by unfold laterE; rw [if_neg hb, if_neg (by omega)]
    have md : Mod No w1 (drew w1) := (Mod.refl No w1).drew
    have hd := h1.nos md
    have ld := hd.ld (by kernel_rfl)
    have la0 : Ru (Instr.loadAt 71 (.pointer (some ⟨w.heap.size, 0, none⟩))) (drew w1) (.agg ⟨acV (k, m)⟩) (drew w1) := (a1.keep md id).at.loadAgg (i := 0) agg_pact (by rw [acV_len]; omega)
    refine ⟨_, rfl, _, _, _, ld, _, rfl, _, _, _, ld, _, rfl, _, _, _, ld, _, _, _, fun w' => hd.row.cut3 elemN_waits w', _, la0, _, fun w => build_wait w _ _ _, _, _, _, _, built_wait _ (n, k, m), ?_⟩
    have hZ1 : ∀ x, Z x → x < (drew w1).heap.size := fun x hx => by have := hZ x hx; have := md.size; omega
    obtain ⟨c', w4, w5, run, sto, h5, m5⟩ := hd.add (Te := 174) (x := (n, k, m)) elemG_waits (by kernel_rfl) hn hZ1
    have ma : Mod No (drew w1) ((drew w1).alloc (.cells ⟨wtV (n, k, m)⟩ 174)) := (Mod.refl No _).alloc _
    have la1 := (hd.nos ma).ld (by kernel_rfl)
    refine ⟨la1, la1, la1, _, _, _, w4, run, _, rfl, w5, sto, ?_⟩
    have := hk w5 (((m1.no md).mono fun _ _ h => h.elim).trans m5 fun _ _ e => e) ⟨_, c', by unfold laterL; rw [if_pos (show laterE L k = 0 from e)]; exact h5⟩
    rwa [e] at this
theorem kLen_c (h : Wk 168 Z w q L) (hk : K (.int .i64 L.length) w) : Cal Tryz.prog F_push_Work_Len #[.pointer (some ⟨q, 0, none⟩)] w K := by
  apply C_push_Work_Len
  unfold D_push_Work_Len
  obtain ⟨la, lc, h⟩ := h
  exact ff rfl ⟨_, rfl, _, _, _, h.ld (by kernel_rfl), hk⟩
/-- One element of the row. -/
theorem WkIn.at {Te : TypeId} {i : Nat} {x : Wt} (h : WkIn T Z w q L la lc) (hT : elemN Tryz.prog T = some 3) (hE : aggN Tryz.prog Te = some 3) (hn : L.length ≤ 5000) (hx : L[i]? = some x) : ∃ g, la = some ⟨g, 0, none⟩ ∧ Al (Instr.indexAt T (.slice la L.length lc) (.int .i64 i)) (.pointer (some ⟨g, i * 3, none⟩)) ∧
    Ru (Instr.loadAt Te (.pointer (some ⟨g, i * 3, none⟩))) w (.agg ⟨wtV x⟩) w ∧ (∀ (w' : World) (Ta : TypeId), Mod No w w' → aggN Tryz.prog Ta = some 2 → Ru (Instr.loadAt Ta (.pointer (some (Addr.add ⟨g, i * 3, none⟩ 1)))) w' (.agg ⟨acV x.2⟩) w') ∧
    ∀ (w' : World) (Ti : TypeId), Mod No w w' → scal Tryz.prog Ti = true → Ru (Instr.loadAt Ti (.pointer (some (Addr.add ⟨g, i * 3, none⟩ 0)))) w' (.int .i64 x.1) w' := by
  have hi := (List.getElem?_eq_some_iff.1 hx).1
  obtain ⟨g, rfl, hg, hat⟩ := h.row.sm (by omega)
  have hlen : (rowW L).length = L.length * 3 := flat_len' wtV_len L
  refine ⟨g, rfl, fun w' => ?_, ?_, fun w' Ta m hTa => ?_, fun w' Ti m hTi => ?_⟩
  · have := index_slice (P := Tryz.prog) (T := T) (k := 3) (a := ⟨g, 0, none⟩) (n := L.length) (c := lc) (kk := .i64) (i := i) hT (by omega) (by omega) w'
    rw [add_none, show 0 + (i : Int).toNat * 3 = i * 3 by omega] at this
    exact this
  · have := hat.at.loadAgg (P := Tryz.prog) (T := Te) (i := i * 3) hE (by rw [hlen]; omega)
    rw [show ((rowW L).drop (i * 3)).take 3 = wtV x from flat_drop wtV_len hx, Nat.zero_add] at this
    exact this
  · rw [add_none]
    have := (hat.keep m id).at.loadAgg (P := Tryz.prog) (T := Ta) (i := i * 3 + 1) hTa (by rw [hlen]; omega)
    rw [Nat.zero_add] at this
    have e : ((rowW L).drop (i * 3 + 1)).take 2 = acV x.2 := by
      have h1 : ((rowW L).drop (i * 3)).take 3 = wtV x := flat_drop wtV_len hx
      have h2 : ((rowW L).drop (i * 3 + 1)).take 2 = (((rowW L).drop (i * 3)).take 3).drop 1 := by
        rw [List.drop_take, List.drop_drop]
      rw [h2, h1]; rfl
    rw [e] at this
    exact this
  · rw [add_none]
    have := (hat.keep m id).at.load (P := Tryz.prog) (T := Ti) (i := i * 3 + 0) hTi (v := .int .i64 x.1) (flat_cell wtV_len hx rfl)
    rw [Nat.zero_add] at this
    exact this
def ripeP (V : Ps) (x : Wt) : Bool := decide (x.1 < 1) || safeV V x.1
theorem kRipe_c (hP : Pz w0 R w sp d V) (h : Wk 168 Z w q L) (hn : L.length ≤ 5000) (hZ : ∀ x, Z x → x < w.heap.size)
    (hk : ∀ w' a c, Mod (fun z => z = q) w w' → Wk 168 Z w' q (L.filter fun x => !ripeP V x) → Own Tryz.prog w' w.heap.size 77 2 a (L.filter (ripeP V)).length c (rowC ((L.filter (ripeP V)).map (·.2))) →
      K (.slice a (L.filter (ripeP V)).length c) w') :
    Cal Tryz.prog F_push_Work_Ripe #[.pointer (some ⟨q, 0, none⟩), .pointer (some ⟨sp, 0, none⟩)] w K := by
  apply C_push_Work_Ripe
  unfold D_push_Work_Ripe
  obtain ⟨la, lc, h⟩ := h
  refine ff rfl ⟨_, rfl, _, _, _, h.ld (by kernel_rfl), ?_⟩
  refine ⟨fun x w1 => ∃ (i : Nat) (a5 a6 : Option Addr) (c5 c6 : Nat) (y : Value), x = [.slice a5 ((L.take i).filter (ripeP V)).length c5, .slice a6 ((L.take i).filter fun x => !ripeP V x).length c6, .int .i64 i, y] ∧ i ≤ L.length ∧
      Own Tryz.prog w1 w.heap.size 77 2 a5 ((L.take i).filter (ripeP V)).length c5 (rowC (((L.take i).filter (ripeP V)).map (·.2))) ∧ Own Tryz.prog w1 w.heap.size 168 3 a6 ((L.take i).filter fun x => !ripeP V x).length c6 (rowW ((L.take i).filter fun x => !ripeP V x)) ∧
      (∀ q q', a5 = some q → a6 = some q' → q.block ≠ q'.block) ∧ Mod No w w1, fun x _ => (L.length - nI x 2).toNat,
    ⟨0, none, none, 0, 0, _, rfl, by omega, Own.nilG elemG_acts, Own.nilG elemG_waits, (fun _ _ e => by cases e), Mod.refl _ _⟩, ?_⟩
  rintro x w1 ⟨i, a5, a6, c5, c6, y, rfl, hi, o5, o6, h56, m1⟩
  have h1 := h.nos m1
  have hz1 := m1.size
  refine ⟨_, rfl, cond_of (fun hb => ?_) (fun hb => ?_)⟩
  · have hi : i < L.length := by have := of_decide_eq_true hb; omega
    have hx : L[i]? = some L[i] := List.getElem?_eq_getElem hi
    have htk := List.take_succ_eq_append_getElem hi
    obtain ⟨g, rfl, hix, hag, _, _⟩ := h1.at (Te := 174) elemN_waits agg_wait hn hx
    generalize L[i] = x at *
    have hst : RuU (Instr.storeAt 174 (.pointer (some ⟨w1.heap.size, 0, none⟩)) (.agg ⟨wtV x⟩)) (w1.alloc (.cells ⟨[.int .i64 0, .int .i64 0, .int .i64 0]⟩ 174)) (w1.alloc (.cells ⟨wtV x⟩ 174)) := store_new agg_wait rfl rfl (wtV_one x)
    refine Share.cut (fun z w10 => ∃ (a5 a6 : Option Addr) (c5 c6 : Nat) (y : Value), z = [.slice a5 ((L.take (i + 1)).filter (ripeP V)).length c5, .slice a6 ((L.take (i + 1)).filter fun x => !ripeP V x).length c6, y] ∧
      Own Tryz.prog w10 w.heap.size 77 2 a5 ((L.take (i + 1)).filter (ripeP V)).length c5 (rowC (((L.take (i + 1)).filter (ripeP V)).map (·.2))) ∧ Own Tryz.prog w10 w.heap.size 168 3 a6 ((L.take (i + 1)).filter fun x => !ripeP V x).length c6 (rowW ((L.take (i + 1)).filter fun x => !ripeP V x)) ∧
      (∀ q q', a5 = some q → a6 = some q' → q.block ≠ q'.block) ∧ Mod No w w10) ⟨_, hix, _, hag, _, _, alloc_wait _, _, hst, ?_⟩ ?_
    · have m3 : Mod No w1 (w1.alloc (.cells ⟨wtV x⟩ 174)) := (Mod.refl No w1).alloc _
      have a3 : AtU (w1.alloc (.cells ⟨wtV x⟩ 174)) w1.heap.size 0 (wtV x) := AtU.new
      generalize w1.alloc (.cells ⟨wtV x⟩ 174) = w3 at *
      have l3 : Ru (Instr.loadAt 2 (.pointer (some (Addr.add ⟨w1.heap.size, 0, none⟩ 0)))) w3 (.int .i64 x.1) w3 := by rw [add_none]; exact a3.at.load (i := 0) (by kernel_rfl) rfl
      have M3 := m1.no m3
      have hz3 := M3.size
      refine Share.cut (fun z w5 => w3 = w5 ∧ z = [.bool (ripeP V x)]) ⟨_, l3, cond_of (fun hb2 => ⟨rfl, ?_⟩) (fun hb2 => ⟨_, l3, qSafe_c (hP.nos M3) ⟨_, rfl, rfl, ?_⟩⟩)⟩ ?_
      · unfold ripeP; rw [hb2]; rfl
      · unfold ripeP; rw [hb2]; rfl
      rintro z w5 ⟨rfl, rfl⟩
      have o5' := o5.nos m3
      have o6' := o6.nos m3
      refine ⟨_, rfl, cond_of (fun hb2 => ?_) (fun hb2 => ?_)⟩
      · have e1 : (L.take (i + 1)).filter (ripeP V) = (L.take i).filter (ripeP V) ++ [x] := by rw [htk, List.filter_append]; simp [hb2]
        have e2 : (L.take (i + 1)).filter (fun x => !ripeP V x) = (L.take i).filter fun x => !ripeP V x := by rw [htk, List.filter_append]; simp [hb2]
        have hfl := List.length_filter_le (ripeP V) (L.take i)
        rw [List.length_take] at hfl
        have la1 : Ru (Instr.loadAt 71 (.pointer (some (Addr.add ⟨w1.heap.size, 0, none⟩ 1)))) w3 (.agg ⟨acV x.2⟩) w3 := by
          rw [add_none]; exact a3.at.loadAgg (i := 1) agg_pact (by rw [wtV_len]; omega)
        obtain ⟨q2, c', w7, run, p, mm, hq2⟩ := snocG (Te := 71) (ys := acV x.2) elemG_acts (by omega) o5' rfl (acV_one _) (by omega) (by omega) (by omega)
        refine ⟨_, _, _, rfl, _, la1, _, _, _, _, built_act _ _, _, _, _, w7, run, some q2, a6, c', c6, .bool (ripeP V x), (by rw [e1, e2, List.length_append]; rfl), ?_, ?_, ?_, ?_⟩
        · rw [e1]
          have : rowC (((L.take i).filter (ripeP V) ++ [x]).map (·.2)) = rowC (((L.take i).filter (ripeP V)).map (·.2)) ++ acV x.2 := by rw [List.map_append]; exact rowC_snoc _ _
          rw [this, show ((L.take i).filter (ripeP V) ++ [x]).length = ((L.take i).filter (ripeP V)).length + 1 by simp]
          exact p
        · rw [e2]
          exact o6'.keep mm fun q' hq' ⟨q5, e5, e⟩ => h56 q5 q' e5 hq' e.symm
        · intro q' q6 e' e6 e
          cases e'
          rcases hq2 with ⟨q5, e5, e7⟩ | e7
          · exact h56 q5 q6 e5 e6 (by rw [← e7]; exact e)
          · have := (o6'.base e6).2; omega
        · exact M3.trans mm fun z hz ⟨q5, e5, e⟩ => by have := (o5.base e5).1; omega
      · have e1 : (L.take (i + 1)).filter (ripeP V) = (L.take i).filter (ripeP V) := by rw [htk, List.filter_append]; simp [hb2]
        have e2 : (L.take (i + 1)).filter (fun x => !ripeP V x) = ((L.take i).filter fun x => !ripeP V x) ++ [x] := by rw [htk, List.filter_append]; simp [hb2]
        have hfl := List.length_filter_le (fun x => !ripeP V x) (L.take i)
        rw [List.length_take] at hfl
        have la1 : Ru (Instr.loadAt 174 (.pointer (some ⟨w1.heap.size, 0, none⟩))) w3 (.agg ⟨wtV x⟩) w3 := a3.at.loadAgg (i := 0) agg_wait (by rw [wtV_len]; omega)
        obtain ⟨q2, c', w7, run, p, mm, hq2⟩ := snocG (Te := 174) (ys := wtV x) elemG_waits (by omega) o6' rfl (wtV_one _) (by omega) (by omega) (by omega)
        refine ⟨_, _, _, rfl, _, la1, _, _, _, _, built_wait _ _, _, _, _, w7, run, a5, some q2, c5, c', .bool (ripeP V x), (by rw [e1, e2, List.length_append]; rfl), ?_, ?_, ?_, ?_⟩
        · rw [e1]
          exact o5'.keep mm fun q' hq' ⟨q5, e5, e⟩ => h56 q' q5 hq' e5 e
        · rw [e2, rowW_snoc, show (((L.take i).filter fun x => !ripeP V x) ++ [x]).length = ((L.take i).filter fun x => !ripeP V x).length + 1 by simp]
          exact p
        · intro q5 q' e5 e' e
          cases e'
          rcases hq2 with ⟨q6, e6, e7⟩ | e7
          · exact h56 q5 q6 e5 e6 (by rw [← e7]; exact e)
          · have := (o5'.base e5).2; omega
        · exact M3.trans mm fun z hz ⟨q5, e5, e⟩ => by have := (o6.base e5).1; omega
    rintro z w10 ⟨a5, a6, c5, c6, y, rfl, o5, o6, h56, m10⟩
    rw [wrap64 (x := (i : Int) + 1) (by omega) (by omega)]
    exact ⟨⟨i + 1, a5, a6, c5, c6, _, rfl, by omega, o5, o6, h56, m10⟩, by simp [nI, nth]; omega⟩
  · have hi : i = L.length := by have := of_decide_eq_false hb; omega
    subst hi
    rw [List.take_length] at o5 o6
    obtain ⟨w5, u1, u2, u3, u4⟩ := h1.cell.store (P := Tryz.prog) (T := 168) (i := 0) (v := .slice a6 (L.filter fun x => !ripeP V x).length c6) (by kernel_rfl) (by simp) rfl
    have hqw := h.cell.lt
    rw [List.take_length]
    refine ⟨_, _, _, rfl, _, rfl, w5, by rw [add_none]; exact u1, _, _, _, rfl, hk w5 a5 c5 ((m1.mono fun _ _ h => h.elim).trans u3 fun _ _ e => e) ⟨a6, c6, ⟨u2, ?_, fun a ha => ⟨fun e => ?_, fun e => ?_⟩, h.nz⟩⟩ ?_⟩
    · exact (o6.keep u3 fun a ha e => by have e : a.block = q := e; have := (o6.base ha).1; omega).mono (by omega)
    · have := (o6.base ha).1; omega
    · have := (o6.base ha).1; have := hZ _ e; omega
    · exact o5.keep u3 fun a ha e => by have e : a.block = q := e; have := (o5.base ha).1; omega
end
end Go.Proofs.YtocjjigmpgekfaaGreat
end
section
/- Layer 12: acts alike; does an act wait; the fixed calls; the statement PushNil. -/
open Go Go.Den Go.Proofs
namespace Go.Proofs.YtocjjigmpgekfaaGreat
/-- A struct of two integers. -/
def two (P : Program) (T : TypeId) : Bool :=
  match (P.fieldsOf T).toList with
  | [f, g] => f.name != "_" && g.name != "_" && f.type == 3 && f.offset == 0 && g.type == 3 && g.offset == 1
  | _ => false
section
variable {w w' w0 : World} {R : Nat → Prop} {sp d : Nat} {V : Ps} {K : Value → World → Prop} {T : TypeId} {Z Z' : Nat → Prop} {q lc : Nat} {L : List Wt} {la : Option Addr}
/-- A row of acts: one element. -/
theorem actAt {T Te : TypeId} {base l c i : Nat} {a : Option Addr} {xs : List (Int × Int)} {x : Int × Int} (h : Own Tryz.prog w base T 2 a l c (rowC xs)) (hl : xs.length = l) (hT : elemN Tryz.prog T = some 2) (hE : aggN Tryz.prog Te = some 2) (h63 : l ≤ 1000000) (hx : xs[i]? = some x) :
    ∃ g, a = some ⟨g, 0, none⟩ ∧ base ≤ g ∧ Al (Instr.indexAt T (.slice a l c) (.int .i64 i)) (.pointer (some ⟨g, i * 2, none⟩)) ∧ (∀ w', Mod No w w' → Ru (Instr.loadAt Te (.pointer (some ⟨g, i * 2, none⟩))) w' (.agg ⟨acV x⟩) w') ∧
      ∀ (w' : World) (j : Nat) (v : Value) (Ti : TypeId), Mod No w w' → scal Tryz.prog Ti = true → (acV x)[j]? = some v → Ru (Instr.loadAt Ti (.pointer (some (Addr.add ⟨g, i * 2, none⟩ j)))) w' v w' := by
  have hi := (List.getElem?_eq_some_iff.1 hx).1
  obtain ⟨g, rfl, hg, hat⟩ := h.sm (by omega)
  have hlen : (rowC xs).length = xs.length * 2 := flat_len' acV_len xs
  refine ⟨g, rfl, hg, fun w' => ?_, fun w' m => ?_, fun w' j v Ti m hTi hj => ?_⟩
  · have := index_slice (P := Tryz.prog) (T := T) (k := 2) (a := ⟨g, 0, none⟩) (n := l) (c := c) (kk := .i64) (i := i) hT (by omega) (by omega) w'
    rw [add_none, show 0 + (i : Int).toNat * 2 = i * 2 by omega] at this
    exact this
  · have := (hat.keep m id).at.loadAgg (P := Tryz.prog) (T := Te) (i := i * 2) hE (by rw [hlen]; omega)
    rw [show ((rowC xs).drop (i * 2)).take 2 = acV x from flat_drop acV_len hx, Nat.zero_add] at this
    exact this
  · rw [add_none]
    have := (hat.keep m id).at.load (P := Tryz.prog) (T := Ti) (i := i * 2 + j) hTi (v := v) (flat_cell acV_len hx hj)
    rw [Nat.zero_add] at this
    exact this
theorem elemN_acts : elemN Tryz.prog 77 = some 2 := by kernel_rfl
end
end Go.Proofs.YtocjjigmpgekfaaGreat
end
section
/- Layer 12: a store of five blocks; the fixed calls; the statement PushNil. -/
open Go Go.Den Go.Proofs
namespace Go.Proofs.YtocjjigmpgekfaaGreat
def g0 : Ps := zeroV 5 5
def g1 : Ps := patS g0 3 0 [97] []
def g2 : Ps := patS g1 4 0 [98] [1]
def g3 : Ps := patS g2 3 1 [99] [2]
theorem g1e : patE g0 3 0 [97] [] = 0 ∧ patN g0 3 0 [97] [] = 1 ∧ g0.last = 0 := by decide +kernel
theorem g2e : patE g1 4 0 [98] [1] = 0 ∧ patN g1 4 0 [98] [1] = 2 ∧ g1.last = 1 := by decide +kernel
theorem g3e : patE g2 3 1 [99] [2] = 0 ∧ patN g2 3 1 [99] [2] = 3 ∧ g2.last = 2 := by decide +kernel
theorem g3s : safeV g3 3 = false := by decide +kernel
theorem g3b : (g3.C.D.vs.all fun v => decide (v.length ≤ 1000)) = true := by decide +kernel
/-- The open changes by their numbers, so that it can be worked out. -/
def insI (x : Ch) : List Ch → List Ch
  | [] => [x]
  | y :: r => if x.id ≤ y.id then x :: y :: r else y :: insI x r
def isrt : List Ch → List Ch
  | [] => []
  | x :: r => insI x (isrt r)
theorem insI_perm (x : Ch) : ∀ l, (insI x l).Perm (x :: l)
  | [] => List.Perm.refl _
  | y :: r => by
    unfold insI
    split
    · exact List.Perm.refl _
    · exact ((insI_perm x r).cons y).trans (List.Perm.swap _ _ _)
theorem isrt_perm : ∀ l, (isrt l).Perm l
  | [] => List.Perm.refl _
  | x :: r => (insI_perm x _).trans ((isrt_perm r).cons x)
theorem insI_le (x : Ch) : ∀ l, (l.Pairwise fun x y : Ch => x.id ≤ y.id) → (insI x l).Pairwise fun x y : Ch => x.id ≤ y.id
  | [], _ => List.pairwise_singleton _ _
  | y :: r, h => by
    have h' := List.pairwise_cons.1 h
    unfold insI
    split
    · rename_i e
      exact List.pairwise_cons.2 ⟨fun z hz => by
        rcases List.mem_cons.1 hz with rfl | hz
        · exact e
        · have := h'.1 z hz; omega, h⟩
    · rename_i e
      exact List.pairwise_cons.2 ⟨fun z hz => by
        rcases List.mem_cons.1 ((insI_perm x r).mem_iff.1 hz) with rfl | hz
        · omega
        · exact h'.1 z hz, insI_le x r h'.2⟩
theorem isrt_le : ∀ l, (isrt l).Pairwise fun x y : Ch => x.id ≤ y.id
  | [] => List.Pairwise.nil
  | x :: r => insI_le x _ (isrt_le r)
theorem srtV_isrt {V : Ps} (h : WFS V) : srtV V = isrt V.all := by
  have hn : ((isrt V.all).map (·.id)).Nodup := ((isrt_perm V.all).map (·.id)).nodup_iff.2 h.ids
  refine eq_of_srt (srtV_srt h) ?_ fun x => by rw [(srtV_perm V).mem_iff, (isrt_perm V.all).mem_iff]
  have h1 := isrt_le V.all
  have h2 : (isrt V.all).Pairwise fun x y : Ch => x.id ≠ y.id := List.pairwise_map.1 hn
  exact (h1.and h2).imp fun h => by omega
def oneB' (id : Int) (V : Ps) : List Int := ((List.range V.C.D.vs.length).filter fun b => V.all.any fun x => decide (x.b = b) && (waitsL (isrt V.all) id).contains (x.id : Int)).map fun b : Nat => (b : Int)
theorem oneB_eq {id : Int} {V : Ps} (h : Gd V) : oneB id V = oneB' id V := by
  unfold oneB oneB' waitsV
  rw [srtV_isrt h.s]
theorem rnds_congr {nx nx' : Ps → List Int} (h : ∀ V, Gd V → nx V = nx' V) : ∀ {f : Nat} {V : Ps}, Gd V → rnds nx f V = rnds nx' f V
  | 0, _, _ => rfl
  | f + 1, V, g => by
    have e := h V g
    by_cases hn : nx V = []
    · rw [rnds_nil hn, rnds_nil (by rw [← e]; exact hn)]
    · rw [rnds_succ hn, rnds_succ (by rw [← e]; exact hn), e, rnds_congr h (g.round _)]
theorem gone : (rnds (oneB' 3) (openV g3) g3).1 = 3 := by decide +kernel
theorem gsafe : safeV (rnds (oneB' 3) (openV g3) g3).2 3 = true := by decide +kernel
section
variable {w w' w0 : World} {R R' : Nat → Prop} {sp d : Nat} {V : Ps} {K : Value → World → Prop} {T : TypeId} {Z Z' : Nat → Prop} {q lc : Nat} {L : List Wt} {la : Option Addr}
theorem oneV_eq {id : Int} (h : Gd V) : oneV id V = rnds (oneB' id) (openV V) V := rnds_congr (fun _ h => oneB_eq h) h
theorem open12_c (hk : ∀ w' R R2 sp d rp r, Mod No w w' → T11 w R R2 w' sp d rp r (zeroV 5 5) (newRs (newSt 5)) → K (.tuple #[.pointer (some ⟨sp, 0, none⟩), .pointer (some ⟨d, 0, none⟩), .pointer (some ⟨rp, 0, none⟩), .bool true]) w') :
    Cal Tryz.prog F_leveelaw12_open #[] w K := by
  apply C_leveelaw12_open
  unfold D_leveelaw12_open
  refine New_c (n := 5) (by omega) (by omega) (fun h => by omega) fun k hk' _ _ w1 d sb mb m1 h1 => ⟨_, _, rfl, ?_⟩
  have : k = 5 := by omega
  subst this
  refine refNew_c (n := 5) (by omega) (by omega) (fun h => by omega) fun k hk2 _ _ w2 r vb vc hs m2 h2 => ⟨_, _, rfl, ?_⟩
  have : k = 5 := by omega
  subst this
  have hsm : Small (newSt 5) := Small.one (sm _ (by decide +kernel))
  have hz1 := m1.size
  have hz2 := m2.size
  refine qNew_c (w0 := w) (k := 5) (h1.nos m2) hsm (fun x hx => ⟨hx.1, by omega⟩) (m1.no m2) rfl (by omega) (by omega) (by simp [newSt]) fun w3 sp m3 z3 => ⟨_, _, rfl, ?_⟩
  have hz3 := m3.size
  refine Share.dup (rOpen11_c (w0 := w) (h2.nos m3) hsm (fun x hx => ⟨by omega, by omega⟩) ((m1.no m2).no m3) fun w6 rp m6 q6 => ⟨_, rfl, tt rfl ?_⟩)
  have hz6 := m6.size
  have t6 : T11 w (Gro (fun x => w.heap.size ≤ x ∧ x < w1.heap.size) w2 w3) (Gro (fun x => w1.heap.size ≤ x ∧ x < w2.heap.size) w3 w6) w6 sp d rp r (zeroV 5 5) (newRs (newSt 5)) := ⟨z3.nos m6, q6, fun x hx e => by
    rcases hx with hx | hx <;> rcases e with e | e <;> omega⟩
  exact ⟨_, rfl, _, rfl, _, rfl, _, rfl, hk w6 _ _ sp d rp r (((m1.no m2).no m3).no m6) t6⟩
theorem build_work0 (w : World) : (Instr.build 170 #[]).run Tryz.prog w = .ok (.agg ⟨[.slice none 0 0]⟩) w := by kernel_rfl
theorem build_act (w : World) (k m : Int) : (Instr.build 71 #[(0, .int .i64 k), (1, .int .i64 m)]).run Tryz.prog w = .ok (.agg ⟨acV (k, m)⟩) w := by kernel_rfl
theorem kNew_c (hZ : ∀ x, Z x → x < w.heap.size) (hk : ∀ w', Mod No w w' → Wk 168 Z w' w.heap.size [] → K (.pointer (some ⟨w.heap.size, 0, none⟩)) w') : Cal Tryz.prog F_push_New #[] w K := by
  apply C_push_New
  unfold D_push_New
  exact ⟨_, fun w => build_work0 w, _, _, box_run, hk _ ((Mod.refl No w).alloc _) ⟨none, 0, AtU.new, Own.nilG elemG_waits, (fun _ h => by cases h), (fun e => by have := hZ _ e; omega)⟩⟩
theorem Wk.step (h : Wk T R w q L) (m : Mod R w w') : Wk T (Gro R w w') w' q L := h.keep m (fun _ h => h) fun x hx e => by
  rcases e with e | e
  · exact e
  · omega
theorem known12_c (hk : ∀ w', Mod No w w' → K (.bool true) w') : Cal Tryz.prog F_leveelaw12_known #[] w K := by
  apply C_leveelaw12_known
  unfold D_leveelaw12_known
  refine open12_c fun w2 R R2 sp d rp r m2 t2 => ⟨_, _, _, _, rfl, ?_⟩
  have z2 : Pz w R w2 sp d g0 := t2.p
  clear t2
  have s0 : Srt g0 := fun o ho => by cases ho
  have s1 : Srt g1 := s0.pat z2.wf.1 _ _ _ _
  have lo2 := z2.lo
  have hz2 := m2.size
  refine kNew_c (fun x hx => (lo2 x hx).2) fun w3 m3 k3 => ⟨_, rfl, Share.dup (ff rfl ⟨_, rfl, ff rfl ?_⟩)⟩
  generalize hq : w2.heap.size = q at *
  have z3 := z2.nos m3
  have lo3 := z3.lo
  -- the changes
  obtain ⟨ma, ra⟩ := lit w3 97
  refine ⟨_, _, _, _, built1 _ 97, _, _, _, _, conv_lit _ 97, qPatch_c (n := 3) (frm := 0) (data := [97]) (after := []) (z3.nos ma) (by rw [g1e.2.2]; omega) rfl ra (fun _ q hq hR => by cases hq; have := (lo3 _ hR).2; simp only at this; omega) (by omega) rfl (by omega) (.inl rfl) (fun _ q hq => by cases hq) fun w4 m4 z4 => ⟨_, _, rfl, ?_⟩⟩
  rw [g1e.2.1]
  have z4 : Pz w _ w4 sp d g1 := z4
  have s2 : Srt g2 := s1.pat z4.wf.1 _ _ _ _
  have k4 := (k3.nos ma).step m4
  obtain ⟨mb, rb⟩ := lit w4 98
  have lo4 := z4.lo
  refine ⟨_, _, _, _, built1 _ 98, _, _, _, _, conv_lit _ 98, _, _, _, _, builtI64 _ 1, ?_⟩
  have mb2 : Mod No (w4.alloc (.cells ⟨[.int .u8 ((98 : UInt8).toNat : Int)]⟩ 5 (1, 2))) ((w4.alloc (.cells ⟨[.int .u8 ((98 : UInt8).toNat : Int)]⟩ 5 (1, 2))).alloc (.cells ⟨[.int .i64 1]⟩ 2)) := (Mod.refl No _).alloc _
  refine qPatch_c (n := 4) (frm := 0) (data := [98]) (after := [1]) ((z4.nos mb).nos mb2) (by rw [g2e.2.2]; omega) rfl (rb.nos mb2) (fun _ q hq hR => by cases hq; have := (lo4 _ hR).2; simp only at this; omega) (by omega) rfl (by omega) (.inr ⟨_, _, rfl, AtU.new.at⟩) (fun _ q hq hR => by cases hq; have := (lo4 _ hR).2; simp at this; omega) fun w5 m5 z5 => ⟨_, _, rfl, ?_⟩
  rw [g2e.2.1]
  have z5 : Pz w _ w5 sp d g2 := z5
  have s3 : Srt g3 := s2.pat z5.wf.1 _ _ _ _
  have k5 := ((k4.nos mb).nos mb2).step m5
  obtain ⟨mc, rc⟩ := lit w5 99
  have lo5 := z5.lo
  refine ⟨_, _, _, _, built1 _ 99, _, _, _, _, conv_lit _ 99, _, _, _, _, builtI64 _ 2, ?_⟩
  have mc2 : Mod No (w5.alloc (.cells ⟨[.int .u8 ((99 : UInt8).toNat : Int)]⟩ 5 (1, 2))) ((w5.alloc (.cells ⟨[.int .u8 ((99 : UInt8).toNat : Int)]⟩ 5 (1, 2))).alloc (.cells ⟨[.int .i64 2]⟩ 2)) := (Mod.refl No _).alloc _
  refine qPatch_c (n := 3) (frm := 1) (data := [99]) (after := [2]) ((z5.nos mc).nos mc2) (by rw [g3e.2.2]; omega) rfl (rc.nos mc2) (fun _ q hq hR => by cases hq; have := (lo5 _ hR).2; simp only at this; omega) (by omega) rfl (by omega) (.inr ⟨_, _, rfl, AtU.new.at⟩) (fun _ q hq hR => by cases hq; have := (lo5 _ hR).2; simp at this; omega) fun w6 m6 z6 => ⟨_, _, rfl, ?_⟩
  rw [g3e.2.1]
  have z6 : Pz w _ w6 sp d g3 := z6
  have k6 := ((k5.nos mc).nos mc2).step m6
  clear s0 s1 s2 m6 mc2 rc mc k5 z5 m5 mb2 rb mb k4 z4 m4 ma ra z3 k3 z2 lo2 lo3 lo4 lo5
  have M6 := z6.mod
  have lo6 := z6.lo
  have hqw : w.heap.size ≤ q := by omega
  -- an act waits
  refine ⟨_, fun w => build_act w _ _, kLater_c (n := 3) (k := 1) (m := 7) k6 (by simp) (fun x hx => (lo6 x hx).2) fun w7 m7 k7 => ⟨_, rfl, ?_⟩⟩
  have e7 : laterE [] 1 = 0 := by decide
  have l7 : laterL [] (3, 1, 7) = [(3, 1, 7)] := by decide
  rw [e7]
  rw [l7] at k7
  have keepP : ∀ {R : Nat → Prop} {u u' : World} {V : Ps} {L : List Wt}, Pz w R u sp d V → Wk 168 R u q L → Mod (fun z => z = q) u u' → Pz w R u' sp d V := fun hP hW m => hP.keep m (fun x hx e => by
    obtain ⟨_, _, hW⟩ := hW
    have e : x = q := e
    subst e; exact hW.nz hx) fun x hx e => by
      have e : x = q := e
      omega
  have z7 := keepP z6 k6 m7
  have lo7 := z7.lo
  refine kRipe_c z7 k7 (by simp) (fun x hx => (lo7 x hx).2) fun w8 a8 c8 m8 k8 o8 => ⟨_, _, _, rfl, ?_⟩
  have r8 : ([(3, 1, 7)] : List Wt).filter (ripeP g3) = [] := by simp [ripeP, g3s]
  have r8' : ([(3, 1, 7)] : List Wt).filter (fun x => !ripeP g3 x) = [(3, 1, 7)] := by simp [ripeP, g3s]
  rw [r8'] at k8
  rw [r8]
  have z8 := keepP z7 k7 m8
  have hG : Gd g3 := Gd.of z8 s3
  refine One_c (n := 3) z8 hG (fun v hv => of_decide_eq_true (List.all_eq_true.1 g3b v hv)) fun w9 R9 m9 hR9 z9 g9 b9 => ⟨_, _, rfl, ?_⟩
  rw [oneV_eq hG] at z9 g9 b9 ⊢
  rw [gone]
  have gs := gsafe
  generalize (rnds (oneB' 3) (openV g3) g3).2 = V9 at *
  have k9 := k8.keep m9 (fun _ h => h) (Z' := R9) fun x hx e => (hR9 x e).resolve_right (by omega)
  have lo9 := z9.lo
  refine kRipe_c z9 k9 (by simp) (fun x hx => (lo9 x hx).2) fun w10 a10 c10 m10 k10 o10 => ⟨_, _, _, rfl, ?_⟩
  have r10 : ([(3, 1, 7)] : List Wt).filter (ripeP V9) = [(3, 1, 7)] := by simp [ripeP, gs]
  have r10' : ([(3, 1, 7)] : List Wt).filter (fun x => !ripeP V9 x) = [] := by simp [ripeP, gs]
  rw [r10'] at k10
  rw [r10] at o10 ⊢
  have z10 := keepP z9 k9 m10
  obtain ⟨g, rfl, _, hix, _, hld⟩ := actAt (i := 0) (x := (1, 7)) (Te := 71) o10 rfl elemN_acts agg_pact (by simp) rfl
  refine Share.dup (tt rfl (tt rfl (tt rfl (tt rfl (qSafe_c z10 ⟨_, rfl, tt gs (tt rfl ⟨_, hix, _, hld w10 1 (.int .i64 7) 3 (Mod.refl _ _) (by kernel_rfl) rfl, tt rfl (kLen_c k10 ⟨_, rfl, _, rfl, hk w10 z10.mod⟩)⟩)⟩)))))
end
end Go.Proofs.YtocjjigmpgekfaaGreat
end
section
/- Layer 12, the document's rounds: in plain terms, and walked. -/
open Go Go.Den Go.Proofs
namespace Go.Proofs.YtocjjigmpgekfaaGreat
structure Gx (V : Ps) : Prop where
  g : Gd V
  l : V.C.D.left = -1
  acc : ∀ o ∈ V.ons, atD V.C.D o.b = withL o.base (o.l.filter (·.out))
  may : ∀ o ∈ V.ons, ∀ x ∈ o.l, x.out = true → (x.id : Int) ∈ mayL V.opn o.l
section
variable {w w' w0 : World} {R R' : Nat → Prop} {sp d rp r : Nat} {V : Ps} {S : Rs} {K : Value → World → Prop}
theorem Gx.of (hP : Pz w0 R w sp d V) (h : Srt V) : Gx V := by
  obtain ⟨C, hC, hW⟩ := hP.full
  exact ⟨Gd.of hP h, hP.wf.2.2.2.1, hP.ord, hW.may⟩
theorem Gx.wr (h : Gx V) (hD : WF V.C.D) (n : Int) : Gx (wrV V n) := by
  have hg := h.g.wr n
  by_cases he : wrVE V n = 0
  · have hs := h.g.s
    have ho : ∃ o, onOf V n = some o := by
      unfold wrVE at he
      split at he
      · omega
      · split at he
        · omega
        · rename_i e
          cases ho : onOf V n with
          | none => rw [ho] at e; exact absurd rfl e
          | some o => exact ⟨o, rfl⟩
    obtain ⟨o, ho⟩ := ho
    obtain ⟨hom, rfl⟩ := onOf_some ho
    have e : wrV V (o.b : Int) = ⟨{ V.C with D := wrSt V.C.D (o.b : Int) (imgB V o.b) }, V.last, mapX V (markF V o.b)⟩ := by
      unfold wrV; rw [if_pos he, Int.toNat_natCast]
    rw [e] at hg ⊢
    have hb := hs.onlt o hom
    have hil := img_len hs hD hb
    have hat := atD_wrN hb hil h.l
    have hL := markF_like V o.b
    have hmb : mayB V o.b = mayL V.opn o.l := by unfold mayB; rw [ho]
    have hxb : ∀ x ∈ o.l, x.b = o.b := fun x hx => hs.chb o hom x hx
    have hno : ∀ p ∈ V.ons, p.b ≠ o.b → p.l.map (markF V o.b) = p.l := fun p hp e => markF_no fun x hx => by rw [hs.chb p hp x hx]; exact e
    have hmo : ∀ x ∈ o.l, (markF V o.b x).out = (mayL V.opn o.l).contains (x.id : Int) := fun x hx => by
      unfold markF
      rw [if_pos (hxb x hx), hmb]
      show (x.out || _) = _
      cases hxo : x.out with
      | false => rfl
      | true =>
        have := h.may o hom x hx hxo
        rw [Bool.true_or]; symm; simpa using this
    have hsame : ∀ p ∈ V.ons, p.b = o.b → p = o := fun p hp e => on_uniq hs hp hom (by omega)
    refine ⟨hg, ?_, fun p hp => ?_, fun p hp x hx hxo => ?_⟩
    · show (wrSt V.C.D (o.b : Int) (imgB V o.b)).left = -1
      rw [(wr_is hb hil h.l).2]
    · obtain ⟨q, hq, rfl⟩ := List.mem_map.1 hp
      show atD (wrSt V.C.D (o.b : Int) (imgB V o.b)) q.b = withL q.base ((q.l.map (markF V o.b)).filter (·.out))
      rw [hat]
      by_cases e : q.b = o.b
      · have := hsame q hq e
        subst this
        rw [if_pos rfl, List.filter_map, withL_map hL]
        unfold imgB
        rw [ho]
        show withL q.base _ = withL q.base _
        congr 1
        apply List.filter_congr
        intro x hx
        exact (hmo x hx).symm
      · rw [if_neg e, hno q hq e]; exact h.acc q hq
    · obtain ⟨q, hq, rfl⟩ := List.mem_map.1 hp
      rw [opn_mapX hL]
      show (x.id : Int) ∈ mayL V.opn (q.l.map (markF V o.b))
      rw [mayL_map hL]
      obtain ⟨y, hy, rfl⟩ := List.mem_map.1 hx
      rw [hL.id]
      by_cases e : q.b = o.b
      · have := hsame q hq e
        subst this
        rw [hmo y hy] at hxo
        simpa using hxo
      · have : markF V o.b y = y := by unfold markF; rw [if_neg (by rw [hs.chb q hq y hy]; exact e)]
        rw [this] at hxo
        exact h.may q hq y hy hxo
  · have e : wrV V n = V := by unfold wrV; rw [if_neg he]
    rw [e]; exact h
theorem Gx.fl (h : Gx V) : Gx (flV V) := by
  have hf : ∀ {o o' : On}, flOn o = some o' → o' = { o with base := withL o.base (o.l.filter (·.out)), l := o.l.filter fun x => !x.out } := fun {o o'} e => by
    unfold flOn at e
    split at e
    · cases e
    · exact (Option.some.inj e).symm
  refine ⟨h.g.fl, fl_left h.l, fun o' ho' => ?_, fun o' ho' x hx hxo => ?_⟩
  · obtain ⟨o, ho, e⟩ := List.mem_filterMap.1 ho'
    rw [hf e]
    show atD (flSt V.C.D) o.b = withL (withL o.base (o.l.filter (·.out))) ((o.l.filter fun x => !x.out).filter (·.out))
    have : (o.l.filter fun x => !x.out).filter (·.out) = [] := by
      rw [List.filter_eq_nil_iff]
      intro x hx
      have := (List.mem_filter.1 hx).2
      simp at this; simp [this]
    rw [this, atD_fl h.l]
    exact h.acc o ho
  · obtain ⟨o, ho, e⟩ := List.mem_filterMap.1 ho'
    rw [hf e] at hx
    have := (List.mem_filter.1 hx).2
    rw [hxo] at this; cases this
theorem xReady_c {n : Int} (hq : Rx w0 R w rp r S) (hr : Rel V S) (hs : WFS V) (hk : ∀ w', Mod No w w' → K (.int .i64 (readyV V n)) w') : Cal Tryz.prog F_leveeref11_Store_Ready #[.pointer (some ⟨rp, 0, none⟩), .int .i64 n] w K := by
  have hqwf := hq.wf
  obtain ⟨af, hA⟩ := hr
  obtain ⟨rl2, vb, vc, hs2, ba, bc, la, lc, H, hR⟩ := hq
  by_cases hn : 0 ≤ n ∧ n < S.base.length
  · obtain ⟨b, rfl⟩ := Int.eq_ofNat_of_zero_le hn.1
    have hbV := (hA.wf hqwf.1).2 (show b < S.base.length by omega)
    refine rReady11_c hR (f := mayF V b) (@fun K hk => rmay_c hR (hA.may hs hqwf.1 hbV) hk) fun w' m => ?_
    rw [← hA.ready hbV]
    exact hk w' m
  · refine rReady11_c hR (f := fun _ => false) (@fun K hk => rmayNo_c hR (fun x hx e => by have := hqwf.1.blt x hx; omega) hk) fun w' m => ?_
    have e : readyV V n = 0 := by
      unfold readyV
      cases ho : onOf V n with
      | none => rfl
      | some o =>
        exfalso
        have hob := onOf_some ho
        have := hs.onlt o hob.1
        have := (hA.wf hqwf.1).1 this
        omega
    have := hk w' m
    rw [e] at this
    have e2 : (S.l.filter fun x => false && !x.out) = [] := by simp
    rw [e2]; exact this
theorem xWrite_c {n : Int} (hq : Rx w0 R w rp r S) (hr : Rel V S) (hG : Gx V) (hb : Bnd V.C.D 999999) (hk : ∀ w' S', Mod R w w' → Rx w0 (Gro R w w') w' rp r S' → Rel (wrV V n) S' → Gx (wrV V n) → K (.int .i64 (wrVE V n)) w') :
    Cal Tryz.prog F_leveeref11_Store_Write #[.pointer (some ⟨rp, 0, none⟩), .int .i64 n] w K := by
  have hqwf := hq.wf
  obtain ⟨af, hA⟩ := hr
  have hD : WF V.C.D := by rw [← hA.D]; exact hqwf.2.1
  refine rWrite11_c (n := n) (f := mayF V) hq (by rw [hA.D]; exact hG.l) (fun v hv => by rw [hA.D] at hv; exact hb v hv) (fun b hb => ?_) fun w15 m15 z15 => ?_
  · by_cases hbl : b < V.C.D.vs.length
    · exact hA.may hG.g.s hqwf.1 hbl
    · intro i x hx
      have hxb := hqwf.1.blt x (List.mem_of_getElem? hx)
      have : x.b ≠ b := fun e => hbl (by rw [hA.wf hqwf.1]; omega)
      unfold mayF
      rw [decide_eq_false this, Bool.false_and, Bool.false_and]
  · rw [hA.wrE hqwf.1 hG.g.ne]
    exact hk w15 _ m15 z15 (hA.wr hG.g.s hqwf.1 hD hG.l hG.g.ne n) (hG.wr hD n)
theorem xFlush_c (hq : Rx w0 R w rp r S) (hr : Rel V S) (hG : Gx V) (hk : ∀ w' S', Mod R w w' → Rx w0 (Gro R w w') w' rp r S' → Rel (flV V) S' → Gx (flV V) → K (.int .i64 0) w') :
    Cal Tryz.prog F_leveeref11_Store_Flush #[.pointer (some ⟨rp, 0, none⟩)] w K := by
  obtain ⟨af, hA⟩ := hr
  exact rFlush11_c hq fun w' m z => hk w' _ m z (hA.fl hG.g.s hG.l hG.acc) hG.fl
theorem rRound_c {ks : List Int} {a1 : Option Addr} {c1 : Nat} (hq : Rx w0 R w rp r S) (hr : Rel V S) (hG : Gx V) (hb : Bnd V.C.D 1000) (hrow : Row w a1 (iL ks)) (hno : ks ≠ [] → ∀ q, a1 = some q → ¬ R q.block) (hkl : ks.length ≤ 4096)
    (hk : ∀ w' R' S', Mod R w w' → (∀ x, R' x → R x ∨ w.heap.size ≤ x) → Rx w0 R' w' rp r S' → Rel (roundP V ks).1 S' → Gx (roundP V ks).1 → Bnd (roundP V ks).1.C.D 1000 → K (.int .i64 (roundP V ks).2) w') :
    Cal Tryz.prog F_leveeref12_round #[.pointer (some ⟨rp, 0, none⟩), .slice a1 ks.length c1] w K := by
  apply C_leveeref12_round
  unfold D_leveeref12_round
  refine ⟨fun x w1 => ∃ (R1 : Nat → Prop) (S1 : Rs) (W : Ps) (c i : Nat), x = [.int .i64 c, .int .i64 i] ∧ i ≤ ks.length ∧ (ks.take i).foldl stepR (V, 0) = (W, c) ∧ Rx w0 R1 w1 rp r S1 ∧ Rel W S1 ∧ Gx W ∧ Bnd W.C.D (1000 + i) ∧ Row w1 a1 (iL ks) ∧ (ks ≠ [] → ∀ q, a1 = some q → ¬ R1 q.block) ∧ Mod R w w1 ∧ (∀ x, R1 x → R x ∨ w.heap.size ≤ x), fun x _ => (ks.length - nI x 1).toNat,
    ⟨R, S, V, 0, 0, rfl, by omega, by rw [List.take_zero]; rfl, hq, hr, hG, hb, hrow, hno, Mod.refl _ _, fun x hx => .inl hx⟩, ?_⟩
  rintro x w1 ⟨R1, S1, W, c, i, rfl, hi, hf, q1, r1, g1, b1, row1, no1, m1, s1⟩
  have hc : c ≤ i := by
    have := fold_cnt (ks.take i) V 0
    rw [hf, List.length_take] at this
    simp only at this
    omega
  have hz1 := m1.size
  refine ⟨_, rfl, cond_of (fun hb => ?_) (fun hb => ?_)⟩
  · have hi : i < ks.length := by have := of_decide_eq_true hb; omega
    have hkne : ks ≠ [] := fun e => by rw [e] at hi; simp at hi
    obtain ⟨b4, o4, rfl, hat4⟩ := row_some row1 hi
    have hfj : (ks.take (i + 1)).foldl stepR (V, 0) = stepR (W, c) ks[i] := by
      rw [List.take_succ_eq_append_getElem hi, List.foldl_append, hf]; rfl
    have hix : Al (Instr.indexAt 49 (.slice (some ⟨b4, o4, none⟩) ks.length c1) (.int .i64 i)) (.pointer (some ⟨b4, o4 + i, none⟩)) := fun w' => by
      have := index_slice (P := Tryz.prog) (T := 49) (k := 1) (a := ⟨b4, o4, none⟩) (n := ks.length) (c := c1) (kk := .i64) (i := i) (by kernel_rfl) (by omega) (by omega) w'
      rw [add_none, show (i : Int).toNat * 1 = i by omega] at this
      exact this
    refine ⟨_, hix, _, hat4.load (by kernel_rfl) (iL_get hi), xReady_c q1 r1 g1.g.s fun w2 m2 => ⟨_, rfl, ?_⟩⟩
    have hz2 := m2.size
    refine Share.cut (fun z w4 => ∃ (R1 : Nat → Prop) (S1 : Rs) (W : Ps) (c : Nat), z = [.int .i64 c] ∧ (ks.take (i + 1)).foldl stepR (V, 0) = (W, c) ∧ Rx w0 R1 w4 rp r S1 ∧ Rel W S1 ∧ Gx W ∧ Bnd W.C.D (1000 + (i + 1)) ∧ Row w4 (some ⟨b4, o4, none⟩) (iL ks) ∧ ¬ R1 b4 ∧ Mod R w w4 ∧ (∀ x, R1 x → R x ∨ w.heap.size ≤ x))
      (cond_of (fun hb2 => ?_) (fun hb2 => ?_)) ?_
    · have hr0 : readyV W ks[i] ≠ 0 := fun e => by rw [e] at hb2; simp at hb2
      have hat2 := hat4.keep m2 id
      refine ⟨_, hix, _, hat2.load (by kernel_rfl) (iL_get hi), xWrite_c (q1.nos m2) r1 g1 (b1.mono (by omega)) fun w3 S3 m3 q3 r3 g3 => ⟨_, rfl, _, rfl, ?_⟩⟩
      rw [wrap64 (x := (c : Int) + 1) (by omega) (by omega)]
      refine ⟨_, S3, wrV W ks[i], c + 1, rfl, by rw [hfj]; unfold stepR; rw [if_neg hr0], q3, r3, g3, ?_, (row1.nos m2).keep m3 (no1 hkne), ?_, ?_, ?_⟩
      · unfold wrV
        rw [if_pos (ready_wr g1.g.s hr0)]
        exact (Bnd_wr b1 _ _).mono (by omega)
      · rintro (e | e)
        · exact no1 hkne _ rfl e
        · have := hat2.lt; omega
      · exact (m1.no m2).trans m3 fun x hx e => by
          rcases s1 x e with h | h
          · exact h
          · omega
      · rintro x (e | e)
        · exact s1 x e
        · right; omega
    · have h9 : ¬ ((readyV W ks[i] : Int) > 0) := by simpa using hb2
      have hr0 : readyV W ks[i] = 0 := by omega
      exact ⟨R1, S1, W, c, rfl, by rw [hfj]; unfold stepR; rw [if_pos hr0], q1.nos m2, r1, g1, b1.mono (by omega), row1.nos m2, no1 hkne _ rfl, m1.no m2, s1⟩
    rintro z w4 ⟨R4, S4, W4, c4, rfl, f4, q4, r4, g4, b4', row4, no4, m4, s4⟩
    rw [wrap64 (x := (i : Int) + 1) (by omega) (by omega)]
    exact ⟨⟨R4, S4, W4, c4, i + 1, rfl, by omega, f4, q4, r4, g4, b4', row4, fun _ q hq => by cases hq; exact no4, m4, s4⟩, by simp [nI, nth]; omega⟩
  · have hi : i = ks.length := by have := of_decide_eq_false hb; omega
    subst hi
    rw [List.take_length] at hf
    have hrp : roundP V ks = (flV W, c) := by unfold roundP; rw [hf]
    rw [hrp] at hk
    refine xFlush_c q1 r1 g1 fun w5 S5 m5 q5 r5 g5 => ⟨_, rfl, _, rfl, hk w5 _ S5 ?_ ?_ q5 r5 g5 (Bnd_fl g1.l (by omega))⟩
    · exact m1.trans m5 fun x hx e => by
        rcases s1 x e with h | h
        · exact h
        · omega
    · rintro x (e | e)
      · exact s1 x e
      · right; omega
theorem rAll_c (hq : Rx w0 R w rp r S) (hr : Rel V S) (hG : Gx V) (hb : Bnd V.C.D 1000)
    (hk : ∀ w' R' S', Mod R w w' → (∀ x, R' x → R x ∨ w.heap.size ≤ x) → Rx w0 R' w' rp r S' → Rel (allV V).2 S' → Gx (allV V).2 → K (.int .i64 (allV V).1) w') :
    Cal Tryz.prog F_leveeref12_All #[.pointer (some ⟨rp, 0, none⟩)] w K := by
  have hmax : (allV V).1 ≤ 4096000000 := by
    have h1 := rnds_le (nx := dirtyV) (fun V h => h.dirty) (f := openV V) hG.g
    have h2 := open_le hG.g.s
    have h3 := hG.g.s.last
    have h4 : openV V ≤ 1000000 := by omega
    exact Nat.le_trans h1 (Nat.le_trans (Nat.mul_le_mul_right 4096 h4) (by decide))
  have hT : rnds dirtyV (openV V) V = allV V := rfl
  generalize allV V = T at *
  apply C_leveeref12_All
  unfold D_leveeref12_All
  refine LoopC.by (fun m x w1 => ∃ (R1 : Nat → Prop) (S1 : Rs) (W : Ps) (n : Nat), x = [.int .i64 n] ∧ m = openV W ∧ Rx w0 R1 w1 rp r S1 ∧ Rel W S1 ∧ Gx W ∧ Bnd W.C.D 1000 ∧ Mod R w w1 ∧ (∀ x, R1 x → R x ∨ w.heap.size ≤ x) ∧ n + (rnds dirtyV (openV W) W).1 = T.1 ∧ (rnds dirtyV (openV W) W).2 = T.2)
    ⟨R, S, V, 0, rfl, rfl, hq, hr, hG, hb, Mod.refl _ _, fun x hx => .inl hx, by rw [hT]; omega, by rw [hT]⟩ ?_
  rintro m x w1 ⟨R1, S1, W, n, rfl, rfl, q1, r1, g1, b1, m1, s1, hT1, hT2⟩
  have hqwf := q1.wf
  have hz1 := m1.size
  have r1' := r1
  obtain ⟨af, hA⟩ := r1'
  have q1' := q1
  obtain ⟨rl2, vb, vc, hs2, ba, bc, la, lc, H, hR⟩ := q1'
  have hnum := hA.num g1.g.s hqwf.1
  refine ⟨_, rfl, _, _, _, hR.ll, cond_of (fun hb => ?_) (fun hb => ?_)⟩
  · have hpos : 0 < S1.l.length := by have := of_decide_eq_true hb; omega
    have hd := hA.dirty g1.g.s hqwf.1 g1.g.ne
    have hne : dirtyV W ≠ [] := fun e => by
      have h1 : W.ons = [] := by
        have := dirty_len W
        rw [e] at this
        exact List.eq_nil_of_length_eq_zero this.symm
      have h2 : openV W = 0 := by unfold openV Ps.all; rw [h1]; rfl
      omega
    refine ⟨_, rfl, rDirty11_c hR fun w2 a c m2 o2 => ⟨_, _, _, rfl, ?_⟩⟩
    rw [← hd] at o2 ⊢
    have hz2 := m2.size
    refine rRound_c (q1.nos m2) r1 g1 b1 o2.rowU.row (fun _ q hq e => by have := (o2.base hq).1; have := (hqwf.2.2.2 _ e).2; omega) g1.g.dirty fun w3 R3 S3 m3 s3 q3 r3 g3 b3 => ⟨_, rfl, ?_⟩
    rw [rnds_step Gd (fun V h hn => ⟨h.round _, dirty_fewer h hn⟩) (fun V g h => open0_dirty g.ne h) g1.g hne] at hT1 hT2
    dsimp only at hT1 hT2
    rw [wrap64 (x := (n : Int) + ((roundP W (dirtyV W)).2 : Int)) (by omega) (by omega)]
    refine ⟨_, dirty_fewer g1.g hne, R3, S3, (roundP W (dirtyV W)).1, n + (roundP W (dirtyV W)).2, rfl, rfl, q3, r3, g3, b3, ?_, fun x hx => ?_, by omega, hT2⟩
    · exact (m1.no m2).trans m3 fun x hx e => by
        rcases s1 x e with h | h
        · exact h
        · omega
    · rcases s3 x hx with h | h
      · exact s1 x h
      · right; omega
  · have h0 : S1.l.length = 0 := by have := of_decide_eq_false hb; omega
    have hd : dirtyV W = [] := open0_dirty g1.g.ne (by omega)
    rw [rnds_nil hd] at hT1 hT2
    have e1 : n = T.1 := by simpa using hT1
    have e2 : W = T.2 := hT2
    subst e1 e2
    exact ⟨_, rfl, hk w1 R1 S1 m1 s1 q1 r1 g1⟩
theorem step_same {l : Nat} (h : 0 < l) (n : Int) : (if n.tmod l < 0 then n.tmod l + l else n.tmod l) = (n.tmod l + l).tmod l := by
  obtain ⟨h1, h2, h3, h4⟩ := step_in h n
  clear h3 h4
  generalize n.tmod l = t at *
  split
  · rw [Int.tmod_eq_of_lt (by omega) (by omega)]
  · rw [Int.tmod_eq_emod_of_nonneg (by omega), Int.add_emod_right, Int.emod_eq_of_lt (by omega) (by omega)]
theorem rStep_c {n : Int} (hq : Rx w0 R w rp r S) (hr : Rel V S) (hG : Gx V) (hb : Bnd V.C.D 999999) (hk0 : dirtyV V = [] → ∀ w', Mod No w w' → K (.tuple #[.int .i64 0, .int .i64 20]) w')
    (hk : dirtyV V ≠ [] → ∀ w' R' S', Mod R w w' → (∀ x, R' x → R x ∨ w.heap.size ≤ x) → Rx w0 R' w' rp r S' → Rel (wrV V (stepB V n)) S' → Gx (wrV V (stepB V n)) → K (.tuple #[.int .i64 (stepB V n), .int .i64 (wrVE V (stepB V n))]) w') :
    Cal Tryz.prog F_leveeref12_Step #[.pointer (some ⟨rp, 0, none⟩), .int .i64 n] w K := by
  apply C_leveeref12_Step
  unfold D_leveeref12_Step
  have hqwf := hq.wf
  have r1' := hr
  obtain ⟨af, hA⟩ := r1'
  have q1' := hq
  obtain ⟨rl2, vb, vc, hs2, ba, bc, la, lc, H, hR⟩ := q1'
  have hd := hA.dirty hG.g.s hqwf.1 hG.g.ne
  refine rDirty11_c hR fun w1 a c m1 o1 => ⟨_, _, _, rfl, ?_⟩
  rw [← hd] at o1 ⊢
  have hz1 := m1.size
  refine cond_of (fun hb0 => ?_) (fun hb0 => ?_)
  · have h9 : ((dirtyV V).length : Int) = 0 := by simpa using hb0
    exact hk0 (List.eq_nil_of_length_eq_zero (by omega)) w1 m1
  · have h9 : ((dirtyV V).length : Int) ≠ 0 := by simpa using hb0
    have hl : 0 < (dirtyV V).length := by omega
    have hl4 := hG.g.dirty
    obtain ⟨h1, h2, h3, h4⟩ := step_in hl n
    have hss := step_same hl n
    refine ⟨_, rem_run h9, Share.cut (fun z w2 => w1 = w2 ∧ z = [.int .i64 ((n.tmod (dirtyV V).length + (dirtyV V).length).tmod (dirtyV V).length)]) (cond_of (fun hb1 => ⟨rfl, ?_⟩) (fun hb1 => ⟨rfl, ?_⟩)) ?_⟩
    · have hb1 := of_decide_eq_true hb1
      rw [if_pos hb1] at hss
      rw [wrap64 (x := n.tmod (dirtyV V).length + (dirtyV V).length) (by omega) (by omega)]
      exact congrArg (fun z => [Value.int .i64 z]) hss
    · have hb1 := of_decide_eq_false hb1
      rw [if_neg hb1] at hss
      rw [← hss]
    rintro z w2 ⟨rfl, rfl⟩
    generalize he : (n.tmod (dirtyV V).length + (dirtyV V).length).tmod (dirtyV V).length = e at *
    have hi : e.toNat < (dirtyV V).length := by omega
    obtain ⟨b4, o4, rfl, hat4⟩ := row_some o1.rowU.row hi
    have hix : Al (Instr.indexAt 49 (.slice (some ⟨b4, o4, none⟩) (dirtyV V).length c) (.int .i64 e)) (.pointer (some ⟨b4, o4 + e.toNat, none⟩)) := fun w' => by
      have := index_slice (P := Tryz.prog) (T := 49) (k := 1) (a := ⟨b4, o4, none⟩) (n := (dirtyV V).length) (c := c) (kk := .i64) (i := e) (by kernel_rfl) h3 (by omega) w'
      rw [add_none, Nat.mul_one] at this
      exact this
    have hs : stepB V n = (dirtyV V)[e.toNat] := by
      unfold stepB
      rw [he, List.getD_eq_getElem?_getD, List.getElem?_eq_getElem hi]; rfl
    rw [hs] at hk
    have hne : dirtyV V ≠ [] := fun e => by rw [e] at hl; exact absurd hl (by simp)
    have md : Mod No w1 (drew w1) := (Mod.refl No w1).drew
    have M := m1.no md
    have hnb : ¬ R b4 := fun e => by have := (o1.base rfl).1; have := (hqwf.2.2.2 _ e).2; simp only at *; omega
    have l1 := (hat4.keep md id).load (P := Tryz.prog) (T := 3) (by kernel_rfl) (iL_get hi)
    refine ⟨_, rfl, _, hix, _, l1, _, hix, _, l1, xWrite_c (hq.nos M) hr hG hb fun w3 S3 m3 q3 r3 g3 => ⟨_, rfl, ((hat4.keep md id).keep m3 hnb).load (by kernel_rfl) (iL_get hi), hk hne w3 _ S3 ((M.mono fun _ _ h => h.elim).trans m3 fun _ _ h => h) (fun x hx => ?_) q3 r3 g3⟩⟩
    have : (drew w1).heap.size = w1.heap.size := rfl
    rcases hx with h | h
    · exact .inl h
    · right; omega
/-- The blocks of those waiting, as the document has them. -/
def oneR (n : Int) (S : Rs) : Nat → Bool := fun b => S.l.any fun x => decide (x.b = b) && (waitsL S.l n).contains (x.id : Int)
theorem RelA.one {af : Nat → List Int} (h : RelA V S af) (hs : WFS V) (hr : WFR S) (n : Int) : oneB n V = ((List.range S.base.length).filter (oneR n S)).map fun b : Nat => (b : Int) := by
  unfold oneB
  have hl : V.C.D.vs.length = S.base.length := by rw [hr.len, h.D]
  rw [hl]
  congr 1
  apply List.filter_congr
  intro b _
  unfold oneR
  rw [h.waits hs hr, Bool.eq_iff_iff, List.any_eq_true, List.any_eq_true]
  constructor
  · rintro ⟨u, hu, e⟩
    obtain ⟨y, hy, rfl⟩ := (h.all hs hr).1 hu
    exact ⟨y, hy, e⟩
  · rintro ⟨y, hy, e⟩
    exact ⟨setA af y, (h.all hs hr).2 ⟨y, hy, rfl⟩, e⟩
theorem waitsL_in {l : List Ch} {n k : Int} (h : k ∈ waitsL l n) : ∃ x ∈ l, (x.id : Int) = k := by
  obtain ⟨x, hx, e⟩ := cloR_sub l.reverse [n] k h
  exact ⟨x, List.mem_reverse.1 hx, e.symm⟩
theorem rOne_c {id : Int} (hq : Rx w0 R w rp r S) (hr : Rel V S) (hG : Gx V) (hb : Bnd V.C.D 1000)
    (hk : ∀ w' R' S', Mod R w w' → (∀ x, R' x → R x ∨ w.heap.size ≤ x) → Rx w0 R' w' rp r S' → Rel (oneV id V).2 S' → Gx (oneV id V).2 → K (.int .i64 (oneV id V).1) w') :
    Cal Tryz.prog F_leveeref12_One #[.pointer (some ⟨rp, 0, none⟩), .int .i64 id] w K := by
  have hmax : (oneV id V).1 ≤ 4096000000 := by
    have h1 := rnds_le (nx := oneB id) (fun V h => h.one id) (f := openV V) hG.g
    have h2 := open_le hG.g.s
    have h3 := hG.g.s.last
    have h4 : openV V ≤ 1000000 := by omega
    exact Nat.le_trans h1 (Nat.le_trans (Nat.mul_le_mul_right 4096 h4) (by decide))
  have hT : rnds (oneB id) (openV V) V = oneV id V := rfl
  generalize oneV id V = T at *
  apply C_leveeref12_One
  unfold D_leveeref12_One
  refine LoopC.by (fun m x w1 => ∃ (R1 : Nat → Prop) (S1 : Rs) (W : Ps) (n : Nat) (y1 y2 y3 y4 : Value), x = [.int .i64 n, y1, y2, y3, y4] ∧ m = openV W ∧ Rx w0 R1 w1 rp r S1 ∧ Rel W S1 ∧ Gx W ∧ Bnd W.C.D 1000 ∧ Mod R w w1 ∧ (∀ x, R1 x → R x ∨ w.heap.size ≤ x) ∧ n + (rnds (oneB id) (openV W) W).1 = T.1 ∧ (rnds (oneB id) (openV W) W).2 = T.2)
    ⟨R, S, V, 0, _, _, _, _, rfl, rfl, hq, hr, hG, hb, Mod.refl _ _, fun x hx => .inl hx, by rw [hT]; omega, by rw [hT]⟩ ?_
  rintro m x w1 ⟨R1, S1, W, n, y1, y2, y3, y4, rfl, rfl, q1, r1, g1, b1, m1, s1, hT1, hT2⟩
  have hqwf := q1.wf
  have hz1 := m1.size
  have r1' := r1
  obtain ⟨af, hA⟩ := r1'
  have q1' := q1
  obtain ⟨rl2, vb, vc, hs2, ba, bc, la, lc, H, hR⟩ := q1'
  have hwl : (waitsL S1.l id).length ≤ 1000000 := by
    have h1 := waitsL_len hqwf.1.srt id
    have h2 := hqwf.1.llen
    have h3 := hqwf.1.last
    omega
  refine rWaits11_c hR (n := id) fun w2 aw cw m2 row2 => ⟨_, _, _, rfl, cond_of (fun hb => ?_) (fun hb => ?_)⟩
  · have h9 : ((waitsL S1.l id).length : Int) = 0 := by simpa using hb
    have hw0 : waitsL S1.l id = [] := List.eq_nil_of_length_eq_zero (by omega)
    have ho : oneB id W = [] := by
      refine List.eq_nil_iff_forall_not_mem.2 fun k hk => ?_
      obtain ⟨x, hx, _, _, hw⟩ := mem_oneB.1 hk
      rw [hA.waits g1.g.s hqwf.1, hw0] at hw
      cases hw
    rw [rnds_nil ho] at hT1 hT2
    have e1 : n = T.1 := by simpa using hT1
    have e2 : W = T.2 := hT2
    subst e1 e2
    exact ⟨_, rfl, hk w2 R1 S1 (m1.no m2) s1 (q1.nos m2) r1 g1⟩
  have h9 : ((waitsL S1.l id).length : Int) ≠ 0 := by simpa using hb
  have hz2 := m2.size
  have hbase : S1.base.length ≤ 4096 := by rw [hqwf.1.len]; exact hqwf.2.1.hi
  have h2 := hR.nos m2
  have hpl : ∀ b, (((List.range b).filter (oneR id S1)).map fun b : Nat => (b : Int)).length ≤ b := fun b => by
    rw [List.length_map]
    have := List.length_filter_le (oneR id S1) (List.range b)
    rwa [List.length_range] at this
  refine ⟨fun x w3 => ∃ (b : Nat) (a : Option Addr) (c : Nat) (y2 y3 : Value), x = [.slice a (((List.range b).filter (oneR id S1)).map fun b : Nat => (b : Int)).length c, .int .i64 b, y2, y3] ∧ b ≤ S1.base.length ∧
      Own Tryz.prog w3 w2.heap.size 49 1 a (((List.range b).filter (oneR id S1)).map fun b : Nat => (b : Int)).length c (iL (((List.range b).filter (oneR id S1)).map fun b : Nat => (b : Int))) ∧ Mod No w2 w3, fun x _ => (S1.base.length - nI x 1).toNat,
    ⟨0, none, 0, _, _, rfl, by omega, Own.nil elemZ_ints, Mod.refl _ _⟩, ?_⟩
  rintro x w3 ⟨b, a, c, y2', y3', rfl, hbl, o3, m3⟩
  have hz3 := m3.size
  have h3 := h2.nos m3
  refine ⟨_, rfl, _, rfl, _, _, _, h3.lb, cond_of (fun hb3 => ?_) (fun hb3 => ?_)⟩
  · have hbl : b < S1.base.length := by have := of_decide_eq_true hb3; omega
    have hpb := hpl b
    refine ⟨fun x w4 => w3 = w4 ∧ ∃ i : Nat, x = [.bool (S1.l.any fun x => decide (x.b = b) && ((waitsL S1.l id).take i).contains (x.id : Int)), .int .i64 i] ∧ i ≤ (waitsL S1.l id).length, fun x _ => ((waitsL S1.l id).length - nI x 1).toNat,
      ⟨rfl, 0, by rw [List.take_zero]; congr 2; symm; rw [List.any_eq_false]; intro x _; simp, by omega⟩, ?_⟩
    rintro x w4 ⟨rfl, i, rfl, hi⟩
    refine ⟨_, rfl, cond_of (fun hb4 => ?_) (fun hb4 => ?_)⟩
    · have hi : i < (waitsL S1.l id).length := by have := of_decide_eq_true hb4; omega
      obtain ⟨b4, o4, ea4, hat4⟩ := row_some (row2.nos m3) hi
      obtain ⟨x0, hx0, e0⟩ := waitsL_in (List.getElem_mem hi)
      have ht : (S1.l.any fun x => decide (x.b = b) && ((waitsL S1.l id).take (i + 1)).contains (x.id : Int)) = ((S1.l.any fun x => decide (x.b = b) && ((waitsL S1.l id).take i).contains (x.id : Int)) || decide (x0.b = b)) := by
        rw [List.take_succ_eq_append_getElem hi, ← e0, Bool.eq_iff_iff, Bool.or_eq_true, List.any_eq_true, List.any_eq_true]
        constructor
        · rintro ⟨u, hu, e⟩
          simp only [Bool.and_eq_true, decide_eq_true_eq, List.contains_iff_mem, List.mem_append, List.mem_singleton] at e
          rcases e.2 with e2 | e2
          · left
            exact ⟨u, hu, by simp only [Bool.and_eq_true, decide_eq_true_eq, List.contains_iff_mem]; exact ⟨e.1, e2⟩⟩
          · right
            have : u = x0 := srt_uniq hqwf.1.srt hu hx0 (by omega)
            rw [← this]; exact decide_eq_true e.1
        · rintro (⟨u, hu, e⟩ | e)
          · simp only [Bool.and_eq_true, decide_eq_true_eq, List.contains_iff_mem] at e
            exact ⟨u, hu, by simp only [Bool.and_eq_true, decide_eq_true_eq, List.contains_iff_mem, List.mem_append]; exact ⟨e.1, .inl e.2⟩⟩
          · exact ⟨x0, hx0, by simp only [Bool.and_eq_true, decide_eq_true_eq, List.contains_iff_mem, List.mem_append, List.mem_singleton]; exact ⟨of_decide_eq_true e, .inr trivial⟩⟩
      rw [ea4]
      refine ⟨_, index_slice (k := 1) (by kernel_rfl) (by omega) (by omega), ?_⟩
      rw [add_none, show (i : Int).toNat * 1 = i by omega]
      refine ⟨_, hat4.load (by kernel_rfl) (iL_get hi), rBlock11_c h3 (fun hno => absurd e0 (hno x0 hx0)) fun x hx ex => ?_⟩
      have : x = x0 := srt_uniq hqwf.1.srt hx hx0 (by omega)
      subst this
      refine ⟨_, _, rfl, Share.cut (fun z w6 => w3 = w6 ∧ z = [.bool (S1.l.any fun x => decide (x.b = b) && ((waitsL S1.l id).take (i + 1)).contains (x.id : Int))]) ⟨_, rfl, cond_of (fun hb5 => ⟨rfl, ?_⟩) (fun hb5 => ⟨rfl, ?_⟩)⟩ ?_⟩
      · rw [ht, hb5]; rfl
      · rw [ht, hb5, Bool.false_or]
        exact congrArg (fun b => [Value.bool b]) (by rw [Bool.eq_iff_iff]; simp only [beq_iff_eq, decide_eq_true_eq]; omega)
      rintro z w6 ⟨rfl, rfl⟩
      rw [wrap64 (x := (i : Int) + 1) (by omega) (by omega)]
      exact ⟨⟨rfl, i + 1, rfl, by omega⟩, by simp [nI, nth]; omega⟩
    · have hi : i = (waitsL S1.l id).length := by have := of_decide_eq_false hb4; omega
      subst hi
      rw [List.take_length]
      have hsn : ((List.range (b + 1)).filter (oneR id S1)).map (fun b : Nat => (b : Int)) = ((List.range b).filter (oneR id S1)).map (fun b : Nat => (b : Int)) ++ (if oneR id S1 b = true then [(b : Int)] else []) := by
        rw [List.range_succ, List.filter_append, List.map_append]
        congr 1
        split <;> rename_i e
        · rw [show [b].filter (oneR id S1) = [b] by simp only [List.filter_cons, e]; rfl]; rfl
        · rw [show [b].filter (oneR id S1) = [] by simp only [List.filter_cons, if_neg e]; rfl]; rfl
      refine ⟨_, rfl, Share.cut (fun z w9 => ∃ (a : Option Addr) (c : Nat), z = [.slice a (((List.range (b + 1)).filter (oneR id S1)).map fun b : Nat => (b : Int)).length c] ∧
        Own Tryz.prog w9 w2.heap.size 49 1 a (((List.range (b + 1)).filter (oneR id S1)).map fun b : Nat => (b : Int)).length c (iL (((List.range (b + 1)).filter (oneR id S1)).map fun b : Nat => (b : Int))) ∧ Mod No w2 w9) (cond_of (fun hb5 => ?_) (fun hb5 => ?_)) ?_⟩
      · have hb5 : oneR id S1 b = true := hb5
        rw [if_pos hb5] at hsn
        obtain ⟨a', c', w8, s8, o8, m8⟩ := snocI (v := (b : Int)) o3 (by omega) hz3
        refine ⟨_, _, _, rfl, _, _, _, _, builtI _ _, _, _, _, w8, s8, a', c', ?_, ?_, m3.up m8 (Nat.le_refl _)⟩
        · rw [hsn, List.length_append]; rfl
        · rw [hsn, List.length_append]; exact o8
      · have hb5 : oneR id S1 b = false := hb5
        rw [if_neg (by rw [hb5]; simp), List.append_nil] at hsn
        exact ⟨a, c, by rw [hsn]; rfl, by rw [hsn]; exact o3, m3⟩
      rintro z w9 ⟨a', c', rfl, o9, m9⟩
      rw [wrap64 (x := (b : Int) + 1) (by omega) (by omega)]
      exact ⟨⟨b + 1, a', c', _, _, rfl, by omega, o9, m9⟩, by simp [nI, nth]; omega⟩
  · have hbe : b = S1.base.length := by have := of_decide_eq_false hb3; omega
    subst hbe
    rw [← hA.one g1.g.s hqwf.1 id] at o3 ⊢
    have hne : oneB id W ≠ [] := fun e => by
      obtain ⟨k, hk⟩ := List.exists_mem_of_ne_nil (waitsL S1.l id) (fun e => h9 (by rw [e]; rfl))
      have hk2 : k ∈ waitsV W id := by rw [hA.waits g1.g.s hqwf.1]; exact hk
      obtain ⟨x, hx, ex⟩ := waits_open g1.g.s g1.g.f hk2
      obtain ⟨o, ho, hxo⟩ := mem_all.1 hx
      have := mem_oneB.2 ⟨x, hx, by have := g1.g.s.chb o ho x hxo; have := g1.g.s.onlt o ho; omega, rfl, by rw [ex]; exact hk2⟩
      rw [e] at this; cases this
    refine ⟨_, rfl, _, _, _, rfl, ?_⟩
    have M3 := m2.no m3
    refine rRound_c (q1.nos M3) r1 g1 b1 o3.rowU.row (fun _ q hq e => by have := (o3.base hq).1; have := (hqwf.2.2.2 _ e).2; omega) (g1.g.one id) fun w4 R4 S4 m4 s4 q4 r4 g4 b4 => ⟨_, rfl, ?_⟩
    rw [rnds_step Gd (fun V h hn => ⟨h.round _, one_fewer h id hn⟩) (fun V g h => open0_one id h) g1.g hne] at hT1 hT2
    dsimp only at hT1 hT2
    rw [wrap64 (x := (n : Int) + ((roundP W (oneB id W)).2 : Int)) (by omega) (by omega)]
    refine ⟨_, one_fewer g1.g id hne, R4, S4, (roundP W (oneB id W)).1, n + (roundP W (oneB id W)).2, _, _, _, _, rfl, rfl, q4, r4, g4, b4, ?_, fun x hx => ?_, by omega, hT2⟩
    · exact (m1.no M3).trans m4 fun x hx e => by
        rcases s1 x e with h | h
        · exact h
        · omega
    · rcases s4 x hx with h | h
      · exact s1 x h
      · right; omega
end
end Go.Proofs.YtocjjigmpgekfaaGreat
end
section
/- Layer 12: changes laid in both stores; both alike. -/
open Go Go.Den Go.Proofs
namespace Go.Proofs.YtocjjigmpgekfaaGreat
/-- A change: its block, where it begins, its bytes, what it waits for, a block that is written behind it, whether all is flushed. -/
structure A12 where
  n : Int
  f : Int
  xs : List UInt8
  af : List Int
  wb : Int
  fl : Bool
def A12.fit (x : A12) (w : World) (cs : List Value) : Prop := ∃ (ad : Option Addr) (cd : Nat) (aa : Option Addr) (ca : Nat), cs = [.int .i64 x.n, .int .i64 x.f, .slice ad x.xs.length cd, .slice aa x.af.length ca, .int .i64 x.wb, .bool x.fl] ∧
  Row w ad (u8L x.xs) ∧ (ad = none → x.xs.length = 0 ∧ cd = 0) ∧ x.xs.length ≤ 9223372036854775807 ∧ Row w aa (iL x.af) ∧ x.af.length ≤ 9223372036854775807
def Acts12 (w : World) (a : Option Addr) (acts : List A12) : Prop :=
  acts = [] ∨ ∃ (b o : Nat) (H : List Value), a = some ⟨b, o, none⟩ ∧ At w b o H ∧ H.length = acts.length * 6 ∧ ∀ (r : Nat) (x : A12), acts[r]? = some x → x.fit w ((H.drop (r * 6)).take 6)
/-- From two regions on, some steps. -/
structure Sx (R R2 : Nat → Prop) (w : World) (R' R2' : Nat → Prop) (w' : World) : Prop where
  m : Mod (fun x => R x ∨ R2 x) w w'
  s : ∀ x, R' x ∨ R2' x → (R x ∨ R2 x) ∨ w.heap.size ≤ x
section
variable {w w' w0 w'' : World} {R R2 R' R2' : Nat → Prop} {sp d rp r : Nat} {V : Ps} {S : Rs} {K : Value → World → Prop}
theorem Sx.refl : Sx R R2 w R R2 w := ⟨Mod.refl _ _, fun _ h => .inl h⟩
theorem Sx.no (h : Sx R R2 w R' R2' w') (m : Mod No w' w'') : Sx R R2 w R' R2' w'' := ⟨h.m.no m, h.s⟩
theorem Sx.P {R3 : Nat → Prop} (h : Sx R R2 w R' R2' w') (m : Mod R' w' w'') (s : ∀ x, R3 x → R' x ∨ w'.heap.size ≤ x) : Sx R R2 w R3 R2' w'' where
  m := h.m.trans m fun x hx e => by
    rcases h.s x (.inl e) with h | h
    · exact h
    · omega
  s x e := by
    have := h.m.size
    rcases e with e | e
    · rcases s x e with e | e
      · exact h.s x (.inl e)
      · right; omega
    · exact h.s x (.inr e)
theorem Sx.Q {R3 : Nat → Prop} (h : Sx R R2 w R' R2' w') (m : Mod R2' w' w'') (s : ∀ x, R3 x → R2' x ∨ w'.heap.size ≤ x) : Sx R R2 w R' R3 w'' where
  m := h.m.trans m fun x hx e => by
    rcases h.s x (.inr e) with h | h
    · exact h
    · omega
  s x e := by
    have := h.m.size
    rcases e with e | e
    · exact h.s x (.inl e)
    · rcases s x e with e | e
      · exact h.s x (.inr e)
      · right; omega
theorem gro_sub {R : Nat → Prop} {w w' : World} : ∀ x, Gro R w w' x → R x ∨ w.heap.size ≤ x := fun x e => by
  rcases e with e | e
  · exact .inl e
  · exact .inr e.1
theorem Sx.stepP (h : Sx R R2 w R' R2' w') (m : Mod R' w' w'') : Sx R R2 w (Gro R' w' w'') R2' w'' := h.P m gro_sub
theorem Sx.stepQ (h : Sx R R2 w R' R2' w') (m : Mod R2' w' w'') : Sx R R2 w R' (Gro R2' w' w'') w'' := h.Q m gro_sub
theorem T11.P {V' : Ps} {R3 : Nat → Prop} (h : T11 w0 R R2 w sp d rp r V S) (m : Mod R w w') (s : ∀ x, R3 x → R x ∨ w.heap.size ≤ x) (hp : Pz w0 R3 w' sp d V') : T11 w0 R3 R2 w' sp d rp r V' S :=
  ⟨hp, h.q.keep m (fun x h2 h1 => h.dis x h1 h2) (fun x hx e => by have := (h.p.lo x e).1; omega), fun x h3 h2 => by
    rcases s x h3 with e | e
    · exact h.dis x e h2
    · have := (h.q.wf.2.2.2 x h2).2; omega⟩
theorem T11.Q {S' : Rs} {R3 : Nat → Prop} (h : T11 w0 R R2 w sp d rp r V S) (m : Mod R2 w w') (s : ∀ x, R3 x → R2 x ∨ w.heap.size ≤ x) (hq : Rx w0 R3 w' rp r S') : T11 w0 R R3 w' sp d rp r V S' :=
  ⟨h.p.keep m (fun x h1 h2 => h.dis x h1 h2) (fun x hx e => by have := (h.q.wf.2.2.2 x e).1; omega), hq, fun x h1 h3 => by
    rcases s x h3 with e | e
    · exact h.dis x h1 e
    · have := (h.p.lo x h1).2; omega⟩
theorem Acts12.get {acts : List A12} {a : Option Addr} {l cc i : Nat} {x : A12} (h : Acts12 w a acts) (m : Mod No w w') (hl : acts.length = l) (hx : acts[i]? = some x) :
    ∃ q : Addr, Al (Instr.indexAt 55 (.slice a l cc) (.int .i64 i)) (.pointer (some q)) ∧ ∃ cs, x.fit w cs ∧ Ru (Instr.loadAt 172 (.pointer (some q))) w' (.agg ⟨cs⟩) w' := by
  have hi := (List.getElem?_eq_some_iff.1 hx).1
  rcases h with h | ⟨b, o, H, rfl, hat, hlen, hf⟩
  · rw [h] at hi; simp at hi
  refine ⟨⟨b, o + i * 6, none⟩, fun w' => ?_, _, hf i x hx, ?_⟩
  · have := index_slice (P := Tryz.prog) (T := 55) (k := 6) (a := ⟨b, o, none⟩) (n := l) (c := cc) (kk := .i64) (i := i) (by kernel_rfl) (by omega) (by omega) w'
    rw [add_none, show (i : Int).toNat = i by omega] at this
    exact this
  · exact (hat.keep m id).loadAgg (P := Tryz.prog) (T := 172) (i := i * 6) (n := 6) (by kernel_rfl) (by omega)
theorem alloc_chg12 (w : World) : (Instr.alloc 172 true (.tuple #[])).run Tryz.prog w = .ok (.pointer (some ⟨w.heap.size, 0, none⟩)) (w.alloc (.cells ⟨[.int .i64 0, .int .i64 0, .slice none 0 0, .slice none 0 0, .int .i64 0, .bool false]⟩ 172)) := by kernel_rfl
theorem agg_chg12 : aggN Tryz.prog 172 = some 6 := by kernel_rfl
theorem snoc64 {base l c : Nat} {a : Option Addr} {xs : List Int} {v : Int} (h : Own Tryz.prog w base 37 1 a l c (iL xs)) (hl : l ≤ 1000000) (hb : base ≤ w.heap.size) :
    ∃ (a' : Option Addr) (c' : Nat) (w4 : World), Ru (Builtin.append_ #[37, 37] 37 #[.slice a l c, .slice (some ⟨w.heap.size, 0, none⟩) 1 1]) (w.alloc (.cells ⟨[.int .i64 v]⟩ 2)) (.slice a' (l + 1) c') w4 ∧ Own Tryz.prog w4 base 37 1 a' (l + 1) c' (iL (xs ++ [v])) ∧ Mod (fun x => base ≤ x) w w4 := by
  obtain ⟨a', c', w4, s1, s2, s3⟩ := h.snoc (ty := 37) (t := 2) (ys := [.int .i64 v]) elemZ_64 (by omega) rfl (by intro u hu; simp at hu; subst hu; rfl) (by omega) (by omega) hb
  have e : iL xs ++ [.int .i64 v] = iL (xs ++ [v]) := by unfold iL; rw [List.map_append]; rfl
  rw [e] at s2
  exact ⟨a', c', w4, s1, s2, s3⟩
theorem lay12_c {acts : List A12} {a : Option Addr} {l c : Nat} (ha : Acts12 w0 a acts) (hl : acts.length = l) (h : T11 w0 R R2 w sp d rp r (zeroV 5 5) (newRs (newSt 5)))
    (hk : ∀ w' R' R2' V S, T11 w0 R' R2' w' sp d rp r V S → Rel V S → Srt V → Bd V 100 → V.C.D.vs.length = 5 → Sx R R2 w R' R2' w' → K (.bool true) w') :
    Cal Tryz.prog F_leveelaw12_lay #[.pointer (some ⟨sp, 0, none⟩), .pointer (some ⟨rp, 0, none⟩), .slice a l c] w K := by
  apply C_leveelaw12_lay
  unfold D_leveelaw12_lay
  refine ⟨fun x w1 => ∃ (i : Nat) (y1 y2 y3 y4 y5 y6 : Value) (R' R2' : Nat → Prop) (V : Ps) (S : Rs), x = [.int .i64 i, y1, y2, y3, y4, y5, y6] ∧ i ≤ 30 ∧ T11 w0 R' R2' w1 sp d rp r V S ∧ Rel V S ∧ Srt V ∧ Bd V (3 * i) ∧ V.C.D.vs.length = 5 ∧ Sx R R2 w R' R2' w1, fun x _ => (30 - nI x 0).toNat,
    ⟨0, _, _, _, _, _, _, _, _, _, _, rfl, by omega, h, Rel.start 5 5, (fun o ho => by cases ho), Bd.start 5 5, by simp [zeroV, newSt], Sx.refl⟩, ?_⟩
  rintro x w1 ⟨i, y1, y2, y3, y4, y5, y6, R1, R21, V, S, rfl, hi30, t1, r1, s1, b1, h5, x1⟩
  refine Share.cut (fun z w8 => w1 = w8 ∧ z = [.bool (decide (i < l ∧ i < 30))]) ⟨_, rfl, cond_of (fun hb => ⟨rfl, ?_⟩) (fun hb => ⟨rfl, ?_⟩)⟩ ?_
  · have := of_decide_eq_true hb
    exact bcell (by omega)
  · have := of_decide_eq_false hb
    exact bcellF (by omega)
  rintro z w8 ⟨rfl, rfl⟩
  refine ⟨_, rfl, cond_of (fun hb => ?_) (fun hb => hk w1 R1 R21 V S t1 r1 s1 ⟨b1.ver.mono (by omega), by have := b1.last; omega⟩ h5 x1)⟩
  obtain ⟨hil, hi3⟩ := of_decide_eq_true hb
  have hM1 := t1.p.mod
  obtain ⟨q, hidx, cs, hfit, hload⟩ := ha.get (i := i) (cc := c) hM1 hl (List.getElem?_eq_getElem (by omega))
  have hst : RuU (Instr.storeAt 172 (.pointer (some ⟨w1.heap.size, 0, none⟩)) (.agg ⟨cs⟩)) (w1.alloc (.cells ⟨[.int .i64 0, .int .i64 0, .slice none 0 0, .slice none 0 0, .int .i64 0, .bool false]⟩ 172)) (w1.alloc (.cells ⟨cs⟩ 172)) := by
    obtain ⟨ad, cd, aa, ca, rfl, _⟩ := hfit
    refine store_new agg_chg12 rfl rfl ?_
    intro v hv
    simp at hv
    rcases hv with rfl | rfl | rfl | rfl | rfl | rfl <;> rfl
  obtain ⟨ad, cd, aa, ca, rfl, had, hadn, had63, haa, haa63⟩ := hfit
  generalize acts[i] = A at *
  refine ⟨_, rfl, q, hidx, _, hload, _, _, alloc_chg12 _, _, hst, ?_⟩
  have m3 : Mod No w1 (w1.alloc (.cells ⟨[.int .i64 A.n, .int .i64 A.f, .slice ad A.xs.length cd, .slice aa A.af.length ca, .int .i64 A.wb, .bool A.fl]⟩ 172)) := (Mod.refl No w1).alloc _
  have a3 : At (w1.alloc (.cells ⟨[.int .i64 A.n, .int .i64 A.f, .slice ad A.xs.length cd, .slice aa A.af.length ca, .int .i64 A.wb, .bool A.fl]⟩ 172)) w1.heap.size 0 [.int .i64 A.n, .int .i64 A.f, .slice ad A.xs.length cd, .slice aa A.af.length ca, .int .i64 A.wb, .bool A.fl] := AtU.new.at
  generalize w1.alloc (.cells ⟨[.int .i64 A.n, .int .i64 A.f, .slice ad A.xs.length cd, .slice aa A.af.length ca, .int .i64 A.wb, .bool A.fl]⟩ 172) = w3 at *
  have t3 := t1.nos m3
  have o3 : Out w0 R1 R21 w3 w1.heap.size := t1.fresh (Nat.le_refl _) a3.lt
  have ld : ∀ {w2 : World}, At w2 w1.heap.size 0 [.int .i64 A.n, .int .i64 A.f, .slice ad A.xs.length cd, .slice aa A.af.length ca, .int .i64 A.wb, .bool A.fl] → ∀ (j : Nat) (v : Value) (T : TypeId), scal Tryz.prog T = true → ([.int .i64 A.n, .int .i64 A.f, .slice ad A.xs.length cd, .slice aa A.af.length ca, .int .i64 A.wb, .bool A.fl] : List Value)[j]? = some v → Ru (Instr.loadAt T (.pointer (some (Addr.add ⟨w1.heap.size, 0, none⟩ j)))) w2 v w2 := by
    intro w2 a j v T hT hj
    rw [add_none]; exact a.load hT hj
  have hlast := b1.last
  have hS : S.last = V.last := by obtain ⟨af, hA⟩ := r1; exact hA.last
  have haa3 := (haa.nos hM1).nos m3
  -- what is ahead
  refine ⟨fun x w5 => ∃ (j : Nat) (a9 : Option Addr) (c9 : Nat) (y z : Value), x = [.slice a9 j c9, .int .i64 j, y, z] ∧ j ≤ 4 ∧ j ≤ A.af.length ∧ Own Tryz.prog w5 w3.heap.size 37 1 a9 j c9 (iL ((A.af.take j).map (aheadN V.last))) ∧ Mod No w3 w5, fun x _ => (4 - nI x 1).toNat,
    ⟨0, none, 0, _, _, rfl, by omega, by omega, Own.nil elemZ_64, Mod.refl _ _⟩, ?_⟩
  rintro x w5 ⟨j, a9, c9, y, z9, rfl, hj4, hja, o9, m5⟩
  have t5 := t3.nos m5
  have a5 := a3.keep m5 id
  have hz5 := m5.size
  have hl5 := t5.q.llast
  rw [hS] at hl5
  refine Share.cut (fun z w6 => w5 = w6 ∧ z = [.bool (decide (j < A.af.length ∧ j < 4 ∧ 0 < V.last))]) ⟨_, rfl, _, _, _, ld a5 3 _ _ (by kernel_rfl) rfl, cond_of (fun hb1 => cond_of (fun hb2 => ⟨_, rfl, _, hl5, rfl, ?_⟩) (fun hb2 => ⟨rfl, ?_⟩)) (fun hb1 => ⟨rfl, ?_⟩)⟩ ?_
  · have h1 := of_decide_eq_true hb1
    have h2 := of_decide_eq_true hb2
    exact bcell (by omega)
  · have h2 := of_decide_eq_false hb2
    exact bcellF (by omega)
  · have h1 := of_decide_eq_false hb1
    exact bcellF (by omega)
  rintro z w6 ⟨rfl, rfl⟩
  refine ⟨_, rfl, cond_of (fun hb1 => ?_) (fun hb1 => ?_)⟩
  · obtain ⟨g1, g2, g3⟩ := of_decide_eq_true hb1
    have md : Mod No w5 (drew w5) := (Mod.refl No w5).drew
    have a6 := a5.drew
    have hl6 := t5.drew.q.llast
    rw [hS] at hl6
    obtain ⟨b4, o4, rfl, hat4⟩ := row_some ((haa3.nos m5).nos md) g1
    have hb1 : A.af[j].tmod V.last < V.last := Int.tmod_lt_of_pos _ (by omega)
    have hb2 : -(V.last : Int) < A.af[j].tmod V.last := by
      have := Int.tmod_lt_of_pos (-A.af[j]) (b := (V.last : Int)) (by omega)
      rw [Int.neg_tmod] at this; omega
    refine ⟨_, _, _, ld a6 3 _ _ (by kernel_rfl) rfl, _, rfl, _, index_slice (k := 1) (by kernel_rfl) (by omega) (by omega), ?_⟩
    rw [add_none, show (j : Int).toNat * 1 = j by omega]
    refine ⟨_, hat4.load (by kernel_rfl) (iL_get g1), _, rfl, _, hl6, _, rem_run (by omega), Share.cut (fun z w7 => drew w5 = w7 ∧ z = [.int .i64 (if A.af[j].tmod V.last < 0 then -(A.af[j].tmod V.last) else A.af[j].tmod V.last)]) (cond_of (fun hb => ⟨rfl, ?_⟩) (fun hb => ⟨rfl, ?_⟩)) ?_⟩
    · have hb := of_decide_eq_true hb
      rw [if_pos hb, wrap64 (x := 0 - A.af[j].tmod V.last) (by omega) (by omega), Int.zero_sub]
    · have hb := of_decide_eq_false hb
      rw [if_neg hb]
    rintro z w7 ⟨rfl, rfl⟩
    have hah : IntKind.i64.wrap ((V.last : Int) - (if A.af[j].tmod V.last < 0 then -(A.af[j].tmod V.last) else A.af[j].tmod V.last)) = aheadN V.last A.af[j] := by
      unfold aheadN
      rw [wrap64 (by split <;> omega) (by split <;> omega)]
    refine ⟨_, _, _, rfl, _, rfl, _, hl6, _, rfl, ?_⟩
    rw [hah]
    have hzd : (drew w5).heap.size = w5.heap.size := rfl
    obtain ⟨a', c', w9, s9, o9', m9⟩ := snoc64 (v := aheadN V.last A.af[j]) (o9.nos md) (by omega) (by omega)
    refine ⟨_, _, _, _, builtI64 _ _, _, _, _, w9, s9, ?_⟩
    rw [wrap64 (x := (j : Int) + 1) (by omega) (by omega)]
    refine ⟨⟨j + 1, a', c', _, _, rfl, by omega, by omega, ?_, (m5.no md).up m9 (Nat.le_refl _)⟩, by simp [nI, nth]; omega⟩
    rw [List.take_succ_eq_append_getElem g1, List.map_append]
    exact o9'
  -- the change
  have hil2 : ((A.af.take j).map (aheadN V.last)).length = j := by simp; omega
  generalize (A.af.take j).map (aheadN V.last) = ids at *
  have o5 := o3.nos m5
  have had5 := ((had.nos hM1).nos m3).nos m5
  have hb3 : w1.heap.size ≤ w3.heap.size := m3.size
  have hlo5 := t5.p.lo
  have hlo5q := t5.q.wf.2.2.2
  have hlo1 := t1.p.lo
  have hlo1q := t1.q.wf.2.2.2
  have hidn : ids ≠ [] → ∀ q, a9 = some q → ¬ R1 q.block ∧ ¬ R21 q.block := fun hne q hq => by
    have := (o9.base hq).1
    exact ⟨fun e => by have := (hlo1 _ e).2; omega, fun e => by have := (hlo1q _ e).2; omega⟩
  have hdn : A.xs ≠ [] → ∀ q, ad = some q → ¬ R1 q.block ∧ ¬ R21 q.block := fun hne q hq => by
    have := Row.lt had (u8L_ne hne) hq
    exact ⟨fun e => by have := (hlo1 _ e).1; omega, fun e => by have := (hlo1q _ e).1; omega⟩
  have hwf := t5.p.wf
  have hqwf := t5.q.wf
  have r1' := r1
  obtain ⟨af, hA⟩ := r1'
  have x5 := (x1.no m3).no m5
  refine ⟨_, ld a5 0 _ _ (by kernel_rfl) rfl, _, ld a5 1 _ _ (by kernel_rfl) rfl, _, _, _, ld a5 2 _ _ (by kernel_rfl) rfl, _, _, _, rfl, ?_⟩
  refine qPatch_c (n := A.n) (frm := A.f) (data := A.xs) (after := ids) t5.p (by omega) rfl had5 (fun hne q hq => (hdn hne q hq).1) (by omega) hil2 (by omega) o9.rowU.row (fun hne q hq => (hidn hne q hq).1) fun w10 m10 z10 => ⟨_, _, rfl, ?_⟩
  have t10 := t5.stepP m10 z10
  have a10 := a5.keep m10 o5.p
  have o10 := o5.stepP m10
  have x10 := x5.stepP m10
  have had10 : Row w10 ad (u8L A.xs) := by
    by_cases hne : A.xs = []
    · rw [hne]; exact .inl rfl
    · exact had5.keep m10 fun q hq => (hdn hne q hq).1
  have hid10 : Row w10 a9 (iL ids) := by
    by_cases hne : ids = []
    · rw [hne]; exact .inl rfl
    · exact o9.rowU.row.keep m10 fun q hq => (hidn hne q hq).1
  have hN : patNR S A.n A.f A.xs ids = patN V A.n A.f A.xs ids := (hA.pat hwf.1 hqwf.1 hwf.2.2.2.2 A.n A.f A.xs ids).2
  have hrel := (hA.pat hwf.1 hqwf.1 hwf.2.2.2.2 A.n A.f A.xs ids).1
  have hE := hA.patE hqwf.1 A.n A.f A.xs ids
  have s10 : Srt (patS V A.n A.f A.xs ids) := s1.pat hwf.1 _ _ _ _
  have b10 : Bd (patS V A.n A.f A.xs ids) (3 * i + 1) := b1.pat _ _ _ _
  refine ⟨_, ld a10 0 _ _ (by kernel_rfl) rfl, _, ld a10 1 _ _ (by kernel_rfl) rfl, _, _, _, ld a10 2 _ _ (by kernel_rfl) rfl, ?_⟩
  refine rPatch11_c (n := A.n) (frm := A.f) (data := A.xs) (after := ids) t10.q (by rw [hA.last]; omega) rfl had10 (fun hne q hq => (hdn hne q hq).2) (by omega) hil2 (by omega) hid10 (fun hne q hq => (hidn hne q hq).2) fun w11 m11 z11 => ⟨_, _, rfl, ?_⟩
  have t11 := t10.stepQ m11 z11
  have a11 := a10.keep m11 o10.q
  have o11 := o10.stepQ m11
  have x11 := x10.stepQ m11
  have h10 : (patS V A.n A.f A.xs ids).C.D.vs.length = 5 := by
    have e := (patS_C (V := V) (C := V.C) (n := A.n) (f := A.f) (data := A.xs) (after := ids) rfl).2.2
    rw [e]; exact h5
  generalize patS V A.n A.f A.xs ids = V1 at *
  generalize patSR S A.n A.f A.xs ids = S1 at *
  -- a block is written
  refine Share.cut (fun z w14 => z = [.bool false] ∧ ∃ (R' R2' : Nat → Prop) (V : Ps) (S : Rs), T11 w0 R' R2' w14 sp d rp r V S ∧ Rel V S ∧ Srt V ∧ Bd V (3 * i + 2) ∧ V.C.D.vs.length = 5 ∧ Sx R R2 w R' R2' w14 ∧ At w14 w1.heap.size 0 [.int .i64 A.n, .int .i64 A.f, .slice ad A.xs.length cd, .slice aa A.af.length ca, .int .i64 A.wb, .bool A.fl]) (ff (by rw [hN]; simp) (ff (by rw [hE]; simp) ?_)) ?_
  · have md : Mod No w11 (drew w11) := (Mod.refl No w11).drew
    have t12 := t11.drew
    have a12 := a11.drew
    have o12 := o11.nos md
    have x12 := x11.no md
    have hG : Gx V1 := Gx.of t12.p s10
    refine ⟨_, ld a12 4 _ _ (by kernel_rfl) rfl, _, ld a12 4 _ _ (by kernel_rfl) rfl, qWrite_c (n := A.wb) t12.p (fun v hv => by have := b10.ver v hv; omega) fun w13 m13 z13 => ⟨_, rfl, ?_⟩⟩
    have t13 := t12.stepP m13 z13
    have a13 := a12.keep m13 o12.p
    have o13 := o12.stepP m13
    have x13 := x12.stepP m13
    refine ⟨ld a13 4 _ _ (by kernel_rfl) rfl, xWrite_c (n := A.wb) t13.q hrel hG (fun v hv => by have := b10.ver v hv; omega) fun w14 S14 m14 q14 r14 g14 => ⟨_, rfl, by simp, ?_⟩⟩
    have ho := wr_opn (V := V1) A.wb
    exact ⟨_, _, _, S14, t13.stepQ m14 q14, r14, s10.wr _, b10.wr _, by rw [ho.2.2.2]; exact h10, x13.stepQ m14, a13.keep m14 o13.q⟩
  rintro z w14 ⟨rfl, R', R2', V2, S2, t14, r14, s14, b14, h14, x14, a14⟩
  refine ⟨_, rfl, ff rfl ⟨_, ld a14 5 _ _ (by kernel_rfl) rfl, Share.cut (fun z w17 => z = [] ∧ ∃ (R' R2' : Nat → Prop) (V : Ps) (S : Rs), T11 w0 R' R2' w17 sp d rp r V S ∧ Rel V S ∧ Srt V ∧ Bd V (3 * i + 3) ∧ V.C.D.vs.length = 5 ∧ Sx R R2 w R' R2' w17) (cond_of (fun hb => ?_) (fun hb => ⟨rfl, R', R2', V2, S2, t14, r14, s14, b14.up, h14, x14⟩)) ?_⟩⟩
  · have hG : Gx V2 := Gx.of t14.p s14
    refine qFlush_c t14.p fun w15 m15 z15 => ⟨_, rfl, xFlush_c (t14.stepP m15 z15).q r14 hG fun w16 S16 m16 q16 r16 g16 => ⟨_, rfl, rfl, ?_⟩⟩
    exact ⟨_, _, _, S16, (t14.stepP m15 z15).stepQ m16 q16, r16, s14.fl, b14.fl hG.l, by rw [show (flV V2).C.D.vs.length = V2.C.D.vs.length from fl_len _]; exact h14, (x14.stepP m15).stepQ m16⟩
  rintro z w17 ⟨rfl, R', R2', V3, S3, t17, r17, s17, b17, h17, x17⟩
  rw [wrap64 (x := (i : Int) + 1) (by omega) (by omega)]
  exact ⟨⟨i + 1, _, _, _, _, _, _, R', R2', V3, S3, rfl, by omega, t17, r17, s17, b17, h17, x17⟩, by simp [nI, nth]; omega⟩
end
end Go.Proofs.YtocjjigmpgekfaaGreat
end
section
/- Layer 12: both stores alike; the statement PushOnes. -/
open Go Go.Den Go.Proofs
namespace Go.Proofs.YtocjjigmpgekfaaGreat
section
variable {w w' w0 w'' : World} {R R2 R' R2' : Nat → Prop} {sp d rp r : Nat} {V : Ps} {S : Rs} {K : Value → World → Prop}
theorem Own.ln {base l c : Nat} {T : TypeId} {a : Option Addr} {xs : List Int} (h : Own Tryz.prog w base T 1 a l c (iL xs)) : xs.length = l := by have := h.len; simpa using this
theorem same12_c (h : T11 w0 R R2 w sp d rp r V S) (hr : Rel V S) (hk : ∀ w' R', T11 w0 R' R2 w' sp d rp r V S → Sx R R2 w R' R2 w' → K (.bool true) w') :
    Cal Tryz.prog F_leveelaw12_same #[.pointer (some ⟨sp, 0, none⟩), .pointer (some ⟨d, 0, none⟩), .pointer (some ⟨rp, 0, none⟩)] w K := by
  have hwf := h.p.wf
  have hqwf := h.q.wf
  have hr' := hr
  obtain ⟨af, hA⟩ := hr'
  apply C_leveelaw12_same
  unfold D_leveelaw12_same
  have hnum := hA.num hwf.1 hqwf.1
  have hdirty := hA.dirty hwf.1 hqwf.1 hwf.2.2.1
  have hSD := hA.D
  have hdl : (dirtyV V).length ≤ 4096 := by
    rw [hdirty]
    have := List.length_filter_le (fun b => S.l.any fun x => decide (x.b = b)) (List.range S.base.length)
    have h2 : (drtR S S.base.length).length ≤ S.base.length := by
      unfold drtR
      simp at this ⊢; exact this
    have h3 := hqwf.1.len
    have h4 := hqwf.2.1.hi
    omega
  refine Share.cut (fun z w10 => z = [.bool false] ∧ Mod No w w10) ?_ ?_
  · have md : Mod No w (drew w) := (Mod.refl No w).drew
    have td := h.nos md
    have td' := td.q
    obtain ⟨rl2, vb, vc, hs2, ba, bc, la, lc, H, hR⟩ := td'
    refine ⟨_, rfl, _, _, _, hR.ll, qOpen_c td.p ⟨_, rfl, hR.ll, ff (by rw [hnum]; simp) (qDirty_c td.p fun w2 a22 l22 c22 m2 o22 e22 => ⟨_, _, _, rfl, ?_⟩)⟩⟩
    have h2 := hR.nos m2
    refine rDirty11_c h2 fun w3 a24 c24 m3 o24 => ⟨_, _, _, rfl, ?_⟩
    rw [← hdirty] at o24 ⊢
    refine Ints64_refl (xs := dirtyV V) e22.symm rfl (o22.rowU.row.nos m3) o24.rowU.row (by omega) fun w4 m4 => ⟨_, rfl, ff rfl ?_⟩
    have M4 := ((md.no m2).no m3).no m4
    have t4 := h.nos M4
    have h4 := (h2.nos m3).nos m4
    refine ⟨_, rfl, _, h4.ld, ?_⟩
    obtain ⟨R4, sb, mb, sc, L, hDI, hSm⟩ := t4.p.disk
    refine Bytes_c' hDI hSm fun w5 a30 l30 c30 m5 o30 => ⟨_, _, _, rfl, (h4.nos m5).ld, ?_⟩
    have e30 : (allB V.C.D).length = l30 := by have := o30.len; simpa using this
    have h5' := h4.nos m5
    refine ⟨_, str_run (by kernel_rfl) o30.rowU.row e30, refBytes_c h5'.disk h5'.wf.small fun w6 a36 l36 c36 m6 o36 => ⟨_, _, _, rfl, str_run (by kernel_rfl) (o30.rowU.row.nos m6) e30, ?_⟩⟩
    rw [hSD] at o36
    have e36 : (allB V.C.D).length = l36 := by have := o36.len; simpa using this
    have h6 := h5'.nos m6
    refine ⟨_, str_run (by kernel_rfl) o36.rowU.row e36, ff (by simp) ⟨_, rfl, _, h6.ld, ?_⟩⟩
    have M6 := (M4.no m5).no m6
    obtain ⟨R4, sb, mb, sc, L, hDI, hSm⟩ := (h.nos M6).p.disk
    refine Open_c hDI fun w7 a42 l42 c42 m7 o42 => ⟨_, _, _, rfl, (h6.nos m7).ld, ?_⟩
    have h7 := h6.nos m7
    refine refOpen_c h7.disk h7.wf.small fun w8 a47 l47 c47 m8 o47 => ⟨_, _, _, rfl, ?_⟩
    rw [hSD] at o47
    refine Ints64_refl (xs := openS V.C.D) (Own.ln o42) (Own.ln o47) (o42.rowU.row.nos m8) o47.rowU.row ?_ fun w9 m9 => ⟨_, rfl, rfl, ((M6.no m7).no m8).no m9⟩
    have := o42.cap
    have := Own.ln o42
    simp [maxLen] at *
    omega
  rintro z w10 ⟨rfl, m10⟩
  refine ⟨_, rfl, ff rfl ?_⟩
  refine ⟨fun x w11 => ∃ (i : Nat) (R' : Nat → Prop), x = [.int .i64 i] ∧ i ≤ 5 ∧ T11 w0 R' R2 w11 sp d rp r V S ∧ Sx R R2 w R' R2 w11, fun x _ => (5 - nI x 0).toNat, ⟨0, R, rfl, by omega, h.nos m10, Sx.refl.no m10⟩, ?_⟩
  rintro x w11 ⟨i, R', rfl, hi, t11, x11⟩
  refine ⟨_, rfl, cond_of (fun hb => ?_) (fun hb => hk w11 R' t11 x11)⟩
  refine tRead_c (n := i) t11 fun w12 R12 a58 l58 c58 t12 m12 s12 q12 f12 e12 b12 => ⟨_, _, _, _, rfl, tReadR_c (n := i) t12 hr fun w13 a64 l64 c64 m13 r13 q13 e13 => ⟨_, _, _, _, rfl, _, str_run (by kernel_rfl) (f12.nos m13).row e12.symm, _, str_run (by kernel_rfl) r13 e13.symm, ff (by simp) ?_⟩⟩
  have hi : i < 5 := by have := of_decide_eq_true hb; omega
  rw [wrap64 (x := (i : Int) + 1) (by omega) (by omega)]
  exact ⟨⟨i + 1, R12, rfl, by omega, t12.nos m13, (x11.P m12 s12).no m13⟩, by simp [nI, nth]; omega⟩
theorem steps_c {n : Int} {G : Int → Int → Int → Int → World → Prop} (h : T11 w0 R R2 w sp d rp r V S) (hr : Rel V S) (hs : Srt V) (hb : Bnd V.C.D 999)
    (hk : ∀ w' R' R2' V' S' x e, T11 w0 R' R2' w' sp d rp r V' S' → Rel V' S' → Srt V' → Bnd V'.C.D 1000 → G x e x e w') :
    Cal Tryz.prog F_push_Step #[.pointer (some ⟨sp, 0, none⟩), .int .i64 n] w fun r39 w4 => ∃ n39a : Int, ∃ n39b : Int, r39 = .tuple #[.int .i64 n39a, .int .i64 n39b] ∧ Cal Tryz.prog F_leveeref12_Step #[.pointer (some ⟨rp, 0, none⟩), .int .i64 n] w4 fun r45 w5 => ∃ n45a : Int, ∃ n45b : Int, r45 = .tuple #[.int .i64 n45a, .int .i64 n45b] ∧ G n39a n39b n45a n45b w5 := by
  have g : Gx V := Gx.of h.p hs
  refine Step_c (n := n) h.p g.g (hb.mono (by omega)) (fun hd w4 m4 => ⟨_, _, rfl, ?_⟩) fun hd w4 R4 m4 sub4 z4 => ⟨_, _, rfl, ?_⟩
  · have h4 := h.nos m4
    exact rStep_c (n := n) h4.q hr g (hb.mono (by omega)) (fun _ w5 m5 => ⟨_, _, rfl, hk w5 R R2 V S _ _ (h4.nos m5) hr hs (hb.mono (by omega))⟩) fun hne => absurd hd hne
  · have h4 := h.P m4 sub4 z4
    refine rStep_c (n := n) h4.q hr g (hb.mono (by omega)) (fun he => absurd he hd) fun _ w5 R5 S5 m5 sub5 q5 r5 g5 => ⟨_, _, rfl, hk w5 R4 R5 _ S5 _ _ (h4.Q m5 sub5 q5) r5 (hs.wr _) ?_⟩
    unfold wrV
    split
    · exact Bnd_wr hb _ _
    · exact hb.mono (by omega)
theorem PushOnes_c {acts : List A12} {a : Option Addr} {l c : Nat} {id n : Int} {all : Bool} (ha : Acts12 w a acts) (hl : acts.length = l) :
    Cal Tryz.prog F_leveelaw12_PushOnes #[.slice a l c, .int .i64 id, .int .i64 n, .bool all] w (fun v w' => v = .bool true ∧ Mod No w w') := by
  apply C_leveelaw12_PushOnes
  unfold D_leveelaw12_PushOnes
  refine open12_c fun w1 R R2 sp d rp r m1 t1 => ⟨_, _, _, _, rfl, ?_⟩
  refine Share.cut (fun z w3 => z = [.bool false] ∧ ∃ (R R2 : Nat → Prop) (V : Ps) (S : Rs), T11 w R R2 w3 sp d rp r V S ∧ Rel V S ∧ Srt V ∧ Bd V 100 ∧ V.C.D.vs.length = 5) (ff rfl (lay12_c ha hl t1 fun w2 R' R2' V S t2 r2 s2 b2 h2 x2 => ⟨_, rfl, rfl, R', R2', V, S, t2, r2, s2, b2, h2⟩)) ?_
  rintro z w3 ⟨rfl, R, R2, V, S, t3, r3, s3, b3, h3⟩
  refine ⟨_, rfl, ff rfl ?_⟩
  refine steps_c t3 r3 s3 (b3.ver.mono (by omega)) fun w5 R R2 V S x e t5 r5 s5 b5 => ?_
  refine Share.dup (ff (by simp) ⟨_, by simp; rfl, ff rfl ⟨_, rfl, _, t5.q.llast, ?_⟩⟩)
  have hlast : S.last ≤ 1000000 := t5.q.wf.1.last
  refine Share.cut (fun z w7 => w5 = w7 ∧ ∃ k : Int, z = [.int .i64 k]) (cond_of (fun hb => ?_) (fun hb => ⟨rfl, _, rfl⟩)) ?_
  · refine ⟨_, rfl, _, t5.q.llast, ?_⟩
    rw [wrap64 (x := (S.last : Int) + 2) (by omega) (by omega)]
    exact ⟨_, rem_run (by omega), rfl, _, rfl⟩
  rintro z w7 ⟨rfl, k, rfl⟩
  have g5 : Gx V := Gx.of t5.p s5
  refine ⟨_, rfl, One_c (n := k) t5.p g5.g b5 fun w8 R8 m8 sub8 z8 g8 b8 => ⟨_, _, rfl, ?_⟩⟩
  have t8 := t5.P m8 sub8 z8
  refine Share.cut (fun z w11 => z = [.bool false] ∧ ∃ (R R2 : Nat → Prop) (S' : Rs), T11 w R R2 w11 sp d rp r (oneV k V).2 S' ∧ Rel (oneV k V).2 S' ∧ Gx (oneV k V).2) (rOne_c (id := k) t8.q r5 g5 b5 fun w9 R9 S9 m9 sub9 q9 r9 g9 => ⟨_, rfl, ff (by simp) (ff rfl ?_)⟩) ?_
  · exact same12_c (t8.Q m9 sub9 q9) r9 fun w10 R10 t10 x10 => ⟨_, rfl, rfl, _, _, S9, t10, r9, g9⟩
  rintro z w11 ⟨rfl, R11, R12, S11, t11, r11, g11⟩
  refine ⟨_, rfl, ff rfl ?_⟩
  refine Share.cut (fun z w16 => Mod No w w16) (cond_of (fun hb => ?_) (fun hb => t11.p.mod)) ?_
  · refine All_c t11.p g11.g b8 fun w12 R12' m12 sub12 z12 g12 b12 => ⟨_, _, rfl, ?_⟩
    have t12 := t11.P m12 sub12 z12
    refine Share.cut (fun z w15 => z = [.bool false] ∧ Mod No w w15) (rAll_c t12.q r11 g11 b8 fun w13 R13 S13 m13 sub13 q13 r13 g13 => ⟨_, rfl, ff (by simp) (ff rfl ?_)⟩) ?_
    · exact same12_c (t12.Q m13 sub13 q13) r13 fun w14 R14 t14 x14 => ⟨_, rfl, rfl, t14.p.mod⟩
    rintro z w15 ⟨rfl, m15⟩
    exact ⟨_, rfl, ff rfl m15⟩
  rintro z w16 m16
  exact known12_c fun w17 m17 => ⟨_, rfl, rfl, m16.no m17⟩
end
end Go.Proofs.YtocjjigmpgekfaaGreat
end
section
/- Arguments that came in: a row of changes of layer 12. -/
open Go Go.Den
namespace Go.Proofs.YtocjjigmpgekfaaGreat
open Go.ChangeShapes Go.WideShapes Go.RowKit Go.Joins
section
variable {H : Type} {enc : TypeId × Value → H} {w : World} {base : Nat} {held : Bool}
theorem open_act12 {n : Nat} {cs : List Value} {y : DataW H × List MemPlace} (hl : cs.length = 6) (h : DataW.trod enc Tryz.prog w base (fun _ => true) held n 172 cs = some y) :
    ∃ x : A12, x.fit w cs ∧ x.xs.length ≤ Rows.uptoBulk y.1 := by
  match cs, hl with
  | [c0, c1, c2, c3, c4, c5], _ =>
    obtain ⟨y0, y1, y2, y3, y4, y5, n', hx, _, h0, h1, h2, h3, h4, h5⟩ := trod_st6 Tryz.underlying172 h
    have k0 : Tryz.prog.cellsOf 3 = 1 := by kernel_rfl
    have k1 : Tryz.prog.cellsOf 36 = 1 := by kernel_rfl
    have k2 : Tryz.prog.cellsOf 37 = 1 := by kernel_rfl
    have k3 : Tryz.prog.cellsOf 4 = 1 := by kernel_rfl
    simp only [k0, k1, k2, k3] at h0 h1 h2 h3 h4 h5
    have h0 : DataW.trod enc Tryz.prog w base (fun _ => true) held n' 3 [c0] = some y0 := h0
    have h1 : DataW.trod enc Tryz.prog w base (fun _ => true) held n' 3 [c1] = some y1 := h1
    have h2 : DataW.trod enc Tryz.prog w base (fun _ => true) held n' 36 [c2] = some y2 := h2
    have h3 : DataW.trod enc Tryz.prog w base (fun _ => true) held n' 37 [c3] = some y3 := h3
    have h4 : DataW.trod enc Tryz.prog w base (fun _ => true) held n' 3 [c4] = some y4 := h4
    have h5 : DataW.trod enc Tryz.prog w base (fun _ => true) held n' 4 [c5] = some y5 := h5
    obtain ⟨m0, e0, _, u0⟩ := DataW.trod_int Tryz.underlying3 h0
    obtain ⟨m1, e1, _, u1⟩ := DataW.trod_int Tryz.underlying3 h1
    obtain ⟨m4, e4, _, u4⟩ := DataW.trod_int Tryz.underlying3 h4
    obtain ⟨b5, e5, _⟩ := DataW.trod_bool Tryz.underlying4 h5
    have e0 : c0 = .int .i64 m0 := by simpa using e0
    have e1 : c1 = .int .i64 m1 := by simpa using e1
    have e4 : c4 = .int .i64 m4 := by simpa using e4
    have e5 : c5 = .bool b5 := by simpa using e5
    obtain ⟨ad, ld, cd, xs, rfl, hxl, hxr, hxn, hxb, hxm⟩ := bytes_of_trod3 h2
    obtain ⟨aa, la, ca, af, rfl, hal, har, hab, ham⟩ := ints_of_trod6 h3
    subst e0 e1 e4 e5 hxl hal
    refine ⟨⟨m0, m1, xs, af, m4, b5⟩, ⟨ad, cd, aa, ca, rfl, hxr, hxn, hxm, har, ham⟩, ?_⟩
    rw [hx]
    have := bulks.part_le (d := y2.1) (l := [y0.1, y1.1, y2.1, y3.1, y4.1, y5.1]) (by simp)
    simp only [Rows.uptoBulk]
    have e : (⟨m0, m1, xs, af, m4, b5⟩ : A12).xs.length = xs.length := rfl
    omega

set_option maxRecDepth 100000 in
theorem open_acts12 {r : Reach} {b0 : Nat} {v : Value} {d : DataW H} {ps : List MemPlace} (hval : Value.okWide Tryz.prog w r b0 55 v) (hd : DataW.Trod enc Tryz.prog w base (fun _ => true) held 55 v d ps) :
    ∃ a l c acts, v = .slice a l c ∧ acts.length = l ∧ Acts12 w a acts ∧ l ≤ 9223372036854775807 ∧ (Rows.uptoBulk d ≤ 1048576 → ∀ x ∈ acts, x.xs.length ≤ 1048576) := by
  obtain ⟨fuel, hf⟩ := hd
  obtain ⟨a, l, c, rfl⟩ := okWide_slice Tryz.underlying55 hval
  rcases Go.Deep.open_slice Tryz.underlying55 hf with ⟨h1, h2⟩ | ⟨a', l', c', m, n, DD, Pl, h1, _, hlc, hm, hmm, hx, hel⟩
  · simp [Value.cells] at h1
    obtain ⟨rfl, rfl, rfl⟩ := h1
    exact ⟨none, 0, 0, [], rfl, rfl, .inl rfl, by omega, fun _ x hx => by cases hx⟩
  · simp [Value.cells] at h1
    obtain ⟨rfl, rfl, rfl⟩ := h1
    rw [if_pos rfl] at hmm
    subst hmm
    have hl63 : l ≤ 9223372036854775807 := by simp [maxLen] at hm; omega
    have k3 : Tryz.prog.cellsOf 172 = 6 := by kernel_rfl
    rw [k3] at hel
    by_cases h0 : l = 0
    · exact ⟨some a', l, m, [], rfl, by simp [h0], .inl rfl, hl63, fun _ x hx => by cases hx⟩
    obtain ⟨b, off, spot⟩ := a'
    have hspot : spot = none := by
      obtain ⟨cs', hc, ht⟩ := hel 0 (by omega)
      obtain ⟨_, hcl, hcc⟩ := World.cells?_some hc
      obtain ⟨x, ⟨ad, cd, aa, ca, rfl, _⟩, _⟩ := open_act12 hcl ht
      have h00 := hcc 0 (by omega)
      have := World.cell?_spot (h00.trans rfl)
      simpa [Addr.add] using this
    subst hspot
    have each : ∀ i ∈ List.range l, ∃ x : A12 × List Value, x.2.length = 6 ∧ (∀ (j : Nat) (v : Value), x.2[j]? = some v → w.cell? ⟨b, off + (i * 6 + j), none⟩ = some v) ∧ x.1.fit w x.2 ∧ (Rows.uptoBulk d ≤ 1048576 → x.1.xs.length ≤ 1048576) := by
      intro i hi
      have hi := List.mem_range.1 hi
      obtain ⟨cs', hc, ht⟩ := hel i (by omega)
      obtain ⟨_, hcl, hcc⟩ := World.cells?_some hc
      obtain ⟨x, hfit, hbx⟩ := open_act12 hcl ht
      refine ⟨(x, cs'), hcl, fun j v hj => ?_, hfit, fun hb => ?_⟩
      · have hj4 := (List.getElem?_eq_some_iff.1 hj).1
        have hj4' : j < cs'.length := hj4
        have := hcc j (by omega)
        rw [add_none, add_none, Nat.add_assoc] at this
        rw [this, hj]
      · have hxd : d = .slice ((List.range l).map DD) ((List.range (m - l)).map fun j => DD (l + j)) := congrArg Prod.fst hx
        have h1 := bulks.slice_elems (H := H) ((List.range l).map DD) ((List.range (m - l)).map fun j => DD (l + j))
        have h2 := bulks.part_le (d := DD i) (l := (List.range l).map DD) (List.mem_map.2 ⟨i, List.mem_range.2 hi, rfl⟩)
        rw [← hxd] at h1
        have q3' : x.xs.length ≤ Rows.uptoBulk (DD i) := hbx
        show x.xs.length ≤ 1048576
        omega
    obtain ⟨ys, hyl, hys⟩ := list_choose3 (p := fun (i : Nat) (x : A12 × List Value) => x.2.length = 6 ∧ (∀ (j : Nat) (v : Value), x.2[j]? = some v → w.cell? ⟨b, off + (i * 6 + j), none⟩ = some v) ∧ x.1.fit w x.2 ∧ (Rows.uptoBulk d ≤ 1048576 → x.1.xs.length ≤ 1048576)) (List.range l) each
    rw [List.length_range] at hyl
    have hy3 : ∀ z ∈ ys, z.2.length = 6 := fun z hz => by
      obtain ⟨i, hi, e⟩ := List.getElem_of_mem hz
      exact (hys i i z (by rw [List.getElem?_range (by omega)]) (by rw [List.getElem?_eq_getElem hi, e])).1
    have flat3 : ∀ (zs : List (A12 × List Value)), (∀ z ∈ zs, z.2.length = 6) → ∀ (i : Nat) (z : A12 × List Value), zs[i]? = some z → ((zs.flatMap (·.2)).drop (i * 6)).take 6 = z.2 := by
      intro zs
      induction zs with
      | nil => intro _ i z h; simp at h
      | cons u r ih =>
        intro hz i z h
        have hu := hz u (by simp)
        cases i with
        | zero => simp at h; subst h; rw [Nat.zero_mul, List.drop_zero, List.flatMap_cons, List.take_append_of_le_length (by omega), List.take_of_length_le (by omega)]
        | succ i =>
          have := ih (fun z hz' => hz z (by simp [hz'])) i z (by simpa using h)
          rw [List.flatMap_cons, List.drop_append, List.drop_eq_nil_of_le (by omega), List.nil_append]
          have e : (i + 1) * 6 - u.2.length = i * 6 := by omega
          rw [e]; exact this
    have flen : ∀ zs : List (A12 × List Value), (∀ z ∈ zs, z.2.length = 6) → (zs.flatMap (·.2)).length = zs.length * 6 := by
      intro zs
      induction zs with
      | nil => intro _; rfl
      | cons u r ih =>
        intro hz
        have hu := hz u (by simp)
        rw [List.flatMap_cons, List.length_append, ih fun z hz' => hz z (by simp [hz']), List.length_cons]; omega
    have hfl := flen ys hy3
    refine ⟨some ⟨b, off, none⟩, l, m, ys.map (·.1), rfl, by simp [hyl], .inr ⟨b, off, ys.flatMap (·.2), rfl, At.of_cells (by rw [hfl]; omega) fun j hj => ?_, by rw [hfl]; simp, fun r x hx => ?_⟩, hl63, fun hb x hx => ?_⟩
    · have hj' : j < l * 6 := by rw [hfl, hyl] at hj; exact hj
      have hi : j / 6 < l := by omega
      have hyi : ys[j / 6]? = some ys[j / 6] := by simp [hyl, hi]
      have hp := hys (j / 6) (j / 6) ys[j / 6] (by simp [hi]) hyi
      have h4 := flat3 ys hy3 (j / 6) _ hyi
      have hget : (ys[j / 6]).2[j % 6]? = some ((ys.flatMap (·.2))[j]) := by
        rw [← h4, List.getElem?_take, if_pos (by omega), List.getElem?_drop, show j / 6 * 6 + j % 6 = j by omega]
        exact List.getElem?_eq_getElem _
      have := hp.2.1 (j % 6) _ hget
      rw [show j / 6 * 6 + j % 6 = j by omega] at this
      exact this
    · rw [List.getElem?_map] at hx
      cases hy : ys[r]? with
      | none => rw [hy] at hx; cases hx
      | some z =>
        rw [hy] at hx
        have := Option.some.inj hx
        subst this
        have hr : r < l := by have := (List.getElem?_eq_some_iff.1 hy).1; omega
        have hq := (hys r r z (by simp [hr]) hy).2.2.1
        rw [flat3 ys hy3 r z hy]
        exact hq
    · obtain ⟨z, hz, rfl⟩ := List.mem_map.1 hx
      obtain ⟨i, hi, e⟩ := List.getElem_of_mem hz
      exact (hys i i z (by rw [List.getElem?_range (by omega)]) (by rw [List.getElem?_eq_getElem hi, e])).2.2.2 hb
end
end Go.Proofs.YtocjjigmpgekfaaGreat
end
