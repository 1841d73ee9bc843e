/- Parts of the proof, in order: what the statement leans on. -/
import Derived.Test.YtiahkkekcmgkfaaDoorBb
section
/- The library's slices functions that layer 10 calls, at rows of ints and of bytes. -/
open Go Go.Den Go.Proofs
namespace Go.Den
section
variable {P : Program} {w : World}
/-- A store into a row of one's own. -/
theorem Own.set {base l c g i : Nat} {T T' : TypeId} {ys : List Value} {v : Value} (h : Own P w base T 1 (some ⟨g, 0, none⟩) l c ys) (hT : scal P T' = true) (hi : i < l) (hv : v.oneCell' = true) :
    ∃ w', (Instr.storeAt T' (.pointer (some ⟨g, i, none⟩)) v).run P w = .ok () w' ∧ Own P w' base T 1 (some ⟨g, 0, none⟩) l c (ys.set i v) ∧ Mod (fun x => x = g) w w' := by
  have hlen := h.len
  obtain ⟨e, he, h1, h2⟩ := h
  rcases h2 with ⟨hn, _⟩ | ⟨g', cap, cur, hw, hb, hg, hle, hm, hsz, ht⟩
  · cases hn
  · simp at hw
    obtain ⟨rfl, rfl⟩ := hw
    have hcur : w.heap[g]? = some (.cells ⟨cur.toList⟩ e (0, 0)) := hg
    have hci : i < cur.toList.length := by simp [hsz]; omega
    refine ⟨_, store_cell hT hcur hci (by simp) hv, ⟨e, he, by simpa using h1, .inr ⟨g, c, ⟨cur.toList.set i v⟩, rfl, hb, heap_put_same (lt_of_heap hg), hle, hm, by simp [hsz], ?_⟩⟩, (Mod.refl (fun x => x = g) w).put (.inr rfl) _⟩
    show (cur.toList.set i v).take (l * 1) = ys.set i v
    rw [List.take_set, ht]
/-- clear of a row's end. -/
theorem Own.clear {base bytes l c g i : Nat} {T ty : TypeId} {z : Value} {ys : List Value} (hT : elemZ P T 1 z bytes) (h : Own P w base T 1 (some ⟨g, 0, none⟩) l c ys) (hi : i ≤ l) (hz : z.oneCell' = true) :
    ∃ w' zs, (Builtin.clear_ #[T] ty #[.slice (cutA (some ⟨g, 0, none⟩) c i 1) (l - i) (c - i)]).run P w = .ok (.tuple #[]) w' ∧ Own P w' base T 1 (some ⟨g, 0, none⟩) l c (ys.take i ++ zs) ∧ Mod (fun x => x = g) w w' := by
  have hlen := h.len
  have hcap := h.cap
  obtain ⟨e0, inf, zv, he0, hinf, hsz0, hz0, hzc, hby⟩ := hT.is
  by_cases h0 : l - i = 0
  · refine ⟨w, [], ?_, ?_, Mod.refl _ _⟩
    · rw [h0]
      unfold cutA
      split <;> simp [Builtin.clear_, run_und he0]
    · have : ys.take i = ys := List.take_of_length_le (by omega)
      rw [this, List.append_nil]; exact h
  · obtain ⟨e, he, h1, h2⟩ := h
    have hee : e = e0 := by rw [he0] at he; simpa using he.symm
    subst hee
    rcases h2 with ⟨hn, _⟩ | ⟨g', cap, cur, hw, hb, hg, hle, hm, hsz, ht⟩
    · cases hn
    · simp at hw
      obtain ⟨rfl, rfl⟩ := hw
      have hcur : w.heap[g]? = some (.cells ⟨cur.toList⟩ e (0, 0)) := hg
      have hcut : cutA (some ⟨g, 0, none⟩) c i 1 = some ⟨g, i, none⟩ := by
        unfold cutA; rw [if_neg (by omega)]; simp [add_none]
      have hzl : (Builtin.zeroCells zv.cells (l - i)).toList.length = l - i := by
        rw [Array.length_toList, size_zeroCells, hzc]; simp
      have hzone : ∀ v ∈ (Builtin.zeroCells zv.cells (l - i)).toList, v.oneCell' = true := by
        intro v hv
        have : v = z := by
          unfold Builtin.zeroCells at hv
          rw [hzc] at hv
          simp at hv
          obtain ⟨_, _, rfl⟩ := hv
          rw [Nat.mod_one]; rfl
        rw [this]; exact hz
      have hs := store_cells (P := P) (Builtin.zeroCells zv.cells (l - i)).toList (o := i) (i := 0) hcur (by rw [hzl]; simp [hsz]; omega) (fun j _ _ => by simp) hzone
      refine ⟨_, (Builtin.zeroCells zv.cells (l - i)).toList, ?_, ⟨e, he, by simp [hzl]; omega, .inr ⟨g, c, ⟨splice cur.toList i (Builtin.zeroCells zv.cells (l - i)).toList⟩, rfl, hb, heap_put_same (lt_of_heap hg), hle, hm, ?_, ?_⟩⟩, (Mod.refl (fun x => x = g) w).put (.inr rfl) _⟩
      · rw [hcut]
        obtain ⟨k, hk⟩ : ∃ k, l - i = k + 1 := ⟨l - i - 1, by omega⟩
        rw [hk] at hs ⊢
        have hund : (underlying T).run P w = .ok (.slice e) w := run_und he w
        simp [Builtin.clear_, hund, zeroValue, typeInfo, hinf, hz0, hs]
      · show (splice cur.toList i _).length = c * 1
        rw [length_splice (by rw [hzl]; simp [hsz]; omega)]; simp [hsz]
      · show (splice cur.toList i _).take (l * 1) = _
        unfold splice
        rw [Nat.mul_one] at ht ⊢
        have e1 : ys.take i = cur.toList.take i := by rw [← ht, List.take_take, Nat.min_eq_left hi]
        have hl2 : (cur.toList.take i ++ (Builtin.zeroCells zv.cells (l - i)).toList).length = l := by rw [List.length_append, hzl]; simp [hsz]; omega
        rw [e1, List.take_append_of_le_length (by omega), List.take_of_length_le (by omega)]
end
end Go.Den
end
section
/- Texts, walked: the names of a path, as the program and as the document has them. -/
open Go Go.Den Go.Proofs
namespace Go.Den
theorem pieces_snoc : ∀ (t : Bs) (c : UInt8), ∃ dn pt, pieces t = dn ++ [pt] ∧ pieces (t ++ [c]) = if c = 47 then dn ++ [pt] ++ [[]] else dn ++ [pt ++ [c]]
  | [], c => ⟨[], [], rfl, by
    rw [List.nil_append, pieces_cons]
    split
    · rfl
    · rfl⟩
  | a :: t, c => by
    obtain ⟨dn, pt, h1, h2⟩ := pieces_snoc t c
    rw [List.cons_append, pieces_cons, pieces_cons]
    by_cases ha : a = 47
    · rw [if_pos ha, if_pos ha]
      refine ⟨[] :: dn, pt, by rw [h1]; rfl, ?_⟩
      rw [h2]
      split <;> rfl
    · rw [if_neg ha, if_neg ha]
      cases dn with
      | nil =>
        rw [List.nil_append] at h1 h2
        refine ⟨[], a :: pt, by rw [h1]; rfl, ?_⟩
        rw [h2]
        by_cases hc : c = 47
        · rw [if_pos hc, if_pos hc]; rfl
        · rw [if_neg hc, if_neg hc]; rfl
      | cons d dn =>
        refine ⟨(a :: d) :: dn, pt, by rw [h1]; rfl, ?_⟩
        rw [h2]
        by_cases hc : c = 47
        · rw [if_pos hc, if_pos hc]; rfl
        · rw [if_neg hc, if_neg hc]; rfl
theorem piece_len : ∀ {x p : Bs}, p ∈ pieces x → p.length ≤ x.length
  | [], p, h => by simp [pieces] at h; simp [h]
  | c :: r, p, h => by
    rw [pieces_cons] at h
    split at h
    · rcases List.mem_cons.1 h with rfl | h
      · simp
      · have := piece_len h; simp; omega
    · cases hp : pieces r with
      | nil => exact absurd hp (pieces_ne r)
      | cons d t =>
        rw [hp] at h
        rcases List.mem_cons.1 h with rfl | h
        · have := piece_len (x := r) (p := d) (by rw [hp]; simp)
          simp; omega
        · have := piece_len (x := r) (p := p) (by rw [hp]; exact List.mem_cons_of_mem _ h)
          simp; omega
def keepP (p : Bs) : Bool := decide (p ≠ []) && decide (p ≠ [46])
def okP (p : Bs) : Bool := decide (p = [46, 46]) || nameB p
theorem tNames_eq (x : Bs) : tNames x = (pieces x).filter keepP := rfl
theorem tOk_eq (x : Bs) : tOk x = (decide (1 ≤ x.length) && decide (x.length ≤ 255) && (tNames x).all okP && decide ((tNames x).length ≤ 16)) := rfl
theorem filter_take {p : Bs → Bool} {l : List Bs} {n : Nat} {c : Bs} (h : l[n]? = some c) : (l.take (n + 1)).filter p = (l.take n).filter p ++ (if p c = true then [c] else []) := by
  obtain ⟨hi, e⟩ := List.getElem?_eq_some_iff.1 h
  rw [List.take_succ_eq_append_getElem hi, List.filter_append, e]
  congr 1
  cases h : p c <;> simp [h]
theorem filter_sub {p : Bs → Bool} {l : List Bs} {n : Nat} (h : ((l.take n).filter p).all okP = false) : (l.filter p).all okP = false := by
  rw [Bool.eq_false_iff] at h ⊢
  intro h2
  apply h
  rw [List.all_eq_true] at h2 ⊢
  exact fun x hx => h2 x (List.mem_filter.2 ⟨List.mem_of_mem_take (List.mem_filter.1 hx).1, (List.mem_filter.1 hx).2⟩)
end Go.Den
namespace Go.Proofs.YtiahkkekcmgkfaaDoor
theorem builtS (w : World) (v : ByteArray) : (Instr.buildSlice 52 1 #[(0, .string v)]).run Tryd.prog w = .ok (.slice (some ⟨w.heap.size, 0, none⟩) 1 1) (w.alloc (.cells ⟨[.string v]⟩ 9)) := by kernel_rfl
section
variable {w : World} {K : Value → World → Prop}
/-- A name more. -/
theorem snocS {w0 : World} {base l c : Nat} {a : Option Addr} {L : List Bs} (x : Bs) (h : Own Tryd.prog w0 base 52 1 a l c (sL L)) (hl : l ≤ 1000000000) (hb : base ≤ w0.heap.size) :
    ∃ (a' : Option Addr) (l' c' : Nat) (w1 : World), Ru (Instr.buildSlice 52 1 #[(0, .string (sB x))]) w0 (.slice a' l' c') w1 ∧ ∃ a2 c2 w2, Ru (Builtin.append_ #[52, 52] 52 #[.slice a l c, .slice a' l' c']) w1 (.slice a2 (l + 1) c2) w2 ∧
      Own Tryd.prog w2 base 52 1 a2 (l + 1) c2 (sL (L ++ [x])) ∧ Mod (fun x => base ≤ x) w0 w2 := by
  obtain ⟨a2, c2, w2, h2, h3, h4⟩ := h.snoc (ty := 52) (t := 9) (ys := [.string (sB x)]) elemZ_strings (by omega) rfl (by simp; rfl) (by omega) (by omega) hb
  refine ⟨_, _, _, _, builtS w0 (sB x), a2, c2, w2, h2, ?_, h4⟩
  rw [sL_append]; exact h3
theorem head47 {x : Bs} {c : UInt8} (h : x[0]? = some c) : ((c.toNat : Int) == 47) = decide (x.head? = some 47) := by
  rw [beq_47]
  cases x with
  | nil => simp at h
  | cons a r => simp at h; subst h; simp
theorem tSplit_c {x : Bs} (hx : x.length ≤ 9223372036854775807) (hg : Gl w) (hk0 : tOk x = false → ∀ w', Mod No w w' → K (.tuple #[.slice none 0 0, .bool false, .int .i64 25]) w')
    (hk1 : tOk x = true → ∀ w' a c, Mod No w w' → Own Tryd.prog w' w.heap.size 52 1 a (tNames x).length c (sL (tNames x)) → K (.tuple #[.slice a (tNames x).length c, .bool (decide (x.head? = some 47)), .int .i64 0]) w') : Cal Tryd.prog F_tree_Split #[.string (sB x)] w K := by
  apply C_tree_Split
  unfold D_tree_Split
  have hs := sB_size x
  refine Share.cut (fun z w1 => w1 = w ∧ z = [.bool (decide (¬ (1 ≤ x.length ∧ x.length ≤ 255)))]) ?_ ?_
  · rw [beq_empty, hs]
    refine cond_of (fun hb => ⟨rfl, ?_⟩) (fun hb => ⟨rfl, ?_⟩)
    · have := of_decide_eq_true hb; subst this; simp
    · have := of_decide_eq_false hb
      have : 1 ≤ x.length := by cases x with | nil => exact absurd rfl this | cons a r => simp
      congr 2
      rw [Bool.eq_iff_iff, decide_eq_true_eq, decide_eq_true_eq]; omega
  rintro z w1 ⟨rfl, rfl⟩
  refine ⟨_, rfl, cond_of (fun hb => ?_) (fun hb => ?_)⟩
  · have hb := of_decide_eq_true hb
    refine hk0 ?_ _ (Mod.refl _ _)
    rw [tOk_eq, Bool.eq_false_iff]
    intro h
    simp only [Bool.and_eq_true, decide_eq_true_eq] at h
    exact hb ⟨h.1.1.1, h.1.1.2⟩
  have hb := Classical.not_not.1 (of_decide_eq_false hb)
  have hpl := pieces_len x
  refine Split_c (by omega) hg fun w2 m2 hat => ⟨_, _, _, rfl, ?_⟩
  refine ⟨fun z w3 => ∃ (n : Nat) (a : Option Addr) (c : Nat) (y2 y3 : Value), n ≤ (pieces x).length ∧ z = [.slice a (((pieces x).take n).filter keepP).length c, .int .i64 n, y2, y3] ∧ (((pieces x).take n).filter keepP).all okP = true ∧
    Own Tryd.prog w3 w2.heap.size 52 1 a (((pieces x).take n).filter keepP).length c (sL (((pieces x).take n).filter keepP)) ∧ Mod No w2 w3, fun z _ => ((pieces x).length - nI z 1).toNat, ⟨0, none, 0, _, _, by omega, rfl, rfl, Own.nil elemZ_strings, Mod.refl _ _⟩, ?_⟩
  rintro z w3 ⟨n, a, c, y2, y3, hn, rfl, hall, how, m3⟩
  refine ⟨_, rfl, cond_of (fun hb2 => ?_) (fun hb2 => ?_)⟩
  · have hb2 := of_decide_eq_true hb2
    have hnx : n < (pieces x).length := by omega
    have hgx : (pieces x)[n]? = some (pieces x)[n] := List.getElem?_eq_getElem hnx
    have hft := filter_take (p := keepP) hgx
    generalize (pieces x)[n] = p at *
    have hplen : p.length ≤ x.length := piece_len (List.mem_of_getElem? hgx)
    have hlt : (((pieces x).take n).filter keepP).length ≤ n := Nat.le_trans (List.length_filter_le _ _) (by rw [List.length_take]; omega)
    refine Share.cut (fun z w4 => Mod No w2 w4 ∧ ∃ (a : Option Addr) (c : Nat) (y2 y3 : Value), z = [.slice a (((pieces x).take (n + 1)).filter keepP).length c, y2, y3] ∧ (((pieces x).take (n + 1)).filter keepP).all okP = true ∧
      Own Tryd.prog w4 w2.heap.size 52 1 a (((pieces x).take (n + 1)).filter keepP).length c (sL (((pieces x).take (n + 1)).filter keepP))) ?_ ?_
    · refine ⟨_, index_slice (k := 1) (by kernel_rfl) (by omega) (by omega), ?_⟩
      rw [add_none, show 0 + (n : Int).toNat * 1 = 0 + n by omega]
      refine ⟨_, (hat.keep m3 id).load (by kernel_rfl) (sL_get hgx), ?_⟩
      refine Share.cut (fun z w4 => w4 = w3 ∧ z = [.bool (!keepP p)]) ?_ ?_
      · rw [beq_empty, beq_dot]
        refine cond_of (fun hc => ⟨rfl, ?_⟩) (fun hc => ⟨rfl, ?_⟩)
        · have hc := of_decide_eq_true hc; simp [keepP, hc]
        · have hc := of_decide_eq_false hc; simp [keepP, hc]
      rintro z w4 ⟨rfl, rfl⟩
      refine ⟨_, rfl, cond_of (fun hc => ?_) (fun hc => ?_)⟩
      · have hkp : keepP p = false := by simpa using hc
        rw [hkp, if_neg (by simp), List.append_nil] at hft
        rw [hft]
        exact ⟨m3, a, c, _, _, rfl, hall, how⟩
      · have hkp : keepP p = true := by simpa using hc
        rw [hkp, if_pos rfl] at hft
        refine Share.cut (fun z w5 => Mod No w4 w5 ∧ z = [.bool (!okP p)]) ?_ ?_
        · rw [beq_dots]
          refine cond_of (fun hd => dName_c (by omega) fun w5 m5 => ⟨_, rfl, m5, ?_⟩) (fun hd => ⟨Mod.refl _ _, ?_⟩)
          · have hd : p ≠ [46, 46] := by simpa using hd
            simp [okP, hd]
          · have hd : p = [46, 46] := by simpa using hd
            simp [okP, hd]
        rintro z w5 ⟨m5, rfl⟩
        refine ⟨_, rfl, cond_of (fun hd => ?_) (fun hd => ?_)⟩
        · refine hk0 ?_ _ (m2.no (m3.no m5))
          have hno : okP p = false := by simpa using hd
          have : (tNames x).all okP = false := by
            rw [tNames_eq]
            refine filter_sub (n := n + 1) ?_
            rw [hft, List.all_append]
            simp [hno]
          rw [tOk_eq, this]; simp
        · have hok : okP p = true := by simpa using hd
          obtain ⟨a1, l1, c1, w6, h1, a2, c2, w7, h2, h3, h4⟩ := snocS p (how.nos m5) (by omega) (Nat.le_trans m3.size m5.size)
          refine ⟨_, _, _, rfl, a1, l1, c1, w6, h1, a2, _, c2, w7, h2, ?_⟩
          rw [hft, List.length_append, List.length_singleton]
          refine ⟨(m3.no m5).up h4 (Nat.le_refl _), a2, c2, _, _, rfl, ?_, h3⟩
          rw [List.all_append, hall]; simp [hok]
    · rintro z w4 ⟨m4, a', c', y2', y3', rfl, hall', how'⟩
      rw [wrap64 (by omega) (by omega)]
      exact ⟨⟨n + 1, a', c', _, _, by omega, rfl, hall', how', m4⟩, by simp [nI, nth]; omega⟩
  · have hb2 := of_decide_eq_false hb2
    have hnl : n = (pieces x).length := by omega
    subst hnl
    rw [List.take_length] at hall how ⊢
    refine ⟨_, _, _, rfl, cond_of (fun hc => ?_) (fun hc => ?_)⟩
    · refine hk0 ?_ _ (m2.no m3)
      have hc := of_decide_eq_true hc
      have : decide ((tNames x).length ≤ 16) = false := decide_eq_false (by rw [tNames_eq]; omega)
      rw [tOk_eq, this]; simp
    · have hc := of_decide_eq_false hc
      have hok : tOk x = true := by
        rw [tOk_eq, tNames_eq, hall]
        have h1 : decide (1 ≤ x.length) = true := decide_eq_true hb.1
        have h2 : decide (x.length ≤ 255) = true := decide_eq_true hb.2
        have h3 : decide (((pieces x).filter keepP).length ≤ 16) = true := decide_eq_true (by omega)
        rw [h1, h2, h3]; rfl
      have h0 : x[0]? = some x[0] := List.getElem?_eq_getElem (by omega)
      refine ⟨_, ix_run (i := 0) h0, ?_⟩
      rw [head47 h0]
      exact hk1 hok _ a c (m2.no m3).drew ((how.mono m2.size).nos (Mod.refl No w3).drew)
theorem rSplit_c {x : Bs} (hk0 : tOk x = false → ∀ w', Mod No w w' → K (.tuple #[.slice none 0 0, .bool false, .int .i64 25]) w')
    (hk1 : tOk x = true → ∀ w' a c, Mod No w w' → Own Tryd.prog w' w.heap.size 52 1 a (tNames x).length c (sL (tNames x)) → K (.tuple #[.slice a (tNames x).length c, .bool (decide (x.head? = some 47)), .int .i64 0]) w') : Cal Tryd.prog F_leveeref17_Split #[.string (sB x)] w K := by
  apply C_leveeref17_Split
  unfold D_leveeref17_Split
  have hs := sB_size x
  refine Share.cut (fun z w1 => w1 = w ∧ z = [.bool (decide (¬ (1 ≤ x.length ∧ x.length ≤ 255)))]) ?_ ?_
  · rw [hs]
    refine cond_of (fun hb => ⟨rfl, ?_⟩) (fun hb => ⟨rfl, ?_⟩)
    · have hb := of_decide_eq_true hb
      have : ¬ (1 ≤ x.length ∧ x.length ≤ 255) := by omega
      simp [this]
    · have hb := of_decide_eq_false hb
      congr 2
      rw [Bool.eq_iff_iff, decide_eq_true_eq, decide_eq_true_eq]; omega
  rintro z w1 ⟨rfl, rfl⟩
  refine ⟨_, rfl, cond_of (fun hb => ?_) (fun hb => ?_)⟩
  · have hb := of_decide_eq_true hb
    refine hk0 ?_ _ (Mod.refl _ _)
    rw [tOk_eq, Bool.eq_false_iff]
    intro h
    simp only [Bool.and_eq_true, decide_eq_true_eq] at h
    exact hb ⟨h.1.1.1, h.1.1.2⟩
  have hb := Classical.not_not.1 (of_decide_eq_false hb)
  have hpl := pieces_len x
  have hnone : sB [] = ByteArray.empty := rfl
  refine ⟨fun z w2 => ∃ (n : Nat) (dn : List Bs) (pt : Bs) (a : Option Addr) (c : Nat) (y3 y4 y5 : Value), n ≤ x.length + 1 ∧ z = [.slice a (dn.filter keepP).length c, .string (sB pt), .int .i64 n, y3, y4, y5] ∧
    ((n ≤ x.length ∧ pieces (x.take n) = dn ++ [pt]) ∨ (n = x.length + 1 ∧ dn = pieces x)) ∧ (dn.filter keepP).all okP = true ∧ Own Tryd.prog w2 w1.heap.size 52 1 a (dn.filter keepP).length c (sL (dn.filter keepP)) ∧ Mod No w1 w2,
    fun z _ => (x.length + 1 - nI z 2).toNat, ⟨0, [], [], none, 0, _, _, _, by omega, rfl, .inl ⟨by omega, rfl⟩, rfl, Own.nil elemZ_strings, Mod.refl _ _⟩, ?_⟩
  rintro z w2 ⟨n, dn, pt, a, c, y3, y4, y5, hn, rfl, hst, hall, how, m2⟩
  rw [hs]
  refine ⟨_, rfl, cond_of (fun hc => ?_) (fun hc => ?_)⟩
  · have hc := of_decide_eq_true hc
    have hnx : n ≤ x.length := by omega
    have hpc : pieces (x.take n) = dn ++ [pt] := by
      rcases hst with h | h
      · exact h.2
      · omega
    have hdl : dn.length ≤ n := by
      have := pieces_len (x.take n)
      rw [hpc, List.length_append, List.length_take] at this
      simp at this; omega
    have hptl : pt.length ≤ x.length := by
      have := piece_len (x := x.take n) (p := pt) (by rw [hpc]; simp)
      rw [List.length_take] at this; omega
    have hfl : (dn.filter keepP).length ≤ n := Nat.le_trans (List.length_filter_le _ _) hdl
    -- the end of a piece
    refine Share.cut (fun z w3 => Mod No w1 w3 ∧ ∃ (dn' : List Bs) (pt' : Bs) (a : Option Addr) (c : Nat) (y3 y4 y5 : Value), z = [.slice a (dn'.filter keepP).length c, .string (sB pt'), y3, y4, y5] ∧
      ((n + 1 ≤ x.length ∧ pieces (x.take (n + 1)) = dn' ++ [pt']) ∨ (n + 1 = x.length + 1 ∧ dn' = pieces x)) ∧ (dn'.filter keepP).all okP = true ∧ Own Tryd.prog w3 w1.heap.size 52 1 a (dn'.filter keepP).length c (sL (dn'.filter keepP))) ?_ ?_
    · refine Share.cut (fun z w3 => w3 = w2 ∧ z = [.bool (match x[n]? with | some c => decide (c ≠ 47) | none => false)]) (cond_of (fun hd => ?_) (fun hd => ?_)) ?_
      · have hd := of_decide_eq_true hd
        have hg : x[n]? = some x[n] := List.getElem?_eq_getElem (by omega)
        refine ⟨_, ix_run hg, rfl, ?_⟩
        rw [bne_47, hg]
      · have hd := of_decide_eq_false hd
        rw [List.getElem?_eq_none (by omega)]
        exact ⟨rfl, rfl⟩
      rintro z w3 ⟨rfl, rfl⟩
      refine ⟨_, rfl, cond_of (fun hd => ?_) (fun hd => ?_)⟩
      · have hlt : n < x.length := by
          by_cases e : n < x.length
          · exact e
          · rw [List.getElem?_eq_none (by omega)] at hd; cases hd
        have hg : x[n]? = some x[n] := List.getElem?_eq_getElem hlt
        rw [hg] at hd
        have hd : x[n] ≠ 47 := of_decide_eq_true hd
        rw [wrap64 (by omega) (by omega)]
        refine ⟨_, rfl, _, one_run hg, _, add_run (by simp; omega), m2, dn, _, a, c, _, _, _, rfl, .inl ⟨by omega, ?_⟩, hall, how⟩
        obtain ⟨dn2, pt2, e1, e2⟩ := pieces_snoc (x.take n) x[n]
        rw [hpc] at e1
        obtain ⟨rfl, e3⟩ := List.append_inj' e1 rfl
        have e3 : pt = pt2 := by simpa using e3
        subst e3
        rw [List.take_succ_eq_append_getElem hlt, e2, if_neg hd]
      · -- the piece is done
        have hdone : (n + 1 ≤ x.length ∧ pieces (x.take (n + 1)) = (dn ++ [pt]) ++ [[]]) ∨ (n + 1 = x.length + 1 ∧ dn ++ [pt] = pieces x) := by
          by_cases e : n < x.length
          · have hg : x[n]? = some x[n] := List.getElem?_eq_getElem e
            rw [hg] at hd
            have hd : x[n] = 47 := by simpa using hd
            obtain ⟨dn2, pt2, e1, e2⟩ := pieces_snoc (x.take n) x[n]
            rw [hpc] at e1
            left
            refine ⟨by omega, ?_⟩
            rw [List.take_succ_eq_append_getElem e, e2, if_pos hd, e1]
          · right
            refine ⟨by omega, ?_⟩
            rw [← hpc, List.take_of_length_le (by omega)]
        refine Share.cut (fun z w4 => w4 = w3 ∧ z = [.bool (keepP pt)]) ⟨_, rfl, ?_⟩ ?_
        · rw [beq_empty, beq_dot]
          refine cond_of (fun he => ⟨rfl, ?_⟩) (fun he => ⟨rfl, ?_⟩)
          · have he : pt ≠ [] := by simpa using he
            simp [keepP, he]
          · have he : pt = [] := by simpa using he
            simp [keepP, he]
        rintro z w4 ⟨rfl, rfl⟩
        have hft : (dn ++ [pt]).filter keepP = dn.filter keepP ++ (if keepP pt = true then [pt] else []) := by
          rw [List.filter_append]; congr 1
          cases h : keepP pt <;> simp [h]
        refine ⟨_, rfl, Share.cut (fun z w5 => Mod No w1 w5 ∧ ∃ (a : Option Addr) (c : Nat) (y : Value), z = [.slice a ((dn ++ [pt]).filter keepP).length c, y] ∧ ((dn ++ [pt]).filter keepP).all okP = true ∧ Own Tryd.prog w5 w1.heap.size 52 1 a ((dn ++ [pt]).filter keepP).length c (sL ((dn ++ [pt]).filter keepP)))
          (cond_of (fun he => ?_) (fun he => ?_)) ?_⟩
        · rw [he, if_pos rfl] at hft
          refine Share.cut (fun z w5 => Mod No w4 w5 ∧ z = [.bool (!okP pt)]) ⟨_, rfl, ?_⟩ ?_
          · rw [beq_dots]
            refine cond_of (fun hd => refName_c (by omega) fun w5 m5 => ⟨_, rfl, m5, ?_⟩) (fun hd => ⟨Mod.refl _ _, ?_⟩)
            · have hd : pt ≠ [46, 46] := by simpa using hd
              simp [okP, hd]
            · have hd : pt = [46, 46] := by simpa using hd
              simp [okP, hd]
          rintro z w5 ⟨m5, rfl⟩
          refine ⟨_, rfl, cond_of (fun hf => ?_) (fun hf => ?_)⟩
          · refine hk0 ?_ _ (m2.no m5)
            have hno : okP pt = false := by simpa using hf
            have : (tNames x).all okP = false := by
              rw [tNames_eq, Bool.eq_false_iff]
              intro h2
              have hmem : pt ∈ pieces x := by
                rcases hdone with ⟨h3, h4⟩ | ⟨_, h4⟩
                · have hx2 : x = x.take (n + 1) ++ x.drop (n + 1) := (List.take_append_drop _ _).symm
                  have hpre : ∀ (t r : Bs) (dn : List Bs), pieces t = dn ++ [[]] → ∀ p ∈ dn, p ∈ pieces (t ++ r) := by
                    intro t r dn ht p hp
                    have hgen : ∀ (r t : Bs) (dn : List Bs) (q : Bs), pieces t = dn ++ [q] → ∀ p ∈ dn, p ∈ pieces (t ++ r) := by
                      intro r
                      induction r with
                      | nil => intro t dn q ht p hp; rw [List.append_nil, ht]; simp [hp]
                      | cons cc r ih =>
                        intro t dn q ht p hp
                        obtain ⟨dn2, pt2, e1, e2⟩ := pieces_snoc t cc
                        rw [ht] at e1
                        obtain ⟨rfl, e3⟩ := List.append_inj' e1 rfl
                        have e3 : q = pt2 := by simpa using e3
                        subst e3
                        rw [show t ++ cc :: r = (t ++ [cc]) ++ r by simp]
                        split at e2
                        · exact ih _ _ _ e2 p (by simp [hp])
                        · exact ih _ _ _ e2 p hp
                    exact hgen r t dn [] ht p hp
                  rw [hx2]
                  exact hpre _ _ _ h4 pt (by simp)
                · rw [← h4]; simp
              have := (List.all_eq_true.1 h2) pt (List.mem_filter.2 ⟨hmem, he⟩)
              rw [hno] at this; cases this
            rw [tOk_eq, this]; simp
          · have hok : okP pt = true := by simpa using hf
            obtain ⟨a1, l1, c1, w6, h1, a2, c2, w7, h2, h3, h4⟩ := snocS pt (how.nos m5) (by omega) (Nat.le_trans m2.size m5.size)
            refine ⟨_, _, _, rfl, _, rfl, a1, l1, c1, w6, h1, a2, _, c2, w7, h2, ?_⟩
            rw [hft, List.length_append, List.length_singleton]
            refine ⟨(m2.no m5).up h4 (Nat.le_refl _), a2, c2, _, rfl, ?_, h3⟩
            rw [List.all_append, hall]; simp [hok]
        · rw [he, if_neg (by simp), List.append_nil] at hft
          rw [hft]
          exact ⟨m2, a, c, _, rfl, hall, how⟩
        rintro z w5 ⟨m5, a', c', y, rfl, hall', how'⟩
        exact ⟨m5, dn ++ [pt], [], a', c', _, _, _, rfl, hdone, hall', how'⟩
    · rintro z w3 ⟨m3, dn', pt', a', c', y3', y4', y5', rfl, hst', hall', how'⟩
      rw [wrap64 (by omega) (by omega)]
      exact ⟨⟨n + 1, dn', pt', a', c', _, _, _, by omega, rfl, hst', hall', how', m3⟩, by simp [nI, nth]; omega⟩
  · have hc := of_decide_eq_false hc
    have hnl : n = x.length + 1 := by omega
    have hdn : dn = pieces x := by
      rcases hst with h | h
      · omega
      · exact h.2
    subst hdn
    refine ⟨_, _, _, rfl, cond_of (fun hc => ?_) (fun hc => ?_)⟩
    · refine hk0 ?_ _ m2
      have hc := of_decide_eq_true hc
      have : decide ((tNames x).length ≤ 16) = false := decide_eq_false (by rw [tNames_eq]; omega)
      rw [tOk_eq, this]; simp
    · have hc := of_decide_eq_false hc
      have hok : tOk x = true := by
        rw [tOk_eq, tNames_eq, hall]
        have h1 : decide (1 ≤ x.length) = true := decide_eq_true hb.1
        have h2 : decide (x.length ≤ 255) = true := decide_eq_true hb.2
        have h3 : decide (((pieces x).filter keepP).length ≤ 16) = true := decide_eq_true (by omega)
        rw [h1, h2, h3]; rfl
      have h0 : x[0]? = some x[0] := List.getElem?_eq_getElem (by omega)
      refine ⟨_, ix_run (i := 0) h0, ?_⟩
      rw [head47 h0]
      exact hk1 hok _ a c m2.drew (how.nos (Mod.refl No w2).drew)
theorem names_c {x : Bs} (hx : x.length ≤ 1000000) (hk : ∀ w' a c, Mod No w w' → Own Tryd.prog w' w.heap.size 52 1 a (pieces x).tail.length c (sL (pieces x).tail) → K (.slice a (pieces x).tail.length c) w') : Cal Tryd.prog F_leveeref33_names #[.string (sB x)] w K := by
  apply C_leveeref33_names
  unfold D_leveeref33_names
  have hs := sB_size x
  refine ⟨fun z w1 => ∃ (n : Nat) (a : Option Addr) (c : Nat), n ≤ x.length ∧ z = [.slice a (pieces (x.take n)).tail.length c, .int .i64 n] ∧ Own Tryd.prog w1 w.heap.size 52 1 a (pieces (x.take n)).tail.length c (sL (pieces (x.take n)).tail) ∧ Mod No w w1,
    fun z _ => (x.length - nI z 1).toNat, ⟨0, none, 0, by omega, rfl, Own.nil elemZ_strings, Mod.refl _ _⟩, ?_⟩
  rintro z w1 ⟨n, a, c, hn, rfl, how, m1⟩
  rw [hs]
  refine ⟨_, rfl, cond_of (fun hb => ?_) (fun hb => ?_)⟩
  · have hb := of_decide_eq_true hb
    have hnx : n < x.length := by omega
    have hg : x[n]? = some x[n] := List.getElem?_eq_getElem hnx
    obtain ⟨dn, pt, e1, e2⟩ := pieces_snoc (x.take n) x[n]
    have hpl := pieces_len (x.take n)
    rw [List.length_take] at hpl
    have htl : (pieces (x.take n)).tail.length ≤ n := by rw [List.length_tail]; omega
    refine ⟨_, ix_run hg, Share.cut (fun z w2 => Mod No w w2 ∧ ∃ (a : Option Addr) (c : Nat), z = [.slice a (pieces (x.take (n + 1))).tail.length c] ∧ Own Tryd.prog w2 w.heap.size 52 1 a (pieces (x.take (n + 1))).tail.length c (sL (pieces (x.take (n + 1))).tail)) (cond_of (fun hc => ?_) (fun hc => ?_)) ?_⟩
    · rw [beq_47] at hc
      have hc := of_decide_eq_true hc
      rw [if_pos hc, ← e1] at e2
      have e3 : (pieces (x.take (n + 1))).tail = (pieces (x.take n)).tail ++ [[]] := by
        rw [List.take_succ_eq_append_getElem hnx, e2]
        have := pieces_ne (x.take n)
        cases hp : pieces (x.take n) with
        | nil => exact absurd hp this
        | cons h t => rfl
      obtain ⟨a1, l1, c1, w2, h1, a2, c2, w3, h2, h3, h4⟩ := snocS [] how (by omega) m1.size
      refine ⟨_, _, _, rfl, a1, l1, c1, w2, h1, a2, _, c2, w3, h2, m1.up h4 (Nat.le_refl _), a2, c2, ?_, ?_⟩
      · rw [e3, List.length_append, List.length_singleton]
      · rw [e3, List.length_append, List.length_singleton]; exact h3
    · rw [beq_47] at hc
      have hc := of_decide_eq_false hc
      rw [if_neg hc] at e2
      refine ⟨_, _, _, rfl, Share.cut (fun z w2 => z = [] ∧ Mod No w w2 ∧ (pieces (x.take (n + 1))).tail.length = (pieces (x.take n)).tail.length ∧ Own Tryd.prog w2 w.heap.size 52 1 a (pieces (x.take n)).tail.length c (sL (pieces (x.take (n + 1))).tail)) (cond_of (fun hd => ?_) (fun hd => ?_)) ?_⟩
      · have hd := of_decide_eq_true hd
        obtain ⟨g, rfl, hgb, hat⟩ := how.sm (by omega)
        cases dn with
        | nil => rw [e1] at hd; simp at hd
        | cons h dn =>
          have t1 : (pieces (x.take n)).tail = dn ++ [pt] := by rw [e1]; rfl
          have t2 : (pieces (x.take (n + 1))).tail = dn ++ [pt ++ [x[n]]] := by rw [List.take_succ_eq_append_getElem hnx, e2]; rfl
          have hptl : pt.length ≤ n := by
            have := piece_len (x := x.take n) (p := pt) (by rw [e1]; simp)
            rw [List.length_take] at this; omega
          rw [t1] at how hat htl ⊢
          rw [List.length_append, List.length_singleton] at how htl ⊢
          rw [t2]
          rw [wrap64 (x := ((dn.length + 1 : Nat) : Int) - 1) (by omega) (by omega)]
          have e5 : ((dn.length + 1 : Nat) : Int) - 1 = ((dn.length : Nat) : Int) := by omega
          rw [e5]
          have hix : ∀ w, (Instr.indexAt 52 (.slice (some ⟨g, 0, none⟩) (dn.length + 1) c) (.int .i64 (dn.length : Nat))).run Tryd.prog w = .ok (.pointer (some ⟨g, dn.length, none⟩)) w := fun w => by
            rw [index_slice (k := 1) (by kernel_rfl) (by omega) (by omega) w, add_none, show 0 + ((dn.length : Nat) : Int).toNat * 1 = dn.length by omega]
          have hl2 : (sL (dn ++ [pt]))[dn.length]? = some (.string (sB pt)) := sL_get (by simp)
          have hld := (hat.at.drew).load (P := Tryd.prog) (T := 9) (by kernel_rfl) hl2
          rw [Nat.zero_add] at hld
          rw [wrap64 (x := (n : Int) + 1) (by omega) (by omega)]
          obtain ⟨w4, s1, s2, s3⟩ := (how.nos (Mod.refl No w1).drew).set (T' := 9) (i := dn.length) (v := .string (sB (pt ++ [x[n]]))) (by kernel_rfl) (by omega) rfl
          refine ⟨_, hix, _, hld, _, one_run hg, _, add_run (by simp; omega), _, hix, w4, s1, rfl, (m1.drew).trans s3 fun y hy e => by subst e; omega, by simp, ?_⟩
          have e6 : (sL (dn ++ [pt])).set dn.length (.string (sB (pt ++ [x[n]]))) = sL (dn ++ [pt ++ [x[n]]]) := by
            rw [sL_append, sL_append, List.set_append_right _ _ (by rw [length_sL]; omega), length_sL, Nat.sub_self]; rfl
          rw [e6] at s2; exact s2
      · have hd := of_decide_eq_false hd
        have h0 : (pieces (x.take n)).tail.length = 0 := by omega
        cases dn with
        | cons h dn => rw [e1] at h0; simp at h0
        | nil =>
          have t1 : (pieces (x.take n)).tail = [] := List.eq_nil_of_length_eq_zero h0
          have t2 : (pieces (x.take (n + 1))).tail = [] := by rw [List.take_succ_eq_append_getElem hnx, e2]; rfl
          rw [t1] at how
          rw [t1, t2]
          exact ⟨rfl, m1, rfl, how⟩
      rintro z w2 ⟨rfl, m2, hlen, how2⟩
      rw [hlen]
      exact ⟨m2, a, c, rfl, how2⟩
    rintro z w2 ⟨m2, a', c', rfl, how'⟩
    rw [wrap64 (by omega) (by omega)]
    exact ⟨⟨n + 1, a', c', by omega, rfl, how', m2⟩, by simp [nI, nth]; omega⟩
  · have hb := of_decide_eq_false hb
    have hnl : n = x.length := by omega
    subst hnl
    rw [List.take_length] at how ⊢
    exact ⟨_, _, _, rfl, hk w1 a c m1 how⟩
theorem less_c {x y : Bs} (hx : x.length ≤ 1000000) (hy : y.length ≤ 1000000) (hk : ∀ w', Mod No w w' → K (.bool (lessN x y)) w') : Cal Tryd.prog F_leveeref33_Less #[.string (sB x), .string (sB y)] w K := by
  apply C_leveeref33_Less
  unfold D_leveeref33_Less
  have e0 : lessN x y = lessR (pieces x).tail (pieces y).tail := by unfold lessN; rw [names_eq, names_eq]
  have hlx := pieces_len x
  have hly := pieces_len y
  rw [e0] at hk
  refine names_c hx fun w1 a1 c1 m1 o1 => ⟨_, _, _, rfl, names_c hy fun w2 a2 c2 m2 o2 => ⟨_, _, _, rfl, ?_⟩⟩
  have hX : (pieces x).tail.length ≤ 1000000 := by rw [List.length_tail]; omega
  have hY : (pieces y).tail.length ≤ 1000000 := by rw [List.length_tail]; omega
  generalize (pieces x).tail = X at *
  generalize (pieces y).tail = Y at *
  have r1 := o1.rowU.row.nos m2
  have r2 := o2.rowU.row
  refine ⟨fun z w3 => Mod No w2 w3 ∧ ∃ (n : Nat) (u : Value), n ≤ X.length ∧ n ≤ Y.length ∧ z = [.int .i64 n, u] ∧ lessR X Y = lessR (X.drop n) (Y.drop n), fun z _ => (X.length - nI z 0).toNat, ⟨Mod.refl _ _, 0, _, by omega, by omega, rfl, rfl⟩, ?_⟩
  rintro z w3 ⟨m3, n, u, hn1, hn2, rfl, he⟩
  refine Share.cut (fun z w4 => w4 = w3 ∧ z = [.bool (decide (n < X.length ∧ n < Y.length))]) ⟨_, rfl, cond_of (fun hb => ⟨rfl, ?_⟩) (fun hb => ⟨rfl, ?_⟩)⟩ ?_
  · have hb := of_decide_eq_true hb
    congr 2; rw [Bool.eq_iff_iff, decide_eq_true_eq, decide_eq_true_eq]; omega
  · have hb := of_decide_eq_false hb
    congr 2; symm; exact decide_eq_false (by omega)
  rintro z w4 ⟨rfl, rfl⟩
  refine ⟨_, rfl, cond_of (fun hb => ?_) (fun hb => ?_)⟩
  · obtain ⟨hx1, hy1⟩ := of_decide_eq_true hb
    have gx : X[n]? = some X[n] := List.getElem?_eq_getElem hx1
    have gy : Y[n]? = some Y[n] := List.getElem?_eq_getElem hy1
    obtain ⟨b1, o1', rfl, hat1⟩ := row_str (r1.nos m3) hx1
    obtain ⟨b2, o2', rfl, hat2⟩ := row_str (r2.nos m3) hy1
    have i1 : ∀ w, (Instr.indexAt 52 (.slice (some ⟨b1, o1', none⟩) X.length c1) (.int .i64 n)).run Tryd.prog w = .ok (.pointer (some ⟨b1, o1' + n, none⟩)) w := fun w => by
      rw [index_slice (k := 1) (by kernel_rfl) (by omega) (by omega) w, add_none, show (n : Int).toNat * 1 = n by omega]
    have i2 : ∀ w, (Instr.indexAt 52 (.slice (some ⟨b2, o2', none⟩) Y.length c2) (.int .i64 n)).run Tryd.prog w = .ok (.pointer (some ⟨b2, o2' + n, none⟩)) w := fun w => by
      rw [index_slice (k := 1) (by kernel_rfl) (by omega) (by omega) w, add_none, show (n : Int).toNat * 1 = n by omega]
    have l1 := hat1.drew.load (P := Tryd.prog) (T := 9) (by kernel_rfl) (sL_get gx)
    have l2 := hat2.drew.load (P := Tryd.prog) (T := 9) (by kernel_rfl) (sL_get gy)
    have l3 := hat1.drew.drew.load (P := Tryd.prog) (T := 9) (by kernel_rfl) (sL_get gx)
    have l4 := hat2.drew.drew.load (P := Tryd.prog) (T := 9) (by kernel_rfl) (sL_get gy)
    rw [List.drop_eq_getElem_cons hx1, List.drop_eq_getElem_cons hy1] at he
    have he : lessR X Y = if X[n] ≠ Y[n] then bl X[n] Y[n] else lessR (X.drop (n + 1)) (Y.drop (n + 1)) := he
    refine ⟨_, rfl, _, i1, _, l1, _, i2, _, l2, ?_⟩
    rw [beq_sB]
    refine cond_of (fun hc => ?_) (fun hc => ?_)
    · have hc : X[n] ≠ Y[n] := by simpa using hc
      rw [if_pos hc] at he
      refine ⟨_, i1, _, l3, _, i2, _, l4, _, lss_run, ?_⟩
      rw [← he]
      exact hk _ ((m1.no m2).no m3).drew.drew
    · have hc : X[n] = Y[n] := by simpa using hc
      rw [if_neg (fun h => h hc)] at he
      rw [wrap64 (by omega) (by omega)]
      exact ⟨⟨m3.drew, n + 1, _, by omega, by omega, rfl, he⟩, by simp [nI, nth]; omega⟩
  · have hb := of_decide_eq_false hb
    have e5 : lessR X Y = decide ((X.length : Int) < (Y.length : Int)) := by
      rw [he]
      by_cases h1 : n < X.length
      · have h2 : ¬ n < Y.length := fun h => hb ⟨h1, h⟩
        rw [List.drop_eq_getElem_cons h1, List.drop_eq_nil_of_le (by omega : Y.length ≤ n)]
        exact (decide_eq_false (by omega)).symm
      · rw [List.drop_eq_nil_of_le (by omega : X.length ≤ n)]
        show decide (0 < (Y.drop n).length) = _
        rw [decide_eq_decide, List.length_drop]; omega
    rw [← e5]
    exact hk _ ((m1.no m2).no m3)
end
end Go.Proofs.YtiahkkekcmgkfaaDoor
end
section
/- A row of one's own that grows, of any elements. -/
open Go Go.Den Go.Proofs
namespace Go.Den
section
variable {P : Program} {w : World}
/-- What an element's type lays: its size, its bytes. -/
def elemG (P : Program) (T : TypeId) (k bytes : Nat) : Prop := ∃ e i zv, P.underlying T = some (.slice e) ∧ P.info? e = some i ∧ i.size = k ∧ i.zero = some zv ∧ zv.cells.size = k ∧ i.bytes = bytes
def elemGb (P : Program) (T : TypeId) : Option (Nat × Nat × Nat) :=
  match P.underlying T with
  | some (.slice e) => match P.info? e with
    | some i => match i.zero with
      | some z => some (i.size, z.cells.size, i.bytes)
      | none => none
    | none => none
  | _ => none
theorem elemG_of {T : TypeId} {k bytes : Nat} (h : elemGb P T = some (k, k, bytes)) : elemG P T k bytes := by
  unfold elemGb at h
  split at h
  · rename_i e he
    split at h
    · rename_i i hi
      split at h
      · rename_i zv hz
        have h := Option.some.inj h
        simp only [Prod.mk.injEq] at h
        exact ⟨e, i, zv, he, hi, h.1, hz, h.2.1, h.2.2⟩
      · cases h
    · cases h
  · cases h
theorem Own.nilG {base k bytes : Nat} {T : TypeId} (hT : elemG P T k bytes) : Own P w base T k none 0 0 [] := by
  obtain ⟨e, i, zv, he, _⟩ := hT
  exact ⟨e, he, World.ownsRow_nil w base e k⟩
/-- append of some new values: the row is where it was, or new. -/
theorem Own.appG {base k bytes l c m c2 : Nat} {T ty : TypeId} {a : Option Addr} {ad : Addr} {xs ys : List Value} (hT : elemG P T k bytes) (hk : 0 < k) (h : Own P w base T k a l c xs)
    (hr : Row w (some ad) ys) (hl : ys.length = m * k) (hm : 0 < m) (h1 : ∀ v ∈ ys, v.oneCell' = true) (h63 : (l + m) * bytes ≤ 140737488355328) (hb : 0 < bytes) (hbase : base ≤ w.heap.size) :
    ∃ q c' w', (Builtin.append_ #[T, T] ty #[.slice a l c, .slice (some ad) m c2]).run P w = .ok (.slice (some q) (l + m) c') w' ∧ Own P w' base T k (some q) (l + m) c' (xs ++ ys) ∧ Mod (fun x => ∃ q, a = some q ∧ x = q.block) w w' ∧
      ((∃ q', a = some q' ∧ q.block = q'.block) ∨ w.heap.size ≤ q.block) := by
  obtain ⟨e, i, zv, he, hi, hsz, hz, hzc, hby⟩ := hT
  obtain ⟨e', he', how⟩ := h
  have : e' = e := by rw [he] at he'; simpa using he'.symm
  subst this
  have hlm : l + m ≤ (l + m) * bytes := Nat.le_mul_of_pos_right _ hb
  have hmb : m * bytes ≤ (l + m) * bytes := Nat.mul_le_mul_right _ (by omega)
  have hcell : ∀ j u, ys[j]? = some u → w.cell? (ad.add j) = some u := by
    intro j u hj
    rcases hr with hr | ⟨b, o, e, hat⟩
    · subst hr; simp at hj
    · simp at e; subst e; exact hat.cell hj
  obtain ⟨v', w', hrun, how', hgr, _⟩ := run_append_own w base T ty e' i zv k bytes he hi hz hsz hby hzc hk (.slice a l c) l xs how ad m c2 ys hl hcell h1 (by simp [maxLen]; omega) h63 hbase
  have hmod : Mod (fun x => ∃ q, a = some q ∧ x = q.block) w w' := (Mod.grown hgr).mono fun x hx e => by
    cases a with
    | none => cases e
    | some q => exact ⟨q, rfl, by simpa [Value.ownBlock] using e.symm⟩
  rcases how.2 with ⟨hv, hx⟩ | ⟨g, cap, cur, hv, hbg, hg, hnc, hcm, hcs, htake⟩
  · simp at hv
    obtain ⟨rfl, rfl, rfl⟩ := hv
    have hr2 := run_append_nil (P := P) w T ty e' i zv he hi hz ad m c2 ys (by rw [hsz]; exact hl) hcell hm (by omega) (by rw [hby]; omega)
    have hrun' := hrun
    rw [hr2] at hrun'
    simp only [Result.ok.injEq] at hrun'
    obtain ⟨rfl, _⟩ := hrun'
    rw [Nat.zero_add] at how' ⊢
    exact ⟨_, _, w', hrun, ⟨e', he, how'⟩, hmod, .inr (Nat.le_refl _)⟩
  · simp at hv
    obtain ⟨rfl, rfl⟩ := hv
    by_cases hroom : l + m ≤ c
    · have hr2 := run_append_room (P := P) w T ty e' i he hi g l c cur hg ad m c2 ys (by rw [hsz]; exact hl) hcell h1 hroom (by rw [hsz, hl, hcs, ← Nat.add_mul]; exact Nat.mul_le_mul_right _ hroom)
      have hrun' := hrun
      rw [hr2] at hrun'
      simp only [Result.ok.injEq] at hrun'
      obtain ⟨rfl, _⟩ := hrun'
      exact ⟨_, _, w', hrun, ⟨e', he, how'⟩, hmod, .inl ⟨_, rfl, rfl⟩⟩
    · have holds : ∀ j u, xs[j]? = some u → w.cell? ((⟨g, 0, none⟩ : Addr).add j) = some u := how.cells (g := g) rfl
      have hr2 := run_append_grow (P := P) w T ty e' i zv he hi hz ⟨g, 0, none⟩ l c xs (by rw [hsz]; exact how.1) holds ad m c2 ys (by rw [hsz]; exact hl) hcell (by omega) (by omega) (growslice_fits (by omega) (by rw [hby]; exact h63))
      have hrun' := hrun
      rw [hr2] at hrun'
      simp only [Result.ok.injEq] at hrun'
      obtain ⟨rfl, _⟩ := hrun'
      exact ⟨_, _, w', hrun, ⟨e', he, how'⟩, hmod, .inr (Nat.le_refl _)⟩
end
end Go.Den
end
section
/- Maps with keys that are ints, in memory: what the operations do there. -/
open Go Go.Den
namespace Go.Den
abbrev Ent := Int × Value × Nat
def toE (e : Ent) : MapEntry := ⟨.int .i64 e.1, e.2.1, e.2.2⟩
def kv (e : Ent) : Int × Value := (e.1, e.2.1)
def findE (k : Int) : List Ent → Nat → Option (Nat × Value)
  | [], _ => none
  | e :: r, i => if e.1 = k then some (i, e.2.1) else findE k r (i + 1)
def putE (k : Int) (v : Value) (b : Nat) : List Ent → List Ent
  | [] => [(k, v, b)]
  | e :: r => if e.1 = k then (k, v, e.2.2) :: r else e :: putE k v b r
def lookupL : List (Int × Value) → Int → Option Value
  | [], _ => none
  | p :: r, k => if p.1 = k then some p.2 else lookupL r k
def putL (k : Int) (v : Value) : List (Int × Value) → List (Int × Value)
  | [] => [(k, v)]
  | p :: r => if p.1 = k then (k, v) :: r else p :: putL k v r

theorem findE_look (k : Int) : ∀ (Es : List Ent) (i : Nat), (findE k Es i).map (·.2) = lookupL (Es.map kv) k
  | [], _ => rfl
  | e :: r, i => by
    simp only [findE, List.map_cons, lookupL, kv]
    by_cases h : e.1 = k
    · rw [if_pos h, if_pos h]; rfl
    · rw [if_neg h, if_neg h]; exact findE_look k r (i + 1)
theorem putE_kv (k : Int) (v : Value) (b : Nat) : ∀ Es : List Ent, (putE k v b Es).map kv = putL k v (Es.map kv)
  | [] => rfl
  | e :: r => by
    simp only [putE, List.map_cons, putL, kv]
    by_cases h : e.1 = k
    · rw [if_pos h, if_pos h]; rfl
    · rw [if_neg h, if_neg h, List.map_cons, putE_kv k v b r]; rfl
theorem findNow_E (q : IntKind) (k : Int) : ∀ (Es : List Ent) (i : Nat), Instr.findNow (.int q) (.int .i64 k) (Es.map toE) i = some (findE k Es i)
  | [], _ => rfl
  | e :: r, i => by
    simp only [List.map_cons, Instr.findNow, toE, Instr.sameNow, findE, if_true]
    by_cases h : e.1 = k
    · have : (k == e.1) = true := by simp [h]
      rw [if_pos h, this]
    · have : (k == e.1) = false := by simp; exact fun e => h e.symm
      rw [if_neg h, this]
      exact findNow_E q k r (i + 1)
theorem findE_modify (k : Int) (v : Value) (b : Nat) : ∀ (Es : List Ent) (i j : Nat) (u : Value), findE k Es i = some (j, u) → i ≤ j ∧ (Es.map toE).modify (j - i) (fun e => { e with key := .int .i64 k, val := v }) = (putE k v b Es).map toE ∧ ((Es.map toE)[j - i]?.map (·.key)) = some (.int .i64 k)
  | [], i, j, u, h => by cases h
  | e :: r, i, j, u, h => by
    simp only [findE] at h
    by_cases he : e.1 = k
    · rw [if_pos he] at h
      have h := Option.some.inj h
      simp only [Prod.mk.injEq] at h
      obtain ⟨rfl, _⟩ := h
      refine ⟨Nat.le_refl _, ?_, ?_⟩
      · simp only [putE, if_pos he, List.map_cons, Nat.sub_self, List.modify_zero_cons, toE]
      · simp [toE, he]
    · rw [if_neg he] at h
      obtain ⟨h1, h2, h3⟩ := findE_modify k v b r (i + 1) j u h
      refine ⟨by omega, ?_, ?_⟩
      · rw [show j - i = (j - (i + 1)) + 1 by omega]
        simp only [putE, if_neg he, List.map_cons, List.modify_succ_cons, h2]
      · rw [show j - i = (j - (i + 1)) + 1 by omega]
        simpa using h3
theorem findE_none (k : Int) (v : Value) (b : Nat) : ∀ (Es : List Ent) (i : Nat), findE k Es i = none → putE k v b Es = Es ++ [(k, v, b)] ∧ ∀ e ∈ Es, e.1 ≠ k
  | [], _, _ => ⟨rfl, by simp⟩
  | e :: r, i, h => by
    simp only [findE] at h
    by_cases he : e.1 = k
    · rw [if_pos he] at h; cases h
    · rw [if_neg he] at h
      obtain ⟨h1, h2⟩ := findE_none k v b r (i + 1) h
      refine ⟨by simp only [putE, if_neg he, h1, List.cons_append], fun x hx => ?_⟩
      rcases List.mem_cons.1 hx with rfl | hx
      · exact he
      · exact h2 x hx
theorem putE_born (k : Int) (v : Value) (b : Nat) : ∀ (Es : List Ent) (i : Nat), findE k Es i ≠ none → (putE k v b Es).map (·.2.2) = Es.map (·.2.2) ∧ (putE k v b Es).map (·.1) = Es.map (·.1)
  | [], _, h => absurd rfl h
  | e :: r, i, h => by
    simp only [findE] at h
    by_cases he : e.1 = k
    · simp [putE, he]
    · rw [if_neg he] at h
      obtain ⟨h1, h2⟩ := putE_born k v b r (i + 1) h
      simp [putE, he, h1, h2]

/-- A map in memory. -/
def MapAt (w : World) (m : Nat) (L : List (Int × Value)) : Prop :=
  ∃ (Es : List Ent) (clock : Nat), w.heap[m]? = some (.map (Es.map toE).toArray clock) ∧ Es.map kv = L ∧ (Es.map (·.1)).Nodup ∧ (∀ e ∈ Es, e.2.2 < clock) ∧ (Es.map (·.2.2)).Nodup
section
variable {P : Program} {w : World}
theorem MapAt.lt {m : Nat} {L : List (Int × Value)} (h : MapAt w m L) : m < w.heap.size := by obtain ⟨_, _, h, _⟩ := h; exact lt_of_heap h
theorem MapAt.keep {m : Nat} {L : List (Int × Value)} {S : Nat → Prop} {w' : World} (h : MapAt w m L) (hm : Mod S w w') (hs : ¬ S m) : MapAt w' m L := by
  obtain ⟨Es, c, h1, h2⟩ := h; exact ⟨Es, c, hm.keep h1 hs, h2⟩
theorem MapAt.drew {m : Nat} {L : List (Int × Value)} (h : MapAt w m L) : MapAt (drew w) m L := h
theorem MapAt.nodup {m : Nat} {L : List (Int × Value)} (h : MapAt w m L) : (L.map (·.1)).Nodup := by
  obtain ⟨Es, c, _, rfl, h, _⟩ := h
  rw [List.map_map]; exact h
def mapZ (P : Program) (T : TypeId) : Option Value :=
  match P.underlying T with
  | some (.map k e) => match P.underlying k with
    | some (.int .i64) => match P.info? e with | some i => i.zero | none => none
    | _ => none
  | _ => none
theorem mapZ_is {T : TypeId} {z : Value} (h : mapZ P T = some z) : ∃ k e i, P.underlying T = some (.map k e) ∧ P.underlying k = some (.int .i64) ∧ P.info? e = some i ∧ i.zero = some z := by
  unfold mapZ at h
  split at h
  · rename_i k e h1
    split at h
    · rename_i h2
      split at h
      · rename_i i h3; exact ⟨k, e, i, h1, h2, h3, h⟩
      · cases h
    · cases h
  · cases h
theorem run_checkKey {k : TypeId} {empty : Bool} {n : Int} (hk : P.underlying k = some (.int .i64)) : (Instr.checkKey empty 10000 k (.int .i64 n)).run P w = .ok () w := by
  rw [show (10000 : Nat) = 9999 + 1 from rfl, Instr.checkKey]
  simp [run_und hk]
theorem run_findKey {k : TypeId} {n : Int} {Es : List Ent} (hk : P.underlying k = some (.int .i64)) : (Instr.findKey k (.int .i64 n) (Es.map toE)).run P w = .ok (findE n Es 0) w := by
  simp [Instr.findKey, run_und hk, findNow_E]
theorem run_getMap {m : Nat} {es : Array MapEntry} {c : Nat} (h : w.heap[m]? = some (.map es c)) : (getObj m).run P w = .ok (.map es c) w := by
  simp [getObj, Sem.run, h]

theorem run_setMap {m : Nat} {es : Array MapEntry} {c : Nat} {o' : Obj} (h : w.heap[m]? = some (.map es c)) : (setObj m o').run P w = .ok () (put w m o') := by
  have hlt := lt_of_heap h
  simp only [setObj, Sem.run]
  rw [h]; rfl

theorem update_run {T : TypeId} {z : Value} {m : Nat} {L : List (Int × Value)} {k : Int} {v : Value} (hT : mapZ P T = some z) (h : MapAt w m L) :
    ∃ w', (Instr.mapUpdate T (.map (some m)) (.int .i64 k) v).run P w = .ok () w' ∧ MapAt w' m (putL k v L) ∧ Mod (fun x => x = m) w w' ∧ w'.heap.size = w.heap.size := by
  obtain ⟨kt, e, i, h1, h2, h3, h4⟩ := mapZ_is hT
  obtain ⟨Es, c, g1, rfl, g3, g4, g5⟩ := h
  have hm : ∀ o, Mod (fun x => x = m) w (put w m o) := fun o => (Mod.refl (fun x => x = m) w).put (.inr rfl) _
  cases hf : findE k Es 0 with
  | none =>
    obtain ⟨e1, e2⟩ := findE_none k v c Es 0 hf
    refine ⟨put w m (.map ((putE k v c Es).map toE).toArray (c + 1)), ?_, ⟨putE k v c Es, c + 1, heap_put_same (lt_of_heap g1), putE_kv k v c Es, ?_, ?_, ?_⟩, hm _, by simp⟩
    · simp only [Instr.mapUpdate, Sem.run_bind, run_und h1, Result.andThen_ok, run_getMap g1, run_checkKey h2, run_findKey h2, hf]
      rw [run_setMap g1, e1]
      simp [toE]
    · rw [e1, List.map_append]
      refine List.nodup_append.2 ⟨g3, by simp, ?_⟩
      intro a ha b hb
      simp at hb; subst hb
      obtain ⟨x, hx, rfl⟩ := List.mem_map.1 ha
      exact e2 x hx
    · intro x hx
      rw [e1] at hx
      rcases List.mem_append.1 hx with hx | hx
      · have := g4 x hx; omega
      · simp at hx; subst hx; simp
    · rw [e1, List.map_append]
      refine List.nodup_append.2 ⟨g5, by simp, ?_⟩
      intro a ha b hb
      simp at hb; subst hb
      obtain ⟨x, hx, rfl⟩ := List.mem_map.1 ha
      have := g4 x hx; omega
  | some r =>
    obtain ⟨j, u⟩ := r
    obtain ⟨_, e1, e2⟩ := findE_modify k v c Es 0 j u hf
    rw [Nat.sub_zero] at e1 e2
    obtain ⟨b1, b2⟩ := putE_born k v c Es 0 (by rw [hf]; simp)
    refine ⟨put w m (.map ((putE k v c Es).map toE).toArray c), ?_, ⟨putE k v c Es, c, heap_put_same (lt_of_heap g1), putE_kv k v c Es, by rw [b2]; exact g3, ?_, by rw [b1]; exact g5⟩, hm _, by simp⟩
    · have hkey : (((Es.map toE).toArray[j]?).map (·.key)).getD (.int .i64 k) = .int .i64 k := by
        rw [List.getElem?_toArray, e2]; rfl
      have hstay : (Instr.keyThatStays (.int .i64 k) (.int .i64 k)).run P w = .ok (.int .i64 k) w := by
        have : Instr.sameBits 10000 (.int .i64 k) (.int .i64 k) = true := by simp [Instr.sameBits]
        simp [Instr.keyThatStays, this]
      simp only [Instr.mapUpdate, Sem.run_bind, run_und h1, Result.andThen_ok, run_getMap g1, run_checkKey h2, run_findKey h2, hf, hkey, hstay]
      rw [run_setMap g1, ← e1]
      simp
    · intro x hx
      have hx' : x.2.2 ∈ Es.map (·.2.2) := by rw [← b1]; exact List.mem_map.2 ⟨x, hx, rfl⟩
      obtain ⟨y, hy, hye⟩ := List.mem_map.1 hx'
      rw [← hye]; exact g4 y hy

theorem makeMap_run {T : TypeId} : (Instr.makeMap T none).run P w = .ok (.map (some w.heap.size)) (w.alloc (.map #[] 0)) := rfl
theorem MapAt.new : MapAt (w.alloc (.map #[] 0)) w.heap.size [] := ⟨[], 0, heap_new w _, rfl, by simp, by simp, by simp⟩
end
end Go.Den
end
section
/- A map of texts that are marked: a set of texts in memory. -/
open Go Go.Den
namespace Go.Den
def toS (e : Bs × Nat) : MapEntry := ⟨.string (sB e.1), .bool true, e.2⟩
def findS (k : Bs) : List (Bs × Nat) → Nat → Option (Nat × Value)
  | [], _ => none
  | e :: r, i => if e.1 = k then some (i, .bool true) else findS k r (i + 1)
theorem beq_bytes (x y : Bs) : (sB x == sB y) = decide (x = y) := by
  have e : (sB x == sB y) = ((sB x).data == (sB y).data) := rfl
  rw [e, Bool.eq_iff_iff, beq_iff_eq, decide_eq_true_eq]
  constructor
  · intro h
    have := congrArg Array.toList h
    exact this
  · rintro rfl; rfl
theorem findNow_S (k : Bs) : ∀ (Es : List (Bs × Nat)) (i : Nat), Instr.findNow .string (.string (sB k)) (Es.map toS) i = some (findS k Es i)
  | [], _ => rfl
  | e :: r, i => by
    simp only [List.map_cons, Instr.findNow, toS, Instr.sameNow, findS]
    by_cases h : e.1 = k
    · have : (sB k == sB e.1) = true := by rw [beq_bytes, h]; simp
      rw [if_pos h, this]
    · have : (sB k == sB e.1) = false := by rw [beq_bytes]; exact decide_eq_false fun e2 => h e2.symm
      rw [if_neg h, this]
      exact findNow_S k r (i + 1)
theorem findS_cases (k : Bs) : ∀ (Es : List (Bs × Nat)) (i : Nat), (findS k Es i = none ∧ k ∉ Es.map (·.1)) ∨ ∃ j, findS k Es i = some (j, .bool true) ∧ k ∈ Es.map (·.1)
  | [], _ => .inl ⟨rfl, by simp⟩
  | e :: r, i => by
    unfold findS
    by_cases h : e.1 = k
    · rw [if_pos h]; exact .inr ⟨i, rfl, by simp [h]⟩
    · rw [if_neg h]
      rcases findS_cases k r (i + 1) with ⟨h1, h2⟩ | ⟨j, h1, h2⟩
      · exact .inl ⟨h1, by rw [List.map_cons, List.mem_cons]; rintro (h3 | h3); exact h h3.symm; exact h2 h3⟩
      · exact .inr ⟨j, h1, by rw [List.map_cons]; exact List.mem_cons_of_mem _ h2⟩
/-- A set of texts in memory. -/
def SetAt (w : World) (m : Nat) (L : List Bs) : Prop := ∃ (Es : List (Bs × Nat)) (clock : Nat), w.heap[m]? = some (.map (Es.map toS).toArray clock) ∧ Es.map (·.1) = L
section
variable {P : Program} {w : World}
theorem SetAt.lt {m : Nat} {L : List Bs} (h : SetAt w m L) : m < w.heap.size := by obtain ⟨_, _, h, _⟩ := h; exact lt_of_heap h
theorem SetAt.keep {m : Nat} {L : List Bs} {S : Nat → Prop} {w' : World} (h : SetAt w m L) (hm : Mod S w w') (hs : ¬ S m) : SetAt w' m L := by
  obtain ⟨Es, c, h1, h2⟩ := h; exact ⟨Es, c, hm.keep h1 hs, h2⟩
theorem SetAt.nos {m : Nat} {L : List Bs} {w' : World} (h : SetAt w m L) (hm : Mod No w w') : SetAt w' m L := h.keep hm id
theorem SetAt.new : SetAt (w.alloc (.map #[] 0)) w.heap.size [] := ⟨[], 0, heap_new w _, rfl⟩
def setZ (P : Program) (T : TypeId) : Bool :=
  match P.underlying T with
  | some (.map k e) => match P.underlying k with
    | some .string => match P.info? e with | some i => (match i.zero with | some (.bool false) => true | _ => false) | none => false
    | _ => false
  | _ => false
theorem setZ_is {T : TypeId} (h : setZ P T = true) : ∃ k e i, P.underlying T = some (.map k e) ∧ P.underlying k = some .string ∧ P.info? e = some i ∧ i.zero = some (.bool false) := by
  unfold setZ at h
  split at h
  · rename_i k e h1
    split at h
    · rename_i h2
      split at h
      · rename_i i h3
        split at h
        · rename_i h4; exact ⟨k, e, i, h1, h2, h3, h4⟩
        · cases h
      · cases h
    · cases h
  · cases h
theorem run_checkStr {k : TypeId} {empty : Bool} {s : ByteArray} (hk : P.underlying k = some .string) : (Instr.checkKey empty 10000 k (.string s)).run P w = .ok () w := by
  rw [show (10000 : Nat) = 9999 + 1 from rfl, Instr.checkKey]
  simp [run_und hk]
theorem run_findStr {k : TypeId} {s : Bs} {Es : List (Bs × Nat)} (hk : P.underlying k = some .string) : (Instr.findKey k (.string (sB s)) (Es.map toS)).run P w = .ok (findS s Es 0) w := by
  simp [Instr.findKey, run_und hk, findNow_S]
theorem inSet_run {T : TypeId} {m : Nat} {L : List Bs} {k : Bs} (hT : setZ P T = true) (h : SetAt w m L) : (Instr.lookup T (.map (some m)) (.string (sB k)) false).run P w = .ok (.bool (decide (k ∈ L))) w := by
  obtain ⟨kt, e, i, h1, h2, h3, h4⟩ := setZ_is hT
  obtain ⟨Es, c, g1, rfl⟩ := h
  have hzero : (zeroValue e).run P w = .ok (.bool false) w := by simp [zeroValue, typeInfo, h3, h4]
  simp only [Instr.lookup, Sem.run_bind, run_und h1, Result.andThen_ok, run_getMap g1, Sem.run_pure, run_checkStr h2, run_findStr h2]
  rcases findS_cases k Es 0 with ⟨hf, hn⟩ | ⟨j, hf, hn⟩
  · rw [hf, decide_eq_false hn]; simp [hzero]
  · rw [hf, decide_eq_true hn]; simp
theorem addSet_run {T : TypeId} {m : Nat} {L : List Bs} {k : Bs} (hT : setZ P T = true) (h : SetAt w m L) (hk : k ∉ L) :
    ∃ w', (Instr.mapUpdate T (.map (some m)) (.string (sB k)) (.bool true)).run P w = .ok () w' ∧ SetAt w' m (L ++ [k]) ∧ Mod (fun x => x = m) w w' ∧ w'.heap.size = w.heap.size := by
  obtain ⟨kt, e, i, h1, h2, h3, h4⟩ := setZ_is hT
  obtain ⟨Es, c, g1, rfl⟩ := h
  rcases findS_cases k Es 0 with ⟨hf, hn⟩ | ⟨j, hf, hn⟩
  · refine ⟨put w m (.map ((Es ++ [(k, c)]).map toS).toArray (c + 1)), ?_, ⟨Es ++ [(k, c)], c + 1, heap_put_same (lt_of_heap g1), by simp⟩, (Mod.refl (fun x => x = m) w).put (.inr rfl) _, by simp⟩
    simp only [Instr.mapUpdate, Sem.run_bind, run_und h1, Result.andThen_ok, run_getMap g1, run_checkStr h2, run_findStr h2, hf]
    rw [run_setMap g1]
    simp [toS]
  · exact absurd hn hk
end
end Go.Den
end
section
/- Entries of a tree in memory, as the program and as the document has them; is one as its kind must be? -/
open Go Go.Den Go.Proofs
namespace Go.Den
theorem flat5_len : ∀ {L : List (List Value)}, (∀ c ∈ L, c.length = 5) → L.flatten.length = L.length * 5
  | [], _ => rfl
  | x :: r, h => by
    rw [List.flatten_cons, List.length_append, h x (by simp), flat5_len (fun c hc => h c (List.mem_cons_of_mem _ hc)), List.length_cons]; omega
theorem flat5_get : ∀ {L : List (List Value)}, (∀ c ∈ L, c.length = 5) → ∀ {i : Nat} {c : List Value}, L[i]? = some c → (L.flatten.drop (i * 5)).take 5 = c
  | [], _, i, c, e => by simp at e
  | x :: r, h, 0, c, e => by
    simp at e; subst e
    have := h x (by simp)
    rw [List.flatten_cons, Nat.zero_mul, List.drop_zero, List.take_append_of_le_length (by omega), List.take_of_length_le (by omega)]
  | x :: r, h, i + 1, c, e => by
    have hx := h x (by simp)
    rw [List.flatten_cons, show (i + 1) * 5 = x.length + i * 5 by omega, List.drop_append, List.drop_eq_nil_of_le (by omega), List.nil_append, show x.length + i * 5 - x.length = i * 5 by omega]
    exact flat5_get (fun c hc => h c (List.mem_cons_of_mem _ hc)) (by simpa using e)
theorem flat5_cell {L : List (List Value)} (h : ∀ c ∈ L, c.length = 5) {i j : Nat} {c : List Value} {v : Value} (hc : L[i]? = some c) (hj : c[j]? = some v) : L.flatten[i * 5 + j]? = some v := by
  have hj5 : j < 5 := by
    have h1 := (List.getElem?_eq_some_iff.1 hj).1
    have h2 := h c (List.mem_of_getElem? hc)
    omega
  rw [← flat5_get h hc, List.getElem?_take, if_pos hj5, List.getElem?_drop] at hj
  exact hj
def pV (z : Tn × Option Addr × Nat) : List Value := [.string (sB z.1.path), .int .i64 z.1.kind, .string (sB z.1.link), .slice z.2.1 z.1.data.length z.2.2, .int .i64 z.1.same]
def rV (e : Tn) : List Value := [.string (sB e.path), .int .i64 e.kind, .string (sB e.link), .string (sB e.data), .int .i64 e.same]
theorem pV_all (Z : List (Tn × Option Addr × Nat)) : ∀ c ∈ Z.map pV, c.length = 5 := by
  intro c hc
  obtain ⟨z, _, rfl⟩ := List.mem_map.1 hc
  rfl
theorem rV_all (l : List Tn) : ∀ c ∈ l.map rV, c.length = 5 := by
  intro c hc
  obtain ⟨z, _, rfl⟩ := List.mem_map.1 hc
  rfl
theorem one_pV (z : Tn × Option Addr × Nat) : ∀ v ∈ pV z, v.oneCell' = true := by
  intro v hv
  simp [pV] at hv
  rcases hv with rfl | rfl | rfl | rfl | rfl <;> rfl
theorem one_rV (z : Tn) : ∀ v ∈ rV z, v.oneCell' = true := by
  intro v hv
  simp [rV] at hv
  rcases hv with rfl | rfl | rfl | rfl | rfl <;> rfl
/-- Entries as the program has them. -/
def PE (w : World) (a : Option Addr) (l : List Tn) : Prop :=
  ∃ Z : List (Tn × Option Addr × Nat), Z.map (·.1) = l ∧ Row w a (Z.map pV).flatten ∧ ∀ z ∈ Z, Row w z.2.1 (u8L z.1.data) ∧ (z.2.1 = none → z.1.data = [] ∧ z.2.2 = 0)
/-- Entries as the document has them. -/
def RE (w : World) (a : Option Addr) (l : List Tn) : Prop := Row w a (l.map rV).flatten
def BdE (l : List Tn) : Prop := ∀ e ∈ l, e.path.length ≤ 140737488355328 ∧ e.link.length ≤ 140737488355328 ∧ e.data.length ≤ 140737488355328
theorem PE.nos {w w' : World} {a : Option Addr} {l : List Tn} (h : PE w a l) (m : Mod No w w') : PE w' a l := by
  obtain ⟨Z, h1, h2, h3⟩ := h
  exact ⟨Z, h1, h2.nos m, fun z hz => ⟨(h3 z hz).1.nos m, (h3 z hz).2⟩⟩
theorem RE.nos {w w' : World} {a : Option Addr} {l : List Tn} (h : RE w a l) (m : Mod No w w') : RE w' a l := Row.nos h m
theorem box_at {P : Program} {w : World} {T : TypeId} {cs : List Value} : ∃ w1, (Instr.box T (.agg ⟨cs⟩)).run P w = .ok (.pointer (some ⟨w.heap.size, 0, none⟩)) w1 ∧ At w1 w.heap.size 0 cs ∧ Mod No w w1 ∧ w1.heap.size = w.heap.size + 1 :=
  ⟨_, box_run, AtU.new.at, (Mod.refl No w).alloc _, World.size_alloc _ _⟩
theorem vyes {P : Prop} (h : P) : ∃ b, [Value.bool true] = [.bool b] ∧ (b = true ↔ P) := ⟨true, rfl, fun _ => h, fun _ => rfl⟩
theorem vno {P : Prop} (h : ¬ P) : ∃ b, [Value.bool false] = [.bool b] ∧ (b = true ↔ P) := ⟨false, rfl, fun e => (by cases e), fun e => absurd e h⟩
theorem viff {P : Prop} {c : Bool} (h : c = true ↔ P) : ∃ b, [Value.bool c] = [.bool b] ∧ (b = true ↔ P) := ⟨c, rfl, h⟩
theorem beq_int (a b : Int) : (a == b) = decide (a = b) := by rw [Bool.eq_iff_iff, beq_iff_eq, decide_eq_true_eq]
theorem bne_int (a b : Int) : (a != b) = decide (a ≠ b) := by show (!(a == b)) = _; rw [beq_int, decide_not]
end Go.Den
namespace Go.Proofs.YtiahkkekcmgkfaaDoor
theorem agg_pE : aggN Tryd.prog 64 = some 5 := by kernel_rfl
theorem agg_rE : aggN Tryd.prog 58 = some 5 := by kernel_rfl
section
variable {w : World} {K : Value → World → Prop}
theorem PE.at {a : Option Addr} {l : List Tn} {i : Nat} {e : Tn} (h : PE w a l) (hi : l[i]? = some e) :
    ∃ g o hd, a = some ⟨g, o, none⟩ ∧ (∀ n c : Nat, i < n → Al (Instr.indexAt 28 (.slice (some ⟨g, o, none⟩) n c) (.int .i64 i)) (.pointer (some ⟨g, o + i * 5, none⟩))) ∧
      (∀ (j : Nat) (T : TypeId) (v : Value), scal Tryd.prog T = true → (pV (e, hd))[j]? = some v → ∀ w', Mod No w w' → Ru (Instr.loadAt T (.pointer (some (Addr.add ⟨g, o + i * 5, none⟩ j)))) w' v w') ∧
      (∀ w', Mod No w w' → Ru (Instr.loadAt 64 (.pointer (some ⟨g, o + i * 5, none⟩))) w' (.agg ⟨pV (e, hd)⟩) w') ∧ Row w hd.1 (u8L e.data) ∧ (hd.1 = none → e.data = [] ∧ hd.2 = 0) := by
  obtain ⟨Z, rfl, h2, h3⟩ := h
  rw [List.getElem?_map] at hi
  cases hz : Z[i]? with
  | none => rw [hz] at hi; cases hi
  | some z =>
    rw [hz] at hi
    obtain ⟨e', hd⟩ := z
    have hi : e' = e := by simpa using hi
    subst hi
    have hZ := pV_all Z
    have hzi : (Z.map pV)[i]? = some (pV (e', hd)) := by rw [List.getElem?_map, hz]; rfl
    have hil : i < Z.length := (List.getElem?_eq_some_iff.1 hz).1
    have hlen := flat5_len hZ
    rw [List.length_map] at hlen
    obtain ⟨g, o, rfl, hat⟩ := h2.resolve_left fun e => by rw [e] at hlen; simp at hlen; omega
    have h4 := h3 _ (List.mem_of_getElem? hz)
    refine ⟨g, o, hd, rfl, fun n c hn w => ?_, fun j T v hT hj w' m => ?_, fun w' m => ?_, h4.1, h4.2⟩
    · rw [index_slice (k := 5) (by kernel_rfl) (by omega) (by omega) w, add_none, Int.toNat_natCast]
    · rw [add_none, Nat.add_assoc]
      exact (hat.keep m id).load hT (flat5_cell hZ hzi hj)
    · have := (hat.keep m id).loadAgg (P := Tryd.prog) (i := i * 5) agg_pE (by rw [hlen]; omega)
      rw [flat5_get hZ hzi] at this
      exact this
theorem RE.at {a : Option Addr} {l : List Tn} {i : Nat} {e : Tn} (h : RE w a l) (hi : l[i]? = some e) :
    ∃ g o, a = some ⟨g, o, none⟩ ∧ (∀ n c : Nat, i < n → Al (Instr.indexAt 22 (.slice (some ⟨g, o, none⟩) n c) (.int .i64 i)) (.pointer (some ⟨g, o + i * 5, none⟩))) ∧
      (∀ (j : Nat) (T : TypeId) (v : Value), scal Tryd.prog T = true → (rV e)[j]? = some v → ∀ w', Mod No w w' → Ru (Instr.loadAt T (.pointer (some (Addr.add ⟨g, o + i * 5, none⟩ j)))) w' v w') ∧
      (∀ w', Mod No w w' → Ru (Instr.loadAt 58 (.pointer (some ⟨g, o + i * 5, none⟩))) w' (.agg ⟨rV e⟩) w') := by
  have hZ := rV_all l
  have hzi : (l.map rV)[i]? = some (rV e) := by rw [List.getElem?_map, hi]; rfl
  have hil : i < l.length := (List.getElem?_eq_some_iff.1 hi).1
  have hlen := flat5_len hZ
  rw [List.length_map] at hlen
  obtain ⟨g, o, rfl, hat⟩ := h.resolve_left fun e => by rw [e] at hlen; simp at hlen; omega
  refine ⟨g, o, rfl, fun n c hn w => ?_, fun j T v hT hj w' m => ?_, fun w' m => ?_⟩
  · rw [index_slice (k := 5) (by kernel_rfl) (by omega) (by omega) w, add_none, Int.toNat_natCast]
  · rw [add_none, Nat.add_assoc]
    exact (hat.keep m id).load hT (flat5_cell hZ hzi hj)
  · have := (hat.keep m id).loadAgg (P := Tryd.prog) (i := i * 5) agg_rE (by rw [hlen]; omega)
    rw [flat5_get hZ hzi] at this
    exact this
theorem plain_c {e : Tn} {hd : Option Addr × Nat} {l : List Tn} {i : Nat} {a : Option Addr} {c : Nat} (hi : i ≤ l.length) (hP : 0 < i → PE w a l) (hb : e.link.length ≤ 140737488355328) (hg : Gl w)
    (hk : ∀ w' b, Mod No w w' → (b = true ↔ OneE l i e) → K (.bool b) w') : Cal Tryd.prog F_dump_Entry_plain #[.agg ⟨pV (e, hd)⟩, .slice a i c] w K := by
  apply C_dump_Entry_plain
  unfold D_dump_Entry_plain
  obtain ⟨w1, hbx, hat, m1, _⟩ := box_at (P := Tryd.prog) (w := w) (T := 64) (cs := pV (e, hd))
  have hgw := hg.nos m1
  have ld : ∀ (j : Nat) (T : TypeId) (v : Value), scal Tryd.prog T = true → (pV (e, hd))[j]? = some v → ∀ w', Mod No w1 w' → Ru (Instr.loadAt T (.pointer (some (Addr.add ⟨w.heap.size, 0, none⟩ j)))) w' v w' := fun j T v hT hj w' m => by
    rw [add_none]; exact (hat.keep m id).load hT hj
  have l1 := ld 1 3 (.int .i64 e.kind) (by kernel_rfl) rfl
  have l2 := ld 2 9 (.string (sB e.link)) (by kernel_rfl) rfl
  have l3 := ld 3 62 (.slice hd.1 e.data.length hd.2) (by kernel_rfl) rfl
  have l4 := ld 4 3 (.int .i64 e.same) (by kernel_rfl) rfl
  have r1 := Mod.refl No w1
  refine ⟨_, _, hbx, _, l4 _ r1, Share.cut (fun z w2 => w2 = w1 ∧ ∃ b, z = [.bool b] ∧ (b = true ↔ ¬ (1 ≤ e.kind ∧ e.kind ≤ 3 ∧ -1 ≤ e.same ∧ e.data.length ≤ 65536))) ⟨_, l1 _ r1, ?_⟩ ?_⟩
  · refine cond_of (fun h => ⟨rfl, vyes ?_⟩) fun h => ⟨_, l1 _ r1, cond_of (fun h2 => ⟨rfl, vyes ?_⟩) fun h2 => ⟨_, l4 _ r1, cond_of (fun h3 => ⟨rfl, vyes ?_⟩) fun h3 => ⟨_, _, _, l3 _ r1, rfl, viff ?_⟩⟩⟩
    · have h := of_decide_eq_true h; omega
    · have h2 := of_decide_eq_true h2; omega
    · have h3 := of_decide_eq_true h3; omega
    · have h := of_decide_eq_false h
      have h2 := of_decide_eq_false h2
      have h3 := of_decide_eq_false h3
      rw [decide_eq_true_eq]; omega
  rintro z w2 ⟨rfl, b, rfl, hbi⟩
  refine ⟨_, rfl, cond_of (fun h => ?_) (fun h => ?_)⟩
  · refine hk _ false m1 ⟨fun e => (by cases e), fun ho => absurd (hbi.1 h) ?_⟩
    obtain ⟨o1, o2, o3, _, _, o6⟩ := ho
    refine fun hn => hn ⟨o1, o2, ?_, o3⟩
    rcases o6 with o6 | o6 <;> omega
  have hA : 1 ≤ e.kind ∧ e.kind ≤ 3 ∧ -1 ≤ e.same ∧ e.data.length ≤ 65536 := Classical.not_not.1 fun hn => by
    have := hbi.2 hn; rw [h] at this; cases this
  refine Share.cut (fun z w3 => w3 = w2 ∧ ∃ b, z = [.bool b] ∧ (b = true ↔ ¬ ((e.kind ≠ 1 → e.data = []) ∧ (e.kind ≠ 3 → e.link = [])))) ⟨_, l1 _ r1, ?_⟩ ?_
  · have hlk : ∀ {P : Prop}, e.kind ≠ 3 → ((e.link ≠ []) ↔ P) → ∃ b, [Value.bool (!((ByteArray.toList (sB e.link)) == (ByteArray.toList ByteArray.empty)))] = [.bool b] ∧ (b = true ↔ P) := fun h1 h2 => viff (by rw [beq_empty, Bool.not_eq_true', decide_eq_false_iff_not]; exact h2)
    refine cond_of (fun h1 => ⟨_, _, _, l3 _ r1, cond_of (fun h2 => ⟨rfl, vyes ?_⟩) fun h2 => ⟨_, l1 _ r1, cond_of (fun h3 => ⟨_, l2 _ r1, rfl, hlk ?_ ?_⟩) fun h3 => ⟨rfl, vno ?_⟩⟩⟩) fun h1 => ⟨_, l1 _ r1, cond_of (fun h3 => ⟨_, l2 _ r1, rfl, hlk ?_ ?_⟩) fun h3 => ⟨rfl, vno ?_⟩⟩
    · have h1 : e.kind ≠ 1 := by simpa using h1
      have h2 := of_decide_eq_true h2
      intro ho
      have := ho.1 h1
      simp only [this] at h2; simp at h2
    · simpa using h3
    · have h1 : e.kind ≠ 1 := by simpa using h1
      have h3 : e.kind ≠ 3 := by simpa using h3
      have h2 := of_decide_eq_false h2
      have h2 : e.data = [] := List.eq_nil_of_length_eq_zero (by omega)
      exact ⟨fun a b => a (b.2 h3), fun a b => a ⟨fun _ => h2, fun _ => b⟩⟩
    · have h3 : e.kind = 3 := by simpa using h3
      have h2 := of_decide_eq_false h2
      have h2 : e.data = [] := List.eq_nil_of_length_eq_zero (by omega)
      exact fun a => a ⟨fun _ => h2, fun b => absurd h3 b⟩
    · simpa using h3
    · have h1 : e.kind = 1 := by simpa using h1
      have h3 : e.kind ≠ 3 := by simpa using h3
      exact ⟨fun a b => a (b.2 h3), fun a b => a ⟨fun c => absurd h1 c, fun _ => b⟩⟩
    · have h1 : e.kind = 1 := by simpa using h1
      have h3 : e.kind = 3 := by simpa using h3
      omega
  rintro z w3 ⟨rfl, b, rfl, hbi⟩
  refine ⟨_, rfl, cond_of (fun h => ?_) (fun h => ?_)⟩
  · refine hk _ false m1 ⟨fun e => (by cases e), fun ho => absurd ?_ (hbi.1 h)⟩
    exact ⟨ho.2.2.2.1, ho.2.2.2.2.1⟩
  have hB : (e.kind ≠ 1 → e.data = []) ∧ (e.kind ≠ 3 → e.link = []) := Classical.not_not.1 fun hn => by
    have := hbi.2 hn; rw [h] at this; cases this
  refine cond_of (fun hs => ?_) (fun hs => ?_)
  · have hs := of_decide_eq_true hs
    have rd := (Mod.refl No w3).drew
    have hone : OneE l i e ↔ (e.same < i ∧ e.kind ≠ 2 ∧ e.data = [] ∧ e.link = [] ∧ ∃ q, l[e.same.toNat]? = some q ∧ q.kind = e.kind ∧ q.same = -1) := by
      unfold OneE
      constructor
      · rintro ⟨_, _, _, _, _, o | ⟨_, o1, o2, o3, o4, o5⟩⟩
        · omega
        · exact ⟨o1, o2, o3, o4, o5⟩
      · rintro ⟨o1, o2, o3, o4, o5⟩
        exact ⟨hA.1, hA.2.1, hA.2.2.2, hB.1, hB.2, .inr ⟨hs, o1, o2, o3, o4, o5⟩⟩
    refine Share.cut (fun z w4 => w4 = drew w3 ∧ ∃ b, z = [.bool b] ∧ (b = true ↔ OneE l i e)) ⟨_, l1 _ rd, cond_of (fun h1 => ⟨_, l4 _ rd, cond_of (fun h2 => ?_) (fun h2 => ⟨rfl, vno ?_⟩)⟩) (fun h1 => ⟨rfl, vno ?_⟩)⟩ ?_
    · have h1 : e.kind ≠ 2 := by simpa using h1
      have h2 := of_decide_eq_true h2
      have hqi : l[e.same.toNat]? = some l[e.same.toNat] := List.getElem?_eq_getElem (by omega)
      generalize l[e.same.toNat] = q at hqi
      obtain ⟨g, o, hq, rfl, ix, lq, _, _⟩ := PE.at (hP (by omega)) hqi
      have ix := ix i c (by omega)
      rw [show ((e.same.toNat : Nat) : Int) = e.same by omega] at ix
      have mq := m1.drew
      refine ⟨_, l4 _ rd, _, ix, _, lq 1 3 (.int .i64 q.kind) (by kernel_rfl) rfl _ mq, _, l1 _ rd, cond_of (fun h3 => ⟨_, l4 _ rd, _, ix, _, lq 4 3 (.int .i64 q.same) (by kernel_rfl) rfl _ mq, cond_of (fun h4 => ⟨_, _, _, l3 _ rd, cond_of (fun h5 => ⟨_, l2 _ rd, rfl, viff ?_⟩) (fun h5 => ⟨rfl, vno ?_⟩)⟩) (fun h4 => ⟨rfl, vno ?_⟩)⟩) (fun h3 => ⟨rfl, vno ?_⟩)⟩
      · rw [beq_int] at h3 h4 h5
        have h3 := of_decide_eq_true h3
        have h4 := of_decide_eq_true h4
        have h5 := of_decide_eq_true h5
        have h5 : e.data = [] := List.eq_nil_of_length_eq_zero (by omega)
        rw [beq_empty, decide_eq_true_eq, hone]
        exact ⟨fun e1 => ⟨h2, h1, h5, e1, q, hqi, h3, h4⟩, fun e1 => e1.2.2.2.1⟩
      · rw [beq_int] at h5
        have h5 := of_decide_eq_false h5
        intro ho
        rw [hone] at ho
        rw [ho.2.2.1] at h5; simp at h5
      · rw [beq_int] at h4
        have h4 := of_decide_eq_false h4
        intro ho
        rw [hone] at ho
        obtain ⟨_, _, _, _, q', h6, h7, h8⟩ := ho
        rw [hqi] at h6; cases h6
        exact h4 h8
      · rw [beq_int] at h3
        have h3 := of_decide_eq_false h3
        intro ho
        rw [hone] at ho
        obtain ⟨_, _, _, _, q', h6, h7, h8⟩ := ho
        rw [hqi] at h6; cases h6
        exact h3 h7
    · have h2 := of_decide_eq_false h2
      intro ho
      rw [hone] at ho
      exact h2 ho.1
    · have h1 : e.kind = 2 := by simpa using h1
      intro ho
      rw [hone] at ho
      exact ho.2.1 h1
    rintro z w4 ⟨rfl, b, rfl, hb3⟩
    exact ⟨_, rfl, hk _ b m1.drew hb3⟩
  · have hs := of_decide_eq_false hs
    have hone : OneE l i e ↔ (e.kind = 3 → tOk e.link = true) := by
      unfold OneE
      constructor
      · rintro ⟨_, _, _, _, _, ⟨_, o⟩ | ⟨o, _⟩⟩
        · exact o
        · omega
      · intro o
        exact ⟨hA.1, hA.2.1, hA.2.2.2, hB.1, hB.2, .inl ⟨by omega, o⟩⟩
    refine ⟨_, l1 _ r1, cond_of (fun h1 => ?_) (fun h1 => ?_)⟩
    · rw [beq_int] at h1
      have h1 := of_decide_eq_true h1
      refine ⟨_, l2 _ r1, tSplit_c (by omega) hgw (fun hn w5 m5 => ⟨_, _, _, _, _, rfl, hk _ _ (m1.no m5) ?_⟩) (fun hy w5 a5 c5 m5 _ => ⟨_, _, _, _, _, rfl, hk _ _ (m1.no m5) ?_⟩)⟩
      · rw [hone]
        exact ⟨fun e => (by cases e), fun e => by have := e h1; rw [hn] at this; cases this⟩
      · rw [hone]
        exact ⟨fun _ _ => hy, fun _ => rfl⟩
    · rw [beq_int] at h1
      have h1 := of_decide_eq_false h1
      exact hk _ _ m1 (by rw [hone]; exact ⟨fun _ e => absurd e h1, fun _ => rfl⟩)
end
end Go.Proofs.YtiahkkekcmgkfaaDoor
end
section
/- Can entries be a tree's, as the program tells it: walked. -/
open Go Go.Den Go.Proofs
namespace Go.Den
/-- The directories among the first entries. -/
def dirsTo (l : List Tn) (n : Nat) : List Bs := ((l.take n).filter fun e => decide (e.kind = 2)).map (·.path)
theorem inDir_iff {l : List Tn} {n : Nat} {d : Bs} : InDir l n d ↔ d ∈ dirsTo l n := by
  unfold InDir dirsTo
  rw [List.mem_map]
  constructor
  · rintro ⟨k, q, hk, hq, rfl, h2⟩
    refine ⟨q, List.mem_filter.2 ⟨List.mem_iff_getElem?.2 ⟨k, by rw [List.getElem?_take, if_pos hk]; exact hq⟩, decide_eq_true h2⟩, rfl⟩
  · rintro ⟨q, hq, rfl⟩
    obtain ⟨h1, h2⟩ := List.mem_filter.1 hq
    obtain ⟨k, hk⟩ := List.mem_iff_getElem?.1 h1
    have hkn : k < n := by
      have := (List.getElem?_eq_some_iff.1 hk).1
      rw [List.length_take] at this; omega
    rw [List.getElem?_take, if_pos hkn] at hk
    exact ⟨k, q, hkn, hk, rfl, of_decide_eq_true h2⟩
theorem dirsTo_succ {l : List Tn} {n : Nat} {e : Tn} (h : l[n]? = some e) : dirsTo l (n + 1) = dirsTo l n ++ (if e.kind = 2 then [e.path] else []) := by
  obtain ⟨hi, he⟩ := List.getElem?_eq_some_iff.1 h
  unfold dirsTo
  rw [List.take_succ_eq_append_getElem hi, List.filter_append, List.map_append, he]
  congr 1
  by_cases h2 : e.kind = 2
  · rw [if_pos h2]; simp [h2]
  · rw [if_neg h2]; simp [h2]
theorem RightTo.succ {l : List Tn} {n : Nat} (h : RightTo l n) (ho : OkAt l n) : RightTo l (n + 1) := ⟨h.1, fun j h1 h2 => by
  by_cases e : j = n
  · subst e; exact ho
  · exact h.2 j h1 (by omega)⟩
theorem cutA_zero {b o : Nat} {c k : Nat} : cutA (some ⟨b, o, none⟩) c 0 k = some ⟨b, o, none⟩ := by
  unfold cutA
  split
  · rfl
  · simp [add_none]
end Go.Den
namespace Go.Proofs.YtiahkkekcmgkfaaDoor
def zPE : List Value := [.string ByteArray.empty, .int .i64 0, .string ByteArray.empty, .slice none 0 0, .int .i64 0]
theorem alloc_pE (w : World) : (Instr.alloc 64 true (.tuple #[])).run Tryd.prog w = .ok (.pointer (some ⟨w.heap.size, 0, none⟩)) (w.alloc (.cells ⟨zPE⟩ 64)) := by kernel_rfl
theorem setZ_dirs : setZ Tryd.prog 88 = true := by kernel_rfl
section
variable {w : World} {K : Value → World → Prop}
/-- A copy of an entry. -/
theorem copy_pE {T : TypeId} {z : Tn × Option Addr × Nat} (hT : T = 64) : ∃ w1 w2, Ru (Instr.alloc T true (.tuple #[])) w (.pointer (some ⟨w.heap.size, 0, none⟩)) w1 ∧ RuU (Instr.storeAt T (.pointer (some ⟨w.heap.size, 0, none⟩)) (.agg ⟨pV z⟩)) w1 w2 ∧ At w2 w.heap.size 0 (pV z) ∧ Mod No w w2 := by
  subst hT
  exact ⟨_, _, alloc_pE w, store_new (T := 64) (n := 5) agg_pE rfl rfl (one_pV z), AtU.new.at, (Mod.refl No w).alloc _⟩
theorem dRight_c {a : Option Addr} {l : List Tn} {c : Nat} (hP : PE w a l) (hbd : BdE l) (hn : l.length ≤ 1000) (hc : l.length ≤ c) (hg : Gl w)
    (hk : ∀ w' b, Mod No w w' → (b = true ↔ RightL l) → K (.bool b) w') : Cal Tryd.prog F_dump_Right #[.slice a l.length c] w K := by
  apply C_dump_Right
  unfold D_dump_Right
  refine cond_of (fun h => ?_) (fun h => ?_)
  · rw [beq_int] at h
    have h := of_decide_eq_true h
    have h0 : l = [] := List.eq_nil_of_length_eq_zero (by omega)
    subst h0
    refine hk _ _ (Mod.refl _ _) ⟨fun e => (by cases e), fun e => ?_⟩
    obtain ⟨e0, h1, _⟩ := e.1
    simp at h1
  rw [beq_int] at h
  have h := of_decide_eq_false h
  have hpos : 0 < l.length := by omega
  have h0 : l[0]? = some l[0] := List.getElem?_eq_getElem hpos
  generalize l[0] = e0 at h0
  obtain ⟨w2, s1, s2, s3, s4⟩ := addSet_run (P := Tryd.prog) (k := []) setZ_dirs (SetAt.new (w := w)) (by simp)
  have m2 : Mod No w w2 := ((Mod.refl No w).alloc (.map #[] 0)).trans s3 fun x hx e => by subst e; omega
  refine ⟨_, _, makeMap_run, w2, s1, ?_⟩
  obtain ⟨g, o, hd, rfl, ix, lq, la, _, _⟩ := PE.at (hP.nos m2) h0
  have ix0 := ix l.length c hpos
  obtain ⟨w3, w4, c1, c2, hat, m4⟩ := copy_pE (w := w2) (z := (e0, hd)) (T := 64) rfl
  refine ⟨_, ix0, _, la _ (Mod.refl _ _), _, w3, c1, w4, c2, ?_⟩
  have M4 := m2.no m4
  have ld : ∀ (j : Nat) (T : TypeId) (v : Value), scal Tryd.prog T = true → (pV (e0, hd))[j]? = some v → ∀ w', Mod No w4 w' → Ru (Instr.loadAt T (.pointer (some (Addr.add ⟨w2.heap.size, 0, none⟩ j)))) w' v w' := fun j T v hT hj w' m => by
    rw [add_none]; exact (hat.keep m id).load hT hj
  have r4 := Mod.refl No w4
  have hb0 := hbd e0 (List.mem_of_getElem? h0)
  have hH : Head0 l ↔ e0.path = [] ∧ e0.kind = 2 ∧ OneE l 0 e0 := by
    unfold Head0 OneE
    rw [h0]
    constructor
    · rintro ⟨e, he, h1, h2, h3, h4, h5⟩
      cases he
      exact ⟨h1, h2, by omega, by omega, by rw [h4]; simp, fun _ => h4, fun _ => h3, .inl ⟨h5, fun h => by omega⟩⟩
    · rintro ⟨h1, h2, _, _, _, h3, h4, h5 | h5⟩
      · exact ⟨e0, rfl, h1, h2, h4 (by omega), h3 (by omega), h5.1⟩
      · omega
  refine Share.cut (fun z w6 => Mod No w4 w6 ∧ ∃ b, z = [.bool b] ∧ (b = true ↔ ¬ Head0 l)) ⟨_, ld 0 9 (.string (sB e0.path)) (by kernel_rfl) rfl _ r4, ?_⟩ ?_
  · rw [beq_empty]
    refine cond_of (fun h1 => ⟨r4, vyes ?_⟩) (fun h1 => ⟨_, ld 1 3 (.int .i64 e0.kind) (by kernel_rfl) rfl _ r4, cond_of (fun h2 => ⟨r4, vyes ?_⟩) (fun h2 => ?_)⟩)
    · rw [hH]
      have h1 : e0.path ≠ [] := by simpa using h1
      exact fun e => h1 e.1
    · rw [hH]
      have h2 : e0.kind ≠ 2 := by simpa using h2
      exact fun e => h2 e.2.1
    · have h1 : e0.path = [] := by simpa using h1
      have h2 : e0.kind = 2 := by simpa using h2
      have hla := hat.loadAgg (P := Tryd.prog) (T := 64) (i := 0) agg_pE (by simp [pV])
      refine ⟨⟨pV (e0, hd)⟩, hla, ?_⟩
      refine plain_c (e := e0) (hd := hd) (l := l) (i := 0) (by omega) (fun h => by omega) hb0.2.1 (hg.nos M4) fun w5 b m5 hb => ⟨_, rfl, m5, viff ?_⟩
      rw [hH, ← hb]
      cases b <;> simp [h1, h2]
  rintro z w6 ⟨m6, b, rfl, hb⟩
  have M6 := M4.no m6
  refine ⟨_, rfl, cond_of (fun h1 => ?_) (fun h1 => ?_)⟩
  · exact hk _ _ M6 ⟨fun e => (by cases e), fun e => absurd e.1 (hb.1 h1)⟩
  have hH0 : Head0 l := Classical.not_not.1 fun hn => by
    have := hb.2 hn; rw [h1] at this; cases this
  have hd0 : dirsTo l 1 = [[]] := by
    obtain ⟨e', h2, h3, h4, _⟩ := hH0
    rw [h0] at h2; cases h2
    rw [dirsTo_succ h0, if_pos h4, h3]; rfl
  have hset : SetAt w6 w.heap.size [[]] := (s2.nos m4).nos m6
  clear ld hat lq la ix ix0 c1 c2 s1 s2 s3 s4
  refine ⟨fun z w7 => ∃ (n : Nat) (y : Value), 1 ≤ n ∧ n ≤ l.length ∧ z = [.int .i64 n, y] ∧ Mod No w w7 ∧ RightTo l n ∧ SetAt w7 w.heap.size (dirsTo l n), fun z _ => (l.length - nI z 0).toNat,
    ⟨1, _, Nat.le_refl _, hpos, rfl, M6, ⟨hH0, fun j h1 h2 => by omega⟩, by rw [hd0]; exact hset⟩, ?_⟩
  rintro z w7 ⟨n, y, hn1, hnl, rfl, M7, hR, hS⟩
  refine ⟨_, rfl, cond_of (fun h2 => ?_) (fun h2 => ?_)⟩
  · have h2 := of_decide_eq_true h2
    have hnx : n < l.length := by omega
    have he : l[n]? = some l[n] := List.getElem?_eq_getElem hnx
    have hp : l[n - 1]? = some l[n - 1] := List.getElem?_eq_getElem (by omega)
    generalize l[n] = e at he
    generalize l[n - 1] = p at hp
    have hPw := hP.nos M7
    obtain ⟨g1, o1, hd1, hga, ix, lq, la, _, _⟩ := PE.at hPw he
    cases hga
    obtain ⟨w8, w9, c1, c2, hat, m9⟩ := copy_pE (w := w7) (z := (e, hd1)) (T := 64) rfl
    have ld : ∀ (j : Nat) (T : TypeId) (v : Value), scal Tryd.prog T = true → (pV (e, hd1))[j]? = some v → ∀ w', Mod No w9 w' → Ru (Instr.loadAt T (.pointer (some (Addr.add ⟨w7.heap.size, 0, none⟩ j)))) w' v w' := fun j T v hT hj w' m => by
      rw [add_none]; exact (hat.keep m id).load hT hj
    have r9 := Mod.refl No w9
    have hbe := hbd e (List.mem_of_getElem? he)
    have l0 := ld 0 9 (.string (sB e.path)) (by kernel_rfl) rfl
    have l1 := ld 1 3 (.int .i64 e.kind) (by kernel_rfl) rfl
    have M9 := M7.no m9
    refine ⟨_, ix l.length c hnx, _, la _ (Mod.refl _ _), _, w8, c1, w9, c2, _, l0 _ r9, ?_⟩
    have key : ∀ (w10 : World) (ok : Bool) (d nm : Bs), Mod No w9 w10 → (ok = true → Cut e.path d nm) → (ok = false → (47 : UInt8) ∉ e.path) →
        ∃ s44a : ByteArray, ∃ s44b : ByteArray, ∃ b44c : Bool, (Value.tuple #[.string (sB d), .string (sB nm), .bool ok]) = .tuple #[.string s44a, .string s44b, .bool b44c] ∧ (s44a = sB d ∧ s44b = sB nm ∧ b44c = ok) := fun w10 ok d nm _ _ _ => ⟨_, _, _, rfl, rfl, rfl, rfl⟩
    clear key
    have main : ∀ (w10 : World) (ok : Bool) (d nm : Bs), Mod No w9 w10 → (ok = true → Cut e.path d nm) → (ok = false → (47 : UInt8) ∉ e.path) →
        Share (fun k_3 => (bif !ok then k_3 [.bool true] (Go.Den.drew w10) else ∃ b53 : Bool, Ru (Instr.lookup 88 (.map (some w.heap.size)) (.string (sB d)) false) (Go.Den.drew w10) (.bool b53) (Go.Den.drew w10) ∧ (bif !b53 then k_3 [.bool true] (Go.Den.drew w10) else Cal Tryd.prog F_dirent_Name #[.string (sB nm)] (Go.Den.drew w10) fun r58 w11 => ∃ b58 : Bool, r58 = .bool b58 ∧ (bif !b58 then k_3 [.bool true] w11 else ∃ q65 : Addr, Al (Instr.indexAt 28 (.slice (some ⟨g, o, none⟩) l.length c) (.int .i64 (IntKind.i64.wrap ((n : Int) - 1)))) (.pointer (some q65)) ∧ ∃ s67 : ByteArray, Ru (Instr.loadAt 9 (.pointer (some (Addr.add q65 0)))) w11 (.string s67) w11 ∧ ∃ s69 : ByteArray, Ru (Instr.loadAt 9 (.pointer (some (Addr.add ⟨w7.heap.size, 0, none⟩ 0)))) w11 (.string s69) w11 ∧ Cal Tryd.prog F_dump_ahead #[.string s67, .string s69] w11 fun r70 w12 => ∃ b70 : Bool, r70 = .bool b70 ∧ (bif !b70 then k_3 [.bool true] w12 else ∃ g74 : Array Value, Ru (Instr.loadAt 64 (.pointer (some ⟨w7.heap.size, 0, none⟩))) w12 (.agg g74) w12 ∧ ∃ (a77 : Option Addr) (l77 c77 : Nat), Al (Instr.sliceAt 28 (.slice (some ⟨g, o, none⟩) l.length c) none (some (.int .i64 n)) none) (.slice a77 l77 c77) ∧ Cal Tryd.prog F_dump_Entry_plain #[.agg g74, .slice a77 l77 c77] w12 fun r78 w13 => ∃ b78 : Bool, r78 = .bool b78 ∧ k_3 [.bool (!b78)] w13)))))
        (fun x_3 w14 => ∃ b80 : Bool, nth x_3 0 = .bool b80 ∧ (bif b80 then K (.bool false) w14 else ∃ n82 : Int, Ru (Instr.loadAt 3 (.pointer (some (Addr.add ⟨w7.heap.size, 0, none⟩ 1)))) w14 (.int .i64 n82) w14 ∧ Share (fun k_4 => (bif n82 == 2 then ∃ s86 : ByteArray, Ru (Instr.loadAt 9 (.pointer (some (Addr.add ⟨w7.heap.size, 0, none⟩ 0)))) w14 (.string s86) w14 ∧ ∃ w15 : World, RuU (Instr.mapUpdate 88 (.map (some w.heap.size)) (.string s86) (.bool true)) w14 w15 ∧ k_4 [] w15 else k_4 [] w14)) fun x_4 w16 =>
          ((∃ (n' : Nat) (y : Value), 1 ≤ n' ∧ n' ≤ l.length ∧ [Value.int .i64 (IntKind.i64.wrap ((n : Int) + 1)), .bool b80] = [.int .i64 n', y] ∧ Mod No w w16 ∧ RightTo l n' ∧ SetAt w16 w.heap.size (dirsTo l n')) ∧ (l.length - nI [Value.int .i64 (IntKind.i64.wrap ((n : Int) + 1)), .bool b80] 0).toNat < (l.length - nI [Value.int .i64 n, y] 0).toNat))) := by
      intro w10 ok d nm m10 hcut hno
      have rd : Mod No w9 (Go.Den.drew w10) := m10.drew
      have hokat : ∀ {d' n' : Bs}, Cut e.path d' n' → (OkAt l n ↔ InDir l n d' ∧ nameB n' = true ∧ ordP p.path e.path < 0 ∧ OneE l n e) := by
        intro d' n' hc'
        unfold OkAt
        constructor
        · rintro ⟨p', e', h3, h4, ⟨d2, n2, h5, h6, h7⟩, h8, h9⟩
          rw [hp] at h3; cases h3
          rw [he] at h4; cases h4
          obtain ⟨rfl, rfl⟩ := hc'.inj h5
          exact ⟨h6, h7, h8, h9⟩
        · rintro ⟨h6, h7, h8, h9⟩
          exact ⟨p, e, hp, he, ⟨d', n', hc', h6, h7⟩, h8, h9⟩
      refine Share.cut (fun z w14 => Mod No w9 w14 ∧ ∃ b, z = [.bool b] ∧ (b = true ↔ ¬ OkAt l n)) (cond_of (fun h3 => ⟨rd, vyes ?_⟩) (fun h3 => ?_)) ?_
      · have h3 : ok = false := by simpa using h3
        rintro ⟨p', e', _, h4, ⟨d2, n2, h5, _⟩, _⟩
        rw [he] at h4; cases h4
        exact hno h3 (by rw [h5.1]; simp)
      · have h3 : ok = true := by simpa using h3
        have hc1 := hcut h3
        have hon := hokat hc1
        have hSd : SetAt (Go.Den.drew w10) w.heap.size (dirsTo l n) := hS.nos (m9.no rd)
        refine ⟨_, inSet_run setZ_dirs hSd, cond_of (fun h4 => ⟨rd, vyes ?_⟩) (fun h4 => ?_)⟩
        · have h4 : d ∉ dirsTo l n := by simpa using h4
          rw [hon]
          exact fun h => h4 (inDir_iff.1 h.1)
        have h4 : d ∈ dirsTo l n := by simpa using h4
        have hin := inDir_iff.2 h4
        have hdl : d.length ≤ 25 * n := by
          obtain ⟨k, q, hk, hq, hqd, _⟩ := hin
          have := (RightTo.path hR hk hq).2
          rw [hqd] at this; omega
        have hplen : p.path.length ≤ 25 * n := by
          have := (RightTo.path hR (by omega) hp).2; omega
        have hnml : nm.length ≤ 140737488355328 := by
          have := congrArg List.length hc1.1
          simp at this; omega
        refine dName_c (by omega) fun w11 m11 => ⟨_, rfl, cond_of (fun h5 => ⟨rd.no m11, vyes ?_⟩) (fun h5 => ?_)⟩
        · have h5 : nameB nm = false := by simpa using h5
          rw [hon, h5]
          exact fun h => by cases h.2.1
        have h5 : nameB nm = true := by simpa using h5
        have hnl2 := nameB_len h5
        have helen : e.path.length ≤ 25 * n + 25 := by rw [hc1.1]; simp; omega
        have M11 := rd.no m11
        obtain ⟨g2, o2, hd2, hga2, ix2, lq2, _, _, _⟩ := PE.at (hPw.nos (m9.no M11)) hp
        cases hga2
        have ix3 := ix2 l.length c (by omega)
        rw [show ((n - 1 : Nat) : Int) = (n : Int) - 1 by omega] at ix3
        rw [wrap64 (by omega) (by omega)]
        refine ⟨_, ix3, _, lq2 0 9 (.string (sB p.path)) (by kernel_rfl) rfl _ (Mod.refl _ _), _, l0 _ M11, ahead_c (by omega) (by omega) ((hg.nos M9).nos M11) fun w12 m12 => ⟨_, rfl, cond_of (fun h6 => ⟨M11.no m12, vyes ?_⟩) (fun h6 => ?_)⟩⟩
        · have h6 : ¬ ordP p.path e.path < 0 := by simpa using h6
          rw [hon]
          exact fun h => h6 h.2.2.1
        have h6 : ordP p.path e.path < 0 := by simpa using h6
        have M12 := M11.no m12
        have hla2 := (hat.keep M12 id).loadAgg (P := Tryd.prog) (T := 64) (i := 0) agg_pE (by simp [pV])
        have hsl := fun w => slice_h (P := Tryd.prog) (T := 28) (k := 5) (n := l.length) (c := c) (a := some ⟨g, o, none⟩) (k2 := .i64) (h := (n : Int)) (by kernel_rfl) (by omega) (by omega) w
        rw [cutA_zero, Int.toNat_natCast] at hsl
        refine ⟨⟨pV (e, hd1)⟩, hla2, _, _, _, hsl, plain_c (e := e) (hd := hd1) (l := l) (i := n) (by omega) (fun _ => hPw.nos (m9.no M12)) hbe.2.1 ((hg.nos M9).nos M12) fun w13 b m13 hb2 => ⟨_, rfl, M12.no m13, viff ?_⟩⟩
        rw [hon, ← hb2]
        cases b <;> simp [hin, h5, h6]
      rintro z w14 ⟨m14, b, rfl, hb2⟩
      refine ⟨_, rfl, cond_of (fun h3 => ?_) (fun h3 => ?_)⟩
      · exact hk _ _ (M9.no m14) ⟨fun e => (by cases e), fun hr => absurd (hr.2 n hn1 hnx) (hb2.1 h3)⟩
      have hok : OkAt l n := Classical.not_not.1 fun hn => by
        have := hb2.2 hn; rw [h3] at this; cases this
      have hR1 := hR.succ hok
      have hds := dirsTo_succ he
      have hSd : SetAt w14 w.heap.size (dirsTo l n) := hS.nos (m9.no m14)
      refine ⟨_, l1 _ m14, Share.cut (fun z w16 => z = [] ∧ Mod No w w16 ∧ SetAt w16 w.heap.size (dirsTo l (n + 1))) (cond_of (fun h4 => ?_) (fun h4 => ?_)) ?_⟩
      · rw [beq_int] at h4
        have h4 := of_decide_eq_true h4
        rw [if_pos h4] at hds
        have hfresh : e.path ∉ dirsTo l n := fun hm => by
          obtain ⟨k, q, hk, hq, hqd, _⟩ := inDir_iff.2 hm
          have := RightTo.asc hR1 hk (by omega) hq he
          rw [hqd] at this; exact ord_irr _ this
        obtain ⟨w15, t1, t2, t3, _⟩ := addSet_run (P := Tryd.prog) (T := 88) (k := e.path) setZ_dirs hSd hfresh
        refine ⟨_, l0 _ m14, w15, t1, rfl, (M9.no m14).trans t3 fun x hx e => by subst e; omega, ?_⟩
        rw [hds]; exact t2
      · rw [beq_int] at h4
        have h4 := of_decide_eq_false h4
        rw [if_neg h4, List.append_nil] at hds
        rw [hds]
        exact ⟨rfl, M9.no m14, hSd⟩
      rintro z w16 ⟨rfl, m16, hS16⟩
      rw [wrap64 (by omega) (by omega)]
      exact ⟨⟨n + 1, _, by omega, by omega, rfl, m16, hR1, hS16⟩, by simp [nI, nth]; omega⟩
    refine parent_c (by omega) (fun hno => ⟨_, _, _, rfl, main w9 false [] [] r9 (fun h => by cases h) (fun _ => hno)⟩) (fun w10 d nm m10 hc1 => ⟨_, _, _, rfl, main w10 true d nm m10 (fun _ => hc1) (fun h => by cases h)⟩)
  · have h2 := of_decide_eq_false h2
    have hnl2 : n = l.length := by omega
    subst hnl2
    exact hk _ _ M7 ⟨fun _ => hR, fun _ => rfl⟩
end
end Go.Proofs.YtiahkkekcmgkfaaDoor
end
section
/- == and != between structs of numbers, texts and truth values; rows of cells, so many an element. -/
open Go Go.Den
namespace Go.Den
theorem flatK_len {k : Nat} : ∀ {L : List (List Value)}, (∀ c ∈ L, c.length = k) → L.flatten.length = L.length * k
  | [], _ => by simp
  | x :: r, h => by
    rw [List.flatten_cons, List.length_append, h x (by simp), flatK_len (fun c hc => h c (List.mem_cons_of_mem _ hc)), List.length_cons, Nat.add_mul]; omega
theorem flatK_get {k : Nat} : ∀ {L : List (List Value)}, (∀ c ∈ L, c.length = k) → ∀ {i : Nat} {c : List Value}, L[i]? = some c → (L.flatten.drop (i * k)).take k = c
  | [], _, i, c, e => by simp at e
  | x :: r, h, 0, c, e => by
    simp at e; subst e
    have := h x (by simp)
    rw [List.flatten_cons, Nat.zero_mul, List.drop_zero, List.take_append_of_le_length (by omega), List.take_of_length_le (by omega)]
  | x :: r, h, i + 1, c, e => by
    have hx := h x (by simp)
    rw [List.flatten_cons, show (i + 1) * k = x.length + i * k by rw [Nat.add_mul]; omega, List.drop_append, List.drop_eq_nil_of_le (by omega), List.nil_append, show x.length + i * k - x.length = i * k by omega]
    exact flatK_get (fun c hc => h c (List.mem_cons_of_mem _ hc)) (by simpa using e)
theorem flatK_cell {k : Nat} {L : List (List Value)} (h : ∀ c ∈ L, c.length = k) {i j : Nat} {c : List Value} {v : Value} (hc : L[i]? = some c) (hj : c[j]? = some v) : L.flatten[i * k + j]? = some v := by
  have hj5 : j < k := by
    have h1 := (List.getElem?_eq_some_iff.1 hj).1
    have h2 := h c (List.mem_of_getElem? hc)
    omega
  rw [← flatK_get h hc, List.getElem?_take, if_pos hj5, List.getElem?_drop] at hj
  exact hj
section
variable {P : Program} {w : World}
end
end Go.Den
end
section
/- Layer 34, the program: things, whether two entries are alike, two trees side by side. -/
open Go Go.Den Go.Proofs
namespace Go.Den
theorem thing_at {l : List Tn} {i : Nat} {e : Tn} (h : OneE l i e) (he : l[i]? = some e) : ∃ q, l[thingI l i]? = some q ∧ thingI l i ≤ i := by
  obtain ⟨q, h1, _, h2, _⟩ := h.thing he
  exact ⟨q, h1, h2⟩
theorem put_under {w : World} {o o1 o2 : Obj} : put ((w.alloc o).alloc o2) w.heap.size o1 = (w.alloc o1).alloc o2 := by
  unfold put World.alloc
  congr 1
  apply Array.ext'
  rw [Array.toList_setIfInBounds, Array.toList_push, Array.toList_push, Array.toList_push, Array.toList_push, List.append_assoc, List.append_assoc, List.set_append_right _ _ (by simp)]
  simp
end Go.Den
namespace Go.Proofs.YtiahkkekcmgkfaaDoor
section
variable {w : World} {K : Value → World → Prop}
theorem thing_c {a : Option Addr} {l : List Tn} {i c : Nat} {e : Tn} (hP : PE w a l) (he : l[i]? = some e) (hk : K (.int .i64 (thingI l i)) w) : Cal Tryd.prog F_diff_thing #[.slice a l.length c, .int .i64 i] w K := by
  apply C_diff_thing
  unfold D_diff_thing
  have hil := (List.getElem?_eq_some_iff.1 he).1
  obtain ⟨g, o, hd, rfl, ix, lq, _⟩ := PE.at hP he
  have ix := ix l.length c hil
  have l4 := lq 4 3 (.int .i64 e.same) (by kernel_rfl) rfl _ (Mod.refl _ _)
  have ht : thingI l i = if 0 ≤ e.same then e.same.toNat else i := by unfold thingI; rw [he]
  rw [ht] at hk
  refine ⟨_, ix, _, l4, cond_of (fun h => ?_) (fun h => ?_)⟩
  · have h := of_decide_eq_true h
    rw [if_pos h, Int.toNat_of_nonneg h] at hk
    exact ⟨_, ix, _, l4, hk⟩
  · have h := of_decide_eq_false h
    rw [if_neg h] at hk
    exact hk
theorem EqualB_c {a0 a1 : Option Addr} {c0 c1 : Nat} {x y : Bs} (h0 : Row w a0 (u8L x)) (h1 : Row w a1 (u8L y)) (hx : x.length ≤ 140737488355328)
    (hk : ∀ w', Mod No w w' → K (.bool (decide (x = y))) w') : Cal Tryd.prog F_slices_Equal_byte #[.slice a0 x.length c0, .slice a1 y.length c1] w K := by
  apply C_slices_Equal_byte
  unfold D_slices_Equal_byte
  rw [bne_int]
  refine cond_of (fun h => ?_) (fun h => ?_)
  · have h := of_decide_eq_true h
    have : x ≠ y := fun e => h (by rw [e])
    rw [decide_eq_false this] at hk
    exact hk _ (Mod.refl _ _)
  have h : (x.length : Int) = (y.length : Int) := by simpa using h
  have hxy : x.length = y.length := by omega
  refine ⟨fun z w1 => Mod No w w1 ∧ ∃ n : Nat, n ≤ x.length ∧ z = [.int .i64 n] ∧ x.take n = y.take n, fun z _ => (x.length - nI z 0).toNat, ⟨Mod.refl _ _, 0, Nat.zero_le _, rfl, rfl⟩, ?_⟩
  rintro z w1 ⟨m1, n, hn, rfl, ht⟩
  refine ⟨_, rfl, cond_of (fun h => ?_) (fun h => ?_)⟩
  · have h := of_decide_eq_true h
    have hnx : n < x.length := by omega
    have hny : n < y.length := by omega
    obtain ⟨b0, o0, rfl, hat0⟩ := (h0.nos m1).resolve_left (by intro e; have := congrArg List.length e; simp [u8L] at this; rw [this] at hnx; simp at hnx)
    obtain ⟨b1, o1, rfl, hat1⟩ := (h1.nos m1).resolve_left (by intro e; have := congrArg List.length e; simp [u8L] at this; rw [this] at hny; simp at hny)
    refine ⟨_, index_slice (k := 1) (by kernel_rfl) (by omega) (by omega), ?_⟩
    rw [add_none, show (n : Int).toNat * 1 = n by omega]
    refine ⟨_, hat0.drew.load (by kernel_rfl) (u8L_get hnx), _, index_slice (k := 1) (by kernel_rfl) (by omega) (by omega), ?_⟩
    rw [add_none, show (n : Int).toNat * 1 = n by omega]
    refine ⟨_, hat1.drew.load (by kernel_rfl) (u8L_get hny), ?_⟩
    have hne : ((x[n].toNat : Int) != (y[n].toNat : Int)) = decide (x[n] ≠ y[n]) := by show (!((x[n].toNat : Int) == (y[n].toNat : Int))) = _; rw [beq_c, decide_not]
    rw [hne]
    refine cond_of (fun h2 => ?_) (fun h2 => ?_)
    · have h2 := of_decide_eq_true h2
      have : x ≠ y := fun e => h2 (by subst e; rfl)
      rw [decide_eq_false this] at hk
      exact hk _ m1.drew
    · have h2 : x[n] = y[n] := by simpa using h2
      rw [wrap64 (by omega) (by omega)]
      refine ⟨⟨m1.drew, n + 1, by omega, rfl, ?_⟩, by simp [nI, nth]; omega⟩
      rw [List.take_succ_eq_append_getElem hnx, List.take_succ_eq_append_getElem hny, ht, h2]
  · have h := of_decide_eq_false h
    have hnl : n = x.length := by omega
    have : x = y := by
      have e1 : x.take n = x := List.take_of_length_le (by omega)
      have e2 : y.take n = y := List.take_of_length_le (by omega)
      rw [← e1, ← e2]; exact ht
    rw [decide_eq_true this] at hk
    exact hk _ m1
def alT (x y : Tn) : Bool := decide (x.kind = y.kind) && decide (x.link = y.link) && decide (x.data = y.data)
theorem alike_leaf {W : World} {x y : Tn} {hx hy : Option Addr × Nat} {g9 g10 : Nat} (h9 : At W g9 0 (pV (x, hx))) (h10 : At W g10 0 (pV (y, hy))) (r1 : Row W hx.1 (u8L x.data)) (r2 : Row W hy.1 (u8L y.data)) (hb : x.data.length ≤ 140737488355328)
    (hk : ∀ w', Mod No W w' → K (.bool (alT x y)) w') :
    Share (fun k => ∃ n24 : Int, Ru (Instr.loadAt 3 (.pointer (some (Addr.add ⟨g9, 0, none⟩ 1)))) W (.int .i64 n24) W ∧ ∃ n26 : Int, Ru (Instr.loadAt 3 (.pointer (some (Addr.add ⟨g10, 0, none⟩ 1)))) W (.int .i64 n26) W ∧ (bif n24 == n26 then ∃ s30 : ByteArray, Ru (Instr.loadAt 9 (.pointer (some (Addr.add ⟨g9, 0, none⟩ 2)))) W (.string s30) W ∧ ∃ s32 : ByteArray, Ru (Instr.loadAt 9 (.pointer (some (Addr.add ⟨g10, 0, none⟩ 2)))) W (.string s32) W ∧ (bif (ByteArray.toList s30) == (ByteArray.toList s32) then ∃ (a37 : Option Addr) (l37 c37 : Nat), Ru (Instr.loadAt 62 (.pointer (some (Addr.add ⟨g9, 0, none⟩ 3)))) W (.slice a37 l37 c37) W ∧ ∃ (a39 : Option Addr) (l39 c39 : Nat), Ru (Instr.loadAt 62 (.pointer (some (Addr.add ⟨g10, 0, none⟩ 3)))) W (.slice a39 l39 c39) W ∧ Cal Tryd.prog F_slices_Equal_byte #[.slice a37 l37 c37, .slice a39 l39 c39] W fun r40 w7 => ∃ b40 : Bool, r40 = .bool b40 ∧ k [.bool b40] w7 else k [.bool false] W) else k [.bool false] W)) fun x w8 => ∃ b8 : Bool, nth x 0 = .bool b8 ∧ K (.bool b8) w8 := by
  have ld : ∀ {g : Nat} {z : Tn × Option Addr × Nat}, At W g 0 (pV z) → ∀ (j : Nat) (T : TypeId) (v : Value), scal Tryd.prog T = true → (pV z)[j]? = some v → Ru (Instr.loadAt T (.pointer (some (Addr.add ⟨g, 0, none⟩ j)))) W v W := fun hat j T v hT hj => by
    rw [add_none]; exact hat.load hT hj
  refine Share.cut (fun z w8 => Mod No W w8 ∧ z = [.bool (alT x y)]) ⟨_, ld h9 1 3 (.int .i64 x.kind) (by kernel_rfl) rfl, _, ld h10 1 3 (.int .i64 y.kind) (by kernel_rfl) rfl, ?_⟩ ?_
  · rw [beq_int]
    refine cond_of (fun h1 => ⟨_, ld h9 2 9 (.string (sB x.link)) (by kernel_rfl) rfl, _, ld h10 2 9 (.string (sB y.link)) (by kernel_rfl) rfl, ?_⟩) (fun h1 => ⟨Mod.refl _ _, ?_⟩)
    · rw [beq_sB]
      refine cond_of (fun h2 => ⟨_, _, _, ld h9 3 62 (.slice hx.1 x.data.length hx.2) (by kernel_rfl) rfl, _, _, _, ld h10 3 62 (.slice hy.1 y.data.length hy.2) (by kernel_rfl) rfl, EqualB_c r1 r2 hb fun w7 m7 => ⟨_, rfl, m7, ?_⟩⟩) (fun h2 => ⟨Mod.refl _ _, ?_⟩)
      · unfold alT; rw [h1, h2]; rfl
      · unfold alT; rw [h1, h2]; rfl
    · unfold alT; rw [h1]; rfl
  rintro z w8 ⟨m8, rfl⟩
  exact ⟨_, rfl, hk _ m8⟩
set_option maxRecDepth 100000 in
theorem alike_c {a b : Option Addr} {l m : List Tn} {i k c d : Nat} {e f : Tn} (hP : PE w a l) (hQ : PE w b m) (he : l[i]? = some e) (hf : m[k]? = some f) (ho : OneE l i e) (hp : OneE m k f) (hb : BdE l)
    (hk : ∀ w', Mod No w w' → K (.bool (alE l m i k)) w') : Cal Tryd.prog F_diff_alike #[.slice a l.length c, .int .i64 i, .slice b m.length d, .int .i64 k] w K := by
  obtain ⟨x, hx, hxi⟩ := thing_at ho he
  obtain ⟨y, hy, hyi⟩ := thing_at hp hf
  have hal : alE l m i k = alT x y := by unfold alE alT; rw [hx, hy]
  rw [hal] at hk
  have hil := (List.getElem?_eq_some_iff.1 he).1
  have hkl := (List.getElem?_eq_some_iff.1 hf).1
  have ht1 : ∀ {w' : World} {K : Value → World → Prop}, Mod No w w' → K (.int .i64 (thingI l i)) w' → Cal Tryd.prog F_diff_thing #[.slice a l.length c, .int .i64 i] w' K := fun m h => thing_c (hP.nos m) he h
  have ht2 : ∀ {w' : World} {K : Value → World → Prop}, Mod No w w' → K (.int .i64 (thingI m k)) w' → Cal Tryd.prog F_diff_thing #[.slice b m.length d, .int .i64 k] w' K := fun m h => thing_c (hQ.nos m) hf h
  obtain ⟨g1, o1, hd1, rfl, ix1, _, la1, r1, _⟩ := PE.at hP hx
  obtain ⟨g2, o2, hd2, rfl, ix2, _, la2, r2, _⟩ := PE.at hQ hy
  have ix1 := ix1 l.length c (by omega)
  have ix2 := ix2 m.length d (by omega)
  have hbx := (hb x (List.mem_of_getElem? hx)).2.2
  obtain ⟨W, hW⟩ : ∃ W, W = drew w := ⟨_, rfl⟩
  have hmW : Mod No w W := by rw [hW]; exact (Mod.refl No w).drew
  let Z : Obj := .cells ⟨zPE⟩ 64
  let X : Obj := .cells ⟨pV (x, hd1)⟩ 64
  let Y : Obj := .cells ⟨pV (y, hd2)⟩ 64
  have hs1 : ∀ o, (W.alloc o).heap.size = W.heap.size + 1 := fun o => World.size_alloc _ _
  have A1 : Ru (Instr.alloc 64 true (.tuple #[])) W (.pointer (some ⟨W.heap.size, 0, none⟩)) (W.alloc Z) := alloc_pE W
  have A2 : ∀ o, Ru (Instr.alloc 64 true (.tuple #[])) (W.alloc o) (.pointer (some ⟨W.heap.size + 1, 0, none⟩)) ((W.alloc o).alloc Z) := fun o => by
    have := alloc_pE (W.alloc o); rw [hs1] at this; exact this
  have S2 : ∀ (o : Obj) (z : Tn × Option Addr × Nat), RuU (Instr.storeAt 64 (.pointer (some ⟨W.heap.size + 1, 0, none⟩)) (.agg ⟨pV z⟩)) ((W.alloc o).alloc Z) ((W.alloc o).alloc (.cells ⟨pV z⟩ 64)) := fun o z => by
    have := store_new (P := Tryd.prog) (w := W.alloc o) (T := 64) (n := 5) (z := zPE) (l := pV z) (t := 64) agg_pE rfl rfl (one_pV z)
    rw [hs1] at this; exact this
  have S1 : ∀ (o : Obj) (z : Tn × Option Addr × Nat), RuU (Instr.storeAt 64 (.pointer (some ⟨W.heap.size, 0, none⟩)) (.agg ⟨pV z⟩)) ((W.alloc Z).alloc o) ((W.alloc (.cells ⟨pV z⟩ 64)).alloc o) := fun o z => by
    have hh : ((W.alloc Z).alloc o).heap[W.heap.size]? = some (.cells ⟨zPE⟩ 64 (0, 0)) := by rw [heap_old (by rw [hs1]; omega)]; exact heap_new W Z
    have := store_agg (P := Tryd.prog) (T := 64) (o := 0) (n := 5) (cs := pV z) agg_pE hh rfl (by simp [zPE]) (fun j h1 h2 => by simp) (one_pV z)
    unfold RuU
    rw [this]
    have e1 : splice zPE 0 (pV z) = pV z := by unfold splice; simp [zPE, pV]
    rw [e1]
    rw [put_under]
  have B1 : ∀ o o', At ((W.alloc (.cells ⟨o⟩ 64)).alloc o') W.heap.size 0 o := fun o o' => (AtU.new (w := W) (cs := o)).at.keep ((Mod.refl No _).alloc _) id
  have B2 : ∀ (o : Obj) o', At ((W.alloc o).alloc (.cells ⟨o'⟩ 64)) (W.heap.size + 1) 0 o' := fun o o' => by
    have := (AtU.new (w := W.alloc o) (cs := o') (t := 64)).at
    rw [hs1] at this; exact this
  have M0 : ∀ o o', Mod No w ((W.alloc o).alloc o') := fun o o' => (hmW.alloc o).alloc o'
  have L1 : Share (fun k => ∃ n24 : Int, Ru (Instr.loadAt 3 (.pointer (some (Addr.add ⟨W.heap.size, 0, none⟩ 1)))) ((W.alloc X).alloc Y) (.int .i64 n24) ((W.alloc X).alloc Y) ∧ ∃ n26 : Int, Ru (Instr.loadAt 3 (.pointer (some (Addr.add ⟨W.heap.size + 1, 0, none⟩ 1)))) ((W.alloc X).alloc Y) (.int .i64 n26) ((W.alloc X).alloc Y) ∧ _) _ := alike_leaf (K := K) (B1 _ _) (B2 _ _) (r1.nos (M0 _ _)) (r2.nos (M0 _ _)) hbx fun w' m' => hk w' ((M0 _ _).no m')
  have L2 : Share (fun k => ∃ n24 : Int, Ru (Instr.loadAt 3 (.pointer (some (Addr.add ⟨W.heap.size + 1, 0, none⟩ 1)))) ((W.alloc Y).alloc X) (.int .i64 n24) ((W.alloc Y).alloc X) ∧ ∃ n26 : Int, Ru (Instr.loadAt 3 (.pointer (some (Addr.add ⟨W.heap.size, 0, none⟩ 1)))) ((W.alloc Y).alloc X) (.int .i64 n26) ((W.alloc Y).alloc X) ∧ _) _ := alike_leaf (K := K) (B2 _ _) (B1 _ _) (r1.nos (M0 _ _)) (r2.nos (M0 _ _)) hbx fun w' m' => hk w' ((M0 _ _).no m')
  apply C_diff_alike
  unfold D_diff_alike
  rw [← hW]
  exact ⟨ht1 hmW ⟨_, rfl, _, ix1, _, la1 _ hmW, ⟨ht2 hmW ⟨_, rfl, la1 _ hmW, _, ix2, _, la2 _ hmW, ⟨⟨_, _, A1, la1 _ (hmW.alloc _), la2 _ (hmW.alloc _), _, _, A2 _, la1 _ (M0 _ _), la2 _ (M0 _ _), _, S1 _ (x, hd1), la2 _ (M0 _ _), _, S2 _ (y, hd2), L1⟩,
 ⟨_, _, A1, la1 _ (hmW.alloc _), la2 _ (hmW.alloc _), _, _, A2 _, la1 _ (M0 _ _), la2 _ (M0 _ _), _, S2 _ (x, hd1), la2 _ (M0 _ _), _, S1 _ (y, hd2), L2⟩⟩⟩,
 ⟨⟨_, _, A1, la1 _ (hmW.alloc _), ⟨ht2 (hmW.alloc _) ⟨_, rfl, la1 _ (hmW.alloc _), _, ix2, _, la2 _ (hmW.alloc _), _, _, A2 _, la1 _ (M0 _ _), la2 _ (M0 _ _), _, S1 _ (x, hd1), la2 _ (M0 _ _), _, S2 _ (y, hd2), L1⟩,
 ⟨_, _, A2 _, la1 _ (M0 _ _), ht2 (M0 _ _) ⟨_, rfl, la1 _ (M0 _ _), _, ix2, _, la2 _ (M0 _ _), _, S1 _ (x, hd1), la2 _ (M0 _ _), _, S2 _ (y, hd2), L1⟩⟩⟩⟩,
 ⟨_, _, A1, la1 _ (hmW.alloc _), ⟨ht2 (hmW.alloc _) ⟨_, rfl, la1 _ (hmW.alloc _), _, ix2, _, la2 _ (hmW.alloc _), _, _, A2 _, la1 _ (M0 _ _), la2 _ (M0 _ _), _, S2 _ (x, hd1), la2 _ (M0 _ _), _, S1 _ (y, hd2), L2⟩,
 ⟨_, _, A2 _, la1 _ (M0 _ _), ht2 (M0 _ _) ⟨_, rfl, la1 _ (M0 _ _), _, ix2, _, la2 _ (M0 _ _), _, S2 _ (x, hd1), la2 _ (M0 _ _), _, S1 _ (y, hd2), L2⟩⟩⟩⟩⟩⟩⟩,
 ⟨⟨_, _, A1, ⟨ht1 (hmW.alloc _) ⟨_, rfl, _, ix1, _, la1 _ (hmW.alloc _), ⟨ht2 (hmW.alloc _) ⟨_, rfl, la1 _ (hmW.alloc _), _, ix2, _, la2 _ (hmW.alloc _), _, _, A2 _, la1 _ (M0 _ _), la2 _ (M0 _ _), _, S1 _ (x, hd1), la2 _ (M0 _ _), _, S2 _ (y, hd2), L1⟩,
 ⟨_, _, A2 _, la1 _ (M0 _ _), ht2 (M0 _ _) ⟨_, rfl, la1 _ (M0 _ _), _, ix2, _, la2 _ (M0 _ _), _, S1 _ (x, hd1), la2 _ (M0 _ _), _, S2 _ (y, hd2), L1⟩⟩⟩⟩,
 ⟨_, _, A2 _, ht1 (M0 _ _) ⟨_, rfl, _, ix1, _, la1 _ (M0 _ _), ht2 (M0 _ _) ⟨_, rfl, la1 _ (M0 _ _), _, ix2, _, la2 _ (M0 _ _), _, S1 _ (x, hd1), la2 _ (M0 _ _), _, S2 _ (y, hd2), L1⟩⟩⟩⟩⟩,
 ⟨_, _, A1, ⟨ht1 (hmW.alloc _) ⟨_, rfl, _, ix1, _, la1 _ (hmW.alloc _), ⟨ht2 (hmW.alloc _) ⟨_, rfl, la1 _ (hmW.alloc _), _, ix2, _, la2 _ (hmW.alloc _), _, _, A2 _, la1 _ (M0 _ _), la2 _ (M0 _ _), _, S2 _ (x, hd1), la2 _ (M0 _ _), _, S1 _ (y, hd2), L2⟩,
 ⟨_, _, A2 _, la1 _ (M0 _ _), ht2 (M0 _ _) ⟨_, rfl, la1 _ (M0 _ _), _, ix2, _, la2 _ (M0 _ _), _, S2 _ (x, hd1), la2 _ (M0 _ _), _, S1 _ (y, hd2), L2⟩⟩⟩⟩,
 ⟨_, _, A2 _, ht1 (M0 _ _) ⟨_, rfl, _, ix1, _, la1 _ (M0 _ _), ht2 (M0 _ _) ⟨_, rfl, la1 _ (M0 _ _), _, ix2, _, la2 _ (M0 _ _), _, S2 _ (x, hd1), la2 _ (M0 _ _), _, S1 _ (y, hd2), L2⟩⟩⟩⟩⟩⟩⟩
end
end Go.Proofs.YtiahkkekcmgkfaaDoor
end
section
/- Layer 34, the program: all changes from a tree to another one. -/
open Go Go.Den Go.Proofs
namespace Go.Den
def chgV (c : Chg) : List Value := [.int .i64 c.1, .string (sB c.2)]
theorem chgV_all (l : List Chg) : ∀ c ∈ l.map chgV, c.length = 2 := by
  intro c hc
  obtain ⟨z, _, rfl⟩ := List.mem_map.1 hc
  rfl
def chgL (l : List Chg) : List Value := (l.map chgV).flatten
theorem chgL_len (l : List Chg) : (chgL l).length = l.length * 2 := by
  unfold chgL; rw [flatK_len (chgV_all l), List.length_map]
theorem chgL_snoc (l : List Chg) (c : Chg) : chgL (l ++ [c]) = chgL l ++ chgV c := by simp [chgL]
theorem one_chgV (z : Chg) : ∀ v ∈ chgV z, v.oneCell' = true := by
  intro v hv
  simp [chgV] at hv
  rcases hv with rfl | rfl <;> rfl
/-- Changes in memory. -/
def CE (w : World) (a : Option Addr) (l : List Chg) : Prop := Row w a (chgL l)
theorem CE.nos {w w' : World} {a : Option Addr} {l : List Chg} (h : CE w a l) (m : Mod No w w') : CE w' a l := Row.nos h m
end Go.Den
namespace Go.Proofs.YtiahkkekcmgkfaaDoor
theorem elemG_chg : elemG Tryd.prog 24 2 24 := elemG_of (by kernel_rfl)
theorem build_chg (n : Int) (s : ByteArray) : Al (Instr.build 36 #[(0, .int .i64 n), (1, .string s)]) (.agg ⟨[.int .i64 n, .string s]⟩) := fun w => by kernel_rfl
theorem built_chg (w : World) (x y : Value) : (Instr.buildSlice 24 1 #[(0, .agg ⟨[x, y]⟩)]).run Tryd.prog w = .ok (.slice (some ⟨w.heap.size, 0, none⟩) 1 1) (w.alloc (.cells ⟨[x, y]⟩ 36)) := by kernel_rfl
section
variable {w : World} {K : Value → World → Prop}
/-- Two trees side by side: a step for each path. -/
theorem sides_c {a b : Option Addr} {A B : List Tn} {c d : Nat} {v : Value} {J : Nat → Nat → World → Prop} (hn : A.length ≤ 1000) (hm : B.length ≤ 1000)
    (hsA : ∀ e ∈ A, e.path.length < 4294967281) (hsB : ∀ e ∈ B, e.path.length < 4294967281) (hJ0 : J 0 0 w) (hJp : ∀ i k w', J i k w' → PE w' a A ∧ PE w' b B ∧ Gl w') (hJn : ∀ i k w' w'', J i k w' → Mod No w' w'' → J i k w'')
    (h1 : ∀ i k w' x, J i k w' → A[i]? = some x → (∀ y, B[k]? = some y → ordP x.path y.path < 0) → ∀ K : Value → World → Prop, (∀ w'', J (i + 1) k w'' → K (.tuple #[]) w'') → Dyn Tryd.prog v #[.int .i64 i, .int .i64 (-1)] w' K)
    (h2 : ∀ i k w' y, J i k w' → B[k]? = some y → (∀ x, A[i]? = some x → ordP y.path x.path < 0) → ∀ K : Value → World → Prop, (∀ w'', J i (k + 1) w'' → K (.tuple #[]) w'') → Dyn Tryd.prog v #[.int .i64 (-1), .int .i64 k] w' K)
    (h3 : ∀ i k w' x y, J i k w' → A[i]? = some x → B[k]? = some y → x.path = y.path → ∀ K : Value → World → Prop, (∀ w'', J (i + 1) (k + 1) w'' → K (.tuple #[]) w'') → Dyn Tryd.prog v #[.int .i64 i, .int .i64 k] w' K)
    (hk : ∀ w', J A.length B.length w' → K (.tuple #[]) w') : Cal Tryd.prog F_diff_sides #[.slice a A.length c, .slice b B.length d, v] w K := by
  apply C_diff_sides
  unfold D_diff_sides
  refine ⟨fun z w1 => ∃ (i k : Nat) (y1 y2 : Value), i ≤ A.length ∧ k ≤ B.length ∧ z = [.int .i64 i, .int .i64 k, y1, y2] ∧ J i k w1, fun z _ => (A.length - nI z 0).toNat + (B.length - nI z 1).toNat, ⟨0, 0, _, _, Nat.zero_le _, Nat.zero_le _, rfl, hJ0⟩, ?_⟩
  rintro z w1 ⟨i, k, y1, y2, hi, hkk, rfl, hJ⟩
  refine Share.cut (fun z w2 => w2 = w1 ∧ z = [.bool (decide (i < A.length ∨ k < B.length))]) ⟨_, rfl, cond_of (fun h => ⟨rfl, ?_⟩) (fun h => ⟨_, rfl, rfl, ?_⟩)⟩ ?_
  · have h := of_decide_eq_true h
    congr 2; symm; exact decide_eq_true (.inl (by omega))
  · have h := of_decide_eq_false h
    congr 2; rw [Bool.eq_iff_iff, decide_eq_true_eq, decide_eq_true_eq]; omega
  rintro z w2 ⟨rfl, rfl⟩
  refine ⟨_, rfl, cond_of (fun h => ?_) (fun h => ?_)⟩
  · have h := of_decide_eq_true h
    obtain ⟨hPw, hQw, hgw⟩ := hJp _ _ _ hJ
    -- which way
    refine ⟨_, rfl, Share.cut (fun z w5 => J i k w5 ∧ ∃ n : Int, z = [.int .i64 n] ∧ ((n < 0 ∧ ∃ x, A[i]? = some x ∧ ∀ y, B[k]? = some y → ordP x.path y.path < 0) ∨ (0 < n ∧ ∃ y, B[k]? = some y ∧ ∀ x, A[i]? = some x → ordP y.path x.path < 0) ∨ (n = 0 ∧ ∃ x y, A[i]? = some x ∧ B[k]? = some y ∧ x.path = y.path)))
      (cond_of (fun h4 => ?_) (fun h4 => ⟨_, rfl, ?_⟩)) ?_⟩
    · rw [beq_int] at h4
      have h4 := of_decide_eq_true h4
      have hkB : k < B.length := by omega
      refine ⟨hJ, 1, rfl, .inr (.inl ⟨by omega, B[k], List.getElem?_eq_getElem hkB, fun x hx => ?_⟩)⟩
      have := (List.getElem?_eq_some_iff.1 hx).1
      omega
    · rw [beq_int] at h4
      have h4 := of_decide_eq_false h4
      have hiA : i < A.length := by omega
      have hx : A[i]? = some A[i] := List.getElem?_eq_getElem hiA
      generalize A[i] = x at hx
      refine Share.cut (fun z w4 => J i k w4 ∧ ∃ n : Int, z = [.int .i64 n] ∧ ((n < 0 ∧ ∃ x, A[i]? = some x ∧ ∀ y, B[k]? = some y → ordP x.path y.path < 0) ∨ (0 < n ∧ ∃ y, B[k]? = some y ∧ ∀ x, A[i]? = some x → ordP y.path x.path < 0) ∨ (n = 0 ∧ ∃ x y, A[i]? = some x ∧ B[k]? = some y ∧ x.path = y.path)))
        (cond_of (fun h5 => ?_) (fun h5 => ?_)) (fun z w4 h => by obtain ⟨hJ4, n, rfl, hn⟩ := h; exact ⟨hJ4, n, rfl, hn⟩)
      · rw [beq_int] at h5
        have h5 := of_decide_eq_true h5
        refine ⟨hJ, -1, rfl, .inl ⟨by omega, x, hx, fun y hy => ?_⟩⟩
        have := (List.getElem?_eq_some_iff.1 hy).1
        omega
      · rw [beq_int] at h5
        have h5 := of_decide_eq_false h5
        have hkB : k < B.length := by omega
        have hy : B[k]? = some B[k] := List.getElem?_eq_getElem hkB
        generalize B[k] = y at hy
        have rd := (Mod.refl No w2).drew
        obtain ⟨g1, o1, hd1, rfl, ix1, lq1, _⟩ := PE.at hPw hx
        obtain ⟨g2, o2, hd2, rfl, ix2, lq2, _⟩ := PE.at hQw hy
        refine ⟨_, ix1 A.length c hiA, _, lq1 0 9 (.string (sB x.path)) (by kernel_rfl) rfl _ rd, _, ix2 B.length d hkB, _, lq2 0 9 (.string (sB y.path)) (by kernel_rfl) rfl _ rd,
          order_c (hsA x (List.mem_of_getElem? hx)) (hsB y (List.mem_of_getElem? hy)) (hgw.nos rd) fun w3 m3 => ⟨_, rfl, hJn _ _ _ _ hJ (rd.no m3), _, rfl, ?_⟩⟩
        rcases Int.lt_trichotomy (ordP x.path y.path) 0 with h6 | h6 | h6
        · exact .inl ⟨h6, x, hx, fun y' hy' => by rw [hy] at hy'; cases hy'; exact h6⟩
        · exact .inr (.inr ⟨h6, x, y, hx, hy, ord_zero.1 h6⟩)
        · refine .inr (.inl ⟨h6, y, hy, fun x' hx' => ?_⟩)
          rw [hx] at hx'; cases hx'
          rw [ord_neg]; omega
    rintro z w5 ⟨hJ5, n, rfl, hway⟩
    refine ⟨_, rfl, Share.cut (fun z w10 => ∃ i' k' : Nat, z = [.int .i64 i', .int .i64 k'] ∧ J i' k' w10 ∧ i' ≤ A.length ∧ k' ≤ B.length ∧ i ≤ i' ∧ k ≤ k' ∧ i + k < i' + k') (cond_of (fun h6 => ?_) (fun h6 => ?_)) ?_⟩
    · have h6 := of_decide_eq_true h6
      obtain ⟨_, x, hx, hlt⟩ := hway.resolve_right (by rintro (⟨h7, _⟩ | ⟨h7, _⟩) <;> omega)
      have hiA := (List.getElem?_eq_some_iff.1 hx).1
      refine h1 i k w5 x hJ5 hx hlt _ fun w6 hJ6 => ⟨rfl, ?_⟩
      rw [wrap64 (by omega) (by omega)]
      exact ⟨i + 1, k, rfl, hJ6, by omega, hkk, by omega, by omega, by omega⟩
    · have h6 := of_decide_eq_false h6
      refine Share.cut (fun z w10 => ∃ i' k' : Nat, z = [.int .i64 i', .int .i64 k'] ∧ J i' k' w10 ∧ i' ≤ A.length ∧ k' ≤ B.length ∧ i ≤ i' ∧ k ≤ k' ∧ i + k < i' + k') (cond_of (fun h7 => ?_) (fun h7 => ?_)) (fun z w9 h => by obtain ⟨i', k', rfl, h⟩ := h; exact ⟨i', k', rfl, h⟩)
      · have h7 := of_decide_eq_true h7
        obtain ⟨_, y, hy, hlt⟩ : 0 < n ∧ ∃ y, B[k]? = some y ∧ ∀ x, A[i]? = some x → ordP y.path x.path < 0 := by
          rcases hway with ⟨h8, _⟩ | h8 | ⟨h8, _⟩
          · omega
          · exact h8
          · omega
        have hkB := (List.getElem?_eq_some_iff.1 hy).1
        refine ⟨_, rfl, h2 i k w5 y hJ5 hy hlt _ fun w6 hJ6 => ⟨rfl, ?_⟩⟩
        rw [wrap64 (by omega) (by omega)]
        exact ⟨i, k + 1, rfl, hJ6, hi, by omega, by omega, by omega, by omega⟩
      · have h7 := of_decide_eq_false h7
        obtain ⟨_, x, y, hx, hy, he⟩ : n = 0 ∧ ∃ x y, A[i]? = some x ∧ B[k]? = some y ∧ x.path = y.path := by
          rcases hway with ⟨h8, _⟩ | ⟨h8, _⟩ | h8
          · omega
          · omega
          · exact h8
        have hiA := (List.getElem?_eq_some_iff.1 hx).1
        have hkB := (List.getElem?_eq_some_iff.1 hy).1
        refine ⟨_, rfl, h3 i k w5 x y hJ5 hx hy he _ fun w6 hJ6 => ⟨rfl, ?_⟩⟩
        rw [wrap64 (by omega) (by omega), wrap64 (by omega) (by omega)]
        exact ⟨i + 1, k + 1, rfl, hJ6, by omega, by omega, by omega, by omega, by omega⟩
    rintro z w10 ⟨i', k', rfl, hJ10, hi', hk', hii, hkk2, hlt⟩
    exact ⟨⟨i', k', _, _, hi', hk', rfl, hJ10⟩, by simp [nI, nth]; omega⟩
  · have h := of_decide_eq_false h
    have e1 : i = A.length := by omega
    have e2 : k = B.length := by omega
    subst e1 e2
    exact hk w2 hJ
theorem Dyn_of {f : FuncId} {cap args : Array Value} (h : Cal Tryd.prog f (args ++ cap) w K) : Dyn Tryd.prog (.func (.func f) #[] cap) args w K := ⟨f, #[], cap, rfl, by rw [Array.empty_append]; exact h⟩
/-- What the step of diff.Trees has: the changes so far in a box, and both trees. -/
structure Bx (w0 w : World) (p q r : Nat) (a b : Option Addr) (la ca lb cb : Nat) (out : List Chg) : Prop where
  m : Mod No w0 w
  hp : w0.heap.size ≤ p
  ex : ∃ (x : Option Addr) (cx : Nat), AtU w p 0 [.slice x out.length cx] ∧ Own Tryd.prog w (p + 1) 24 2 x out.length cx (chgL out)
  h2 : At w q 0 [.slice a la ca]
  h3 : At w r 0 [.slice b lb cb]
  hq : q < p
  hr : r < p
theorem Bx.nos {w0 w w' : World} {p q r : Nat} {a b : Option Addr} {la ca lb cb : Nat} {out : List Chg} (h : Bx w0 w p q r a b la ca lb cb out) (m : Mod No w w') : Bx w0 w' p q r a b la ca lb cb out := by
  obtain ⟨x, cx, h1, h2⟩ := h.ex
  exact ⟨h.m.no m, h.hp, ⟨x, cx, h1.keep m id, h2.nos m⟩, h.h2.keep m id, h.h3.keep m id, h.hq, h.hr⟩
/-- A change more. -/
theorem Bx.push {w0 w : World} {p q r : Nat} {a b : Option Addr} {la ca lb cb : Nat} {out : List Chg} (h : Bx w0 w p q r a b la ca lb cb out) (hl : out.length ≤ 10000) (c : Chg) :
    ∃ (x : Option Addr) (cx : Nat) (w1 w2 w3 : World) (x' : Option Addr) (cx' : Nat), Ru (Instr.loadAt 24 (.pointer (some ⟨p, 0, none⟩))) (drew w) (.slice x out.length cx) (drew w) ∧
      Ru (Instr.buildSlice 24 1 #[(0, .agg ⟨chgV c⟩)]) (drew w) (.slice (some ⟨w.heap.size, 0, none⟩) 1 1) w1 ∧ Ru (Instr.loadAt 24 (.pointer (some ⟨p, 0, none⟩))) w1 (.slice x out.length cx) w1 ∧
      Ru (Builtin.append_ #[24, 24] 24 #[.slice x out.length cx, .slice (some ⟨w.heap.size, 0, none⟩) 1 1]) w1 (.slice x' (out.length + 1) cx') w2 ∧
      RuU (Instr.storeAt 24 (.pointer (some ⟨p, 0, none⟩)) (.slice x' (out.length + 1) cx')) w2 w3 ∧ Bx w0 w3 p q r a b la ca lb cb (out ++ [c]) := by
  obtain ⟨x, cx, h1, h2⟩ := h.ex
  have hpw := h1.lt
  have hT : scal Tryd.prog 24 = true := by kernel_rfl
  have l1 : ∀ {w'}, Mod No w w' → Ru (Instr.loadAt 24 (.pointer (some ⟨p, 0, none⟩))) w' (.slice x out.length cx) w' := fun m => (h1.at.keep m id).load (i := 0) hT rfl
  have rd := (Mod.refl No w).drew
  let w1 := (drew w).alloc (.cells ⟨chgV c⟩ 36)
  have m1 : Mod No w w1 := rd.alloc _
  have hsz : w1.heap.size = w.heap.size + 1 := World.size_alloc _ _
  obtain ⟨q', cx', w2, a1, a2, a3, a4⟩ := (h2.nos m1).appG (ty := 24) elemG_chg (by omega) (ad := ⟨w.heap.size, 0, none⟩) (m := 1) (c2 := 1) (ys := chgV c) (.inr ⟨_, _, rfl, AtU.new.at⟩) rfl (by omega) (one_chgV c) (by omega) (by omega) (by rw [hsz]; omega)
  have hown : ∀ {y}, (∃ q', x = some q' ∧ y = q'.block) → p < y := fun {y} ⟨q', e1, e2⟩ => by
    have := (h2.base e1).1
    rw [e2]; omega
  have a3' : Mod (fun y => p < y) w1 w2 := a3.mono fun y _ hy => hown hy
  have hp2 : AtU w2 p 0 [.slice x out.length cx] := (h1.keep m1 id).keep a3' (Nat.lt_irrefl p)
  obtain ⟨w3, s1, s2, s3, s4⟩ := hp2.store (P := Tryd.prog) (T := 24) (i := 0) (v := .slice (some q') (out.length + 1) cx') hT (by simp) rfl
  have hq2 := a2.base rfl
  refine ⟨x, cx, w1, w2, w3, some q', cx', l1 rd, built_chg (drew w) _ _, l1 m1, a1, s1, ⟨?_, h.hp, ⟨some q', cx', ?_, ?_⟩, ?_, ?_, h.hq, h.hr⟩⟩
  · have M2 : Mod No w0 w2 := (h.m.no m1).trans a3' fun y hy e => by have := h.hp; omega
    exact M2.trans s3 fun y hy e => by have := h.hp; omega
  · simpa using s2
  · rw [List.length_append, List.length_singleton, chgL_snoc]
    exact a2.keep s3 fun q'' e1 e2 => by have := (a2.base e1).1; omega
  · refine ((h.h2.keep m1 id).keep a3' (by have := h.hq; omega)).keep s3 (by have := h.hq; omega)
  · refine ((h.h3.keep m1 id).keep a3' (by have := h.hr; omega)).keep s3 (by have := h.hr; omega)
set_option maxRecDepth 100000 in
/-- The step. -/
theorem treeStep_c {w0 : World} {p q r : Nat} {a b : Option Addr} {A B : List Tn} {ca cb : Nat} {out : List Chg} (hB : Bx w0 w p q r a b A.length ca B.length cb out) (hl : out.length ≤ 10000) (hP : PE w0 a A) (hQ : PE w0 b B)
    {i k : Int} {c : Option Chg}
    (hc : (k = -1 ∧ ∃ (j : Nat) (x : Tn), i = j ∧ A[j]? = some x ∧ c = some (1, x.path)) ∨ (i = -1 ∧ ∃ (j : Nat) (y : Tn), k = j ∧ B[j]? = some y ∧ c = some (2, y.path)) ∨
      (∃ (j m : Nat) (x y : Tn), i = j ∧ k = m ∧ A[j]? = some x ∧ B[m]? = some y ∧ OneE A j x ∧ OneE B m y ∧ BdE A ∧ c = if alE A B j m = true then none else some (3, x.path)))
    (hk : ∀ w', Bx w0 w' p q r a b A.length ca B.length cb (out ++ c.toList) → K (.tuple #[]) w') :
    Cal Tryd.prog F_diff_Trees_1 #[.int .i64 i, .int .i64 k, .pointer (some ⟨p, 0, none⟩), .pointer (some ⟨q, 0, none⟩), .pointer (some ⟨r, 0, none⟩)] w K := by
  apply C_diff_Trees_1
  unfold D_diff_Trees_1
  have hT : scal Tryd.prog 28 = true := by kernel_rfl
  have l2 : ∀ {w'}, Mod No w w' → Ru (Instr.loadAt 28 (.pointer (some ⟨q, 0, none⟩))) w' (.slice a A.length ca) w' := fun m => (hB.h2.keep m id).load (i := 0) hT rfl
  have l3 : ∀ {w'}, Mod No w w' → Ru (Instr.loadAt 28 (.pointer (some ⟨r, 0, none⟩))) w' (.slice b B.length cb) w' := fun m => (hB.h3.keep m id).load (i := 0) hT rfl
  have rd := (Mod.refl No w).drew
  refine Share.cut (fun z w' => z = [] ∧ Bx w0 w' p q r a b A.length ca B.length cb (out ++ c.toList)) (cond_of (fun h => ?_) (fun h => ?_)) (fun z w' h => hk w' h.2)
  · have h := of_decide_eq_true h
    obtain ⟨_, j, x, rfl, hx, rfl⟩ : k = -1 ∧ ∃ (j : Nat) (x : Tn), i = j ∧ A[j]? = some x ∧ c = some (1, x.path) := by
      rcases hc with h1 | ⟨_, j, y, h1, _⟩ | ⟨j, m, x, y, h1, h2, _⟩
      · exact h1
      · omega
      · omega
    obtain ⟨x0, cx, w1, w2, w3, x', cx', p1, p2, p3, p4, p5, p6⟩ := hB.push hl (1, x.path)
    obtain ⟨g, o, hd, rfl, ix, lq, _⟩ := PE.at (hP.nos hB.m) hx
    exact ⟨_, _, _, p1, _, _, _, l2 rd, _, ix A.length ca (List.getElem?_eq_some_iff.1 hx).1, _, lq 0 9 (.string (sB x.path)) (by kernel_rfl) rfl _ rd, _, build_chg _ _, _, _, _, w1, p2, p3, _, _, _, w2, p4, w3, p5, rfl, p6⟩
  · have h := of_decide_eq_false h
    refine Share.cut (fun z w' => z = [] ∧ Bx w0 w' p q r a b A.length ca B.length cb (out ++ c.toList)) (cond_of (fun h1 => ?_) (fun h1 => ?_)) (fun z w' h => ⟨rfl, h.2⟩)
    · have h1 := of_decide_eq_true h1
      obtain ⟨_, j, x, rfl, hx, rfl⟩ : i = -1 ∧ ∃ (j : Nat) (y : Tn), k = j ∧ B[j]? = some y ∧ c = some (2, y.path) := by
        rcases hc with ⟨h2, _⟩ | h2 | ⟨j, m, x, y, h2, _⟩
        · omega
        · exact h2
        · omega
      obtain ⟨x0, cx, w1, w2, w3, x', cx', p1, p2, p3, p4, p5, p6⟩ := hB.push hl (2, x.path)
      obtain ⟨g, o, hd, rfl, ix, lq, _⟩ := PE.at (hQ.nos hB.m) hx
      exact ⟨_, _, _, p1, _, _, _, l3 rd, _, ix B.length cb (List.getElem?_eq_some_iff.1 hx).1, _, lq 0 9 (.string (sB x.path)) (by kernel_rfl) rfl _ rd, _, build_chg _ _, _, _, _, w1, p2, p3, _, _, _, w2, p4, w3, p5, rfl, p6⟩
    · have h1 := of_decide_eq_false h1
      obtain ⟨j, m, x, y, rfl, rfl, hx, hy, ox, oy, hbd, rfl⟩ : ∃ (j m : Nat) (x y : Tn), i = j ∧ k = m ∧ A[j]? = some x ∧ B[m]? = some y ∧ OneE A j x ∧ OneE B m y ∧ BdE A ∧ c = if alE A B j m = true then none else some (3, x.path) := by
        rcases hc with ⟨h2, _⟩ | ⟨h2, _⟩ | h2
        · omega
        · omega
        · exact h2
      refine ⟨_, _, _, l2 (Mod.refl _ _), _, _, _, l3 (Mod.refl _ _), alike_c (hP.nos hB.m) (hQ.nos hB.m) hx hy ox oy hbd fun w7 m7 => ⟨_, rfl, ?_⟩⟩
      have hB7 := hB.nos m7
      refine Share.cut (fun z w' => z = [] ∧ Bx w0 w' p q r a b A.length ca B.length cb (out ++ (if alE A B j m = true then none else some (3, x.path)).toList)) (cond_of (fun h2 => ?_) (fun h2 => ?_)) (fun z w' h => ⟨rfl, h.2⟩)
      · have h2 : alE A B j m = false := by simpa using h2
        rw [h2, if_neg (by simp)]
        obtain ⟨x0, cx, w1, w2, w3, x', cx', p1, p2, p3, p4, p5, p6⟩ := hB7.push hl (3, x.path)
        obtain ⟨g, o, hd, rfl, ix, lq, _⟩ := PE.at (hP.nos hB7.m) hx
        have rd7 := m7.drew
        exact ⟨_, _, _, p1, _, _, _, l2 rd7, _, ix A.length ca (List.getElem?_eq_some_iff.1 hx).1, _, lq 0 9 (.string (sB x.path)) (by kernel_rfl) rfl _ (Mod.refl No w7).drew, _, build_chg _ _, _, _, _, w1, p2, p3, _, _, _, w2, p4, w3, p5, rfl, p6⟩
      · have h2 : alE A B j m = true := by simpa using h2
        rw [if_pos h2]
        exact ⟨rfl, by simpa using hB7⟩
theorem alloc_chgs (w : World) : (Instr.alloc 24 true (.tuple #[])).run Tryd.prog w = .ok (.pointer (some ⟨w.heap.size, 0, none⟩)) (w.alloc (.cells ⟨[.slice none 0 0]⟩ 24)) := by kernel_rfl
theorem Trees_c {a b : Option Addr} {A B : List Tn} {ca cb : Nat} (hP : PE w a A) (hQ : PE w b B) (hbA : BdE A) (hbB : BdE B) (hn : A.length ≤ 1000) (hm : B.length ≤ 1000) (hca : A.length ≤ ca) (hcb : B.length ≤ cb) (hg : Gl w)
    (hbad : ¬ (RightL A ∧ RightL B) → ∀ w', Mod No w w' → K (.tuple #[.slice none 0 0, .int .i64 1]) w')
    (hok : RightL A → RightL B → ∀ w' x c out, Mod No w w' → AllE A B out → CE w' x out → out.length ≤ 2000 → K (.tuple #[.slice x out.length c, .int .i64 0]) w') :
    Cal Tryd.prog F_diff_Trees #[.slice a A.length ca, .slice b B.length cb] w K := by
  apply C_diff_Trees
  unfold D_diff_Trees
  have hT : scal Tryd.prog 28 = true := by kernel_rfl
  let w1 := w.alloc (.cells ⟨[.slice a A.length ca]⟩ 28)
  let w2 := w1.alloc (.cells ⟨[.slice b B.length cb]⟩ 28)
  have hs1 : w1.heap.size = w.heap.size + 1 := World.size_alloc _ _
  have hs2 : w2.heap.size = w.heap.size + 2 := by rw [World.size_alloc, hs1]
  have m2 : Mod No w w2 := ((Mod.refl No w).alloc _).alloc _
  have h2 : At w2 w.heap.size 0 [.slice a A.length ca] := (AtU.new (w := w)).at.keep ((Mod.refl No w1).alloc _) id
  have h3 : At w2 w1.heap.size 0 [.slice b B.length cb] := (AtU.new (w := w1)).at
  have l2 : ∀ {w'}, Mod No w2 w' → Ru (Instr.loadAt 28 (.pointer (some ⟨w.heap.size, 0, none⟩))) w' (.slice a A.length ca) w' := fun m => (h2.keep m id).load (i := 0) hT rfl
  have l3 : ∀ {w'}, Mod No w2 w' → Ru (Instr.loadAt 28 (.pointer (some ⟨w1.heap.size, 0, none⟩))) w' (.slice b B.length cb) w' := fun m => (h3.keep m id).load (i := 0) hT rfl
  refine ⟨_, w1, box_run, _, w2, box_run, Share.cut (fun z w5 => Mod No w2 w5 ∧ ∃ b, z = [.bool b] ∧ (b = true ↔ ¬ (RightL A ∧ RightL B))) ⟨_, _, _, l2 (Mod.refl _ _), dRight_c (hP.nos m2) hbA hn hca (hg.nos m2) fun w3 b3 m3 hb3 => ⟨_, rfl, cond_of (fun h => ⟨m3, vyes ?_⟩) (fun h => ⟨_, _, _, l3 m3, dRight_c (hQ.nos (m2.no m3)) hbB hm hcb ((hg.nos m2).nos m3) fun w4 b4 m4 hb4 => ⟨_, rfl, m3.no m4, viff ?_⟩⟩)⟩⟩ ?_⟩
  · have h : b3 = false := by simpa using h
    exact fun hr => by have := hb3.2 hr.1; rw [h] at this; cases this
  · have h : b3 = true := by simpa using h
    have h5 := hb3.1 h
    rw [← hb4]
    constructor
    · intro e hr
      cases b4
      · cases hr.2
      · cases e
    · intro e
      cases b4
      · rfl
      · exact absurd ⟨h5, rfl⟩ e
  rintro z w5 ⟨m5, b5, rfl, hb5⟩
  refine ⟨_, rfl, cond_of (fun h => ?_) (fun h => ?_)⟩
  · exact hbad (hb5.1 h) _ (m2.no m5)
  obtain ⟨hA, hB⟩ : RightL A ∧ RightL B := Classical.not_not.1 fun hn => by
    have := hb5.2 hn; rw [h] at this; cases this
  let w6 := w5.alloc (.cells ⟨[.slice none 0 0]⟩ 24)
  have m6 : Mod No w5 w6 := (Mod.refl No w5).alloc _
  have M6 : Mod No w w6 := (m2.no m5).no m6
  have hs5 := m5.size
  have hu : Tryd.prog.underlying 24 = some (.slice 36) := by kernel_rfl
  have hBx : Bx w w6 w5.heap.size w.heap.size w1.heap.size a b A.length ca B.length cb [] :=
    ⟨M6, by omega, ⟨none, 0, AtU.new, Own.nilG elemG_chg⟩, h2.keep (m5.no m6) id, h3.keep (m5.no m6) id, by omega, by omega⟩
  have hshA : ∀ e ∈ A, e.path.length < 4294967281 := fun e he => by
    obtain ⟨k, hk⟩ := List.mem_iff_getElem?.1 he
    have h4 := (List.getElem?_eq_some_iff.1 hk).1
    have := (RightTo.path hA h4 hk).2; omega
  have hshB : ∀ e ∈ B, e.path.length < 4294967281 := fun e he => by
    obtain ⟨k, hk⟩ := List.mem_iff_getElem?.1 he
    have h4 := (List.getElem?_eq_some_iff.1 hk).1
    have := (RightTo.path hB h4 hk).2; omega
  have hpa : ∀ {l : List Tn} {i : Nat} {e : Tn}, l[i]? = some e → (l.map (·.path))[i]? = some e.path := fun h => by rw [List.getElem?_map, h]; rfl
  refine ⟨_, w6, alloc_chgs w5, _, _, _, l2 (m5.no m6), _, _, _, l3 (m5.no m6), ?_⟩
  refine sides_c (J := fun i k w' => ∃ out, Mg (A.map (·.path)) (B.map (·.path)) (alE A B) i k out ∧ out.length ≤ i + k ∧ Bx w w' w5.heap.size w.heap.size w1.heap.size a b A.length ca B.length cb out) hn hm hshA hshB
    ⟨[], Mg.start _ _ _, by simp, hBx⟩ ?_ ?_ ?_ ?_ ?_ ?_
  · rintro i k w' ⟨out, h1, h4, h5⟩
    exact ⟨hP.nos h5.m, hQ.nos h5.m, hg.nos h5.m⟩
  · rintro i k w' w'' ⟨out, h1, h4, h5⟩ m'
    exact ⟨out, h1, h4, h5.nos m'⟩
  · rintro i k w' x ⟨out, h1, h4, h5⟩ hx hlt K hK
    have hi := h1.hi
    have hk := h1.hk
    rw [List.length_map] at hi hk
    refine Dyn_of (treeStep_c (A := A) (B := B) (c := some (1, x.path)) h5 (by omega) hP hQ (.inl ⟨rfl, i, x, rfl, hx, rfl⟩) fun w'' h6 => hK w'' ⟨_, h1.gone hA.ascP hB.ascP (hpa hx) ?_, by simp; omega, h6⟩)
    intro y hy
    obtain ⟨e, he, rfl⟩ := paths_get hy
    exact hlt e he
  · rintro i k w' y ⟨out, h1, h4, h5⟩ hy hlt K hK
    have hi := h1.hi
    have hk := h1.hk
    rw [List.length_map] at hi hk
    refine Dyn_of (treeStep_c (A := A) (B := B) (c := some (2, y.path)) h5 (by omega) hP hQ (.inr (.inl ⟨rfl, k, y, rfl, hy, rfl⟩)) fun w'' h6 => hK w'' ⟨_, h1.new hA.ascP hB.ascP (hpa hy) ?_, by simp; omega, h6⟩)
    intro x hx
    obtain ⟨e, he, rfl⟩ := paths_get hx
    exact hlt e he
  · rintro i k w' x y ⟨out, h1, h4, h5⟩ hx hy he K hK
    have hi := h1.hi
    have hk := h1.hk
    rw [List.length_map] at hi hk
    have ox := RightTo.one hA (List.getElem?_eq_some_iff.1 hx).1 hx
    have oy := RightTo.one hB (List.getElem?_eq_some_iff.1 hy).1 hy
    refine Dyn_of (treeStep_c (A := A) (B := B) (c := if alE A B i k = true then none else some (3, x.path)) h5 (by omega) hP hQ (.inr (.inr ⟨i, k, x, y, rfl, rfl, hx, hy, ox, oy, hbA, rfl⟩)) fun w'' h6 => hK w'' ⟨_, ?_, ?_, h6⟩)
    · have := h1.both hA.ascP hB.ascP (hpa hx) (by rw [hpa hy, he])
      by_cases h7 : alE A B i k = true
      · rw [if_pos h7] at this ⊢; simpa using this
      · rw [if_neg h7] at this ⊢; exact this
    · by_cases h7 : alE A B i k = true
      · rw [if_pos h7]; simp; omega
      · rw [if_neg h7]; simp; omega
  · rintro w7 ⟨out, h1, h4, h5⟩
    obtain ⟨x, cx, h6, h7⟩ := h5.ex
    have hall : AllE A B out := by
      have e1 : A.length = (A.map (·.path)).length := by simp
      have e2 : B.length = (B.map (·.path)).length := by simp
      rw [e1, e2] at h1
      exact h1.all
    exact ⟨rfl, _, _, _, h6.at.load (i := 0) (by kernel_rfl) rfl, hok hA hB w7 x cx out h5.m hall h7.rowU.row (by omega)⟩
end
end Go.Proofs.YtiahkkekcmgkfaaDoor
end
section
/- Can entries be a tree's, as the document tells it: walked. -/
open Go Go.Den Go.Proofs
namespace Go.Proofs.YtiahkkekcmgkfaaDoor
def zRE : List Value := [.string ByteArray.empty, .int .i64 0, .string ByteArray.empty, .string ByteArray.empty, .int .i64 0]
theorem alloc_rE (w : World) : (Instr.alloc 58 true (.tuple #[])).run Tryd.prog w = .ok (.pointer (some ⟨w.heap.size, 0, none⟩)) (w.alloc (.cells ⟨zRE⟩ 58)) := by kernel_rfl
section
variable {w : World} {K : Value → World → Prop}
theorem copy_rE {T : TypeId} {z : Tn} (hT : T = 58) : ∃ w1 w2, Ru (Instr.alloc T true (.tuple #[])) w (.pointer (some ⟨w.heap.size, 0, none⟩)) w1 ∧ RuU (Instr.storeAt T (.pointer (some ⟨w.heap.size, 0, none⟩)) (.agg ⟨rV z⟩)) w1 w2 ∧ At w2 w.heap.size 0 (rV z) ∧ Mod No w w2 := by
  subst hT
  exact ⟨_, _, alloc_rE w, store_new (T := 58) (n := 5) agg_rE rfl rfl (one_rV z), AtU.new.at, (Mod.refl No w).alloc _⟩
theorem rOne_c {a : Option Addr} {l : List Tn} {i c : Nat} {e : Tn} (hP : RE w a l) (he : l[i]? = some e) 
    (hk : ∀ w' b, Mod No w w' → (b = true ↔ OneE l i e) → K (.bool b) w') : Cal Tryd.prog F_leveeref33_one #[.slice a l.length c, .int .i64 i] w K := by
  apply C_leveeref33_one
  unfold D_leveeref33_one
  have hil := (List.getElem?_eq_some_iff.1 he).1
  obtain ⟨g, o, rfl, ix, lq, la⟩ := RE.at hP he
  obtain ⟨w1, w2, c1, c2, hat, m2⟩ := copy_rE (w := w) (z := e) (T := 58) rfl
  have ld : ∀ (j : Nat) (T : TypeId) (v : Value), scal Tryd.prog T = true → (rV e)[j]? = some v → ∀ w', Mod No w2 w' → Ru (Instr.loadAt T (.pointer (some (Addr.add ⟨w.heap.size, 0, none⟩ j)))) w' v w' := fun j T v hT hj w' m => by
    rw [add_none]; exact (hat.keep m id).load hT hj
  have l1 := ld 1 3 (.int .i64 e.kind) (by kernel_rfl) rfl
  have l2 := ld 2 9 (.string (sB e.link)) (by kernel_rfl) rfl
  have l3 := ld 3 9 (.string (sB e.data)) (by kernel_rfl) rfl
  have l4 := ld 4 3 (.int .i64 e.same) (by kernel_rfl) rfl
  have r2 := Mod.refl No w2
  have hs := sB_size e.data
  refine ⟨_, ix l.length c hil, _, la _ (Mod.refl _ _), _, w1, c1, w2, c2, Share.cut (fun z w3 => w3 = w2 ∧ ∃ b, z = [.bool b] ∧ (b = true ↔ ¬ (1 ≤ e.kind ∧ e.kind ≤ 3 ∧ (e.kind ≠ 1 → e.data = []) ∧ (e.kind ≠ 3 → e.link = []) ∧ e.data.length ≤ 65536))) ⟨_, l1 _ r2, ?_⟩ ?_⟩
  · have fin : (e.kind ≠ 1 → e.data = []) → (e.kind ≠ 3 → e.link = []) → 1 ≤ e.kind → e.kind ≤ 3 → ∃ b, [Value.bool (decide ((ByteArray.size (sB e.data) : Int) > 65536))] = [.bool b] ∧ (b = true ↔ ¬ (1 ≤ e.kind ∧ e.kind ≤ 3 ∧ (e.kind ≠ 1 → e.data = []) ∧ (e.kind ≠ 3 → e.link = []) ∧ e.data.length ≤ 65536)) := fun h1 h2 h3 h4 => viff (by
      rw [decide_eq_true_eq, hs]
      exact ⟨fun h h5 => by omega, fun h => by
        have : ¬ e.data.length ≤ 65536 := fun h6 => h ⟨h3, h4, h1, h2, h6⟩
        omega⟩)
    have third : (e.kind ≠ 1 → e.data = []) → 1 ≤ e.kind → e.kind ≤ 3 → ∃ n33 : Int, Ru (Instr.loadAt 3 (.pointer (some (Addr.add ⟨w.heap.size, 0, none⟩ 1)))) w2 (.int .i64 n33) w2 ∧ (bif n33 != 3 then ∃ s37 : ByteArray, Ru (Instr.loadAt 9 (.pointer (some (Addr.add ⟨w.heap.size, 0, none⟩ 2)))) w2 (.string s37) w2 ∧ (bif !((ByteArray.toList s37) == (ByteArray.toList ByteArray.empty)) then (w2 = w2 ∧ ∃ b, [Value.bool true] = [.bool b] ∧ (b = true ↔ ¬ (1 ≤ e.kind ∧ e.kind ≤ 3 ∧ (e.kind ≠ 1 → e.data = []) ∧ (e.kind ≠ 3 → e.link = []) ∧ e.data.length ≤ 65536))) else ∃ s43 : ByteArray, Ru (Instr.loadAt 9 (.pointer (some (Addr.add ⟨w.heap.size, 0, none⟩ 3)))) w2 (.string s43) w2 ∧ (w2 = w2 ∧ ∃ b, [Value.bool (decide ((ByteArray.size s43 : Int) > 65536))] = [.bool b] ∧ (b = true ↔ ¬ (1 ≤ e.kind ∧ e.kind ≤ 3 ∧ (e.kind ≠ 1 → e.data = []) ∧ (e.kind ≠ 3 → e.link = []) ∧ e.data.length ≤ 65536)))) else ∃ s43_2 : ByteArray, Ru (Instr.loadAt 9 (.pointer (some (Addr.add ⟨w.heap.size, 0, none⟩ 3)))) w2 (.string s43_2) w2 ∧ (w2 = w2 ∧ ∃ b, [Value.bool (decide ((ByteArray.size s43_2 : Int) > 65536))] = [.bool b] ∧ (b = true ↔ ¬ (1 ≤ e.kind ∧ e.kind ≤ 3 ∧ (e.kind ≠ 1 → e.data = []) ∧ (e.kind ≠ 3 → e.link = []) ∧ e.data.length ≤ 65536)))) := fun h1 h3 h4 => by
      refine ⟨_, l1 _ r2, cond_of (fun h5 => ⟨_, l2 _ r2, cond_of (fun h6 => ⟨rfl, vyes ?_⟩) (fun h6 => ⟨_, l3 _ r2, rfl, fin h1 ?_ h3 h4⟩)⟩) (fun h5 => ⟨_, l3 _ r2, rfl, fin h1 ?_ h3 h4⟩)⟩
      · rw [beq_empty] at h6
        have h6 : e.link ≠ [] := by simpa using h6
        have h5 : e.kind ≠ 3 := by simpa using h5
        exact fun h => h6 (h.2.2.2.1 h5)
      · rw [beq_empty] at h6
        have h6 : e.link = [] := by simpa using h6
        exact fun _ => h6
      · have h5 : e.kind = 3 := by simpa using h5
        exact fun h => absurd h5 h
    refine cond_of (fun h => ⟨rfl, vyes ?_⟩) fun h => ⟨_, l1 _ r2, cond_of (fun h2 => ⟨rfl, vyes ?_⟩) fun h2 => ⟨_, l1 _ r2, cond_of (fun h3 => ⟨_, l3 _ r2, cond_of (fun h4 => ⟨rfl, vyes ?_⟩) (fun h4 => third ?_ ?_ ?_)⟩) (fun h3 => third ?_ ?_ ?_)⟩⟩
    · have h := of_decide_eq_true h; omega
    · have h2 := of_decide_eq_true h2; omega
    · rw [beq_empty] at h4
      have h4 : e.data ≠ [] := by simpa using h4
      have h3 : e.kind ≠ 1 := by simpa using h3
      exact fun h => h4 (h.2.2.1 h3)
    · rw [beq_empty] at h4
      have h4 : e.data = [] := by simpa using h4
      exact fun _ => h4
    · have h := of_decide_eq_false h; omega
    · have h2 := of_decide_eq_false h2; omega
    · have h3 : e.kind = 1 := by simpa using h3
      exact fun h => absurd h3 h
    · have h := of_decide_eq_false h; omega
    · have h2 := of_decide_eq_false h2; omega
  rintro z w3 ⟨rfl, b, rfl, hbi⟩
  refine ⟨_, rfl, cond_of (fun h => ?_) (fun h => ?_)⟩
  · refine hk _ false m2 ⟨fun e => (by cases e), fun ho => absurd (hbi.1 h) ?_⟩
    obtain ⟨o1, o2, o3, o4, o5, _⟩ := ho
    exact fun hn => hn ⟨o1, o2, o4, o5, o3⟩
  have hA : 1 ≤ e.kind ∧ e.kind ≤ 3 ∧ (e.kind ≠ 1 → e.data = []) ∧ (e.kind ≠ 3 → e.link = []) ∧ e.data.length ≤ 65536 := Classical.not_not.1 fun hn => by
    have := hbi.2 hn; rw [h] at this; cases this
  refine ⟨_, l4 _ r2, cond_of (fun hs => ?_) (fun hs => ?_)⟩
  · have hs : e.same ≠ -1 := by simpa using hs
    have rd := (Mod.refl No w3).drew
    have hone : OneE l i e ↔ (0 ≤ e.same ∧ e.same < i ∧ e.kind ≠ 2 ∧ e.data = [] ∧ e.link = [] ∧ ∃ q, l[e.same.toNat]? = some q ∧ q.kind = e.kind ∧ q.same = -1) := by
      unfold OneE
      constructor
      · rintro ⟨_, _, _, _, _, o | o⟩
        · exact absurd o.1 hs
        · exact o
      · intro o
        exact ⟨hA.1, hA.2.1, hA.2.2.2.2, hA.2.2.1, hA.2.2.2.1, .inr o⟩
    refine Share.cut (fun z w4 => w4 = drew w3 ∧ ∃ b, z = [.bool b] ∧ (b = true ↔ OneE l i e)) ⟨_, l1 _ rd, cond_of (fun h1 => ⟨_, l4 _ rd, cond_of (fun h0 => ⟨_, l4 _ rd, cond_of (fun h2 => ?_) (fun h2 => ⟨rfl, vno ?_⟩)⟩) (fun h0 => ⟨rfl, vno ?_⟩)⟩) (fun h1 => ⟨rfl, vno ?_⟩)⟩ ?_
    · have h1 : e.kind ≠ 2 := by simpa using h1
      have h0 := of_decide_eq_true h0
      have h2 := of_decide_eq_true h2
      have hqi : l[e.same.toNat]? = some l[e.same.toNat] := List.getElem?_eq_getElem (by omega)
      generalize l[e.same.toNat] = q at hqi
      obtain ⟨g2, o2, hga, ix2, lq2, _⟩ := RE.at hP hqi
      cases hga
      have ix2 := ix2 l.length c (by omega)
      rw [show ((e.same.toNat : Nat) : Int) = e.same by omega] at ix2
      have mq := m2.drew
      refine ⟨_, l4 _ rd, _, ix2, _, lq2 1 3 (.int .i64 q.kind) (by kernel_rfl) rfl _ mq, _, l1 _ rd, cond_of (fun h3 => ⟨_, l4 _ rd, _, ix2, _, lq2 4 3 (.int .i64 q.same) (by kernel_rfl) rfl _ mq, cond_of (fun h4 => ⟨_, l3 _ rd, cond_of (fun h5 => ⟨_, l2 _ rd, rfl, viff ?_⟩) (fun h5 => ⟨rfl, vno ?_⟩)⟩) (fun h4 => ⟨rfl, vno ?_⟩)⟩) (fun h3 => ⟨rfl, vno ?_⟩)⟩
      · rw [beq_int] at h3 h4
        rw [beq_empty] at h5
        have h3 := of_decide_eq_true h3
        have h4 := of_decide_eq_true h4
        have h5 := of_decide_eq_true h5
        rw [beq_empty, decide_eq_true_eq, hone]
        exact ⟨fun e1 => ⟨h0, h2, h1, h5, e1, q, hqi, h3, h4⟩, fun e1 => e1.2.2.2.2.1⟩
      · rw [beq_empty] at h5
        have h5 := of_decide_eq_false h5
        intro ho
        rw [hone] at ho
        exact h5 ho.2.2.2.1
      · rw [beq_int] at h4
        have h4 := of_decide_eq_false h4
        intro ho
        rw [hone] at ho
        obtain ⟨_, _, _, _, _, q', h6, h7, h8⟩ := ho
        rw [hqi] at h6; cases h6
        exact h4 h8
      · rw [beq_int] at h3
        have h3 := of_decide_eq_false h3
        intro ho
        rw [hone] at ho
        obtain ⟨_, _, _, _, _, q', h6, h7, h8⟩ := ho
        rw [hqi] at h6; cases h6
        exact h3 h7
    · have h2 := of_decide_eq_false h2
      intro ho
      rw [hone] at ho
      exact h2 ho.2.1
    · have h0 := of_decide_eq_false h0
      intro ho
      rw [hone] at ho
      exact h0 ho.1
    · have h1 : e.kind = 2 := by simpa using h1
      intro ho
      rw [hone] at ho
      exact ho.2.2.1 h1
    rintro z w4 ⟨rfl, b, rfl, hb3⟩
    exact ⟨_, rfl, hk _ b m2.drew hb3⟩
  · have hs : e.same = -1 := by simpa using hs
    have hone : OneE l i e ↔ (e.kind = 3 → tOk e.link = true) := by
      unfold OneE
      constructor
      · rintro ⟨_, _, _, _, _, ⟨_, o⟩ | ⟨o, _⟩⟩
        · exact o
        · omega
      · intro o
        exact ⟨hA.1, hA.2.1, hA.2.2.2.2, hA.2.2.1, hA.2.2.2.1, .inl ⟨hs, o⟩⟩
    refine ⟨_, l1 _ r2, cond_of (fun h1 => ?_) (fun h1 => ?_)⟩
    · rw [beq_int] at h1
      have h1 := of_decide_eq_true h1
      refine ⟨_, l2 _ r2, rSplit_c (fun hn w5 m5 => ⟨_, _, _, _, _, rfl, hk _ _ (m2.no m5) ?_⟩) (fun hy w5 a5 c5 m5 _ => ⟨_, _, _, _, _, rfl, hk _ _ (m2.no m5) ?_⟩)⟩
      · rw [hone]
        exact ⟨fun e => (by cases e), fun e => by have := e h1; rw [hn] at this; cases this⟩
      · rw [hone]
        exact ⟨fun _ _ => hy, fun _ => rfl⟩
    · rw [beq_int] at h1
      have h1 := of_decide_eq_false h1
      exact hk _ _ m2 (by rw [hone]; exact ⟨fun _ e => absurd e h1, fun _ => rfl⟩)
theorem rOrd_c {a : Option Addr} {l : List Tn} {c : Nat} (hP : RE w a l) (hn : l.length ≤ 1000) (hsz : ∀ e ∈ l, e.path.length ≤ 1000000)
    (hk : ∀ w' b, Mod No w w' → (b = true ↔ ∀ i, 1 ≤ i → i < l.length → OrdAt l i) → K (.bool b) w') : Cal Tryd.prog F_leveeref33_ordered #[.slice a l.length c] w K := by
  apply C_leveeref33_ordered
  unfold D_leveeref33_ordered
  refine ⟨fun z w1 => Mod No w w1 ∧ ∃ n : Nat, 1 ≤ n ∧ z = [.int .i64 n] ∧ n ≤ l.length + 1 ∧ ∀ i, 1 ≤ i → i < n → i < l.length → OrdAt l i, fun z _ => (l.length + 1 - nI z 0).toNat, ⟨Mod.refl _ _, 1, Nat.le_refl _, rfl, by omega, fun i h1 h2 => by omega⟩, ?_⟩
  rintro z w1 ⟨m1, n, hn1, rfl, hnl, hall⟩
  refine ⟨_, rfl, cond_of (fun h => ?_) (fun h => ?_)⟩
  · have h := of_decide_eq_true h
    have hnx : n < l.length := by omega
    have he : l[n]? = some l[n] := List.getElem?_eq_getElem hnx
    have hp : l[n - 1]? = some l[n - 1] := List.getElem?_eq_getElem (by omega)
    generalize l[n] = e at he
    generalize l[n - 1] = p at hp
    obtain ⟨g, o, rfl, ix, lq, _⟩ := RE.at (hP.nos m1) he
    obtain ⟨g2, o2, hga, ix2, lq2, _⟩ := RE.at (hP.nos m1) hp
    cases hga
    have ix2 := ix2 l.length c (by omega)
    rw [show ((n - 1 : Nat) : Int) = (n : Int) - 1 by omega] at ix2
    rw [wrap64 (x := (n : Int) - 1) (by omega) (by omega)]
    have rd := (Mod.refl No w1).drew
    refine ⟨_, ix2, _, lq2 0 9 (.string (sB p.path)) (by kernel_rfl) rfl _ rd, _, ix l.length c hnx, _, lq 0 9 (.string (sB e.path)) (by kernel_rfl) rfl _ rd, less_c (hsz p (List.mem_of_getElem? hp)) (hsz e (List.mem_of_getElem? he)) fun w2 m2 => ⟨_, rfl, cond_of (fun h3 => ?_) (fun h3 => ?_)⟩⟩
    · have h3 : lessN p.path e.path = false := by simpa using h3
      refine hk _ _ ((m1.no rd).no m2) ⟨fun e => (by cases e), fun ho => ?_⟩
      obtain ⟨p', e', h4, h5, h6⟩ := ho n hn1 hnx
      rw [hp] at h4; cases h4
      rw [he] at h5; cases h5
      rw [h3] at h6; cases h6
    · have h3 : lessN p.path e.path = true := by simpa using h3
      rw [wrap64 (by omega) (by omega)]
      refine ⟨⟨(m1.no rd).no m2, n + 1, by omega, rfl, by omega, fun i h4 h5 h6 => ?_⟩, by simp [nI, nth]; omega⟩
      by_cases e2 : i = n
      · subst e2; exact ⟨p, e, hp, he, h3⟩
      · exact hall i h4 (by omega) h6
  · have h := of_decide_eq_false h
    exact hk _ _ m1 ⟨fun _ i h1 h2 => hall i h1 (by omega) h2, fun _ => rfl⟩
theorem rRight_c {a : Option Addr} {l : List Tn} {c : Nat} (hP : RE w a l) (hbd : BdE l) (hn : l.length ≤ 1000)
    (hk : ∀ w' b, Mod No w w' → (b = true ↔ RightL l) → K (.bool b) w') : Cal Tryd.prog F_leveeref33_Right #[.slice a l.length c] w K := by
  apply C_leveeref33_Right
  unfold D_leveeref33_Right
  have r0 := Mod.refl No w
  refine Share.cut (fun z w1 => w1 = w ∧ ∃ b, z = [.bool b] ∧ (b = true ↔ ¬ Head0 l)) (cond_of (fun h => ⟨rfl, vyes ?_⟩) (fun h => ?_)) ?_
  · rw [beq_int] at h
    have h := of_decide_eq_true h
    have h0 : l = [] := List.eq_nil_of_length_eq_zero (by omega)
    subst h0
    rintro ⟨e0, h1, _⟩
    simp at h1
  · rw [beq_int] at h
    have h := of_decide_eq_false h
    have hpos : 0 < l.length := by omega
    have h0 : l[0]? = some l[0] := List.getElem?_eq_getElem hpos
    generalize l[0] = e0 at h0
    obtain ⟨g, o, rfl, ix, lq, la⟩ := RE.at hP h0
    have ix := ix l.length c hpos
    have hH : Head0 l ↔ e0.path = [] ∧ e0.kind = 2 ∧ e0.link = [] ∧ e0.data = [] ∧ e0.same = -1 := by
      unfold Head0
      rw [h0]
      constructor
      · rintro ⟨e, he, h1⟩; cases he; exact h1
      · exact fun h1 => ⟨e0, rfl, h1⟩
    rw [hH]
    refine ⟨_, ix, _, lq 0 9 (.string (sB e0.path)) (by kernel_rfl) rfl _ r0, cond_of (fun h1 => ⟨rfl, vyes ?_⟩) (fun h1 => ⟨_, ix, _, lq 1 3 (.int .i64 e0.kind) (by kernel_rfl) rfl _ r0, cond_of (fun h2 => ⟨rfl, vyes ?_⟩) (fun h2 => ⟨_, ix, _, lq 2 9 (.string (sB e0.link)) (by kernel_rfl) rfl _ r0,
      cond_of (fun h3 => ⟨rfl, vyes ?_⟩) (fun h3 => ⟨_, ix, _, lq 3 9 (.string (sB e0.data)) (by kernel_rfl) rfl _ r0, cond_of (fun h4 => ⟨rfl, vyes ?_⟩) (fun h4 => ⟨_, ix, _, lq 4 3 (.int .i64 e0.same) (by kernel_rfl) rfl _ r0, rfl, viff ?_⟩)⟩)⟩)⟩)⟩
    · rw [beq_empty] at h1
      have h1 : e0.path ≠ [] := by simpa using h1
      exact fun e => h1 e.1
    · have h2 : e0.kind ≠ 2 := by simpa using h2
      exact fun e => h2 e.2.1
    · rw [beq_empty] at h3
      have h3 : e0.link ≠ [] := by simpa using h3
      exact fun e => h3 e.2.2.1
    · rw [beq_empty] at h4
      have h4 : e0.data ≠ [] := by simpa using h4
      exact fun e => h4 e.2.2.2.1
    · rw [beq_empty] at h1 h3 h4
      have h1 : e0.path = [] := by simpa using h1
      have h2 : e0.kind = 2 := by simpa using h2
      have h3 : e0.link = [] := by simpa using h3
      have h4 : e0.data = [] := by simpa using h4
      rw [bne_int, decide_eq_true_eq]
      exact ⟨fun e1 e2 => e1 e2.2.2.2.2, fun e1 e2 => e1 ⟨h1, h2, h3, h4, e2⟩⟩
  rintro z w1 ⟨rfl, b, rfl, hb⟩
  refine ⟨_, rfl, cond_of (fun h1 => ?_) (fun h1 => ?_)⟩
  · exact hk _ _ r0 ⟨fun e => (by cases e), fun e => absurd e.1 (hb.1 h1)⟩
  have hH0 : Head0 l := Classical.not_not.1 fun hn => by
    have := hb.2 hn; rw [h1] at this; cases this
  have hpos : 0 < l.length := by
    obtain ⟨e, he, _⟩ := hH0
    exact (List.getElem?_eq_some_iff.1 he).1
  refine ⟨fun z w2 => Mod No w1 w2 ∧ ∃ (n : Nat) (y1 y2 y3 y4 : Value), 1 ≤ n ∧ n ≤ l.length ∧ z = [.int .i64 n, y1, y2, y3, y4] ∧ ∀ i, 1 ≤ i → i < n → RefAt l i, fun z _ => (l.length - nI z 0).toNat, ⟨r0, 1, _, _, _, _, Nat.le_refl _, hpos, rfl, fun i h1 h2 => by omega⟩, ?_⟩
  rintro z w2 ⟨m2, n, y1, y2, y3, y4, hn1, hnl, rfl, hall⟩
  refine ⟨_, rfl, cond_of (fun h2 => ?_) (fun h2 => ?_)⟩
  · have h2 := of_decide_eq_true h2
    have hnx : n < l.length := by omega
    have he : l[n]? = some l[n] := List.getElem?_eq_getElem hnx
    generalize l[n] = e at he
    have hRn : ∀ {w'}, Mod No w2 w' → ∀ b, b = false → ¬ RefAt l n → K (.bool false) w' := fun m b _ hno => hk _ _ (m2.no m) ⟨fun e => (by cases e), fun hr => absurd ((right_ref.1 hr).2.1 n hn1 hnx) hno⟩
    have hP2 := hP.nos m2
    obtain ⟨g, o, rfl, ix, lq, la⟩ := RE.at hP2 he
    obtain ⟨w3, w4, c1, c2, hat, m4⟩ := copy_rE (w := w2) (z := e) (T := 58) rfl
    have ld : ∀ (j : Nat) (T : TypeId) (v : Value), scal Tryd.prog T = true → (rV e)[j]? = some v → ∀ w', Mod No w4 w' → Ru (Instr.loadAt T (.pointer (some (Addr.add ⟨w2.heap.size, 0, none⟩ j)))) w' v w' := fun j T v hT hj w' m => by
      rw [add_none]; exact (hat.keep m id).load hT hj
    have l0 := ld 0 9 (.string (sB e.path)) (by kernel_rfl) rfl
    have r4 := Mod.refl No w4
    have hbe := hbd e (List.mem_of_getElem? he)
    refine ⟨_, ix l.length c hnx, _, la _ (Mod.refl _ _), _, w3, c1, w4, c2, Share.cut (fun z w6 => Mod No w4 w6 ∧ ∃ b, z = [.bool b] ∧ (b = true ↔ ¬ ((∃ r, e.path = 47 :: r) ∧ OneE l n e))) ⟨_, l0 _ r4, cond_of (fun h3 => ⟨r4, vyes ?_⟩) (fun h3 => ⟨_, l0 _ r4, ?_⟩)⟩ ?_⟩
    · rw [beq_empty] at h3
      have h3 := of_decide_eq_true h3
      rintro ⟨⟨r, h4⟩, _⟩
      rw [h3] at h4; cases h4
    · rw [beq_empty] at h3
      have h3 := of_decide_eq_false h3
      cases hp : e.path with
      | nil => exact absurd hp h3
      | cons c0 r =>
        refine ⟨_, ix_run (x := c0 :: r) (i := 0) rfl, ?_⟩
        rw [bne_47]
        refine cond_of (fun h4 => ⟨r4, vyes ?_⟩) (fun h4 => rOne_c (hP2.nos m4) he fun w5 b m5 hb2 => ⟨_, rfl, m5, viff ?_⟩)
        · have h4 := of_decide_eq_true h4
          rintro ⟨⟨r', h5⟩, _⟩
          cases h5
          exact h4 rfl
        · have h4 : c0 = 47 := by simpa using h4
          rw [← hb2, h4]
          cases b <;> simp
    rintro z w6 ⟨m6, b, rfl, hb2⟩
    refine ⟨_, rfl, cond_of (fun h3 => ?_) (fun h3 => ?_)⟩
    · refine hRn (m4.no m6) false rfl fun hr => hb2.1 h3 ?_
      obtain ⟨e', he', h4, h5, _⟩ := hr
      rw [he] at he'; cases he'
      exact ⟨h4, h5⟩
    obtain ⟨⟨r, hr⟩, hone⟩ : (∃ r, e.path = 47 :: r) ∧ OneE l n e := Classical.not_not.1 fun hn => by
      have := hb2.2 hn; rw [h3] at this; cases this
    refine ⟨_, l0 _ m6, refParts_c (by omega) hr fun w7 d nm m7 hcut => ⟨_, _, rfl, ?_⟩⟩
    have M7 := m6.no m7
    have hnml : nm.length ≤ 140737488355328 := by
      have := congrArg List.length hcut.1
      simp at this; omega
    refine ⟨fun z w8 => Mod No w4 w8 ∧ ∃ (k : Nat) (b : Bool), k ≤ n ∧ z = [.bool b, .int .i64 k] ∧ (b = true ↔ InDir l k d) ∧ ∀ (j : Nat) (q : Tn), j < k → l[j]? = some q → q.path ≠ e.path, fun z _ => (n - nI z 1).toNat, ⟨M7, 0, false, Nat.zero_le _, rfl, ⟨fun e => (by cases e), fun ⟨k, q, h, _⟩ => by omega⟩, fun j q h => by omega⟩, ?_⟩
    rintro z w8 ⟨m8, k, b2, hkn, rfl, hbk, hdis⟩
    have M8 := m4.no m8
    refine ⟨_, rfl, cond_of (fun h4 => ?_) (fun h4 => ?_)⟩
    · have h4 := of_decide_eq_true h4
      have hkx : k < l.length := by omega
      have hq : l[k]? = some l[k] := List.getElem?_eq_getElem hkx
      generalize l[k] = q at hq
      obtain ⟨g2, o2, hga, ix2, lq2, _⟩ := RE.at (hP2.nos M8) hq
      cases hga
      have ix2 := ix2 l.length c hkx
      have hin : InDir l (k + 1) d ↔ InDir l k d ∨ (q.path = d ∧ q.kind = 2) := by
        rw [inDir_iff, inDir_iff, dirsTo_succ hq, List.mem_append]
        by_cases h5 : q.kind = 2
        · rw [if_pos h5]; simp [h5, eq_comm]
        · rw [if_neg h5]; simp [h5]
      refine Share.cut (fun z w9 => w9 = w8 ∧ ∃ b, z = [.bool b] ∧ (b = true ↔ InDir l (k + 1) d)) ⟨_, rfl, cond_of (fun h5 => ⟨rfl, vyes ?_⟩) (fun h5 => ⟨_, ix2, _, lq2 0 9 (.string (sB q.path)) (by kernel_rfl) rfl _ (Mod.refl _ _), ?_⟩)⟩ ?_
      · rw [hin]; exact .inl (hbk.1 h5)
      · have h5' : ¬ InDir l k d := fun h6 => by have := hbk.2 h6; rw [h5] at this; cases this
        rw [beq_sB]
        refine cond_of (fun h6 => ⟨_, ix2, _, lq2 1 3 (.int .i64 q.kind) (by kernel_rfl) rfl _ (Mod.refl _ _), rfl, viff ?_⟩) (fun h6 => ⟨rfl, vno ?_⟩)
        · have h6 := of_decide_eq_true h6
          rw [beq_int, decide_eq_true_eq, hin]
          exact ⟨fun h => .inr ⟨h6, h⟩, fun h => (h.resolve_left h5').2⟩
        · have h6 := of_decide_eq_false h6
          rw [hin]
          exact fun h => h6 (h.resolve_left h5').1
      rintro z w9 ⟨rfl, b3, rfl, hb3⟩
      have rd := (Mod.refl No w9).drew
      refine ⟨_, ix2, _, lq2 0 9 (.string (sB q.path)) (by kernel_rfl) rfl _ rd, _, l0 _ (m8.no rd), ?_⟩
      rw [beq_sB]
      refine cond_of (fun h6 => ?_) (fun h6 => ?_)
      · have h6 := of_decide_eq_true h6
        refine hRn (M8.no rd) false rfl fun hr => ?_
        obtain ⟨e', he', _, _, _, h7⟩ := hr
        rw [he] at he'; cases he'
        exact h7 k q (by omega) hq h6
      · have h6 := of_decide_eq_false h6
        rw [wrap64 (by omega) (by omega)]
        refine ⟨⟨m8.no rd, k + 1, b3, by omega, rfl, hb3, fun j q' h7 h8 => ?_⟩, by simp [nI, nth]; omega⟩
        by_cases e2 : j = k
        · subst e2; rw [hq] at h8; cases h8; exact h6
        · exact hdis j q' (by omega) h8
    · have h4 := of_decide_eq_false h4
      have hkn2 : k = n := by omega
      subst hkn2
      refine Share.cut (fun z w11 => Mod No w8 w11 ∧ ∃ b, z = [.bool b] ∧ (b = true ↔ ¬ (InDir l k d ∧ nameB nm = true))) ⟨_, rfl, cond_of (fun h5 => ⟨Mod.refl _ _, vyes ?_⟩) (fun h5 => refName_c (by omega) fun w10 m10 => ⟨_, rfl, m10, viff ?_⟩)⟩ ?_
      · have h5 : b2 = false := by simpa using h5
        rintro ⟨h6, _⟩
        have := hbk.2 h6
        rw [h5] at this; cases this
      · have h5 : b2 = true := by simpa using h5
        have h6 := hbk.1 h5
        cases nameB nm <;> simp [h6]
      rintro z w11 ⟨m11, b4, rfl, hb4⟩
      refine ⟨_, rfl, cond_of (fun h5 => ?_) (fun h5 => ?_)⟩
      · refine hRn (M8.no m11) false rfl fun hr => hb4.1 h5 ?_
        obtain ⟨e', he', _, _, ⟨d', n', h7, h8, h9⟩, _⟩ := hr
        rw [he] at he'; cases he'
        obtain ⟨rfl, rfl⟩ := hcut.inj h7
        exact ⟨h8, h9⟩
      · obtain ⟨h6, h7⟩ : InDir l k d ∧ nameB nm = true := Classical.not_not.1 fun hn => by
          have := hb4.2 hn; rw [h5] at this; cases this
        rw [wrap64 (by omega) (by omega)]
        refine ⟨⟨m2.no (M8.no m11), k + 1, _, _, _, _, by omega, by omega, rfl, fun i h8 h9 => ?_⟩, by simp [nI, nth]; omega⟩
        by_cases e2 : i = k
        · subst e2; exact ⟨e, he, ⟨r, hr⟩, hone, ⟨d, nm, hcut, h6, h7⟩, hdis⟩
        · exact hall i h8 (by omega)
  · have h2 := of_decide_eq_false h2
    have hnl2 : n = l.length := by omega
    subst hnl2
    -- the paths are short
    have hsz : ∀ k (e : Tn), l[k]? = some e → e.path.length ≤ 25 * k := by
      intro k
      induction k using Nat.strongRecOn with
      | ind k ih =>
        intro e he
        by_cases h0 : k = 0
        · subst h0
          obtain ⟨e0, h3, h4, _⟩ := hH0
          rw [he] at h3; cases h3
          rw [h4]; simp
        · obtain ⟨e', he', _, _, ⟨d, nm, hc1, ⟨m, q, hm, hq, hqd, _⟩, hnm⟩, _⟩ := hall k (by omega) (List.getElem?_eq_some_iff.1 he).1
          rw [he] at he'; cases he'
          have h5 := ih m hm q hq
          have h6 := nameB_len hnm
          rw [hqd] at h5
          rw [hc1.1]; simp; omega
    refine rOrd_c (hP.nos m2) hn (fun e he => ?_) fun w12 b m12 hb5 => ⟨_, rfl, hk _ _ (m2.no m12) ?_⟩
    · obtain ⟨k, hk⟩ := List.mem_iff_getElem?.1 he
      have h3 := hsz k e hk
      have h4 := (List.getElem?_eq_some_iff.1 hk).1
      omega
    · rw [hb5, right_ref]
      exact ⟨fun h => ⟨hH0, hall, h⟩, fun h => h.2.2⟩
end
end Go.Proofs.YtiahkkekcmgkfaaDoor
end
section
/- Layer 34: entries and changes handed over; the document's answer: all changes from a tree to another one. -/
open Go Go.Den Go.Proofs
namespace Go.Den
theorem chgL_get {l : List Chg} {i : Nat} {c : Chg} (h : l[i]? = some c) : ((chgL l).drop (i * 2)).take 2 = chgV c := flatK_get (chgV_all l) (by rw [List.getElem?_map, h]; rfl)
theorem chgL_cell {l : List Chg} {i j : Nat} {c : Chg} {v : Value} (h : l[i]? = some c) (hj : (chgV c)[j]? = some v) : (chgL l)[i * 2 + j]? = some v := flatK_cell (chgV_all l) (by rw [List.getElem?_map, h]; rfl) hj
theorem bytesRow_list (x : Bs) (cap : Nat) : (bytesRow (sB x) cap).toList = u8L x ++ List.replicate (cap - x.length) (.int .u8 0) := by
  unfold bytesRow
  rw [Array.toList_append, Array.toList_map, Array.toList_replicate, sB_size, sB_data]; rfl
end Go.Den
namespace Go.Proofs.YtiahkkekcmgkfaaDoor
theorem agg_rC : aggN Tryd.prog 71 = some 2 := by kernel_rfl
theorem elemG_pE : elemG Tryd.prog 28 5 72 := elemG_of (by kernel_rfl)
theorem elemG_rE : elemG Tryd.prog 22 5 64 := elemG_of (by kernel_rfl)
theorem build_pE (s t : ByteArray) (n m : Int) (a : Option Addr) (l c : Nat) : Al (Instr.build 64 #[(0, .string s), (1, .int .i64 n), (2, .string t), (3, .slice a l c), (4, .int .i64 m)]) (.agg ⟨[.string s, .int .i64 n, .string t, .slice a l c, .int .i64 m]⟩) := fun w => by kernel_rfl
theorem built_pE (w : World) (z : Tn × Option Addr × Nat) : (Instr.buildSlice 28 1 #[(0, .agg ⟨pV z⟩)]).run Tryd.prog w = .ok (.slice (some ⟨w.heap.size, 0, none⟩) 1 1) (w.alloc (.cells ⟨pV z⟩ 64)) := by kernel_rfl
theorem built_rE (w : World) (z : Tn) : (Instr.buildSlice 22 1 #[(0, .agg ⟨rV z⟩)]).run Tryd.prog w = .ok (.slice (some ⟨w.heap.size, 0, none⟩) 1 1) (w.alloc (.cells ⟨rV z⟩ 58)) := by kernel_rfl
section
variable {w : World} {K : Value → World → Prop}
theorem CE.at {a : Option Addr} {l : List Chg} {i : Nat} {e : Chg} {T : TypeId} (hT : T = 30 ∨ T = 24) (h : CE w a l) (hi : l[i]? = some e) :
    ∃ g o, a = some ⟨g, o, none⟩ ∧ (∀ n c : Nat, i < n → Al (Instr.indexAt T (.slice (some ⟨g, o, none⟩) n c) (.int .i64 i)) (.pointer (some ⟨g, o + i * 2, none⟩))) ∧
      (∀ (j : Nat) (T : TypeId) (v : Value), scal Tryd.prog T = true → (chgV e)[j]? = some v → ∀ w', Mod No w w' → Ru (Instr.loadAt T (.pointer (some (Addr.add ⟨g, o + i * 2, none⟩ j)))) w' v w') ∧
      (∀ w', Mod No w w' → Ru (Instr.loadAt 71 (.pointer (some ⟨g, o + i * 2, none⟩))) w' (.agg ⟨chgV e⟩) w') := by
  have hil : i < l.length := (List.getElem?_eq_some_iff.1 hi).1
  have hlen := chgL_len l
  obtain ⟨g, o, rfl, hat⟩ := h.resolve_left fun e => by rw [e] at hlen; simp at hlen; omega
  refine ⟨g, o, rfl, fun n c hn w => ?_, fun j T v hT hj w' m => ?_, fun w' m => ?_⟩
  · have hel : elemN Tryd.prog T = some 2 := by
      rcases hT with rfl | rfl
      · kernel_rfl
      · kernel_rfl
    rw [index_slice (k := 2) hel (by omega) (by omega) w, add_none, Int.toNat_natCast]
  · rw [add_none, Nat.add_assoc]
    exact (hat.keep m id).load hT (chgL_cell hi hj)
  · have := (hat.keep m id).loadAgg (P := Tryd.prog) (i := i * 2) agg_rC (by rw [hlen]; omega)
    rw [chgL_get hi] at this
    exact this
/-- A text's bytes, in new memory. -/
theorem bytes_run (w : World) (x : Bs) : ∃ w' c, Ru (convert 9 62 (.string (sB x))) w (.slice (some ⟨w.heap.size, 0, none⟩) x.length c) w' ∧ At w' w.heap.size 0 (u8L x) ∧ Mod No w w' := by
  have h := run_bytes_of_string (P := Tryd.prog) w 9 62 5 (sB x) (by kernel_rfl) (by kernel_rfl) (by kernel_rfl)
  rw [sB_size] at h
  generalize grownCap w x.length 0 5 = cap at h
  have hl := bytesRow_list x cap
  refine ⟨_, _, h, ⟨(bytesRow (sB x) cap).toList, _, _, heap_new _ _, ?_, ?_⟩, ((Mod.refl No w).drew).alloc _⟩
  · rw [hl, List.length_append]; simp
  · rw [hl, List.drop_zero, List.take_left]
theorem given_c {a : Option Addr} {l : List Tn} {c : Nat} (hP : RE w a l) (hn : l.length ≤ 1000) (hk : ∀ w' a' c', Mod No w w' → PE w' a' l → l.length ≤ c' → K (.slice a' l.length c') w') : Cal Tryd.prog F_leveelaw34_given #[.slice a l.length c] w K := by
  apply C_leveelaw34_given
  unfold D_leveelaw34_given
  refine ⟨fun z w1 => Mod No w w1 ∧ ∃ (n : Nat) (Z : List (Tn × Option Addr × Nat)) (a' : Option Addr) (c' : Nat), n ≤ l.length ∧ z = [.slice a' n c', .int .i64 n] ∧ Z.map (·.1) = l.take n ∧ Own Tryd.prog w1 w.heap.size 28 5 a' n c' (Z.map pV).flatten ∧
      ∀ z ∈ Z, Row w1 z.2.1 (u8L z.1.data) ∧ ∃ d, z.2.1 = some d ∧ d.block < w1.heap.size ∧ ∀ q, a' = some q → d.block ≠ q.block,
    fun z _ => (l.length - nI z 1).toNat, ⟨Mod.refl _ _, 0, [], none, 0, Nat.zero_le _, rfl, rfl, Own.nilG elemG_pE, by simp⟩, ?_⟩
  rintro z w1 ⟨m1, n, Z, a', c', hnl, rfl, hZ, how, hrows⟩
  refine ⟨_, rfl, cond_of (fun h => ?_) (fun h => ?_)⟩
  · have h := of_decide_eq_true h
    have hnx : n < l.length := by omega
    have he : l[n]? = some l[n] := List.getElem?_eq_getElem hnx
    have htk : l.take (n + 1) = l.take n ++ [l[n]] := List.take_succ_eq_append_getElem hnx
    generalize l[n] = e at he htk
    obtain ⟨g, o, rfl, ix, lq, _⟩ := RE.at (hP.nos m1) he
    have ix := ix l.length c hnx
    have rd := (Mod.refl No w1).drew
    obtain ⟨w2, cb, b1, b2, b3⟩ := bytes_run (drew w1) e.data
    have m2 : Mod No w1 w2 := rd.no b3
    have q0 := fun w' m => lq 0 9 (.string (sB e.path)) (by kernel_rfl) rfl w' m
    have q1 := fun w' m => lq 1 3 (.int .i64 e.kind) (by kernel_rfl) rfl w' m
    have q2 := fun w' m => lq 2 9 (.string (sB e.link)) (by kernel_rfl) rfl w' m
    have q3 := lq 3 9 (.string (sB e.data)) (by kernel_rfl) rfl _ rd
    have q4 := fun w' m => lq 4 3 (.int .i64 e.same) (by kernel_rfl) rfl w' m
    let zz : Tn × Option Addr × Nat := (e, some ⟨(drew w1).heap.size, 0, none⟩, cb)
    let w3 := w2.alloc (.cells ⟨pV zz⟩ 64)
    have hsz3 : w3.heap.size = w2.heap.size + 1 := World.size_alloc _ _
    have m3 : Mod No w1 w3 := m2.alloc _
    have hb2 := b2.lt
    have hd : (drew w1).heap.size = w1.heap.size := rfl
    obtain ⟨q', cx', w4, a1, a2, a3, a4⟩ := (how.nos m3).appG (ty := 28) elemG_pE (by omega) (ad := ⟨w2.heap.size, 0, none⟩) (m := 1) (c2 := 1) (ys := pV zz) (.inr ⟨_, _, rfl, AtU.new.at⟩) rfl (by omega) (one_pV zz) (by omega) (by omega) (by rw [hsz3]; have := m1.size; have := m2.size; omega)
    refine ⟨_, _, _, rfl, _, ix, _, q0 _ rd, _, ix, _, q1 _ rd, _, ix, _, q2 _ rd, _, ix, _, q3, _, ix, _, q4 _ rd, _, _, _, w2, b1, q0 _ m2, q1 _ m2, q2 _ m2, q4 _ m2, _, build_pE _ _ _ _ _ _ _, _, _, _, w3, built_pE w2 zz, _, _, _, w4, a1, ?_⟩
    rw [wrap64 (by omega) (by omega)]
    have hown : ∀ {y}, (∃ q', a' = some q' ∧ y = q'.block) → w.heap.size ≤ y ∧ y < w1.heap.size := fun {y} ⟨q', e1, e2⟩ => by
      rw [e2]; exact how.base e1
    refine ⟨⟨(m1.no m3).trans a3 fun y hy e1 => by have := (hown e1).1; omega, n + 1, Z ++ [zz], some q', cx', by omega, rfl, ?_, ?_, ?_⟩, by simp [nI, nth]; omega⟩
    · rw [List.map_append, hZ, htk]; rfl
    · rw [List.map_append, List.flatten_append]
      have : ([zz].map pV).flatten = pV zz := by simp
      rw [this]; exact a2
    · intro z hz
      have hs3 := m3.size
      have hs4 := a3.size
      rcases List.mem_append.1 hz with hz | hz
      · obtain ⟨r1, d, r2, r3, r4⟩ := hrows z hz
        refine ⟨(r1.nos m3).keep a3 fun q hq ⟨q2, e1, e2⟩ => ?_, d, r2, by omega, fun q hq => ?_⟩
        · rw [r2] at hq; cases hq
          exact r4 q2 e1 e2
        · cases hq
          rcases a4 with ⟨q2, e1, e2⟩ | e1
          · rw [e2]; exact r4 q2 e1
          · omega
      · rw [List.mem_singleton] at hz; subst hz
        have hfresh : ∀ q, a' = some q → q.block < w1.heap.size := fun q hq => (hown ⟨q, hq, rfl⟩).2
        refine ⟨?_, _, rfl, ?_, fun q hq => ?_⟩
        · have r1 : Row w3 (some ⟨(drew w1).heap.size, 0, none⟩) (u8L e.data) := .inr ⟨_, _, rfl, b2.keep ((Mod.refl No w2).alloc _) id⟩
          refine r1.keep a3 fun q hq ⟨q2, e1, e2⟩ => ?_
          cases hq
          have := hfresh q2 e1
          simp only at e2; omega
        · simp only; omega
        · cases hq
          simp only
          rcases a4 with ⟨q2, e1, e2⟩ | e1
          · have := hfresh q2 e1
            omega
          · omega
  · have h := of_decide_eq_false h
    have hnl2 : n = l.length := by omega
    subst hnl2
    rw [List.take_length] at hZ
    refine ⟨_, _, _, rfl, hk w1 a' c' m1 ⟨Z, hZ, how.rowU.row, fun z hz => ?_⟩ how.cap.1⟩
    obtain ⟨r1, d, r2, _⟩ := hrows z hz
    exact ⟨r1, fun e => by rw [r2] at e; cases e⟩
end
end Go.Proofs.YtiahkkekcmgkfaaDoor
end
section
/- Layer 34: what a tree has in all. -/
open Go Go.Den Go.Proofs
namespace Go.Den
def TotV (t : Tot) (n : Int) : List Value := [.int .i64 t.dirs, .int .i64 t.files, .int .i64 t.links, .int .i64 n, .int .i64 t.bytes]
def tot0 : Tot := ⟨0, 0, 0, 0⟩
theorem one_TotV (t : Tot) (n : Int) : ∀ v ∈ TotV t n, v.oneCell' = true := by
  intro v hv
  simp [TotV] at hv
  rcases hv with rfl | rfl | rfl | rfl | rfl <;> rfl
def totK (t : Tot) (e : Tn) : Tot := if e.kind = 2 then { t with dirs := t.dirs + 1 } else if e.kind = 1 then { t with files := t.files + 1 } else { t with links := t.links + 1 }
theorem totStep_eq (t : Tot) (e : Tn) (h : ¬ 0 ≤ e.same) : totStep t e = { totK t e with bytes := t.bytes + e.data.length } := by
  unfold totStep totK
  rw [if_neg h]
  split
  · rfl
  · split <;> rfl
end Go.Den
namespace Go.Proofs.YtiahkkekcmgkfaaDoor
theorem agg_pT : aggN Tryd.prog 39 = some 5 := by kernel_rfl
theorem alloc_pT (w : World) : (Instr.alloc 39 true (.tuple #[])).run Tryd.prog w = .ok (.pointer (some ⟨w.heap.size, 0, none⟩)) (w.alloc (.cells ⟨TotV tot0 0⟩ 39)) := by kernel_rfl
theorem build_pT0 : Al (Instr.build 39 #[]) (.agg ⟨TotV tot0 0⟩) := fun w => by kernel_rfl
theorem build_pT (n : Int) : Al (Instr.build 39 #[(3, .int .i64 n)]) (.agg ⟨TotV tot0 n⟩) := fun w => by kernel_rfl
section
variable {w : World} {K : Value → World → Prop}
theorem tot_store {g j : Nat} {t : Tot} {n v : Int} {T : TypeId} (hT : scal Tryd.prog T = true) (h : AtU w g 0 (TotV t n)) (hj : j < 5) :
    ∃ w', RuU (Instr.storeAt T (.pointer (some (Addr.add ⟨g, 0, none⟩ j))) (.int .i64 v)) w w' ∧ AtU w' g 0 ((TotV t n).set j (.int .i64 v)) ∧ Mod (fun x => x = g) w w' := by
  obtain ⟨w', h1, h2, h3, _⟩ := h.store (P := Tryd.prog) (T := T) (i := j) (v := .int .i64 v) hT (by simpa [TotV] using hj) rfl
  exact ⟨w', by rw [add_none]; exact h1, h2, h3⟩
theorem tot_load {g j : Nat} {t : Tot} {n : Int} {T : TypeId} {v : Value} (hT : scal Tryd.prog T = true) (h : At w g 0 (TotV t n)) (hj : (TotV t n)[j]? = some v) : Ru (Instr.loadAt T (.pointer (some (Addr.add ⟨g, 0, none⟩ j)))) w v w := by
  rw [add_none]; exact h.load hT hj
theorem tot_put {g : Nat} {t u : Tot} {n m : Int} {T : TypeId} (hT : aggN Tryd.prog T = some 5) (h : AtU w g 0 (TotV t n)) :
    ∃ w', RuU (Instr.storeAt T (.pointer (some ⟨g, 0, none⟩)) (.agg ⟨TotV u m⟩)) w w' ∧ At w' g 0 (TotV u m) ∧ Mod (fun x => x = g) w w' := by
  obtain ⟨w', h1, h2, h3, _⟩ := h.storeAgg (P := Tryd.prog) (T := T) (i := 0) (n := 5) (vs := TotV u m) hT rfl (by simp [TotV]) (one_TotV u m)
  refine ⟨w', h1, ?_, h3⟩
  have e : splice (TotV t n) 0 (TotV u m) = TotV u m := by unfold splice; simp [TotV]
  rw [e] at h2; exact h2.at
theorem tot_get {g : Nat} {t : Tot} {n : Int} {T : TypeId} (hT : aggN Tryd.prog T = some 5) (h : At w g 0 (TotV t n)) : Ru (Instr.loadAt T (.pointer (some ⟨g, 0, none⟩))) w (.agg ⟨TotV t n⟩) w :=
  h.loadAgg (P := Tryd.prog) (i := 0) hT (by simp [TotV])
theorem Sum_c {a : Option Addr} {l : List Tn} {c : Nat} (hP : PE w a l) (hbd : BdE l) (hn : l.length ≤ 1000) (hc : l.length ≤ c) (hg : Gl w)
    (hbad : ¬ RightL l → ∀ w', Mod No w w' → K (.tuple #[.agg ⟨TotV tot0 0⟩, .int .i64 1]) w')
    (hok : RightL l → ∀ w', Mod No w w' → K (.tuple #[.agg ⟨TotV (tot l) ((l.length : Int) - 1)⟩, .int .i64 0]) w') : Cal Tryd.prog F_diff_Sum #[.slice a l.length c] w K := by
  apply C_diff_Sum
  unfold D_diff_Sum
  let w1 := w.alloc (.cells ⟨TotV tot0 0⟩ 39)
  have m1 : Mod No w w1 := (Mod.refl No w).alloc _
  have hs1 : w1.heap.size = w.heap.size + 1 := World.size_alloc _ _
  have hq2 : AtU w1 w.heap.size 0 (TotV tot0 0) := AtU.new
  refine ⟨_, w1, alloc_pT w, dRight_c (hP.nos m1) hbd hn hc (hg.nos m1) fun w2 b m2 hb => ⟨_, rfl, cond_of (fun h => ?_) (fun h => ?_)⟩⟩
  · have h : b = false := by simpa using h
    obtain ⟨w3, s1, s2, s3⟩ := tot_put (u := tot0) (m := 0) agg_pT (hq2.keep m2 id)
    refine ⟨_, build_pT0, w3, s1, _, tot_get agg_pT s2, hbad (fun hr => ?_) _ ((m1.no m2).trans s3 fun x hx e => by omega)⟩
    have := hb.2 hr; rw [h] at this; cases this
  have h : b = true := by simpa using h
  have hR := hb.1 h
  have hlpos : 0 < l.length := by
    obtain ⟨e, he, _⟩ := hR.1
    exact (List.getElem?_eq_some_iff.1 he).1
  rw [wrap64 (by omega) (by omega)]
  let w4 := w2.alloc (.cells ⟨TotV tot0 0⟩ 39)
  have m4 : Mod No w2 w4 := (Mod.refl No w2).alloc _
  have hs4 : w4.heap.size = w2.heap.size + 1 := World.size_alloc _ _
  have hq4 : AtU w4 w2.heap.size 0 (TotV tot0 0) := AtU.new
  have h5 := hq4.storeAgg (P := Tryd.prog) (T := 39) (i := 0) (n := 5) (vs := TotV tot0 ((l.length : Int) - 1)) agg_pT rfl (by simp [TotV]) (one_TotV _ _)
  obtain ⟨w5, s1, s2, s3, _⟩ := h5
  have e5 : splice (TotV tot0 0) 0 (TotV tot0 ((l.length : Int) - 1)) = TotV tot0 ((l.length : Int) - 1) := by unfold splice; simp [TotV]
  rw [e5] at s2
  have hg2 : w1.heap.size ≤ w2.heap.size := m2.size
  have M5 : Mod No w w5 := ((m1.no m2).no m4).trans s3 fun x hx e => by omega
  have hq25 : AtU w5 w.heap.size 0 (TotV tot0 0) := (((hq2.keep m2 id).keep m4 id).keep s3 (by omega))
  refine ⟨_, build_pT _, _, w4, alloc_pT w2, w5, s1, ?_⟩
  refine ⟨fun z w6 => Mod No w w6 ∧ ∃ n : Nat, n ≤ l.length ∧ z = [.int .i64 n] ∧ AtU w6 w.heap.size 0 (TotV tot0 0) ∧ AtU w6 w2.heap.size 0 (TotV (tot (l.take n)) ((l.length : Int) - 1)), fun z _ => (l.length - nI z 0).toNat, ⟨M5, 0, Nat.zero_le _, rfl, hq25, s2⟩, ?_⟩
  clear s1 s2 s3 hq25 M5 hq4
  rintro z w6 ⟨m6, n, hnl, rfl, hz2, hz4⟩
  refine ⟨_, rfl, cond_of (fun h2 => ?_) (fun h2 => ?_)⟩
  · have h2 := of_decide_eq_true h2
    have hnx : n < l.length := by omega
    have he : l[n]? = some l[n] := List.getElem?_eq_getElem hnx
    have htt := tot_take he
    have hbnd := tot_bounds hR hn n (by omega)
    generalize l[n] = e at he htt
    have hbe := (RightTo.one hR hnx he).2.2.1
    obtain ⟨g, o, hd, rfl, ix, lq, la, _, _⟩ := PE.at (hP.nos m6) he
    obtain ⟨w7, w8, c1, c2, hat, m8⟩ := copy_pE (w := w6) (z := (e, hd)) (T := 64) rfl
    have ld : ∀ (j : Nat) (T : TypeId) (v : Value), scal Tryd.prog T = true → (pV (e, hd))[j]? = some v → ∀ w', At w' w6.heap.size 0 (pV (e, hd)) → Ru (Instr.loadAt T (.pointer (some (Addr.add ⟨w6.heap.size, 0, none⟩ j)))) w' v w' := fun j T v hT hj w' m => by
      rw [add_none]; exact m.load hT hj
    have hsz6 := hz4.lt
    have hsz2 := hz2.lt
    have hne : w.heap.size ≠ w2.heap.size := by omega
    rw [wrap64 (x := (n : Int) + 1) (by omega) (by omega)]
    refine Share.cut (fun z w15 => z = [] ∧ Mod No w w15 ∧ AtU w15 w.heap.size 0 (TotV tot0 0) ∧ AtU w15 w2.heap.size 0 (TotV (tot (l.take (n + 1))) ((l.length : Int) - 1)))
      ⟨_, ix l.length c hnx, _, la _ (Mod.refl _ _), _, w7, c1, w8, c2, _, ld 4 3 (.int .i64 e.same) (by kernel_rfl) rfl _ hat, cond_of (fun h3 => ?_) (fun h3 => ⟨_, ld 1 3 (.int .i64 e.kind) (by kernel_rfl) rfl _ hat, ?_⟩)⟩
      (fun z w15 h => by obtain ⟨rfl, h1, h2, h3⟩ := h; exact ⟨⟨h1, n + 1, by omega, rfl, h2, h3⟩, by simp [nI, nth]; omega⟩)
    · have h3 := of_decide_eq_true h3
      have : tot (l.take (n + 1)) = tot (l.take n) := by rw [htt]; unfold totStep; rw [if_pos h3]
      rw [this]
      exact ⟨rfl, m6.no m8, hz2.keep m8 id, hz4.keep m8 id⟩
    · have h3 := of_decide_eq_false h3
      rw [totStep_eq _ _ h3] at htt
      have hz4' : AtU w8 w2.heap.size 0 (TotV (tot (l.take n)) ((l.length : Int) - 1)) := hz4.keep m8 id
      have hz2' : AtU w8 w.heap.size 0 (TotV tot0 0) := hz2.keep m8 id
      generalize tot (l.take n) = t at *
      refine Share.cut (fun z w13 => z = [] ∧ Mod (fun x => x = w2.heap.size) w8 w13 ∧ AtU w13 w2.heap.size 0 (TotV (totK t e) ((l.length : Int) - 1))) ?_ ?_
      · rw [beq_int]
        refine cond_of (fun h4 => ?_) (fun h4 => ⟨_, ld 1 3 (.int .i64 e.kind) (by kernel_rfl) rfl _ hat, Share.cut (fun z w12 => z = [] ∧ Mod (fun x => x = w2.heap.size) w8 w12 ∧ AtU w12 w2.heap.size 0 (TotV (totK t e) ((l.length : Int) - 1))) (cond_of (fun h5 => ?_) (fun h5 => ?_)) (fun z w12 h => ⟨rfl, h.2⟩)⟩)
        · have h4 := of_decide_eq_true h4
          obtain ⟨w9, t1, t2, t3⟩ := tot_store (T := 3) (j := 0) (v := t.dirs + 1) (by kernel_rfl) hz4' (by omega)
          refine ⟨_, tot_load (by kernel_rfl) hz4'.at rfl, w9, by rw [wrap64 (by omega) (by omega)]; exact t1, rfl, t3, ?_⟩
          unfold totK; rw [if_pos h4]; exact t2
        · have h4 := of_decide_eq_false h4
          rw [beq_int] at h5
          have h5 := of_decide_eq_true h5
          obtain ⟨w9, t1, t2, t3⟩ := tot_store (T := 3) (j := 1) (v := t.files + 1) (by kernel_rfl) hz4' (by omega)
          refine ⟨_, tot_load (by kernel_rfl) hz4'.at rfl, w9, by rw [wrap64 (by omega) (by omega)]; exact t1, rfl, t3, ?_⟩
          unfold totK; rw [if_neg h4, if_pos h5]; exact t2
        · have h4 := of_decide_eq_false h4
          rw [beq_int] at h5
          have h5 := of_decide_eq_false h5
          obtain ⟨w9, t1, t2, t3⟩ := tot_store (T := 3) (j := 2) (v := t.links + 1) (by kernel_rfl) hz4' (by omega)
          refine ⟨_, tot_load (by kernel_rfl) hz4'.at rfl, w9, by rw [wrap64 (by omega) (by omega)]; exact t1, rfl, t3, ?_⟩
          unfold totK; rw [if_neg h4, if_neg h5]; exact t2
      rintro z w13 ⟨rfl, m13, hz13⟩
      have hat13 : At w13 w6.heap.size 0 (pV (e, hd)) := hat.keep m13 (by omega)
      obtain ⟨w14, t1, t2, t3⟩ := tot_store (T := 2) (j := 4) (v := t.bytes + e.data.length) (by kernel_rfl) hz13 (by omega)
      have hbt : (totK t e).bytes = t.bytes := by unfold totK; split; rfl; split <;> rfl
      refine ⟨_, tot_load (T := 2) (v := .int .i64 t.bytes) (by kernel_rfl) hz13.at (by rw [← hbt]; rfl), _, _, _, ld 3 62 (.slice hd.1 e.data.length hd.2) (by kernel_rfl) rfl _ hat13, w14, ?_, rfl, ?_, ?_, ?_⟩
      · rw [wrap64 (by omega) (by omega)]; exact t1
      · refine ((m6.no m8).trans m13 fun x hx e => ?_).trans t3 fun x hx e => ?_
        · omega
        · omega
      · exact (hz2'.keep m13 (by omega)).keep t3 (by omega)
      · rw [htt]; exact t2
  · have h2 := of_decide_eq_false h2
    have hnl2 : n = l.length := by omega
    subst hnl2
    rw [List.take_length] at hz4
    obtain ⟨w16, t1, t2, t3⟩ := tot_put (u := tot l) (m := (l.length : Int) - 1) agg_pT hz2
    exact ⟨_, tot_get agg_pT hz4.at, w16, t1, _, tot_get agg_pT t2, hok hR _ (m6.trans t3 fun x hx e => by omega)⟩
end
end Go.Proofs.YtiahkkekcmgkfaaDoor
end
section
/- Maps with int keys in memory: lookup with a word on whether it is there, delete. -/
open Go Go.Den
namespace Go.Den
section
variable {P : Program} {w : World}
theorem look2_run {T : TypeId} {z : Value} {m : Nat} {L : List (Int × Value)} {k : Int} (hT : mapZ P T = some z) (h : MapAt w m L) :
    (Instr.lookup T (.map (some m)) (.int .i64 k) true).run P w = .ok (.tuple #[(lookupL L k).getD z, .bool (lookupL L k).isSome]) w := by
  obtain ⟨kt, e, i, h1, h2, h3, h4⟩ := mapZ_is hT
  obtain ⟨Es, c, g1, rfl, _⟩ := h
  have hl := findE_look k Es 0
  have hzero : (zeroValue e).run P w = .ok z w := by simp [zeroValue, typeInfo, h3, h4]
  simp only [Instr.lookup, Sem.run_bind, run_und h1, Result.andThen_ok, run_getMap g1, Sem.run_pure, run_checkKey h2, run_findKey h2]
  cases hf : findE k Es 0 with
  | none =>
    rw [hf] at hl
    simp only [Option.map_none] at hl
    simp [← hl, hzero]
  | some r =>
    rw [hf] at hl
    simp only [Option.map_some] at hl
    simp [← hl]
end
end Go.Den
end
section
/- The library's slices functions that layer 10 calls: clones, what a row has; num.Diff. -/
open Go Go.Den Go.Proofs
namespace Go.Proofs.YtiahkkekcmgkfaaDoor
section
variable {w : World} {K : Value → World → Prop}
theorem nil_bytes : Al (eqS .eql 62 (.tmp 3) (.const (.slice none 0 0)) (.slice none 0 0) (.slice none 0 0)) (.bool true) := fun _ => by kernel_rfl
theorem some_bytes (a : Addr) (l c : Nat) : Al (eqS .eql 62 (.tmp 3) (.const (.slice none 0 0)) (.slice (some a) l c) (.slice none 0 0)) (.bool false) := fun _ => by kernel_rfl
theorem builtB0 (w : World) : (Instr.buildSlice 62 0 #[]).run Tryd.prog w = .ok (.slice (some ⟨w.heap.size, 0, none⟩) 0 0) (w.alloc (.cells #[] 5)) := by kernel_rfl
theorem own_empty {T e : TypeId} {k : Nat} (hu : Tryd.prog.underlying T = some (.slice e)) : Own Tryd.prog (w.alloc (.cells #[] e)) w.heap.size T k (some ⟨w.heap.size, 0, none⟩) 0 0 [] :=
  ⟨_, hu, by simp, .inr ⟨w.heap.size, 0, #[], rfl, Nat.le_refl _, heap_new w _, Nat.le_refl _, Nat.zero_le _, by simp, by simp⟩⟩
theorem CloneB_c {a : Option Addr} {l c : Nat} {xs : List UInt8} (hr : Row w a (u8L xs)) (hl : xs.length = l) (h0 : a = none → l = 0 ∧ c = 0) (h63 : l ≤ 1000000000)
    (hk : ∀ w' a' c', Own Tryd.prog w' w.heap.size 62 1 a' l c' (u8L xs) → Mod No w w' → K (.slice a' l c') w') : Cal Tryd.prog F_slices_Clone_byte #[.slice a l c] w K := by
  apply C_slices_Clone_byte
  unfold D_slices_Clone_byte
  cases a with
  | none =>
    obtain ⟨rfl, rfl⟩ := h0 rfl
    have hx : xs = [] := List.eq_nil_of_length_eq_zero hl
    subst hx
    exact ⟨_, nil_bytes, tt rfl (hk w none 0 (Own.nil elemZ_bytes) (Mod.refl _ _))⟩
  | some q =>
    refine ⟨_, some_bytes _ _ _, ff rfl ⟨_, _, _, _, builtB0 w, ?_⟩⟩
    have m1 : Mod No w (w.alloc (.cells #[] 5)) := (Mod.refl No w).alloc _
    have hu : Tryd.prog.underlying 62 = some (.slice 5) := by kernel_rfl
    obtain ⟨a', c', w2, h2, o2, m2⟩ := (own_empty (w := w) (k := 1) hu).append (ty := 62) elemZ_bytes (by omega) (a2 := some q) (m := l) (c2 := c) (ys := u8L xs) (hr.nos m1) (by simp [hl]) (fun e => by cases e) (one_u8L xs) (by omega) (by omega) (by simp)
    rw [Nat.zero_add, List.nil_append] at *
    exact ⟨_, _, _, w2, h2, hk w2 a' c' o2 (m1.up m2 (Nat.le_refl _))⟩
end
end Go.Proofs.YtiahkkekcmgkfaaDoor
end
section
/- Layer 34: what stands below a path. -/
open Go Go.Den Go.Proofs
namespace Go.Den
theorem lookupL_putL (k k' : Int) (v : Value) : ∀ L : List (Int × Value), lookupL (putL k v L) k' = if k' = k then some v else lookupL L k'
  | [] => by
    show (if k = k' then some v else none) = _
    by_cases e : k' = k
    · rw [if_pos e, if_pos e.symm]
    · rw [if_neg e, if_neg (fun h => e h.symm)]; rfl
  | p :: r => by
    unfold putL
    by_cases h : p.1 = k
    · rw [if_pos h]
      show (if k = k' then some v else lookupL r k') = if k' = k then some v else (if p.1 = k' then some p.2 else lookupL r k')
      by_cases e : k' = k
      · rw [if_pos e, if_pos e.symm]
      · rw [if_neg e, if_neg (fun h => e h.symm), if_neg (fun h2 => e (h2.symm.trans h))]
    · rw [if_neg h]
      show (if p.1 = k' then some p.2 else lookupL (putL k v r) k') = if k' = k then some v else (if p.1 = k' then some p.2 else lookupL r k')
      rw [lookupL_putL k k' v r]
      by_cases e : k' = k
      · rw [if_pos e, if_pos e, if_neg (fun h2 => h (h2.trans e))]
      · rw [if_neg e, if_neg e]
end Go.Den
namespace Go.Proofs.YtiahkkekcmgkfaaDoor
theorem mapZ_met : mapZ Tryd.prog 75 = some (.int .i64 0) := by kernel_rfl
theorem build_bE (s : ByteArray) (n : Int) : Al (Instr.build 64 #[(0, .string s), (1, .int .i64 n), (4, .int .i64 (-1))]) (.agg ⟨[.string s, .int .i64 n, .string ByteArray.empty, .slice none 0 0, .int .i64 (-1)]⟩) := fun w => by kernel_rfl
/-- Entries in a row of one's own that grows. -/
structure PO (w : World) (base : Nat) (a : Option Addr) (c : Nat) (Z : List (Tn × Option Addr × Nat)) : Prop where
  own : Own Tryd.prog w base 28 5 a Z.length c (Z.map pV).flatten
  rows : ∀ z ∈ Z, Row w z.2.1 (u8L z.1.data) ∧ (z.2.1 = none → z.1.data = [] ∧ z.2.2 = 0) ∧ ∀ d, z.2.1 = some d → base ≤ d.block ∧ d.block < w.heap.size ∧ ∀ q, a = some q → d.block ≠ q.block
section
variable {w : World} {K : Value → World → Prop}
theorem PO.nil {base : Nat} : PO w base none 0 [] := ⟨Own.nilG elemG_pE, by simp⟩
theorem PO.keep {base c : Nat} {a : Option Addr} {Z : List (Tn × Option Addr × Nat)} {S : Nat → Prop} {w' : World} (h : PO w base a c Z) (m : Mod S w w') (hs : ∀ x, base ≤ x → x < w.heap.size → ¬ S x) : PO w' base a c Z := by
  refine ⟨h.own.keep m fun q hq => hs _ (h.own.base hq).1 (h.own.base hq).2, fun z hz => ?_⟩
  obtain ⟨h1, h2, h3⟩ := h.rows z hz
  refine ⟨h1.keep m fun q hq => hs _ (h3 q hq).1 (h3 q hq).2.1, h2, fun d hd => ?_⟩
  obtain ⟨h4, h5, h6⟩ := h3 d hd
  exact ⟨h4, Nat.lt_of_lt_of_le h5 m.size, h6⟩
theorem PO.nos {base c : Nat} {a : Option Addr} {Z : List (Tn × Option Addr × Nat)} {w' : World} (h : PO w base a c Z) (m : Mod No w w') : PO w' base a c Z := h.keep m fun _ _ _ => id
theorem PO.pe {base c : Nat} {a : Option Addr} {Z : List (Tn × Option Addr × Nat)} {l : List Tn} (h : PO w base a c Z) (hl : Z.map (·.1) = l) : PE w a l := ⟨Z, hl, h.own.rowU.row, fun z hz => ⟨(h.rows z hz).1, (h.rows z hz).2.1⟩⟩
/-- An entry more. -/
theorem PO.push {base c : Nat} {a : Option Addr} {Z : List (Tn × Option Addr × Nat)} (h : PO w base a c Z) (hb : base ≤ w.heap.size) (hl : Z.length ≤ 100000) (z : Tn × Option Addr × Nat) (hr : Row w z.2.1 (u8L z.1.data)) (h0 : z.2.1 = none → z.1.data = [] ∧ z.2.2 = 0)
    (hd : ∀ d, z.2.1 = some d → base ≤ d.block ∧ d.block < w.heap.size ∧ ∀ q, a = some q → d.block ≠ q.block) :
    ∃ (a' : Option Addr) (l' c' : Nat) (w1 : World), Ru (Instr.buildSlice 28 1 #[(0, .agg ⟨pV z⟩)]) w (.slice a' l' c') w1 ∧ ∃ a2 c2 w2, Ru (Builtin.append_ #[28, 28] 28 #[.slice a Z.length c, .slice a' l' c']) w1 (.slice a2 (Z.length + 1) c2) w2 ∧
      PO w2 base a2 c2 (Z ++ [z]) ∧ Mod (fun x => base ≤ x ∧ x < w.heap.size) w w2 := by
  have m1 : Mod No w (w.alloc (.cells ⟨pV z⟩ 64)) := (Mod.refl No w).alloc _
  have hs1 : (w.alloc (.cells ⟨pV z⟩ 64)).heap.size = w.heap.size + 1 := World.size_alloc _ _
  obtain ⟨q, c2, w2, a1, a2, a3, a4⟩ := (h.own.nos m1).appG (ty := 28) elemG_pE (by omega) (ad := ⟨w.heap.size, 0, none⟩) (m := 1) (c2 := 1) (ys := pV z) (.inr ⟨_, _, rfl, AtU.new.at⟩) rfl (by omega) (one_pV z) (by omega) (by omega) (Nat.le_trans hb m1.size)
  have hq := a2.base rfl
  refine ⟨_, _, _, _, built_pE w z, some q, c2, w2, a1, ⟨?_, fun y hy => ?_⟩, (m1.mono fun _ _ h => h.elim).trans a3 fun y hy e => ?_⟩
  · rw [List.map_append, List.flatten_append, List.length_append]
    have : ([z].map pV).flatten = pV z := by simp
    rw [this]; exact a2
  · have key : ∀ y : Tn × Option Addr × Nat, (Row w y.2.1 (u8L y.1.data) ∧ (y.2.1 = none → y.1.data = [] ∧ y.2.2 = 0) ∧ ∀ d, y.2.1 = some d → base ≤ d.block ∧ d.block < w.heap.size ∧ ∀ q, a = some q → d.block ≠ q.block) →
        Row w2 y.2.1 (u8L y.1.data) ∧ (y.2.1 = none → y.1.data = [] ∧ y.2.2 = 0) ∧ ∀ d, y.2.1 = some d → base ≤ d.block ∧ d.block < w2.heap.size ∧ ∀ q', some q = some q' → d.block ≠ q'.block := by
      rintro y ⟨k1, k2, k3⟩
      refine ⟨(k1.nos m1).keep a3 fun q' hq' ⟨q2, e1, e2⟩ => (k3 q' hq').2.2 q2 e1 e2, k2, fun d hd => ?_⟩
      obtain ⟨k4, k5, k6⟩ := k3 d hd
      refine ⟨k4, Nat.lt_of_lt_of_le k5 (Nat.le_trans m1.size a3.size), fun q' e => ?_⟩
      cases e
      rcases a4 with ⟨q2, e1, e2⟩ | e1
      · rw [e2]; exact k6 q2 e1
      · omega
    rcases List.mem_append.1 hy with hy | hy
    · exact key y (h.rows y hy)
    · rw [List.mem_singleton] at hy; subst hy
      exact key y ⟨hr, h0, hd⟩
  · obtain ⟨q2, e1, e2⟩ := e
    rw [e2]; exact h.own.base e1
theorem IndexE_c {a : Option Addr} {l : List Tn} {x : Bs} {c : Nat} {v : Value} (hP : PE w a l) (hn : l.length ≤ 1000) (hv : ∀ w', Mod No w w' → ∀ (e : Tn) (hd : Option Addr × Nat) (K : Value → World → Prop), (∀ w'', Mod No w' w'' → K (.bool (decide (e.path = x))) w'') → Dyn Tryd.prog v #[.agg ⟨pV (e, hd)⟩] w' K)
    (hk : ∀ w' (n : Int), Mod No w w' → ((n = -1 ∧ ∀ e ∈ l, e.path ≠ x) ∨ ∃ (i : Nat) (e : Tn), n = i ∧ l[i]? = some e ∧ e.path = x) → K (.int .i64 n) w') : Cal Tryd.prog F_slices_IndexFunc_dump_Entry #[.slice a l.length c, v] w K := by
  apply C_slices_IndexFunc_dump_Entry
  unfold D_slices_IndexFunc_dump_Entry
  refine ⟨fun z w1 => Mod No w w1 ∧ ∃ n : Nat, n ≤ l.length ∧ z = [.int .i64 n] ∧ ∀ e ∈ l.take n, e.path ≠ x, fun z _ => (l.length - nI z 0).toNat, ⟨Mod.refl _ _, 0, Nat.zero_le _, rfl, by simp⟩, ?_⟩
  rintro z w1 ⟨m1, n, hnl, rfl, hno⟩
  refine ⟨_, rfl, cond_of (fun h => ?_) (fun h => ?_)⟩
  · have h := of_decide_eq_true h
    have hnx : n < l.length := by omega
    have he : l[n]? = some l[n] := List.getElem?_eq_getElem hnx
    have htk : l.take (n + 1) = l.take n ++ [l[n]] := List.take_succ_eq_append_getElem hnx
    generalize l[n] = e at he htk
    obtain ⟨g, o, hd, rfl, ix, lq, la, _⟩ := PE.at (hP.nos m1) he
    refine ⟨_, ix _ _ hnx, _, la _ (Mod.refl _ _), hv w1 m1 e hd _ fun w2 m2 => ⟨_, rfl, cond_of (fun h2 => ?_) (fun h2 => ?_)⟩⟩
    · exact hk _ _ (m1.no m2) (.inr ⟨n, e, rfl, he, of_decide_eq_true h2⟩)
    · have h2 := of_decide_eq_false h2
      rw [wrap64 (by omega) (by omega)]
      refine ⟨⟨m1.no m2, n + 1, by omega, rfl, fun e' he' => ?_⟩, by simp [nI, nth]; omega⟩
      rw [htk, List.mem_append, List.mem_singleton] at he'
      rcases he' with he' | rfl
      · exact hno e' he'
      · exact h2
  · have h := of_decide_eq_false h
    refine hk _ _ m1 (.inl ⟨rfl, fun e he => hno e ?_⟩)
    rw [List.take_of_length_le (by omega)]; exact he
theorem Below1_c {x : Bs} {g : Nat} {e : Tn} {hd : Option Addr × Nat} (hx : At w g 0 [.string (sB x)]) (hk : ∀ w', Mod No w w' → K (.bool (decide (e.path = x))) w') : Cal Tryd.prog F_diff_Below_1 #[.agg ⟨pV (e, hd)⟩, .pointer (some ⟨g, 0, none⟩)] w K := by
  apply C_diff_Below_1
  unfold D_diff_Below_1
  obtain ⟨w1, hbx, hat, m1, _⟩ := box_at (P := Tryd.prog) (w := w) (T := 64) (cs := pV (e, hd))
  refine ⟨_, w1, hbx, sB e.path, by rw [add_none]; exact hat.load (by kernel_rfl) rfl, sB x, (hx.keep m1 id).load (i := 0) (by kernel_rfl) rfl, ?_⟩
  rw [beq_sB]
  exact hk _ m1
theorem restOf_prefix (x p : Bs) : restOf x p = if x.isPrefixOf p = true ∧ (p.drop x.length = [] ∨ (p.drop x.length).head? = some 47) then some (p.drop x.length) else none := by
  unfold restOf
  by_cases h : x.isPrefixOf p = true
  · rw [if_pos h]
    by_cases h2 : p.drop x.length = [] ∨ (p.drop x.length).head? = some 47
    · rw [if_pos h2, if_pos ⟨h, h2⟩]
    · rw [if_neg h2, if_neg (fun h3 => h2 h3.2)]
  · rw [if_neg h, if_neg (fun h3 => h h3.1)]
set_option maxRecDepth 100000 in
theorem Below_c {a : Option Addr} {l : List Tn} {x : Bs} {c : Nat} (hP : PE w a l) (hbd : BdE l) (hn : l.length ≤ 1000) (hc : l.length ≤ c) (hg : Gl w)
    (hbad : ¬ RightL l → ∀ w', Mod No w w' → K (.tuple #[.slice none 0 0, .int .i64 1]) w')
    (hnone : RightL l → (¬ ∃ t ∈ l, t.path = x ∧ t.kind = 2) → ∀ w', Mod No w w' → K (.tuple #[.slice none 0 0, .int .i64 20]) w')
    (hok : RightL l → (∃ t ∈ l, t.path = x ∧ t.kind = 2) → ∀ w' a' c', Mod No w w' → PE w' a' (bel l x l.length).out → (bel l x l.length).out.length ≤ c' → K (.tuple #[.slice a' (bel l x l.length).out.length c', .int .i64 0]) w') :
    Cal Tryd.prog F_diff_Below #[.slice a l.length c, .string (sB x)] w K := by
  apply C_diff_Below
  unfold D_diff_Below
  have hsx := sB_size x
  let w1 := w.alloc (.cells ⟨[.string (sB x)]⟩ 9)
  have m1 : Mod No w w1 := (Mod.refl No w).alloc _
  have hs1 : w1.heap.size = w.heap.size + 1 := World.size_alloc _ _
  have hx1 : At w1 w.heap.size 0 [.string (sB x)] := AtU.new.at
  refine ⟨_, w1, box_run, dRight_c (hP.nos m1) hbd hn hc (hg.nos m1) fun w2 b m2 hb => ⟨_, rfl, cond_of (fun h => ?_) (fun h => ?_)⟩⟩
  · have h : b = false := by simpa using h
    refine hbad (fun hr => ?_) _ (m1.no m2)
    have := hb.2 hr; rw [h] at this; cases this
  have h : b = true := by simpa using h
  have hR := hb.1 h
  refine IndexE_c (x := x) ((hP.nos m1).nos m2) hn (fun w' m' e hd K' hK' => Dyn_of (Below1_c (hx1.keep (m2.no m') id) hK')) fun w3 n m3 hn3 => ⟨_, rfl, ?_⟩
  have M3 := (m1.no m2).no m3
  have hx3 : At w3 w.heap.size 0 [.string (sB x)] := hx1.keep (m2.no m3) id
  refine Share.cut (fun z w4 => w4 = w3 ∧ ∃ b, z = [.bool b] ∧ (b = true ↔ ¬ ∃ (t : Tn), l[n.toNat]? = some t ∧ 0 ≤ n ∧ t.path = x ∧ t.kind = 2)) (cond_of (fun h2 => ⟨rfl, vyes ?_⟩) (fun h2 => ?_)) ?_
  · have h2 := of_decide_eq_true h2
    rintro ⟨t, _, h3, _⟩
    omega
  · have h2 := of_decide_eq_false h2
    obtain ⟨i, e, rfl, he, hex⟩ := hn3.resolve_left (fun h3 => by omega)
    obtain ⟨g, o, hd, rfl, ix, lq, _⟩ := PE.at (hP.nos M3) he
    refine ⟨_, ix _ _ (List.getElem?_eq_some_iff.1 he).1, _, lq 1 3 (.int .i64 e.kind) (by kernel_rfl) rfl _ (Mod.refl _ _), rfl, viff ?_⟩
    rw [bne_int, decide_eq_true_eq, Int.toNat_natCast]
    constructor
    · rintro h3 ⟨t, h4, _, _, h5⟩
      rw [he] at h4; cases h4
      exact h3 h5
    · exact fun h3 h4 => h3 ⟨e, he, by omega, hex, h4⟩
  rintro z w4 ⟨rfl, b2, rfl, hb2⟩
  refine ⟨_, rfl, cond_of (fun h2 => ?_) (fun h2 => ?_)⟩
  · refine hnone hR (fun ⟨t, ht, htx, htk⟩ => ?_) _ M3
    refine hb2.1 h2 ?_
    rcases hn3 with ⟨_, h3⟩ | ⟨i, e, rfl, he, hex⟩
    · exact absurd htx (h3 t ht)
    · obtain ⟨k, hk⟩ := List.mem_iff_getElem?.1 ht
      have hki : k = i := by
        have hlk := (List.getElem?_eq_some_iff.1 hk).1
        have hli := (List.getElem?_eq_some_iff.1 he).1
        rcases Nat.lt_trichotomy k i with h4 | h4 | h4
        · have := RightTo.asc hR h4 hli hk he
          rw [htx, hex] at this; exact absurd this (ord_irr _)
        · exact h4
        · have := RightTo.asc hR h4 hlk he hk
          rw [htx, hex] at this; exact absurd this (ord_irr _)
      subst hki
      rw [he] at hk; cases hk
      exact ⟨t, by rw [Int.toNat_natCast]; exact he, by omega, htx, htk⟩
  obtain ⟨t, htop, hn0, htx, htk⟩ : ∃ (t : Tn), l[n.toNat]? = some t ∧ 0 ≤ n ∧ t.path = x ∧ t.kind = 2 := Classical.not_not.1 fun hn => by
    have := hb2.2 hn; rw [h2] at this; cases this
  obtain ⟨top, rfl⟩ : ∃ top : Nat, n = top := ⟨n.toNat, by omega⟩
  rw [Int.toNat_natCast] at htop
  have htl := (List.getElem?_eq_some_iff.1 htop).1
  have hbt := bel_top hR htop htx top (Nat.le_refl _)
  let w5 := w4.alloc (.map #[] 0)
  have m5 : Mod No w4 w5 := (Mod.refl No w4).alloc _
  have hs5 : w5.heap.size = w4.heap.size + 1 := World.size_alloc _ _
  have hw4 := M3.size
  have hx3lt := hx3.lt
  refine ⟨_, w5, makeMap_run, fun z w6 => Mod No w w6 ∧ w5.heap.size ≤ w6.heap.size ∧ At w6 w.heap.size 0 [.string (sB x)] ∧ ∃ (i : Nat) (Z : List (Tn × Option Addr × Nat)) (a' : Option Addr) (c' : Nat) (y : Value) (L : List (Int × Value)), top ≤ i ∧ i ≤ l.length ∧ z = [.slice a' Z.length c', .int .i64 i, y] ∧ Z.map (·.1) = (bel l x i).out ∧
      PO w6 w5.heap.size a' c' Z ∧ MapAt w6 w4.heap.size L ∧ ∀ k : Nat, lookupL L k = if 0 ≤ atI k ((bel l x i).src.map (thingI l)) 0 then some (.int .i64 (atI k ((bel l x i).src.map (thingI l)) 0)) else none, fun z _ => (l.length - nI z 1).toNat,
    ⟨M3.no m5, Nat.le_refl _, hx3.keep m5 id, top, [], none, 0, _, [], Nat.le_refl _, by omega, rfl, by rw [hbt]; rfl, PO.nil, MapAt.new, fun k => by rw [hbt]; rfl⟩, ?_⟩
  rintro z w6 ⟨m6, hs6, hx6, i, Z, a', c', y, L, hti, hil, rfl, hZ, hPO, hmap, hL⟩
  refine ⟨_, rfl, cond_of (fun h3 => ?_) (fun h3 => ?_)⟩
  · have h3 := of_decide_eq_true h3
    have hix : i < l.length := by omega
    have he : l[i]? = some l[i] := List.getElem?_eq_getElem hix
    generalize l[i] = e at he
    have hone := RightTo.one hR hix he
    obtain ⟨qt, hqt, hqk, hqi, _⟩ := hone.thing he
    have hzl : Z.length ≤ i := by
      have h4 := congrArg List.length hZ
      have h5 := bel_inv hR x i (by omega)
      have h6 : (bel l x i).src.length ≤ i := by
        have : ∀ j, j ≤ l.length → (bel l x j).src.length ≤ j := by
          intro j
          induction j with
          | zero => intro _; simp [bel]
          | succ j ih =>
            intro hj
            have := ih (by omega)
            show (belStep l x (bel l x j) j).src.length ≤ _
            unfold belStep
            split
            · omega
            · split
              · omega
              · split
                · omega
                · simp; omega
        exact this i (by omega)
      rw [List.length_map, h5.len] at h4
      omega
    obtain ⟨g, o, hd, rfl, ix, lq, _⟩ := PE.at (hP.nos m6) he
    have ix := ix l.length c hix
    have rd := (Mod.refl No w6).drew
    have lx : Ru (Instr.loadAt 9 (.pointer (some ⟨w.heap.size, 0, none⟩))) (drew w6) (.string (sB x)) (drew w6) := (hx6.keep rd id).load (i := 0) (by kernel_rfl) rfl
    have hbi := bel_inv hR x i (by omega)
    have hzs : Z.length = (bel l x i).src.length := by
      have h4 := congrArg List.length hZ
      rw [List.length_map, hbi.len] at h4
      exact h4
    refine Share.cut (fun z w20 => Mod No w w20 ∧ w5.heap.size ≤ w20.heap.size ∧ At w20 w.heap.size 0 [.string (sB x)] ∧ ∃ (Z : List (Tn × Option Addr × Nat)) (a' : Option Addr) (c' : Nat) (y : Value) (L : List (Int × Value)), z = [.slice a' Z.length c', y] ∧ Z.map (·.1) = (bel l x (i + 1)).out ∧
      PO w20 w5.heap.size a' c' Z ∧ MapAt w20 w4.heap.size L ∧ ∀ k : Nat, lookupL L k = if 0 ≤ atI k ((bel l x (i + 1)).src.map (thingI l)) 0 then some (.int .i64 (atI k ((bel l x (i + 1)).src.map (thingI l)) 0)) else none)
      ⟨_, ix, _, lq 0 9 (.string (sB e.path)) (by kernel_rfl) rfl _ rd, _, lx, CutPrefix_c ⟨_, _, rfl, Share.cut (fun z w8 => w8 = drew w6 ∧ z = [.bool (restOf x e.path).isNone]) ?_ ?_⟩⟩ ?_
    · rw [restOf_prefix]
      refine cond_of (fun h4 => ⟨rfl, ?_⟩) (fun h4 => ?_)
      · have h4 : x.isPrefixOf e.path = false := by simpa using h4
        rw [h4]; simp
      · have h4 : x.isPrefixOf e.path = true := by simpa using h4
        rw [h4, if_pos rfl, beq_empty]
        refine cond_of (fun h5 => ?_) (fun h5 => ⟨rfl, ?_⟩)
        · have h5 : e.path.drop x.length ≠ [] := by simpa using h5
          cases hdp : e.path.drop x.length with
          | nil => exact absurd hdp h5
          | cons c0 r =>
            refine ⟨_, ix_run (x := c0 :: r) (i := 0) rfl, rfl, ?_⟩
            rw [bne_47]
            by_cases h6 : c0 = 47
            · simp [h6]
            · simp [h6]
        · have h5 : e.path.drop x.length = [] := by simpa using h5
          rw [h5]; simp
    · rintro z w8 ⟨rfl, rfl⟩
      refine ⟨_, rfl, cond_of (fun h4 => ?_) (fun h4 => ?_)⟩
      · have h4 : restOf x e.path = none := Option.isNone_iff_eq_none.1 h4
        rw [bel_skip he h4]
        exact ⟨m6.no rd, hs6, hx6.keep rd id, Z, a', c', _, L, rfl, hZ, hPO.nos rd, hmap.drew, hL⟩
      · obtain ⟨r, hr⟩ : ∃ r, restOf x e.path = some r := Option.isSome_iff_exists.1 (by cases h5 : restOf x e.path with | none => rw [h5] at h4; cases h4 | some r => rfl)
        have hpre : x.isPrefixOf e.path = true ∧ e.path.drop x.length = r := by
          rw [restOf_prefix] at hr
          split at hr
          · rename_i h5; exact ⟨h5.1, by simpa using hr⟩
          · cases hr
        rw [hpre.1, if_pos rfl, hpre.2]
        have hstep := bel_step he hr hqt
        let w11 := (drew w6).alloc (.cells ⟨[.string (sB r), .int .i64 e.kind, .string ByteArray.empty, .slice none 0 0, .int .i64 (-1)]⟩ 64)
        have m11 : Mod No w6 w11 := rd.alloc _
        have hs11 : w11.heap.size = w6.heap.size + 1 := World.size_alloc _ _
        have hst : RuU (Instr.storeAt 64 (.pointer (some ⟨w6.heap.size, 0, none⟩)) (.agg ⟨[.string (sB r), .int .i64 e.kind, .string ByteArray.empty, .slice none 0 0, .int .i64 (-1)]⟩)) ((drew w6).alloc (.cells ⟨zPE⟩ 64)) w11 :=
          store_new (T := 64) (n := 5) agg_pE rfl rfl (one_pV (⟨r, e.kind, [], [], -1⟩, (none, 0)))
        have hat : AtU w11 w6.heap.size 0 [.string (sB r), .int .i64 e.kind, .string ByteArray.empty, .slice none 0 0, .int .i64 (-1)] := AtU.new
        have hlk := look2_run (P := Tryd.prog) (k := (thingI l i : Int)) mapZ_met (hmap.keep m11 id)
        have hmlt := hmap.lt
        have hxlt := hx6.lt
        refine thing_c ((hP.nos m6).nos rd) he ⟨_, rfl, _, ix, _, lq 1 3 (.int .i64 e.kind) (by kernel_rfl) rfl _ rd, _, build_bE _ _, _, _, alloc_pE (drew w6), w11, hst, ?_⟩
        have hLk := hL (thingI l i)
        obtain ⟨a0, ha0⟩ : ∃ a0, a0 = atI (thingI l i) ((bel l x i).src.map (thingI l)) 0 := ⟨_, rfl⟩
        rw [← ha0] at hstep hLk
        obtain ⟨zz, hzz⟩ : ∃ zz, zz = mkE e r qt a0 := ⟨_, rfl⟩
        rw [← hzz] at hstep
        obtain ⟨J5, hJ5⟩ : ∃ J5 : World → Prop, J5 = fun w17 => (Mod (fun y => y = w4.heap.size) w6 w17 ∧ ∃ (hd' : Option Addr × Nat) (L' : List (Int × Value)), At w17 w6.heap.size 0 (pV (zz, hd')) ∧ Row w17 hd'.1 (u8L zz.data) ∧
            (hd'.1 = none → zz.data = [] ∧ hd'.2 = 0) ∧ (∀ d, hd'.1 = some d → w6.heap.size ≤ d.block ∧ d.block < w17.heap.size) ∧ MapAt w17 w4.heap.size L' ∧
            ∀ k : Nat, lookupL L' k = if 0 ≤ atI k ((bel l x (i + 1)).src.map (thingI l)) 0 then some (.int .i64 (atI k ((bel l x (i + 1)).src.map (thingI l)) 0)) else none) := ⟨_, rfl⟩
        have fin : ∀ w17, J5 w17 →
            ∃ (a7_2 : Option Addr) (l7_2 c7_2 : Nat), nth [Value.slice a' Z.length c', .int .i64 i, y] 0 = .slice a7_2 l7_2 c7_2 ∧ ∃ g98 : Array Value, Ru (Instr.loadAt 64 (.pointer (some ⟨w6.heap.size, 0, none⟩))) w17 (.agg g98) w17 ∧ ∃ (a99 : Option Addr) (l99 c99 : Nat), ∃ w18 : World, Ru (Instr.buildSlice 28 1 #[(0, .agg g98)]) w17 (.slice a99 l99 c99) w18 ∧ ∃ (a100 : Option Addr) (l100 c100 : Nat), ∃ w19 : World, Ru (Builtin.append_ #[28, 28] 28 #[.slice a7_2 l7_2 c7_2, .slice a99 l99 c99]) w18 (.slice a100 l100 c100) w19 ∧
            (Mod No w w19 ∧ w5.heap.size ≤ w19.heap.size ∧ At w19 w.heap.size 0 [.string (sB x)] ∧ ∃ (Z : List (Tn × Option Addr × Nat)) (a' : Option Addr) (c' : Nat) (y : Value) (L : List (Int × Value)), [Value.slice a100 l100 c100, .bool (restOf x e.path).isNone] = [.slice a' Z.length c', y] ∧ Z.map (·.1) = (bel l x (i + 1)).out ∧
              PO w19 w5.heap.size a' c' Z ∧ MapAt w19 w4.heap.size L ∧ ∀ k : Nat, lookupL L k = if 0 ≤ atI k ((bel l x (i + 1)).src.map (thingI l)) 0 then some (.int .i64 (atI k ((bel l x (i + 1)).src.map (thingI l)) 0)) else none) := by
          intro w17 h17
          rw [hJ5] at h17
          obtain ⟨m17, hd', L', k1, k2, k3, k4, k5, k6⟩ := h17
          have hs17 := m17.size
          have hPO17 := hPO.keep m17 fun y h5 h6 h7 => by omega
          obtain ⟨a1, l1, c1, w18, p1, a2, c2, w19, p2, p3, p4⟩ := hPO17.push (by omega) (by omega) (zz, hd') k2 k3 fun d hd2 => ⟨by have := (k4 d hd2).1; omega, (k4 d hd2).2, fun q hq => by have := (hPO.own.base hq).2; have := (k4 d hd2).1; omega⟩
          refine ⟨_, _, _, rfl, _, k1.loadAgg (P := Tryd.prog) (i := 0) agg_pE (by simp [pV]), a1, l1, c1, w18, p1, a2, _, c2, w19, p2, ?_, ?_, ?_, Z ++ [(zz, hd')], a2, c2, .bool (restOf x e.path).isNone, L', ?_, ?_, p3, k5.keep p4 (by omega), k6⟩
          · exact (m6.trans m17 fun y hy e2 => by omega).trans p4 fun y hy e2 => by omega
          · have := p4.size; omega
          · exact (hx6.keep m17 (by omega)).keep p4 (by omega)
          · rw [List.length_append, List.length_singleton]
          · rw [List.map_append, hZ, hstep]; rfl
        have hsrc : (bel l x (i + 1)).src.map (thingI l) = (bel l x i).src.map (thingI l) ++ [thingI l i] := by rw [hstep]; simp
        have hwl : ((bel l x i).src.map (thingI l)).length = Z.length := by rw [List.length_map]; exact hzs.symm
        by_cases h0 : 0 ≤ a0
        · rw [hLk, if_pos h0] at hlk
          have hlk' : Ru (Instr.lookup 75 (.map (some w4.heap.size)) (.int .i64 (thingI l i)) true) w11 (.tuple #[.int .i64 a0, .bool true]) w11 := hlk
          refine ⟨_, _, hlk', Share.cut (fun z w17 => z = [] ∧ J5 w17) (tt rfl ?_) fun z w17 h => fin w17 h.2⟩
          obtain ⟨w12, t1, t2, t3, _⟩ := hat.store (P := Tryd.prog) (T := 3) (i := 4) (v := .int .i64 a0) (by kernel_rfl) (by simp) rfl
          rw [Nat.zero_add] at t1
          have hze : zz = ⟨r, e.kind, [], [], a0⟩ := by rw [hzz]; unfold mkE; rw [if_neg (by omega)]
          refine ⟨w12, by rw [add_none, Nat.zero_add]; exact t1, rfl, ?_⟩
          rw [hJ5]
          refine ⟨(m11.mono fun _ _ h => h.elim).trans t3 fun y hy e2 => by omega, (none, 0), L, ?_, ?_, ?_, fun d hd2 => (by cases hd2), (hmap.keep m11 id).keep t3 (by omega), fun k => ?_⟩
          · rw [hze]; exact t2.at
          · rw [hze]; exact .inl rfl
          · rw [hze]; exact fun _ => ⟨rfl, rfl⟩
          · rw [hL k, hsrc, atI_app]
            by_cases h5 : 0 ≤ atI k ((bel l x i).src.map (thingI l)) 0
            · rw [if_pos h5, if_pos h5, if_pos h5]
            · have h7 : thingI l i ≠ k := fun h6 => h5 (by rw [← h6, ← ha0]; exact h0)
              rw [if_neg h5, if_neg h5, if_neg h7, if_neg (by omega)]
        · rw [hLk, if_neg h0] at hlk
          have hlk' : Ru (Instr.lookup 75 (.map (some w4.heap.size)) (.int .i64 (thingI l i)) true) w11 (.tuple #[.int .i64 0, .bool false]) w11 := hlk
          refine ⟨_, _, hlk', Share.cut (fun z w17 => z = [] ∧ J5 w17) (ff rfl ?_) fun z w17 h => fin w17 h.2⟩
          obtain ⟨w13, u1, u2, u3, _⟩ := update_run (P := Tryd.prog) (T := 75) (k := (thingI l i : Int)) (v := .int .i64 (Z.length : Int)) mapZ_met (hmap.keep m11 id)
          have hze : zz = ⟨r, e.kind, qt.link, qt.data, -1⟩ := by rw [hzz]; unfold mkE; rw [if_pos (by omega)]
          have M13 : Mod No w w13 := (m6.no m11).trans u3 fun y hy e2 => by omega
          have m13 : Mod (fun y => y = w4.heap.size) w6 w13 := (m11.mono fun _ _ h => h.elim).trans u3 fun y hy e2 => e2
          obtain ⟨g2, o2, hd2, hga, ix2, lq2, _, hr2, hn2⟩ := PE.at (hP.nos M13) hqt
          cases hga
          have ix2 := ix2 l.length c (by omega)
          have rd13 := (Mod.refl No w13).drew
          have hqd := (RightTo.one hR (by omega : thingI l i < l.length) hqt).2.2.1
          refine ⟨_, _, _, rfl, w13, u1, _, ix2, _, lq2 2 9 (.string (sB qt.link)) (by kernel_rfl) rfl _ rd13, _, ix2, _, _, _, lq2 3 62 (.slice hd2.1 qt.data.length hd2.2) (by kernel_rfl) rfl _ rd13,
            CloneB_c (hr2.nos rd13) rfl (fun h5 => ⟨by rw [(hn2 h5).1]; rfl, (hn2 h5).2⟩) (by omega) fun w14 a94 c94 o94 m14 => ⟨_, _, _, rfl, lq2 2 9 (.string (sB qt.link)) (by kernel_rfl) rfl _ (rd13.no m14), ?_⟩⟩
          have hat14 : AtU w14 w6.heap.size 0 [.string (sB r), .int .i64 e.kind, .string ByteArray.empty, .slice none 0 0, .int .i64 (-1)] := (hat.keep u3 (by omega)).keep (rd13.no m14) id
          obtain ⟨w15, t1, t2, t3, _⟩ := hat14.store (P := Tryd.prog) (T := 9) (i := 2) (v := .string (sB qt.link)) (by kernel_rfl) (by simp) rfl
          obtain ⟨w16, v1, v2, v3, _⟩ := t2.store (P := Tryd.prog) (T := 62) (i := 3) (v := .slice a94 qt.data.length c94) (by kernel_rfl) (by simp) rfl
          rw [Nat.zero_add] at t1 v1
          have hs13 : w11.heap.size ≤ w13.heap.size := u3.size
          have hob : ∀ {d}, a94 = some d → w13.heap.size ≤ d.block ∧ d.block < w14.heap.size := fun hd3 => o94.base hd3
          have m16 : Mod (fun y => y = w6.heap.size) w14 w16 := t3.trans v3 fun y hy e2 => e2
          refine ⟨w15, by rw [add_none, Nat.zero_add]; exact t1, w16, by rw [add_none, Nat.zero_add]; exact v1, rfl, ?_⟩
          rw [hJ5]
          refine ⟨(m13.no (rd13.no m14)).trans m16 fun y hy e2 => by omega, (a94, c94), putL (thingI l i) (.int .i64 (Z.length : Int)) L, ?_, ?_, ?_, fun d hd3 => ?_, ((u2.drew).keep m14 id).keep m16 (by omega), fun k => ?_⟩
          · rw [hze]; exact v2.at
          · rw [hze]
            exact o94.rowU.row.keep m16 fun q hq e2 => by have := (hob hq).1; omega
          · rw [hze]
            intro h5
            have h5 : a94 = none := h5
            subst h5
            have h6 := o94.zero
            exact ⟨List.eq_nil_of_length_eq_zero h6.1, h6.2⟩
          · have h6 := hob hd3
            have := m16.size
            omega
          · rw [lookupL_putL, hL k, hsrc, atI_app, hwl, Nat.zero_add]
            by_cases h5 : k = thingI l i
            · subst h5
              rw [if_pos rfl, ← ha0, if_neg h0, if_pos rfl, if_pos (by omega)]
            · rw [if_neg (by omega)]
              by_cases h6 : 0 ≤ atI k ((bel l x i).src.map (thingI l)) 0
              · rw [if_pos h6, if_pos h6, if_pos h6]
              · have h8 : thingI l i ≠ k := fun h7 => h5 h7.symm
                rw [if_neg h6, if_neg h6, if_neg h8, if_neg (by omega)]
    · rintro z w20 ⟨m20, hs20, hx20, Z2, a2, c2, y2, L2, rfl, hZ2, hPO2, hmap2, hL2⟩
      rw [wrap64 (by omega) (by omega)]
      exact ⟨⟨m20, hs20, hx20, i + 1, Z2, a2, c2, _, L2, by omega, by omega, rfl, hZ2, hPO2, hmap2, hL2⟩, by simp [nI, nth]; omega⟩
  · have h3 := of_decide_eq_false h3
    have hil2 : i = l.length := by omega
    subst hil2
    have hzl : Z.length = (bel l x l.length).out.length := by rw [← hZ, List.length_map]
    have hcap := hPO.own.cap.1
    refine ⟨_, _, _, rfl, ?_⟩
    rw [hzl] at hcap ⊢
    exact hok hR ⟨t, List.mem_of_getElem? htop, htx, htk⟩ w6 a' c' m6 (hPO.pe hZ) hcap
end
end Go.Proofs.YtiahkkekcmgkfaaDoor
end
section
/- Layer 34: is a name as a pattern says? -/
open Go Go.Den Go.Proofs
namespace Go.Proofs.YtiahkkekcmgkfaaDoor
theorem beq_u8 (c d : UInt8) : (((c.toNat : Int)) == (d.toNat : Int)) = decide (c = d) := by
  rw [Bool.eq_iff_iff, beq_iff_eq, decide_eq_true_eq]
  exact ⟨fun h => UInt8.toNat_inj.1 (by omega), fun h => by rw [h]⟩
theorem meas_lt {A B A' B' n : Nat} (hB : B' ≤ n) (h : (A' ≤ A ∧ B' < B) ∨ A' < A) : A' * (n + 2) + B' < A * (n + 2) + B := by
  rcases h with ⟨h1, h2⟩ | h1
  · have := Nat.mul_le_mul_right (n + 2) h1; omega
  · have := Nat.mul_le_mul_right (n + 2) (show A' + 1 ≤ A from h1)
    rw [Nat.add_mul] at this
    omega
theorem dw_nil {p : UInt8 → Bool} : ∀ {l : List UInt8}, l.dropWhile p = [] ↔ ∀ x ∈ l, p x = true
  | [] => by simp
  | a :: r => by
    rw [List.dropWhile_cons]
    cases h : p a with
    | true =>
      rw [if_pos rfl, dw_nil]
      constructor
      · intro h1 x hx
        rcases List.mem_cons.1 hx with rfl | hx
        · exact h
        · exact h1 x hx
      · exact fun h1 x hx => h1 x (List.mem_cons_of_mem _ hx)
    | false =>
      rw [if_neg (by simp)]
      constructor
      · intro e; cases e
      · intro h1
        have := h1 a List.mem_cons_self
        rw [h] at this; cases this
theorem trimB_nil {l : List UInt8} {c : UInt8} : Lib.trimB l c = [] ↔ ∀ x ∈ l, x = c := by
  unfold Lib.trimB Lib.trimLeftB Lib.trimRightB
  constructor
  · intro h
    have h1 : ∀ x ∈ (l.reverse.dropWhile (· == c)).reverse, x = c := fun x hx => by
      have := dw_nil.1 h x hx
      simpa using this
    cases hd : l.reverse.dropWhile (· == c) with
    | nil =>
      intro x hx
      have := dw_nil.1 hd x (List.mem_reverse.2 hx)
      simpa using this
    | cons d r =>
      exfalso
      have h2 := h1 d (by rw [hd]; simp)
      have h3 : ((l.reverse.dropWhile (· == c)).head (by rw [hd]; simp) == c) = false := List.head_dropWhile_not (· == c) (by rw [hd]; simp)
      have h4 : (l.reverse.dropWhile (· == c)).head (by rw [hd]; simp) = d := by simp [hd]
      rw [h4, h2] at h3
      simp at h3
  · intro h
    have : l.reverse.dropWhile (· == c) = [] := dw_nil.2 fun x hx => by simp [h x (List.mem_reverse.1 hx)]
    rw [this]; rfl
section
variable {w w' : World} {K : Value → World → Prop}
theorem match_c {s0 s1 : ByteArray} (h0 : s0.size ≤ 1000) (h1 : s1.size ≤ 4611686018427387904) (hk : ∀ w' b, Mod No w w' → (b = true ↔ Mt s0.data.toList s1.data.toList) → K (.bool b) w') : Cal Tryd.prog F_diff_match #[.string s0, .string s1] w K := by
  apply C_diff_match
  unfold D_diff_match
  have e0 : s0.size = s0.data.toList.length := rfl
  have e1 : s1.size = s1.data.toList.length := rfl
  rw [e0] at h0
  rw [e1] at h1
  have ix : ∀ {s : ByteArray} {i : Nat} {c : UInt8}, s.data.toList[i]? = some c → Al (Instr.index 9 (.string s) (.int .i64 i)) (.int .u8 (c.toNat : Int)) := fun {s i c} h w => by
    obtain ⟨hi, e⟩ := List.getElem?_eq_some_iff.1 h
    have hi2 : i < s.size := hi
    rw [run_index_string w _ s .i64 i (by kernel_rfl), dif_pos ⟨by omega, by omega⟩]
    have : s[(i : Int).toNat]'(by omega) = c := by rw [← e]; rfl
    rw [this]
  refine ⟨fun x w1 => ∃ (p k sr frm : Nat) (st : Bool) (y4 y5 : Value), x = [.int .i64 p, .int .i64 k, .int .i64 (if st = true then (sr : Int) else -1), .int .i64 frm, y4, y5] ∧ Gw s0.data.toList s1.data.toList p k sr frm st ∧ Mod No w w1,
    fun x _ => (s1.size + 1 - (if nI x 2 < 0 then 0 else (nI x 3).toNat + 1)) * (s0.size + 2) + (s0.size - (nI x 0).toNat), ⟨0, 0, 0, 0, false, _, _, rfl, Gw.start _ _ _ _, Mod.refl _ _⟩, ?_⟩
  rintro x w1 ⟨p, k, sr, frm, st, y4, y5, rfl, g, m1⟩
  have hp := g.hp
  have hkl := g.hk
  have ix0 : ∀ {i : Nat} {c : UInt8}, s0.data.toList[i]? = some c → Al (Instr.index 9 (.string s0) (.int .i64 i)) (.int .u8 (c.toNat : Int)) := ix
  have ix1 : ∀ {i : Nat} {c : UInt8}, s1.data.toList[i]? = some c → Al (Instr.index 9 (.string s1) (.int .i64 i)) (.int .u8 (c.toNat : Int)) := ix
  clear ix
  have hS : s1.size = s1.data.toList.length := e1
  have hP : s0.size = s0.data.toList.length := e0
  generalize hPd : s0.data.toList = P at *
  generalize s1.data.toList = S at *
  refine ⟨_, rfl, cond_of (fun hb => ?_) (fun hb => ?_)⟩
  · have hkk : k < S.length := by have := of_decide_eq_true hb; omega
    have hx : S[k]? = some S[k] := List.getElem?_eq_getElem hkk
    generalize S[k] = x at *
    refine Share.cut (fun z w2 => w1 = w2 ∧ z = [.bool (decide (P[p]? = some 42))]) ⟨_, rfl, cond_of (fun hb1 => ?_) (fun hb1 => ⟨rfl, ?_⟩)⟩ ?_
    · have hpp : p < P.length := by have := of_decide_eq_true hb1; omega
      refine ⟨_, ix0 (List.getElem?_eq_getElem hpp), rfl, ?_⟩
      rw [List.getElem?_eq_getElem hpp]
      have := beq_u8 P[p] 42
      refine congrArg (fun b => [Value.bool b]) ?_
      rw [show ((P[p].toNat : Int) == 42) = ((P[p].toNat : Int) == ((42 : UInt8).toNat : Int)) from rfl, this]
      simp
    · have hpp : ¬ p < P.length := by have := of_decide_eq_false hb1; omega
      rw [List.getElem?_eq_none (by omega)]; rfl
    rintro z w2 ⟨rfl, rfl⟩
    refine ⟨_, rfl, Share.dup (cond_of (fun hb1 => ?_) (fun hb1 => ?_))⟩
    · have hc : P[p]? = some 42 := of_decide_eq_true hb1
      have hpp := (List.getElem?_eq_some_iff.1 hc).1
      refine ⟨_, rfl, ?_⟩
      rw [wrap64 (x := (p : Int) + 1) (by omega) (by omega)]
      refine ⟨⟨p + 1, k, p, k, true, _, _, rfl, g.aStar hc, m1⟩, ?_⟩
      show (s1.size + 1 - (if ((p : Nat) : Int) < 0 then 0 else ((k : Nat) : Int).toNat + 1)) * (s0.size + 2) + (s0.size - (((p + 1 : Nat) : Int)).toNat) < (s1.size + 1 - (if (if st = true then (sr : Int) else -1) < 0 then 0 else ((frm : Nat) : Int).toNat + 1)) * (s0.size + 2) + (s0.size - ((p : Nat) : Int).toNat)
      refine meas_lt (by omega) (.inl ⟨?_, by omega⟩)
      rw [if_neg (by omega)]
      cases st with
      | false =>
        have e : (if (if false = true then (sr : Int) else -1) < 0 then 0 else ((frm : Nat) : Int).toNat + 1) = 0 := by simp
        rw [e]; omega
      | true =>
        obtain ⟨_, _, y3, _⟩ := g.yes rfl
        rw [if_pos rfl, if_neg (by omega)]; omega
    · have hnc : P[p]? ≠ some 42 := of_decide_eq_false hb1
      refine Share.cut (fun z w3 => Mod No w1 w3 ∧ z = [.bool (match P[p]? with | some c => decide (c = 63) || decide (c = x) | none => false)]) ⟨_, rfl, cond_of (fun hb2 => ?_) (fun hb2 => ⟨(Mod.refl No w1).drew, ?_⟩)⟩ ?_
      · have hpp : p < P.length := by have := of_decide_eq_true hb2; omega
        have hc : P[p]? = some P[p] := List.getElem?_eq_getElem hpp
        refine ⟨_, ix0 hc, cond_of (fun hb3 => ⟨(Mod.refl No w1).drew, ?_⟩) (fun hb3 => ⟨_, ix0 hc, _, ix1 hx, (Mod.refl No w1).drew, ?_⟩)⟩
        · rw [hc]
          have := beq_u8 P[p] 63
          have hb3 : ((P[p].toNat : Int) == ((63 : UInt8).toNat : Int)) = true := hb3
          rw [this] at hb3
          show _ = [Value.bool (decide (P[p] = 63) || decide (P[p] = x))]
          rw [hb3]; rfl
        · rw [hc]
          have := beq_u8 P[p] 63
          have hb3 : ((P[p].toNat : Int) == ((63 : UInt8).toNat : Int)) = false := hb3
          rw [this] at hb3
          show _ = [Value.bool (decide (P[p] = 63) || decide (P[p] = x))]
          rw [hb3, Bool.false_or, beq_u8]
      · have hpp : ¬ p < P.length := by have := of_decide_eq_false hb2; omega
        rw [List.getElem?_eq_none (by omega)]
      rintro z w3 ⟨m3, rfl⟩
      have M3 := m1.no m3
      refine ⟨_, rfl, Share.dup (cond_of (fun hb2 => ?_) (fun hb2 => ?_))⟩
      · cases hc : P[p]? with
        | none => rw [hc] at hb2; cases hb2
        | some c =>
          rw [hc] at hb2
          have ho : c = 63 ∨ c = x := by simpa using hb2
          have hpp := (List.getElem?_eq_some_iff.1 hc).1
          refine ⟨_, rfl, ?_⟩
          rw [wrap64 (x := (p : Int) + 1) (by omega) (by omega), wrap64 (x := (k : Int) + 1) (by omega) (by omega)]
          refine ⟨⟨p + 1, k + 1, sr, frm, st, _, _, rfl, g.byte hc hx (fun e => hnc (by rw [hc, e])) ho, M3⟩, ?_⟩
          show (s1.size + 1 - (if (if st = true then (sr : Int) else -1) < 0 then 0 else ((frm : Nat) : Int).toNat + 1)) * (s0.size + 2) + (s0.size - (((p + 1 : Nat) : Int)).toNat) < (s1.size + 1 - (if (if st = true then (sr : Int) else -1) < 0 then 0 else ((frm : Nat) : Int).toNat + 1)) * (s0.size + 2) + (s0.size - ((p : Nat) : Int).toNat)
          exact meas_lt (by omega) (.inl ⟨Nat.le_refl _, by omega⟩)
      · have hno : ∀ c, P[p]? = some c → c ≠ 42 ∧ ¬ (c = 63 ∨ c = x) := fun c hc => ⟨fun e => hnc (by rw [hc, e]), fun e => by
          rw [hc] at hb2
          have hb2 : (decide (c = 63) || decide (c = x)) = false := hb2
          have : (decide (c = 63) || decide (c = x)) = true := by simpa using e
          rw [this] at hb2; cases hb2⟩
        cases st with
        | false =>
          refine ⟨_, rfl, ff rfl (hk _ false M3 ⟨fun e => (by cases e), fun e => absurd e (g.fail hx hno)⟩)⟩
        | true =>
          obtain ⟨y1, y2, y3, _⟩ := g.yes rfl
          refine ⟨_, rfl, tt (decide_eq_true (by simp)) ⟨_, rfl, ?_⟩⟩
          rw [if_pos rfl, wrap64 (x := (sr : Int) + 1) (by omega) (by omega), wrap64 (x := (frm : Int) + 1) (by omega) (by omega)]
          refine ⟨⟨sr + 1, frm + 1, sr, frm + 1, true, _, _, rfl, g.back hx hno, M3⟩, ?_⟩
          show (s1.size + 1 - (if ((sr : Nat) : Int) < 0 then 0 else (((frm + 1 : Nat) : Int)).toNat + 1)) * (s0.size + 2) + (s0.size - (((sr + 1 : Nat) : Int)).toNat) < (s1.size + 1 - (if ((sr : Nat) : Int) < 0 then 0 else ((frm : Nat) : Int).toNat + 1)) * (s0.size + 2) + (s0.size - ((p : Nat) : Int).toNat)
          refine meas_lt (by omega) (.inr ?_)
          rw [if_neg (by omega), if_neg (by omega)]
          omega
  · have hkk : k = S.length := by have := of_decide_eq_false hb; omega
    have hd := g.done hkk
    have hext : (s0.extract p s0.size).data.toList = P.drop p := by
      rw [ByteArray.data_extract, Array.toList_extract, hPd, hP, List.extract_eq_take_drop]
      rw [List.take_of_length_le (by rw [List.length_drop]; omega)]
    have hsz : (s0.extract p s0.size).size ≤ 9223372036854775807 := by
      have e : (s0.extract p s0.size).size = (s0.extract p s0.size).data.toList.length := rfl
      rw [e, hext, List.length_drop]; omega
    refine ⟨_, rfl, s0.extract p s0.size, fun w => ?_, ⟨⟨_, Tryd.func56, by kernel_rfl, by kernel_rfl⟩, (Tryd.strings_Trim_one _ 42 (by decide) w1 hsz).mono fun e w' he => ?_⟩⟩
    · rw [run_sliceAt_string (h := by kernel_rfl), run_slice_string_from_if w _ s0 .i64 p (by kernel_rfl), if_pos ⟨by omega, by omega⟩]
      rfl
    · obtain ⟨rfl, hw⟩ := he
      refine ⟨_, rfl, ?_⟩
      have m2 : Mod No w w' := by
        rcases hw with rfl | rfl
        · exact m1
        · exact m1.drew
      refine hk w' _ m2 ?_
      rw [hext, hd, ← trimB_nil]
      have e0 : (ByteArray.mk (Lib.trimB (P.drop p) 42).toArray).toList = Lib.trimB (P.drop p) 42 := by rw [ByteArray.toList_eq]
      have e1 : ByteArray.empty.toList = [] := by rw [ByteArray.toList_eq]; rfl
      rw [e0, e1, beq_iff_eq]
end
end Go.Proofs.YtiahkkekcmgkfaaDoor
end
section
/- Layer 34: the paths whose last names are as a pattern says. -/
open Go Go.Den Go.Proofs
namespace Go.Den
/-- A path's last name. -/
def lastN (s : Bs) : Bs := (s.reverse.takeWhile fun c => decide (c ≠ 47)).reverse
theorem takeWhile_all {p : UInt8 → Bool} : ∀ {l r : Bs} {c : UInt8}, (∀ x ∈ l, p x = true) → p c = false → (l ++ c :: r).takeWhile p = l
  | [], r, c, _, hc => by rw [List.nil_append, List.takeWhile_cons, hc]; rfl
  | a :: l, r, c, h, hc => by
    rw [List.cons_append, List.takeWhile_cons, h a (by simp), if_pos rfl, takeWhile_all (fun x hx => h x (List.mem_cons_of_mem _ hx)) hc]
theorem Cut.last {s d n : Bs} (h : Cut s d n) : lastN s = n := by
  unfold lastN
  rw [h.1, List.reverse_append, List.reverse_cons, List.append_assoc]
  have : ([47] ++ d.reverse : Bs) = 47 :: d.reverse := rfl
  rw [this, takeWhile_all (fun x hx => ?_) (by simp), List.reverse_reverse]
  have hx : x ∈ n := List.mem_reverse.1 hx
  exact decide_eq_true fun e => h.2 (by rw [← e]; exact hx)
noncomputable def hitB (pat : Bs) (e : Tn) : Bool := @decide (Mt pat (lastN e.path)) (Classical.propDecidable _)
theorem hitB_iff {pat : Bs} {e : Tn} : hitB pat e = true ↔ Mt pat (lastN e.path) := by unfold hitB; exact @decide_eq_true_iff _ (Classical.propDecidable _)
/-- The paths, among the first entries. -/
noncomputable def fnd (pat : Bs) (l : List Tn) (n : Nat) : List Bs := (((l.take n).drop 1).filter (hitB pat)).map (·.path)
theorem fnd_one (pat : Bs) (l : List Tn) : fnd pat l 1 = [] := by
  unfold fnd
  have : (l.take 1).drop 1 = [] := List.drop_eq_nil_of_le (by rw [List.length_take]; omega)
  rw [this]; rfl
theorem fnd_succ {pat : Bs} {l : List Tn} {n : Nat} {e : Tn} (h : l[n]? = some e) (hn : 1 ≤ n) : fnd pat l (n + 1) = fnd pat l n ++ (if hitB pat e = true then [e.path] else []) := by
  obtain ⟨hi, he⟩ := List.getElem?_eq_some_iff.1 h
  unfold fnd
  have e1 : (l.take (n + 1)).drop 1 = (l.take n).drop 1 ++ [e] := by
    rw [List.take_succ_eq_append_getElem hi, he, List.drop_append, List.length_take, show 1 - min n l.length = 0 by omega]; rfl
  rw [e1, List.filter_append, List.map_append]
  congr 1
  cases hb : hitB pat e <;> simp [hb]
theorem fnd_len (pat : Bs) (l : List Tn) (n : Nat) : (fnd pat l n).length ≤ n := by
  unfold fnd
  rw [List.length_map]
  refine Nat.le_trans (List.length_filter_le _ _) ?_
  rw [List.length_drop, List.length_take]; omega
theorem LastAt.cut {x d n : Bs} {k : Int} (h : LastAt x 47 k) (hc : Cut x d n) : ∃ i : Nat, k = i ∧ i + 1 ≤ x.length ∧ x.drop (i + 1) = n := by
  rcases h with ⟨_, h⟩ | ⟨i, rfl, h1, h2⟩
  · exact absurd (by rw [hc.1]; simp) h
  · have h3 := cut_at h1 h2
    have := (List.getElem?_eq_some_iff.1 h1).1
    exact ⟨i, rfl, by omega, (h3.inj hc).2⟩
theorem RightL.cut {l : List Tn} (h : RightL l) {i : Nat} {e : Tn} (h1 : 1 ≤ i) (he : l[i]? = some e) : ∃ d n, Cut e.path d n ∧ n.length ≤ 24 := by
  obtain ⟨p, e', _, he', ⟨d, n, hc, _, hn⟩, _⟩ := h.2 i h1 (List.getElem?_eq_some_iff.1 he).1
  rw [he] at he'; cases he'
  exact ⟨d, n, hc, (nameB_len hn).2⟩
end Go.Den
namespace Go.Proofs.YtiahkkekcmgkfaaDoor
section
variable {w : World} {K : Value → World → Prop}
theorem Find_c {a : Option Addr} {l : List Tn} {x : Bs} {c : Nat} (hP : PE w a l) (hbd : BdE l) (hn : l.length ≤ 1000) (hc : l.length ≤ c) (hg : Gl w)
    (hbad : ¬ RightL l → ∀ w', Mod No w w' → K (.tuple #[.slice none 0 0, .int .i64 1]) w')
    (hnone : RightL l → ¬ (1 ≤ x.length ∧ x.length ≤ 40) → ∀ w', Mod No w w' → K (.tuple #[.slice none 0 0, .int .i64 25]) w')
    (hok : RightL l → 1 ≤ x.length → x.length ≤ 40 → ∀ w' a' c', Mod No w w' → Row w' a' (sL (fnd x l l.length)) → K (.tuple #[.slice a' (fnd x l l.length).length c', .int .i64 0]) w') :
    Cal Tryd.prog F_diff_Find #[.slice a l.length c, .string (sB x)] w K := by
  apply C_diff_Find
  unfold D_diff_Find
  have hsx := sB_size x
  refine dRight_c hP hbd hn hc hg fun w1 b m1 hb => ⟨_, rfl, cond_of (fun h => ?_) (fun h => ?_)⟩
  · have h : b = false := by simpa using h
    refine hbad (fun hr => ?_) _ m1
    have := hb.2 hr; rw [h] at this; cases this
  have h : b = true := by simpa using h
  have hR := hb.1 h
  refine Share.cut (fun z w2 => w2 = w1 ∧ z = [.bool (decide (¬ (1 ≤ x.length ∧ x.length ≤ 40)))]) ?_ ?_
  · rw [beq_empty, hsx]
    refine cond_of (fun h2 => ⟨rfl, ?_⟩) (fun h2 => ⟨rfl, ?_⟩)
    · have := of_decide_eq_true h2; subst this; simp
    · have := of_decide_eq_false h2
      have : 1 ≤ x.length := by cases x with | nil => exact absurd rfl this | cons a r => simp
      congr 2
      rw [Bool.eq_iff_iff, decide_eq_true_eq, decide_eq_true_eq]; omega
  rintro z w2 ⟨rfl, rfl⟩
  refine ⟨_, rfl, cond_of (fun h2 => ?_) (fun h2 => ?_)⟩
  · exact hnone hR (of_decide_eq_true h2) _ m1
  have hx := Classical.not_not.1 (of_decide_eq_false h2)
  have hlpos : 0 < l.length := by
    obtain ⟨e, he, _⟩ := hR.1
    exact (List.getElem?_eq_some_iff.1 he).1
  have hsl := fun w => slice_l (P := Tryd.prog) (T := 28) (k := 5) (n := l.length) (c := c) (a := a) (k1 := .i64) (l := (1 : Int)) (by kernel_rfl) (by omega) (by omega) w
  have e1 : (1 : Int).toNat = 1 := rfl
  rw [e1] at hsl
  refine ⟨_, _, _, hsl, ?_⟩
  refine ⟨fun z w3 => Mod No w w3 ∧ ∃ (n : Nat) (a' : Option Addr) (c' : Nat), n + 1 ≤ l.length ∧ z = [.slice a' (fnd x l (n + 1)).length c', .int .i64 n] ∧ Own Tryd.prog w3 w2.heap.size 52 1 a' (fnd x l (n + 1)).length c' (sL (fnd x l (n + 1))) ∧ w2.heap.size ≤ w3.heap.size, fun z _ => (l.length - nI z 1).toNat,
    ⟨m1, 0, none, 0, hlpos, by rw [fnd_one]; rfl, by rw [fnd_one]; exact Own.nil elemZ_strings, Nat.le_refl _⟩, ?_⟩
  rintro z w3 ⟨m3, n, a', c', hnl, rfl, how, hbase⟩
  refine ⟨_, rfl, cond_of (fun h3 => ?_) (fun h3 => ?_)⟩
  · have h3 := of_decide_eq_true h3
    have hnx : n + 1 < l.length := by omega
    have he : l[n + 1]? = some l[n + 1] := List.getElem?_eq_getElem hnx
    generalize l[n + 1] = e at he
    obtain ⟨d, nm, hcut, hnm⟩ := hR.cut (by omega) he
    have hfs := fnd_succ (pat := x) he (by omega)
    have hfl := fnd_len x l (n + 1)
    have hhit := hitB_iff (pat := x) (e := e)
    rw [hcut.last] at hhit
    obtain ⟨g, o, hd, rfl, ix, lq, la, _⟩ := PE.at (hP.nos m3) he
    have ix3 : Al (Instr.indexAt 28 (.slice (cutA (some ⟨g, o, none⟩) c 1 5) (l.length - 1) (c - 1)) (.int .i64 n)) (.pointer (some ⟨g, o + (n + 1) * 5, none⟩)) := fun w => by
      have hcut2 : cutA (some ⟨g, o, none⟩) c 1 5 = some ⟨g, o + 5, none⟩ := by
        unfold cutA
        rw [if_neg (by omega)]
        simp [add_none]
      rw [hcut2, index_slice (k := 5) (by kernel_rfl) (by omega) (by omega) w, add_none, Int.toNat_natCast, show o + 5 + n * 5 = o + (n + 1) * 5 by omega]
    obtain ⟨w4, w5, c1, c2, hat, m5⟩ := copy_pE (w := w3) (z := (e, hd)) (T := 64) rfl
    have ld : ∀ w', Mod No w5 w' → Ru (Instr.loadAt 9 (.pointer (some (Addr.add ⟨w3.heap.size, 0, none⟩ 0)))) w' (.string (sB e.path)) w' := fun w' m => by
      rw [add_none]; exact (hat.keep m id).load (by kernel_rfl) rfl
    have rd := (Mod.refl No w5).drew
    have hep := hbd e (List.mem_of_getElem? he)
    refine ⟨_, ix3, _, la _ (Mod.refl _ _), _, w4, c1, w5, c2, _, ld _ rd, _, ld _ rd, LastIndexByte_c (c := 47) (by omega) fun k hk => ?_⟩
    obtain ⟨i, rfl, hi1, hi2⟩ := hk.cut hcut
    have hfr := from_run (x := e.path) (i := i + 1) hi1
    rw [hi2] at hfr
    have eI : IntKind.i64.wrap ((i : Int) + 1) = ((i + 1 : Nat) : Int) := by rw [wrap64 (by omega) (by omega)]; omega
    refine ⟨_, rfl, ld _ rd, ?_⟩
    rw [eI]
    refine ⟨_, hfr, match_c (by rw [hsx]; omega) (by rw [sB_size]; omega) fun w7 b7 m7 hb7 => ⟨_, rfl, ?_⟩⟩
    have M7 : Mod No w3 w7 := m5.no (rd.no m7)
    have hb7 : b7 = hitB x e := by
      rw [Bool.eq_iff_iff, hb7, hhit]; rfl
    subst hb7
    rw [wrap64 (x := (n : Int) + 1) (by omega) (by omega)]
    refine Share.cut (fun z w10 => Mod No w w10 ∧ w2.heap.size ≤ w10.heap.size ∧ ∃ (a' : Option Addr) (c' : Nat), z = [.slice a' (fnd x l (n + 1 + 1)).length c'] ∧ Own Tryd.prog w10 w2.heap.size 52 1 a' (fnd x l (n + 1 + 1)).length c' (sL (fnd x l (n + 1 + 1)))) (cond_of (fun h4 => ?_) (fun h4 => ?_)) ?_
    · rw [h4, if_pos rfl] at hfs
      have hs7 := M7.size
      obtain ⟨a1, l1, c1, w8, p1, a2, c2, w9, p2, p3, p4⟩ := snocS e.path (how.nos M7) (by omega) (by omega)
      refine ⟨_, _, _, rfl, _, ld _ (rd.no m7), a1, l1, c1, w8, p1, a2, _, c2, w9, p2, (m3.no M7).trans p4 fun y hy e2 => by have := m1.size; omega, by have := p4.size; omega, a2, c2, ?_, ?_⟩
      · rw [hfs, List.length_append, List.length_singleton]
      · rw [hfs, List.length_append, List.length_singleton]; exact p3
    · rw [h4, if_neg (by simp), List.append_nil] at hfs
      rw [hfs]
      exact ⟨m3.no M7, by have := M7.size; omega, a', c', rfl, how.nos M7⟩
    rintro z w10 ⟨m10, hs10, a2, c2, rfl, how2⟩
    exact ⟨⟨m10, n + 1, a2, c2, by omega, rfl, how2, hs10⟩, by simp [nI, nth]; omega⟩
  · have h3 := of_decide_eq_false h3
    have hnl2 : n + 1 = l.length := by omega
    rw [hnl2] at how ⊢
    exact ⟨_, _, _, rfl, hok hR hx.1 hx.2 w3 a' c' m3 how.rowU.row⟩
end
end Go.Proofs.YtiahkkekcmgkfaaDoor
end
section
/- Layer 34: the fixed calls. -/
open Go Go.Den Go.Proofs
namespace Go.Den
/-- A tree of a directory, with a file of a name. -/
def oneT (x : Bs) : List Tn := [⟨[], 2, [], [], -1⟩, ⟨[47, 97], 2, [], [], -1⟩, ⟨[47, 97, 47] ++ x, 1, [], [104, 105], -1⟩]
theorem ord_nil_lt {b : Bs} (hb : Rooted b) (h : b ≠ []) : ordP [] b < 0 := by
  have h1 := ord_nil hb
  have h2 : ordP [] b ≠ 0 := fun e => h (ord_zero.1 e).symm
  omega
theorem ord_more {x r : Bs} (hr : Rooted r) (h : r ≠ []) : ordP x (x ++ r) < 0 := by
  have := ord_app (x := x) (a := []) (.inl rfl) hr
  rw [List.append_nil] at this
  rw [this]; exact ord_nil_lt hr h
theorem oneT_right {x : Bs} (hx : nameB x = true) : RightL (oneT x) := by
  have hno : (47 : UInt8) ∉ x := fun h => by
    unfold nameB at hx
    simp only [Bool.and_eq_true] at hx
    have := (List.all_eq_true.1 hx.1.2) 47 h
    simp at this
  refine ⟨⟨_, rfl, rfl, rfl, rfl, rfl, rfl⟩, fun j h1 hj => ?_⟩
  have hj : j < 3 := hj
  rcases (by omega : j = 1 ∨ j = 2) with rfl | rfl
  · refine ⟨_, _, rfl, rfl, ⟨[], [97], ⟨rfl, by decide⟩, ⟨0, _, by omega, rfl, rfl, rfl⟩, by decide⟩, ord_nil_lt (.inr ⟨_, rfl⟩) (by simp), ?_⟩
    exact ⟨by decide, by decide, by decide, fun _ => rfl, fun _ => rfl, .inl ⟨rfl, fun h => absurd h (by decide)⟩⟩
  · refine ⟨_, _, rfl, rfl, ⟨[47, 97], x, ⟨rfl, hno⟩, ⟨1, _, by omega, rfl, rfl, rfl⟩, hx⟩, ?_, ?_⟩
    · exact ord_more (x := [47, 97]) (r := 47 :: x) (.inr ⟨_, rfl⟩) (by simp)
    · exact ⟨by show (1 : Int) ≤ 1; omega, by show (1 : Int) ≤ 3; omega, by show 2 ≤ 65536; omega, fun h => absurd rfl h, fun _ => rfl, .inl ⟨rfl, fun h => absurd h (by show ¬ (1 : Int) = 3; omega)⟩⟩
theorem oneT_bd {x : Bs} (hx : x.length ≤ 100) : BdE (oneT x) := by
  intro e he
  simp [oneT] at he
  rcases he with rfl | rfl | rfl
  · simp
  · simp
  · simp; omega
theorem known_all {out : List Chg} (h : AllE (oneT [102]) (oneT [103]) out) : out = [(1, [47, 97, 47, 102]), (2, [47, 97, 47, 103])] := by
  have hA : AscP ((oneT [102]).map (·.path)) := (oneT_right (x := [102]) (by decide)).ascP
  have hB : AscP ((oneT [103]).map (·.path)) := (oneT_right (x := [103]) (by decide)).ascP
  have s0 := Mg.start ((oneT [102]).map (·.path)) ((oneT [103]).map (·.path)) (alE (oneT [102]) (oneT [103]))
  have s1 := s0.both hA hB (x := []) rfl rfl
  have e1 : alE (oneT [102]) (oneT [103]) 0 0 = true := by decide
  rw [if_pos e1] at s1
  have s2 := s1.both hA hB (x := [47, 97]) rfl rfl
  have e2 : alE (oneT [102]) (oneT [103]) 1 1 = true := by decide
  rw [if_pos e2] at s2
  have s3 := s2.gone hA hB (x := [47, 97, 47, 102]) rfl (fun y hy => by
    have hy : y = [47, 97, 47, 103] := by
      have : some [47, 97, 47, 103] = some y := hy
      exact (Option.some.inj this).symm
    subst hy; decide)
  have s4 := s3.new hA hB (y := [47, 97, 47, 103]) rfl (fun y hy => by
    have hy : none = some y := hy
    cases hy)
  have s5 : All ((oneT [102]).map (·.path)) ((oneT [103]).map (·.path)) (alE (oneT [102]) (oneT [103])) _ := Mg.all s4
  exact All.eq h s5
theorem known_fnd : fnd [102, 42] (oneT [102]) 3 = [[47, 97, 47, 102]] := by
  have h1 : hitB [102, 42] ⟨[47, 97], 2, [], [], -1⟩ = false := by
    rw [Bool.eq_false_iff]
    intro h
    rw [hitB_iff] at h
    have : lastN [47, 97] = [97] := rfl
    rw [this, Mt.one (by decide)] at h
    rcases h.1 with h | h
    · cases h
    · cases h
  have h2 : hitB [102, 42] ⟨[47, 97, 47] ++ [102], 1, [], [104, 105], -1⟩ = true := by
    rw [hitB_iff]
    have : lastN ([47, 97, 47] ++ [102]) = [102] := rfl
    rw [this, Mt.one (by decide)]
    exact ⟨.inr rfl, Mt.stars.2 (by simp)⟩
  rw [fnd_succ (n := 2) (e := ⟨[47, 97, 47] ++ [102], 1, [], [104, 105], -1⟩) rfl (by omega), fnd_succ (n := 1) (e := ⟨[47, 97], 2, [], [], -1⟩) rfl (by omega), fnd_one, h1, h2]
  rfl
end Go.Den
namespace Go.Proofs.YtiahkkekcmgkfaaDoor
theorem build_k0 : Al (Instr.build 64 #[(1, .int .i64 2), (4, .int .i64 (-1))]) (.agg ⟨pV (⟨[], 2, [], [], -1⟩, (none, 0))⟩) := fun w => by kernel_rfl
theorem build_k1 : Al (Instr.build 64 #[(0, .string (⟨#[47, 97]⟩)), (1, .int .i64 2), (4, .int .i64 (-1))]) (.agg ⟨pV (⟨[47, 97], 2, [], [], -1⟩, (none, 0))⟩) := fun w => by kernel_rfl
theorem build_k2 (s : ByteArray) (a : Option Addr) (l c : Nat) : Al (Instr.build 64 #[(0, .string s), (1, .int .i64 1), (3, .slice a l c), (4, .int .i64 (-1))]) (.agg ⟨[.string s, .int .i64 1, .string ByteArray.empty, .slice a l c, .int .i64 (-1)]⟩) := fun w => by kernel_rfl
theorem built_hi (w : World) : (Instr.buildSlice 62 2 #[(0, .int .u8 104), (1, .int .u8 105)]).run Tryd.prog w = .ok (.slice (some ⟨w.heap.size, 0, none⟩) 2 2) (w.alloc (.cells ⟨u8L [104, 105]⟩ 5)) := by kernel_rfl
theorem conv_hi (w : World) : (convert 62 62 (.slice (some ⟨w.heap.size, 0, none⟩) 2 2)).run Tryd.prog (w.alloc (.cells ⟨u8L [104, 105]⟩ 5)) =
    .ok (.slice (some ⟨w.heap.size, 0, none⟩) 2 2) (w.alloc (.cells ⟨u8L [104, 105]⟩ 5 (2, 3))) :=
  Go.Lib.run_convert_bytes_const (P := Tryd.prog) w 62 5 ⟨u8L [104, 105]⟩ 2 2 (by kernel_rfl) (by kernel_rfl)
theorem built_3 (w : World) (x y z : Tn × Option Addr × Nat) : (Instr.buildSlice 28 3 #[(0, .agg ⟨pV x⟩), (1, .agg ⟨pV y⟩), (2, .agg ⟨pV z⟩)]).run Tryd.prog w = .ok (.slice (some ⟨w.heap.size, 0, none⟩) 3 3) (w.alloc (.cells ⟨([x, y, z].map pV).flatten⟩ 64)) := by kernel_rfl
section
variable {w : World} {K : Value → World → Prop}
theorem one_c {x : Bs} (hx : x.length ≤ 100) (hk : ∀ w' a, Mod No w w' → PE w' a (oneT x) → K (.slice a (oneT x).length 3) w') : Cal Tryd.prog F_leveelaw34_one #[.string (sB x)] w K := by
  apply C_leveelaw34_one
  unfold D_leveelaw34_one
  let w1 := w.alloc (.cells ⟨u8L [104, 105]⟩ 5)
  let w2 := w.alloc (.cells ⟨u8L [104, 105]⟩ 5 (2, 3))
  have m2 : Mod No w w2 := (Mod.refl No w).alloc _
  have r2 : At w2 w.heap.size 0 (u8L [104, 105]) := ⟨_, _, _, heap_new w _, by simp [u8L], by simp [u8L, u8]⟩
  have hadd := add_run (x := [47, 97, 47]) (y := x) (a := .const (.string (⟨#[47, 97, 47]⟩))) (b := .tmp 5) (by simp; omega)
  let z2 : Tn × Option Addr × Nat := (⟨[47, 97, 47] ++ x, 1, [], [104, 105], -1⟩, (some ⟨w.heap.size, 0, none⟩, 2))
  let w3 := w2.alloc (.cells ⟨([(⟨[], 2, [], [], -1⟩, (none, 0)), (⟨[47, 97], 2, [], [], -1⟩, (none, 0)), z2].map pV).flatten⟩ 64)
  have m3 : Mod No w2 w3 := (Mod.refl No w2).alloc _
  refine ⟨_, build_k0, _, build_k1, _, hadd, _, _, _, w1, built_hi w, _, _, _, w2, conv_hi w, _, build_k2 _ _ _ _, _, _, _, w3, built_3 w2 (⟨[], 2, [], [], -1⟩, (none, 0)) (⟨[47, 97], 2, [], [], -1⟩, (none, 0)) z2, hk w3 _ (m2.no m3) ?_⟩
  refine ⟨[(⟨[], 2, [], [], -1⟩, (none, 0)), (⟨[47, 97], 2, [], [], -1⟩, (none, 0)), z2], rfl, .inr ⟨_, _, rfl, AtU.new.at⟩, fun z hz => ?_⟩
  simp only [List.mem_cons, List.mem_nil_iff, or_false] at hz
  rcases hz with rfl | rfl | rfl
  · exact ⟨.inl rfl, fun _ => ⟨rfl, rfl⟩⟩
  · exact ⟨.inl rfl, fun _ => ⟨rfl, rfl⟩⟩
  · exact ⟨.inr ⟨_, _, rfl, r2.keep m3 id⟩, fun h => by cases h⟩
set_option maxRecDepth 100000 in
theorem known_c (hg : Gl w) (hk : ∀ w', Mod No w w' → K (.bool true) w') : Cal Tryd.prog F_leveelaw34_known #[] w K := by
  apply C_leveelaw34_known
  unfold D_leveelaw34_known
  have rf := oneT_right (x := [102]) (by decide)
  have rg := oneT_right (x := [103]) (by decide)
  have bf := oneT_bd (x := [102]) (by decide)
  have bg := oneT_bd (x := [103]) (by decide)
  refine one_c (x := [102]) (by decide) fun w1 a1 m1 p1 => ⟨_, _, _, rfl, one_c (x := [103]) (by decide) fun w2 a2 m2 p2 => ⟨_, _, _, rfl, Trees_c (p1.nos m2) p2 bf bg (by decide) (by decide) (by decide) (by decide) ((hg.nos m1).nos m2) (fun h => absurd ⟨rf, rg⟩ h) fun _ _ w3 x3 c3 out m3 hall hce _ => ⟨_, _, _, _, rfl, ?_⟩⟩⟩
  have ho := known_all hall
  subst ho
  have M3 := (m1.no m2).no m3
  refine one_c (x := [102]) (by decide) fun w4 a4 m4 p4 => ⟨_, _, _, rfl, Sum_c p4 bf (by decide) (by decide) ((hg.nos M3).nos m4) (fun h => absurd rf h) fun _ w5 m5 => ⟨_, _, rfl, ?_⟩⟩
  have M5 := (M3.no m4).no m5
  let w6 := w5.alloc (.cells ⟨TotV tot0 0⟩ 39)
  let w7 := w5.alloc (.cells ⟨TotV (tot (oneT [102])) (((oneT [102]).length : Int) - 1)⟩ 39)
  have hst : RuU (Instr.storeAt 39 (.pointer (some ⟨w5.heap.size, 0, none⟩)) (.agg ⟨TotV (tot (oneT [102])) (((oneT [102]).length : Int) - 1)⟩)) w6 w7 := store_new (T := 39) (n := 5) agg_pT rfl rfl (one_TotV _ _)
  have m7 : Mod No w5 w7 := (Mod.refl No w5).alloc _
  have ht7 : At w7 w5.heap.size 0 (TotV (tot (oneT [102])) (((oneT [102]).length : Int) - 1)) := AtU.new.at
  have M7 := M5.no m7
  refine ⟨_, w6, alloc_pT w5, w7, hst, one_c (x := [102]) (by decide) fun w8 a8 m8 p8 => ⟨_, _, _, rfl, Below_c (x := [47, 97]) p8 bf (by decide) (by decide) ((hg.nos M7).nos m8) (fun h => absurd rf h) (fun _ h => absurd ⟨⟨[47, 97], 2, [], [], -1⟩, by simp [oneT], rfl, rfl⟩ h) fun _ _ w9 a9 c9 m9 p9 _ => ⟨_, _, _, _, rfl, ?_⟩⟩⟩
  have hbel : (bel (oneT [102]) [47, 97] (oneT [102]).length).out = [⟨[], 2, [], [], -1⟩, ⟨[47, 102], 1, [], [104, 105], -1⟩] := by rfl
  rw [hbel] at p9 ⊢
  have M9 := (M7.no m8).no m9
  refine one_c (x := [102]) (by decide) fun w10 a10 m10 p10 => ⟨_, _, _, rfl, Find_c (x := [102, 42]) p10 bf (by decide) (by decide) ((hg.nos M9).nos m10) (fun h => absurd rf h) (fun _ h => absurd (by decide) h) fun _ _ _ w11 a11 c11 m11 p11 => ⟨_, _, _, _, rfl, ?_⟩⟩
  have hfnd : fnd [102, 42] (oneT [102]) (oneT [102]).length = [[47, 97, 47, 102]] := known_fnd
  rw [hfnd] at p11 ⊢
  have M11 := (M9.no m10).no m11
  have n3 : Mod No w3 w11 := (((((m4.no m5).no m7).no m8).no m9).no m10).no m11
  have n7 : Mod No w7 w11 := ((m8.no m9).no m10).no m11
  have n9 : Mod No w9 w11 := m10.no m11
  obtain ⟨g, o, rfl, ix, lq, _⟩ := CE.at (T := 24) (.inr rfl) hce (i := 0) rfl
  obtain ⟨g', o', hga, ix1, lq1, _⟩ := CE.at (T := 24) (.inr rfl) hce (i := 1) rfl
  cases hga
  obtain ⟨g9, o9, hd9, rfl, ix9, lq9, _⟩ := PE.at p9 (i := 1) rfl
  have hz : ∀ {j : Nat} {T : TypeId} {v : Value}, scal Tryd.prog T = true → (TotV (tot (oneT [102])) (((oneT [102]).length : Int) - 1))[j]? = some v → Ru (Instr.loadAt T (.pointer (some (Addr.add ⟨w5.heap.size, 0, none⟩ j)))) w11 v w11 := fun hT hj => tot_load hT (ht7.keep n7 id) hj
  refine Share.cut (fun z w' => w' = w11 ∧ z = [.bool true]) (tt rfl (tt rfl ⟨_, ix 2 c3 (by omega), _, lq 0 3 (.int .i64 1) (by kernel_rfl) rfl _ n3, tt rfl ⟨_, ix 2 c3 (by omega), _, lq 1 9 (.string (sB [47, 97, 47, 102])) (by kernel_rfl) rfl _ n3, tt (beq_self_eq_true (sB [47, 97, 47, 102]).toList) ⟨_, ix1 2 c3 (by omega), _, lq1 0 3 (.int .i64 2) (by kernel_rfl) rfl _ n3, tt rfl
    ⟨_, ix1 2 c3 (by omega), _, lq1 1 9 (.string (sB [47, 97, 47, 103])) (by kernel_rfl) rfl _ n3, tt (beq_self_eq_true (sB [47, 97, 47, 103]).toList) (tt rfl ⟨_, hz (j := 0) (T := 3) (v := .int .i64 2) (by kernel_rfl) rfl, tt rfl ⟨_, hz (j := 1) (T := 3) (v := .int .i64 1) (by kernel_rfl) rfl, tt rfl ⟨_, hz (j := 3) (T := 3) (v := .int .i64 2) (by kernel_rfl) rfl, tt rfl ⟨_, hz (j := 4) (T := 2) (v := .int .i64 2) (by kernel_rfl) rfl, tt rfl
      (tt rfl (tt rfl ⟨_, ix9 2 c9 (by omega), _, lq9 0 9 (.string (sB [47, 102])) (by kernel_rfl) rfl _ n9, tt (beq_self_eq_true (sB [47, 102]).toList) (tt rfl ⟨rfl, rfl⟩)⟩))⟩⟩⟩⟩)⟩⟩⟩⟩)) ?_
  rintro z w' ⟨rfl, rfl⟩
  exact ⟨_, rfl, hk _ M11⟩
end
end Go.Proofs.YtiahkkekcmgkfaaDoor
end
section
/- Layer 34: the laws: changes from a tree to another one; names as a pattern says; what there is not. -/
open Go Go.Den Go.Proofs
namespace Go.Proofs.YtiahkkekcmgkfaaDoor
section
variable {w : World}
def Yes (w : World) : Value → World → Prop := fun v w' => v = .bool true ∧ Mod No w w'
theorem known_yes {w0 : World} (hg : Gl w) (m : Mod No w0 w) : Cal Tryd.prog F_leveelaw34_known #[] w fun r w' => ∃ b : Bool, r = .bool b ∧ Yes w0 (.bool b) w' := known_c hg fun w' m' => ⟨_, rfl, rfl, m.no m'⟩
end
end Go.Proofs.YtiahkkekcmgkfaaDoor
end
section
/- Layer 34: the laws: what a tree has; one name more. -/
open Go Go.Den Go.Proofs
namespace Go.Den
theorem tot_more (l : List Tn) (x d : Bs) : tot (l ++ [⟨x, 1, [], d, -1⟩]) = { tot l with files := (tot l).files + 1, bytes := (tot l).bytes + d.length } := by
  unfold tot
  rw [List.foldl_append]
  generalize List.foldl totStep ⟨0, 0, 0, 0⟩ l = t
  show totStep t ⟨x, 1, [], d, -1⟩ = _
  unfold totStep
  rw [if_neg (by show ¬ (0 : Int) ≤ -1; omega), if_neg (by show ¬ (1 : Int) = 2; omega), if_pos rfl]
end Go.Den
namespace Go.Proofs.YtiahkkekcmgkfaaDoor
theorem build_rM (s t : ByteArray) : Al (Instr.build 58 #[(0, .string s), (1, .int .i64 1), (3, .string t), (4, .int .i64 (-1))]) (.agg ⟨[.string s, .int .i64 1, .string ByteArray.empty, .string t, .int .i64 (-1)]⟩) := fun w => by kernel_rfl
section
variable {w : World}
/-- A total that is kept. -/
theorem keepT {T : TypeId} {t : Tot} {n : Int} (hT : aggN Tryd.prog T = some 5) (ha : ∀ w, (Instr.alloc T true (.tuple #[])).run Tryd.prog w = .ok (.pointer (some ⟨w.heap.size, 0, none⟩)) (w.alloc (.cells ⟨TotV tot0 0⟩ T))) :
    ∃ w1 w2, Ru (Instr.alloc T true (.tuple #[])) w (.pointer (some ⟨w.heap.size, 0, none⟩)) w1 ∧ RuU (Instr.storeAt T (.pointer (some ⟨w.heap.size, 0, none⟩)) (.agg ⟨TotV t n⟩)) w1 w2 ∧ At w2 w.heap.size 0 (TotV t n) ∧ Mod No w w2 :=
  ⟨_, _, ha w, store_new (T := T) (n := 5) hT rfl rfl (one_TotV _ _), AtU.new.at, (Mod.refl No w).alloc _⟩
set_option maxRecDepth 100000 in
theorem DiffMore_l {a : Option Addr} {l : List Tn} {x d : Bs} {c : Nat} (hP : RE w a l) (hb : BdE l) (hx : x.length ≤ 140737488351232) (hd : d.length ≤ 140737488351232) (hg : Gl w) : Cal Tryd.prog F_leveelaw34_DiffMore #[.slice a l.length c, .string (sB x), .string (sB d)] w (Yes w) := by
  apply C_leveelaw34_DiffMore
  unfold D_leveelaw34_DiffMore
  have hsd := sB_size d
  refine Share.cut (fun z w2 => Mod No w w2 ∧ ∃ b, z = [.bool b] ∧ (b = true ↔ ¬ (l.length ≤ 40 ∧ RightL l ∧ d.length ≤ 100))) (cond_of (fun h => ⟨Mod.refl _ _, vyes ?_⟩) (fun h => ?_)) ?_
  · have h := of_decide_eq_true h
    rintro ⟨h1, _⟩
    omega
  · have h := of_decide_eq_false h
    refine rRight_c hP hb (by omega) fun w1 b1 m1 hb1 => ⟨_, rfl, cond_of (fun h2 => ⟨m1, vyes ?_⟩) (fun h2 => ⟨m1, viff ?_⟩)⟩
    · have h2 : b1 = false := by simpa using h2
      rintro ⟨_, h3, _⟩
      have := hb1.2 h3; rw [h2] at this; cases this
    · have h2 : b1 = true := by simpa using h2
      have h3 := hb1.1 h2
      rw [hsd, decide_eq_true_eq]
      constructor
      · rintro h4 ⟨_, _, h5⟩; omega
      · intro h4
        have : ¬ d.length ≤ 100 := fun h5 => h4 ⟨by omega, h3, h5⟩
        omega
  rintro z w2 ⟨m2, b2, rfl, hb2⟩
  refine ⟨_, rfl, cond_of (fun h => known_yes (hg.nos m2) m2) (fun h => ?_)⟩
  obtain ⟨hl, hR, hdl⟩ : l.length ≤ 40 ∧ RightL l ∧ d.length ≤ 100 := Classical.not_not.1 fun hn => by
    have := hb2.2 hn; rw [h] at this; cases this
  have hlpos : 0 < l.length := by
    obtain ⟨e, he, _⟩ := hR.1
    exact (List.getElem?_eq_some_iff.1 he).1
  have hz0 : l[0]? = some l[0] := List.getElem?_eq_getElem hlpos
  obtain ⟨g, o, rfl, _⟩ := RE.at hP hz0
  have hlen := flat5_len (rV_all l)
  rw [List.length_map] at hlen
  have hone : ∀ v ∈ (l.map rV).flatten, v.oneCell' = true := by
    intro v hv
    obtain ⟨L, hL, hvL⟩ := List.mem_flatten.1 hv
    obtain ⟨z, _, rfl⟩ := List.mem_map.1 hL
    exact one_rV z v hvL
  obtain ⟨q1, c1, w4, p1, p2, p3, _⟩ := (Own.nilG (w := w2) (base := w2.heap.size) elemG_rE).appG (ty := 22) elemG_rE (by omega) (ad := ⟨g, o, none⟩) (m := l.length) (c2 := c) (ys := (l.map rV).flatten) (Row.nos hP m2) hlen hlpos hone (by omega) (by omega) (Nat.le_refl _)
  rw [Nat.zero_add, List.nil_append] at p2
  rw [Nat.zero_add] at p1
  have M4 : Mod No w w4 := m2.trans p3 fun y _ ⟨q, e, _⟩ => by cases e
  have hs4 := p3.size
  have hadd : ∀ y, Al (eqS .add 9 (.const (.string ⟨#[47]⟩)) (.tmp y) (.string ⟨#[47]⟩) (.string (sB x))) (.string (sB ([47] ++ x))) := fun y => add_run (x := [47]) (y := x) (by simp; omega)
  let e : Tn := ⟨[47] ++ x, 1, [], d, -1⟩
  have m5 : Mod No w4 (w4.alloc (.cells ⟨rV e⟩ 58)) := (Mod.refl No w4).alloc _
  obtain ⟨q2, c2, w6, t1, t2, t3, _⟩ := (p2.nos m5).appG (ty := 22) elemG_rE (by omega) (ad := ⟨w4.heap.size, 0, none⟩) (m := 1) (c2 := 1) (ys := rV e) (.inr ⟨_, _, rfl, AtU.new.at⟩) rfl (by omega) (one_rV e) (by omega) (by omega) (Nat.le_trans hs4 m5.size)
  have hq1 := p2.base rfl
  have M6 : Mod No w w6 := (M4.no m5).trans t3 fun y hy ⟨q, e1, e2⟩ => by
    cases e1
    have := m2.size
    omega
  have hml : (l ++ [e]).length = l.length + 1 := by simp
  have hRm : RE w6 (some q2) (l ++ [e]) := by
    unfold RE
    rw [List.map_append, List.flatten_append]
    have : ([e].map rV).flatten = rV e := by simp
    rw [this]; exact t2.rowU.row
  have hbm : BdE (l ++ [e]) := by
    intro e' he'
    rcases List.mem_append.1 he' with he' | he'
    · exact hb e' he'
    · rw [List.mem_singleton] at he'; subst he'
      refine ⟨?_, ?_, ?_⟩
      · show ([47] ++ x).length ≤ _
        simp; omega
      · show ([] : Bs).length ≤ _
        simp
      · show d.length ≤ _
        omega
  refine ⟨_, _, _, w4, p1, _, hadd 32, _, build_rM _ _, _, _, _, _, built_rE w4 e, _, _, _, w6, t1, ?_⟩
  have hright := fun (K : Value → World → Prop) hK => rRight_c (K := K) (c := c2) hRm hbm (by omega) hK
  rw [hml] at hright
  refine hright _ fun w7 b7 m7 hb7 => ⟨_, rfl, cond_of (fun h7 => known_yes (hg.nos (M6.no m7)) (M6.no m7)) (fun h7 => ?_)⟩
  have h7 : b7 = true := by simpa using h7
  have hRR := hb7.1 h7
  have M7 := M6.no m7
  have hgiven := fun (w' : World) (m' : Mod No w6 w') (K : Value → World → Prop) hK => given_c (K := K) (c := c2) (hRm.nos m') (by omega) hK
  rw [hml] at hgiven
  refine given_c (hP.nos M7) (by omega) fun w9 a9 c9 m9 p9 k9 => ⟨_, _, _, rfl, hgiven w9 (m7.no m9) _ fun w10 a10 c10 m10 p10 k10 => ⟨_, _, _, rfl, ?_⟩⟩
  have M10 := (M7.no m9).no m10
  have htr := fun (K : Value → World → Prop) h1 h2 => Trees_c (K := K) (p9.nos m10) p10 hb hbm (by omega) (by omega) k9 (by rw [hml]; exact k10) (hg.nos M10) h1 h2
  rw [hml] at htr
  refine htr _ (fun h8 => absurd ⟨hR, hRR⟩ h8) fun _ _ w11 x11 c11 out11 m11 all11 ce11 len11 => ⟨_, _, _, _, rfl, ?_⟩
  have ho := AllE.more all11 hRR
  subst ho
  have M11 := M10.no m11
  refine given_c (hP.nos M11) (by omega) fun w12 a12 c12 m12 p12 k12 => ⟨_, _, _, rfl, Sum_c p12 hb (by omega) k12 (hg.nos (M11.no m12)) (fun h8 => absurd hR h8) fun _ w13 m13 => ⟨_, _, rfl, ?_⟩⟩
  obtain ⟨w14, w15, u1, u2, u3, u4⟩ := keepT (w := w13) (T := 39) (t := tot l) (n := (l.length : Int) - 1) agg_pT alloc_pT
  have n15 : Mod No w6 w15 := (((((m7.no m9).no m10).no m11).no m12).no m13).no u4
  have M15 := M6.no n15
  refine ⟨_, w14, u1, w15, u2, hgiven w15 n15 _ fun w16 a16 c16 m16 p16 k16 => ⟨_, _, _, rfl, ?_⟩⟩
  have hsum := fun (K : Value → World → Prop) h1 h2 => Sum_c (K := K) p16 hbm (by omega) (by rw [hml]; exact k16) (hg.nos (M15.no m16)) h1 h2
  rw [hml] at hsum
  refine hsum _ (fun h8 => absurd hRR h8) fun _ w17 m17 => ⟨_, _, rfl, ?_⟩
  obtain ⟨w18, w19, v1, v2, v3, v4⟩ := keepT (w := w17) (T := 39) (t := tot (l ++ [e])) (n := ((l.length + 1 : Nat) : Int) - 1) agg_pT alloc_pT
  have M19 := ((M15.no m16).no m17).no v4
  refine ⟨_, w18, v1, w19, v2, ?_⟩
  have u5 : At w19 w13.heap.size 0 (TotV (tot l) ((l.length : Int) - 1)) := u3.keep ((m16.no m17).no v4) id
  rw [tot_more] at v3
  have hbnd := tot_bounds hR (by omega) l.length (Nat.le_refl _)
  rw [List.take_length] at hbnd
  have n11 : Mod No w11 w19 := ((((m12.no m13).no u4).no m16).no m17).no v4
  obtain ⟨g1, o1, rfl, ix1, lq1, _⟩ := CE.at (T := 24) (.inr rfl) ce11 (i := 0) rfl
  refine Share.cut (fun z w' => Mod No w w' ∧ z = [.bool true]) (tt rfl (tt rfl ⟨_, ix1 1 c11 (by omega), _, lq1 0 3 (.int .i64 2) (by kernel_rfl) rfl _ n11, tt rfl ⟨_, ix1 1 c11 (by omega), _, lq1 1 9 (.string (sB ([47] ++ x))) (by kernel_rfl) rfl _ n11, _, hadd 81, tt (beq_self_eq_true _) (tt rfl (tt rfl ?_))⟩⟩)) ?_
  · refine ⟨_, tot_load (T := 3) (j := 3) (v := .int .i64 (((l.length + 1 : Nat) : Int) - 1)) (by kernel_rfl) v3 rfl, _, tot_load (T := 3) (j := 3) (v := .int .i64 ((l.length : Int) - 1)) (by kernel_rfl) u5 rfl, ?_⟩
    refine tt (by rw [wrap64 (by omega) (by omega), beq_iff_eq]; omega) ?_
    refine ⟨_, tot_load (T := 3) (j := 1) (v := .int .i64 ((tot l).files + 1)) (by kernel_rfl) v3 rfl, _, tot_load (T := 3) (j := 1) (v := .int .i64 (tot l).files) (by kernel_rfl) u5 rfl, ?_⟩
    refine tt (by rw [wrap64 (by omega) (by omega), beq_iff_eq]) ?_
    refine ⟨_, tot_load (T := 2) (j := 4) (v := .int .i64 ((tot l).bytes + d.length)) (by kernel_rfl) v3 rfl, _, tot_load (T := 2) (j := 4) (v := .int .i64 (tot l).bytes) (by kernel_rfl) u5 rfl, ?_⟩
    refine tt (by rw [hsd, wrap64 (by omega) (by omega), beq_iff_eq]) ?_
    exact known_c (hg.nos M19) fun w20 m20 => ⟨_, rfl, M19.no m20, rfl⟩
  rintro z w' ⟨m', rfl⟩
  exact ⟨_, rfl, rfl, m'⟩
end
end Go.Proofs.YtiahkkekcmgkfaaDoor
end
