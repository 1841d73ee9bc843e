/- Parts of the proof, in order: what the statement leans on. -/
import Derived.Test.YtiahkkekcmgkfaaDoorBc
section
/- Layer 34: which paths are as a pattern says. -/
open Go Go.Den Go.Proofs
namespace Go.Den
def bL (bs : List Bool) : List Value := bs.map .bool
theorem bL_get {bs : List Bool} {k : Nat} {b : Bool} (h : bs[k]? = some b) : (bL bs)[k]? = some (.bool b) := by unfold bL; rw [List.getElem?_map, h]; rfl
theorem length_bL (bs : List Bool) : (bL bs).length = bs.length := by simp [bL]
theorem bL_set (bs : List Bool) (k : Nat) (b : Bool) : (bL bs).set k (.bool b) = bL (bs.set k b) := by simp [bL, List.map_set]
/-- A row of the table. -/
def MtRow (Q S : Bs) (bs : List Bool) : Prop := bs.length = S.length + 1 ∧ ∀ k b, bs[k]? = some b → (b = true ↔ Mt Q (S.take k))
theorem take_last {S : Bs} {k : Nat} {c : UInt8} (h : S[k]? = some c) : S.take (k + 1) = S.take k ++ [c] := by
  obtain ⟨hi, e⟩ := List.getElem?_eq_some_iff.1 h
  rw [List.take_succ_eq_append_getElem hi, e]
theorem snoc_inj {r r' : Bs} {x x' : UInt8} (h : r ++ [x] = r' ++ [x']) : r = r' ∧ x = x' := by
  have := List.append_inj' h rfl
  exact ⟨this.1, by simpa using this.2⟩
theorem Mt.starZero {Q S : Bs} : Mt (Q ++ [42]) (S.take 0) ↔ Mt Q (S.take 0) := by
  rw [Mt.rowStar]
  constructor
  · rintro (h | ⟨r, x, e, _⟩)
    · exact h
    · simp at e
  · exact .inl
theorem Mt.starSucc {Q S : Bs} {k : Nat} {c : UInt8} (h : S[k]? = some c) : Mt (Q ++ [42]) (S.take (k + 1)) ↔ Mt Q (S.take (k + 1)) ∨ Mt (Q ++ [42]) (S.take k) := by
  rw [Mt.rowStar]
  constructor
  · rintro (h1 | ⟨r, x, e, h1⟩)
    · exact .inl h1
    · rw [take_last h] at e
      obtain ⟨e1, _⟩ := snoc_inj e
      right; rw [e1]; exact h1
  · rintro (h1 | h1)
    · exact .inl h1
    · exact .inr ⟨_, _, take_last h, h1⟩
theorem Mt.oneZero {Q S : Bs} {d : UInt8} (hd : d ≠ 42) : ¬ Mt (Q ++ [d]) (S.take 0) := fun h => by
  obtain ⟨r, x, e, _⟩ := (Mt.rowOne hd).1 h
  simp at e
theorem Mt.oneSucc {Q S : Bs} {k : Nat} {c d : UInt8} (hd : d ≠ 42) (h : S[k]? = some c) : Mt (Q ++ [d]) (S.take (k + 1)) ↔ (d = 63 ∨ d = c) ∧ Mt Q (S.take k) := by
  rw [Mt.rowOne hd]
  constructor
  · rintro ⟨r, x, e, h1, h2⟩
    rw [take_last h] at e
    obtain ⟨rfl, rfl⟩ := snoc_inj e
    exact ⟨h1, h2⟩
  · rintro ⟨h1, h2⟩
    exact ⟨_, _, take_last h, h1, h2⟩
end Go.Den
namespace Go.Proofs.YtiahkkekcmgkfaaDoor
theorem elemZ_bools : elemZ Tryd.prog 97 1 (.bool false) 1 := by unfold elemZ; kernel_rfl
section
variable {w : World} {K : Value → World → Prop}
theorem ixB {g n c k : Nat} (h : k < n) : Al (Instr.indexAt 97 (.slice (some ⟨g, 0, none⟩) n c) (.int .i64 k)) (.pointer (some ⟨g, k, none⟩)) := fun w => by
  rw [index_slice (k := 1) (by kernel_rfl) (by omega) (by omega) w, add_none, show 0 + (k : Int).toNat * 1 = k by omega]
theorem ldB {g k : Nat} {bs : List Bool} {b : Bool} (h : At w g 0 (bL bs)) (hb : bs[k]? = some b) : Ru (Instr.loadAt 4 (.pointer (some ⟨g, k, none⟩))) w (.bool b) w := by
  have := h.load (P := Tryd.prog) (T := 4) (by kernel_rfl) (bL_get hb)
  rw [Nat.zero_add] at this; exact this
theorem stB {g k : Nat} {bs : List Bool} (b : Bool) (h : AtU w g 0 (bL bs)) (hk : k < bs.length) : ∃ w', RuU (Instr.storeAt 4 (.pointer (some ⟨g, k, none⟩)) (.bool b)) w w' ∧ AtU w' g 0 (bL (bs.set k b)) ∧ Mod (fun x => x = g) w w' := by
  obtain ⟨w', h1, h2, h3, _⟩ := h.store (P := Tryd.prog) (T := 4) (i := k) (v := .bool b) (by kernel_rfl) (by rw [length_bL]; exact hk) rfl
  rw [Nat.zero_add] at h1
  rw [bL_set] at h2
  exact ⟨w', h1, h2, h3⟩
set_option maxRecDepth 100000 in
theorem rMatch_c {P S : Bs} (hp : P.length ≤ 1000) (hs : S.length ≤ 1000) (hk : ∀ w' b, Mod No w w' → (b = true ↔ Mt P S) → K (.bool b) w') : Cal Tryd.prog F_leveeref34_Match #[.string (sB P), .string (sB S)] w K := by
  apply C_leveeref34_Match
  unfold D_leveeref34_Match
  have hsP := sB_size P
  have hsS := sB_size S
  rw [hsP, hsS, wrap64 (by omega) (by omega)]
  have eN : (S.length : Int) + 1 = ((S.length + 1 : Nat) : Int) := by omega
  rw [eN]
  obtain ⟨w1, s1, s2, s3, s4⟩ := makeSlice_run (P := Tryd.prog) (w := w) (n := S.length + 1) elemZ_bools (by omega) (by omega) (by omega)
  rw [Nat.mul_one] at s2
  have hrep : List.replicate (S.length + 1) (Value.bool false) = bL (List.replicate (S.length + 1) false) := by simp [bL]
  rw [hrep] at s2
  obtain ⟨w2, t1, t2, t3⟩ := stB (k := 0) true s2 (by simp)
  have M2 : Mod No w w2 := s3.trans t3 fun y hy e => by omega
  refine ⟨_, _, _, w1, s1, _, ixB (k := 0) (by omega), w2, t1, ?_⟩
  have ht3 := t3.size
  refine ⟨fun z w3 => Mod No w w3 ∧ ∃ (i g : Nat) (bs : List Bool) (c : Nat) (y1 y2 : Value), i ≤ P.length ∧ z = [.slice (some ⟨g, 0, none⟩) (S.length + 1) c, .int .i64 i, y1, y2] ∧ AtU w3 g 0 (bL bs) ∧ MtRow (P.take i) S bs, fun z _ => (P.length - nI z 1).toNat,
    ⟨M2, 0, w.heap.size, _, _, _, _, Nat.zero_le _, rfl, t2, by simp, fun k b hb => ?_⟩, ?_⟩
  · rw [List.take_zero, Mt.nil_iff]
    have hkl : k < S.length + 1 := by have := (List.getElem?_eq_some_iff.1 hb).1; simpa using this
    by_cases h0 : k = 0
    · subst h0; simp at hb; simp [← hb]
    · rw [List.getElem?_set_ne (by omega), List.getElem?_replicate_of_lt hkl] at hb
      have hb : false = b := by simpa using hb
      rw [← hb]
      constructor
      · intro e; cases e
      · intro e
        have := congrArg List.length e
        rw [List.length_take, List.length_nil] at this; omega
  rintro z w3 ⟨m3, i, g, bs, c, y1, y2, hi, rfl, hat, hbl, hrow⟩
  refine ⟨_, rfl, cond_of (fun h => ?_) (fun h => ?_)⟩
  · have h := of_decide_eq_true h
    have hix : i < P.length := by omega
    have hg : P[i]? = some P[i] := List.getElem?_eq_getElem hix
    have htk := take_last hg
    generalize P[i] = d at hg htk
    obtain ⟨w4, u1, u2, u3, u4⟩ := makeSlice_run (P := Tryd.prog) (w := w3) (n := S.length + 1) elemZ_bools (by omega) (by omega) (by omega)
    rw [Nat.mul_one, hrep] at u2
    have hglt := hat.lt
    refine ⟨_, _, _, w4, u1, fun z w5 => Mod No w w5 ∧ ∃ (k : Nat) (nb : List Bool) (y : Value), k ≤ S.length + 1 ∧ z = [.int .i64 k, y] ∧ AtU w5 g 0 (bL bs) ∧ AtU w5 w3.heap.size 0 (bL nb) ∧ nb.length = S.length + 1 ∧ (∀ j b, j < k → nb[j]? = some b → (b = true ↔ Mt (P.take (i + 1)) (S.take j))) ∧
      (∀ j, k ≤ j → j < S.length + 1 → nb[j]? = some false), fun z _ => (S.length + 1 - nI z 0).toNat, ⟨m3.no u3, 0, _, _, Nat.zero_le _, rfl, hat.keep u3 id, u2, by simp, fun j b hj => by omega, fun j _ hj => List.getElem?_replicate_of_lt hj⟩, ?_⟩
    rintro z w5 ⟨m5, k, nb, y, hkl, rfl, ha, hn, hnl, hdone, hrest⟩
    refine ⟨_, rfl, cond_of (fun h2 => ?_) (fun h2 => ?_)⟩
    · have h2 := of_decide_eq_true h2
      have hkS : k < S.length + 1 := by omega
      have hbk : bs[k]? = some bs[k] := List.getElem?_eq_getElem (by omega)
      have hbr := hrow k _ hbk
      generalize bs[k] = bk at hbk hbr
      have hw3 := m3.size
      -- what a store at k brings
      have fin : ∀ (v : Bool) (w9 : World) (nb' : List Bool) (y' : Value), (v = true ↔ Mt (P.take (i + 1)) (S.take k)) → nb' = nb.set k v → Mod No w w9 → AtU w9 g 0 (bL bs) → AtU w9 w3.heap.size 0 (bL nb') →
          (∃ (k' : Nat) (nb : List Bool) (y : Value), k' ≤ S.length + 1 ∧ [Value.int .i64 (IntKind.i64.wrap ((k : Int) + 1)), y'] = [.int .i64 k', y] ∧ AtU w9 g 0 (bL bs) ∧ AtU w9 w3.heap.size 0 (bL nb) ∧ nb.length = S.length + 1 ∧ (∀ j b, j < k' → nb[j]? = some b → (b = true ↔ Mt (P.take (i + 1)) (S.take j))) ∧
            (∀ j, k' ≤ j → j < S.length + 1 → nb[j]? = some false)) := by
        intro v w9 nb' y' hv hnb _ h9 h10
        subst hnb
        refine ⟨k + 1, nb.set k v, y', by omega, ?_, h9, h10, by simpa using hnl, fun j b hj hb => ?_, fun j hj hjl => ?_⟩
        · rw [wrap64 (by omega) (by omega)]; rfl
        · by_cases e : j = k
          · subst e
            rw [List.getElem?_set_self (by omega)] at hb
            have hb : v = b := by simpa using hb
            rw [← hb]; exact hv
          · rw [List.getElem?_set_ne (fun e2 => e e2.symm)] at hb
            exact hdone j b (by omega) hb
        · rw [List.getElem?_set_ne (by omega)]
          exact hrest j (by omega) hjl
      have step : ∀ (v : Bool) (w0 : World), Mod No w5 w0 → (v = true ↔ Mt (P.take (i + 1)) (S.take k)) → ∃ w9, RuU (Instr.storeAt 4 (.pointer (some ⟨w3.heap.size, k, none⟩)) (.bool v)) w0 w9 ∧ Mod No w w9 ∧ AtU w9 g 0 (bL bs) ∧ AtU w9 w3.heap.size 0 (bL (nb.set k v)) := by
        intro v w0 m0 _
        obtain ⟨w9, p1, p2, p3⟩ := stB (k := k) v (hn.keep m0 id) (by omega)
        exact ⟨w9, p1, (m5.no m0).trans p3 fun y hy e => by omega, (ha.keep m0 id).keep p3 (by omega), p2⟩
      refine ⟨_, ix_run hg, Share.cut (fun z w13 => Mod No w w13 ∧ ∃ (v : Bool) (y' : Value), z = [y'] ∧ (v = true ↔ Mt (P.take (i + 1)) (S.take k)) ∧ AtU w13 g 0 (bL bs) ∧ AtU w13 w3.heap.size 0 (bL (nb.set k v))) ?_ ?_⟩
      · have h42 : ((d.toNat : Int) == 42) = decide (d = 42) := beq_c d 42
        rw [h42]
        refine cond_of (fun h3 => ?_) (fun h3 => ?_)
        · have h3 := of_decide_eq_true h3
          rw [h3] at htk
          refine Share.cut (fun z w9 => z = [] ∧ Mod No w w9 ∧ ∃ (v : Bool), (v = true ↔ Mt (P.take (i + 1)) (S.take k)) ∧ AtU w9 g 0 (bL bs) ∧ AtU w9 w3.heap.size 0 (bL (nb.set k v))) ⟨_, _, _, rfl, _, ixB hkS, _, ldB ha.at hbk, cond_of (fun h4 => ?_) (fun h4 => ?_)⟩
            (fun z w9 h => by obtain ⟨rfl, h5, v, h6, h7, h8⟩ := h; exact ⟨h5, v, _, rfl, h6, h7, h8⟩)
          · have hv : (true = true ↔ Mt (P.take (i + 1)) (S.take k)) := ⟨fun _ => by
              rw [htk, Mt.rowStar]; exact .inl (hbr.1 h4), fun _ => rfl⟩
            obtain ⟨w9, p1, p2, p3, p4⟩ := step true w5 (Mod.refl _ _) hv
            exact ⟨_, ixB hkS, w9, p1, rfl, p2, true, hv, p3, p4⟩
          · refine cond_of (fun h5 => ?_) (fun h5 => ?_)
            · have h5 := of_decide_eq_true h5
              obtain ⟨j, rfl⟩ : ∃ j, k = j + 1 := ⟨k - 1, by omega⟩
              have hnj : nb[j]? = some nb[j] := List.getElem?_eq_getElem (by omega)
              have hdj := hdone j _ (by omega) hnj
              generalize nb[j] = v at hnj hdj
              have hSj : S[j]? = some S[j] := List.getElem?_eq_getElem (by omega)
              have hv : (v = true ↔ Mt (P.take (i + 1)) (S.take (j + 1))) := by
                rw [htk, Mt.starSucc hSj, ← htk, ← hdj]
                constructor
                · exact fun e => .inr e
                · rintro (e | e)
                  · have := hbr.2 e; rw [h4] at this; cases this
                  · exact e
              obtain ⟨w9, p1, p2, p3, p4⟩ := step v w5 (Mod.refl _ _) hv
              have ej : IntKind.i64.wrap (((j + 1 : Nat) : Int) - 1) = (j : Int) := by rw [wrap64 (by omega) (by omega)]; omega
              rw [ej]
              exact ⟨_, ixB (by omega), _, ldB hn.at hnj, _, ixB hkS, w9, p1, rfl, p2, v, hv, p3, p4⟩
            · have h5 := of_decide_eq_false h5
              have h0 : k = 0 := by omega
              subst h0
              have hv : (false = true ↔ Mt (P.take (i + 1)) (S.take 0)) := by
                rw [htk, Mt.starZero]
                exact ⟨fun e => (by cases e), fun e => by have := hbr.2 e; rw [h4] at this; cases this⟩
              obtain ⟨w9, p1, p2, p3, p4⟩ := step false w5 (Mod.refl _ _) hv
              exact ⟨_, ixB hkS, w9, p1, rfl, p2, false, hv, p3, p4⟩
        · have hd : d ≠ 42 := of_decide_eq_false h3
          have rd := (Mod.refl No w5).drew
          have hset : nb.set k false = nb := by
            apply List.ext_getElem?
            intro j
            by_cases e : j = k
            · subst e; rw [List.getElem?_set_self (by omega), hrest j (Nat.le_refl _) hkS]
            · rw [List.getElem?_set_ne (fun e2 => e e2.symm)]
          refine Share.cut (fun z w10 => w10 = drew w5 ∧ ∃ b, z = [.bool b] ∧ (b = true ↔ ∃ j c, k = j + 1 ∧ S[j]? = some c ∧ (d = 63 ∨ d = c))) (cond_of (fun h4 => ?_) (fun h4 => ⟨rfl, vno ?_⟩)) ?_
          · have h4 := of_decide_eq_true h4
            obtain ⟨j, rfl⟩ : ∃ j, k = j + 1 := ⟨k - 1, by omega⟩
            have hSj : S[j]? = some S[j] := List.getElem?_eq_getElem (by omega)
            generalize S[j] = c0 at hSj
            have ej : IntKind.i64.wrap (((j + 1 : Nat) : Int) - 1) = (j : Int) := by rw [wrap64 (by omega) (by omega)]; omega
            have h63 : ((d.toNat : Int) == 63) = decide (d = 63) := beq_c d 63
            rw [ej]
            refine ⟨_, ix_run hg, ?_⟩
            rw [h63]
            refine cond_of (fun h5 => ⟨rfl, vyes ⟨j, c0, rfl, hSj, .inl (of_decide_eq_true h5)⟩⟩) (fun h5 => ⟨_, ix_run hg, _, ix_run hSj, rfl, viff ?_⟩)
            rw [beq_c, decide_eq_true_eq]
            constructor
            · exact fun e => ⟨j, c0, rfl, hSj, .inr e⟩
            · rintro ⟨j', c', e1, e2, e3⟩
              have : j' = j := by omega
              subst this
              rw [hSj] at e2; cases e2
              exact e3.resolve_left (of_decide_eq_false h5)
          · have h4 := of_decide_eq_false h4
            rintro ⟨j, c', e1, _⟩
            omega
          rintro z w10 ⟨rfl, b, rfl, hb⟩
          refine ⟨_, rfl, Share.cut (fun z w12 => z = [] ∧ Mod No w w12 ∧ ∃ (v : Bool), (v = true ↔ Mt (P.take (i + 1)) (S.take k)) ∧ AtU w12 g 0 (bL bs) ∧ AtU w12 w3.heap.size 0 (bL (nb.set k v))) (cond_of (fun h4 => ?_) (fun h4 => ?_)) (fun z w12 h => by obtain ⟨rfl, h5, v, h6, h7, h8⟩ := h; exact ⟨h5, v, _, rfl, h6, h7, h8⟩)⟩
          · obtain ⟨j, c0, rfl, hSj, hdc⟩ := hb.1 h4
            have hbj : bs[j]? = some bs[j] := List.getElem?_eq_getElem (by omega)
            have hbjr := hrow j _ hbj
            generalize bs[j] = v at hbj hbjr
            have hv : (v = true ↔ Mt (P.take (i + 1)) (S.take (j + 1))) := by
              rw [htk, Mt.oneSucc hd hSj, hbjr]
              exact ⟨fun e => ⟨hdc, e⟩, fun e => e.2⟩
            have ej : IntKind.i64.wrap (((j + 1 : Nat) : Int) - 1) = (j : Int) := by rw [wrap64 (by omega) (by omega)]; omega
            rw [ej]
            obtain ⟨w9, p1, p2, p3, p4⟩ := step v _ rd hv
            exact ⟨_, _, _, rfl, _, ixB (by omega), _, ldB (ha.keep rd id).at hbj, _, ixB hkS, w9, p1, rfl, p2, v, hv, p3, p4⟩
          · refine ⟨rfl, m5.no rd, false, ?_, ha.keep rd id, by rw [hset]; exact hn.keep rd id⟩
            refine ⟨fun e => (by cases e), fun e => ?_⟩
            exfalso
            by_cases h0 : k = 0
            · subst h0
              rw [htk] at e
              exact Mt.oneZero hd e
            · obtain ⟨j, rfl⟩ : ∃ j, k = j + 1 := ⟨k - 1, by omega⟩
              have hSj : S[j]? = some S[j] := List.getElem?_eq_getElem (by omega)
              rw [htk, Mt.oneSucc hd hSj] at e
              have := hb.2 ⟨j, _, rfl, hSj, e.1⟩
              rw [h4] at this; cases this
      · rintro z w13 ⟨m13, v, y', rfl, hv, h9, h10⟩
        exact ⟨⟨m13, fin v w13 _ y' hv rfl m13 h9 h10⟩, by rw [wrap64 (by omega) (by omega)]; simp [nI, nth]; omega⟩
    · have h2 := of_decide_eq_false h2
      have hk2 : k = S.length + 1 := by omega
      subst hk2
      rw [wrap64 (by omega) (by omega)]
      exact ⟨⟨m5, i + 1, w3.heap.size, nb, _, _, _, by omega, rfl, hn, hnl, fun j b hb => hdone j b (by have := (List.getElem?_eq_some_iff.1 hb).1; omega) hb⟩, by simp [nI, nth]; omega⟩
  · have h := of_decide_eq_false h
    have hil : i = P.length := by omega
    subst hil
    have hbk : bs[S.length]? = some bs[S.length] := List.getElem?_eq_getElem (by omega)
    have hbr := hrow _ _ hbk
    rw [List.take_length, List.take_length] at hbr
    exact ⟨_, _, _, rfl, _, ixB (by omega), _, ldB hat.at hbk, hk w3 _ m3 hbr⟩
end
end Go.Proofs.YtiahkkekcmgkfaaDoor
end
section
/- Layer 34: the paths whose last names are as a pattern says. -/
open Go Go.Den Go.Proofs
namespace Go.Den
/-- A path's last name. -/
def lastN (s : Bs) : Bs := (s.reverse.takeWhile fun c => decide (c ≠ 47)).reverse
theorem takeWhile_all {p : UInt8 → Bool} : ∀ {l r : Bs} {c : UInt8}, (∀ x ∈ l, p x = true) → p c = false → (l ++ c :: r).takeWhile p = l
  | [], r, c, _, hc => by rw [List.nil_append, List.takeWhile_cons, hc]; rfl
  | a :: l, r, c, h, hc => by
    rw [List.cons_append, List.takeWhile_cons, h a (by simp), if_pos rfl, takeWhile_all (fun x hx => h x (List.mem_cons_of_mem _ hx)) hc]
theorem Cut.last {s d n : Bs} (h : Cut s d n) : lastN s = n := by
  unfold lastN
  rw [h.1, List.reverse_append, List.reverse_cons, List.append_assoc]
  have : ([47] ++ d.reverse : Bs) = 47 :: d.reverse := rfl
  rw [this, takeWhile_all (fun x hx => ?_) (by simp), List.reverse_reverse]
  have hx : x ∈ n := List.mem_reverse.1 hx
  exact decide_eq_true fun e => h.2 (by rw [← e]; exact hx)
noncomputable def hitB (pat : Bs) (e : Tn) : Bool := @decide (Mt pat (lastN e.path)) (Classical.propDecidable _)
theorem hitB_iff {pat : Bs} {e : Tn} : hitB pat e = true ↔ Mt pat (lastN e.path) := by unfold hitB; exact @decide_eq_true_iff _ (Classical.propDecidable _)
/-- The paths, among the first entries. -/
noncomputable def fnd (pat : Bs) (l : List Tn) (n : Nat) : List Bs := (((l.take n).drop 1).filter (hitB pat)).map (·.path)
theorem fnd_one (pat : Bs) (l : List Tn) : fnd pat l 1 = [] := by
  unfold fnd
  have : (l.take 1).drop 1 = [] := List.drop_eq_nil_of_le (by rw [List.length_take]; omega)
  rw [this]; rfl
theorem fnd_succ {pat : Bs} {l : List Tn} {n : Nat} {e : Tn} (h : l[n]? = some e) (hn : 1 ≤ n) : fnd pat l (n + 1) = fnd pat l n ++ (if hitB pat e = true then [e.path] else []) := by
  obtain ⟨hi, he⟩ := List.getElem?_eq_some_iff.1 h
  unfold fnd
  have e1 : (l.take (n + 1)).drop 1 = (l.take n).drop 1 ++ [e] := by
    rw [List.take_succ_eq_append_getElem hi, he, List.drop_append, List.length_take, show 1 - min n l.length = 0 by omega]; rfl
  rw [e1, List.filter_append, List.map_append]
  congr 1
  cases hb : hitB pat e <;> simp [hb]
theorem fnd_len (pat : Bs) (l : List Tn) (n : Nat) : (fnd pat l n).length ≤ n := by
  unfold fnd
  rw [List.length_map]
  refine Nat.le_trans (List.length_filter_le _ _) ?_
  rw [List.length_drop, List.length_take]; omega
theorem LastAt.cut {x d n : Bs} {k : Int} (h : LastAt x 47 k) (hc : Cut x d n) : ∃ i : Nat, k = i ∧ i + 1 ≤ x.length ∧ x.drop (i + 1) = n := by
  rcases h with ⟨_, h⟩ | ⟨i, rfl, h1, h2⟩
  · exact absurd (by rw [hc.1]; simp) h
  · have h3 := cut_at h1 h2
    have := (List.getElem?_eq_some_iff.1 h1).1
    exact ⟨i, rfl, by omega, (h3.inj hc).2⟩
theorem RightL.cut {l : List Tn} (h : RightL l) {i : Nat} {e : Tn} (h1 : 1 ≤ i) (he : l[i]? = some e) : ∃ d n, Cut e.path d n ∧ n.length ≤ 24 := by
  obtain ⟨p, e', _, he', ⟨d, n, hc, _, hn⟩, _⟩ := h.2 i h1 (List.getElem?_eq_some_iff.1 he).1
  rw [he] at he'; cases he'
  exact ⟨d, n, hc, (nameB_len hn).2⟩
end Go.Den
namespace Go.Proofs.YtiahkkekcmgkfaaDoor
section
variable {w : World} {K : Value → World → Prop}
theorem Find_c {a : Option Addr} {l : List Tn} {x : Bs} {c : Nat} (hP : PE w a l) (hbd : BdE l) (hn : l.length ≤ 1000) (hc : l.length ≤ c) (hg : Gl w)
    (hbad : ¬ RightL l → ∀ w', Mod No w w' → K (.tuple #[.slice none 0 0, .int .i64 1]) w')
    (hnone : RightL l → ¬ (1 ≤ x.length ∧ x.length ≤ 40) → ∀ w', Mod No w w' → K (.tuple #[.slice none 0 0, .int .i64 25]) w')
    (hok : RightL l → 1 ≤ x.length → x.length ≤ 40 → ∀ w' a' c', Mod No w w' → Row w' a' (sL (fnd x l l.length)) → K (.tuple #[.slice a' (fnd x l l.length).length c', .int .i64 0]) w') :
    Cal Tryd.prog F_diff_Find #[.slice a l.length c, .string (sB x)] w K := by
  apply C_diff_Find
  unfold D_diff_Find
  have hsx := sB_size x
  refine dRight_c hP hbd hn hc hg fun w1 b m1 hb => ⟨_, rfl, cond_of (fun h => ?_) (fun h => ?_)⟩
  · have h : b = false := by simpa using h
    refine hbad (fun hr => ?_) _ m1
    have := hb.2 hr; rw [h] at this; cases this
  have h : b = true := by simpa using h
  have hR := hb.1 h
  refine Share.cut (fun z w2 => w2 = w1 ∧ z = [.bool (decide (¬ (1 ≤ x.length ∧ x.length ≤ 40)))]) ?_ ?_
  · rw [beq_empty, hsx]
    refine cond_of (fun h2 => ⟨rfl, ?_⟩) (fun h2 => ⟨rfl, ?_⟩)
    · have := of_decide_eq_true h2; subst this; simp
    · have := of_decide_eq_false h2
      have : 1 ≤ x.length := by cases x with | nil => exact absurd rfl this | cons a r => simp
      congr 2
      rw [Bool.eq_iff_iff, decide_eq_true_eq, decide_eq_true_eq]; omega
  rintro z w2 ⟨rfl, rfl⟩
  refine ⟨_, rfl, cond_of (fun h2 => ?_) (fun h2 => ?_)⟩
  · exact hnone hR (of_decide_eq_true h2) _ m1
  have hx := Classical.not_not.1 (of_decide_eq_false h2)
  have hlpos : 0 < l.length := by
    obtain ⟨e, he, _⟩ := hR.1
    exact (List.getElem?_eq_some_iff.1 he).1
  have hsl := fun w => slice_l (P := Tryd.prog) (T := 28) (k := 5) (n := l.length) (c := c) (a := a) (k1 := .i64) (l := (1 : Int)) (by kernel_rfl) (by omega) (by omega) w
  have e1 : (1 : Int).toNat = 1 := rfl
  rw [e1] at hsl
  refine ⟨_, _, _, hsl, ?_⟩
  refine ⟨fun z w3 => Mod No w w3 ∧ ∃ (n : Nat) (a' : Option Addr) (c' : Nat), n + 1 ≤ l.length ∧ z = [.slice a' (fnd x l (n + 1)).length c', .int .i64 n] ∧ Own Tryd.prog w3 w2.heap.size 52 1 a' (fnd x l (n + 1)).length c' (sL (fnd x l (n + 1))) ∧ w2.heap.size ≤ w3.heap.size, fun z _ => (l.length - nI z 1).toNat,
    ⟨m1, 0, none, 0, hlpos, by rw [fnd_one]; rfl, by rw [fnd_one]; exact Own.nil elemZ_strings, Nat.le_refl _⟩, ?_⟩
  rintro z w3 ⟨m3, n, a', c', hnl, rfl, how, hbase⟩
  refine ⟨_, rfl, cond_of (fun h3 => ?_) (fun h3 => ?_)⟩
  · have h3 := of_decide_eq_true h3
    have hnx : n + 1 < l.length := by omega
    have he : l[n + 1]? = some l[n + 1] := List.getElem?_eq_getElem hnx
    generalize l[n + 1] = e at he
    obtain ⟨d, nm, hcut, hnm⟩ := hR.cut (by omega) he
    have hfs := fnd_succ (pat := x) he (by omega)
    have hfl := fnd_len x l (n + 1)
    have hhit := hitB_iff (pat := x) (e := e)
    rw [hcut.last] at hhit
    obtain ⟨g, o, hd, rfl, ix, lq, la, _⟩ := PE.at (hP.nos m3) he
    have ix3 : Al (Instr.indexAt 28 (.slice (cutA (some ⟨g, o, none⟩) c 1 5) (l.length - 1) (c - 1)) (.int .i64 n)) (.pointer (some ⟨g, o + (n + 1) * 5, none⟩)) := fun w => by
      have hcut2 : cutA (some ⟨g, o, none⟩) c 1 5 = some ⟨g, o + 5, none⟩ := by
        unfold cutA
        rw [if_neg (by omega)]
        simp [add_none]
      rw [hcut2, index_slice (k := 5) (by kernel_rfl) (by omega) (by omega) w, add_none, Int.toNat_natCast, show o + 5 + n * 5 = o + (n + 1) * 5 by omega]
    obtain ⟨w4, w5, c1, c2, hat, m5⟩ := copy_pE (w := w3) (z := (e, hd)) (T := 64) rfl
    have ld : ∀ w', Mod No w5 w' → Ru (Instr.loadAt 9 (.pointer (some (Addr.add ⟨w3.heap.size, 0, none⟩ 0)))) w' (.string (sB e.path)) w' := fun w' m => by
      rw [add_none]; exact (hat.keep m id).load (by kernel_rfl) rfl
    have rd := (Mod.refl No w5).drew
    have hep := hbd e (List.mem_of_getElem? he)
    refine ⟨_, ix3, _, la _ (Mod.refl _ _), _, w4, c1, w5, c2, _, ld _ rd, _, ld _ rd, LastIndexByte_c (c := 47) (by omega) fun k hk => ?_⟩
    obtain ⟨i, rfl, hi1, hi2⟩ := hk.cut hcut
    have hfr := from_run (x := e.path) (i := i + 1) hi1
    rw [hi2] at hfr
    have eI : IntKind.i64.wrap ((i : Int) + 1) = ((i + 1 : Nat) : Int) := by rw [wrap64 (by omega) (by omega)]; omega
    refine ⟨_, rfl, ld _ rd, ?_⟩
    rw [eI]
    refine ⟨_, hfr, match_c (by rw [hsx]; omega) (by rw [sB_size]; omega) fun w7 b7 m7 hb7 => ⟨_, rfl, ?_⟩⟩
    have M7 : Mod No w3 w7 := m5.no (rd.no m7)
    have hb7 : b7 = hitB x e := by
      rw [Bool.eq_iff_iff, hb7, hhit]; rfl
    subst hb7
    rw [wrap64 (x := (n : Int) + 1) (by omega) (by omega)]
    refine Share.cut (fun z w10 => Mod No w w10 ∧ w2.heap.size ≤ w10.heap.size ∧ ∃ (a' : Option Addr) (c' : Nat), z = [.slice a' (fnd x l (n + 1 + 1)).length c'] ∧ Own Tryd.prog w10 w2.heap.size 52 1 a' (fnd x l (n + 1 + 1)).length c' (sL (fnd x l (n + 1 + 1)))) (cond_of (fun h4 => ?_) (fun h4 => ?_)) ?_
    · rw [h4, if_pos rfl] at hfs
      have hs7 := M7.size
      obtain ⟨a1, l1, c1, w8, p1, a2, c2, w9, p2, p3, p4⟩ := snocS e.path (how.nos M7) (by omega) (by omega)
      refine ⟨_, _, _, rfl, _, ld _ (rd.no m7), a1, l1, c1, w8, p1, a2, _, c2, w9, p2, (m3.no M7).trans p4 fun y hy e2 => by have := m1.size; omega, by have := p4.size; omega, a2, c2, ?_, ?_⟩
      · rw [hfs, List.length_append, List.length_singleton]
      · rw [hfs, List.length_append, List.length_singleton]; exact p3
    · rw [h4, if_neg (by simp), List.append_nil] at hfs
      rw [hfs]
      exact ⟨m3.no M7, by have := M7.size; omega, a', c', rfl, how.nos M7⟩
    rintro z w10 ⟨m10, hs10, a2, c2, rfl, how2⟩
    exact ⟨⟨m10, n + 1, a2, c2, by omega, rfl, how2, hs10⟩, by simp [nI, nth]; omega⟩
  · have h3 := of_decide_eq_false h3
    have hnl2 : n + 1 = l.length := by omega
    rw [hnl2] at how ⊢
    exact ⟨_, _, _, rfl, hok hR hx.1 hx.2 w3 a' c' m3 how.rowU.row⟩
theorem rFindP_c {a : Option Addr} {l : List Tn} {x : Bs} {c : Nat} (hP : RE w a l) (hbd : BdE l) (hn : l.length ≤ 1000)
    (hbad : ¬ RightL l → ∀ w', Mod No w w' → K (.tuple #[.slice none 0 0, .int .i64 1]) w')
    (hnone : RightL l → ¬ (1 ≤ x.length ∧ x.length ≤ 40) → ∀ w', Mod No w w' → K (.tuple #[.slice none 0 0, .int .i64 25]) w')
    (hok : RightL l → 1 ≤ x.length → x.length ≤ 40 → ∀ w' a' c', Mod No w w' → Row w' a' (sL (fnd x l l.length)) → K (.tuple #[.slice a' (fnd x l l.length).length c', .int .i64 0]) w') :
    Cal Tryd.prog F_leveeref34_Find #[.slice a l.length c, .string (sB x)] w K := by
  apply C_leveeref34_Find
  unfold D_leveeref34_Find
  have hsx := sB_size x
  refine rRight_c hP hbd hn fun w1 b m1 hb => ⟨_, rfl, cond_of (fun h => ?_) (fun h => ?_)⟩
  · have h : b = false := by simpa using h
    refine hbad (fun hr => ?_) _ m1
    have := hb.2 hr; rw [h] at this; cases this
  have h : b = true := by simpa using h
  have hR := hb.1 h
  refine Share.cut (fun z w2 => w2 = w1 ∧ z = [.bool (decide (¬ (1 ≤ x.length ∧ x.length ≤ 40)))]) ?_ ?_
  · rw [hsx]
    refine cond_of (fun h2 => ⟨rfl, ?_⟩) (fun h2 => ⟨rfl, ?_⟩)
    · have := of_decide_eq_true h2
      have : ¬ (1 ≤ x.length ∧ x.length ≤ 40) := by omega
      simp [this]
    · have := of_decide_eq_false h2
      congr 2
      rw [Bool.eq_iff_iff, decide_eq_true_eq, decide_eq_true_eq]; omega
  rintro z w2 ⟨rfl, rfl⟩
  refine ⟨_, rfl, cond_of (fun h2 => ?_) (fun h2 => ?_)⟩
  · exact hnone hR (of_decide_eq_true h2) _ m1
  have hx := Classical.not_not.1 (of_decide_eq_false h2)
  have hlpos : 0 < l.length := by
    obtain ⟨e, he, _⟩ := hR.1
    exact (List.getElem?_eq_some_iff.1 he).1
  refine ⟨fun z w3 => Mod No w w3 ∧ ∃ (n : Nat) (a' : Option Addr) (c' : Nat) (y : Value), 1 ≤ n ∧ n ≤ l.length ∧ z = [.slice a' (fnd x l n).length c', .int .i64 n, y] ∧ Own Tryd.prog w3 w2.heap.size 52 1 a' (fnd x l n).length c' (sL (fnd x l n)) ∧ w2.heap.size ≤ w3.heap.size, fun z _ => (l.length - nI z 1).toNat,
    ⟨m1, 1, none, 0, _, Nat.le_refl _, hlpos, by rw [fnd_one]; rfl, by rw [fnd_one]; exact Own.nil elemZ_strings, Nat.le_refl _⟩, ?_⟩
  rintro z w3 ⟨m3, n, a', c', y, hn1, hnl, rfl, how, hbase⟩
  refine ⟨_, rfl, cond_of (fun h3 => ?_) (fun h3 => ?_)⟩
  · have h3 := of_decide_eq_true h3
    have hnx : n < l.length := by omega
    have he : l[n]? = some l[n] := List.getElem?_eq_getElem hnx
    generalize l[n] = e at he
    obtain ⟨d, nm, hcut, hnm⟩ := hR.cut hn1 he
    have hfs := fnd_succ (pat := x) he hn1
    have hfl := fnd_len x l n
    have hhit := hitB_iff (pat := x) (e := e)
    rw [hcut.last] at hhit
    obtain ⟨g, o, rfl, ix, lq, la⟩ := RE.at (hP.nos m3) he
    have hep := hbd e (List.mem_of_getElem? he)
    have hsp := sB_size e.path
    have h47 : (47 : UInt8) ∈ e.path := by rw [hcut.1]; simp
    refine ⟨_, ix _ _ hnx, _, lq 0 9 (.string (sB e.path)) (by kernel_rfl) rfl _ (Mod.refl _ _), ?_⟩
    rw [hsp]
    refine ⟨fun z w4 => w4 = w3 ∧ ∃ k : Nat, k ≤ e.path.length ∧ z = [.int .i64 k] ∧ ∀ j, k ≤ j → e.path[j]? ≠ some 47, fun z _ => (nI z 0).toNat, ⟨rfl, e.path.length, Nat.le_refl _, rfl, fun j hj e2 => by rw [List.getElem?_eq_none hj] at e2; cases e2⟩, ?_⟩
    rintro z w4 ⟨rfl, k, hkl, rfl, hno⟩
    have hk1 : 1 ≤ k := by
      rcases Nat.eq_zero_or_pos k with h4 | h4
      · subst h4
        obtain ⟨j, hj⟩ := List.mem_iff_getElem?.1 h47
        exact absurd hj (hno j (Nat.zero_le _))
      · exact h4
    have hgk : e.path[k - 1]? = some e.path[k - 1] := List.getElem?_eq_getElem (by omega)
    have eK : IntKind.i64.wrap ((k : Int) - 1) = ((k - 1 : Nat) : Int) := by rw [wrap64 (by omega) (by omega)]; omega
    generalize e.path[k - 1] = ck at hgk
    refine ⟨_, rfl, ?_⟩
    rw [eK]
    refine ⟨_, ix_run hgk, ?_⟩
    rw [bne_47]
    refine cond_of (fun h4 => ?_) (fun h4 => ?_)
    · have h4 := of_decide_eq_true h4
      refine ⟨⟨rfl, k - 1, by omega, rfl, fun j hj => ?_⟩, by simp [nI, nth]; omega⟩
      by_cases e2 : j = k - 1
      · subst e2; rw [hgk]; exact fun e3 => h4 (by simpa using e3)
      · exact hno j (by omega)
    · have h4 : ck = 47 := by simpa using h4
      rw [h4] at hgk
      have hc2 := cut_at hgk fun j hj => hno j (by omega)
      rw [show k - 1 + 1 = k by omega] at hc2
      have hdr := (hc2.inj hcut).2
      have hfr := from_run (x := e.path) (i := k) hkl
      rw [hdr] at hfr
      refine ⟨_, hfr, rMatch_c (by omega) (by omega) fun w7 b7 m7 hb7 => ⟨_, rfl, ?_⟩⟩
      have hb7 : b7 = hitB x e := by rw [Bool.eq_iff_iff, hb7, hhit]
      subst hb7
      rw [wrap64 (x := (n : Int) + 1) (by omega) (by omega)]
      refine Share.cut (fun z w10 => Mod No w w10 ∧ w2.heap.size ≤ w10.heap.size ∧ ∃ (a' : Option Addr) (c' : Nat), z = [.slice a' (fnd x l (n + 1)).length c'] ∧ Own Tryd.prog w10 w2.heap.size 52 1 a' (fnd x l (n + 1)).length c' (sL (fnd x l (n + 1)))) (cond_of (fun h5 => ?_) (fun h5 => ?_)) ?_
      · rw [h5, if_pos rfl] at hfs
        have hs7 := m7.size
        obtain ⟨a1, l1, c1, w8, p1, a2, c2, w9, p2, p3, p4⟩ := snocS e.path (how.nos m7) (by omega) (by omega)
        refine ⟨_, _, _, rfl, a1, l1, c1, w8, p1, a2, _, c2, w9, p2, (m3.no m7).trans p4 fun y hy e2 => by have := m1.size; omega, by have := p4.size; omega, a2, c2, ?_, ?_⟩
        · rw [hfs, List.length_append, List.length_singleton]
        · rw [hfs, List.length_append, List.length_singleton]; exact p3
      · rw [h5, if_neg (by simp), List.append_nil] at hfs
        rw [hfs]
        exact ⟨m3.no m7, by have := m7.size; omega, a', c', rfl, how.nos m7⟩
      rintro z w10 ⟨m10, hs10, a2, c2, rfl, how2⟩
      exact ⟨⟨m10, n + 1, a2, c2, _, by omega, by omega, rfl, how2, hs10⟩, by simp [nI, nth]; omega⟩
  · have h3 := of_decide_eq_false h3
    have hnl2 : n = l.length := by omega
    subst hnl2
    exact ⟨_, _, _, rfl, hok hR hx.1 hx.2 w3 a' c' m3 how.rowU.row⟩
theorem Texts_c {a b : Option Addr} {X Y : List Bs} {c d : Nat} (h0 : Row w a (sL X)) (h1 : Row w b (sL Y)) (hn : X.length ≤ 100000) (hk : ∀ w' r, Mod No w w' → (r = true ↔ X = Y) → K (.bool r) w') : Cal Tryd.prog F_leveeref17_Texts #[.slice a X.length c, .slice b Y.length d] w K := by
  apply C_leveeref17_Texts
  unfold D_leveeref17_Texts
  rw [bne_int]
  refine cond_of (fun h => ?_) (fun h => ?_)
  · have h := of_decide_eq_true h
    exact hk _ _ (Mod.refl _ _) ⟨fun e => (by cases e), fun e => absurd (by rw [e]) h⟩
  have h : (X.length : Int) = (Y.length : Int) := by simpa using h
  have hlm : X.length = Y.length := by omega
  refine ⟨fun z w1 => Mod No w w1 ∧ ∃ n : Nat, n ≤ X.length ∧ z = [.int .i64 n] ∧ X.take n = Y.take n, fun z _ => (X.length - nI z 0).toNat, ⟨Mod.refl _ _, 0, Nat.zero_le _, rfl, rfl⟩, ?_⟩
  rintro z w1 ⟨m1, n, hnl, rfl, ht⟩
  refine ⟨_, rfl, cond_of (fun h => ?_) (fun h => ?_)⟩
  · have h := of_decide_eq_true h
    have hnx : n < X.length := by omega
    have hny : n < Y.length := by omega
    have hx : X[n]? = some X[n] := List.getElem?_eq_getElem hnx
    have hy : Y[n]? = some Y[n] := List.getElem?_eq_getElem hny
    have e1 := List.take_succ_eq_append_getElem hnx
    have e2 := List.take_succ_eq_append_getElem hny
    generalize X[n] = x at *
    generalize Y[n] = y at *
    obtain ⟨g1, o1, rfl, hat1⟩ := row_str (h0.nos m1) hnx
    obtain ⟨g2, o2, rfl, hat2⟩ := row_str (h1.nos m1) hny
    refine ⟨_, index_slice (k := 1) (by kernel_rfl) (by omega) (by omega), ?_⟩
    rw [add_none, show (n : Int).toNat * 1 = n by omega]
    refine ⟨_, hat1.drew.load (by kernel_rfl) (sL_get hx), _, index_slice (k := 1) (by kernel_rfl) (by omega) (by omega), ?_⟩
    rw [add_none, show (n : Int).toNat * 1 = n by omega]
    refine ⟨_, hat2.drew.load (by kernel_rfl) (sL_get hy), ?_⟩
    rw [beq_sB]
    refine cond_of (fun h2 => ?_) (fun h2 => ?_)
    · have h2 : x ≠ y := by simpa using h2
      refine hk _ _ m1.drew ⟨fun e => (by cases e), fun e => ?_⟩
      rw [e, hy] at hx
      exact absurd (Option.some.inj hx).symm h2
    · have h2 : x = y := by simpa using h2
      rw [wrap64 (by omega) (by omega)]
      exact ⟨⟨m1.drew, n + 1, by omega, rfl, by rw [e1, e2, ht, h2]⟩, by simp [nI, nth]; omega⟩
  · have h := of_decide_eq_false h
    refine hk _ _ m1 ⟨fun _ => ?_, fun _ => rfl⟩
    rw [List.take_of_length_le (by omega), List.take_of_length_le (by omega)] at ht
    exact ht
end
end Go.Proofs.YtiahkkekcmgkfaaDoor
end
section
/- Layer 34: the fixed calls. -/
open Go Go.Den Go.Proofs
namespace Go.Den
/-- A tree of a directory, with a file of a name. -/
def oneT (x : Bs) : List Tn := [⟨[], 2, [], [], -1⟩, ⟨[47, 97], 2, [], [], -1⟩, ⟨[47, 97, 47] ++ x, 1, [], [104, 105], -1⟩]
theorem ord_nil_lt {b : Bs} (hb : Rooted b) (h : b ≠ []) : ordP [] b < 0 := by
  have h1 := ord_nil hb
  have h2 : ordP [] b ≠ 0 := fun e => h (ord_zero.1 e).symm
  omega
theorem ord_more {x r : Bs} (hr : Rooted r) (h : r ≠ []) : ordP x (x ++ r) < 0 := by
  have := ord_app (x := x) (a := []) (.inl rfl) hr
  rw [List.append_nil] at this
  rw [this]; exact ord_nil_lt hr h
theorem oneT_right {x : Bs} (hx : nameB x = true) : RightL (oneT x) := by
  have hno : (47 : UInt8) ∉ x := fun h => by
    unfold nameB at hx
    simp only [Bool.and_eq_true] at hx
    have := (List.all_eq_true.1 hx.1.2) 47 h
    simp at this
  refine ⟨⟨_, rfl, rfl, rfl, rfl, rfl, rfl⟩, fun j h1 hj => ?_⟩
  have hj : j < 3 := hj
  rcases (by omega : j = 1 ∨ j = 2) with rfl | rfl
  · refine ⟨_, _, rfl, rfl, ⟨[], [97], ⟨rfl, by decide⟩, ⟨0, _, by omega, rfl, rfl, rfl⟩, by decide⟩, ord_nil_lt (.inr ⟨_, rfl⟩) (by simp), ?_⟩
    exact ⟨by decide, by decide, by decide, fun _ => rfl, fun _ => rfl, .inl ⟨rfl, fun h => absurd h (by decide)⟩⟩
  · refine ⟨_, _, rfl, rfl, ⟨[47, 97], x, ⟨rfl, hno⟩, ⟨1, _, by omega, rfl, rfl, rfl⟩, hx⟩, ?_, ?_⟩
    · exact ord_more (x := [47, 97]) (r := 47 :: x) (.inr ⟨_, rfl⟩) (by simp)
    · exact ⟨by show (1 : Int) ≤ 1; omega, by show (1 : Int) ≤ 3; omega, by show 2 ≤ 65536; omega, fun h => absurd rfl h, fun _ => rfl, .inl ⟨rfl, fun h => absurd h (by show ¬ (1 : Int) = 3; omega)⟩⟩
theorem oneT_bd {x : Bs} (hx : x.length ≤ 100) : BdE (oneT x) := by
  intro e he
  simp [oneT] at he
  rcases he with rfl | rfl | rfl
  · simp
  · simp
  · simp; omega
theorem known_all {out : List Chg} (h : AllE (oneT [102]) (oneT [103]) out) : out = [(1, [47, 97, 47, 102]), (2, [47, 97, 47, 103])] := by
  have hA : AscP ((oneT [102]).map (·.path)) := (oneT_right (x := [102]) (by decide)).ascP
  have hB : AscP ((oneT [103]).map (·.path)) := (oneT_right (x := [103]) (by decide)).ascP
  have s0 := Mg.start ((oneT [102]).map (·.path)) ((oneT [103]).map (·.path)) (alE (oneT [102]) (oneT [103]))
  have s1 := s0.both hA hB (x := []) rfl rfl
  have e1 : alE (oneT [102]) (oneT [103]) 0 0 = true := by decide
  rw [if_pos e1] at s1
  have s2 := s1.both hA hB (x := [47, 97]) rfl rfl
  have e2 : alE (oneT [102]) (oneT [103]) 1 1 = true := by decide
  rw [if_pos e2] at s2
  have s3 := s2.gone hA hB (x := [47, 97, 47, 102]) rfl (fun y hy => by
    have hy : y = [47, 97, 47, 103] := by
      have : some [47, 97, 47, 103] = some y := hy
      exact (Option.some.inj this).symm
    subst hy; decide)
  have s4 := s3.new hA hB (y := [47, 97, 47, 103]) rfl (fun y hy => by
    have hy : none = some y := hy
    cases hy)
  have s5 : All ((oneT [102]).map (·.path)) ((oneT [103]).map (·.path)) (alE (oneT [102]) (oneT [103])) _ := Mg.all s4
  exact All.eq h s5
theorem known_fnd : fnd [102, 42] (oneT [102]) 3 = [[47, 97, 47, 102]] := by
  have h1 : hitB [102, 42] ⟨[47, 97], 2, [], [], -1⟩ = false := by
    rw [Bool.eq_false_iff]
    intro h
    rw [hitB_iff] at h
    have : lastN [47, 97] = [97] := rfl
    rw [this, Mt.one (by decide)] at h
    rcases h.1 with h | h
    · cases h
    · cases h
  have h2 : hitB [102, 42] ⟨[47, 97, 47] ++ [102], 1, [], [104, 105], -1⟩ = true := by
    rw [hitB_iff]
    have : lastN ([47, 97, 47] ++ [102]) = [102] := rfl
    rw [this, Mt.one (by decide)]
    exact ⟨.inr rfl, Mt.stars.2 (by simp)⟩
  rw [fnd_succ (n := 2) (e := ⟨[47, 97, 47] ++ [102], 1, [], [104, 105], -1⟩) rfl (by omega), fnd_succ (n := 1) (e := ⟨[47, 97], 2, [], [], -1⟩) rfl (by omega), fnd_one, h1, h2]
  rfl
end Go.Den
namespace Go.Proofs.YtiahkkekcmgkfaaDoor
theorem build_k0 : Al (Instr.build 64 #[(1, .int .i64 2), (4, .int .i64 (-1))]) (.agg ⟨pV (⟨[], 2, [], [], -1⟩, (none, 0))⟩) := fun w => by kernel_rfl
theorem build_k1 : Al (Instr.build 64 #[(0, .string (⟨#[47, 97]⟩)), (1, .int .i64 2), (4, .int .i64 (-1))]) (.agg ⟨pV (⟨[47, 97], 2, [], [], -1⟩, (none, 0))⟩) := fun w => by kernel_rfl
theorem build_k2 (s : ByteArray) (a : Option Addr) (l c : Nat) : Al (Instr.build 64 #[(0, .string s), (1, .int .i64 1), (3, .slice a l c), (4, .int .i64 (-1))]) (.agg ⟨[.string s, .int .i64 1, .string ByteArray.empty, .slice a l c, .int .i64 (-1)]⟩) := fun w => by kernel_rfl
theorem built_hi (w : World) : (Instr.buildSlice 62 2 #[(0, .int .u8 104), (1, .int .u8 105)]).run Tryd.prog w = .ok (.slice (some ⟨w.heap.size, 0, none⟩) 2 2) (w.alloc (.cells ⟨u8L [104, 105]⟩ 5)) := by kernel_rfl
theorem conv_hi (w : World) : (convert 62 62 (.slice (some ⟨w.heap.size, 0, none⟩) 2 2)).run Tryd.prog (w.alloc (.cells ⟨u8L [104, 105]⟩ 5)) =
    .ok (.slice (some ⟨w.heap.size, 0, none⟩) 2 2) (w.alloc (.cells ⟨u8L [104, 105]⟩ 5 (2, 3))) :=
  Go.Lib.run_convert_bytes_const (P := Tryd.prog) w 62 5 ⟨u8L [104, 105]⟩ 2 2 (by kernel_rfl) (by kernel_rfl)
theorem built_3 (w : World) (x y z : Tn × Option Addr × Nat) : (Instr.buildSlice 28 3 #[(0, .agg ⟨pV x⟩), (1, .agg ⟨pV y⟩), (2, .agg ⟨pV z⟩)]).run Tryd.prog w = .ok (.slice (some ⟨w.heap.size, 0, none⟩) 3 3) (w.alloc (.cells ⟨([x, y, z].map pV).flatten⟩ 64)) := by kernel_rfl
section
variable {w : World} {K : Value → World → Prop}
theorem one_c {x : Bs} (hx : x.length ≤ 100) (hk : ∀ w' a, Mod No w w' → PE w' a (oneT x) → K (.slice a (oneT x).length 3) w') : Cal Tryd.prog F_leveelaw34_one #[.string (sB x)] w K := by
  apply C_leveelaw34_one
  unfold D_leveelaw34_one
  let w1 := w.alloc (.cells ⟨u8L [104, 105]⟩ 5)
  let w2 := w.alloc (.cells ⟨u8L [104, 105]⟩ 5 (2, 3))
  have m2 : Mod No w w2 := (Mod.refl No w).alloc _
  have r2 : At w2 w.heap.size 0 (u8L [104, 105]) := ⟨_, _, _, heap_new w _, by simp [u8L], by simp [u8L, u8]⟩
  have hadd := add_run (x := [47, 97, 47]) (y := x) (a := .const (.string (⟨#[47, 97, 47]⟩))) (b := .tmp 5) (by simp; omega)
  let z2 : Tn × Option Addr × Nat := (⟨[47, 97, 47] ++ x, 1, [], [104, 105], -1⟩, (some ⟨w.heap.size, 0, none⟩, 2))
  let w3 := w2.alloc (.cells ⟨([(⟨[], 2, [], [], -1⟩, (none, 0)), (⟨[47, 97], 2, [], [], -1⟩, (none, 0)), z2].map pV).flatten⟩ 64)
  have m3 : Mod No w2 w3 := (Mod.refl No w2).alloc _
  refine ⟨_, build_k0, _, build_k1, _, hadd, _, _, _, w1, built_hi w, _, _, _, w2, conv_hi w, _, build_k2 _ _ _ _, _, _, _, w3, built_3 w2 (⟨[], 2, [], [], -1⟩, (none, 0)) (⟨[47, 97], 2, [], [], -1⟩, (none, 0)) z2, hk w3 _ (m2.no m3) ?_⟩
  refine ⟨[(⟨[], 2, [], [], -1⟩, (none, 0)), (⟨[47, 97], 2, [], [], -1⟩, (none, 0)), z2], rfl, .inr ⟨_, _, rfl, AtU.new.at⟩, fun z hz => ?_⟩
  simp only [List.mem_cons, List.mem_nil_iff, or_false] at hz
  rcases hz with rfl | rfl | rfl
  · exact ⟨.inl rfl, fun _ => ⟨rfl, rfl⟩⟩
  · exact ⟨.inl rfl, fun _ => ⟨rfl, rfl⟩⟩
  · exact ⟨.inr ⟨_, _, rfl, r2.keep m3 id⟩, fun h => by cases h⟩
set_option maxRecDepth 100000 in
theorem known_c (hg : Gl w) (hk : ∀ w', Mod No w w' → K (.bool true) w') : Cal Tryd.prog F_leveelaw34_known #[] w K := by
  apply C_leveelaw34_known
  unfold D_leveelaw34_known
  have rf := oneT_right (x := [102]) (by decide)
  have rg := oneT_right (x := [103]) (by decide)
  have bf := oneT_bd (x := [102]) (by decide)
  have bg := oneT_bd (x := [103]) (by decide)
  refine one_c (x := [102]) (by decide) fun w1 a1 m1 p1 => ⟨_, _, _, rfl, one_c (x := [103]) (by decide) fun w2 a2 m2 p2 => ⟨_, _, _, rfl, Trees_c (p1.nos m2) p2 bf bg (by decide) (by decide) (by decide) (by decide) ((hg.nos m1).nos m2) (fun h => absurd ⟨rf, rg⟩ h) fun _ _ w3 x3 c3 out m3 hall hce _ => ⟨_, _, _, _, rfl, ?_⟩⟩⟩
  have ho := known_all hall
  subst ho
  have M3 := (m1.no m2).no m3
  refine one_c (x := [102]) (by decide) fun w4 a4 m4 p4 => ⟨_, _, _, rfl, Sum_c p4 bf (by decide) (by decide) ((hg.nos M3).nos m4) (fun h => absurd rf h) fun _ w5 m5 => ⟨_, _, rfl, ?_⟩⟩
  have M5 := (M3.no m4).no m5
  let w6 := w5.alloc (.cells ⟨TotV tot0 0⟩ 39)
  let w7 := w5.alloc (.cells ⟨TotV (tot (oneT [102])) (((oneT [102]).length : Int) - 1)⟩ 39)
  have hst : RuU (Instr.storeAt 39 (.pointer (some ⟨w5.heap.size, 0, none⟩)) (.agg ⟨TotV (tot (oneT [102])) (((oneT [102]).length : Int) - 1)⟩)) w6 w7 := store_new (T := 39) (n := 5) agg_pT rfl rfl (one_TotV _ _)
  have m7 : Mod No w5 w7 := (Mod.refl No w5).alloc _
  have ht7 : At w7 w5.heap.size 0 (TotV (tot (oneT [102])) (((oneT [102]).length : Int) - 1)) := AtU.new.at
  have M7 := M5.no m7
  refine ⟨_, w6, alloc_pT w5, w7, hst, one_c (x := [102]) (by decide) fun w8 a8 m8 p8 => ⟨_, _, _, rfl, Below_c (x := [47, 97]) p8 bf (by decide) (by decide) ((hg.nos M7).nos m8) (fun h => absurd rf h) (fun _ h => absurd ⟨⟨[47, 97], 2, [], [], -1⟩, by simp [oneT], rfl, rfl⟩ h) fun _ _ w9 a9 c9 m9 p9 _ => ⟨_, _, _, _, rfl, ?_⟩⟩⟩
  have hbel : (bel (oneT [102]) [47, 97] (oneT [102]).length).out = [⟨[], 2, [], [], -1⟩, ⟨[47, 102], 1, [], [104, 105], -1⟩] := by rfl
  rw [hbel] at p9 ⊢
  have M9 := (M7.no m8).no m9
  refine one_c (x := [102]) (by decide) fun w10 a10 m10 p10 => ⟨_, _, _, rfl, Find_c (x := [102, 42]) p10 bf (by decide) (by decide) ((hg.nos M9).nos m10) (fun h => absurd rf h) (fun _ h => absurd (by decide) h) fun _ _ _ w11 a11 c11 m11 p11 => ⟨_, _, _, _, rfl, ?_⟩⟩
  have hfnd : fnd [102, 42] (oneT [102]) (oneT [102]).length = [[47, 97, 47, 102]] := known_fnd
  rw [hfnd] at p11 ⊢
  have M11 := (M9.no m10).no m11
  have n3 : Mod No w3 w11 := (((((m4.no m5).no m7).no m8).no m9).no m10).no m11
  have n7 : Mod No w7 w11 := ((m8.no m9).no m10).no m11
  have n9 : Mod No w9 w11 := m10.no m11
  obtain ⟨g, o, rfl, ix, lq, _⟩ := CE.at (T := 24) (.inr rfl) hce (i := 0) rfl
  obtain ⟨g', o', hga, ix1, lq1, _⟩ := CE.at (T := 24) (.inr rfl) hce (i := 1) rfl
  cases hga
  obtain ⟨g9, o9, hd9, rfl, ix9, lq9, _⟩ := PE.at p9 (i := 1) rfl
  have hz : ∀ {j : Nat} {T : TypeId} {v : Value}, scal Tryd.prog T = true → (TotV (tot (oneT [102])) (((oneT [102]).length : Int) - 1))[j]? = some v → Ru (Instr.loadAt T (.pointer (some (Addr.add ⟨w5.heap.size, 0, none⟩ j)))) w11 v w11 := fun hT hj => tot_load hT (ht7.keep n7 id) hj
  refine Share.cut (fun z w' => w' = w11 ∧ z = [.bool true]) (tt rfl (tt rfl ⟨_, ix 2 c3 (by omega), _, lq 0 3 (.int .i64 1) (by kernel_rfl) rfl _ n3, tt rfl ⟨_, ix 2 c3 (by omega), _, lq 1 9 (.string (sB [47, 97, 47, 102])) (by kernel_rfl) rfl _ n3, tt (beq_self_eq_true (sB [47, 97, 47, 102]).toList) ⟨_, ix1 2 c3 (by omega), _, lq1 0 3 (.int .i64 2) (by kernel_rfl) rfl _ n3, tt rfl
    ⟨_, ix1 2 c3 (by omega), _, lq1 1 9 (.string (sB [47, 97, 47, 103])) (by kernel_rfl) rfl _ n3, tt (beq_self_eq_true (sB [47, 97, 47, 103]).toList) (tt rfl ⟨_, hz (j := 0) (T := 3) (v := .int .i64 2) (by kernel_rfl) rfl, tt rfl ⟨_, hz (j := 1) (T := 3) (v := .int .i64 1) (by kernel_rfl) rfl, tt rfl ⟨_, hz (j := 3) (T := 3) (v := .int .i64 2) (by kernel_rfl) rfl, tt rfl ⟨_, hz (j := 4) (T := 2) (v := .int .i64 2) (by kernel_rfl) rfl, tt rfl
      (tt rfl (tt rfl ⟨_, ix9 2 c9 (by omega), _, lq9 0 9 (.string (sB [47, 102])) (by kernel_rfl) rfl _ n9, tt (beq_self_eq_true (sB [47, 102]).toList) (tt rfl ⟨rfl, rfl⟩)⟩))⟩⟩⟩⟩)⟩⟩⟩⟩)) ?_
  rintro z w' ⟨rfl, rfl⟩
  exact ⟨_, rfl, hk _ M11⟩
end
end Go.Proofs.YtiahkkekcmgkfaaDoor
end
section
/- Layer 34: the laws: changes from a tree to another one; names as a pattern says; what there is not. -/
open Go Go.Den Go.Proofs
namespace Go.Proofs.YtiahkkekcmgkfaaDoor
section
variable {w : World}
def Yes (w : World) : Value → World → Prop := fun v w' => v = .bool true ∧ Mod No w w'
theorem known_yes {w0 : World} (hg : Gl w) (m : Mod No w0 w) : Cal Tryd.prog F_leveelaw34_known #[] w fun r w' => ∃ b : Bool, r = .bool b ∧ Yes w0 (.bool b) w' := known_c hg fun w' m' => ⟨_, rfl, rfl, m.no m'⟩
theorem DiffFinds_l {a : Option Addr} {l : List Tn} {x : Bs} {c : Nat} (hP : RE w a l) (hb : BdE l) (hx : x.length ≤ 140737488355328) (hg : Gl w) : Cal Tryd.prog F_leveelaw34_DiffFinds #[.slice a l.length c, .string (sB x)] w (Yes w) := by
  apply C_leveelaw34_DiffFinds
  unfold D_leveelaw34_DiffFinds
  refine cond_of (fun h => known_yes hg (Mod.refl _ _)) (fun h => ?_)
  have h := of_decide_eq_false h
  have hn : l.length ≤ 1000 := by omega
  refine given_c hP hn fun w2 a2 c2 m2 p2 k2 => ⟨_, _, _, rfl, ?_⟩
  have tail : ∀ (w4 : World) (a1 a2 : Option Addr) (c1 c2 : Nat) (L : List Bs) (n : Int), Mod No w w4 → Row w4 a1 (sL L) → Row w4 a2 (sL L) → L.length ≤ 1000 →
      Share (fun k => Cal Tryd.prog F_leveeref17_Texts #[.slice a1 L.length c1, .slice a2 L.length c2] w4 fun r28 w5 => ∃ b28 : Bool, r28 = .bool b28 ∧ (bif b28 then (bif n == n then Cal Tryd.prog F_leveelaw34_known #[] w5 fun r35 w6 => ∃ b35 : Bool, r35 = .bool b35 ∧ k [.bool b35] w6 else k [.bool false] w5) else k [.bool false] w5)) fun x w7 => ∃ b4 : Bool, nth x 0 = .bool b4 ∧ Yes w (.bool b4) w7 := by
    intro w4 a1 a2 c1 c2 L n m4 r1 r2 hL
    refine Share.cut (fun z w7 => Mod No w w7 ∧ z = [.bool true]) (Texts_c r1 r2 (by omega) fun w5 r m5 hr => ⟨_, rfl, ?_⟩) ?_
    · have hr : r = true := hr.2 rfl
      subst hr
      exact tt rfl (tt (beq_self_eq_true n) (known_c ((hg.nos m4).nos m5) fun w6 m6 => ⟨_, rfl, (m4.no m5).no m6, rfl⟩))
    rintro z w7 ⟨m7, rfl⟩
    exact ⟨_, rfl, rfl, m7⟩
  refine Find_c p2 hb hn k2 (hg.nos m2) (fun hR w3 m3 => ⟨_, _, _, _, rfl, ?_⟩) (fun hR h1 w3 m3 => ⟨_, _, _, _, rfl, ?_⟩) (fun hR h1 h2 w3 a3 c3 m3 r3 => ⟨_, _, _, _, rfl, ?_⟩)
  · refine rFindP_c (hP.nos (m2.no m3)) hb hn (fun _ w4 m4 => ⟨_, _, _, _, rfl, ?_⟩) (fun hR2 => absurd hR2 hR) (fun hR2 => absurd hR2 hR)
    exact tail w4 none none 0 0 [] 1 ((m2.no m3).no m4) (.inl rfl) (.inl rfl) (by simp)
  · refine rFindP_c (hP.nos (m2.no m3)) hb hn (fun hR2 => absurd hR hR2) (fun _ _ w4 m4 => ⟨_, _, _, _, rfl, ?_⟩) (fun _ h3 h4 => absurd ⟨h3, h4⟩ h1)
    exact tail w4 none none 0 0 [] 25 ((m2.no m3).no m4) (.inl rfl) (.inl rfl) (by simp)
  · refine rFindP_c (hP.nos (m2.no m3)) hb hn (fun hR2 => absurd hR hR2) (fun _ h3 => absurd ⟨h1, h2⟩ h3) (fun _ _ _ w4 a4 c4 m4 r4 => ⟨_, _, _, _, rfl, ?_⟩)
    have hfl := fnd_len x l l.length
    exact tail w4 a3 a4 c3 c4 _ 0 ((m2.no m3).no m4) (r3.nos m4) r4 (by omega)
end
end Go.Proofs.YtiahkkekcmgkfaaDoor
end
section
/- Statements over listed tables: the wrap that hands on the world's shape; the witness's world; the entries that came in. -/
open Go Go.Den
namespace Go.Proofs.YtiahkkekcmgkfaaDoor
open Go.ChangeShapes Go.WideShapes Go.ChangeAt Go.RowKit Go.Joins

theorem handed_shaped {H : Type} {enc : TypeId × Value → H} {a : Assume} {C : Checked} {os : Os} {f : FuncId} {fn : Func} {s : ChangeSpec} {conds : List PathCond} {apart fresh handsOn again : Bool} {X : World → Array Value → Prop}
    (own : ownKnob C.prog.godebug = none) (started : os.Started) (noInit : C.prog.inits.idxOf? f = none) (hfn : C.prog.funcs[f]? = some fn)
    (witness : ∃ (w : World) (tape : Tape) (i : Input), w.os = os ∧ (w.forCall tape i).Shaped C.prog ∧ i.vars = [] ∧ Input.okWide C.prog (w.forCall tape i) .any w.heap.size f i ∧
      ((s.pre enc C.prog fn conds apart (w.forCall tape i).memory i.args ∧ X (w.forCall tape i).memory i.args) ∧ sizedMet enc C.prog fn (OpenSpec.ofChange s) apart (w.forCall tape i).memory i.args) ∧ a.holds C.prog (lone (Frame.enter C.prog f i.args .normal) [] (w.forCall tape i)))
    (contract : ∀ (W : World) (base : Nat) (args : Array Value) (ds gs : List (DataW H)) (before : List MemPlace),
      (∀ (j : Nat) t v, fn.params[j]? = some t → args[j]? = some v → Value.okWide C.prog W .any base t v) →
      DataW.Whole enc C.prog fn.params.toList s.vars apart W args.toList ds gs before →
      (DataW.weightsEach C.prog (fn.params.toList ++ s.plain.varTypes C.prog) (ds ++ gs)).all (· ≤ reachBytes) = true →
      W.ShapedOpen C.prog →
      Calls C.prog f args W fun e W' => ∃ v, e = .returned v ∧ s.post enc C.prog fn apart fresh handsOn again W args v W') :
    ReturnsInHanded a C os f .any (fun w args => (s.pre enc C.prog fn conds apart w args ∧ X w args) ∧ sizedMet enc C.prog fn (OpenSpec.ofChange s) apart w args) (s.post enc C.prog fn apart fresh handsOn again) := by
  refine returnsInHanded_of_calls own started noInit witness ?_
  intro w tape i _ hsh _ hok hpre _
  obtain ⟨_, _, _, fn', hfn', _, _, _, _, hval⟩ := hok
  have e : fn' = fn := Option.some.inj (hfn'.symm.trans hfn)
  subst e
  obtain ⟨⟨⟨ds, gs, before, hw, hc⟩, hx⟩, hz⟩ := hpre
  have hw' := DataW.Whole.of_heap (w' := w.forCall tape i) (by rfl) hw
  refine (contract (w.forCall tape i) w.heap.size i.args ds gs before hval hw' (hz.weights hw) hsh).mono fun e W' ⟨v, he, hp⟩ => ?_
  subst he
  exact ChangeSpec.post_blind hp

theorem gl_of {W : World} (h : W.ShapedOpen Tryd.prog) : Gl W :=
  Go.Proofs.cell_of_shapedOpen_int (zero := #[.int .i64 0]) (t := 3) h (of_decide_eq_true (by kernel_rfl)) (by kernel_rfl) rfl (by kernel_rfl) (by kernel_rfl) Tryd.underlying3

section
variable {H : Type} {enc : TypeId × Value → H} {w : World} {base : Nat} {held : Bool}

theorem weightsAll_mem {P : Program} {e : TypeId} {d : DataW H} {n : Nat} : ∀ {l : List (DataW H)}, d ∈ l → n ∈ d.weights P e → n ∈ DataW.weightsAll P e l
  | [], h, _ => by cases h
  | x :: r, h, hn => by
    rw [DataW.weightsAll]
    rcases List.mem_cons.1 h with rfl | h
    · exact List.mem_append_left _ hn
    · exact List.mem_append_right _ (weightsAll_mem h hn)
theorem weights_slice {P : Program} {t e : TypeId} {d : DataW H} {l r : List (DataW H)} {n : Nat} (ht : P.underlying t = some (.slice e)) (h : d ∈ l) (hn : n ∈ d.weights P e) : n ∈ (DataW.slice l r).weights P t := by
  rw [DataW.weights, ht]
  exact List.mem_cons_of_mem _ (List.mem_append_left _ (weightsAll_mem h hn))
theorem weights_text {P : Program} {t : TypeId} (s : ByteArray) : (DataW.lit (H := H) (.string s.data.toList)).weights P t = [s.size] := by
  rw [DataW.weights]; rfl
theorem trod_st5 {P : Program} {spare : Nat → Bool} {t : TypeId} {f0 f1 f2 f3 f4 : Field} {fuel : Nat} {cs : List Value} {x : DataW H × List MemPlace} (ht : P.underlying t = some (.struct #[f0, f1, f2, f3, f4])) (h : DataW.trod enc P w base spare held fuel t cs = some x) :
    ∃ y0 y1 y2 y3 y4 n, x.1 = .agg [y0.1, y1.1, y2.1, y3.1, y4.1] ∧ DataW.trod enc P w base spare held n f0.type ((cs.drop f0.offset).take (P.cellsOf f0.type)) = some y0 ∧ DataW.trod enc P w base spare held n f1.type ((cs.drop f1.offset).take (P.cellsOf f1.type)) = some y1 ∧
      DataW.trod enc P w base spare held n f2.type ((cs.drop f2.offset).take (P.cellsOf f2.type)) = some y2 ∧ DataW.trod enc P w base spare held n f3.type ((cs.drop f3.offset).take (P.cellsOf f3.type)) = some y3 ∧ DataW.trod enc P w base spare held n f4.type ((cs.drop f4.offset).take (P.cellsOf f4.type)) = some y4 := by
  obtain ⟨xs, n, _, rfl, hl, hlen, hf⟩ := DataW.trod_struct ht h
  match xs, hlen with
  | [y0, y1, y2, y3, y4], _ => exact ⟨y0, y1, y2, y3, y4, n, by simp, by simpa using hf 0 f0 rfl, by simpa using hf 1 f1 rfl, by simpa using hf 2 f2 rfl, by simpa using hf 3 f3 rfl, by simpa using hf 4 f4 rfl⟩

theorem open_ent {n : Nat} {cs : List Value} {y : DataW H × List MemPlace} (hl : cs.length = 5) (h : DataW.trod enc Tryd.prog w base (fun _ => true) held n 58 cs = some y) :
    ∃ e : Tn, cs = rV e ∧ e.path.length ∈ y.1.weights Tryd.prog 58 ∧ e.link.length ∈ y.1.weights Tryd.prog 58 ∧ e.data.length ∈ y.1.weights Tryd.prog 58 := by
  match cs, hl with
  | [c0, c1, c2, c3, c4], _ =>
    obtain ⟨y0, y1, y2, y3, y4, n', hx, h0, h1, h2, h3, h4⟩ := trod_st5 Tryd.underlying58 h
    have k0 : Tryd.prog.cellsOf 3 = 1 := by kernel_rfl
    have k1 : Tryd.prog.cellsOf 9 = 1 := by kernel_rfl
    simp only [k0, k1] at h0 h1 h2 h3 h4
    have h0 : DataW.trod enc Tryd.prog w base (fun _ => true) held n' 9 [c0] = some y0 := h0
    have h1 : DataW.trod enc Tryd.prog w base (fun _ => true) held n' 3 [c1] = some y1 := h1
    have h2 : DataW.trod enc Tryd.prog w base (fun _ => true) held n' 9 [c2] = some y2 := h2
    have h3 : DataW.trod enc Tryd.prog w base (fun _ => true) held n' 9 [c3] = some y3 := h3
    have h4 : DataW.trod enc Tryd.prog w base (fun _ => true) held n' 3 [c4] = some y4 := h4
    obtain ⟨s0, e0, u0, _⟩ := DataW.trod_string Tryd.underlying9 h0
    obtain ⟨m1, e1, u1, _⟩ := DataW.trod_int Tryd.underlying3 h1
    obtain ⟨s2, e2, u2, _⟩ := DataW.trod_string Tryd.underlying9 h2
    obtain ⟨s3, e3, u3, _⟩ := DataW.trod_string Tryd.underlying9 h3
    obtain ⟨m4, e4, u4, _⟩ := DataW.trod_int Tryd.underlying3 h4
    have e0 : c0 = .string s0 := by simpa using e0
    have e1 : c1 = .int .i64 m1 := by simpa using e1
    have e2 : c2 = .string s2 := by simpa using e2
    have e3 : c3 = .string s3 := by simpa using e3
    have e4 : c4 = .int .i64 m4 := by simpa using e4
    subst e0 e1 e2 e3 e4 u0 u1 u2 u3 u4
    have hw : y.1.weights Tryd.prog 58 = [s0.data.toList.length, s2.data.toList.length, s3.data.toList.length] := by
      rw [hx, DataW.weights, Tryd.underlying58]
      rfl
    refine ⟨⟨s0.data.toList, m1, s2.data.toList, s3.data.toList, m4⟩, rfl, ?_, ?_, ?_⟩ <;> rw [hw] <;> simp

set_option maxRecDepth 100000 in
theorem open_ents {r : Reach} {b0 : Nat} {v : Value} {d : DataW H} {ps : List MemPlace} (hval : Value.okWide Tryd.prog w r b0 22 v) (hd : DataW.Trod enc Tryd.prog w base (fun _ => true) held 22 v d ps)
    (hw : ∀ n ∈ d.weights Tryd.prog 22, n ≤ reachBytes) :
    ∃ a c l, v = .slice a l.length c ∧ RE w a l ∧ BdE l := by
  obtain ⟨fuel, hf⟩ := hd
  obtain ⟨a, l, c, rfl⟩ := okWide_slice Tryd.underlying22 hval
  rcases Go.Deep.open_slice Tryd.underlying22 hf with ⟨h1, h2⟩ | ⟨a', l', c', m, n, DD, Pl, h1, _, hlc, hm, hmm, hx, hel⟩
  · simp [Value.cells] at h1
    obtain ⟨rfl, rfl, rfl⟩ := h1
    exact ⟨none, 0, [], rfl, .inl rfl, fun e he => by cases he⟩
  · simp [Value.cells] at h1
    obtain ⟨rfl, rfl, rfl⟩ := h1
    rw [if_pos rfl] at hmm
    subst hmm
    have hxd : d = .slice ((List.range l).map DD) ((List.range (m - l)).map fun j => DD (l + j)) := congrArg (·.1) hx
    have k3 : Tryd.prog.cellsOf 58 = 5 := by kernel_rfl
    rw [k3] at hel
    by_cases h0 : l = 0
    · subst h0
      exact ⟨some a', m, [], rfl, .inl rfl, fun e he => by cases he⟩
    obtain ⟨b, off, spot⟩ := a'
    have hspot : spot = none := by
      obtain ⟨cs', hc, ht⟩ := hel 0 (by omega)
      obtain ⟨_, hcl, hcc⟩ := World.cells?_some hc
      obtain ⟨x, rfl, _⟩ := open_ent hcl ht
      have h00 := hcc 0 (by omega)
      have := World.cell?_spot (h00.trans rfl)
      simpa [Addr.add] using this
    subst hspot
    have each : ∀ i : Nat, i < l → ∃ x : Tn, (∀ (j : Nat) (v : Value), (rV x)[j]? = some v → w.cell? ⟨b, off + (i * 5 + j), none⟩ = some v) ∧ x.path.length ≤ 140737488355328 ∧ x.link.length ≤ 140737488355328 ∧ x.data.length ≤ 140737488355328 := by
      intro i hi
      obtain ⟨cs', hc, ht⟩ := hel i (by omega)
      obtain ⟨_, hcl, hcc⟩ := World.cells?_some hc
      obtain ⟨x, rfl, w1, w2, w3⟩ := open_ent hcl ht
      have hmem : DD i ∈ (List.range l).map DD := List.mem_map.2 ⟨i, List.mem_range.2 hi, rfl⟩
      have hle : ∀ n ∈ (DD i).weights Tryd.prog 58, n ≤ 140737488355328 := fun n hn => Nat.le_trans (hw n (by rw [hxd]; exact weights_slice Tryd.underlying22 hmem hn)) (by decide)
      refine ⟨x, fun j v hj => ?_, hle _ w1, hle _ w2, hle _ w3⟩
      have hj4 : j < 5 := (List.getElem?_eq_some_iff.1 hj).1
      have := hcc j hj4
      rw [add_none, add_none, Nat.add_assoc] at this
      rw [this, hj]
    have pick : ∃ f : Nat → Tn, ∀ i, i < l → (∀ (j : Nat) (v : Value), (rV (f i))[j]? = some v → w.cell? ⟨b, off + (i * 5 + j), none⟩ = some v) ∧ (f i).path.length ≤ 140737488355328 ∧ (f i).link.length ≤ 140737488355328 ∧ (f i).data.length ≤ 140737488355328 := by
      have : ∀ i : Nat, ∃ x : Tn, i < l → ((∀ (j : Nat) (v : Value), (rV x)[j]? = some v → w.cell? ⟨b, off + (i * 5 + j), none⟩ = some v) ∧ x.path.length ≤ 140737488355328 ∧ x.link.length ≤ 140737488355328 ∧ x.data.length ≤ 140737488355328) := fun i => by
        by_cases hi : i < l
        · obtain ⟨x, hx⟩ := each i hi; exact ⟨x, fun _ => hx⟩
        · exact ⟨⟨[], 0, [], [], 0⟩, fun h => absurd h hi⟩
      exact Classical.axiomOfChoice this
    obtain ⟨f, hf'⟩ := pick
    refine ⟨some ⟨b, off, none⟩, m, (List.range l).map f, by simp, .inr ⟨b, off, rfl, ?_⟩, fun e he => ?_⟩
    · have flat : ∀ (zs : List Tn), ((zs.map rV).flatten).length = zs.length * 5 := by
        intro zs
        induction zs with
        | nil => rfl
        | cons u r ih => rw [List.map_cons, List.flatten_cons, List.length_append, ih, List.length_cons]; have : (rV u).length = 5 := rfl; omega
      have get : ∀ (zs : List Tn) (i : Nat) (z : Tn), zs[i]? = some z → (((zs.map rV).flatten).drop (i * 5)).take 5 = rV z := by
        intro zs
        induction zs with
        | nil => intro i z h; simp at h
        | cons u r ih =>
          intro i z h
          have hu : (rV u).length = 5 := rfl
          cases i with
          | zero => simp at h; subst h; rw [Nat.zero_mul, List.drop_zero, List.map_cons, List.flatten_cons, List.take_append_of_le_length (by omega), List.take_of_length_le (by omega)]
          | succ i =>
            have := ih i z (by simpa using h)
            rw [List.map_cons, List.flatten_cons, List.drop_append, List.drop_eq_nil_of_le (by omega), List.nil_append]
            have e : (i + 1) * 5 - (rV u).length = i * 5 := by omega
            rw [e]; exact this
      have hfl := flat ((List.range l).map f)
      rw [List.length_map, List.length_range] at hfl
      refine At.of_cells (by rw [hfl]; omega) fun j hj => ?_
      rw [hfl] at hj
      have hi : j / 5 < l := by omega
      have hg := get ((List.range l).map f) (j / 5) (f (j / 5)) (by simp [hi])
      have hcell := (hf' (j / 5) hi).1 (j % 5)
      have hlt : j < ((((List.range l).map f).map rV).flatten).length := by rw [hfl]; exact hj
      have hget : (rV (f (j / 5)))[j % 5]? = some ((((List.range l).map f).map rV).flatten[j]) := by
        rw [← hg, List.getElem?_take, if_pos (by omega), List.getElem?_drop, show j / 5 * 5 + j % 5 = j by omega]
        exact List.getElem?_eq_getElem _
      have := hcell _ hget
      rw [show j / 5 * 5 + j % 5 = j by omega] at this
      exact this
    · obtain ⟨i, hi, rfl⟩ := List.mem_map.1 he
      exact (hf' i (List.mem_range.1 hi)).2
end
end Go.Proofs.YtiahkkekcmgkfaaDoor
end
