/- The statement PatchGoes in plain terms: the least open change may always be written. -/
import Derived.Test.YtocjjigmpgekfaaPatQ
import Derived.Test.YtocjjigmpgekfaaTxtA
import Derived.Test.YtocjjigmpgekfaaCacheL
open Go Go.Den Go.Proofs
namespace Go.Proofs.Ytocjjigmpgekfaa
/-- Changes lie in the order of their numbers. -/
def Srt (V : Ps) : Prop := ∀ o ∈ V.ons, o.l.Pairwise fun x y => x.id < y.id
/-- A block without changes has one version. -/
def One1 (V : Ps) : Prop := ∀ b, b < V.C.D.vs.length → (∀ o ∈ V.ons, o.b ≠ b) → (verOf V.C.D b).length = 1
theorem Srt.add {V : Ps} (h : Srt V) (hs : WFS V) {x : Ch} (hx : x.id = V.last + 1) : Srt (addX V x) := by
  intro o ho
  obtain ⟨p, hp, rfl⟩ := List.mem_map.1 ho
  have hold : p ∈ V.ons ∨ p.l = [] := by
    unfold newO at hp
    split at hp
    · exact .inl hp
    · rcases List.mem_append.1 hp with hp | hp
      · exact .inl hp
      · simp at hp; right; rw [hp]
  have hpl : p.l.Pairwise fun x y => x.id < y.id := by
    rcases hold with hp | hp
    · exact h p hp
    · rw [hp]; exact List.Pairwise.nil
  split
  · show (p.l ++ [x]).Pairwise _
    rw [List.pairwise_append]
    refine ⟨hpl, by simp, fun a ha c hc => ?_⟩
    simp at hc; subst hc
    rcases hold with hp | hp
    · have := hs.idr a (on_all hp ha); omega
    · rw [hp] at ha; cases ha
  · exact hpl
theorem Srt.pat {V : Ps} (h : Srt V) (hs : WFS V) (n f : Int) (data : Bk) (after : List Int) : Srt (patS V n f data after) := by
  unfold patS
  split
  · exact h.add hs rfl
  · exact h
theorem Srt.wr {V : Ps} (h : Srt V) (n : Int) : Srt (wrV V n) := by
  unfold wrV
  split
  · intro o ho
    obtain ⟨p, hp, rfl⟩ := List.mem_map.1 ho
    show (p.l.map _).Pairwise _
    rw [List.pairwise_map]
    refine (h p hp).imp fun {a c} hac => ?_
    rw [(markF_like V n.toNat).id, (markF_like V n.toNat).id]; exact hac
  · exact h
theorem Srt.fl {V : Ps} (h : Srt V) : Srt (flV V) := by
  intro o ho
  obtain ⟨p, hp, e⟩ := List.mem_filterMap.1 ho
  unfold flOn at e
  split at e
  · cases e
  · rw [← Option.some.inj e]
    exact (h p hp).filter _
theorem One1.pat {V : Ps} (h : One1 V) (n f : Int) (data : Bk) (after : List Int) : One1 (patS V n f data after) := by
  intro b hb hno
  have e : (patS V n f data after).C = V.C := (patS_C (V := V) (C := V.C) rfl).2.2
  rw [e] at hb ⊢
  refine h b hb fun o ho hob => ?_
  unfold patS at hno
  split at hno
  · have hin : o ∈ (newO V (newX V n.toNat f.toNat data after).b).ons := by
      unfold newO
      split
      · exact ho
      · exact List.mem_append.2 (.inl ho)
    have := hno _ (List.mem_map.2 ⟨o, hin, rfl⟩)
    split at this <;> exact this hob
  · exact hno o ho hob
theorem One1.wr {V : Ps} (h : One1 V) (n : Int) : One1 (wrV V n) := by
  intro b hb hno
  by_cases hE : wrVE V n = 0
  · have e : wrV V n = { V with C := { V.C with D := wrSt V.C.D n (imgB V n.toNat) }, ons := mapX V (markF V n.toNat) } := by unfold wrV; rw [if_pos hE]
    rw [e] at hb hno ⊢
    have hno' : ∀ o ∈ V.ons, o.b ≠ b := fun o ho => hno { o with l := o.l.map (markF V n.toNat) } (List.mem_map.2 ⟨o, ho, rfl⟩)
    have hb : b < (wrSt V.C.D n (imgB V n.toNat)).vs.length := hb
    rw [len_wr] at hb
    have h1 := h b hb hno'
    show (verOf (wrSt V.C.D n (imgB V n.toNat)) b).length = 1
    have hnb : n ≠ b := by
      rintro rfl
      unfold wrVE at hE
      split at hE
      · omega
      · split at hE
        · omega
        · rename_i hn
          cases ho : onOf V (b : Int) with
          | none => rw [ho] at hn; exact hn rfl
          | some o =>
            obtain ⟨h1, h2⟩ := onOf_some ho
            exact hno' o h1 (by omega)
    have hn0 : 0 ≤ n := by
      unfold wrVE at hE
      split at hE
      · omega
      · rename_i he
        have := err_range (Classical.not_not.1 he)
        obtain ⟨k, hk, _⟩ := this
        omega
    unfold wrSt
    split
    · exact h1
    · unfold verOf at h1 ⊢
      rw [if_neg (by omega), Int.toNat_natCast] at h1 ⊢
      rw [List.getElem?_set_ne (by omega)]; exact h1
  · have e : wrV V n = V := by unfold wrV; rw [if_neg hE]
    rw [e] at hb hno ⊢
    exact h b hb hno
theorem One1.fl {V : Ps} (hl : V.C.D.left = -1) : One1 (flV V) := by
  intro b hb _
  show (verOf (flSt V.C.D) b).length = 1
  have hb : b < (flSt V.C.D).vs.length := hb
  have e : flSt V.C.D = ⟨V.C.D.vs.map fun v => [lastV v], dec V.C.D.left⟩ := by unfold flSt; rw [if_neg (by omega)]
  rw [e] at hb ⊢
  rw [ver_at hb]; simp
/-- The least open change may be written. -/
theorem least_may {V : Ps} (hs : WFS V) (hf : ∀ x ∈ V.all, ∀ k ∈ x.after, k < (x.id : Int)) (hsrt : Srt V) {o : On} {x : Ch} (ho : o ∈ V.ons) (hx : x ∈ o.l) (hmin : ∀ y ∈ V.all, x.id ≤ y.id) : (x.id : Int) ∈ mayL V.opn o.l := by
  obtain ⟨j, hj, rfl⟩ := List.getElem_of_mem hx
  have hj0 : j = 0 := by
    by_cases e : j = 0
    · exact e
    · have h1 := List.pairwise_iff_getElem.1 (hsrt o ho) 0 j (by omega) hj (by omega)
      have h2 := hmin _ (on_all ho (List.getElem_mem (by omega : 0 < o.l.length)))
      omega
  subst hj0
  refine mayN_mono (n := 1) (by omega) ?_
  unfold mayN
  rw [List.getElem?_eq_getElem hj]
  show (o.l[0].id : Int) ∈ (if badB V.opn (o.l.take 0) (mayN V.opn o.l 0) o.l[0] = true then _ else _)
  rw [if_neg]
  · simp
  · unfold badB
    rw [Bool.or_eq_true, List.any_eq_true, List.any_eq_true]
    rintro (⟨k, hk, e⟩ | ⟨y, hy, _⟩)
    · rw [Bool.and_eq_true] at e
      have hop := e.1
      unfold Ps.opn at hop
      rw [List.any_eq_true] at hop
      obtain ⟨y, hy, ey⟩ := hop
      have ey : (y.id : Int) = k := by simpa using ey
      have h1 := hf _ (on_all ho hx) k hk
      have h2 := hmin y hy
      omega
    · simp at hy
theorem wr_opn {V : Ps} (n : Int) : (wrV V n).opn = V.opn ∧ (wrV V n).last = V.last ∧ (wrV V n).ons.map (·.b) = V.ons.map (·.b) ∧ (wrV V n).C.D.vs.length = V.C.D.vs.length := by
  unfold wrV
  split
  · have hL := markF_like V n.toNat
    refine ⟨opn_mapX hL, rfl, ?_, len_wr _ _ _⟩
    show (mapX V (markF V n.toNat)).map (·.b) = _
    unfold mapX; rw [List.map_map]; rfl
  · exact ⟨rfl, rfl, rfl, rfl⟩
/-- The same changes, with other marks. -/
def Sim (V W : Ps) : Prop := W.last = V.last ∧ ∃ f, Like f ∧ W.ons = mapX V f
theorem Sim.refl (V : Ps) : Sim V V := by
  refine ⟨rfl, fun x => x, ⟨fun _ => rfl, fun _ => rfl, fun _ => rfl, fun _ => rfl, fun _ => rfl⟩, ?_⟩
  unfold mapX
  conv => lhs; rw [← List.map_id V.ons]
  apply List.map_congr_left
  intro o _
  show o = { o with l := o.l.map fun x => x }
  rw [List.map_id']
theorem Sim.wr {V W : Ps} (h : Sim V W) (n : Int) : Sim V (wrV W n) := by
  obtain ⟨h1, f, hf, h2⟩ := h
  unfold wrV
  split
  · have hL := markF_like W n.toNat
    refine ⟨h1, fun x => markF W n.toNat (f x), ⟨fun x => by rw [hL.id, hf.id], fun x => by rw [hL.b, hf.b], fun x => by rw [hL.frm, hf.frm], fun x => by rw [hL.data, hf.data], fun x => by rw [hL.after, hf.after]⟩, ?_⟩
    show mapX W (markF W n.toNat) = _
    unfold mapX
    rw [h2]
    unfold mapX
    rw [List.map_map]
    apply List.map_congr_left
    intro o _
    simp only [Function.comp]
    rw [List.map_map]; rfl
  · exact ⟨h1, f, hf, h2⟩
theorem Sim.bs {V W : Ps} (h : Sim V W) : W.ons.map (·.b) = V.ons.map (·.b) := by
  obtain ⟨_, f, _, h2⟩ := h
  rw [h2]; unfold mapX; rw [List.map_map]; rfl
theorem Sim.ids {V W : Ps} (h : Sim V W) : W.all.map (·.id) = V.all.map (·.id) := by
  obtain ⟨_, f, hf, h2⟩ := h
  have : W.all = V.all.map f := by
    have := all_mapX (V := V) (C := V.C) (f := f)
    unfold Ps.all at this ⊢
    rw [h2]; exact this
  rw [this, List.map_map]
  congr 1
  funext x
  exact hf.id x
theorem Sim.num {V W : Ps} (h : Sim V W) : openV W = openV V := by
  have := congrArg List.length h.ids
  simpa [openV] using this
/-- A change that was in an image. -/
def Mkd (V : Ps) (i : Nat) : Prop := ∃ x ∈ V.all, x.id = i ∧ x.out = true
theorem Mkd.wr {V : Ps} {i : Nat} (h : Mkd V i) (n : Int) : Mkd (wrV V n) i := by
  obtain ⟨x, hx, e1, e2⟩ := h
  unfold wrV
  split
  · refine ⟨markF V n.toNat x, ?_, by rw [(markF_like V n.toNat).id]; exact e1, ?_⟩
    · show _ ∈ Ps.all ⟨_, V.last, mapX V (markF V n.toNat)⟩
      rw [all_mapX]; exact List.mem_map.2 ⟨x, hx, rfl⟩
    · unfold markF
      split
      · show (x.out || _) = true; rw [e2]; rfl
      · exact e2
  · exact ⟨x, hx, e1, e2⟩
theorem wrVE_on {V : Ps} (hs : WFS V) {o : On} (ho : o ∈ V.ons) : wrVE V (o.b : Int) = 0 := by
  unfold wrVE
  rw [if_neg (by rw [(rd_at V.C.D (hs.onlt o ho)).1]; simp), onOf_mem hs ho]; rfl
/-- Its block is written: the least one is in the image. -/
theorem Mkd.least {V : Ps} (hs : WFS V) (hf : ∀ x ∈ V.all, ∀ k ∈ x.after, k < (x.id : Int)) (hsrt : Srt V) {o : On} {x : Ch} (ho : o ∈ V.ons) (hx : x ∈ o.l) (hmin : ∀ y ∈ V.all, x.id ≤ y.id) : Mkd (wrV V (o.b : Int)) x.id := by
  have hm := least_may hs hf hsrt ho hx hmin
  unfold wrV
  rw [if_pos (wrVE_on hs ho), Int.toNat_natCast]
  refine ⟨markF V o.b x, ?_, (markF_like V o.b).id x, ?_⟩
  · show _ ∈ Ps.all ⟨_, V.last, mapX V (markF V o.b)⟩
    rw [all_mapX]; exact List.mem_map.2 ⟨x, on_all ho hx, rfl⟩
  · unfold markF
    rw [if_pos (hs.chb o ho x hx)]
    show (x.out || (mayB V o.b).contains (x.id : Int)) = true
    have : mayB V o.b = mayL V.opn o.l := by unfold mayB; rw [onOf_mem hs ho]
    rw [this]
    have : (mayL V.opn o.l).contains (x.id : Int) = true := by simpa using hm
    rw [this, Bool.or_true]
theorem all_fl (V : Ps) : (flV V).all = V.all.filter fun x => !x.out := by
  unfold flV Ps.all
  show (V.ons.filterMap flOn).flatMap (·.l) = (V.ons.flatMap (·.l)).filter _
  generalize V.ons = l
  induction l with
  | nil => rfl
  | cons o r ih =>
    rw [List.flatMap_cons, List.filter_append, ← ih]
    unfold flOn
    by_cases h : (o.l.filter fun x => !x.out).isEmpty = true
    · rw [List.filterMap_cons_none (by rw [if_pos h]), List.isEmpty_iff.1 h]; rfl
    · rw [List.filterMap_cons_some (by rw [if_neg h]), List.flatMap_cons]
theorem Mkd.fewer {V : Ps} {i : Nat} (h : Mkd V i) : openV (flV V) < openV V := by
  unfold openV
  rw [all_fl, List.length_filter_lt_length_iff_exists]
  obtain ⟨x, hx, _, e⟩ := h
  exact ⟨x, hx, by rw [e]; simp⟩
theorem exists_least : ∀ {l : List Ch}, l ≠ [] → ∃ x ∈ l, ∀ y ∈ l, x.id ≤ y.id
  | [], h => absurd rfl h
  | [x], _ => ⟨x, by simp, by simp⟩
  | x :: y :: r, _ => by
    obtain ⟨z, hz, hmin⟩ := exists_least (l := y :: r) (by simp)
    by_cases h : x.id ≤ z.id
    · refine ⟨x, by simp, fun u hu => ?_⟩
      rcases List.mem_cons.1 hu with rfl | hu
      · exact Nat.le_refl _
      · exact Nat.le_trans h (hmin u hu)
    · refine ⟨z, List.mem_cons_of_mem x hz, fun u hu => ?_⟩
      rcases List.mem_cons.1 hu with rfl | hu
      · omega
      · exact hmin u hu
/-- A round so far: the first of the dirty blocks have been written. -/
structure Rd (V W : Ps) (ks : List Int) : Prop where
  sim : Sim V W
  srt : Srt W
  one : One1 W
  mkd : ∀ o ∈ V.ons, ∀ x ∈ o.l, (∀ y ∈ V.all, x.id ≤ y.id) → (o.b : Int) ∈ ks → Mkd W x.id
theorem Rd.start {V : Ps} (h : Srt V) (h1 : One1 V) : Rd V V [] := ⟨Sim.refl V, h, h1, fun _ _ _ _ _ h => by cases h⟩
theorem Rd.next {V W : Ps} {ks : List Int} {n : Int} (h : Rd V W ks) (hs : WFS W) (hf : ∀ x ∈ W.all, ∀ k ∈ x.after, k < (x.id : Int)) : Rd V (wrV W n) (ks ++ [n]) := by
  refine ⟨h.sim.wr n, h.srt.wr n, h.one.wr n, fun o ho x hx hmin hk => ?_⟩
  rcases List.mem_append.1 hk with hk | hk
  · exact (h.mkd o ho x hx hmin hk).wr n
  · have hn : n = (o.b : Int) := by simpa using (List.mem_singleton.1 hk).symm
    subst hn
    obtain ⟨_, f, hL, e⟩ := h.sim
    have ho' : { o with l := o.l.map f } ∈ W.ons := by rw [e]; exact List.mem_map.2 ⟨o, ho, rfl⟩
    have := Mkd.least hs hf h.srt (o := { o with l := o.l.map f }) (x := f x) ho' (List.mem_map.2 ⟨x, hx, rfl⟩) fun y hy => by
      have hm : y.id ∈ W.all.map (·.id) := List.mem_map.2 ⟨y, hy, rfl⟩
      rw [h.sim.ids] at hm
      obtain ⟨z, hz, ez⟩ := List.mem_map.1 hm
      have := hmin z hz
      rw [hL.id]; omega
    rw [hL.id] at this
    exact this
theorem Rd.fewer {V W : Ps} {ks : List Int} (h : Rd V W ks) (hall : ∀ o ∈ V.ons, (o.b : Int) ∈ ks) (h0 : 0 < openV V) : openV (flV W) < openV V := by
  have hne : V.all ≠ [] := fun e => by unfold openV at h0; rw [e] at h0; simp at h0
  obtain ⟨x, hx, hmin⟩ := exists_least hne
  obtain ⟨o, ho, hxo⟩ := mem_all.1 hx
  have := (h.mkd o ho x hxo hmin (hall o ho)).fewer
  rw [h.sim.num] at this
  exact this
end Go.Proofs.Ytocjjigmpgekfaa

/- Layer 11: rows of calls; the numbers ahead; the blocks that are dirty; what the disk has. -/
open Go Go.Den Go.Proofs
namespace Go.Proofs.Ytocjjigmpgekfaa
/-- A call: its kind, its block, where it begins, its bytes, what it waits for, and whether that is taken as it is. -/
structure A6 where
  k : Int
  n : Int
  f : Int
  xs : List UInt8
  af : List Int
  raw : Bool
def A6.fit (x : A6) (w : World) (cs : List Value) : Prop := ∃ (ad : Option Addr) (cd : Nat) (aa : Option Addr) (ca : Nat), cs = [.int .i64 x.k, .int .i64 x.n, .int .i64 x.f, .slice ad x.xs.length cd, .slice aa x.af.length ca, .bool x.raw] ∧
  Row w ad (u8L x.xs) ∧ (ad = none → x.xs.length = 0 ∧ cd = 0) ∧ x.xs.length ≤ 9223372036854775807 ∧ Row w aa (iL x.af) ∧ x.af.length ≤ 9223372036854775807
def Acts6 (w : World) (a : Option Addr) (acts : List A6) : Prop :=
  acts = [] ∨ ∃ (b o : Nat) (H : List Value), a = some ⟨b, o, none⟩ ∧ At w b o H ∧ H.length = acts.length * 6 ∧ ∀ (r : Nat) (x : A6), acts[r]? = some x → x.fit w ((H.drop (r * 6)).take 6)
section
variable {w w' w0 : World} {R : Nat → Prop} {sp d : Nat} {V : Ps} {K : Value → World → Prop}
theorem Acts6.get {acts : List A6} {a : Option Addr} {l cc i : Nat} {x : A6} (h : Acts6 w a acts) (m : Mod No w w') (hl : acts.length = l) (hx : acts[i]? = some x) :
    ∃ q : Addr, Al (Instr.indexAt 22 (.slice a l cc) (.int .i64 i)) (.pointer (some q)) ∧ ∃ cs, x.fit w cs ∧ Ru (Instr.loadAt 35 (.pointer (some q))) w' (.agg ⟨cs⟩) w' := by
  have hi := (List.getElem?_eq_some_iff.1 hx).1
  obtain ⟨b, o, H, rfl, hat, hH, hfit⟩ := h.resolve_left (fun e => by rw [e] at hi; simp at hi)
  have hle : (i + 1) * 6 ≤ acts.length * 6 := Nat.mul_le_mul_right _ hi
  refine ⟨_, index_slice (k := 6) (by kernel_rfl) (by omega) (by omega), (H.drop (i * 6)).take 6, hfit i x hx, ?_⟩
  rw [add_none, show (i : Int).toNat * 6 = i * 6 by omega]
  exact (hat.keep m id).loadAgg (by kernel_rfl) (by omega)
theorem alloc_act6 (w : World) : (Instr.alloc 35 true (.tuple #[])).run Try.prog w = .ok (.pointer (some ⟨w.heap.size, 0, none⟩)) (w.alloc (.cells ⟨[.int .i64 0, .int .i64 0, .int .i64 0, .slice none 0 0, .slice none 0 0, .bool false]⟩ 35)) := by kernel_rfl
theorem agg_act6 : aggN Try.prog 35 = some 6 := by kernel_rfl
theorem store_act6 {x : A6} {cs : List Value} (h : x.fit w0 cs) : RuU (Instr.storeAt 35 (.pointer (some ⟨w.heap.size, 0, none⟩)) (.agg ⟨cs⟩)) (w.alloc (.cells ⟨[.int .i64 0, .int .i64 0, .int .i64 0, .slice none 0 0, .slice none 0 0, .bool false]⟩ 35)) (w.alloc (.cells ⟨cs⟩ 35)) := by
  obtain ⟨ad, cd, aa, ca, rfl, _⟩ := h
  refine store_new agg_act6 rfl rfl ?_
  intro v hv
  simp at hv
  rcases hv with rfl | rfl | rfl | rfl | rfl | rfl <;> rfl
theorem box_act6 (w : World) (cs : List Value) : (Instr.box 35 (.agg ⟨cs⟩)).run Try.prog w = .ok (.pointer (some ⟨w.heap.size, 0, none⟩)) (w.alloc (.cells ⟨cs⟩ 35)) := rfl
/-- Numbers of changes ahead. -/
def aheadN (last k : Int) : Int := last - (if k.tmod last < 0 then -(k.tmod last) else k.tmod last)
theorem aheadN_in {last k : Int} (h : 1 ≤ last) : 1 ≤ aheadN last k ∧ aheadN last k ≤ last := by
  have h1 : k.tmod last < last := Int.tmod_lt_of_pos _ (by omega)
  have h2 : -last < k.tmod last := by
    have := Int.tmod_lt_of_pos (-k) (b := last) (by omega)
    rw [Int.neg_tmod] at this; omega
  unfold aheadN
  split <;> omega
def dirtyV (V : Ps) : List Int := sorted (V.ons.map fun o => (o.b : Int))
theorem dirty_mem {V : Ps} {k : Int} : k ∈ dirtyV V ↔ ∃ o ∈ V.ons, k = (o.b : Int) := by
  unfold dirtyV sorted
  rw [(List.mergeSort_perm _ _).mem_iff, List.mem_map]
  constructor
  · rintro ⟨o, ho, rfl⟩; exact ⟨o, ho, rfl⟩
  · rintro ⟨o, ho, rfl⟩; exact ⟨o, ho, rfl⟩
theorem dirty_len (V : Ps) : (dirtyV V).length = V.ons.length := by
  unfold dirtyV sorted
  rw [(List.mergeSort_perm _ _).length_eq, List.length_map]
theorem sorted_perm {xs ys : List Int} (h : xs.Perm ys) : sorted xs = sorted ys := by
  have hs : ∀ zs : List Int, (sorted zs).Pairwise fun a b => a ≤ b := fun zs => by
    have := List.pairwise_mergeSort (le := fun x y : Int => decide (x ≤ y)) (fun a b c h1 h2 => by simp only [decide_eq_true_eq] at *; omega) (fun a b => by simp only [Bool.or_eq_true, decide_eq_true_eq]; omega) zs
    refine List.Pairwise.imp ?_ this
    intro a b h; simpa using h
  exact List.Perm.eq_of_pairwise (le := fun a b : Int => a ≤ b) (fun a b _ _ h1 h2 => by omega) (hs xs) (hs ys) (((List.mergeSort_perm _ _).trans h).trans (List.mergeSort_perm _ _).symm)
/-- What holds of a store, in plain terms. -/
theorem Pz.wf (h : Pz w0 R w sp d V) : WFS V ∧ (∀ x ∈ V.all, ∀ k ∈ x.after, k < (x.id : Int)) ∧ (∀ o ∈ V.ons, o.l ≠ []) ∧ V.C.D.left = -1 ∧ WF V.C.D := by
  obtain ⟨C, eD, eM, hP⟩ := h
  have hwf := hP.wf
  refine ⟨?_, hwf.1.afl, hwf.1.lne, ?_, ?_⟩
  · exact WFS.cache (P := ⟨C, V.last, V.ons⟩) (C := V.C) hwf.2.1 (by rw [eD]) eM.symm
  · rw [← eD]; exact hwf.1.run
  · rw [← eD]; exact hwf.2.2.2.1
theorem Pz.full (h : Pz w0 R w sp d V) : ∃ C, C.D = V.C.D ∧ WFP ⟨C, V.last, V.ons⟩ := by
  obtain ⟨C, eD, eM, hP⟩ := h
  exact ⟨C, eD, hP.wf.1⟩
end
end Go.Proofs.Ytocjjigmpgekfaa

/- The statement PatchGoes: all changes get safe. -/
open Go Go.Den Go.Proofs
namespace Go.Proofs.Ytocjjigmpgekfaa
section
variable {w w' w0 : World} {R : Nat → Prop} {sp d : Nat} {V : Ps} {K : Value → World → Prop}
theorem Row.lt {w : World} {a : Option Addr} {xs : List Value} {q : Addr} (h : Row w a xs) (hne : xs ≠ []) (hq : a = some q) : q.block < w.heap.size := by
  rcases h with h | ⟨b, o, e, hat⟩
  · exact absurd h hne
  · rw [hq] at e; cases e; exact hat.lt
theorem u8L_ne {xs : List UInt8} (h : xs ≠ []) : u8L xs ≠ [] := fun e => h (List.eq_nil_of_length_eq_zero (by have := congrArg List.length e; rw [length_u8L] at this; exact this))
theorem iL_ne {xs : List Int} (h : xs ≠ []) : iL xs ≠ [] := fun e => h (by
  have := congrArg List.length e
  simp at this; exact this)
theorem open_le {V : Ps} (h : WFS V) : openV V ≤ V.last := by
  have h1 := List.Nodup.length_le_of_subset h.ids (l₂ := (List.range V.last).map (· + 1)) fun k hk => by
    obtain ⟨x, hx, rfl⟩ := List.mem_map.1 hk
    have := h.idr x hx
    rw [List.mem_map]
    exact ⟨x.id - 1, List.mem_range.2 (by omega), by omega⟩
  simpa [openV] using h1
theorem open0 {V : Ps} (hl : ∀ o ∈ V.ons, o.l ≠ []) (h : openV V = 0) : V.ons = [] := by
  cases ho : V.ons with
  | nil => rfl
  | cons o r =>
    exfalso
    have hm : o ∈ V.ons := by rw [ho]; simp
    obtain ⟨x, hx⟩ := List.exists_mem_of_ne_nil _ (hl o hm)
    have := on_all hm hx
    unfold openV at h
    rw [List.eq_nil_of_length_eq_zero h] at this
    cases this
theorem Bnd_fl {D : St} (h : D.left = -1) {m : Nat} (hm : 1 ≤ m) : Bnd (flSt D) m := by
  intro v hv
  have e : flSt D = ⟨D.vs.map fun v => [lastV v], dec D.left⟩ := by unfold flSt; rw [if_neg (by omega)]
  rw [e] at hv
  obtain ⟨u, _, rfl⟩ := List.mem_map.1 hv
  exact hm
/-- What the first part of the law comes to. -/
structure GI (V : Ps) (i : Nat) : Prop where
  srt : Srt V
  one : One1 V
  bnd : Bnd V.C.D (i + 1)
  len : V.C.D.vs.length = 5
  last : V.last ≤ i
theorem GI.pat {i : Nat} (h : GI V i) (hs : WFS V) (n f : Int) (data : Bk) (after : List Int) : Srt (patS V n f data after) ∧ One1 (patS V n f data after) ∧ Bnd (patS V n f data after).C.D (i + 1) ∧ (patS V n f data after).C.D.vs.length = 5 ∧ (patS V n f data after).last ≤ i + 1 ∧
    (patE V n f data after = 0 → (patS V n f data after).last = V.last + 1) ∧ (patE V n f data after ≠ 0 → patS V n f data after = V) := by
  have e := (patS_C (V := V) (C := V.C) (n := n) (f := f) (data := data) (after := after) rfl).2.2
  have hl := h.last
  refine ⟨h.srt.pat hs n f data after, h.one.pat n f data after, by rw [e]; exact h.bnd, by rw [e]; exact h.len, ?_, ?_, ?_⟩
  · unfold patS
    split
    · show V.last + 1 ≤ i + 1; omega
    · omega
  · intro h0; unfold patS; rw [if_pos h0]; rfl
  · intro h0; unfold patS; rw [if_neg h0]
theorem WFS.bnd (h : WFS V) (hb : Bnd V.C.D 1000000) : True := trivial
end
end Go.Proofs.Ytocjjigmpgekfaa
