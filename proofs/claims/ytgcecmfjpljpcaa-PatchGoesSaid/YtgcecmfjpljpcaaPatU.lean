/- The statement PatchGoes in plain terms: the least open change may always be written. -/
import Derived.Test.YtgcecmfjpljpcaaPatQ
import Derived.Test.YtgcecmfjpljpcaaTxtPb
import Derived.Test.YtgcecmfjpljpcaaCacheL
open Go Go.Den Go.Proofs
namespace Go.Proofs.Ytgcecmfjpljpcaa
/-- Changes lie in the order of their numbers. -/
def Srt (V : Ps) : Prop := ∀ o ∈ V.ons, o.l.Pairwise fun x y => x.id < y.id
/-- A block without changes has one version. -/
def One1 (V : Ps) : Prop := ∀ b, b < V.C.D.vs.length → (∀ o ∈ V.ons, o.b ≠ b) → (verOf V.C.D b).length = 1
theorem Srt.add {V : Ps} (h : Srt V) (hs : WFS V) {x : Ch} (hx : x.id = V.last + 1) : Srt (addX V x) := by
  intro o ho
  obtain ⟨p, hp, rfl⟩ := List.mem_map.1 ho
  have hold : p ∈ V.ons ∨ p.l = [] := by
    unfold newO at hp
    split at hp
    · exact .inl hp
    · rcases List.mem_append.1 hp with hp | hp
      · exact .inl hp
      · simp at hp; right; rw [hp]
  have hpl : p.l.Pairwise fun x y => x.id < y.id := by
    rcases hold with hp | hp
    · exact h p hp
    · rw [hp]; exact List.Pairwise.nil
  split
  · show (p.l ++ [x]).Pairwise _
    rw [List.pairwise_append]
    refine ⟨hpl, by simp, fun a ha c hc => ?_⟩
    simp at hc; subst hc
    rcases hold with hp | hp
    · have := hs.idr a (on_all hp ha); omega
    · rw [hp] at ha; cases ha
  · exact hpl
theorem Srt.pat {V : Ps} (h : Srt V) (hs : WFS V) (n f : Int) (data : Bk) (after : List Int) : Srt (patS V n f data after) := by
  unfold patS
  split
  · exact h.add hs rfl
  · exact h
theorem Srt.wr {V : Ps} (h : Srt V) (n : Int) : Srt (wrV V n) := by
  unfold wrV
  split
  · intro o ho
    obtain ⟨p, hp, rfl⟩ := List.mem_map.1 ho
    show (p.l.map _).Pairwise _
    rw [List.pairwise_map]
    refine (h p hp).imp fun {a c} hac => ?_
    rw [(markF_like V n.toNat).id, (markF_like V n.toNat).id]; exact hac
  · exact h
theorem Srt.fl {V : Ps} (h : Srt V) : Srt (flV V) := by
  intro o ho
  obtain ⟨p, hp, e⟩ := List.mem_filterMap.1 ho
  unfold flOn at e
  split at e
  · cases e
  · rw [← Option.some.inj e]
    exact (h p hp).filter _
theorem One1.pat {V : Ps} (h : One1 V) (n f : Int) (data : Bk) (after : List Int) : One1 (patS V n f data after) := by
  intro b hb hno
  have e : (patS V n f data after).C = V.C := (patS_C (V := V) (C := V.C) rfl).2.2
  rw [e] at hb ⊢
  refine h b hb fun o ho hob => ?_
  unfold patS at hno
  split at hno
  · have hin : o ∈ (newO V (newX V n.toNat f.toNat data after).b).ons := by
      unfold newO
      split
      · exact ho
      · exact List.mem_append.2 (.inl ho)
    have := hno _ (List.mem_map.2 ⟨o, hin, rfl⟩)
    split at this <;> exact this hob
  · exact hno o ho hob
theorem One1.wr {V : Ps} (h : One1 V) (n : Int) : One1 (wrV V n) := by
  intro b hb hno
  by_cases hE : wrVE V n = 0
  · have e : wrV V n = { V with C := { V.C with D := wrSt V.C.D n (imgB V n.toNat) }, ons := mapX V (markF V n.toNat) } := by unfold wrV; rw [if_pos hE]
    rw [e] at hb hno ⊢
    have hno' : ∀ o ∈ V.ons, o.b ≠ b := fun o ho => hno { o with l := o.l.map (markF V n.toNat) } (List.mem_map.2 ⟨o, ho, rfl⟩)
    have hb : b < (wrSt V.C.D n (imgB V n.toNat)).vs.length := hb
    rw [len_wr] at hb
    have h1 := h b hb hno'
    show (verOf (wrSt V.C.D n (imgB V n.toNat)) b).length = 1
    have hnb : n ≠ b := by
      rintro rfl
      unfold wrVE at hE
      split at hE
      · omega
      · split at hE
        · omega
        · rename_i hn
          cases ho : onOf V (b : Int) with
          | none => rw [ho] at hn; exact hn rfl
          | some o =>
            obtain ⟨h1, h2⟩ := onOf_some ho
            exact hno' o h1 (by omega)
    have hn0 : 0 ≤ n := by
      unfold wrVE at hE
      split at hE
      · omega
      · rename_i he
        have := err_range (Classical.not_not.1 he)
        obtain ⟨k, hk, _⟩ := this
        omega
    unfold wrSt
    split
    · exact h1
    · unfold verOf at h1 ⊢
      rw [if_neg (by omega), Int.toNat_natCast] at h1 ⊢
      rw [List.getElem?_set_ne (by omega)]; exact h1
  · have e : wrV V n = V := by unfold wrV; rw [if_neg hE]
    rw [e] at hb hno ⊢
    exact h b hb hno
theorem One1.fl {V : Ps} (hl : V.C.D.left = -1) : One1 (flV V) := by
  intro b hb _
  show (verOf (flSt V.C.D) b).length = 1
  have hb : b < (flSt V.C.D).vs.length := hb
  have e : flSt V.C.D = ⟨V.C.D.vs.map fun v => [lastV v], dec V.C.D.left⟩ := by unfold flSt; rw [if_neg (by omega)]
  rw [e] at hb ⊢
  rw [ver_at hb]; simp
/-- The least open change may be written. -/
theorem least_may {V : Ps} (hs : WFS V) (hf : ∀ x ∈ V.all, ∀ k ∈ x.after, k < (x.id : Int)) (hsrt : Srt V) {o : On} {x : Ch} (ho : o ∈ V.ons) (hx : x ∈ o.l) (hmin : ∀ y ∈ V.all, x.id ≤ y.id) : (x.id : Int) ∈ mayL V.opn o.l := by
  obtain ⟨j, hj, rfl⟩ := List.getElem_of_mem hx
  have hj0 : j = 0 := by
    by_cases e : j = 0
    · exact e
    · have h1 := List.pairwise_iff_getElem.1 (hsrt o ho) 0 j (by omega) hj (by omega)
      have h2 := hmin _ (on_all ho (List.getElem_mem (by omega : 0 < o.l.length)))
      omega
  subst hj0
  refine mayN_mono (n := 1) (by omega) ?_
  unfold mayN
  rw [List.getElem?_eq_getElem hj]
  show (o.l[0].id : Int) ∈ (if badB V.opn (o.l.take 0) (mayN V.opn o.l 0) o.l[0] = true then _ else _)
  rw [if_neg]
  · simp
  · unfold badB
    rw [Bool.or_eq_true, List.any_eq_true, List.any_eq_true]
    rintro (⟨k, hk, e⟩ | ⟨y, hy, _⟩)
    · rw [Bool.and_eq_true] at e
      have hop := e.1
      unfold Ps.opn at hop
      rw [List.any_eq_true] at hop
      obtain ⟨y, hy, ey⟩ := hop
      have ey : (y.id : Int) = k := by simpa using ey
      have h1 := hf _ (on_all ho hx) k hk
      have h2 := hmin y hy
      omega
    · simp at hy
theorem wr_opn {V : Ps} (n : Int) : (wrV V n).opn = V.opn ∧ (wrV V n).last = V.last ∧ (wrV V n).ons.map (·.b) = V.ons.map (·.b) ∧ (wrV V n).C.D.vs.length = V.C.D.vs.length := by
  unfold wrV
  split
  · have hL := markF_like V n.toNat
    refine ⟨opn_mapX hL, rfl, ?_, len_wr _ _ _⟩
    show (mapX V (markF V n.toNat)).map (·.b) = _
    unfold mapX; rw [List.map_map]; rfl
  · exact ⟨rfl, rfl, rfl, rfl⟩
/-- The same changes, with other marks. -/
def Sim (V W : Ps) : Prop := W.last = V.last ∧ ∃ f, Like f ∧ W.ons = mapX V f
theorem Sim.refl (V : Ps) : Sim V V := by
  refine ⟨rfl, fun x => x, ⟨fun _ => rfl, fun _ => rfl, fun _ => rfl, fun _ => rfl, fun _ => rfl⟩, ?_⟩
  unfold mapX
  conv => lhs; rw [← List.map_id V.ons]
  apply List.map_congr_left
  intro o _
  show o = { o with l := o.l.map fun x => x }
  rw [List.map_id']
theorem Sim.wr {V W : Ps} (h : Sim V W) (n : Int) : Sim V (wrV W n) := by
  obtain ⟨h1, f, hf, h2⟩ := h
  unfold wrV
  split
  · have hL := markF_like W n.toNat
    refine ⟨h1, fun x => markF W n.toNat (f x), ⟨fun x => by rw [hL.id, hf.id], fun x => by rw [hL.b, hf.b], fun x => by rw [hL.frm, hf.frm], fun x => by rw [hL.data, hf.data], fun x => by rw [hL.after, hf.after]⟩, ?_⟩
    show mapX W (markF W n.toNat) = _
    unfold mapX
    rw [h2]
    unfold mapX
    rw [List.map_map]
    apply List.map_congr_left
    intro o _
    simp only [Function.comp]
    rw [List.map_map]; rfl
  · exact ⟨h1, f, hf, h2⟩
theorem Sim.bs {V W : Ps} (h : Sim V W) : W.ons.map (·.b) = V.ons.map (·.b) := by
  obtain ⟨_, f, _, h2⟩ := h
  rw [h2]; unfold mapX; rw [List.map_map]; rfl
theorem Sim.ids {V W : Ps} (h : Sim V W) : W.all.map (·.id) = V.all.map (·.id) := by
  obtain ⟨_, f, hf, h2⟩ := h
  have : W.all = V.all.map f := by
    have := all_mapX (V := V) (C := V.C) (f := f)
    unfold Ps.all at this ⊢
    rw [h2]; exact this
  rw [this, List.map_map]
  congr 1
  funext x
  exact hf.id x
theorem Sim.num {V W : Ps} (h : Sim V W) : openV W = openV V := by
  have := congrArg List.length h.ids
  simpa [openV] using this
/-- A change that was in an image. -/
def Mkd (V : Ps) (i : Nat) : Prop := ∃ x ∈ V.all, x.id = i ∧ x.out = true
theorem Mkd.wr {V : Ps} {i : Nat} (h : Mkd V i) (n : Int) : Mkd (wrV V n) i := by
  obtain ⟨x, hx, e1, e2⟩ := h
  unfold wrV
  split
  · refine ⟨markF V n.toNat x, ?_, by rw [(markF_like V n.toNat).id]; exact e1, ?_⟩
    · show _ ∈ Ps.all ⟨_, V.last, mapX V (markF V n.toNat)⟩
      rw [all_mapX]; exact List.mem_map.2 ⟨x, hx, rfl⟩
    · unfold markF
      split
      · show (x.out || _) = true; rw [e2]; rfl
      · exact e2
  · exact ⟨x, hx, e1, e2⟩
theorem wrVE_on {V : Ps} (hs : WFS V) {o : On} (ho : o ∈ V.ons) : wrVE V (o.b : Int) = 0 := by
  unfold wrVE
  rw [if_neg (by rw [(rd_at V.C.D (hs.onlt o ho)).1]; simp), onOf_mem hs ho]; rfl
/-- Its block is written: the least one is in the image. -/
theorem Mkd.least {V : Ps} (hs : WFS V) (hf : ∀ x ∈ V.all, ∀ k ∈ x.after, k < (x.id : Int)) (hsrt : Srt V) {o : On} {x : Ch} (ho : o ∈ V.ons) (hx : x ∈ o.l) (hmin : ∀ y ∈ V.all, x.id ≤ y.id) : Mkd (wrV V (o.b : Int)) x.id := by
  have hm := least_may hs hf hsrt ho hx hmin
  unfold wrV
  rw [if_pos (wrVE_on hs ho), Int.toNat_natCast]
  refine ⟨markF V o.b x, ?_, (markF_like V o.b).id x, ?_⟩
  · show _ ∈ Ps.all ⟨_, V.last, mapX V (markF V o.b)⟩
    rw [all_mapX]; exact List.mem_map.2 ⟨x, on_all ho hx, rfl⟩
  · unfold markF
    rw [if_pos (hs.chb o ho x hx)]
    show (x.out || (mayB V o.b).contains (x.id : Int)) = true
    have : mayB V o.b = mayL V.opn o.l := by unfold mayB; rw [onOf_mem hs ho]
    rw [this]
    have : (mayL V.opn o.l).contains (x.id : Int) = true := by simpa using hm
    rw [this, Bool.or_true]
theorem all_fl (V : Ps) : (flV V).all = V.all.filter fun x => !x.out := by
  unfold flV Ps.all
  show (V.ons.filterMap flOn).flatMap (·.l) = (V.ons.flatMap (·.l)).filter _
  generalize V.ons = l
  induction l with
  | nil => rfl
  | cons o r ih =>
    rw [List.flatMap_cons, List.filter_append, ← ih]
    unfold flOn
    by_cases h : (o.l.filter fun x => !x.out).isEmpty = true
    · rw [List.filterMap_cons_none (by rw [if_pos h]), List.isEmpty_iff.1 h]; rfl
    · rw [List.filterMap_cons_some (by rw [if_neg h]), List.flatMap_cons]
theorem Mkd.fewer {V : Ps} {i : Nat} (h : Mkd V i) : openV (flV V) < openV V := by
  unfold openV
  rw [all_fl, List.length_filter_lt_length_iff_exists]
  obtain ⟨x, hx, _, e⟩ := h
  exact ⟨x, hx, by rw [e]; simp⟩
theorem exists_least : ∀ {l : List Ch}, l ≠ [] → ∃ x ∈ l, ∀ y ∈ l, x.id ≤ y.id
  | [], h => absurd rfl h
  | [x], _ => ⟨x, by simp, by simp⟩
  | x :: y :: r, _ => by
    obtain ⟨z, hz, hmin⟩ := exists_least (l := y :: r) (by simp)
    by_cases h : x.id ≤ z.id
    · refine ⟨x, by simp, fun u hu => ?_⟩
      rcases List.mem_cons.1 hu with rfl | hu
      · exact Nat.le_refl _
      · exact Nat.le_trans h (hmin u hu)
    · refine ⟨z, List.mem_cons_of_mem x hz, fun u hu => ?_⟩
      rcases List.mem_cons.1 hu with rfl | hu
      · omega
      · exact hmin u hu
/-- A round so far: the first of the dirty blocks have been written. -/
structure Rd (V W : Ps) (ks : List Int) : Prop where
  sim : Sim V W
  srt : Srt W
  one : One1 W
  mkd : ∀ o ∈ V.ons, ∀ x ∈ o.l, (∀ y ∈ V.all, x.id ≤ y.id) → (o.b : Int) ∈ ks → Mkd W x.id
theorem Rd.start {V : Ps} (h : Srt V) (h1 : One1 V) : Rd V V [] := ⟨Sim.refl V, h, h1, fun _ _ _ _ _ h => by cases h⟩
theorem Rd.next {V W : Ps} {ks : List Int} {n : Int} (h : Rd V W ks) (hs : WFS W) (hf : ∀ x ∈ W.all, ∀ k ∈ x.after, k < (x.id : Int)) : Rd V (wrV W n) (ks ++ [n]) := by
  refine ⟨h.sim.wr n, h.srt.wr n, h.one.wr n, fun o ho x hx hmin hk => ?_⟩
  rcases List.mem_append.1 hk with hk | hk
  · exact (h.mkd o ho x hx hmin hk).wr n
  · have hn : n = (o.b : Int) := by simpa using (List.mem_singleton.1 hk).symm
    subst hn
    obtain ⟨_, f, hL, e⟩ := h.sim
    have ho' : { o with l := o.l.map f } ∈ W.ons := by rw [e]; exact List.mem_map.2 ⟨o, ho, rfl⟩
    have := Mkd.least hs hf h.srt (o := { o with l := o.l.map f }) (x := f x) ho' (List.mem_map.2 ⟨x, hx, rfl⟩) fun y hy => by
      have hm : y.id ∈ W.all.map (·.id) := List.mem_map.2 ⟨y, hy, rfl⟩
      rw [h.sim.ids] at hm
      obtain ⟨z, hz, ez⟩ := List.mem_map.1 hm
      have := hmin z hz
      rw [hL.id]; omega
    rw [hL.id] at this
    exact this
theorem Rd.fewer {V W : Ps} {ks : List Int} (h : Rd V W ks) (hall : ∀ o ∈ V.ons, (o.b : Int) ∈ ks) (h0 : 0 < openV V) : openV (flV W) < openV V := by
  have hne : V.all ≠ [] := fun e => by unfold openV at h0; rw [e] at h0; simp at h0
  obtain ⟨x, hx, hmin⟩ := exists_least hne
  obtain ⟨o, ho, hxo⟩ := mem_all.1 hx
  have := (h.mkd o ho x hxo hmin (hall o ho)).fewer
  rw [h.sim.num] at this
  exact this
end Go.Proofs.Ytgcecmfjpljpcaa

/- Layer 11: rows of calls; the numbers ahead; the blocks that are dirty; what the disk has. -/
open Go Go.Den Go.Proofs
namespace Go.Proofs.Ytgcecmfjpljpcaa
/-- A call: its kind, its block, where it begins, its bytes, what it waits for, and whether that is taken as it is. -/
structure A6 where
  k : Int
  n : Int
  f : Int
  xs : List UInt8
  af : List Int
  raw : Bool
def A6.fit (x : A6) (w : World) (cs : List Value) : Prop := ∃ (ad : Option Addr) (cd : Nat) (aa : Option Addr) (ca : Nat), cs = [.int .i64 x.k, .int .i64 x.n, .int .i64 x.f, .slice ad x.xs.length cd, .slice aa x.af.length ca, .bool x.raw] ∧
  Row w ad (u8L x.xs) ∧ (ad = none → x.xs.length = 0 ∧ cd = 0) ∧ x.xs.length ≤ 9223372036854775807 ∧ Row w aa (iL x.af) ∧ x.af.length ≤ 9223372036854775807
def Acts6 (w : World) (a : Option Addr) (acts : List A6) : Prop :=
  acts = [] ∨ ∃ (b o : Nat) (H : List Value), a = some ⟨b, o, none⟩ ∧ At w b o H ∧ H.length = acts.length * 6 ∧ ∀ (r : Nat) (x : A6), acts[r]? = some x → x.fit w ((H.drop (r * 6)).take 6)
section
variable {w w' w0 : World} {R : Nat → Prop} {sp d : Nat} {V : Ps} {K : Value → World → Prop}
theorem Acts6.get {acts : List A6} {a : Option Addr} {l cc i : Nat} {x : A6} (h : Acts6 w a acts) (m : Mod No w w') (hl : acts.length = l) (hx : acts[i]? = some x) :
    ∃ q : Addr, Al (Instr.indexAt 59 (.slice a l cc) (.int .i64 i)) (.pointer (some q)) ∧ ∃ cs, x.fit w cs ∧ Ru (Instr.loadAt 66 (.pointer (some q))) w' (.agg ⟨cs⟩) w' := by
  have hi := (List.getElem?_eq_some_iff.1 hx).1
  obtain ⟨b, o, H, rfl, hat, hH, hfit⟩ := h.resolve_left (fun e => by rw [e] at hi; simp at hi)
  have hle : (i + 1) * 6 ≤ acts.length * 6 := Nat.mul_le_mul_right _ hi
  refine ⟨_, index_slice (k := 6) (by kernel_rfl) (by omega) (by omega), (H.drop (i * 6)).take 6, hfit i x hx, ?_⟩
  rw [add_none, show (i : Int).toNat * 6 = i * 6 by omega]
  exact (hat.keep m id).loadAgg (by kernel_rfl) (by omega)
theorem alloc_act6 (w : World) : (Instr.alloc 66 true (.tuple #[])).run Try.prog w = .ok (.pointer (some ⟨w.heap.size, 0, none⟩)) (w.alloc (.cells ⟨[.int .i64 0, .int .i64 0, .int .i64 0, .slice none 0 0, .slice none 0 0, .bool false]⟩ 66)) := by kernel_rfl
theorem agg_act6 : aggN Try.prog 66 = some 6 := by kernel_rfl
theorem store_act6 {x : A6} {cs : List Value} (h : x.fit w0 cs) : RuU (Instr.storeAt 66 (.pointer (some ⟨w.heap.size, 0, none⟩)) (.agg ⟨cs⟩)) (w.alloc (.cells ⟨[.int .i64 0, .int .i64 0, .int .i64 0, .slice none 0 0, .slice none 0 0, .bool false]⟩ 66)) (w.alloc (.cells ⟨cs⟩ 66)) := by
  obtain ⟨ad, cd, aa, ca, rfl, _⟩ := h
  refine store_new agg_act6 rfl rfl ?_
  intro v hv
  simp at hv
  rcases hv with rfl | rfl | rfl | rfl | rfl | rfl <;> rfl
theorem box_act6 (w : World) (cs : List Value) : (Instr.box 66 (.agg ⟨cs⟩)).run Try.prog w = .ok (.pointer (some ⟨w.heap.size, 0, none⟩)) (w.alloc (.cells ⟨cs⟩ 66)) := rfl
/-- Numbers of changes ahead. -/
def aheadN (last k : Int) : Int := last - (if k.tmod last < 0 then -(k.tmod last) else k.tmod last)
theorem aheadN_in {last k : Int} (h : 1 ≤ last) : 1 ≤ aheadN last k ∧ aheadN last k ≤ last := by
  have h1 : k.tmod last < last := Int.tmod_lt_of_pos _ (by omega)
  have h2 : -last < k.tmod last := by
    have := Int.tmod_lt_of_pos (-k) (b := last) (by omega)
    rw [Int.neg_tmod] at this; omega
  unfold aheadN
  split <;> omega
set_option maxRecDepth 100000 in
theorem after_c {x : A6} {k n f : Value} {ad aa : Option Addr} {l cd cc : Nat} {last : Int} (hr : Row w aa (iL x.af)) (h63 : x.af.length ≤ 9223372036854775807) (h0 : 1 ≤ last) (h1 : last ≤ 1000000)
    (hk : ∀ w' a l c, Mod No w w' → Own Try.prog w' w.heap.size 64 1 a l c (iL ((x.af.take 4).map (aheadN last))) → l = ((x.af.take 4).map (aheadN last)).length → K (.slice a l c) w') :
    Cal Try.prog F_leveelaw11_after #[.agg ⟨[k, n, f, .slice ad l cd, .slice aa x.af.length cc, .bool false]⟩, .int .i64 last] w K := by
  apply C_leveelaw11_after
  unfold D_leveelaw11_after
  have m1 : Mod No w (w.alloc (.cells ⟨[k, n, f, .slice ad l cd, .slice aa x.af.length cc, .bool false]⟩ 66)) := (Mod.refl No w).alloc _
  have a1 : At (w.alloc (.cells ⟨[k, n, f, .slice ad l cd, .slice aa x.af.length cc, .bool false]⟩ 66)) w.heap.size 0 [k, n, f, .slice ad l cd, .slice aa x.af.length cc, .bool false] := AtU.new.at
  have s1 : (w.alloc (.cells ⟨[k, n, f, .slice ad l cd, .slice aa x.af.length cc, .bool false]⟩ 66)).heap.size = w.heap.size + 1 := by simp
  refine ⟨_, _, box_act6 _ _, Share.dup ⟨_, ?_, ff rfl ?_⟩⟩
  · rw [add_none]; exact a1.load (i := 5) (by kernel_rfl) rfl
  generalize w.alloc (.cells ⟨[k, n, f, .slice ad l cd, .slice aa x.af.length cc, .bool false]⟩ 66) = w1 at *
  refine ⟨_, rfl, ff (decide_eq_false (by omega)) ?_⟩
  have hld : ∀ {w2 : World}, Mod No w1 w2 → Ru (Instr.loadAt 64 (.pointer (some (Addr.add ⟨w.heap.size, 0, none⟩ 4)))) w2 (.slice aa x.af.length cc) w2 := fun m => by
    rw [add_none]; exact (a1.keep m id).load (i := 4) (by kernel_rfl) rfl
  refine ⟨fun x2 w3 => ∃ (i : Nat) (a : Option Addr) (l c : Nat) (y1 y2 : Value), i ≤ x.af.length ∧ i ≤ 4 ∧ x2 = [.slice a l c, .int .i64 i, y1, y2] ∧ Own Try.prog w3 w1.heap.size 64 1 a l c (iL ((x.af.take i).map (aheadN last))) ∧ Mod No w1 w3 ∧ w1.heap.size ≤ w3.heap.size, fun x2 _ => (x.af.length - nI x2 1).toNat,
    ⟨0, none, 0, 0, _, _, by omega, by omega, rfl, Own.nil elemZ_64, Mod.refl _ _, Nat.le_refl _⟩, ?_⟩
  rintro x2 w3 ⟨i, a, l, c, y1, y2, hi, hi4, rfl, o3, m3, sz3⟩
  have hlen : l = i := by have := o3.len; simp at this; omega
  refine Share.cut (fun z w4 => w3 = w4 ∧ z = [.bool (decide (i < x.af.length ∧ i < 4))]) ⟨_, rfl, _, _, _, hld m3, cond_of (fun hb => ⟨rfl, ?_⟩) (fun hb => ⟨rfl, ?_⟩)⟩ ?_
  · have := of_decide_eq_true hb
    congr 2; rw [Bool.eq_iff_iff]; simp only [decide_eq_true_eq]; omega
  · have := of_decide_eq_false hb
    congr 2; rw [Bool.eq_iff_iff]; simp; omega
  rintro z w4 ⟨rfl, rfl⟩
  refine ⟨_, rfl, cond_of (fun hb => ?_) (fun hb => ?_)⟩
  · obtain ⟨hix, hi4'⟩ := of_decide_eq_true hb
    obtain ⟨b4, o4, rfl, hat4⟩ := row_some ((hr.nos m1).nos m3) hix
    refine ⟨_, _, _, hld m3, _, rfl, _, index_slice (k := 1) (by kernel_rfl) (by omega) (by omega), ?_⟩
    rw [add_none, show (i : Int).toNat * 1 = i by omega]
    refine ⟨_, hat4.load (by kernel_rfl) (iL_get hix), _, rem_run (by omega), ?_⟩
    have hb1 : x.af[i].tmod last < last := Int.tmod_lt_of_pos _ (by omega)
    have hb2 : -last < x.af[i].tmod last := by
      have := Int.tmod_lt_of_pos (-x.af[i]) (b := last) (by omega)
      rw [Int.neg_tmod] at this; omega
    refine Share.cut (fun z w5 => w3 = w5 ∧ z = [.int .i64 (if x.af[i].tmod last < 0 then -(x.af[i].tmod last) else x.af[i].tmod last)]) (cond_of (fun hb => ⟨rfl, ?_⟩) (fun hb => ⟨rfl, ?_⟩)) ?_
    · have hb := of_decide_eq_true hb
      rw [if_pos hb, wrap64 (x := 0 - x.af[i].tmod last) (by omega) (by omega), Int.zero_sub]
    · have hb := of_decide_eq_false hb
      rw [if_neg hb]
    rintro z w5 ⟨rfl, rfl⟩
    have hin := aheadN_in (last := last) (k := x.af[i]) h0
    refine ⟨_, _, _, rfl, _, rfl, _, _, _, _, builtI64 _ _, ?_⟩
    rw [show last - (if x.af[i].tmod last < 0 then -(x.af[i].tmod last) else x.af[i].tmod last) = aheadN last x.af[i] from rfl, wrap64 (x := aheadN last x.af[i]) (by omega) (by omega)]
    have mA : Mod No w3 (w3.alloc (.cells ⟨[.int .i64 (aheadN last x.af[i])]⟩ 2)) := (Mod.refl No w3).alloc _
    have aA : At (w3.alloc (.cells ⟨[.int .i64 (aheadN last x.af[i])]⟩ 2)) w3.heap.size 0 [.int .i64 (aheadN last x.af[i])] := AtU.new.at
    have sA : (w3.alloc (.cells ⟨[.int .i64 (aheadN last x.af[i])]⟩ 2)).heap.size = w3.heap.size + 1 := by simp
    obtain ⟨q', c', w17, t1, t2, t3, t4⟩ := (o3.nos mA).app (ty := 64) (m := 1) (c2 := 1) (ad := ⟨w3.heap.size, 0, none⟩) (ys := [.int .i64 (aheadN last x.af[i])]) elemZ_64 (by omega) (.inr ⟨_, _, rfl, aA⟩) rfl (by omega) (by simp; rfl) (by omega) (by omega) (by omega)
    rw [wrap64 (x := (i : Int) + 1) (by omega) (by omega)]
    refine ⟨_, _, _, w17, t1, ⟨i + 1, some q', l + 1, c', _, _, by omega, by omega, rfl, ?_, ?_, ?_⟩, ?_⟩
    · have e : iL ((x.af.take i).map (aheadN last)) ++ [.int .i64 (aheadN last x.af[i])] = iL ((x.af.take (i + 1)).map (aheadN last)) := by
        rw [List.take_succ_eq_append_getElem hix, List.map_append]
        unfold iL
        rw [List.map_append]; rfl
      rw [e] at t2; exact t2
    · exact (m3.no mA).trans t3 fun z hz ⟨q, hq, e⟩ => by have := (o3.base hq).1; omega
    · have := t3.size; omega
    · simp [nI, nth]; omega
  · have hno : ¬ (i < x.af.length ∧ i < 4) := of_decide_eq_false hb
    have et : x.af.take i = x.af.take 4 := by
      by_cases h : i = 4
      · rw [h]
      · have : i = x.af.length := by omega
        rw [this, List.take_length, List.take_of_length_le (by omega)]
    rw [et] at o3
    refine ⟨_, _, _, rfl, hk w3 a l c (m1.no m3) (o3.mono (by omega)) ?_⟩
    have := o3.len; simpa using this.symm
def dirtyV (V : Ps) : List Int := sorted (V.ons.map fun o => (o.b : Int))
theorem dirty_mem {V : Ps} {k : Int} : k ∈ dirtyV V ↔ ∃ o ∈ V.ons, k = (o.b : Int) := by
  unfold dirtyV sorted
  rw [(List.mergeSort_perm _ _).mem_iff, List.mem_map]
  constructor
  · rintro ⟨o, ho, rfl⟩; exact ⟨o, ho, rfl⟩
  · rintro ⟨o, ho, rfl⟩; exact ⟨o, ho, rfl⟩
theorem dirty_len (V : Ps) : (dirtyV V).length = V.ons.length := by
  unfold dirtyV sorted
  rw [(List.mergeSort_perm _ _).length_eq, List.length_map]
theorem sorted_perm {xs ys : List Int} (h : xs.Perm ys) : sorted xs = sorted ys := by
  have hs : ∀ zs : List Int, (sorted zs).Pairwise fun a b => a ≤ b := fun zs => by
    have := List.pairwise_mergeSort (le := fun x y : Int => decide (x ≤ y)) (fun a b c h1 h2 => by simp only [decide_eq_true_eq] at *; omega) (fun a b => by simp only [Bool.or_eq_true, decide_eq_true_eq]; omega) zs
    refine List.Pairwise.imp ?_ this
    intro a b h; simpa using h
  exact List.Perm.eq_of_pairwise (le := fun a b : Int => a ≤ b) (fun a b _ _ h1 h2 => by omega) (hs xs) (hs ys) (((List.mergeSort_perm _ _).trans h).trans (List.mergeSort_perm _ _).symm)
theorem qDirty_c (hP : Pz w0 R w sp d V) (hk : ∀ w' a l c, Mod No w w' → Own Try.prog w' w.heap.size 31 1 a l c (iL (dirtyV V)) → l = (dirtyV V).length → K (.slice a l c) w') : Cal Try.prog F_patch_Store_Dirty #[.pointer (some ⟨sp, 0, none⟩)] w K := by
  obtain ⟨C, eD, eM, hw, rl, c, mo, mm, ca, oa, Lo, Lm, h⟩ := hP
  apply C_patch_Store_Dirty
  unfold D_patch_Store_Dirty
  have hmm := h.mapM
  obtain ⟨Es, clock, g1, g2, g3, g4, g5⟩ := h.mapM
  refine ff rfl ⟨_, rfl, _, h.lm, _, _, range_run u_ons g1, ?_⟩
  have m1 : Mod No w (w.alloc (.mapIter (some mm) clock #[] clock)) := (Mod.refl No w).alloc _
  have hmb := lt_of_heap g1
  have hperm : (Es.map (·.1)).Perm (V.ons.map fun o => (o.b : Int)) := by
    refine (List.perm_ext_iff_of_nodup g3 ?_).2 fun k => ?_
    · have e : (V.ons.map fun o => (o.b : Int)) = (V.ons.map (·.b)).map fun n : Nat => (n : Int) := by rw [List.map_map]; rfl
      rw [e]
      show List.Pairwise _ _
      rw [List.pairwise_map]
      exact List.Pairwise.imp (fun {a b} hne e => hne (by omega)) h.wf.onsN
    · rw [List.mem_map, List.mem_map]
      constructor
      · rintro ⟨e, he, rfl⟩
        obtain ⟨o, ho, e2⟩ := h.keysM (kv e) (by rw [← g2]; exact List.mem_map.2 ⟨e, he, rfl⟩)
        exact ⟨o, ho, e2.symm⟩
      · rintro ⟨o, ho, rfl⟩
        have := look_mem (h.ons o ho).1
        rw [← g2] at this
        obtain ⟨e, he, e2⟩ := List.mem_map.1 this
        exact ⟨e, he, congrArg Prod.fst e2⟩
  have hlenE : Es.length ≤ 4096 := by
    have h1 := hperm.length_eq
    simp at h1
    have h2 := List.Nodup.length_le_of_subset h.wf.onsN (l₂ := List.range C.D.vs.length) fun k hk => by
      rw [List.mem_range]
      obtain ⟨o, ho, rfl⟩ := List.mem_map.1 hk
      exact h.wf.onlt o ho
    simp at h2
    have := h.cx.wf.2.1.hi
    have : C.D.vs.length ≤ 4096 := this
    omega
  refine ⟨fun x w2 => ∃ vis a l c, x = [.slice a l c] ∧ Own Try.prog w2 (w.heap.size + 1) 31 1 a l c (iL (vis.map (·.1))) ∧ Ranged w2 w.heap.size mm Es clock vis ∧ Mod No w w2 ∧ w.heap.size + 1 ≤ w2.heap.size,
    fun _ w2 => togo mm w.heap.size w2, ⟨[], none, 0, 0, rfl, Own.nil elemZ_ints, ⟨m1.keep g1 id, heap_new w _, by simp, by simp, g4, g5⟩, m1, by simp⟩, ?_⟩
  rintro x w2 ⟨vis, a, l, c, rfl, how, hR, hm, hsz⟩
  have hvl : vis.length ≤ Es.length := List.Nodup.length_le_of_subset (nodup_of_map hR.nodup) (fun e he => hR.sub e he)
  have hl : l = vis.length := by have := how.len; simpa using this.symm
  rcases hR.next (P := Try.prog) (ty := 0) with ⟨hp, hrun⟩ | ⟨e, he, w3, hrun, hent, hR3, hnin, hm3, hlt⟩
  · refine ⟨_, _, hrun, false, fun _ => rfl, ff rfl ⟨_, _, _, rfl, Sort_c how (fun w4 o4 m4 => ⟨rfl, ?_⟩) (by rw [List.length_map]; omega)⟩⟩
    have hs : sorted (vis.map (·.1)) = dirtyV V := sorted_perm ((hp.map (·.1)).trans hperm)
    rw [hs] at o4
    refine hk w4 a l c (hm.trans m4 fun z hz e => by omega) (o4.mono (by omega)) ?_
    have := o4.len; simpa using this.symm
  · refine ⟨_, w3, hrun, true, fun _ => rfl, tt rfl ⟨_, hent, _, fun _ => rfl, _, _, _, rfl, _, _, _, _, builtI _ _, ?_⟩⟩
    have how3 := how.keep hm3 (fun q hq e => by have := (how.base hq).1; omega)
    obtain ⟨a4, c4, w4, h4, o4, m4⟩ := how3.snoc (ty := 31) (t := 3) (ys := [.int .i64 e.1]) elemZ_ints (by omega) rfl (by simp; rfl) (by omega) (by omega) (by have := hm3.size; omega)
    have hmb' : mm < w.heap.size + 1 := by omega
    have hR4 := hR3.keep m4 (by omega) (by omega)
    refine ⟨_, _, _, w4, h4, ⟨vis ++ [e], a4, _, c4, rfl, ?_, hR4, (hm.trans hm3 fun x hx e => by omega).trans m4 fun x hx e => by omega, by have := hm3.size; have := m4.size; omega⟩, ?_⟩
    · rw [List.map_append]; simpa [iL, I] using o4
    · have e1 : togo mm w.heap.size w4 = togo mm w.heap.size w3 := by rw [hR4.togo, hR3.togo]
      show togo mm w.heap.size w4 < togo mm w.heap.size w2
      rw [e1]; exact hlt
/-- What holds of a store, in plain terms. -/
theorem Pz.wf (h : Pz w0 R w sp d V) : WFS V ∧ (∀ x ∈ V.all, ∀ k ∈ x.after, k < (x.id : Int)) ∧ (∀ o ∈ V.ons, o.l ≠ []) ∧ V.C.D.left = -1 ∧ WF V.C.D := by
  obtain ⟨C, eD, eM, hP⟩ := h
  have hwf := hP.wf
  refine ⟨?_, hwf.1.afl, hwf.1.lne, ?_, ?_⟩
  · exact WFS.cache (P := ⟨C, V.last, V.ons⟩) (C := V.C) hwf.2.1 (by rw [eD]) eM.symm
  · rw [← eD]; exact hwf.1.run
  · rw [← eD]; exact hwf.2.2.2.1
theorem Pz.full (h : Pz w0 R w sp d V) : ∃ C, C.D = V.C.D ∧ WFP ⟨C, V.last, V.ons⟩ := by
  obtain ⟨C, eD, eM, hP⟩ := h
  exact ⟨C, eD, hP.wf.1⟩
theorem qSafeD_c {n : Int} (hP : Pz w0 R w sp d V) (hk : ∀ w' a cc, Mod No w w' → Fresh w w' a (sfB V.C.D n) → K (.tuple #[.slice a (sfB V.C.D n).length cc, .int .i64 (errOf V.C.D n)]) w') : Cal Try.prog F_disk_Disk_Safe #[.pointer (some ⟨d, 0, none⟩), .int .i64 n] w K := by
  obtain ⟨C, eD, eM, hw, rl, c, mo, mm, ca, oa, Lo, Lm, h⟩ := hP
  obtain ⟨rl2, m, sb, mb, sc, lc, la, L, mp, hC⟩ := h.cx
  refine Safe_c hC.disk fun w' a cc m f => ?_
  have hD : Ps.C (⟨C, V.last, V.ons⟩ : Ps) = C := rfl
  rw [hD, eD] at f ⊢
  exact hk w' a cc m f
end
end Go.Proofs.Ytgcecmfjpljpcaa

/- The statement PatchGoes: all changes get safe. -/
open Go Go.Den Go.Proofs
namespace Go.Proofs.Ytgcecmfjpljpcaa
section
variable {w w' w0 : World} {R : Nat → Prop} {sp d : Nat} {V : Ps} {K : Value → World → Prop}
theorem Row.lt {w : World} {a : Option Addr} {xs : List Value} {q : Addr} (h : Row w a xs) (hne : xs ≠ []) (hq : a = some q) : q.block < w.heap.size := by
  rcases h with h | ⟨b, o, e, hat⟩
  · exact absurd h hne
  · rw [hq] at e; cases e; exact hat.lt
theorem u8L_ne {xs : List UInt8} (h : xs ≠ []) : u8L xs ≠ [] := fun e => h (List.eq_nil_of_length_eq_zero (by have := congrArg List.length e; rw [length_u8L] at this; exact this))
theorem iL_ne {xs : List Int} (h : xs ≠ []) : iL xs ≠ [] := fun e => h (by
  have := congrArg List.length e
  simp at this; exact this)
theorem afterG_c {x : A6} {k n f : Value} {ad aa : Option Addr} {l cd cc : Nat} {last : Nat} (hr : Row w aa (iL x.af)) (h63 : x.af.length ≤ 9223372036854775807) (h1 : last ≤ 1000000)
    (hk : ∀ w' a l c, Mod No w w' → (last ≠ 0 → Own Try.prog w' w.heap.size 64 1 a l c (iL ((x.af.take 4).map (aheadN last))) ∧ l = ((x.af.take 4).map (aheadN last)).length) → K (.slice a l c) w') :
    Cal Try.prog F_leveelaw11_after #[.agg ⟨[k, n, f, .slice ad l cd, .slice aa x.af.length cc, .bool false]⟩, .int .i64 last] w K := by
  by_cases h0 : last = 0
  · apply C_leveelaw11_after
    unfold D_leveelaw11_after
    have m1 : Mod No w (w.alloc (.cells ⟨[k, n, f, .slice ad l cd, .slice aa x.af.length cc, .bool false]⟩ 66)) := (Mod.refl No w).alloc _
    have a1 : At (w.alloc (.cells ⟨[k, n, f, .slice ad l cd, .slice aa x.af.length cc, .bool false]⟩ 66)) w.heap.size 0 [k, n, f, .slice ad l cd, .slice aa x.af.length cc, .bool false] := AtU.new.at
    refine ⟨_, _, box_act6 _ _, Share.dup ⟨_, ?_, ff rfl ⟨_, rfl, tt (decide_eq_true (by omega)) ⟨aa, x.af.length, cc, ?_, hk _ _ _ _ m1 (fun h => absurd h0 h)⟩⟩⟩⟩
    · rw [add_none]; exact a1.load (i := 5) (by kernel_rfl) rfl
    · rw [add_none]; exact a1.load (i := 4) (by kernel_rfl) rfl
  · exact after_c hr h63 (by omega) (by omega) fun w' a l c m o e => hk w' a l c m fun _ => ⟨o, e⟩
theorem open_le {V : Ps} (h : WFS V) : openV V ≤ V.last := by
  have h1 := List.Nodup.length_le_of_subset h.ids (l₂ := (List.range V.last).map (· + 1)) fun k hk => by
    obtain ⟨x, hx, rfl⟩ := List.mem_map.1 hk
    have := h.idr x hx
    rw [List.mem_map]
    exact ⟨x.id - 1, List.mem_range.2 (by omega), by omega⟩
  simpa [openV] using h1
theorem open0 {V : Ps} (hl : ∀ o ∈ V.ons, o.l ≠ []) (h : openV V = 0) : V.ons = [] := by
  cases ho : V.ons with
  | nil => rfl
  | cons o r =>
    exfalso
    have hm : o ∈ V.ons := by rw [ho]; simp
    obtain ⟨x, hx⟩ := List.exists_mem_of_ne_nil _ (hl o hm)
    have := on_all hm hx
    unfold openV at h
    rw [List.eq_nil_of_length_eq_zero h] at this
    cases this
theorem Bnd_fl {D : St} (h : D.left = -1) {m : Nat} (hm : 1 ≤ m) : Bnd (flSt D) m := by
  intro v hv
  have e : flSt D = ⟨D.vs.map fun v => [lastV v], dec D.left⟩ := by unfold flSt; rw [if_neg (by omega)]
  rw [e] at hv
  obtain ⟨u, _, rfl⟩ := List.mem_map.1 hv
  exact hm
/-- What the first part of the law comes to. -/
structure GI (V : Ps) (i : Nat) : Prop where
  srt : Srt V
  one : One1 V
  bnd : Bnd V.C.D (i + 1)
  len : V.C.D.vs.length = 5
  last : V.last ≤ i
theorem GI.pat {i : Nat} (h : GI V i) (hs : WFS V) (n f : Int) (data : Bk) (after : List Int) : Srt (patS V n f data after) ∧ One1 (patS V n f data after) ∧ Bnd (patS V n f data after).C.D (i + 1) ∧ (patS V n f data after).C.D.vs.length = 5 ∧ (patS V n f data after).last ≤ i + 1 ∧
    (patE V n f data after = 0 → (patS V n f data after).last = V.last + 1) ∧ (patE V n f data after ≠ 0 → patS V n f data after = V) := by
  have e := (patS_C (V := V) (C := V.C) (n := n) (f := f) (data := data) (after := after) rfl).2.2
  have hl := h.last
  refine ⟨h.srt.pat hs n f data after, h.one.pat n f data after, by rw [e]; exact h.bnd, by rw [e]; exact h.len, ?_, ?_, ?_⟩
  · unfold patS
    split
    · show V.last + 1 ≤ i + 1; omega
    · omega
  · intro h0; unfold patS; rw [if_pos h0]; rfl
  · intro h0; unfold patS; rw [if_neg h0]
theorem WFS.bnd (h : WFS V) (hb : Bnd V.C.D 1000000) : True := trivial
set_option maxRecDepth 100000 in
theorem PatchGoes_c {a0 : Option Addr} {l0 c0 : Nat} {acts : List A6} (hl : acts.length = l0) (ha : Acts6 w a0 acts) : Cal Try.prog F_leveelaw11_PatchGoes #[.slice a0 l0 c0] w (fun v w' => v = .bool true ∧ Mod No w w') := by
  apply C_leveelaw11_PatchGoes
  unfold D_leveelaw11_PatchGoes
  refine New_c (n := 5) (by omega) (by omega) (fun h => by omega) fun k hk' _ _ w1 d sb mb m1 h1 => ⟨_, _, rfl, ?_⟩
  have : k = 5 := by omega
  subst this
  have hsm : Small (newSt 5) := Small.one (sm _ (by decide +kernel))
  refine qNew_c (w0 := w) (k := 5) h1 hsm (fun x hx => hx) m1 rfl (by omega) (by omega) (by simp [newSt]) fun w2 sp m2 z2 => ⟨_, _, rfl, Share.dup (ff rfl ⟨_, rfl, ff rfl ?_⟩)⟩
  refine ⟨fun x w4 => ∃ (R : Nat → Prop) (V : Ps) (i : Nat) (y2 y3 y4 y5 : Value), x = [.int .i64 V.last, .int .i64 i, y2, y3, y4, y5] ∧ i ≤ 40 ∧ GI V i ∧ Pz w R w4 sp d V, fun x _ => (40 - nI x 1).toNat,
    ⟨_, zeroV 5 5, 0, _, _, _, _, rfl, by omega, ⟨(fun o ho => (by cases ho)), (fun b hb _ => ?_), ?_, rfl, Nat.le_refl _⟩, z2⟩, ?_⟩
  · have hb : b < (newSt 5).vs.length := hb
    show (verOf (newSt 5) b).length = 1
    rw [ver_at hb]
    rw [List.eq_of_mem_replicate (show (newSt 5).vs[b] ∈ List.replicate 5 [zeroB] from List.getElem_mem hb)]; rfl
  · intro v hv
    have hv : v ∈ (newSt 5).vs := hv
    rw [List.eq_of_mem_replicate hv]; simp
  rintro x w5 ⟨R, V, i, y2, y3, y4, y5, rfl, hi40, hG, z5⟩
  refine Share.cut (fun z w6 => w5 = w6 ∧ z = [.bool (decide (i < l0 ∧ i < 40))]) ⟨_, rfl, cond_of (fun hb => ⟨rfl, ?_⟩) (fun hb => ⟨rfl, ?_⟩)⟩ ?_
  · have := of_decide_eq_true hb
    congr 2; rw [Bool.eq_iff_iff]; simp only [decide_eq_true_eq]; omega
  · have := of_decide_eq_false hb
    congr 2; rw [Bool.eq_iff_iff]; simp; omega
  rintro z w6 ⟨rfl, rfl⟩
  have hM5 := z5.mod
  have hwf5 := z5.wf
  refine ⟨_, rfl, cond_of (fun hb => ?_) (fun hb => ?_)⟩
  · -- a call
    obtain ⟨hil, hi4⟩ := of_decide_eq_true hb
    have hia : i < acts.length := by omega
    obtain ⟨q, hidx, cs, hfit, hload⟩ := ha.get (i := i) (cc := c0) hM5 hl (List.getElem?_eq_getElem hia)
    have hst := store_act6 (w := w5) hfit
    refine ⟨_, rfl, q, hidx, ⟨cs⟩, hload, _, _, alloc_act6 _, _, hst, ?_⟩
    obtain ⟨ad, cd, aa, ca, rfl, had, hadn, had63, haa, haa63⟩ := hfit
    generalize acts[i] = A at *
    have m7 : Mod No w5 (w5.alloc (.cells ⟨[.int .i64 A.k, .int .i64 A.n, .int .i64 A.f, .slice ad A.xs.length cd, .slice aa A.af.length ca, .bool A.raw]⟩ 66)) := (Mod.refl No w5).alloc _
    have a7 : AtU (w5.alloc (.cells ⟨[.int .i64 A.k, .int .i64 A.n, .int .i64 A.f, .slice ad A.xs.length cd, .slice aa A.af.length ca, .bool A.raw]⟩ 66)) w5.heap.size 0 [.int .i64 A.k, .int .i64 A.n, .int .i64 A.f, .slice ad A.xs.length cd, .slice aa A.af.length ca, .bool A.raw] := AtU.new
    have s7 : (w5.alloc (.cells ⟨[.int .i64 A.k, .int .i64 A.n, .int .i64 A.f, .slice ad A.xs.length cd, .slice aa A.af.length ca, .bool A.raw]⟩ 66)).heap.size = w5.heap.size + 1 := by simp
    generalize w5.alloc (.cells ⟨[.int .i64 A.k, .int .i64 A.n, .int .i64 A.f, .slice ad A.xs.length cd, .slice aa A.af.length ca, .bool A.raw]⟩ 66) = w7 at *
    obtain ⟨w8, u1, u2, u3, u4⟩ := a7.store (P := Try.prog) (T := 4) (i := 5) (v := .bool false) (by kernel_rfl) (by simp) rfl
    have m8 : Mod No w5 w8 := m7.trans u3 fun z hz e => by have e : z = w5.heap.size := e; omega
    have a8 : At w8 w5.heap.size 0 [.int .i64 A.k, .int .i64 A.n, .int .i64 A.f, .slice ad A.xs.length cd, .slice aa A.af.length ca, .bool false] := u2.at
    have hz8 := u3.size
    have hww := hM5.size
    have hlo5 := z5.lo
    refine ⟨w8, by rw [add_none]; exact u1, _, a8.loadAgg (i := 0) agg_act6 (by simp), _, rfl, ?_⟩
    have haa8 := (haa.nos hM5).nos m8
    have hlast := hG.last
    refine afterG_c (x := A) (last := V.last) haa8 haa63 (by omega) fun w9 a55 l55 c55 m9 h55 => ⟨_, _, _, rfl, ?_⟩
    have M9 := m8.no m9
    have hz9 := m9.size
    have a9 := a8.keep m9 id
    have hnR : ¬ R w5.heap.size := fun e => by have := (hlo5 _ e).2; omega
    have l9 : ∀ {w2 : World} {R2 : Nat → Prop}, ¬ R2 w5.heap.size → Mod R2 w9 w2 → ∀ (j : Nat) (v : Value) (T : TypeId), scal Try.prog T = true → ([.int .i64 A.k, .int .i64 A.n, .int .i64 A.f, .slice ad A.xs.length cd, .slice aa A.af.length ca, .bool false] : List Value)[j]? = some v → Ru (Instr.loadAt T (.pointer (some (Addr.add ⟨w5.heap.size, 0, none⟩ j)))) w2 v w2 := by
      intro w2 R2 hn k j v T hT hj
      rw [add_none]; exact (a9.keep k hn).load hT hj
    refine Share.cut (fun z w10 => w9 = w10 ∧ ∃ (ids : List Int) (aA : Option Addr) (lA cA : Nat), z = [.slice aA lA cA] ∧ Row w9 aA (iL ids) ∧ ids.length = lA ∧ lA ≤ 4 ∧ (ids ≠ [] → ∀ q, aA = some q → w8.heap.size ≤ q.block)) (cond_of (fun hb => ⟨rfl, [], none, 0, 0, rfl, .inl rfl, rfl, by omega, fun h => absurd rfl h⟩) (fun hb => ?_)) ?_
    · have hne : V.last ≠ 0 := fun e => by rw [e] at hb; simp at hb
      obtain ⟨o55, e55⟩ := h55 hne
      have : (A.af.take 4).length ≤ 4 := by simp; omega
      exact ⟨rfl, _, a55, l55, c55, rfl, o55.rowU.row, e55.symm, by rw [e55, List.length_map]; exact this, fun _ q hq => (o55.base hq).1⟩
    rintro z w10 ⟨rfl, ids, aA, lA, cA, rfl, hids, hil2, hl4, hidn⟩
    refine Share.cut (fun z w11 => w9 = w11 ∧ z = [.bool (decide (A.k < 5 ∧ A.xs.length < 300))]) ⟨_, l9 (R2 := No) id (Mod.refl _ _) 0 _ _ (by kernel_rfl) rfl, cond_of (fun hb => ?_) (fun hb => ?_)⟩ ?_
    · have hb := of_decide_eq_true hb
      refine ⟨_, _, _, l9 (R2 := No) id (Mod.refl _ _) 3 _ _ (by kernel_rfl) rfl, rfl, ?_⟩
      congr 2; rw [Bool.eq_iff_iff]; simp only [decide_eq_true_eq]; omega
    · have hb := of_decide_eq_false hb
      refine ⟨rfl, ?_⟩
      congr 2; rw [Bool.eq_iff_iff]; simp; omega
    rintro z w11 ⟨rfl, rfl⟩
    have z9 := z5.nos M9
    refine ⟨_, rfl, Share.cut (fun z w14 => ∃ (R' : Nat → Prop) (V' : Ps), z = [.int .i64 V'.last] ∧ Pz w R' w14 sp d V' ∧ Srt V' ∧ One1 V' ∧ Bnd V'.C.D (i + 1) ∧ V'.C.D.vs.length = 5 ∧ V'.last ≤ i + 1 ∧ ¬ R' w5.heap.size ∧ Mod R w9 w14) (cond_of (fun hb => ?_) (fun hb => ?_)) ?_⟩
    · refine ⟨_, l9 (R2 := No) id (Mod.refl _ _) 1 _ _ (by kernel_rfl) rfl, _, l9 (R2 := No) id (Mod.refl _ _) 2 _ _ (by kernel_rfl) rfl, _, _, _, l9 (R2 := No) id (Mod.refl _ _) 3 _ _ (by kernel_rfl) rfl, _, _, _, rfl, ?_⟩
      refine qPatch_c (n := A.n) (frm := A.f) (data := A.xs) (after := ids) z9 (by omega) rfl (had.nos (hM5.no M9)) (fun hne q hq hR => ?_) (by omega) hil2 (by omega) hids (fun hne q hq hR => ?_) fun w12 m12 z12 => ⟨_, _, rfl, ?_⟩
      · have h1 := Row.lt had (u8L_ne hne) hq
        have h2 := (hlo5 _ hR).1
        omega
      · have h1 := hidn hne q hq
        have h2 := (hlo5 _ hR).2
        omega
      · obtain ⟨g1, g2, g3, g4, g5, g6, g7⟩ := hG.pat hwf5.1 A.n A.f A.xs ids
        have hnR' : ¬ Gro R w9 w12 w5.heap.size := by
          rintro (e | e)
          · exact hnR e
          · omega
        refine Share.cut (fun z w13 => w12 = w13 ∧ z = [.int .i64 (patS V A.n A.f A.xs ids).last]) (cond_of (fun hb => ⟨rfl, ?_⟩) (fun hb => ⟨rfl, ?_⟩)) ?_
        · have h0 : patE V A.n A.f A.xs ids = 0 := by simpa using hb
          rw [g6 h0]
          show [Value.int .i64 (patN V A.n A.f A.xs ids)] = _
          unfold patN; rw [if_pos h0]
        · have h0 : patE V A.n A.f A.xs ids ≠ 0 := by simpa using hb
          rw [g7 h0]
        · rintro z w13 ⟨rfl, rfl⟩
          exact ⟨_, _, rfl, z12, g1, g2, g3, g4, g5, hnR', m12⟩
    · exact ⟨R, V, rfl, z9, hG.srt, hG.one, hG.bnd, hG.len, by omega, hnR, Mod.refl _ _⟩
    rintro z w14 ⟨R', V', rfl, z14, g1, g2, g3, g4, g5, hnR', m14⟩
    refine Share.cut (fun z w15 => w14 = w15 ∧ z = [.bool (decide (A.k = 5 ∨ A.k = 6))]) ⟨_, l9 hnR m14 0 _ _ (by kernel_rfl) rfl, cond_of (fun hb => ⟨rfl, ?_⟩) (fun hb => ⟨_, l9 hnR m14 0 _ _ (by kernel_rfl) rfl, rfl, ?_⟩)⟩ ?_
    · have : A.k = 5 := by simpa using hb
      simp [this]
    · have : ¬ A.k = 5 := by simpa using hb
      simp [this]; rfl
    rintro z w15 ⟨rfl, rfl⟩
    refine ⟨_, rfl, Share.cut (fun z w17 => ∃ (R' : Nat → Prop) (V'' : Ps), V''.last = V'.last ∧ GI V'' (i + 1) ∧ Pz w R' w17 sp d V'') (cond_of (fun hb => ?_) (fun hb => ?_)) ?_⟩
    · refine ⟨_, l9 hnR m14 1 _ _ (by kernel_rfl) rfl, qWrite_c (n := A.n) z14 (fun v hv => by have := g3 v hv; omega) fun w16 m16 z16 => ⟨_, rfl, ?_⟩⟩
      have ho := wr_opn (V := V') A.n
      refine ⟨_, _, ho.2.1, ⟨g1.wr _, g2.wr _, ?_, ?_, by rw [ho.2.1]; exact g5⟩, z16⟩
      · unfold wrV
        split
        · exact Bnd_wr g3 _ _
        · exact g3.mono (by omega)
      · rw [ho.2.2.2]; exact g4
    · exact ⟨R', V', rfl, ⟨g1, g2, g3.mono (by omega), g4, g5⟩, z14⟩
    rintro z w17 ⟨R'', V'', e1, hG', z17⟩
    rw [wrap64 (x := (i : Int) + 1) (by omega) (by omega)]
    rw [← e1]
    exact ⟨⟨R'', V'', i + 1, _, _, _, _, rfl, by omega, hG', z17⟩, by simp [nI, nth]; omega⟩
  -- the rounds
  clear hb
  refine qOpen_c z5 ⟨_, rfl, ?_⟩
  have hN : openV V ≤ 40 := by have := open_le hwf5.1; have := hG.last; omega
  generalize hNe : openV V = N at *
  refine ⟨fun x w19 => ∃ (R : Nat → Prop) (V : Ps) (j : Nat) (y0 y2 y3 : Value), x = [y0, .int .i64 j, y2, y3] ∧ j ≤ N ∧ openV V ≤ N - j ∧ Srt V ∧ One1 V ∧ Bnd V.C.D 1000 ∧ V.C.D.vs.length = 5 ∧ Pz w R w19 sp d V, fun x _ => (N - nI x 1).toNat,
    ⟨R, V, 0, _, _, _, rfl, by omega, by omega, hG.srt, hG.one, hG.bnd.mono (by omega), hG.len, z5⟩, ?_⟩
  clear hG hwf5 hM5 z5 hNe
  clear R V
  rintro x w19 ⟨R, V, j, y0, y2', y3', rfl, hjN, hop, hsrt, hone, hbnd, hlen5, z19⟩
  have hwf := z19.wf
  refine ⟨_, rfl, cond_of (fun hb => ?_) (fun hb => ?_)⟩
  · have hjN : j < N := by have := of_decide_eq_true hb; omega
    refine qDirty_c z19 fun w20 a102 l102 c102 m20 o102 e102 => ⟨_, _, _, rfl, ?_⟩
    have z20 := z19.nos m20
    refine qOpen_c z20 ⟨_, rfl, ?_⟩
    have hlo := z19.lo
    have hd5 : (dirtyV V).length ≤ 5 := by
      rw [dirty_len]
      have := List.Nodup.length_le_of_subset hwf.1.onsN (l₂ := List.range V.C.D.vs.length) fun k hk => by
        rw [List.mem_range]
        obtain ⟨o, ho, rfl⟩ := List.mem_map.1 hk
        exact hwf.1.onlt o ho
      simp at this; omega
    refine ⟨fun x w22 => ∃ (R' : Nat → Prop) (W : Ps) (k : Nat) (y : Value), x = [y, .int .i64 k] ∧ k ≤ l102 ∧ Rd V W ((dirtyV V).take k) ∧ Bnd W.C.D (1000 + k) ∧ W.C.D.vs.length = 5 ∧ Pz w R' w22 sp d W ∧ Row w22 a102 (iL (dirtyV V)) ∧ ∀ q, a102 = some q → ¬ R' q.block, fun x _ => (l102 - nI x 1).toNat,
      ⟨R, V, 0, _, rfl, by omega, by rw [List.take_zero]; exact Rd.start hsrt hone, hbnd, hlen5, z20, o102.rowU.row, fun q hq e => by have := (o102.base hq).1; have := (hlo _ e).2; omega⟩, ?_⟩
    rintro x w22 ⟨R', W, k, y, rfl, hk, hRd, hbW, hlW, z22, hr22, hnr22⟩
    have hwfW := z22.wf
    refine ⟨_, rfl, cond_of (fun hb => ?_) (fun hb => ?_)⟩
    · have hk : k < l102 := by have := of_decide_eq_true hb; omega
      have hkd : k < (dirtyV V).length := by omega
      obtain ⟨b4, o4, rfl, hat4⟩ := row_some hr22 hkd
      refine ⟨_, index_slice (k := 1) (by kernel_rfl) (by omega) (by omega), ?_⟩
      rw [add_none, show (k : Int).toNat * 1 = k by omega]
      refine ⟨_, hat4.load (by kernel_rfl) (iL_get hkd), qWrite_c (n := (dirtyV V)[k]) z22 (fun v hv => by have := hbW v hv; omega) fun w23 m23 z23 => ⟨_, rfl, ?_⟩⟩
      have hE : wrVE W (dirtyV V)[k] = 0 := by
        obtain ⟨o, ho, e⟩ := dirty_mem.1 (List.getElem_mem hkd)
        have hm : o.b ∈ W.ons.map (·.b) := by rw [hRd.sim.bs]; exact List.mem_map.2 ⟨o, ho, rfl⟩
        obtain ⟨o', ho', e2⟩ := List.mem_map.1 hm
        rw [e, ← e2]; exact wrVE_on hwfW.1 ho'
      refine ff (by rw [hE]; rfl) ?_
      have hnext := hRd.next (n := (dirtyV V)[k]) hwfW.1 hwfW.2.1
      rw [← List.take_succ_eq_append_getElem hkd] at hnext
      have ho := wr_opn (V := W) (dirtyV V)[k]
      rw [wrap64 (x := (k : Int) + 1) (by omega) (by omega)]
      refine ⟨⟨_, _, k + 1, _, rfl, by omega, hnext, ?_, by rw [ho.2.2.2]; exact hlW, z23, hr22.keep m23 hnr22, fun q hq e => ?_⟩, by simp [nI, nth]; omega⟩
      · unfold wrV
        rw [if_pos hE]
        exact Bnd_wr hbW _ _
      · rcases e with e | e
        · exact hnr22 q hq e
        · cases hq
          have := hat4.lt
          simp only at e
          omega
    · have hkl : k = l102 := by have := of_decide_eq_false hb; omega
      subst hkl
      rw [e102, List.take_length] at hRd
      refine qFlush_c z22 fun w24 m24 z24 => ⟨_, rfl, ?_⟩
      have hall : ∀ o ∈ V.ons, (o.b : Int) ∈ dirtyV V := fun o ho => dirty_mem.2 ⟨o, ho, rfl⟩
      have hless : 0 < openV V → openV (flV W) < openV V := fun h0 => hRd.fewer hall h0
      have hle : openV (flV W) ≤ openV V := by
        unfold openV
        rw [all_fl]
        have h1 := List.length_filter_le (fun x : Ch => !x.out) W.all
        have h2 := hRd.sim.num
        unfold openV at h2
        omega
      refine Share.cut (fun z w26 => w24 = w26 ∧ z = [.bool false]) (cond_of (fun hb => ?_) (fun hb => ⟨rfl, rfl⟩)) ?_
      · have h0 : 0 < openV V := by have := of_decide_eq_true hb; omega
        have := hless h0
        refine qOpen_c z24 ⟨_, rfl, rfl, ?_⟩
        rw [decide_eq_false (by omega)]
      rintro z w26 ⟨rfl, rfl⟩
      refine ⟨_, rfl, ff rfl ?_⟩
      rw [wrap64 (x := (j : Int) + 1) (by omega) (by omega)]
      refine ⟨⟨_, flV W, j + 1, _, _, _, rfl, by omega, ?_, hRd.srt.fl, One1.fl hwfW.2.2.2.1, Bnd_fl hwfW.2.2.2.1 (by omega), ?_, z24⟩, by simp [nI, nth]; omega⟩
      · by_cases h0 : 0 < openV V
        · have := hless h0; omega
        · omega
      · show (flSt W.C.D).vs.length = 5
        rw [fl_len]; exact hlW
  -- none is open
  have hj : j = N := by have := of_decide_eq_false hb; omega
  have ho0 : openV V = 0 := by omega
  have hons := open0 hwf.2.2.1 ho0
  clear hb
  refine ⟨fun x w27 => ∃ (R : Nat → Prop) (b : Nat) (y : Value), x = [y, .int .i64 b] ∧ b ≤ 5 ∧ Pz w R w27 sp d V, fun x _ => (5 - nI x 1).toNat, ⟨R, 0, _, rfl, by omega, z19⟩, ?_⟩
  clear z19
  rintro x w27 ⟨R', b, y, rfl, hb5, z27⟩
  refine ⟨_, rfl, cond_of (fun hb => ?_) (fun hb => ?_)⟩
  · have hb5 : b < 5 := by have := of_decide_eq_true hb; omega
    have hblt : b < V.C.D.vs.length := by omega
    have he := (rd_at V.C.D hblt).1
    refine qRead_c (n := (b : Int)) z27 (fun h => absurd he h) fun b' hb' _ w28a w28 g cc m28a m28 z28 hg hat => ⟨_, _, _, _, rfl, ?_⟩
    have : b' = b := by omega
    subst this
    refine qSafeD_c (n := (b' : Int)) z28 fun w29 a141 c141 m29 f29 => ⟨_, _, _, _, rfl, ?_⟩
    have hnone : onOf V (b' : Int) = none := by unfold onOf; rw [hons]; rfl
    have hv1 := hone b' hblt (by rw [hons]; intro o ho; cases ho)
    have hsame : contV V b' = sfB V.C.D (b' : Int) := by
      unfold contV sfB
      rw [hnone, if_pos he]
      show lastV (verOf V.C.D b') = hd (verOf V.C.D b')
      obtain ⟨v, hv⟩ := List.length_eq_one_iff.1 hv1
      rw [hv]; rfl
    have hcl : (contV V b').length = 256 := cont_len hwf.1 hwf.2.2.2.2 hblt
    refine ⟨_, str_run (by kernel_rfl) (.inr ⟨_, _, rfl, (hat.keep m29 id).at⟩) hcl, _, str_run (by kernel_rfl) f29.row rfl, ff (by rw [hsame]; simp) ?_⟩
    rw [wrap64 (x := (b' : Int) + 1) (by omega) (by omega)]
    exact ⟨⟨_, b' + 1, _, rfl, by omega, z28.nos m29⟩, by simp [nI, nth]; omega⟩
  · refine Share.dup (qOpen_c z27 ⟨_, rfl, tt (by rw [ho0]; rfl) (qDirty_c z27 fun w31 a154 l154 c154 m31 o154 e154 => ⟨_, _, _, rfl, ?_⟩)⟩)
    have hl0 : l154 = 0 := by rw [e154, dirty_len, hons]; rfl
    subst hl0
    refine tt rfl ?_
    exact known11_c fun w32 m32 => ⟨_, rfl, _, rfl, rfl, ((z27.mod.no m31).no m32)⟩
end
end Go.Proofs.Ytgcecmfjpljpcaa
