/- Parts of the proof, in order: what the statement leans on. -/
import Derived.Test.YtocjjigmpgekfaaGreatCe
section
/- Layer 11, the document's store: a write, a flush, a new store. -/
open Go Go.Den Go.Proofs
namespace Go.Proofs.YtocjjigmpgekfaaGreat
section
variable {w0 w w' : World} {R : Nat → Prop} {rl : Nat → Nat} {rp r vb vc bc lc : Nat} {hs : List (Nat × Nat)} {ba la : Option Addr} {H : List (Option Addr × Nat)} {S : Rs} {K : Value → World → Prop}
def outF (f : Ch → Bool) (x : Ch) : Ch := { x with out := x.out || f x }
def wrER (S : Rs) (n : Int) : Int := if ¬ (0 ≤ n ∧ n < S.base.length) then 3 else if (S.l.any fun x => decide ((x.b : Int) = n)) = true then 0 else 20
def wrSR (S : Rs) (n : Int) (f : Ch → Bool) : Rs := if wrER S n = 0 then { S with D := wrSt S.D n (rdR S n.toNat f), l := S.l.map (outF f) } else S
theorem like_out (f : Ch → Bool) : Like (outF f) where
  id _ := rfl
  b _ := rfl
  frm _ := rfl
  data _ := rfl
  after _ := rfl
theorem WFR.map {f : Ch → Ch} (h : WFR S) (hf : Like f) : WFR { S with l := S.l.map f } := by
  have hm : ∀ {y : Ch}, y ∈ S.l.map f → ∃ x ∈ S.l, y = f x := fun hy => by obtain ⟨x, hx, rfl⟩ := List.mem_map.1 hy; exact ⟨x, hx, rfl⟩
  exact {
    len := h.len
    small := h.small
    bl := h.bl
    dat := fun y hy => by obtain ⟨x, hx, rfl⟩ := hm hy; rw [hf.data, hf.frm]; exact h.dat x hx
    blt := fun y hy => by obtain ⟨x, hx, rfl⟩ := hm hy; rw [hf.b]; exact h.blt x hx
    srt := List.Pairwise.map _ (fun a b hab => by rw [hf.id, hf.id]; exact hab) h.srt
    idr := fun y hy => by obtain ⟨x, hx, rfl⟩ := hm hy; rw [hf.id]; exact h.idr x hx
    aft := fun y hy => by obtain ⟨x, hx, rfl⟩ := hm hy; rw [hf.after, hf.id]; exact h.aft x hx
    aftn := fun y hy => by obtain ⟨x, hx, rfl⟩ := hm hy; rw [hf.after]; exact h.aftn x hx
    last := h.last }
theorem WFR.dsk {D : St} (h : WFR S) (hs : Small D) (hn : D.vs.length = S.D.vs.length) : WFR { S with D := D } := { h with len := h.len.trans hn.symm, small := hs }
theorem Rx.dsk {Z : Nat → Prop} {rl : Nat → Nat} {hs' : List (Nat × Nat)} {D' : St} (h : RIn w0 R rl w rp r vb vc hs ba bc la lc H S) (k : Mod Z w w') (hS : ∀ x, Z x → rl x = 4)
    (hd : RefIn w' (Gro (fun x => rl x = 4) w w') r vb vc hs' D') (hsm : Small D') (hn : D'.vs.length = S.D.vs.length) : Rx w0 (Gro R w w') w' rp r { S with D := D' } := by
  obtain ⟨rl', h'⟩ := h.dsk k hS hd hsm hn
  exact ⟨rl', vb, vc, hs', ba, bc, la, lc, H, h'⟩
theorem chV_set (x : Ch) (p : Option Addr × Nat) (b : Bool) : (chV x p).set 5 (.bool b) = chV { x with out := b } p := rfl
theorem rWrite11_c {n : Int} {f : Nat → Ch → Bool} (hR : Rx w0 R w rp r S) (hl : S.D.left = -1) (hb9 : ∀ v ∈ S.D.vs, v.length ≤ 999999) (hf : ∀ b, n = (b : Nat) → MayR S b (f b))
    (hk : ∀ w', Mod R w w' → Rx w0 (Gro R w w') w' rp r (wrSR S n (f n.toNat)) → K (.int .i64 (wrER S n)) w') : Cal Tryz.prog F_leveeref11_Store_Write #[.pointer (some ⟨rp, 0, none⟩), .int .i64 n] w K := by
  have hR' := hR
  obtain ⟨rl, vb, vc, hs, ba, bc, la, lc, H, h⟩ := hR
  have hno : ∀ e : Int, e ≠ 0 → wrER S n = e → ∀ w', Mod No w w' → K (.int .i64 e) w' := fun e he hpe w' m => by
    have := hk w' (m.mono fun _ _ => False.elim) (by unfold wrSR; rw [if_neg (by omega)]; exact hR'.gro m)
    rwa [hpe] at this
  have hlen := h.wf.llen
  have hlast := h.wf.last
  have hlo := h.lo
  apply C_leveeref11_Store_Write
  unfold D_leveeref11_Store_Write
  refine rImage11_c h hf (fun hn => ⟨_, _, _, _, rfl, tt rfl (hno 3 (by omega) (by unfold wrER; rw [if_pos hn]) w (Mod.refl _ _))⟩) fun b hnb hbl w1 a15 c15 m1 r1 f1 => ⟨_, _, _, _, rfl, ff rfl ?_⟩
  subst hnb
  have hfb := hf b rfl
  rw [Int.toNat_natCast] at hk
  generalize hfe : f b = f1' at *
  refine rmay_c (h.nos m1) hfb fun w2 gm m2 hgm atm => ⟨_, _, _, rfl, ?_⟩
  have M2 := m1.no m2
  have hz1 := m1.size
  have hz2 := m2.size
  -- the changes anew
  refine ⟨fun x w3 => ∃ (i : Nat) (a : Option Addr) (c : Nat), x = [.bool ((S.l.take i).any fun x => decide (x.b = b)), .slice a i c, .int .i64 i] ∧ i ≤ S.l.length ∧ Own Tryz.prog w3 w2.heap.size 41 6 a i c (rowL ((S.l.take i).map (outF f1')) (H.take i)) ∧ Mod No w2 w3, fun x _ => (S.l.length - nI x 2).toNat,
    ⟨0, none, 0, rfl, by omega, Own.nilG elemG_chgs, Mod.refl _ _⟩, ?_⟩
  rintro x w3 ⟨i, a, c, rfl, hi, o3, m3⟩
  have M3 := M2.no m3
  have h3 := h.nos M3
  have atm3 := atm.keep m3 id
  refine ⟨_, rfl, _, rfl, _, _, _, h3.ll, cond_of (fun hb => ?_) (fun hb => ?_)⟩
  · have hi : i < S.l.length := by have := of_decide_eq_true hb; omega
    have hxi := List.getElem?_eq_getElem hi
    generalize hxe : S.l[i] = x at hxi
    obtain ⟨g, p, hg, hp, hix, hld, hagg, hra⟩ := h3.at hxi
    refine ⟨_, rfl, _, _, _, h3.ll, _, hix, _, hagg, _, _, alloc_chg _, _, store_new agg_chg rfl rfl (one_chV x p), ?_⟩
    have m5 : Mod No w3 (w3.alloc (.cells ⟨chV x p⟩ 186)) := (Mod.refl No w3).alloc _
    have a5 : AtU (w3.alloc (.cells ⟨chV x p⟩ 186)) w3.heap.size 0 (chV x p) := AtU.new
    generalize w3.alloc (.cells ⟨chV x p⟩ 186) = w5 at *
    have hz3 := M3.size
    have hz23 := m3.size
    have hz5 := m5.size
    have hlt5 := a5.lt
    have ht : ((S.l.take (i + 1)).any fun x => decide (x.b = b)) = (((S.l.take i).any fun x => decide (x.b = b)) || decide (x.b = b)) := by
      rw [List.take_succ_eq_append_getElem hi, List.any_append, hxe]; simp
    have l5 : ∀ {w' : World}, Mod No w5 w' → ∀ (j : Nat) (T : TypeId) (v : Value), scal Tryz.prog T = true → (chV x p)[j]? = some v → Ru (Instr.loadAt T (.pointer (some (Addr.add ⟨w3.heap.size, 0, none⟩ j)))) w' v w' := fun m j T v hT hj => by rw [add_none]; exact (a5.at.keep m id).load hT hj
    refine Share.cut (fun z w6 => w5 = w6 ∧ z = [.bool ((S.l.take (i + 1)).any fun x => decide (x.b = b))]) ⟨_, rfl, cond_of (fun hb1 => ⟨rfl, by rw [ht, hb1]; rfl⟩) (fun hb1 => ⟨_, l5 (Mod.refl _ _) 1 _ _ (by kernel_rfl) rfl, rfl, ?_⟩)⟩ ?_
    · rw [ht, hb1, Bool.false_or]
      exact congrArg (fun b => [Value.bool b]) (by rw [Bool.eq_iff_iff]; simp only [beq_iff_eq, decide_eq_true_eq]; omega)
    rintro z w6 ⟨rfl, rfl⟩
    refine Share.cut (fun z w9 => AtU w9 w3.heap.size 0 (chV (outF f1' x) p) ∧ Mod (fun z => z = w3.heap.size) w5 w9) ⟨_, l5 (Mod.refl _ _) 5 _ _ (by kernel_rfl) rfl, cond_of (fun hb1 => ?_) (fun hb1 => ⟨_, ixBool hi, _, ldBool (atm3.keep m5 id) (show (S.l.map f1')[i]? = some (f1' x) by rw [List.getElem?_map, hxi]; rfl), ?_⟩)⟩ ?_
    · obtain ⟨w7, s7, a7, m7, _⟩ := a5.store (P := Tryz.prog) (T := 4) (i := 5) (v := .bool true) (by kernel_rfl) (by simp [chV]) rfl
      rw [chV_set] at a7
      refine ⟨w7, by rw [add_none]; exact s7, ?_, m7⟩
      have : outF f1' x = { x with out := true } := by unfold outF; rw [hb1]; rfl
      rw [this]; exact a7
    · obtain ⟨w7, s7, a7, m7, _⟩ := a5.store (P := Tryz.prog) (T := 4) (i := 5) (v := .bool (f1' x)) (by kernel_rfl) (by simp [chV]) rfl
      rw [chV_set] at a7
      refine ⟨w7, by rw [add_none]; exact s7, ?_, m7⟩
      have : outF f1' x = { x with out := f1' x } := by unfold outF; rw [hb1]; rfl
      rw [this]; exact a7
    rintro z w9 ⟨a9, m9⟩
    have M9 : Mod No w3 w9 := m5.trans m9 fun z hz e => by have e : z = w3.heap.size := e; omega
    have hz9 := M9.size
    have ag := a9.at.loadAgg (P := Tryz.prog) (T := 186) (i := 0) (n := 6) agg_chg (by simp [chV])
    refine ⟨_, _, _, rfl, _, ag, _, _, _, _, built_chg _ _ _, ?_⟩
    have m10 : Mod No w9 (w9.alloc (.cells ⟨chV (outF f1' x) p⟩ 186)) := (Mod.refl No _).alloc _
    have r10 : Row (w9.alloc (.cells ⟨chV (outF f1' x) p⟩ 186)) (some ⟨w9.heap.size, 0, none⟩) (chV (outF f1' x) p) := .inr ⟨_, _, rfl, AtU.new.at⟩
    generalize w9.alloc (.cells ⟨chV (outF f1' x) p⟩ 186) = w10 at *
    have hz10 := m10.size
    have ob : ∀ {q}, a = some q → _ := fun {q} hq => o3.base (q := q) hq
    obtain ⟨q, c', w11, run, p11, mm, _⟩ := ((o3.nos M9).nos m10).appG (ty := 41) (m := 1) (c2 := 1) elemG_chgs (by omega) r10 rfl (by omega) (one_chV _ _) (by omega) (by omega) (by omega)
    rw [wrap64 (x := (i : Int) + 1) (by omega) (by omega)]
    refine ⟨_, _, _, w11, run, ⟨i + 1, _, _, rfl, by omega, ?_, ((m3.no M9).no m10).trans mm fun z hz ⟨q', hq', e⟩ => ?_⟩, by simp [nI, nth]; omega⟩
    · have e : rowL ((S.l.take (i + 1)).map (outF f1')) (H.take (i + 1)) = rowL ((S.l.take i).map (outF f1')) (H.take i) ++ chV (outF f1' x) p := by
        have hi2 : i < H.length := by rw [h.hl]; exact hi
        rw [List.take_succ_eq_append_getElem hi, List.take_succ_eq_append_getElem hi2, List.map_append, hxe]
        have : H[i] = p := by rw [List.getElem?_eq_getElem hi2] at hp; exact Option.some.inj hp
        rw [this]
        exact rowL_snoc (by simp [h.hl]) _ _
      rw [e]; exact p11
    · have := (ob hq').1; omega
  -- the store has them
  have hi : i = S.l.length := by have := of_decide_eq_false hb; omega
  subst hi
  rw [List.take_length, List.take_of_length_le (by rw [h.hl]; exact Nat.le_refl _)] at o3
  rw [List.take_length]
  have hany : (S.l.any fun x => decide ((x.b : Int) = (b : Int))) = S.l.any fun x => decide (x.b = b) := by
    congr 1; funext x; rw [decide_eq_decide]; omega
  refine ⟨_, rfl, cond_of (fun hb1 => ?_) (fun hb1 => ?_)⟩
  · refine hno 20 (by omega) ?_ w3 M3
    have hb1 : (S.l.any fun x => decide (x.b = b)) = false := by simpa using hb1
    unfold wrER
    rw [if_neg (by omega), hany, hb1]; rfl
  have hb1 : (S.l.any fun x => decide (x.b = b)) = true := by
    cases e : S.l.any fun x => decide (x.b = b)
    · rw [e] at hb1; simp at hb1
    · rfl
  have hE : wrER S (b : Int) = 0 := by unfold wrER; rw [if_neg (by omega), hany, hb1]; rfl
  have hS : wrSR S (b : Int) f1' = { S with D := wrSt S.D b (rdR S b f1'), l := S.l.map (outF f1') } := by unfold wrSR; rw [if_pos hE, Int.toNat_natCast]
  rw [hE, hS] at hk
  have hz3 := m3.size
  have hrpR : R rp := h.reg rp (by rw [h.rp1]; omega)
  have hrplt := (hlo rp hrpR).2
  obtain ⟨w12, st12, c12, m12, _⟩ := h3.cell.store (P := Tryz.prog) (T := 41) (i := 2) (v := .slice a S.l.length c) (by kernel_rfl) (by simp) rfl
  have c12 : AtU w12 rp 0 [.pointer (some ⟨r, 0, none⟩), .slice ba S.base.length bc, .slice a S.l.length c, .int .i64 S.last] := c12
  refine ⟨_, _, _, rfl, _, rfl, w12, by rw [add_none]; exact st12, ?_⟩
  have hz12 := m12.size
  have M12 : Mod (fun x => x = rp) w w12 := (M3.mono fun _ _ => False.elim).trans m12 fun _ _ e => e
  have ob : ∀ {q}, a = some q → _ := fun {q} hq => o3.base (q := q) hq
  have old : ∀ x, rl x ≠ 0 → x < w.heap.size := fun x hx => (hlo x (h.reg x hx)).2
  have hbaR : ∀ q, ba = some q → q.block ≠ rp := fun q hq e => by have := h.rba q hq; rw [e, h.rp1] at this; omega
  have h12 : RIn w0 (Gro R w w12) (fun z => if w2.heap.size ≤ z ∧ z < w12.heap.size then 3 else rl z) w12 rp r vb vc hs ba bc a c H { S with l := S.l.map (outF f1') } := by
    refine h.step rfl M12 ⟨fun x hx => ?_, fun x h0 hx => ?_, fun x hx => ?_⟩ (fun x hx e => by subst e; rw [h.rp1]; omega) (by rw [show ((S.l.map (outF f1')).length) = S.l.length by simp]; exact c12) ?_ ?_ (by simp [h.hl]) (fun j x p hx hp => ?_) (fun q hq => ?_) (fun q hq => ?_) (h.wf.map (like_out f1'))
    · have := old x hx
      rw [if_neg (by omega)]
    · split at hx
      · omega
      · exact absurd h0 hx
    · split at hx
      · omega
      · exact hx
    · exact (h.base.nos M3).keep m12 fun q hq e => hbaR q hq e
    · rw [show ((S.l.map (outF f1')).length) = S.l.length by simp]
      exact (o3.mono (by have := h.mod.size; omega)).keep m12 fun q hq e => by have := ob hq; have e : q.block = rp := e; omega
    · rw [List.getElem?_map] at hx
      obtain ⟨x0, hx0, rfl⟩ := Option.map_eq_some_iff.1 hx
      exact .inl ⟨j, x0, hx0, hp, rfl⟩
    · have := old _ (by rw [h.rba q hq]; omega : rl q.block ≠ 0)
      rw [if_neg (by omega)]; exact h.rba q hq
    · have := ob hq
      rw [if_pos (by omega)]
  have hlenb : (rdR S b f1').length = 256 := by
    have := rdR_len h.wf (f := f1') (n := S.l.length) hbl
    rwa [List.take_length] at this
  have hr12 : Row w12 a15 (u8L (rdR S b f1')) := ((r1.nos m2).nos m3).keep m12 fun q hq e => by have := f1 q hq; have e : q.block = rp := e; omega
  have hbD : b < S.D.vs.length := by rw [← h.wf.len]; exact hbl
  have hwr := wr_is hbD hlenb hl
  refine ⟨_, rfl, _, h12.ld, refWrite_c (ys := rdR S b f1') h12.disk hb9 hlenb hr12 (fun _ q hq e => ?_) fun w13 hs13 m13 d13 => ⟨_, rfl, ?_⟩⟩
  · have e : (if w2.heap.size ≤ q.block ∧ q.block < w12.heap.size then 3 else rl q.block) = 4 := e
    have := f1 q hq
    split at e
    · omega
    · have := old q.block (by omega); omega
  · have hz13 := m13.size
    have hx := Rx.dsk h12 m13 (fun _ e => e) d13 (Small_wr hb9 _ _) (len_wr _ _ _)
    rw [gro_gro M12.size hz13] at hx
    have e0 : wrE S.D (b : Int) (rdR S b f1') = 0 := hwr.1
    show K (.int .i64 (wrE S.D (b : Int) (rdR S b f1'))) w13
    rw [e0]
    refine hk w13 ((M12.mono fun x _ e => by rw [e]; exact hrpR).trans m13 fun x hx e => ?_) hx
    have e : (if w2.heap.size ≤ x ∧ x < w12.heap.size then 3 else rl x) = 4 := e
    split at e
    · omega
    · exact h.reg x (by omega)
/-- A flush, as the document says. -/
def basR (S : Rs) (l : List Ch) : List Bk := S.base.mapIdx fun b x => withL x (l.filter fun c => decide (c.b = b) && c.out)
def flR (S : Rs) : Rs := { S with D := flSt S.D, base := basR S S.l, l := S.l.filter fun x => !x.out }
theorem basR_len (S : Rs) (l : List Ch) : (basR S l).length = S.base.length := by unfold basR; simp
theorem basR_get {S : Rs} {l : List Ch} {b : Nat} (hb : b < S.base.length) : (basR S l)[b]? = some (withL S.base[b] (l.filter fun c => decide (c.b = b) && c.out)) := by
  unfold basR
  rw [List.getElem?_mapIdx, List.getElem?_eq_getElem hb]; rfl
theorem basR_nil (S : Rs) : basR S [] = S.base := by
  refine List.ext_getElem? fun b => ?_
  by_cases hb : b < S.base.length
  · rw [basR_get hb, List.getElem?_eq_getElem hb]; rfl
  · rw [List.getElem?_eq_none (by rw [basR_len]; omega), List.getElem?_eq_none (by omega)]
theorem basR_snoc {S : Rs} {l : List Ch} {x : Ch} (hx : x.b < S.base.length) : basR S (l ++ [x]) = if x.out = true then (basR S l).set x.b (overB ((basR S l)[x.b]?.getD []) x.frm x.data) else basR S l := by
  refine List.ext_getElem? fun b => ?_
  by_cases hb : b < S.base.length
  · rw [basR_get hb, List.filter_append]
    by_cases ho : x.out = true
    · rw [if_pos ho]
      by_cases e : x.b = b
      · subst e
        rw [List.getElem?_set_self (by rw [basR_len]; exact hb), basR_get hb]
        rw [show [x].filter (fun c => decide (c.b = x.b) && c.out) = [x] by simp [ho], withL_snoc]; rfl
      · rw [List.getElem?_set_ne e, basR_get hb]
        rw [show [x].filter (fun c => decide (c.b = b) && c.out) = [] by simp [e], List.append_nil]
    · rw [if_neg ho, basR_get hb]
      rw [show [x].filter (fun c => decide (c.b = b) && c.out) = [] by simp [ho], List.append_nil]
  · rw [List.getElem?_eq_none (by rw [basR_len]; omega)]
    split
    · rw [List.getElem?_eq_none (by rw [List.length_set, basR_len]; omega)]
    · rw [List.getElem?_eq_none (by rw [basR_len]; omega)]
theorem withL_256 {b : Bk} {l : List Ch} (hb : b.length = 256) (hl : ∀ x ∈ l, x.frm + x.data.length ≤ 256) : (withL b l).length = 256 := withL_len hb l hl
theorem WFR.base {l : List Ch} (h : WFR S) (hl : ∀ x ∈ l, x ∈ S.l) : WFR { S with base := basR S l } := { h with
  len := by rw [← h.len]; exact basR_len S l
  bl := fun b hb => by
    have hb : b ∈ basR S l := hb
    obtain ⟨i, hi, rfl⟩ := List.getElem_of_mem hb
    rw [basR_len] at hi
    have := basR_get (l := l) hi
    rw [List.getElem?_eq_getElem (by rw [basR_len]; exact hi)] at this
    rw [Option.some.inj this]
    exact withL_256 (h.bl _ (List.getElem_mem hi)) fun x hx => (h.dat x (hl x (List.mem_filter.1 hx).1)).2
  blt := fun x hx => by
    show x.b < (basR S l).length
    rw [basR_len]; exact h.blt x hx }
theorem WFR.sub {p : Ch → Bool} (h : WFR S) : WFR { S with l := S.l.filter p } := { h with
  dat := fun x hx => h.dat x (List.mem_filter.1 hx).1
  blt := fun x hx => h.blt x (List.mem_filter.1 hx).1
  srt := h.srt.filter p
  idr := fun x hx => h.idr x (List.mem_filter.1 hx).1
  aft := fun x hx => h.aft x (List.mem_filter.1 hx).1
  aftn := fun x hx => h.aftn x (List.mem_filter.1 hx).1 }
def keptZ (S : Rs) (H : List (Option Addr × Nat)) (i : Nat) : List (Ch × (Option Addr × Nat)) := ((S.l.zip H).take i).filter fun p => !p.1.out
theorem kept_fst {S : Rs} {H : List (Option Addr × Nat)} (hl : H.length = S.l.length) (i : Nat) : (keptZ S H i).map (·.1) = (S.l.take i).filter fun x => !x.out := by
  unfold keptZ
  have e : S.l.take i = ((S.l.zip H).take i).map (·.1) := by
    rw [List.map_take, List.map_fst_zip (by omega)]
  rw [e, List.filter_map]; rfl
def rowZ (Z : List (Ch × (Option Addr × Nat))) : List Value := rowL (Z.map (·.1)) (Z.map (·.2))
theorem rowZ_snoc (Z : List (Ch × (Option Addr × Nat))) (x : Ch) (p : Option Addr × Nat) : rowZ (Z ++ [(x, p)]) = rowZ Z ++ chV x p := by
  unfold rowZ
  rw [List.map_append, List.map_append]
  exact rowL_snoc (by simp) x p
theorem kept_snoc {S : Rs} {H : List (Option Addr × Nat)} {i : Nat} {x : Ch} {p : Option Addr × Nat} (hx : S.l[i]? = some x) (hp : H[i]? = some p) : keptZ S H (i + 1) = keptZ S H i ++ if x.out = true then [] else [(x, p)] := by
  have hz : (S.l.zip H)[i]? = some (x, p) := by rw [List.getElem?_zip_eq_some]; exact ⟨hx, hp⟩
  obtain ⟨hi, e⟩ := List.getElem?_eq_some_iff.1 hz
  unfold keptZ
  rw [List.take_succ_eq_append_getElem hi, List.filter_append, e]
  congr 1
  split <;> rename_i h <;> simp [h]
set_option maxRecDepth 100000 in
theorem rFlush11_c (hR : Rx w0 R w rp r S) (hk : ∀ w', Mod R w w' → Rx w0 (Gro R w w') w' rp r (flR S) → K (.int .i64 0) w') : Cal Tryz.prog F_leveeref11_Store_Flush #[.pointer (some ⟨rp, 0, none⟩)] w K := by
  obtain ⟨rl0, vb, vc, hs0, ba, bc, la, lc, H, h0⟩ := hR
  apply C_leveeref11_Store_Flush
  unfold D_leveeref11_Store_Flush
  refine ⟨_, rfl, _, h0.ld, refFlush_c h0.disk h0.wf.small fun w1 hs m1 d1 => ⟨_, rfl, ?_⟩⟩
  have hsm : Small (flSt S.D) := by
    unfold flSt; split
    · exact h0.wf.small
    · intro v hv; simp at hv; obtain ⟨u, _, rfl⟩ := hv; simp
  obtain ⟨rl, h⟩ := h0.dsk m1 (fun _ e => e) d1 hsm (fl_len _)
  have M1 : Mod R w w1 := m1.mono fun z _ e => h0.reg z (by have e4 : rl0 z = 4 := e; omega)
  have hlo0 := h0.lo
  have hz1 := m1.size
  have hw0 := h0.mod.size
  clear d1 h0 m1
  -- the changes, one after another
  have hlen : S.l.length ≤ S.last := h.wf.llen
  have hlast : S.last ≤ 1000000 := h.wf.last
  have hHl : H.length = S.l.length := h.hl
  have hrpR : Gro R w w1 rp := h.reg rp (by rw [h.rp1]; omega)
  have hlo := h.lo
  have old : ∀ x, rl x ≠ 0 → x < w1.heap.size := fun x hx => (hlo x (h.reg x hx)).2
  refine ⟨fun x w2 => ∃ (i : Nat) (a : Option Addr) (c : Nat), x = [.slice a (keptZ S H i).length c, .int .i64 i] ∧ i ≤ S.l.length ∧ Own Tryz.prog w2 w1.heap.size 41 6 a (keptZ S H i).length c (rowZ (keptZ S H i)) ∧
      RIn w0 (Gro (Gro R w w1) w1 w2) rl w2 rp r vb vc hs ba bc la lc H { S with D := flSt S.D, base := basR S (S.l.take i) } ∧ Mod (fun x => rl x = 2) w1 w2, fun x _ => (S.l.length - nI x 1).toNat,
    ⟨0, none, 0, rfl, by omega, Own.nilG elemG_chgs, by rw [List.take_zero, basR_nil]; exact h.gro (Mod.refl _ _), Mod.refl _ _⟩, ?_⟩
  rintro x w2 ⟨i, a, c, rfl, hi, o2, h2, M2⟩
  have hz2 := M2.size
  have hkl : (keptZ S H i).length ≤ i := by
    unfold keptZ
    have := List.length_filter_le (fun p : Ch × (Option Addr × Nat) => !p.1.out) ((S.l.zip H).take i)
    simp at this ⊢; omega
  refine ⟨_, rfl, _, rfl, _, _, _, h2.ll, cond_of (fun hb => ?_) (fun hb => ?_)⟩
  · have hi : i < S.l.length := by
      have hb' : (i : Int) < (S.l.length : Int) := of_decide_eq_true hb
      omega
    have hxi := List.getElem?_eq_getElem hi
    generalize hxe : S.l[i] = x at hxi
    have hxm := List.mem_of_getElem? hxi
    obtain ⟨g, p, hg, hp, hix, hld, hagg, hra⟩ := h2.at hxi
    have hxb : x.b < S.base.length := h.wf.blt x hxm
    have hsn := basR_snoc (S := S) (l := S.l.take i) hxb
    have htk : S.l.take (i + 1) = S.l.take i ++ [x] := by rw [List.take_succ_eq_append_getElem hi, hxe]
    rw [← htk] at hsn
    have hks := kept_snoc hxi hp
    refine ⟨_, rfl, _, _, _, h2.ll, _, hix, _, hagg, _, _, alloc_chg _, _, store_new agg_chg rfl rfl (one_chV x p), ?_⟩
    have m4 : Mod No w2 (w2.alloc (.cells ⟨chV x p⟩ 186)) := (Mod.refl No w2).alloc _
    have a4 : AtU (w2.alloc (.cells ⟨chV x p⟩ 186)) w2.heap.size 0 (chV x p) := AtU.new
    generalize w2.alloc (.cells ⟨chV x p⟩ 186) = w4 at *
    have hz4 := m4.size
    have hlt4 := a4.lt
    have l4 : ∀ {w' : World}, Mod No w4 w' → ∀ (j : Nat) (T : TypeId) (v : Value), scal Tryz.prog T = true → (chV x p)[j]? = some v → Ru (Instr.loadAt T (.pointer (some (Addr.add ⟨w2.heap.size, 0, none⟩ j)))) w' v w' := fun m j T v hT hj => by rw [add_none]; exact (a4.at.keep m id).load hT hj
    have g4 : ∀ {w' : World}, Mod No w4 w' → Ru (Instr.loadAt 186 (.pointer (some ⟨w2.heap.size, 0, none⟩))) w' (.agg ⟨chV x p⟩) w' := fun m => (a4.at.keep m id).loadAgg (P := Tryz.prog) (T := 186) (i := 0) (n := 6) agg_chg (by simp [chV])
    refine ⟨_, l4 (Mod.refl _ _) 5 _ _ (by kernel_rfl) rfl, ?_⟩
    rw [wrap64 (x := (i : Int) + 1) (by omega) (by omega)]
    have md : Mod No w4 (drew w4) := (Mod.refl No w4).drew
    refine Share.dup (cond_of (fun ho => ?_) (fun ho => ?_))
    · -- it is on the disk
      rw [if_pos ho] at hsn
      rw [if_pos ho, List.append_nil] at hks
      have hd := (h2.nos m4).nos md
      have hbl2 : x.b < (basR S (S.l.take i)).length := by rw [basR_len]; exact hxb
      obtain ⟨gb, hgb, hixb, hldb, hl256⟩ := hd.bas hbl2
      have hl256 : (basR S (S.l.take i))[x.b].length = 256 := hl256
      obtain ⟨cc, w5, c1, c2, c3, c4⟩ := bytes_run (P := Tryz.prog) (w := drew w4) (S := 9) (T := 36) (xs := (basR S (S.l.take i))[x.b]) (by kernel_rfl)
      rw [hl256] at c1 c4
      have M5 := md.no c3
      have h5 := (h2.nos m4).nos M5
      refine ⟨_, rfl, _, _, _, hd.lb, _, l4 md 1 _ _ (by kernel_rfl) rfl, _, rfl, _, _, _, hd.lb, _, l4 md 1 _ _ (by kernel_rfl) rfl, _, hixb, _, hldb, _, g4 md, _, _, _, w5, c1, h5.lb, l4 M5 1 _ _ (by kernel_rfl) rfl, g4 M5, ?_⟩
      refine upon_c hl256 (h.wf.dat x hxm).2 c4 (.inr ⟨_, _, rfl, c2.at⟩) fun w6 a6 c6 m6 o6 => ⟨_, _, _, rfl, ?_⟩
      have M6 := M5.no m6
      have h6 := (h2.nos m4).nos M6
      have hol : (overB (basR S (S.l.take i))[x.b] x.frm x.data).length = 256 := by rw [overB_len (by rw [hl256]; exact (h.wf.dat x hxm).2)]; exact hl256
      refine ⟨h6.lb, l4 M6 1 _ _ (by kernel_rfl) rfl, _, str_run (by kernel_rfl) o6.rowU.row hol, _, hixb, ?_⟩
      have hz6 := M6.size
      subst hgb
      obtain ⟨w7, s7, o7, m7⟩ := h6.base.setK (T' := 9) (i := x.b) (v := strV (overB (basR S (S.l.take i))[x.b] x.frm x.data)) (by kernel_rfl) (by show x.b < (basR S (S.l.take i)).length * 1; omega) rfl
      refine ⟨w7, s7, ?_⟩
      have hz7 := m7.size
      have hset : basR S (S.l.take (i + 1)) = (basR S (S.l.take i)).set x.b (overB (basR S (S.l.take i))[x.b] x.frm x.data) := by
        rw [hsn, List.getElem?_eq_getElem hbl2]; rfl
      have hrb := h6.rba _ rfl
      have ob : ∀ {q}, a = some q → _ := fun {q} hq => o2.base (q := q) hq
      have M26 := m4.no M6
      have M27 : Mod (fun x => x = gb) w2 w7 := (M26.mono fun _ _ => False.elim).trans m7 fun _ _ e => e
      have hgb1 : rl gb = 2 := hrb
      have h7 : RIn w0 (Gro (Gro (Gro R w w1) w1 w2) w2 w7) rl w7 rp r vb vc hs (some ⟨gb, 0, none⟩) bc la lc H { S with D := flSt S.D, base := basR S (S.l.take (i + 1)) } := by
        refine h2.step rfl M27 (Ext.refl _ _ _) (fun z hz e => by subst e; rw [hgb1]; omega) ?_ ?_ ?_ h.hl (fun j x' p' hx' hp' => .inl ⟨j, x', hx', hp', rfl⟩) h.rba h.rla ?_
        · have : (basR S (S.l.take (i + 1))).length = (basR S (S.l.take i)).length := by rw [basR_len, basR_len]
          show AtU w7 rp 0 [.pointer (some ⟨r, 0, none⟩), .slice (some ⟨gb, 0, none⟩) (basR S (S.l.take (i + 1))).length bc, .slice la S.l.length lc, .int .i64 S.last]
          rw [this]
          exact h6.cell.keep m7 fun e => by have e : rp = gb := e; rw [← e, h.rp1] at hgb1; omega
        · show Own Tryz.prog w7 w0.heap.size 40 1 (some ⟨gb, 0, none⟩) (basR S (S.l.take (i + 1))).length bc ((basR S (S.l.take (i + 1))).map strV)
          rw [hset, List.length_set, List.map_set]
          exact o7
        · exact h6.row.keep m7 fun q hq e => by have e : q.block = gb := e; have := h.rla q hq; rw [e, hgb1] at this; omega
        · have := h.wf.base (l := S.l.take (i + 1)) fun x hx => List.mem_of_mem_take hx
          exact this
      rw [gro_gro hz2 (by omega)] at h7
      refine ⟨⟨i + 1, a, c, ?_, by omega, ?_, h7, M2.trans M27 fun z hz e => by subst e; exact hgb1⟩, by simp [nI, nth]; omega⟩
      · rw [hks]; rfl
      · rw [hks]
        exact (o2.nos M26).keep m7 fun q hq e => by
          have := (ob hq).1
          have e : q.block = gb := e
          have := old gb (by omega)
          omega
    · -- it stays
      rw [if_neg (by rw [ho]; simp)] at hsn
      rw [if_neg (by rw [ho]; simp)] at hks
      refine ⟨_, _, _, rfl, _, g4 (Mod.refl _ _), _, _, _, _, built_chg _ _ _, ?_⟩
      have m8 : Mod No w4 (w4.alloc (.cells ⟨chV x p⟩ 186)) := (Mod.refl No _).alloc _
      have r8 : Row (w4.alloc (.cells ⟨chV x p⟩ 186)) (some ⟨w4.heap.size, 0, none⟩) (chV x p) := .inr ⟨_, _, rfl, AtU.new.at⟩
      generalize w4.alloc (.cells ⟨chV x p⟩ 186) = w8 at *
      have hz8 := m8.size
      have M8 := m4.no m8
      have ob : ∀ {q}, a = some q → _ := fun {q} hq => o2.base (q := q) hq
      obtain ⟨q, c', w9, run, p9, mm, hq9⟩ := (o2.nos M8).appG (ty := 41) (m := 1) (c2 := 1) elemG_chgs (by omega) r8 rfl (by omega) (one_chV _ _) (by omega) (by omega) (by omega)
      have hz9 := mm.size
      rw [← rowZ_snoc, ← hks] at p9
      have hll : (keptZ S H i).length + 1 = (keptZ S H (i + 1)).length := by rw [hks]; simp
      rw [hll] at p9 run
      have hnR : ∀ z, (∃ q, a = some q ∧ z = q.block) → w1.heap.size ≤ z := fun z ⟨q, hq, e⟩ => by have := (ob hq).1; omega
      have M9 : Mod (fun x => rl x = 2) w1 w9 := (M2.no M8).trans mm fun z hz e => by have := hnR z e; omega
      have h9 : RIn w0 (Gro (Gro R w w1) w1 w9) rl w9 rp r vb vc hs ba bc la lc H { S with D := flSt S.D, base := basR S (S.l.take (i + 1)) } := by
        rw [hsn]
        have h8 := h2.nos M8
        have hS : ∀ z, rl z ≠ 0 → ¬ ∃ q, a = some q ∧ z = q.block := fun z hz e => by have := hnR z e; have := old z hz; omega
        exact {
          disk := h8.disk.keep mm fun z hz => hS z (by omega)
          cell := h8.cell.keep mm (hS _ (by rw [h.rp1]; omega))
          base := h8.base.keep mm fun q hq => hS _ (by rw [h.rba q hq]; omega)
          row := h8.row.keep mm fun q hq => hS _ (by rw [h.rla q hq]; omega)
          hl := h8.hl
          aft := fun j x' p' h1 h2' => by
            obtain ⟨e1, e2⟩ := h8.aft j x' p' h1 h2'
            refine ⟨?_, e2⟩
            by_cases hne : x'.after = []
            · rw [hne]; exact .inl rfl
            · exact e1.keep mm fun q hq => hS _ (by rw [e2 hne q hq]; omega)
          rp1 := h.rp1
          rba := h.rba
          rla := h.rla
          wf := h8.wf
          reg := fun z hz => .inl (h.reg z hz)
          lo := fun z hz => by
            rcases hz with hz | hz
            · have := hlo z hz; omega
            · omega
          mod := h8.mod.trans mm fun z hz e => by have := hnR z e; omega }
      exact ⟨_, _, _, w9, run, ⟨i + 1, _, _, rfl, by omega, p9, h9, M9⟩, by simp [nI, nth]; omega⟩
  · -- the store has them
    have hi : i = S.l.length := by
      have hb' : ¬ (i : Int) < (S.l.length : Int) := of_decide_eq_false hb
      omega
    subst hi
    rw [List.take_length] at h2
    have hkf : (keptZ S H S.l.length).map (·.1) = S.l.filter fun x => !x.out := by rw [kept_fst hHl, List.take_length]
    have hkl2 : (keptZ S H S.l.length).length = (S.l.filter fun x => !x.out).length := by rw [← hkf, List.length_map]
    obtain ⟨w11, s11, c11, m11, _⟩ := h2.cell.store (P := Tryz.prog) (T := 41) (i := 2) (v := .slice a (keptZ S H S.l.length).length c) (by kernel_rfl) (by simp) rfl
    refine ⟨_, _, _, rfl, _, rfl, w11, by rw [add_none]; exact s11, ?_⟩
    have hz11 := m11.size
    have ob : ∀ {q}, a = some q → _ := fun {q} hq => o2.base (q := q) hq
    have hbaR : ∀ q, ba = some q → q.block ≠ rp := fun q hq e => by have := h.rba q hq; rw [e, h.rp1] at this; omega
    have hrplt := old rp (by rw [h.rp1]; omega)
    have hZ : ∀ (j : Nat) (x : Ch) (p : Option Addr × Nat), ((keptZ S H S.l.length).map (·.1))[j]? = some x → ((keptZ S H S.l.length).map (·.2))[j]? = some p → (x, p) ∈ S.l.zip H := fun j x p hx hp => by
      rw [List.getElem?_map] at hx hp
      obtain ⟨y, hy, rfl⟩ := Option.map_eq_some_iff.1 hx
      rw [hy] at hp
      have hp := Option.some.inj hp
      subst hp
      have := List.mem_of_getElem? hy
      unfold keptZ at this
      exact List.mem_of_mem_take (List.mem_filter.1 this).1
    have h11 : RIn w0 (Gro (Gro (Gro R w w1) w1 w2) w2 w11) (fun z => if w1.heap.size ≤ z ∧ z < w2.heap.size then 3 else rl z) w11 rp r vb vc hs ba bc a c ((keptZ S H S.l.length).map (·.2)) (flR S) := by
      have old2 : ∀ z, rl z ≠ 0 → ¬ (w1.heap.size ≤ z ∧ z < w2.heap.size) := fun z hz => by have := old z hz; omega
      refine {
        disk := ?_
        cell := ?_
        base := ?_
        row := ?_
        hl := ?_
        aft := fun j x p hx hp => ?_
        rp1 := ?_
        rba := fun q hq => ?_
        rla := fun q hq => ?_
        wf := ?_
        reg := fun z hz => ?_
        lo := fun z hz => ?_
        mod := h2.mod.trans m11 fun z hz e => ?_ }
      · have e4 : (fun x => (if w1.heap.size ≤ x ∧ x < w2.heap.size then 3 else rl x) = 4) = fun x => rl x = 4 := by
          funext z; apply propext
          constructor
          · intro e; split at e
            · omega
            · exact e
          · intro e; rw [if_neg (old2 z (by omega))]; exact e
        rw [e4]
        exact h2.disk.keep m11 fun z hz e => by have e : z = rp := e; rw [e, h.rp1] at hz; omega
      · show AtU w11 rp 0 [.pointer (some ⟨r, 0, none⟩), .slice ba (basR S S.l).length bc, .slice a (S.l.filter fun x => !x.out).length c, .int .i64 S.last]
        rw [← hkl2]; exact c11
      · exact h2.base.keep m11 fun q hq e => hbaR q hq e
      · show Own Tryz.prog w11 w0.heap.size 41 6 a (S.l.filter fun x => !x.out).length c (rowL (S.l.filter fun x => !x.out) ((keptZ S H S.l.length).map (·.2)))
        rw [← hkl2, ← hkf]
        exact (o2.mono (by omega)).keep m11 fun q hq e => by have := (ob hq).1; have e : q.block = rp := e; omega
      · show ((keptZ S H S.l.length).map (·.2)).length = (S.l.filter fun x => !x.out).length
        rw [List.length_map, hkl2]
      · have hx : ((keptZ S H S.l.length).map (·.1))[j]? = some x := by rw [hkf]; exact hx
        obtain ⟨j0, hj0, e⟩ := List.getElem_of_mem (hZ j x p hx hp)
        have hz0 : (S.l.zip H)[j0]? = some (x, p) := by rw [List.getElem?_eq_getElem hj0, e]
        rw [List.getElem?_zip_eq_some] at hz0
        obtain ⟨e1, e2⟩ := h2.aft j0 x p hz0.1 hz0.2
        refine ⟨?_, fun hne q hq => by rw [if_neg (old2 _ (by rw [e2 hne q hq]; omega))]; exact e2 hne q hq⟩
        by_cases hne : x.after = []
        · rw [hne]; exact .inl rfl
        · exact e1.keep m11 fun q hq e => by have e : q.block = rp := e; have := e2 hne q hq; rw [e, h.rp1] at this; omega
      · rw [if_neg (old2 _ (by rw [h.rp1]; omega))]; exact h.rp1
      · rw [if_neg (old2 _ (by rw [h.rba q hq]; omega))]; exact h.rba q hq
      · have := ob hq
        rw [if_pos (by omega)]
      · exact (h2.wf.sub (p := fun x => !x.out))
      · by_cases e : w1.heap.size ≤ z ∧ z < w2.heap.size
        · exact .inl (.inr e)
        · rw [if_neg e] at hz; exact .inl (.inl (h.reg z hz))
      · rcases hz with (hz | hz) | hz
        · have := hlo z hz; omega
        · omega
        · omega
      · have e : z = rp := e
        have := hlo rp hrpR
        omega
    rw [gro_gro hz2 hz11, gro_gro hz1 (by omega)] at h11
    refine hk w11 ?_ ⟨_, vb, vc, hs, ba, bc, a, c, _, h11⟩
    refine (M1.trans M2 fun z hz e => ?_).trans m11 fun z hz e => ?_
    · rcases h.reg z (by have e : rl z = 2 := e; omega) with e | e
      · exact e
      · omega
    · rcases hrpR with e' | e'
      · have e : z = rp := e
        rw [e]; exact e'
      · have e : z = rp := e
        omega
end
end Go.Proofs.YtocjjigmpgekfaaGreat
end
section
/- Layer 11: what waits with a change, in plain terms; the document's store: what waits; lists alike; a new store. -/
open Go Go.Den Go.Proofs
namespace Go.Proofs.YtocjjigmpgekfaaGreat
/-- From the last change on to the first: those wanted, and what they want. -/
def cloR : List Ch → List Int → List Int
  | [], _ => []
  | x :: r, acc => if acc.contains (x.id : Int) = true then cloR r (acc ++ x.after ++ (r.filter fun y => meetR y x).map fun y => (y.id : Int)) ++ [(x.id : Int)] else cloR r acc
def waitsL (l : List Ch) (n : Int) : List Int := cloR l.reverse [n]
theorem cloR_sub : ∀ (l : List Ch) (acc : List Int), ∀ k ∈ cloR l acc, ∃ x ∈ l, k = (x.id : Int)
  | [], _, k, h => by cases h
  | x :: r, acc, k, h => by
    unfold cloR at h
    split at h
    · rcases List.mem_append.1 h with h | h
      · obtain ⟨y, hy, e⟩ := cloR_sub r _ k h; exact ⟨y, List.mem_cons_of_mem _ hy, e⟩
      · exact ⟨x, List.mem_cons_self, List.mem_singleton.1 h⟩
    · obtain ⟨y, hy, e⟩ := cloR_sub r _ k h; exact ⟨y, List.mem_cons_of_mem _ hy, e⟩
theorem cloR_srt : ∀ {l : List Ch} {acc : List Int}, l.Pairwise (fun x y => y.id < x.id) → (cloR l acc).Pairwise (· < ·)
  | [], _, _ => List.Pairwise.nil
  | x :: r, acc, h => by
    obtain ⟨h1, h2⟩ := List.pairwise_cons.1 h
    unfold cloR
    split
    · rw [List.pairwise_append]
      refine ⟨cloR_srt h2, List.pairwise_singleton _ _, fun a ha b hb => ?_⟩
      obtain ⟨y, hy, rfl⟩ := cloR_sub r _ a ha
      rw [List.mem_singleton.1 hb]
      have := h1 y hy
      omega
    · exact cloR_srt h2
theorem cloR_skip {l : List Ch} {x : Ch} {acc : List Int} (h : acc.contains (x.id : Int) = false) : cloR (x :: l) acc = cloR l acc := by
  rw [cloR, if_neg (by rw [h]; simp)]
section
variable {w0 w w' : World} {R : Nat → Prop} {rl : Nat → Nat} {rp r vb vc bc lc : Nat} {hs : List (Nat × Nat)} {ba la : Option Addr} {H : List (Option Addr × Nat)} {S : Rs} {K : Value → World → Prop}
/-- The marks so far: those ahead as the wanted are, those behind told already. -/
structure Wm (S : Rs) (n : Int) (i : Nat) (bs : List Bool) (acc : List Int) : Prop where
  len : bs.length = S.l.length
  lo : ∀ (j : Nat) (x : Ch), j < i → S.l[j]? = some x → bs[j]? = some (acc.contains (x.id : Int))
  out : waitsL S.l n = cloR (S.l.take i).reverse acc ++ ((S.l.zip bs).drop i |>.filter (·.2)).map fun p => (p.1.id : Int)
theorem take_rev {l : List Ch} {i : Nat} (hi : i < l.length) : (l.take (i + 1)).reverse = l[i] :: (l.take i).reverse := by
  rw [List.take_succ_eq_append_getElem hi, List.reverse_append]; rfl
theorem zdrop (l : List Ch) (bs : List Bool) (i : Nat) : (l.zip bs).drop i = (l.drop i).zip (bs.drop i) := by unfold List.zip; exact List.drop_zipWith
theorem zip_drop {l : List Ch} {bs : List Bool} {i : Nat} {x : Ch} {b : Bool} (hx : l[i]? = some x) (hb : bs[i]? = some b) : (l.zip bs).drop i = (x, b) :: (l.zip bs).drop (i + 1) := by
  have hz : (l.zip bs)[i]? = some (x, b) := by rw [List.getElem?_zip_eq_some]; exact ⟨hx, hb⟩
  obtain ⟨hi, e⟩ := List.getElem?_eq_some_iff.1 hz
  rw [List.drop_eq_getElem_cons hi, e]
theorem Wm.start {k : Nat} {x : Ch} (hw : WFR S) (hx : S.l[k]? = some x) : Wm S x.id (k + 1) ((List.replicate S.l.length false).set k true) [(x.id : Int)] := by
  have hk := (List.getElem?_eq_some_iff.1 hx).1
  refine ⟨by simp, fun j y hj hy => ?_, ?_⟩
  · have hjl := (List.getElem?_eq_some_iff.1 hy).1
    by_cases e : j = k
    · subst e
      rw [List.getElem?_set_self (by simpa using hk)]
      rw [hx] at hy; cases hy; simp
    · rw [List.getElem?_set_ne (fun e' => e e'.symm), List.getElem?_replicate, if_pos hjl]
      have : y.id ≠ x.id := fun e2 => e (by
        have := srt_uniq hw.srt (List.mem_of_getElem? hy) (List.mem_of_getElem? hx) e2
        subst this
        obtain ⟨h1, e1⟩ := List.getElem?_eq_some_iff.1 hx
        obtain ⟨h3, e3⟩ := List.getElem?_eq_some_iff.1 hy
        rcases Nat.lt_trichotomy j k with h | h | h
        · have := List.pairwise_iff_getElem.1 hw.srt j k h3 h1 h; rw [e1, e3] at this; omega
        · exact h
        · have := List.pairwise_iff_getElem.1 hw.srt k j h1 h3 h; rw [e1, e3] at this; omega)
      congr 1
      symm
      rw [Bool.eq_false_iff]
      intro hc
      rw [List.contains_iff_mem, List.mem_singleton] at hc
      omega
  · have e2 : ((S.l.zip ((List.replicate S.l.length false).set k true)).drop (k + 1)).filter (·.2) = [] := by
      rw [List.filter_eq_nil_iff]
      intro p hp
      obtain ⟨j, hj, rfl⟩ := List.getElem_of_mem hp
      have hg := List.getElem?_eq_getElem hj
      rw [List.getElem?_drop, List.getElem?_zip_eq_some, List.getElem?_set_ne (by omega), List.getElem?_replicate] at hg
      have hg2 := hg.2
      split at hg2
      · rw [← Option.some.inj hg2]; simp
      · cases hg2
    rw [e2, List.map_nil, List.append_nil]
    -- those behind it are not wanted
    have key : ∀ m, k + 1 ≤ m → m ≤ S.l.length → cloR (S.l.take m).reverse [(x.id : Int)] = cloR (S.l.take (k + 1)).reverse [(x.id : Int)] := by
      intro m hm
      induction m with
      | zero => omega
      | succ m ih =>
        intro hml
        by_cases e : m = k
        · subst e; rfl
        · rw [take_rev (by omega), cloR_skip, ih (by omega) (by omega)]
          have hlt := List.pairwise_iff_getElem.1 hw.srt k m hk (by omega) (by omega)
          have hxe : S.l[k] = x := by rw [List.getElem?_eq_getElem hk] at hx; exact Option.some.inj hx
          rw [hxe] at hlt
          rw [Bool.eq_false_iff]
          intro hc
          rw [List.contains_iff_mem, List.mem_singleton] at hc
          omega
    have := key S.l.length (by omega) (Nat.le_refl _)
    rw [List.take_length] at this
    exact this
theorem Wm.down {n : Int} {i : Nat} {bs : List Bool} {acc : List Int} {x : Ch} (h : Wm S n (i + 1) bs acc) (hx : S.l[i]? = some x) (hb : bs[i]? = some false) : Wm S n i bs acc := by
  have hc : acc.contains (x.id : Int) = false := by
    have := h.lo i x (by omega) hx
    rw [hb] at this; exact (Option.some.inj this).symm
  obtain ⟨hi, e⟩ := List.getElem?_eq_some_iff.1 hx
  refine ⟨h.len, fun j y hj hy => h.lo j y (by omega) hy, ?_⟩
  rw [h.out, take_rev hi, e, cloR_skip hc, zip_drop hx hb]; rfl
/-- One is wanted: what it wants is. -/
theorem Wm.take (hw : WFR S) {n : Int} {i : Nat} {bs bs' : List Bool} {acc : List Int} {x : Ch} (h : Wm S n (i + 1) bs acc) (hx : S.l[i]? = some x) (hb : bs[i]? = some true) (hl : bs'.length = S.l.length)
    (hlo : ∀ (j : Nat) (y : Ch), j < i → S.l[j]? = some y → bs'[j]? = some (acc.contains (y.id : Int) || x.after.contains (y.id : Int) || meetR y x)) (hhi : ∀ j, i ≤ j → bs'[j]? = bs[j]?) :
    Wm S n i bs' (acc ++ x.after ++ ((S.l.take i).reverse.filter fun y => meetR y x).map fun y => (y.id : Int)) := by
  have hc : acc.contains (x.id : Int) = true := by
    have := h.lo i x (by omega) hx
    rw [hb] at this; exact (Option.some.inj this).symm
  obtain ⟨hi, e⟩ := List.getElem?_eq_some_iff.1 hx
  refine ⟨hl, fun j y hj hy => ?_, ?_⟩
  · rw [hlo j y hj hy]
    congr 1
    rw [Bool.eq_iff_iff, Bool.or_eq_true, Bool.or_eq_true, List.contains_iff_mem, List.contains_iff_mem, List.contains_iff_mem, List.mem_append, List.mem_append]
    refine or_congr_right ?_
    rw [List.mem_map]
    have hym : y ∈ (S.l.take i).reverse := by
      rw [List.mem_reverse]
      obtain ⟨hj2, e2⟩ := List.getElem?_eq_some_iff.1 hy
      rw [List.mem_take_iff_getElem]
      exact ⟨j, by omega, e2⟩
    constructor
    · intro hm; exact ⟨y, List.mem_filter.2 ⟨hym, hm⟩, rfl⟩
    · rintro ⟨z, hz, ez⟩
      obtain ⟨hz1, hz2⟩ := List.mem_filter.1 hz
      have : z = y := srt_uniq hw.srt (List.mem_of_mem_take (List.mem_reverse.1 hz1)) (List.mem_of_getElem? hy) (by omega)
      rw [← this]; exact hz2
  · rw [h.out, take_rev hi, e, cloR, if_pos hc, zip_drop hx (by rw [hhi i (Nat.le_refl _)]; exact hb)]
    have e3 : (S.l.zip bs').drop (i + 1) = (S.l.zip bs).drop (i + 1) := by
      rw [zdrop, zdrop]
      congr 1
      refine List.ext_getElem? fun k => ?_
      rw [List.getElem?_drop, List.getElem?_drop, hhi _ (by omega)]
    rw [e3, List.append_assoc]; rfl
theorem srt_lt2 {l : List Ch} (h : l.Pairwise fun x y => x.id < y.id) {i j : Nat} {x y : Ch} (hx : l[i]? = some x) (hy : l[j]? = some y) (e : i < j) : x.id < y.id := by
  obtain ⟨h1, rfl⟩ := List.getElem?_eq_some_iff.1 hx
  obtain ⟨h2, rfl⟩ := List.getElem?_eq_some_iff.1 hy
  exact List.pairwise_iff_getElem.1 h i j h1 h2 e
theorem build_rst (w : World) (p : Option Addr) : (Instr.build 43 #[(0, .pointer p)]).run Tryz.prog w = .ok (.agg ⟨[.pointer p, .slice none 0 0, .slice none 0 0, .int .i64 0]⟩) w := by kernel_rfl
theorem box_rst (w : World) (cs : List Value) : (Instr.box 43 (.agg ⟨cs⟩)).run Tryz.prog w = .ok (.pointer (some ⟨w.heap.size, 0, none⟩)) (w.alloc (.cells ⟨cs⟩ 43)) := rfl
theorem elemG_strs : elemG Tryz.prog 40 1 16 := elemG_of (by kernel_rfl)
def newRs (D : St) : Rs := ⟨D, (List.range D.vs.length).map fun b => atD D b, [], 0⟩
theorem rOpen11_c {D : St} (hd : RefIn w R r vb vc hs D) (hsm : Small D) (hlo : ∀ x, R x → w0.heap.size ≤ x ∧ x < w.heap.size) (hm : Mod No w0 w)
    (hk : ∀ w' rp, Mod No w w' → Rx w0 (Gro R w w') w' rp r (newRs D) → K (.pointer (some ⟨rp, 0, none⟩)) w') : Cal Tryz.prog F_leveeref11_Open #[.pointer (some ⟨r, 0, none⟩)] w K := by
  classical
  apply C_leveeref11_Open
  unfold D_leveeref11_Open
  refine ⟨_, fun w => build_rst w _, _, _, box_rst _ _, ?_⟩
  have hhi := hd.wf.hi
  have m1 : Mod No w (w.alloc (.cells ⟨[.pointer (some ⟨r, 0, none⟩), .slice none 0 0, .slice none 0 0, .int .i64 0]⟩ 43)) := (Mod.refl No w).alloc _
  have a1 : AtU (w.alloc (.cells ⟨[.pointer (some ⟨r, 0, none⟩), .slice none 0 0, .slice none 0 0, .int .i64 0]⟩ 43)) w.heap.size 0 [.pointer (some ⟨r, 0, none⟩), .slice none 0 0, .slice none 0 0, .int .i64 0] := AtU.new
  have s1 : (w.alloc (.cells ⟨[.pointer (some ⟨r, 0, none⟩), .slice none 0 0, .slice none 0 0, .int .i64 0]⟩ 43)).heap.size = w.heap.size + 1 := by simp
  generalize w.alloc (.cells ⟨[.pointer (some ⟨r, 0, none⟩), .slice none 0 0, .slice none 0 0, .int .i64 0]⟩ 43) = w1 at *
  refine ⟨fun x w2 => ∃ (i : Nat) (a : Option Addr) (c : Nat), x = [.int .i64 i] ∧ i ≤ D.vs.length ∧ AtU w2 w.heap.size 0 [.pointer (some ⟨r, 0, none⟩), .slice a i c, .slice none 0 0, .int .i64 0] ∧ Own Tryz.prog w2 w1.heap.size 40 1 a i c (((List.range i).map fun b => atD D b).map strV) ∧ Mod No w w2, fun x _ => (D.vs.length - nI x 0).toNat,
    ⟨0, none, 0, rfl, by omega, a1, Own.nilG elemG_strs, m1⟩, ?_⟩
  rintro x w2 ⟨i, a, c, rfl, hi, a2, o2, m2⟩
  have hd2 := hd.nos m2
  have hz2 := m2.size
  have hlt2 := a2.lt
  have ob : ∀ {q}, a = some q → _ := fun {q} hq => o2.base (q := q) hq
  refine ⟨_, rfl, _, rfl, _, _, _, rv hd2, cond_of (fun hb => ?_) (fun hb => ?_)⟩
  · have hi : i < D.vs.length := by have := of_decide_eq_true hb; omega
    have hat := rd_at D hi
    refine refRead_c (n := (i : Int)) hd2 hsm fun w3 a3 c3 m3 f3 => ⟨_, _, _, _, rfl, _, rfl, ?_⟩
    rw [hat.2] at f3 ⊢
    have M3 := m2.no m3
    have a3' := (a2.keep m3 id).drew
    have f3' := f3.nos (Mod.refl No w3).drew
    have hl256 : (atD D i).length = 256 := by
      unfold atD
      rw [ver_at hi]
      exact hd.wf.lastLen (List.getElem?_eq_getElem hi)
    have ld : ∀ {w' : World} (_ : AtU w' w.heap.size 0 [.pointer (some ⟨r, 0, none⟩), .slice a i c, .slice none 0 0, .int .i64 0]), Ru (Instr.loadAt 40 (.pointer (some (Addr.add ⟨w.heap.size, 0, none⟩ 1)))) w' (.slice a i c) w' := fun h => by rw [add_none]; exact h.at.load (by kernel_rfl) rfl
    refine ⟨_, _, _, ld a3', _, str_run (by kernel_rfl) f3'.row rfl, _, _, _, _, built_str _ _, ?_⟩
    have m4 : Mod No (drew w3) ((drew w3).alloc (.cells ⟨[.string ⟨(atD D i).toArray⟩]⟩ 9)) := (Mod.refl No _).alloc _
    have r4 : Row ((drew w3).alloc (.cells ⟨[.string ⟨(atD D i).toArray⟩]⟩ 9)) (some ⟨(drew w3).heap.size, 0, none⟩) [strV (atD D i)] := .inr ⟨_, _, rfl, AtU.new.at⟩
    generalize (drew w3).alloc (.cells ⟨[.string ⟨(atD D i).toArray⟩]⟩ 9) = w4 at *
    have a4 := a3'.keep m4 id
    have hz3 := m3.size
    have hz4 : w3.heap.size ≤ w4.heap.size := m4.size
    obtain ⟨q, c', w5, run, p5, mm, hq5⟩ := (((o2.nos m3).nos (Mod.refl No w3).drew).nos m4).appG (ty := 40) (m := 1) (c2 := 1) elemG_strs (by omega) r4 rfl (by omega) (by intro v hv; rw [List.mem_singleton.1 hv]; rfl) (by omega) (by omega) (by omega)
    have hz5 := mm.size
    have a5 := a4.keep mm fun ⟨q', hq', e⟩ => by have := (ob hq').1; omega
    obtain ⟨w6, st6, a6, m6, _⟩ := a5.store (P := Tryz.prog) (T := 40) (i := 1) (v := .slice (some q) (i + 1) c') (by kernel_rfl) (by simp) rfl
    refine ⟨ld a4, _, _, _, w5, run, _, rfl, w6, by rw [add_none]; exact st6, ?_⟩
    rw [wrap64 (x := (i : Int) + 1) (by omega) (by omega)]
    refine ⟨⟨i + 1, some q, c', rfl, by omega, a6, ?_, ((((m2.no m3).no (Mod.refl No w3).drew).no m4).trans mm fun z hz ⟨q', hq', e⟩ => by have := (ob hq').1; omega).trans m6 fun z hz e => by have e : z = w.heap.size := e; omega⟩, by simp [nI, nth]; omega⟩
    rw [List.range_succ, List.map_append, List.map_append]
    exact p5.keep m6 fun q' hq' e => by
      cases hq'
      have e : q.block = w.heap.size := e
      rcases hq5 with ⟨q', hq', e2⟩ | e2
      · have := (ob hq').1; omega
      · omega
  · have hi : i = D.vs.length := by have := of_decide_eq_false hb; omega
    subst hi
    have hw0 := hm.size
    have hR : ∀ x, R x → x ≠ w.heap.size := fun x hx => by have := hlo x hx; omega
    refine hk w2 w.heap.size m2 ⟨fun x => if x = w.heap.size then 1 else if R x then 4 else if w1.heap.size ≤ x ∧ x < w2.heap.size then 2 else 0, vb, vc, hs, a, c, none, 0, [], {
      disk := ?_
      cell := by
        show AtU w2 w.heap.size 0 [.pointer (some ⟨r, 0, none⟩), .slice a ((List.range D.vs.length).map fun b => atD D b).length c, .slice none 0 0, .int .i64 0]
        rw [List.length_map, List.length_range]; exact a2
      base := by
        show Own Tryz.prog w2 w0.heap.size 40 1 a ((List.range D.vs.length).map fun b => atD D b).length c _
        rw [List.length_map, List.length_range]; exact o2.mono (by omega)
      row := Own.nilG elemG_chgs
      hl := rfl
      aft := fun i x p hx => by cases hx
      rp1 := by rw [if_pos rfl]
      rba := fun q hq => by
        have := ob hq
        have hn : ¬ R q.block := fun e => by have := hlo _ e; omega
        rw [if_neg (by omega), if_neg hn, if_pos (by omega)]
      rla := fun q hq => by cases hq
      wf := {
        len := by show ((List.range D.vs.length).map fun b => atD D b).length = D.vs.length; rw [List.length_map, List.length_range]
        small := hsm
        bl := fun b hb => by
          obtain ⟨i, hi, rfl⟩ := List.mem_map.1 hb
          have hi := List.mem_range.1 hi
          unfold atD
          rw [ver_at hi]
          exact hd.wf.lastLen (List.getElem?_eq_getElem hi)
        dat := fun x hx => by cases hx
        blt := fun x hx => by cases hx
        srt := List.Pairwise.nil
        idr := fun x hx => by cases hx
        aft := fun x hx => by cases hx
        aftn := fun x hx => by cases hx
        last := by show 0 ≤ 1000000; omega }
      reg := fun x hx => by
        by_cases hRx : R x
        · exact .inl hRx
        · right
          by_cases e1 : x = w.heap.size
          · omega
          · rw [if_neg e1, if_neg hRx] at hx
            split at hx
            · omega
            · exact absurd rfl hx
      lo := fun x hx => by
        rcases hx with hx | hx
        · have := hlo x hx; omega
        · omega
      mod := hm.no m2 }⟩
    have e4 : (fun x => (if x = w.heap.size then 1 else if R x then 4 else if w1.heap.size ≤ x ∧ x < w2.heap.size then 2 else 0) = 4) = R := by
      funext x
      apply propext
      constructor
      · intro e
        split at e
        · omega
        · split at e
          · assumption
          · split at e <;> omega
      · intro hx
        rw [if_neg (hR x hx), if_pos hx]
    rw [e4]
    exact hd2
end
end Go.Proofs.YtocjjigmpgekfaaGreat
end
section
/- Layer 11, the program's store: what waits with a change. -/
open Go Go.Den Go.Proofs
namespace Go.Proofs.YtocjjigmpgekfaaGreat
/-- A change waits for another one. -/
def Dep (x z : Ch) : Prop := (z.id : Int) ∈ x.after ∨ (z.id < x.id ∧ meetR z x = true)
inductive Rc (l : List Ch) : Ch → Ch → Prop
  | refl (x : Ch) : Rc l x x
  | head {x z y : Ch} : z ∈ l → Dep x z → Rc l z y → Rc l x y
theorem Rc.trans {l : List Ch} {x y z : Ch} (h : Rc l x y) (k : Rc l y z) : Rc l x z := by
  induction h with
  | refl => exact k
  | head a b _ ih => exact Rc.head a b (ih k)
theorem Rc.mono {l l' : List Ch} {x y : Ch} (h : Rc l x y) (hs : ∀ z ∈ l, z ∈ l') : Rc l' x y := by
  induction h with
  | refl => exact Rc.refl _
  | head a b _ ih => exact Rc.head (hs _ a) b ih
theorem Rc.mem {l : List Ch} {x y : Ch} (h : Rc l x y) (hx : x ∈ l) : y ∈ l := by
  induction h with
  | refl => exact hx
  | head a _ _ ih => exact ih a
theorem Dep.lt {x z : Ch} (h : Dep x z) (ha : ∀ k ∈ x.after, k < (x.id : Int)) : z.id < x.id := by
  rcases h with h | h
  · have := ha _ h; omega
  · exact h.1
theorem Rc.down {x0 : Ch} {r : List Ch} {z y : Ch} (h : Rc (x0 :: r) z y) (hz : z ∈ r) (hlt : ∀ u ∈ r, u.id < x0.id) (ha : ∀ u ∈ r, ∀ k ∈ u.after, k < (u.id : Int)) : Rc r z y := by
  induction h with
  | refl => exact Rc.refl _
  | @head x z y hm hd _ ih =>
    have h1 := hd.lt (ha x hz)
    have h2 := hlt x hz
    have hzr : z ∈ r := by
      rcases List.mem_cons.1 hm with e | e
      · subst e; omega
      · exact e
    exact Rc.head hzr hd (ih hzr)
theorem mem_clo : ∀ {l : List Ch} {acc : List Int} {k : Int}, l.Pairwise (fun x y => y.id < x.id) → (∀ u ∈ l, ∀ k ∈ u.after, k < (u.id : Int)) → (k ∈ cloR l acc ↔ ∃ x ∈ l, (x.id : Int) ∈ acc ∧ ∃ y, Rc l x y ∧ k = (y.id : Int))
  | [], acc, k, _, _ => by
    constructor
    · intro h; cases h
    · rintro ⟨x, hx, _⟩; cases hx
  | x :: r, acc, k, hp, ha => by
    obtain ⟨h1, h2⟩ := List.pairwise_cons.1 hp
    have har : ∀ u ∈ r, ∀ k ∈ u.after, k < (u.id : Int) := fun u hu => ha u (List.mem_cons_of_mem _ hu)
    have hax := ha x List.mem_cons_self
    have up : ∀ z ∈ r, z ∈ x :: r := fun z hz => List.mem_cons_of_mem _ hz
    unfold cloR
    split
    · rename_i hc
      rw [List.contains_iff_mem] at hc
      rw [List.mem_append, mem_clo h2 har, List.mem_singleton]
      constructor
      · rintro (⟨u, hu, hacc, y, hy, rfl⟩ | rfl)
        · have hdu : (u.id : Int) ∈ acc ∨ Dep x u := by
            rcases List.mem_append.1 hacc with h | h
            · rcases List.mem_append.1 h with h | h
              · exact .inl h
              · exact .inr (.inl h)
            · obtain ⟨v, hv, e⟩ := List.mem_map.1 h
              obtain ⟨hv1, hv2⟩ := List.mem_filter.1 hv
              have : v = u := by
                rcases List.mem_iff_getElem.1 hv1 with ⟨i, hi, e1⟩
                rcases List.mem_iff_getElem.1 hu with ⟨j, hj, e2⟩
                rcases Nat.lt_trichotomy i j with h | h | h
                · have := List.pairwise_iff_getElem.1 h2 i j hi hj h; rw [e1, e2] at this; omega
                · subst h; rw [← e1, ← e2]
                · have := List.pairwise_iff_getElem.1 h2 j i hj hi h; rw [e1, e2] at this; omega
              subst this
              exact .inr (.inr ⟨h1 v hv1, hv2⟩)
          rcases hdu with h | h
          · exact ⟨u, up u hu, h, y, hy.mono up, rfl⟩
          · exact ⟨x, List.mem_cons_self, hc, y, Rc.head (up u hu) h (hy.mono up), rfl⟩
        · exact ⟨x, List.mem_cons_self, hc, x, Rc.refl _, rfl⟩
      · rintro ⟨u, hu, hacc, y, hy, rfl⟩
        rcases List.mem_cons.1 hu with e | hur
        · subst e
          cases hy with
          | refl => exact .inr rfl
          | @head _ z _ hz hd hzy =>
            have hlt := hd.lt hax
            have hzr : z ∈ r := by
              rcases List.mem_cons.1 hz with e | e
              · subst e; omega
              · exact e
            refine .inl ⟨z, hzr, ?_, y, hzy.down hzr h1 har, rfl⟩
            rcases hd with hd | hd
            · exact List.mem_append_left _ (List.mem_append_right _ hd)
            · exact List.mem_append_right _ (List.mem_map.2 ⟨z, List.mem_filter.2 ⟨hzr, hd.2⟩, rfl⟩)
        · exact .inl ⟨u, hur, List.mem_append_left _ (List.mem_append_left _ hacc), y, hy.down hur h1 har, rfl⟩
    · rename_i hc
      rw [List.contains_iff_mem] at hc
      rw [mem_clo h2 har]
      constructor
      · rintro ⟨u, hu, hacc, y, hy, rfl⟩
        exact ⟨u, up u hu, hacc, y, hy.mono up, rfl⟩
      · rintro ⟨u, hu, hacc, y, hy, rfl⟩
        rcases List.mem_cons.1 hu with e | hur
        · subst e; exact absurd hacc hc
        · exact ⟨u, hur, hacc, y, hy.down hur h1 har, rfl⟩
/-- The open changes by their numbers; what waits with one. -/
def srtV (V : Ps) : List Ch := V.all.mergeSort fun x y => decide (x.id ≤ y.id)
def waitsV (V : Ps) (n : Int) : List Int := waitsL (srtV V) n
theorem srtV_perm (V : Ps) : (srtV V).Perm V.all := List.mergeSort_perm _ _
theorem srtV_srt {V : Ps} (h : WFS V) : (srtV V).Pairwise fun x y => x.id < y.id := by
  have h1 : (srtV V).Pairwise fun x y => decide (x.id ≤ y.id) = true := List.pairwise_mergeSort (fun a b c h1 h2 => by simp only [decide_eq_true_eq] at *; omega) (fun a b => by simp only [Bool.or_eq_true, decide_eq_true_eq]; omega) _
  have h2 : ((srtV V).map (·.id)).Nodup := ((srtV_perm V).map (·.id)).nodup_iff.2 h.ids
  have h2 : (srtV V).Pairwise fun x y => x.id ≠ y.id := List.pairwise_map.1 h2
  exact (h1.and h2).imp fun ⟨a, b⟩ => by simp only [decide_eq_true_eq] at a; omega
theorem mem_waitsV {V : Ps} (h : WFS V) (ha : ∀ x ∈ V.all, ∀ k ∈ x.after, k < (x.id : Int)) {n k : Int} : k ∈ waitsV V n ↔ ∃ x ∈ V.all, (x.id : Int) = n ∧ ∃ y, Rc V.all x y ∧ k = (y.id : Int) := by
  have hm : ∀ {z : Ch}, z ∈ (srtV V).reverse ↔ z ∈ V.all := fun {z} => by rw [List.mem_reverse]; exact (srtV_perm V).mem_iff
  unfold waitsV waitsL
  rw [mem_clo (List.pairwise_reverse.2 (srtV_srt h)) fun u hu => ha u (hm.1 hu)]
  constructor
  · rintro ⟨x, hx, hn, y, hy, e⟩
    exact ⟨x, hm.1 hx, List.mem_singleton.1 hn, y, hy.mono fun z hz => hm.1 hz, e⟩
  · rintro ⟨x, hx, hn, y, hy, e⟩
    exact ⟨x, hm.2 hx, List.mem_singleton.2 hn, y, hy.mono fun z hz => hm.2 hz, e⟩
theorem waitsV_srt {V : Ps} (h : WFS V) (n : Int) : (waitsV V n).Pairwise (· < ·) := cloR_srt (List.pairwise_reverse.2 (srtV_srt h))
theorem sorted_of {xs : List Int} (h : xs.Pairwise (· < ·)) : sorted xs = xs := by
  unfold sorted
  refine List.mergeSort_of_pairwise (h.imp fun h => ?_)
  simp only [decide_eq_true_eq]; omega
theorem nodup_of_lt {xs : List Int} (h : xs.Pairwise (· < ·)) : xs.Nodup := h.imp fun h e => by omega
/-- What a visit does to the marks. -/
structure Vs (l : List Ch) (c : Ch) (M M' : List Int) : Prop where
  sub : ∀ k ∈ M, k ∈ M'
  nd : M'.Nodup
  has : (c.id : Int) ∈ M'
  new : ∀ k ∈ M', k ∈ M ∨ ∃ y, Rc l c y ∧ k = (y.id : Int)
  clo : ∀ k ∈ M', k ∈ M ∨ ∀ y ∈ l, (y.id : Int) = k → ∀ z ∈ l, Dep y z → (z.id : Int) ∈ M'
structure Vp (l : List Ch) (c : Ch) (M M' : List Int) (T : Ch → Prop) : Prop where
  sub : ∀ k ∈ M, k ∈ M'
  nd : M'.Nodup
  has : (c.id : Int) ∈ M'
  new : ∀ k ∈ M', k ∈ M ∨ ∃ y, Rc l c y ∧ k = (y.id : Int)
  clo : ∀ k ∈ M', k ∈ M ∨ k = (c.id : Int) ∨ ∀ y ∈ l, (y.id : Int) = k → ∀ z ∈ l, Dep y z → (z.id : Int) ∈ M'
  todo : ∀ z ∈ l, T z → (z.id : Int) ∈ M'
theorem Vp.start {l : List Ch} {c : Ch} {M : List Int} (hn : M.Nodup) (hc : (c.id : Int) ∉ M) {T : Ch → Prop} (hT : ∀ z, ¬ T z) : Vp l c M (M ++ [(c.id : Int)]) T where
  sub k hk := List.mem_append_left _ hk
  nd := by
    rw [List.nodup_append]
    exact ⟨hn, by simp, fun a ha b hb e => hc (by rw [List.mem_singleton.1 hb] at e; rw [← e]; exact ha)⟩
  has := by simp
  new k hk := by
    rcases List.mem_append.1 hk with h | h
    · exact .inl h
    · exact .inr ⟨c, Rc.refl _, List.mem_singleton.1 h⟩
  clo k hk := by
    rcases List.mem_append.1 hk with h | h
    · exact .inl h
    · exact .inr (.inl (List.mem_singleton.1 h))
  todo z _ h := absurd h (hT z)
theorem Vp.same {l : List Ch} {c : Ch} {M M' : List Int} {T T' : Ch → Prop} (h : Vp l c M M' T) (hT : ∀ z ∈ l, T' z → T z) : Vp l c M M' T' := { h with todo := fun z hz t => h.todo z hz (hT z hz t) }
theorem Vp.then {l : List Ch} {c y : Ch} {M M' M2 : List Int} {T T' : Ch → Prop} (h : Vp l c M M' T) (hy : y ∈ l) (hd : Dep c y) (k : Vs l y M' M2) (hT : ∀ z ∈ l, T' z → T z ∨ z.id = y.id) : Vp l c M M2 T' where
  sub q hq := k.sub q (h.sub q hq)
  nd := k.nd
  has := k.sub _ h.has
  new q hq := by
    rcases k.new q hq with h' | ⟨z, hz, e⟩
    · exact h.new q h'
    · exact .inr ⟨z, Rc.head hy hd hz, e⟩
  clo q hq := by
    rcases k.clo q hq with h' | h'
    · rcases h.clo q h' with h2 | h2 | h2
      · exact .inl h2
      · exact .inr (.inl h2)
      · exact .inr (.inr fun u hu e z hz hd => k.sub _ (h2 u hu e z hz hd))
    · exact .inr (.inr h')
  todo z hz t := by
    rcases hT z hz t with t | e
    · exact k.sub _ (h.todo z hz t)
    · rw [e]; exact k.has
theorem Vp.done {l : List Ch} {c : Ch} {M M' : List Int} {T : Ch → Prop} (h : Vp l c M M' T) (hu : ∀ y ∈ l, y.id = c.id → y = c) (hT : ∀ z ∈ l, Dep c z → T z) : Vs l c M M' where
  sub := h.sub
  nd := h.nd
  has := h.has
  new := h.new
  clo q hq := by
    rcases h.clo q hq with h2 | h2 | h2
    · exact .inl h2
    · right
      intro y hy e z hz hd
      have : y = c := hu y hy (by omega)
      subst this
      exact h.todo z hz (hT z hz hd)
    · exact .inr h2
/-- At the end of all. -/
theorem Vs.all {V : Ps} {c : Ch} {M' : List Int} (hs : WFS V) (ha : ∀ x ∈ V.all, ∀ k ∈ x.after, k < (x.id : Int)) (hc : c ∈ V.all) (h : Vs V.all c [] M') : sorted M' = waitsV V c.id := by
  have hiff : ∀ k, k ∈ M' ↔ k ∈ waitsV V c.id := fun k => by
    rw [mem_waitsV hs ha]
    constructor
    · intro hk
      rcases h.new k hk with h' | ⟨y, hy, e⟩
      · cases h'
      · exact ⟨c, hc, rfl, y, hy, e⟩
    · rintro ⟨x, hx, e, y, hy, rfl⟩
      have key : ∀ {x y : Ch}, Rc V.all x y → x ∈ V.all → (x.id : Int) ∈ M' → (y.id : Int) ∈ M' := by
        intro x y hxy
        induction hxy with
        | refl => intro _ h; exact h
        | head hz hd _ ih =>
          intro hxm hxi
          rcases h.clo _ hxi with h' | h'
          · cases h'
          · exact ih hz (h' _ hxm rfl _ hz hd)
      exact key hy hx (by rw [e]; exact h.has)
  have hp : M'.Perm (waitsV V c.id) := (List.perm_ext_iff_of_nodup h.nd (nodup_of_lt (waitsV_srt hs _))).2 hiff
  rw [sorted_perm hp, sorted_of (waitsV_srt hs _)]
end Go.Proofs.YtocjjigmpgekfaaGreat
end
section
/- Layer 11, the program's store: what waits with a change, walked; a change's block. -/
open Go Go.Den Go.Proofs
namespace Go.Proofs.YtocjjigmpgekfaaGreat
theorem Sort64_c {base l c : Nat} {a : Option Addr} {zs : List Int} {w : World} {K : Value → World → Prop} (h : Own Tryz.prog w base 37 1 a l c (iL zs))
    (hk : ∀ w', Own Tryz.prog w' base 37 1 a l c (iL (sorted zs)) → Mod (fun x => base ≤ x) w w' → K (.tuple #[]) w') (hl62 : zs.length < 4611686018427387904) :
    Cal Tryz.prog F_slices_Sort_int64 #[.slice a l c] w K := by
  refine ⟨⟨_, Tryz.func122, by kernel_rfl, by kernel_rfl⟩, ?_⟩
  have hlen : zs.length = l := by have := h.len; simpa using this
  obtain ⟨e, he, h1, h2⟩ := h
  rcases h2 with ⟨hv, hz⟩ | ⟨g, cap, cur, hv, hb, hg, hle, hm, hsz, ht⟩
  · subst hz
    simp at hv
    obtain ⟨rfl, rfl⟩ := hv
    have hzs : zs = [] := List.eq_nil_of_length_eq_zero hlen
    subst hzs
    refine (Tryz.slices_Sort_int_none_f122 none 0 w).mono fun e' w' he' => ?_
    obtain ⟨rfl, rfl⟩ := he'
    exact hk w' ⟨e, he, by simp [sorted, iL], .inl ⟨rfl, rfl⟩⟩ (Mod.refl _ _)
  · simp at hv
    obtain ⟨rfl, rfl⟩ := hv
    subst hlen
    have hmap : iL zs = zs.map (Value.int .i64) := rfl
    rw [Nat.mul_one, hmap] at ht
    have hH := holds_of_blockI hg ht
    refine (Tryz.slices_Sort_int_f122 g 0 c zs w hH (lt_of_heap hg) hl62).mono fun e' w' he' => ?_
    obtain ⟨rfl, n, os, rfl⟩ := he'
    refine hk _ ⟨e, he, ?_⟩ ((Mod.grown (grownBy_sortedI _)).mono fun x _ e => by cases e; exact hb)
    exact ownsRow_sortedI (ts := sorted zs) (by simp [sorted]) hb hg hle hm hsz
section
variable {w0 w w' : World} {R : Nat → Prop} {rl : Nat → Nat} {sp c d mo mm : Nat} {ca oa : Nat → Nat} {Lo Lm : List (Int × Value)} {P V : Ps} {K : Value → World → Prop}
/-- The cells that a visit reads. -/
structure Vw (w : World) (sp q2 q5 q6 m : Nat) (M : List Int) : Prop where
  s : At w q2 0 [.pointer (some ⟨sp, 0, none⟩)]
  t : At w q5 0 [.map (some m)]
  f : At w q6 0 [.func (.func F_patch_Store_Waits_1) #[] #[.pointer (some ⟨q5, 0, none⟩), .pointer (some ⟨q6, 0, none⟩), .pointer (some ⟨q2, 0, none⟩)]]
  mp : MapAt w m (okM M)
  n2 : q2 ≠ m
  n5 : q5 ≠ m
  n6 : q6 ≠ m
theorem Vw.nos {q2 q5 q6 m : Nat} {M : List Int} (h : Vw w sp q2 q5 q6 m M) (k : Mod No w w') : Vw w' sp q2 q5 q6 m M := { h with s := h.s.keep k id, t := h.t.keep k id, f := h.f.keep k id, mp := h.mp.keep k id }
theorem Vw.drew {q2 q5 q6 m : Nat} {M : List Int} (h : Vw w sp q2 q5 q6 m M) : Vw (drew w) sp q2 q5 q6 m M := h.nos (Mod.refl No w).drew
theorem Vw.mark {q2 q5 q6 m : Nat} {M M' : List Int} (h : Vw w sp q2 q5 q6 m M) (k : Mod (fun z => z = m) w w') (hm : MapAt w' m (okM M')) : Vw w' sp q2 q5 q6 m M' := { h with s := h.s.keep k h.n2, t := h.t.keep k h.n5, f := h.f.keep k h.n6, mp := hm }
theorem Vw.ls {q2 q5 q6 m : Nat} {M : List Int} (h : Vw w sp q2 q5 q6 m M) : Ru (Instr.loadAt 30 (.pointer (some ⟨q2, 0, none⟩))) w (.pointer (some ⟨sp, 0, none⟩)) w := h.s.load (i := 0) (by kernel_rfl) rfl
theorem Vw.lt {q2 q5 q6 m : Nat} {M : List Int} (h : Vw w sp q2 q5 q6 m M) : Ru (Instr.loadAt 176 (.pointer (some ⟨q5, 0, none⟩))) w (.map (some m)) w := h.t.load (i := 0) (by kernel_rfl) rfl
theorem Vw.lf {q2 q5 q6 m : Nat} {M : List Int} (h : Vw w sp q2 q5 q6 m M) : Ru (Instr.loadAt 194 (.pointer (some ⟨q6, 0, none⟩))) w (.func (.func F_patch_Store_Waits_1) #[] #[.pointer (some ⟨q5, 0, none⟩), .pointer (some ⟨q6, 0, none⟩), .pointer (some ⟨q2, 0, none⟩)]) w := h.f.load (i := 0) (by kernel_rfl) rfl
theorem visit_nil {a b e : Value} (hk : ∀ w', Mod No w w' → K (.tuple #[]) w') : Cal Tryz.prog F_patch_Store_Waits_1 #[.pointer none, a, b, e] w K := by
  apply C_patch_Store_Waits_1
  unfold D_patch_Store_Waits_1
  exact Share.dup (tt rfl ⟨_, rfl, tt rfl (hk _ (Mod.refl No w).drew)⟩)
set_option maxRecDepth 100000 in
theorem visit_c : ∀ (n : Nat) {w : World} {K : Value → World → Prop} {q2 q5 q6 m : Nat} {M : List Int} {x : Ch}, PIn w0 R rl w sp c d mo mm ca oa Lo Lm P → (∀ x ∈ P.all, ∀ k ∈ x.after, k < (x.id : Int)) → x ∈ P.all → x.id ≤ n → Vw w sp q2 q5 q6 m M → M.Nodup → ¬ R m → w0.heap.size ≤ m → m < w.heap.size →
    (∀ w' M', Mod (fun z => z = m) w w' → MapAt w' m (okM M') → Vs P.all x M M' → K (.tuple #[]) w') → Cal Tryz.prog F_patch_Store_Waits_1 #[.pointer (some ⟨ca x.id, 0, none⟩), .pointer (some ⟨q5, 0, none⟩), .pointer (some ⟨q6, 0, none⟩), .pointer (some ⟨q2, 0, none⟩)] w K := by
  intro n
  induction n with
  | zero => intro w K q2 q5 q6 m M x h _ hx hn; have := h.wf.idr x hx; omega
  | succ n ih =>
  intro w K q2 q5 q6 m M x h hafl hx hn hV hM hmR hm0 hmw hk
  apply C_patch_Store_Waits_1
  unfold D_patch_Store_Waits_1
  have hd := h.drew
  have hVd := hV.drew
  have hcx := (hd.chs x hx).2.2
  have hkeep : ∀ {w1 w2 : World}, PIn w0 R rl w1 sp c d mo mm ca oa Lo Lm P → Mod (fun z => z = m) w1 w2 → PIn w0 R rl w2 sp c d mo mm ca oa Lo Lm P := fun h k => h.keepS k (fun z hz e => by subst e; exact hmR hz) fun z hz e => by subst e; omega
  refine Share.cut (fun z w1 => drew w = w1 ∧ z = [.bool (M.contains (x.id : Int))]) (ff rfl ⟨some m, hVd.lt, _, rfl, _, hcx.ld (by kernel_rfl) (j := 0) (fun _ _ _ _ => rfl), _, lookOk hVd.mp _, rfl, rfl⟩) ?_
  rintro z w1 ⟨rfl, rfl⟩
  refine ⟨_, rfl, cond_of (fun hb => ?_) (fun hb => ?_)⟩
  · -- it is marked
    rw [List.contains_iff_mem] at hb
    exact hk _ M ((Mod.refl _ w).drew) hVd.mp ⟨fun k hk => hk, hM, hb, fun k hk => .inl hk, fun k hk => .inl hk⟩
  have hnot : (x.id : Int) ∉ M := fun e => by rw [← List.contains_iff_mem, hb] at e; cases e
  have hd2 := hd.drew
  have hVd2 := hVd.drew
  have hcx2 := (hd2.chs x hx).2.2
  obtain ⟨w2, up, mp2, m2, s2⟩ := update_run (P := Tryz.prog) (T := 176) (k := (x.id : Int)) (v := .bool true) mapOk hVd2.mp
  rw [okM_snoc hnot] at mp2
  refine ⟨some m, hVd2.lt, _, rfl, _, hcx2.ld (by kernel_rfl) (j := 0) (fun _ _ _ _ => rfl), w2, up, ?_⟩
  have h2 := hkeep hd2 m2
  have hV2 := hVd2.mark m2 mp2
  have M2 : Mod (fun z => z = m) w w2 := ((Mod.refl _ w).drew.drew).trans m2 fun _ _ e => e
  obtain ⟨aa, cc, lA, rA⟩ := ((h2.chs x hx).2.2).ldA
  have haft := h.wf.aft x hx
  refine ⟨_, rfl, _, _, _, lA, ?_⟩
  -- what it waits for
  refine ⟨fun z w3 => ∃ (i : Nat) (M3 : List Int), z = [.int .i64 i] ∧ i ≤ x.after.length ∧ Vp P.all x M M3 (fun y => (y.id : Int) ∈ x.after.take i) ∧ MapAt w3 m (okM M3) ∧ Mod (fun z => z = m) w2 w3, fun z _ => (x.after.length - nI z 0).toNat,
    ⟨0, _, rfl, by omega, Vp.start hM hnot (fun y hy => by rw [List.take_zero] at hy; cases hy), mp2, Mod.refl _ _⟩, ?_⟩
  rintro z w3 ⟨i, M3, rfl, hi, hP3, mp3, m3⟩
  have h3 := hkeep h2 m3
  have hV3 := hV2.mark m3 mp3
  have M3' : Mod (fun z => z = m) w w3 := M2.trans m3 fun _ _ e => e
  have hz3 := M3'.size
  refine ⟨_, rfl, cond_of (fun hb2 => ?_) (fun hb2 => ?_)⟩
  · have hi : i < x.after.length := by have := of_decide_eq_true hb2; omega
    have rA3 : Row w3 aa (iL x.after) := by
      obtain ⟨q, hq, hql⟩ := row_ne rA (fun e => by rw [e] at hi; simp at hi)
      obtain ⟨aa', cc', lA', rA'⟩ := ((h3.chs x hx).2.2).ldA
      obtain ⟨_, _, lA2, _⟩ := ((h3.chs x hx).2.2).ldA
      have hqm : q.block ≠ m := by
        obtain ⟨gd, cd, aa2, ca2, c1, c2, c3, c4, c5⟩ := (h2.chs x hx).2.2
        have := c1.at.load (P := Tryz.prog) (T := 37) (i := 4) (by kernel_rfl) rfl
        rw [add_none] at lA
        have e := lA.symm.trans this
        simp at e
        have := c5 q (by rw [← e.1]; exact hq)
        intro e2
        have := h.reg q.block (by omega)
        rw [e2] at this; exact hmR this
      exact rA.keep m3 fun q' hq' e => by rw [hq] at hq'; cases hq'; exact hqm e
    obtain ⟨b4, o4, ha4, hat4⟩ := row_some rA3 hi
    rw [ha4]
    refine ⟨_, index_slice (k := 1) (by kernel_rfl) (by omega) (by omega), ?_⟩
    rw [add_none, show (i : Int).toNat * 1 = i by omega]
    have h3d := h3.drew
    have hV3d := hV3.drew
    obtain ⟨p, hp, hpn, hpx⟩ := h3d.lookO x.after[i]
    refine ⟨_, hat4.load (by kernel_rfl) (iL_get hi), _, hV3d.lf, _, hV3d.ls, _, rfl, some mo, h3d.lo', p, hp, _, _, _, rfl, ?_⟩
    rw [wrap64 (x := (i : Int) + 1) (by omega) (by omega), show ((i : Int) + 1) = ((i + 1 : Nat) : Int) by omega]
    have htk : ∀ y : Ch, (y.id : Int) ∈ x.after.take (i + 1) → (y.id : Int) ∈ x.after.take i ∨ (y.id : Int) = x.after[i] := fun y hy => by
      rw [List.take_succ_eq_append_getElem hi] at hy
      rcases List.mem_append.1 hy with hy | hy
      · exact .inl hy
      · exact .inr (List.mem_singleton.1 hy)
    cases ho : P.opn x.after[i] with
    | false =>
      rw [ho] at hpn
      have : p = none := by simpa using hpn
      subst this
      show Cal Tryz.prog F_patch_Store_Waits_1 #[.pointer none, .pointer (some ⟨q5, 0, none⟩), .pointer (some ⟨q6, 0, none⟩), .pointer (some ⟨q2, 0, none⟩)] (drew w3) _
      refine visit_nil fun w4 m4 => ⟨rfl, ⟨i + 1, M3, rfl, by omega, hP3.same fun y hy hyt => ?_, (mp3.drew).keep m4 id, (m3.no (Mod.refl No w3).drew).no m4⟩, by simp [nI, nth]; omega⟩
      rcases htk y hyt with e | e
      · exact e
      · have := (opn_not.1 ho) y hy
        exact absurd e this
    | true =>
      obtain ⟨y, hy, ey⟩ := opn_iff.1 ho
      have := hpx y hy ey
      subst this
      have hyx : y.id < x.id := by have := hafl x hx _ (List.getElem_mem hi); omega
      show Cal Tryz.prog F_patch_Store_Waits_1 #[.pointer (some ⟨ca y.id, 0, none⟩), .pointer (some ⟨q5, 0, none⟩), .pointer (some ⟨q6, 0, none⟩), .pointer (some ⟨q2, 0, none⟩)] (drew w3) _
      refine ih h3d hafl hy (by omega) hV3d hP3.nd hmR hm0 (by show m < w3.heap.size; omega) fun w4 M4 m4 mp4 hs4 => ⟨rfl, ⟨i + 1, M4, rfl, by omega, hP3.then hy (.inl (by rw [ey]; exact List.getElem_mem hi)) hs4 (fun z hz hzt => ?_), mp4, (m3.no (Mod.refl No w3).drew).trans m4 fun _ _ e => e⟩, by simp [nI, nth]; omega⟩
      rcases htk z hzt with e | e
      · exact .inl e
      · exact .inr (by omega)
  · -- those that it meets
    have hi : i = x.after.length := by have := of_decide_eq_false hb2; omega
    subst hi
    rw [List.take_length] at hP3
    have h3d := h3.drew
    have hV3d := hV3.drew
    obtain ⟨o, ho, hxo⟩ := mem_all.1 hx
    have hxb := h.wf.chb o ho x hxo
    have hon : onOf P (x.b : Int) = some o := by rw [hxb]; exact onOf_mem h.wf ho
    have hlM := h3d.lookM (x.b : Int)
    rw [hon] at hlM
    obtain ⟨la, lc, l1, l2, l3, l4⟩ := ((h3d.ons o ho).2.2).ldL
    have hll := h.wf.llen o ho
    have hlast := h.wf.last
    refine ⟨_, hV3d.ls, _, rfl, some mm, h3d.lm, _, rfl, _, ((h3d.chs x hx).2.2).ld (by kernel_rfl) (j := 1) (fun _ _ _ _ => rfl), _, hlM, _, rfl, _, _, _, l1, ?_⟩
    refine ⟨fun z w5 => ∃ (j : Nat) (y1 : Value) (M5 : List Int), z = [.int .i64 j, y1] ∧ j ≤ o.l.length ∧ Vp P.all x M M5 (fun y => (y.id : Int) ∈ x.after ∨ (y ∈ o.l.take j ∧ y.id < x.id ∧ meetB y x = true)) ∧ MapAt w5 m (okM M5) ∧ Mod (fun z => z = m) (drew w3) w5, fun z _ => (o.l.length - nI z 0).toNat,
      ⟨0, _, _, rfl, by omega, hP3.same (fun y _ hy => hy.resolve_right fun e => by rw [List.take_zero] at e; cases e.1), mp3.drew, Mod.refl _ _⟩, ?_⟩
    rintro z w5 ⟨j, y1, M5, rfl, hj, hP5, mp5, m5⟩
    have h5 := hkeep h3d m5
    have hV5 := hV3d.mark m5 mp5
    have M5' : Mod (fun z => z = m) w w5 := (M3'.drew).trans m5 fun _ _ e => e
    have hz5 := M5'.size
    refine ⟨_, rfl, cond_of (fun hb3 => ?_) (fun hb3 => ?_)⟩
    · have hj : j < o.l.length := by have := of_decide_eq_true hb3; omega
      have hym := List.getElem_mem hj
      have hya := on_all ho hym
      have hlr : Row w5 la (pL (o.l.map fun x => ca x.id)) := l2.keep m5 fun q hq e => by
        have h9 := l4 q hq
        have := h.reg q.block (by omega)
        have e : q.block = m := e
        rw [e] at this; exact hmR this
      have hilm : j < (o.l.map fun x => ca x.id).length := by simp; exact hj
      obtain ⟨b3, o3, hla, hat3⟩ := row_someP hlr hilm
      subst hla
      have hld := hat3.load (P := Tryz.prog) (T := 181) (by kernel_rfl) (pL_get hilm)
      rw [List.getElem_map] at hld
      generalize hye : o.l[j] = y at *
      have h5d := h5.drew
      have cy := (h5d.chs y hya).2.2
      have cx := (h5d.chs x hx).2.2
      have hyb := h.wf.chb o ho y hym
      refine ⟨_, index_slice (k := 1) (by kernel_rfl) (by omega) (by omega), ?_⟩
      rw [add_none, show (j : Int).toNat * 1 = j by omega]
      refine ⟨_, hld, Share.cut (fun z w7 => z = [.bool (decide (y.id < x.id) && meetB y x)] ∧ Mod No w5 w7) ⟨_, rfl, _, cy.ld (by kernel_rfl) (j := 0) (fun _ _ _ _ => rfl), _, rfl, _, cx.ld (by kernel_rfl) (j := 0) (fun _ _ _ _ => rfl), cond_of (fun hb4 => ?_) (fun hb4 => ?_)⟩ ?_⟩
      · have hb4 : y.id < x.id := by have := of_decide_eq_true hb4; omega
        refine meets_c cy cx (h.wf.dat y hya).2 (h.wf.dat x hx).2 fun w6 m6 => ⟨_, rfl, ?_, ((Mod.refl No w5).drew).no m6⟩
        rw [decide_eq_true hb4, Bool.true_and]
      · have hb4 := of_decide_eq_false hb4
        refine ⟨?_, (Mod.refl No w5).drew⟩
        rw [decide_eq_false (by omega), Bool.false_and]
      rintro z w7 ⟨rfl, m7⟩
      have h7 := h5.nos m7
      have hV7 := hV5.nos m7
      have hz7 := m7.size
      rw [wrap64 (x := (j : Int) + 1) (by omega) (by omega), show ((j : Int) + 1) = ((j + 1 : Nat) : Int) by omega]
      have htk : ∀ z : Ch, z ∈ o.l.take (j + 1) → z ∈ o.l.take j ∨ z = y := fun z hz => by
        rw [List.take_succ_eq_append_getElem hj, hye] at hz
        rcases List.mem_append.1 hz with hz | hz
        · exact .inl hz
        · exact .inr (List.mem_singleton.1 hz)
      refine ⟨_, rfl, Share.dup (cond_of (fun hb5 => ?_) (fun hb5 => ?_))⟩
      · rw [Bool.and_eq_true, decide_eq_true_eq] at hb5
        refine ⟨_, hV7.lf, _, _, _, rfl, ?_⟩
        show Cal Tryz.prog F_patch_Store_Waits_1 #[.pointer (some ⟨ca y.id, 0, none⟩), .pointer (some ⟨q5, 0, none⟩), .pointer (some ⟨q6, 0, none⟩), .pointer (some ⟨q2, 0, none⟩)] w7 _
        refine ih h7 hafl hya (by omega) hV7 hP5.nd hmR hm0 (by omega) fun w8 M8 m8 mp8 hs8 => ⟨rfl, ⟨j + 1, _, M8, rfl, by omega, hP5.then hya (.inr ⟨hb5.1, by unfold meetR; rw [decide_eq_true (by omega), Bool.true_and]; exact hb5.2⟩) hs8 (fun z hz hzt => ?_), mp8, (m5.no m7).trans m8 fun _ _ e => e⟩, by simp [nI, nth]; omega⟩
        rcases hzt with e | ⟨e1, e2⟩
        · exact .inl (.inl e)
        · rcases htk z e1 with e | e
          · exact .inl (.inr ⟨e, e2⟩)
          · exact .inr (by rw [e])
      · refine ⟨⟨j + 1, _, M5, rfl, by omega, hP5.same fun z hz hzt => ?_, mp5.keep m7 id, m5.no m7⟩, by simp [nI, nth]; omega⟩
        rcases hzt with e | ⟨e1, e2⟩
        · exact .inl e
        · rcases htk z e1 with e | e
          · exact .inr ⟨e, e2⟩
          · subst e
            rw [decide_eq_true e2.1, e2.2] at hb5
            cases hb5
    · have hj : j = o.l.length := by have := of_decide_eq_false hb3; omega
      subst hj
      rw [List.take_length] at hP5
      refine hk w5 M5 M5' mp5 (hP5.done (fun y hy e => ?_) fun z hz hd => ?_)
      · exact h.inj hy hx (by rw [e])
      · rcases hd with hd | hd
        · exact .inl hd
        · right
          have hmt := hd.2
          unfold meetR at hmt
          rw [Bool.and_eq_true, decide_eq_true_eq] at hmt
          obtain ⟨o2, ho2, hz2⟩ := mem_all.1 hz
          have : o2 = o := on_uniq h.wf ho2 ho (by rw [← h.wf.chb o2 ho2 z hz2, ← hxb]; exact hmt.1)
          subst this
          exact ⟨hz2, hd.1, hmt.2⟩
theorem alloc_fn (w : World) : (Instr.alloc 194 true (.tuple #[])).run Tryz.prog w = .ok (.pointer (some ⟨w.heap.size, 0, none⟩)) (w.alloc (.cells ⟨[.nilFunc]⟩ 194)) := by kernel_rfl
theorem u_ok : Tryz.prog.underlying 176 = some (.map 2 4) := by kernel_rfl
theorem okM_keys (M : List Int) : (okM M).map (·.1) = M := by unfold okM; rw [List.map_map]; exact List.map_id _
theorem Vs.len {l : List Ch} {c : Ch} {M' : List Int} (h : Vs l c [] M') (hc : c ∈ l) : M'.length ≤ l.length := by
  have := List.Nodup.length_le_of_subset h.nd (l₂ := l.map fun x => (x.id : Int)) fun k hk => by
    rcases h.new k hk with h' | ⟨y, hy, e⟩
    · cases h'
    · exact List.mem_map.2 ⟨y, hy.mem hc, e.symm⟩
  rwa [List.length_map] at this
set_option maxRecDepth 100000 in
theorem qWaits_c {n : Int} (hP : Pz w0 R w sp d V) (hk : ∀ w' a c, Mod No w w' → Own Tryz.prog w' w.heap.size 37 1 a (waitsV V n).length c (iL (waitsV V n)) → K (.slice a (waitsV V n).length c) w') :
    Cal Tryz.prog F_patch_Store_Waits #[.pointer (some ⟨sp, 0, none⟩), .int .i64 n] w K := by
  have hwf := hP.wf
  have hop : openV V ≤ V.last := open_le hwf.1
  have hlast := hwf.1.last
  obtain ⟨C, eD, eM, hw, rl, c, mo, mm, ca, oa, Lo, Lm, h⟩ := hP
  have hafl : ∀ x ∈ Ps.all ⟨C, V.last, V.ons⟩, ∀ k ∈ x.after, k < (x.id : Int) := hwf.2.1
  apply C_patch_Store_Waits
  unfold D_patch_Store_Waits
  refine ⟨_, _, box_store _ _, ?_⟩
  have m1 : Mod No w (w.alloc (.cells ⟨[.pointer (some ⟨sp, 0, none⟩)]⟩ 30)) := (Mod.refl No w).alloc _
  have a2 : At (w.alloc (.cells ⟨[.pointer (some ⟨sp, 0, none⟩)]⟩ 30)) w.heap.size 0 [.pointer (some ⟨sp, 0, none⟩)] := AtU.new.at
  have s1 : (w.alloc (.cells ⟨[.pointer (some ⟨sp, 0, none⟩)]⟩ 30)).heap.size = w.heap.size + 1 := by simp
  generalize w.alloc (.cells ⟨[.pointer (some ⟨sp, 0, none⟩)]⟩ 30) = w1 at *
  have h1 := h.nos m1
  have ls1 : Ru (Instr.loadAt 30 (.pointer (some ⟨w.heap.size, 0, none⟩))) w1 (.pointer (some ⟨sp, 0, none⟩)) w1 := a2.load (i := 0) (by kernel_rfl) rfl
  obtain ⟨p, hp, hpn, hpx⟩ := h1.lookO n
  refine Share.cut (fun z w2 => w1 = w2 ∧ z = [.bool p.isNone]) ⟨_, ls1, ff rfl ⟨_, ls1, _, rfl, some mo, h1.lo', p, hp, rfl, rfl⟩⟩ ?_
  rintro z w2 ⟨rfl, rfl⟩
  refine ⟨_, rfl, cond_of (fun hb => ?_) (fun hb => ?_)⟩
  · have hW : waitsV V n = [] := by
      refine List.eq_nil_iff_forall_not_mem.2 fun k hkm => ?_
      obtain ⟨x, hx, e, _⟩ := (mem_waitsV hwf.1 hwf.2.1).1 hkm
      rw [hb] at hpn
      have ho : Ps.opn ⟨C, V.last, V.ons⟩ n = false := by simpa using hpn.symm
      exact (opn_not.1 ho) x hx e
    have := hk w1 none 0 m1 (by rw [hW]; exact Own.nilG elemG_ids)
    rw [hW] at this
    exact this
  have ho : Ps.opn ⟨C, V.last, V.ons⟩ n = true := by rw [hb] at hpn; simpa using hpn.symm
  obtain ⟨x, hx, ex⟩ := opn_iff.1 ho
  subst ex
  -- the marks, and the visit
  have m2 : Mod No w1 (w1.alloc (.map #[] 0)) := (Mod.refl No w1).alloc _
  have mp2 : MapAt (w1.alloc (.map #[] 0)) w1.heap.size [] := MapAt.new
  have s2 : (w1.alloc (.map #[] 0)).heap.size = w1.heap.size + 1 := by simp
  refine ⟨_, _, makeMap_run, ?_⟩
  generalize w1.alloc (.map #[] 0) = w2 at *
  have m3 : Mod No w2 (w2.alloc (.cells ⟨[.map (some w1.heap.size)]⟩ 176)) := (Mod.refl No w2).alloc _
  have a5 : At (w2.alloc (.cells ⟨[.map (some w1.heap.size)]⟩ 176)) w2.heap.size 0 [.map (some w1.heap.size)] := AtU.new.at
  have s3 : (w2.alloc (.cells ⟨[.map (some w1.heap.size)]⟩ 176)).heap.size = w2.heap.size + 1 := by simp
  refine ⟨_, _, alloc_map _, _, store_one (by kernel_rfl) rfl, ?_⟩
  generalize w2.alloc (.cells ⟨[.map (some w1.heap.size)]⟩ 176) = w3 at *
  refine ⟨_, _, alloc_fn _, _, store_one (by kernel_rfl) rfl, ?_⟩
  have m4 : Mod No w3 (w3.alloc (.cells ⟨[.func (.func F_patch_Store_Waits_1) #[] #[.pointer (some ⟨w2.heap.size, 0, none⟩), .pointer (some ⟨w3.heap.size, 0, none⟩), .pointer (some ⟨w.heap.size, 0, none⟩)]]⟩ 194)) := (Mod.refl No w3).alloc _
  have a6 : At (w3.alloc (.cells ⟨[.func (.func F_patch_Store_Waits_1) #[] #[.pointer (some ⟨w2.heap.size, 0, none⟩), .pointer (some ⟨w3.heap.size, 0, none⟩), .pointer (some ⟨w.heap.size, 0, none⟩)]]⟩ 194)) w3.heap.size 0 [.func (.func F_patch_Store_Waits_1) #[] #[.pointer (some ⟨w2.heap.size, 0, none⟩), .pointer (some ⟨w3.heap.size, 0, none⟩), .pointer (some ⟨w.heap.size, 0, none⟩)]] := AtU.new.at
  have s4 : (w3.alloc (.cells ⟨[.func (.func F_patch_Store_Waits_1) #[] #[.pointer (some ⟨w2.heap.size, 0, none⟩), .pointer (some ⟨w3.heap.size, 0, none⟩), .pointer (some ⟨w.heap.size, 0, none⟩)]]⟩ 194)).heap.size = w3.heap.size + 1 := by simp
  generalize w3.alloc (.cells ⟨[.func (.func F_patch_Store_Waits_1) #[] #[.pointer (some ⟨w2.heap.size, 0, none⟩), .pointer (some ⟨w3.heap.size, 0, none⟩), .pointer (some ⟨w.heap.size, 0, none⟩)]]⟩ 194) = w4 at *
  have M4 : Mod No w w4 := ((m1.no m2).no m3).no m4
  have hV4 : Vw w4 sp w.heap.size w2.heap.size w3.heap.size w1.heap.size [] := {
    s := ((a2.keep m2 id).keep m3 id).keep m4 id
    t := a5.keep m4 id
    f := a6
    mp := (mp2.keep m3 id).keep m4 id
    n2 := by omega
    n5 := by omega
    n6 := by omega }
  have h4d := (h.nos M4).drew
  have hV4d := hV4.drew
  obtain ⟨p4, hp4, _, hpx4⟩ := h4d.lookO x.id
  have := hpx4 x hx rfl
  subst this
  have hlo := h.lo
  have hww := h.mod.size
  refine ⟨_, hV4d.lf, _, hV4d.ls, _, rfl, some mo, h4d.lo', _, hp4, _, _, _, rfl, ?_⟩
  show Cal Tryz.prog F_patch_Store_Waits_1 #[.pointer (some ⟨ca x.id, 0, none⟩), .pointer (some ⟨w2.heap.size, 0, none⟩), .pointer (some ⟨w3.heap.size, 0, none⟩), .pointer (some ⟨w.heap.size, 0, none⟩)] (drew w4) _
  refine visit_c x.id h4d hafl hx (Nat.le_refl _) hV4d List.nodup_nil (fun e => by have := (hlo _ e).2; omega) (by omega) (by show w1.heap.size < w4.heap.size; omega) fun w5 M5 m5 mp5 hs5 => ⟨rfl, ?_⟩
  have hW : sorted M5 = waitsV V x.id := hs5.all (V := V) hwf.1 hwf.2.1 hx
  have hlenM := hs5.len hx
  have hlenM : M5.length ≤ openV V := hlenM
  have hV5 := hV4d.mark m5 mp5
  have MM5 : Mod No w w5 := (M4.no (Mod.refl No w4).drew).trans m5 fun z hz e => by have e : z = w1.heap.size := e; omega
  have hz5 := MM5.size
  have hz45 : w4.heap.size ≤ w5.heap.size := m5.size
  obtain ⟨Es, clock, g1, g2, g3, g4, g5⟩ := mp5
  refine ⟨some w1.heap.size, hV5.lt, _, _, range_run u_ok g1, ?_⟩
  have hmb := lt_of_heap g1
  have mr : Mod No w5 (w5.alloc (.mapIter (some w1.heap.size) clock #[] clock)) := (Mod.refl No w5).alloc _
  have hkeys : Es.map (·.1) = M5 := by
    have := congrArg (List.map (·.1)) g2
    rw [List.map_map, okM_keys] at this
    exact this
  have hlenE : Es.length ≤ 1000000 := by
    have := congrArg List.length hkeys
    rw [List.length_map] at this
    omega
  refine ⟨fun x w2 => ∃ vis a l c, x = [.slice a l c] ∧ Own Tryz.prog w2 (w5.heap.size + 1) 37 1 a l c (iL (vis.map (·.1))) ∧ Ranged w2 w5.heap.size w1.heap.size Es clock vis ∧ Mod No w5 w2 ∧ w5.heap.size + 1 ≤ w2.heap.size,
    fun _ w2 => togo w1.heap.size w5.heap.size w2, ⟨[], none, 0, 0, rfl, Own.nil elemZ_64, ⟨mr.keep g1 id, heap_new w5 _, by simp, by simp, g4, g5⟩, mr, by simp⟩, ?_⟩
  rintro z w6 ⟨vis, a, l, c6, rfl, how, hR, hm, hsz⟩
  have hvl : vis.length ≤ Es.length := List.Nodup.length_le_of_subset (nodup_of_map hR.nodup) (fun e he => hR.sub e he)
  have hl : l = vis.length := by have := how.len; simpa using this.symm
  rcases hR.next (P := Tryz.prog) (ty := 0) with ⟨hpe, hrun⟩ | ⟨e, he, w7, hrun, hent, hR7, hnin, hm7, hlt⟩
  · refine ⟨_, _, hrun, false, fun _ => rfl, ff rfl ⟨_, _, _, rfl, Sort64_c how (fun w8 o8 m8 => ⟨rfl, ?_⟩) (by rw [List.length_map]; omega)⟩⟩
    have hs : sorted (vis.map (·.1)) = waitsV V x.id := by rw [← hW, ← hkeys]; exact sorted_perm (hpe.map (·.1))
    rw [hs] at o8
    have hll : l = (waitsV V x.id).length := by have := o8.len; simpa using this.symm
    rw [hll] at o8 ⊢
    exact hk w8 a c6 ((MM5.no hm).trans m8 fun z hz e => by omega) (o8.mono (by omega))
  · refine ⟨_, w7, hrun, true, fun _ => rfl, tt rfl ⟨_, hent, _, fun _ => rfl, _, _, _, rfl, _, _, _, _, builtI64 _ _, ?_⟩⟩
    have how7 := how.keep hm7 (fun q hq e => by have := (how.base hq).1; omega)
    obtain ⟨a8, c8, w8, h8, o8, m8⟩ := how7.snoc (ty := 37) (t := 2) (ys := [.int .i64 e.1]) elemZ_64 (by omega) rfl (by simp; rfl) (by omega) (by omega) (by have := hm7.size; omega)
    have hR8 := hR7.keep m8 (by omega) (by omega)
    refine ⟨_, _, _, w8, h8, ⟨vis ++ [e], a8, _, c8, rfl, ?_, hR8, (hm.trans hm7 fun x hx e => by omega).trans m8 fun x hx e => by omega, by have := hm7.size; have := m8.size; omega⟩, ?_⟩
    · rw [List.map_append]; simpa [iL, I] using o8
    · have e1 : togo w1.heap.size w5.heap.size w8 = togo w1.heap.size w5.heap.size w7 := by rw [hR8.togo, hR7.togo]
      show togo w1.heap.size w5.heap.size w8 < togo w1.heap.size w5.heap.size w6
      rw [e1]; exact hlt
theorem qBlock_c {n : Int} (hP : Pz w0 R w sp d V) (hk0 : V.opn n = false → K (.tuple #[.int .i64 0, .int .i64 20]) w) (hk1 : ∀ x ∈ V.all, (x.id : Int) = n → K (.tuple #[.int .i64 x.b, .int .i64 0]) w) :
    Cal Tryz.prog F_patch_Store_Block #[.pointer (some ⟨sp, 0, none⟩), .int .i64 n] w K := by
  obtain ⟨C, eD, eM, hw, rl, c, mo, mm, ca, oa, Lo, Lm, h⟩ := hP
  apply C_patch_Store_Block
  unfold D_patch_Store_Block
  obtain ⟨p, hp, hpn, hpx⟩ := h.lookO n
  refine ff rfl ⟨_, rfl, some mo, h.lo', p, hp, cond_of (fun hb => ?_) (fun hb => ?_)⟩
  · rw [hb] at hpn
    have ho : Ps.opn ⟨C, V.last, V.ons⟩ n = false := by simpa using hpn.symm
    exact hk0 ho
  · have ho : Ps.opn ⟨C, V.last, V.ons⟩ n = true := by rw [hb] at hpn; simpa using hpn.symm
    obtain ⟨x, hx, ex⟩ := opn_iff.1 ho
    have := hpx x hx ex
    subst this
    exact ⟨_, rfl, _, ((h.chs x hx).2.2).ld (by kernel_rfl) (j := 1) (fun _ _ _ _ => rfl), hk1 x hx ex⟩
end
end Go.Proofs.YtocjjigmpgekfaaGreat
end
section
/- Layer 11, in plain terms: both stores alike. -/
open Go Go.Den Go.Proofs
namespace Go.Proofs.YtocjjigmpgekfaaGreat
def chsV (V : Ps) (b : Nat) : List Ch := match onOf V b with | some o => o.l | none => []
def bse (V : Ps) (b : Nat) : Bk := match onOf V b with | some o => o.base | none => atD V.C.D b
def setA (af : Nat → List Int) (x : Ch) : Ch := { x with after := af x.id }
structure RelA (V : Ps) (S : Rs) (af : Nat → List Int) : Prop where
  last : S.last = V.last
  D : S.D = V.C.D
  chs : ∀ b, b < V.C.D.vs.length → chsV V b = (S.l.filter fun x => decide (x.b = b)).map (setA af)
  aft : ∀ x ∈ S.l, (∀ k ∈ af x.id, k ∈ x.after) ∧ ∀ k ∈ x.after, V.opn k = true → k ∈ af x.id
  base : ∀ b, b < V.C.D.vs.length → S.base[b]? = some (bse V b)
def Rel (V : Ps) (S : Rs) : Prop := ∃ af, RelA V S af
theorem withL_setA (af : Nat → List Int) : ∀ (l : List Ch) (b : Bk), withL b (l.map (setA af)) = withL b l
  | [], _ => rfl
  | x :: r, b => withL_setA af r (overB b x.frm x.data)
section
variable {V : Ps} {S : Rs} {af : Nat → List Int}
theorem chs_mem (hs : WFS V) {o : On} (ho : o ∈ V.ons) : chsV V o.b = o.l := by unfold chsV; rw [onOf_mem hs ho]
theorem RelA.all (h : RelA V S af) (hs : WFS V) (hr : WFR S) {u : Ch} : u ∈ V.all ↔ ∃ y ∈ S.l, u = setA af y := by
  constructor
  · intro hu
    obtain ⟨o, ho, hx⟩ := mem_all.1 hu
    rw [← chs_mem hs ho, h.chs _ (hs.onlt o ho)] at hx
    obtain ⟨y, hy, e⟩ := List.mem_map.1 hx
    exact ⟨y, (List.mem_filter.1 hy).1, e.symm⟩
  · rintro ⟨y, hy, rfl⟩
    have hb : y.b < V.C.D.vs.length := by rw [← h.D, ← hr.len]; exact hr.blt y hy
    have hm : setA af y ∈ chsV V y.b := by
      rw [h.chs _ hb]
      exact List.mem_map.2 ⟨y, List.mem_filter.2 ⟨hy, by simp⟩, rfl⟩
    unfold chsV at hm
    split at hm
    · rename_i o e
      exact mem_all.2 ⟨o, (onOf_some e).1, hm⟩
    · cases hm
theorem RelA.opn (h : RelA V S af) (hs : WFS V) (hr : WFR S) {k : Int} : V.opn k = true ↔ ∃ y ∈ S.l, (y.id : Int) = k := by
  rw [opn_iff]
  constructor
  · rintro ⟨x, hx, e⟩
    obtain ⟨y, hy, rfl⟩ := (h.all hs hr).1 hx
    exact ⟨y, hy, e⟩
  · rintro ⟨y, hy, e⟩
    exact ⟨_, (h.all hs hr).2 ⟨y, hy, rfl⟩, e⟩
theorem RelA.opnF (h : RelA V S af) (hs : WFS V) (hr : WFR S) {k : Int} : V.opn k = false ↔ ∀ y ∈ S.l, (y.id : Int) ≠ k := by
  rw [Bool.eq_false_iff, Ne, h.opn hs hr]
  constructor
  · intro hn y hy e; exact hn ⟨y, hy, e⟩
  · rintro hn ⟨y, hy, e⟩; exact hn y hy e
theorem RelA.cont (h : RelA V S af) {b : Nat} (hb : b < V.C.D.vs.length) : contV V b = rdR S b fun x => decide (x.b = b) := by
  have h1 := h.chs b hb
  have h2 := h.base b hb
  unfold rdR
  rw [h2]
  show contV V b = withL (bse V b) _
  rw [← withL_setA af, ← h1]
  unfold contV bse chsV
  cases onOf V (b : Int) <;> rfl
theorem RelA.wf (h : RelA V S af) (hr : WFR S) {b : Nat} : b < V.C.D.vs.length ↔ b < S.base.length := by rw [hr.len, h.D]
theorem RelA.err (h : RelA V S af) (hr : WFR S) {n : Int} : errOf V.C.D n ≠ 0 ↔ ¬ (0 ≤ n ∧ n < S.base.length) := by
  unfold errOf
  rw [hr.len, h.D]
  split
  · constructor
    · intro _; omega
    · intro _; omega
  · constructor
    · intro e; exact absurd rfl e
    · intro e; omega
/-- Sorted lists: those ahead of a place are those with less. -/
theorem mem_take_srt {l : List Ch} (h : l.Pairwise fun x y => x.id < y.id) {i : Nat} {x y : Ch} (hx : l[i]? = some x) : y ∈ l.take i ↔ y ∈ l ∧ y.id < x.id := by
  constructor
  · intro hy
    refine ⟨List.mem_of_mem_take hy, ?_⟩
    obtain ⟨j, hj, rfl⟩ := List.mem_take_iff_getElem.1 hy
    exact srt_lt2 h (List.getElem?_eq_getElem (by omega)) hx (by omega)
  · rintro ⟨hy, e⟩
    obtain ⟨j, hj, rfl⟩ := List.getElem_of_mem hy
    have := srt_lt h (List.getElem?_eq_getElem hj) hx e
    exact List.mem_take_iff_getElem.2 ⟨j, by omega, rfl⟩
theorem mayN_split {op : Int → Bool} {l : List Ch} {p : Nat} {k : Int} : ∀ {n : Nat}, k ∈ mayN op l n → k ∈ mayN op l p ∨ ∃ (q : Nat) (y : Ch), p ≤ q ∧ l[q]? = some y ∧ k = (y.id : Int)
  | 0, h => by cases h
  | n + 1, h => by
    unfold mayN at h
    split at h
    · rename_i c hc
      split at h
      · exact mayN_split h
      · rename_i hbad
        rcases List.mem_append.1 h with h | h
        · exact mayN_split h
        · by_cases hp : p ≤ n
          · exact .inr ⟨n, c, hp, hc, List.mem_singleton.1 h⟩
          · left
            have : k ∈ mayN op l (n + 1) := by
              unfold mayN
              rw [hc]
              show k ∈ if badB op (l.take n) (mayN op l n) c = true then mayN op l n else mayN op l n ++ [(c.id : Int)]
              rw [if_neg hbad]
              exact List.mem_append_right _ h
            exact mayN_mono (by omega) this
    · exact mayN_split h
theorem mayL_iff {op : Int → Bool} {l : List Ch} (hsrt : l.Pairwise fun x y => x.id < y.id) {p : Nat} {x : Ch} (hx : l[p]? = some x) (haf : ∀ k ∈ x.after, k < (x.id : Int)) :
    (x.id : Int) ∈ mayL op l ↔ (∀ k ∈ x.after, op k = true → k ∈ mayL op l) ∧ ∀ y ∈ l.take p, meetB y x = true → (y.id : Int) ∈ mayL op l := by
  have hnd : (l.map (·.id)).Nodup := List.Pairwise.map _ (fun a b h => by have h : a.id < b.id := h; omega) hsrt
  have hxm := List.mem_of_getElem? hx
  have hpl := (List.getElem?_eq_some_iff.1 hx).1
  have down : ∀ {k : Int}, k ∈ mayL op l → k < (x.id : Int) → k ∈ mayN op l p := fun {k} hk hlt => by
    rcases mayN_split (p := p) hk with h | ⟨q, y, hq, hy, e⟩
    · exact h
    · rcases Nat.lt_or_ge p q with h | h
      · have := srt_lt2 hsrt hx hy h; omega
      · have : q = p := by omega
        subst this
        rw [hx] at hy; cases hy; omega
  constructor
  · intro h
    refine ⟨fun k hk ho => mayL_waits hnd hxm h k hk ho, fun y hy hm => ?_⟩
    obtain ⟨j, hj, rfl⟩ := List.mem_take_iff_getElem.1 hy
    have := List.pairwise_iff_getElem.1 (mayL_meets (op := op) hnd) j p (by omega) hpl (by omega)
    have hxe : l[p] = x := (List.getElem?_eq_some_iff.1 hx).2
    rw [hxe] at this
    exact this h hm
  · rintro ⟨h1, h2⟩
    have hin : (x.id : Int) ∈ mayN op l (p + 1) := by
      unfold mayN
      rw [hx]
      show (x.id : Int) ∈ if badB op (l.take p) (mayN op l p) x = true then mayN op l p else mayN op l p ++ [(x.id : Int)]
      rw [if_neg]
      · simp
      · unfold badB
        rw [Bool.or_eq_true, not_or]
        constructor
        · rw [List.any_eq_true]
          rintro ⟨k, hk, e⟩
          rw [Bool.and_eq_true, Bool.not_eq_true'] at e
          have := down (h1 k hk e.1) (haf k hk)
          rw [← List.contains_iff_mem, e.2] at this
          cases this
        · rw [List.any_eq_true]
          rintro ⟨y, hy, e⟩
          rw [Bool.and_eq_true, Bool.not_eq_true'] at e
          have hlt := ((mem_take_srt hsrt hx).1 hy).2
          have := down (h2 y hy e.1) (by omega)
          rw [← List.contains_iff_mem, e.2] at this
          cases this
    exact mayN_mono (by omega) hin
/-- Which changes of a block may be written. -/
def mayF (V : Ps) (b : Nat) (x : Ch) : Bool := decide (x.b = b) && (mayB V b).contains (x.id : Int)
theorem mayB_chs (V : Ps) (b : Nat) : mayB V b = mayL V.opn (chsV V b) := by unfold mayB chsV; cases onOf V (b : Int) <;> rfl
theorem srt_setA {l : List Ch} (h : l.Pairwise fun x y => x.id < y.id) (b : Nat) : ((l.filter fun x => decide (x.b = b)).map (setA af)).Pairwise fun x y => x.id < y.id := by
  rw [List.pairwise_map]
  exact h.filter _
theorem RelA.may (h : RelA V S af) (hs : WFS V) (hr : WFR S) {b : Nat} (hb : b < V.C.D.vs.length) : MayR S b (mayF V b) := by
  intro i x hx
  unfold mayF
  by_cases hxb : x.b = b
  · rw [decide_eq_true hxb, Bool.true_and, Bool.true_and]
    have hxm := List.mem_of_getElem? hx
    have hsrt := srt_setA (af := af) hr.srt b
    rw [← h.chs b hb] at hsrt
    have hmem : setA af x ∈ chsV V b := by
      rw [h.chs b hb]
      exact List.mem_map.2 ⟨x, List.mem_filter.2 ⟨hxm, by simpa using hxb⟩, rfl⟩
    obtain ⟨p, hp, ep⟩ := List.getElem_of_mem hmem
    have hxp : (chsV V b)[p]? = some (setA af x) := by rw [List.getElem?_eq_getElem hp, ep]
    have hiff := mayL_iff (op := V.opn) hsrt hxp (fun k hk => hr.aft x hxm k ((h.aft x hxm).1 k hk))
    have hids : ∀ {k : Int}, k ∈ mayB V b → ∃ y ∈ S.l, y.b = b ∧ k = (y.id : Int) := fun {k} hk => by
      rw [mayB_chs] at hk
      obtain ⟨u, hu, e⟩ := mayN_mem _ _ hk
      have hu := List.mem_of_mem_take hu
      rw [h.chs b hb] at hu
      obtain ⟨y, hy, rfl⟩ := List.mem_map.1 hu
      obtain ⟨hy1, hy2⟩ := List.mem_filter.1 hy
      exact ⟨y, hy1, by simpa using hy2, e⟩
    rw [mayB_chs] at hids ⊢
    rw [Bool.eq_iff_iff, Bool.and_eq_true, List.all_eq_true, List.all_eq_true, List.contains_iff_mem]
    refine hiff.trans (and_congr ?_ ?_)
    · constructor
      · intro hw k hk
        rw [List.all_eq_true]
        intro y hy
        by_cases e : (y.id : Int) = k
        · rw [decide_eq_true e, Bool.not_true, Bool.false_or, Bool.and_eq_true, decide_eq_true_eq, Bool.and_eq_true, decide_eq_true_eq, List.contains_iff_mem]
          have ho : V.opn k = true := (h.opn hs hr).2 ⟨y, hy, e⟩
          have hm := hw k ((h.aft x hxm).2 k hk ho) ho
          obtain ⟨z, hz, hzb, e2⟩ := hids hm
          have : z = y := srt_uniq hr.srt hz hy (by omega)
          subst this
          rw [e]
          exact ⟨hzb, hzb, hm⟩
        · rw [decide_eq_false e]; rfl
      · intro hw k hk ho
        obtain ⟨y, hy, e⟩ := (h.opn hs hr).1 ho
        have := hw k ((h.aft x hxm).1 k hk)
        rw [List.all_eq_true] at this
        have := this y hy
        rw [decide_eq_true e, Bool.not_true, Bool.false_or, Bool.and_eq_true, Bool.and_eq_true, List.contains_iff_mem] at this
        rw [← e]; exact this.2.2
    · constructor
      · intro hw y hy
        by_cases hm : meetR y x = true
        · unfold meetR at hm ⊢
          rw [Bool.and_eq_true, decide_eq_true_eq] at hm
          rw [decide_eq_true hm.1, hm.2, Bool.and_true, Bool.not_true, Bool.false_or, Bool.and_eq_true, decide_eq_true_eq, List.contains_iff_mem]
          have hyb : y.b = b := hm.1.trans hxb
          refine ⟨hyb, ?_⟩
          obtain ⟨hy1, hy2⟩ := (mem_take_srt hr.srt hx).1 hy
          refine hw (setA af y) ((mem_take_srt hsrt hxp).2 ⟨?_, hy2⟩) hm.2
          rw [h.chs b hb]
          exact List.mem_map.2 ⟨y, List.mem_filter.2 ⟨hy1, by simpa using hyb⟩, rfl⟩
        · rw [Bool.not_eq_true] at hm
          rw [hm]; rfl
      · intro hw u hu hm
        obtain ⟨hu1, hu2⟩ := (mem_take_srt hsrt hxp).1 hu
        rw [h.chs b hb] at hu1
        obtain ⟨y, hy, rfl⟩ := List.mem_map.1 hu1
        obtain ⟨hy1, hy2⟩ := List.mem_filter.1 hy
        have hyb : y.b = b := by simpa using hy2
        have := hw y ((mem_take_srt hr.srt hx).2 ⟨hy1, hu2⟩)
        have hmr : meetR y x = true := by unfold meetR; rw [decide_eq_true (by omega), Bool.true_and]; exact hm
        rw [hmr, Bool.not_true, Bool.false_or, Bool.and_eq_true, List.contains_iff_mem] at this
        exact this.2
  · rw [decide_eq_false hxb, Bool.false_and, Bool.false_and]
theorem filter_may (b : Nat) : (S.l.filter (mayF V b)).map (setA af) = (((S.l.filter fun x => decide (x.b = b)).map (setA af)).filter fun x => (mayB V b).contains (x.id : Int)) := by
  rw [List.filter_map, List.filter_filter]
  congr 1
  refine List.filter_congr fun x _ => ?_
  unfold mayF
  rw [Bool.and_comm]; rfl
theorem RelA.img (h : RelA V S af) {b : Nat} (hb : b < V.C.D.vs.length) : imgB V b = rdR S b (mayF V b) := by
  have h1 := h.chs b hb
  have h2 := h.base b hb
  unfold rdR
  rw [h2]
  show imgB V b = withL (bse V b) _
  rw [← withL_setA af, filter_may, ← h1]
  unfold imgB bse mayB chsV
  cases onOf V (b : Int) <;> rfl
theorem RelA.ready (h : RelA V S af) {b : Nat} (hb : b < V.C.D.vs.length) : readyV V b = (S.l.filter fun x => mayF V b x && !x.out).length := by
  have h1 := h.chs b hb
  have e : readyV V b = ((chsV V b).filter fun x => (mayB V b).contains (x.id : Int) && !x.out).length := by
    unfold readyV mayB chsV
    cases onOf V (b : Int) <;> rfl
  rw [e, h1, List.filter_map, List.length_map, List.filter_filter]
  congr 1
  refine List.filter_congr fun x _ => ?_
  unfold mayF
  show ((mayB V b).contains (x.id : Int) && !x.out && decide (x.b = b)) = (decide (x.b = b) && (mayB V b).contains (x.id : Int) && !x.out)
  cases decide (x.b = b) <;> cases (mayB V b).contains (x.id : Int) <;> cases x.out <;> rfl
theorem eq_of_srt {l r : List Ch} (h1 : l.Pairwise fun x y => x.id < y.id) (h2 : r.Pairwise fun x y => x.id < y.id) (hm : ∀ x, x ∈ l ↔ x ∈ r) : l = r := by
  have hn : ∀ {l : List Ch}, (l.Pairwise fun x y => x.id < y.id) → l.Nodup := fun h => h.imp fun h e => by rw [e] at h; omega
  have hp : l.Perm r := (List.perm_ext_iff_of_nodup (hn h1) (hn h2)).2 hm
  exact hp.eq_of_pairwise (fun a b _ _ h1 h2 => by omega) h1 h2
theorem RelA.srtV (h : RelA V S af) (hs : WFS V) (hr : WFR S) : srtV V = S.l.map (setA af) :=
  eq_of_srt (srtV_srt hs) (by rw [List.pairwise_map]; exact hr.srt) fun x => by
    rw [(srtV_perm V).mem_iff, h.all hs hr, List.mem_map]
    constructor
    · rintro ⟨y, hy, e⟩; exact ⟨y, hy, e.symm⟩
    · rintro ⟨y, hy, e⟩; exact ⟨y, hy, e.symm⟩
theorem RelA.num (h : RelA V S af) (hs : WFS V) (hr : WFR S) : openV V = S.l.length := by
  unfold openV
  rw [← (srtV_perm V).length_eq, h.srtV hs hr, List.length_map]
theorem cloR_map : ∀ {l : List Ch} {acc acc' : List Int}, (∀ x ∈ l, acc.contains (x.id : Int) = acc'.contains (x.id : Int)) → (∀ x ∈ l, ∀ y ∈ l, ((y.id : Int) ∈ af x.id ↔ (y.id : Int) ∈ x.after)) → cloR (l.map (setA af)) acc = cloR l acc'
  | [], _, _, _, _ => rfl
  | x :: r, acc, acc', h, ha => by
    rw [List.map_cons]
    unfold cloR
    have hr : ∀ y ∈ r, acc.contains (y.id : Int) = acc'.contains (y.id : Int) := fun y hy => h y (List.mem_cons_of_mem _ hy)
    have har : ∀ x ∈ r, ∀ y ∈ r, ((y.id : Int) ∈ af x.id ↔ (y.id : Int) ∈ x.after) := fun x hx y hy => ha x (List.mem_cons_of_mem _ hx) y (List.mem_cons_of_mem _ hy)
    have hx := h x List.mem_cons_self
    show (if acc.contains (x.id : Int) = true then cloR (r.map (setA af)) (acc ++ af x.id ++ ((r.map (setA af)).filter fun y => meetR y (setA af x)).map fun y => (y.id : Int)) ++ [(x.id : Int)] else cloR (r.map (setA af)) acc) = _
    rw [hx, cloR_map hr har, cloR_map (acc := acc ++ af x.id ++ ((r.map (setA af)).filter fun y => meetR y (setA af x)).map fun y => (y.id : Int)) (acc' := acc' ++ x.after ++ (r.filter fun y => meetR y x).map fun y => (y.id : Int)) ?_ har]
    intro y hy
    have e1 : ((r.map (setA af)).filter fun y => meetR y (setA af x)).map (fun y => (y.id : Int)) = (r.filter fun y => meetR y x).map fun y => (y.id : Int) := by
      rw [List.filter_map, List.map_map]; rfl
    rw [e1, List.append_assoc, List.append_assoc, Bool.eq_iff_iff, List.contains_iff_mem, List.contains_iff_mem, List.mem_append, List.mem_append (s := acc'), List.mem_append, List.mem_append (s := x.after)]
    have h1 := hr y hy
    rw [Bool.eq_iff_iff, List.contains_iff_mem, List.contains_iff_mem] at h1
    rw [h1, ha x List.mem_cons_self y (List.mem_cons_of_mem _ hy)]
theorem RelA.waits (h : RelA V S af) (hs : WFS V) (hr : WFR S) (n : Int) : waitsV V n = waitsL S.l n := by
  unfold waitsV waitsL
  rw [h.srtV hs hr, ← List.map_reverse]
  refine cloR_map (fun _ _ => rfl) fun x hx y hy => ?_
  rw [List.mem_reverse] at hx hy
  exact ⟨(h.aft x hx).1 _, fun hm => (h.aft x hx).2 _ hm ((h.opn hs hr).2 ⟨y, hy, rfl⟩)⟩
theorem RelA.safe (h : RelA V S af) (hs : WFS V) (hr : WFR S) (n : Int) : safeV V n = (decide (1 ≤ n ∧ n ≤ S.last) && S.l.all fun x => !decide ((x.id : Int) = n)) := by
  unfold safeV
  rw [h.last]
  congr 1
  rw [Bool.eq_iff_iff, Bool.not_eq_true', h.opnF hs hr, List.all_eq_true]
  constructor
  · intro hn x hx; rw [decide_eq_false (hn x hx)]; rfl
  · intro hn x hx e
    have := hn x hx
    rw [decide_eq_true e] at this; cases this
end
end Go.Proofs.YtocjjigmpgekfaaGreat
end
section
/- Layer 11, in plain terms: both stores stay alike. -/
open Go Go.Den Go.Proofs
namespace Go.Proofs.YtocjjigmpgekfaaGreat
section
variable {V : Ps} {S : Rs} {af : Nat → List Int}
theorem onOf_map (l : List On) (C : Ca) (n : Nat) (g : On → On) (hg : ∀ o, (g o).b = o.b) (k : Int) : onOf ⟨C, n, l.map g⟩ k = (l.find? fun o => (o.b : Int) == k).map g := by
  unfold onOf
  rw [List.find?_map]
  congr 1
  congr 1
  funext o
  show (((g o).b : Int) == k) = _
  rw [hg]
theorem chsV_newO (V : Ps) (b c : Nat) : chsV (newO V b) c = chsV V c := by
  unfold chsV newO
  cases e : onOf V (b : Int) with
  | some o => rfl
  | none =>
    show (match onOf { V with ons := V.ons ++ [⟨b, contV V b, []⟩] } (c : Int) with | some o => o.l | none => []) = _
    unfold onOf
    rw [List.find?_append]
    cases e2 : V.ons.find? fun o => (o.b : Int) == (c : Int) with
    | some o => rfl
    | none =>
      show (match ([⟨b, contV V b, []⟩] : List On).find? fun o => (o.b : Int) == (c : Int) with | some o => o.l | none => []) = []
      rw [List.find?_cons]
      split
      · rename_i h
        split at h
        · cases h; rfl
        · cases h
      · rfl
theorem bse_newO (V : Ps) (b c : Nat) : bse (newO V b) c = bse V c := by
  unfold bse newO
  cases e : onOf V (b : Int) with
  | some o => rfl
  | none =>
    show (match onOf { V with ons := V.ons ++ [⟨b, contV V b, []⟩] } (c : Int) with | some o => o.base | none => atD V.C.D c) = _
    unfold onOf
    rw [List.find?_append]
    cases e2 : V.ons.find? fun o => (o.b : Int) == (c : Int) with
    | some o => rfl
    | none =>
      show (match ([⟨b, contV V b, []⟩] : List On).find? fun o => (o.b : Int) == (c : Int) with | some o => o.base | none => atD V.C.D c) = atD V.C.D c
      rw [List.find?_cons]
      split
      · rename_i h
        split at h
        · rename_i hc
          cases h
          have hc : b = c := by have := beq_iff_eq.1 hc; have h2 : (b : Int) = c := this; omega
          subst hc
          show contV V b = _
          unfold contV; rw [e]
        · cases h
      · rfl
theorem chsV_app (V : Ps) (x : Ch) (c : Nat) (hon : ∃ o ∈ V.ons, o.b = x.b) : chsV (appO V x) c = if c = x.b then chsV V c ++ [x] else chsV V c := by
  have e : onOf (appO V x) (c : Int) = (onOf V (c : Int)).map fun o => if o.b = x.b then { o with l := o.l ++ [x] } else o := by
    unfold appO
    exact onOf_map V.ons V.C x.id _ (fun o => by show (if o.b = x.b then _ else o).b = o.b; split <;> rfl) _
  unfold chsV
  rw [e]
  cases e2 : onOf V (c : Int) with
  | none =>
    rw [if_neg]
    · rfl
    · intro ec
      obtain ⟨o, ho, eo⟩ := hon
      exact onOf_none e2 o ho (by omega)
  | some o =>
    have hob : o.b = c := by have := (onOf_some e2).2; omega
    show (if o.b = x.b then ({ o with l := o.l ++ [x] } : On) else o).l = _
    by_cases h : c = x.b
    · rw [if_pos h, if_pos (by omega)]
    · rw [if_neg h, if_neg (by omega)]
theorem bse_app (V : Ps) (x : Ch) (c : Nat) : bse (appO V x) c = bse V c := by
  have e : onOf (appO V x) (c : Int) = (onOf V (c : Int)).map fun o => if o.b = x.b then { o with l := o.l ++ [x] } else o := by
    unfold appO
    exact onOf_map V.ons V.C x.id _ (fun o => by show (if o.b = x.b then _ else o).b = o.b; split <;> rfl) _
  unfold bse
  rw [e]
  cases onOf V (c : Int) with
  | none => rfl
  | some o =>
    show (if o.b = x.b then ({ o with l := o.l ++ [x] } : On) else o).base = o.base
    split <;> rfl
theorem RelA.patE (h : RelA V S af) (hr : WFR S) (n f : Int) (data : Bk) (after : List Int) : patER S n f data after = patE V n f data after := by
  unfold patER Go.Proofs.YtocjjigmpgekfaaGreat.patE badA
  by_cases he : errOf V.C.D n ≠ 0
  · rw [if_pos he, if_pos ((h.err hr).1 he)]
  · rw [if_neg he, if_neg (fun e => he ((h.err hr).2 e)), h.last]
theorem RelA.pat (h : RelA V S af) (hs : WFS V) (hr : WFR S) (hD : WF V.C.D) (n f : Int) (data : Bk) (after : List Int) : Rel (patS V n f data after) (patSR S n f data after) ∧ patNR S n f data after = patN V n f data after := by
  have hE := h.patE hr n f data after
  by_cases he : Go.Proofs.YtocjjigmpgekfaaGreat.patE V n f data after = 0
  · have e1 : patS V n f data after = addX V (newX V n.toNat f.toNat data after) := by unfold patS; rw [if_pos he]
    have e2 : patSR S n f data after = { S with last := S.last + 1, l := S.l ++ [newR S n f data after] } := by unfold patSR; rw [if_pos (by rw [hE]; exact he)]
    refine ⟨?_, by unfold patNR patN; rw [if_pos (by rw [hE]; exact he), if_pos he, h.last]⟩
    rw [e1, e2]
    have hn : n.toNat < V.C.D.vs.length := by
      have h0 : ¬ errOf V.C.D n ≠ 0 := fun hne => by
        unfold Go.Proofs.YtocjjigmpgekfaaGreat.patE at he; rw [if_pos hne] at he; omega
      have := (not_congr (h.err hr)).1 h0
      rw [(h.wf hr)]
      have := Classical.not_not.1 this
      omega
    have hcl := cont_len hs hD hn
    have hsN := hs.newO hn hcl
    obtain ⟨o, ho, hob⟩ := newO_on (V := V) (b := n.toNat)
    generalize hx : newX V n.toNat f.toNat data after = x
    have xb : x.b = n.toNat := by rw [← hx]; rfl
    have xid : x.id = S.last + 1 := by rw [← hx, h.last]; rfl
    have eA : addX V x = appO (newO V n.toNat) x := by unfold addX; rw [xb]
    have hC : (addX V x).C = V.C := by rw [eA]; exact (newO_C (V := V)).1
    have hop : ∀ k, (addX V x).opn k = (decide ((x.id : Int) = k) || V.opn k) := fun k => by
      have := opn_app hsN ho (x := x) (by rw [xb]; exact hob) k
      rw [opn_newO] at this
      rw [eA]; exact this
    refine ⟨fun i => if i = S.last + 1 then after.filter V.opn else af i, ?_, ?_, fun b hb => ?_, fun y hy => ?_, fun b hb => ?_⟩
    · show S.last + 1 = _
      rw [eA]; exact xid.symm
    · rw [hC]; exact h.D
    · rw [hC] at hb
      rw [eA, chsV_app _ _ _ ⟨o, ho, by rw [xb]; exact hob⟩, chsV_newO, h.chs b hb]
      have eold : ∀ l : List Ch, (∀ y ∈ l, y ∈ S.l) → l.map (setA fun i => if i = S.last + 1 then after.filter V.opn else af i) = l.map (setA af) := fun l hl => List.map_congr_left fun y hy => by
        have := hr.idr y (hl y hy)
        show ({ y with after := if y.id = S.last + 1 then after.filter V.opn else af y.id } : Ch) = setA af y
        rw [if_neg (by omega)]; rfl
      show _ = ((S.l ++ [newR S n f data after]).filter fun x => decide (x.b = b)).map _
      rw [List.filter_append, List.map_append, eold _ fun y hy => (List.mem_filter.1 hy).1]
      by_cases eb : b = n.toNat
      · rw [if_pos (by rw [xb]; exact eb)]
        congr 1
        rw [List.filter_cons, if_pos (by show decide ((newR S n f data after).b = b) = true; exact decide_eq_true eb.symm), List.filter_nil, List.map_cons, List.map_nil]
        congr 1
        rw [← hx]
        unfold setA newX newR
        simp only [if_pos]
        rw [h.last]
      · rw [if_neg (by rw [xb]; exact eb), List.filter_cons, if_neg (by show ¬ decide ((newR S n f data after).b = b) = true; rw [decide_eq_true_eq]; exact fun e => eb e.symm), List.filter_nil, List.map_nil, List.append_nil]
    · rcases List.mem_append.1 hy with hy | hy
      · have hid := hr.idr y hy
        rw [if_neg (by omega)]
        refine ⟨(h.aft y hy).1, fun k hk ho => (h.aft y hy).2 k hk ?_⟩
        have := hr.aft y hy k hk
        rw [hop, decide_eq_false (by omega), Bool.false_or] at ho
        exact ho
      · rw [List.mem_singleton.1 hy]
        rw [if_pos (show (newR S n f data after).id = S.last + 1 from rfl)]
        refine ⟨fun k hk => (List.mem_filter.1 hk).1, fun k hk ho => List.mem_filter.2 ⟨hk, ?_⟩⟩
        have hgood : ∀ k ∈ after, 1 ≤ k ∧ k ≤ (S.last : Int) := by
          have he' : patER S n f data after = 0 := by rw [hE]; exact he
          unfold patER at he'
          split at he'
          · omega
          · split at he'
            · omega
            · split at he'
              · omega
              · rename_i h3
                simpa using h3
        have := hgood k hk
        rw [hop, decide_eq_false (by omega), Bool.false_or] at ho
        exact ho
    · rw [hC] at hb
      rw [eA, bse_app, bse_newO]
      exact h.base b hb
  · have e1 : patS V n f data after = V := by unfold patS; rw [if_neg he]
    have e2 : patSR S n f data after = S := by unfold patSR; rw [if_neg (by rw [hE]; exact he)]
    refine ⟨by rw [e1, e2]; exact ⟨af, h⟩, by unfold patNR patN; rw [if_neg (by rw [hE]; exact he), if_neg he]⟩
theorem RelA.wrE (h : RelA V S af) (hr : WFR S) (hne : ∀ o ∈ V.ons, o.l ≠ []) (n : Int) : wrER S n = wrVE V n := by
  unfold wrER wrVE
  by_cases he : errOf V.C.D n ≠ 0
  · rw [if_pos he, if_pos ((h.err hr).1 he)]
  · have h0 := Classical.not_not.1 ((not_congr (h.err hr)).1 he)
    rw [if_neg he, if_neg (by omega)]
    obtain ⟨b, rfl⟩ := Int.eq_ofNat_of_zero_le h0.1
    have hb : b < V.C.D.vs.length := (h.wf hr).2 (by omega)
    have hc := h.chs b hb
    cases e : onOf V (b : Int) with
    | none =>
      have : chsV V b = [] := by unfold chsV; rw [e]
      rw [this] at hc
      have hf : (S.l.filter fun x => decide (x.b = b)) = [] := List.map_eq_nil_iff.1 hc.symm
      rw [List.filter_eq_nil_iff] at hf
      rw [if_neg]
      · rfl
      · rw [List.any_eq_true]
        rintro ⟨y, hy, e2⟩
        exact hf y hy (by rw [decide_eq_true_eq] at e2 ⊢; omega)
    | some o =>
      have : chsV V b = o.l := by unfold chsV; rw [e]
      rw [this] at hc
      obtain ⟨y, hy⟩ := List.exists_mem_of_ne_nil _ (hne o (onOf_some e).1)
      rw [hc] at hy
      obtain ⟨z, hz, _⟩ := List.mem_map.1 hy
      rw [if_pos]
      · rfl
      · rw [List.any_eq_true]
        refine ⟨z, (List.mem_filter.1 hz).1, ?_⟩
        have := (List.mem_filter.1 hz).2
        rw [decide_eq_true_eq] at this ⊢
        omega
theorem RelA.wr (h : RelA V S af) (hs : WFS V) (hr : WFR S) (hD : WF V.C.D) (hl : V.C.D.left = -1) (hne : ∀ o ∈ V.ons, o.l ≠ []) (n : Int) : Rel (wrV V n) (wrSR S n (mayF V n.toNat)) := by
  have hE := h.wrE hr hne n
  by_cases he : wrVE V n = 0
  · have e1 : wrV V n = { V with C := { V.C with D := wrSt V.C.D n (imgB V n.toNat) }, ons := mapX V (markF V n.toNat) } := by unfold wrV; rw [if_pos he]
    have e2 : wrSR S n (mayF V n.toNat) = { S with D := wrSt S.D n (rdR S n.toNat (mayF V n.toNat)), l := S.l.map (outF (mayF V n.toNat)) } := by unfold wrSR; rw [if_pos (by rw [hE]; exact he)]
    have hon : ∃ o, onOf V n = some o := by
      unfold wrVE at he
      split at he
      · omega
      · split at he
        · omega
        · rename_i h2
          cases e : onOf V n with
          | none => rw [e] at h2; exact absurd rfl h2
          | some o => exact ⟨o, rfl⟩
    obtain ⟨o, ho⟩ := hon
    have hob := onOf_some ho
    have hnb : n.toNat = o.b := by omega
    have hbl := hs.onlt o hob.1
    rw [e1, e2, hnb]
    have eon : ∀ b : Nat, onOf { V with C := { V.C with D := wrSt V.C.D n (imgB V o.b) }, ons := mapX V (markF V o.b) } (b : Int) = (onOf V (b : Int)).map fun o' => { o' with l := o'.l.map (markF V o.b) } := fun b => by
      unfold mapX
      exact onOf_map V.ons _ V.last (fun o' => { o' with l := o'.l.map (markF V o.b) }) (fun _ => rfl) _
    have hvs : (wrSt V.C.D n (imgB V o.b)).vs.length = V.C.D.vs.length := len_wr _ _ _
    refine ⟨af, h.last, ?_, fun b hb => ?_, fun y hy => ?_, fun b hb => ?_⟩
    · show wrSt S.D n (rdR S o.b (mayF V o.b)) = wrSt V.C.D n (imgB V o.b)
      rw [h.D, h.img hbl]
    · have hb : b < V.C.D.vs.length := by rw [← hvs]; exact hb
      have e3 : chsV { V with C := { V.C with D := wrSt V.C.D n (imgB V o.b) }, ons := mapX V (markF V o.b) } b = (chsV V b).map (markF V o.b) := by
        unfold chsV
        rw [eon b]
        cases onOf V (b : Int) <;> rfl
      rw [e3, h.chs b hb]
      show _ = ((S.l.map (outF (mayF V o.b))).filter fun x => decide (x.b = b)).map (setA af)
      rw [List.filter_map, List.map_map, List.map_map]
      refine List.map_congr_left fun y hy => ?_
      show markF V o.b (setA af y) = setA af (outF (mayF V o.b) y)
      unfold markF outF setA mayF
      by_cases e : y.b = o.b
      · simp [e]
      · simp [e]
    · have hy : y ∈ S.l.map (outF (mayF V o.b)) := hy
      obtain ⟨z, hz, rfl⟩ := List.mem_map.1 hy
      refine ⟨(h.aft z hz).1, fun k hk hk' => (h.aft z hz).2 k hk ?_⟩
      have := opn_mapX (V := V) (C := { V.C with D := wrSt V.C.D n (imgB V o.b) }) (markF_like V o.b)
      rw [← this]; exact hk'
    · have hb : b < V.C.D.vs.length := by rw [← hvs]; exact hb
      rw [show S.base[b]? = some (bse V b) from h.base b hb]
      congr 1
      unfold bse
      rw [eon b]
      cases e : onOf V (b : Int) with
      | some o' => rfl
      | none =>
        show atD V.C.D b = atD (wrSt V.C.D n (imgB V o.b)) b
        have hbo : b ≠ o.b := fun e' => onOf_none e o hob.1 (by omega)
        rw [hob.2, atD_wrN hbl (img_len hs hD hbl) hl, if_neg hbo]
  · have e1 : wrV V n = V := by unfold wrV; rw [if_neg he]
    have e2 : wrSR S n (mayF V n.toNat) = S := by unfold wrSR; rw [if_neg (by rw [hE]; exact he)]
    rw [e1, e2]; exact ⟨af, h⟩
theorem find_fmap {l : List On} (hn : (l.map (·.b)).Nodup) (b : Nat) : (l.filterMap flOn).find? (fun o => (o.b : Int) == (b : Int)) = (l.find? fun o => (o.b : Int) == (b : Int)).bind flOn := by
  induction l with
  | nil => rfl
  | cons o r ih =>
    rw [List.map_cons, List.nodup_cons] at hn
    by_cases e : (o.b : Int) = (b : Int)
    · rw [List.find?_cons_of_pos (by simpa using e)]
      show _ = flOn o
      cases ef : flOn o with
      | some o' =>
        have hb := flOn_b ef
        rw [List.filterMap_cons_some ef, List.find?_cons_of_pos]
        rw [hb]; simpa using e
      | none =>
        rw [List.filterMap_cons_none ef]
        rw [List.find?_eq_none]
        intro p hp hpb
        obtain ⟨q, hq, eq⟩ := List.mem_filterMap.1 hp
        have := flOn_b eq
        have hpb : (p.b : Int) = b := by simpa using hpb
        exact hn.1 (List.mem_map.2 ⟨q, hq, by omega⟩)
    · rw [List.find?_cons_of_neg (by simpa using e)]
      rw [← ih hn.2]
      cases ef : flOn o with
      | some o' =>
        have hb := flOn_b ef
        rw [List.filterMap_cons_some ef, List.find?_cons_of_neg]
        rw [hb]; simpa using e
      | none => rw [List.filterMap_cons_none ef]
theorem RelA.fl (h : RelA V S af) (hs : WFS V) (hl : V.C.D.left = -1) (hacc : ∀ o ∈ V.ons, atD V.C.D o.b = withL o.base (o.l.filter (·.out))) : Rel (flV V) (flR S) := by
  have eon : ∀ b : Nat, onOf (flV V) (b : Int) = (onOf V (b : Int)).bind flOn := fun b => by
    unfold onOf flV
    exact find_fmap hs.onsN b
  have hvs : (flV V).C.D.vs.length = V.C.D.vs.length := fl_len V.C.D
  have hfd : ∀ (b : Nat) (o : On), onOf V (b : Int) = some o → chsV V b = o.l ∧ bse V b = o.base := fun b o e => by
    unfold chsV bse; rw [e]; exact ⟨rfl, rfl⟩
  refine ⟨af, h.last, ?_, fun b hb => ?_, fun y hy => ?_, fun b hb => ?_⟩
  · show flSt S.D = flSt V.C.D
    rw [h.D]
  · have hb : b < V.C.D.vs.length := by rw [← hvs]; exact hb
    have hc := h.chs b hb
    have e3 : chsV (flV V) b = (chsV V b).filter fun x => !x.out := by
      cases e : onOf V (b : Int) with
      | none =>
        unfold chsV; rw [eon b, e]; rfl
      | some o =>
        rw [(hfd b o e).1]
        unfold chsV; rw [eon b, e]
        show (match flOn o with | some o => o.l | none => []) = _
        unfold flOn
        split
        · rename_i h1
          split at h1
          · cases h1
          · cases h1; rfl
        · rename_i h1
          split at h1
          · rename_i h2
            rw [List.isEmpty_iff.1 h2]
          · cases h1
    rw [e3, hc]
    show _ = ((S.l.filter fun x => !x.out).filter fun x => decide (x.b = b)).map (setA af)
    rw [List.filter_map, List.filter_filter, List.filter_filter]
    congr 1
    refine List.filter_congr fun y _ => ?_
    show (!y.out && decide (y.b = b)) = (decide (y.b = b) && !y.out)
    exact Bool.and_comm _ _
  · have hy : y ∈ S.l.filter fun x => !x.out := hy
    have hy1 := (List.mem_filter.1 hy).1
    refine ⟨(h.aft y hy1).1, fun k hk ho => (h.aft y hy1).2 k hk ?_⟩
    obtain ⟨x, hx, _, e⟩ := opn_fl.1 ho
    exact opn_iff.2 ⟨x, hx, e⟩
  · have hb : b < V.C.D.vs.length := by rw [← hvs]; exact hb
    have hbase := h.base b hb
    have hc := h.chs b hb
    obtain ⟨hbs, ebs⟩ := List.getElem?_eq_some_iff.1 hbase
    show (basR S S.l)[b]? = _
    rw [basR_get hbs, ebs]
    congr 1
    have e4 : (S.l.filter fun c => decide (c.b = b) && c.out).map (setA af) = (chsV V b).filter (·.out) := by
      rw [hc, List.filter_map, List.filter_filter]
      congr 1
      refine List.filter_congr fun y _ => ?_
      show (decide (y.b = b) && y.out) = (y.out && decide (y.b = b))
      exact Bool.and_comm _ _
    rw [← withL_setA af, e4]
    cases e : onOf V (b : Int) with
    | none =>
      have h1 : chsV V b = [] := by unfold chsV; rw [e]
      have h2 : bse V b = atD V.C.D b := by unfold bse; rw [e]
      have h3 : bse (flV V) b = atD (flSt V.C.D) b := by unfold bse; rw [eon b, e]; rfl
      rw [h1, h2, h3, atD_fl hl]; rfl
    | some o =>
      obtain ⟨h1, h2⟩ := hfd b o e
      have hob := onOf_some e
      have hbo : o.b = b := by omega
      rw [h1, h2]
      have h3 : bse (flV V) b = match flOn o with | some o => o.base | none => atD (flSt V.C.D) b := by unfold bse; rw [eon b, e]; rfl
      rw [h3]
      cases ef : flOn o with
      | some o' =>
        unfold flOn at ef
        split at ef
        · cases ef
        · cases ef; rfl
      | none =>
        show _ = atD (flSt V.C.D) b
        rw [atD_fl hl, ← hbo]
        exact (hacc o hob.1).symm
end
end Go.Proofs.YtocjjigmpgekfaaGreat
end
section
/- Layer 12, in plain terms: rounds of writes and flushes; each makes fewer changes open. -/
open Go Go.Den Go.Proofs
namespace Go.Proofs.YtocjjigmpgekfaaGreat
def stepR (p : Ps × Nat) (k : Int) : Ps × Nat := if readyV p.1 k = 0 then p else (wrV p.1 k, p.2 + 1)
def roundP (V : Ps) (ks : List Int) : Ps × Nat := (flV (ks.foldl stepR (V, 0)).1, (ks.foldl stepR (V, 0)).2)
def rnds (nx : Ps → List Int) : Nat → Ps → Nat × Ps
  | 0, V => (0, V)
  | f + 1, V => if nx V = [] then (0, V) else ((roundP V (nx V)).2 + (rnds nx f (roundP V (nx V)).1).1, (rnds nx f (roundP V (nx V)).1).2)
theorem rnds_nil {nx : Ps → List Int} {f : Nat} {V : Ps} (h : nx V = []) : rnds nx f V = (0, V) := by
  cases f with
  | zero => rfl
  | succ f => unfold rnds; rw [if_pos h]
theorem rnds_succ {nx : Ps → List Int} {f : Nat} {V : Ps} (h : nx V ≠ []) : rnds nx (f + 1) V = ((roundP V (nx V)).2 + (rnds nx f (roundP V (nx V)).1).1, (rnds nx f (roundP V (nx V)).1).2) := by
  show (if nx V = [] then _ else _) = _
  rw [if_neg h]
theorem rnds_more {nx : Ps → List Int} (good : Ps → Prop) (hg : ∀ V, good V → nx V ≠ [] → good (roundP V (nx V)).1 ∧ openV (roundP V (nx V)).1 < openV V) (h0 : ∀ V, good V → openV V = 0 → nx V = []) :
    ∀ {f g : Nat} {V : Ps}, good V → openV V ≤ f → openV V ≤ g → rnds nx f V = rnds nx g V
  | 0, g, V, hV, hf, _ => by
    have := h0 V hV (by omega)
    rw [rnds_nil this, rnds_nil this]
  | f + 1, 0, V, hV, _, hg' => by
    have := h0 V hV (by omega)
    rw [rnds_nil this, rnds_nil this]
  | f + 1, g + 1, V, hV, h1, h2 => by
    by_cases hn : nx V = []
    · rw [rnds_nil hn, rnds_nil hn]
    · obtain ⟨a, b⟩ := hg V hV hn
      rw [rnds_succ hn, rnds_succ hn, rnds_more good hg h0 (f := f) (g := g) a (by omega) (by omega)]
/-- One round more. -/
theorem rnds_step {nx : Ps → List Int} (good : Ps → Prop) (hg : ∀ V, good V → nx V ≠ [] → good (roundP V (nx V)).1 ∧ openV (roundP V (nx V)).1 < openV V) (h0 : ∀ V, good V → openV V = 0 → nx V = [])
    {V : Ps} (hV : good V) (hn : nx V ≠ []) : rnds nx (openV V) V = ((roundP V (nx V)).2 + (rnds nx (openV (roundP V (nx V)).1) (roundP V (nx V)).1).1, (rnds nx (openV (roundP V (nx V)).1) (roundP V (nx V)).1).2) := by
  obtain ⟨a, b⟩ := hg V hV hn
  have e : openV V = (openV V - 1) + 1 := by omega
  rw [e, rnds_succ hn, rnds_more good hg h0 (f := openV V - 1) (g := openV (roundP V (nx V)).1) a (by omega) (Nat.le_refl _)]
section
variable {V W : Ps}
theorem WFS.wr (h : WFS V) (n : Int) : WFS (wrV V n) := by
  unfold wrV
  split
  · exact h.mapX (markF_like V n.toNat) (len_wr _ _ _) rfl
  · exact h
theorem WFS.flush (h : WFS V) : WFS (flV V) := by
  have := h.fl (C := { V.C with D := flSt V.C.D }) (vis := fun _ => true) (fl_len _) rfl
  have e : V.ons.filterMap (flG fun _ => true) = V.ons.filterMap flOn := fmap_congr fun o _ => by unfold flG; rw [if_pos rfl]
  rw [e] at this
  exact this
theorem Sim.on (h : Sim V W) {o : On} (ho : o ∈ V.ons) : ∃ f, Like f ∧ { o with l := o.l.map f } ∈ W.ons ∧ mayL W.opn (o.l.map f) = mayL V.opn o.l ∧ W.opn = V.opn := by
  obtain ⟨hl, f, hf, e⟩ := h
  have hop : W.opn = V.opn := by
    have h1 := opn_mapX (V := V) (C := W.C) hf
    have e2 : W = ⟨W.C, V.last, mapX V f⟩ := by rw [← hl, ← e]
    rw [e2]; exact h1
  exact ⟨f, hf, by rw [e]; exact List.mem_map.2 ⟨o, ho, rfl⟩, by rw [mayL_map hf, hop], hop⟩
theorem readyV_on (h : WFS W) {o : On} (ho : o ∈ W.ons) : readyV W (o.b : Int) = (o.l.filter fun x => (mayL W.opn o.l).contains (x.id : Int) && !x.out).length := by
  unfold readyV; rw [onOf_mem h ho]
theorem Mkd.may (hs : WFS W) {o : On} {x : Ch} (ho : o ∈ W.ons) (hx : x ∈ o.l) (hm : (x.id : Int) ∈ mayL W.opn o.l) : Mkd (wrV W (o.b : Int)) x.id := by
  unfold wrV
  rw [if_pos (wrVE_on hs ho), Int.toNat_natCast]
  refine ⟨markF W o.b x, ?_, (markF_like W o.b).id x, ?_⟩
  · show _ ∈ Ps.all ⟨_, W.last, mapX W (markF W o.b)⟩
    rw [all_mapX]; exact List.mem_map.2 ⟨x, on_all ho hx, rfl⟩
  · unfold markF
    rw [if_pos (hs.chb o ho x hx)]
    show (x.out || (mayB W o.b).contains (x.id : Int)) = true
    have : mayB W o.b = mayL W.opn o.l := by unfold mayB; rw [onOf_mem hs ho]
    rw [this]
    have : (mayL W.opn o.l).contains (x.id : Int) = true := by simpa using hm
    rw [this, Bool.or_true]
/-- One that may be written is, once its block's turn has come. -/
theorem fold_mkd (hs : WFS V) {o : On} {x : Ch} (ho : o ∈ V.ons) (hx : x ∈ o.l) (hm : (x.id : Int) ∈ mayL V.opn o.l) : ∀ (ks : List Int) (W : Ps) (c : Nat), Sim V W → WFS W → (Mkd W x.id ∨ (o.b : Int) ∈ ks) → Mkd (ks.foldl stepR (W, c)).1 x.id ∧ Sim V (ks.foldl stepR (W, c)).1 ∧ WFS (ks.foldl stepR (W, c)).1
  | [], W, c, hS, hW, h => ⟨h.resolve_right (fun e => by cases e), hS, hW⟩
  | k :: ks, W, c, hS, hW, h => by
    rw [List.foldl_cons]
    have hstep : ∃ W' c', stepR (W, c) k = (W', c') ∧ Sim V W' ∧ WFS W' ∧ (Mkd W' x.id ∨ (o.b : Int) ∈ ks) := by
      unfold stepR
      by_cases hr : readyV W k = 0
      · refine ⟨W, c, by rw [if_pos hr], hS, hW, ?_⟩
        rcases h with h | h
        · exact .inl h
        · rcases List.mem_cons.1 h with e | e
          · left
            subst e
            obtain ⟨f, hf, ho', hmay, hop⟩ := hS.on ho
            rw [readyV_on hW ho'] at hr
            dsimp only at hr
            have hx' : f x ∈ o.l.map f := List.mem_map.2 ⟨x, hx, rfl⟩
            refine ⟨f x, on_all ho' hx', hf.id x, ?_⟩
            cases hout : (f x).out with
            | true => rfl
            | false =>
              have hmem : f x ∈ (o.l.map f).filter fun y => (mayL W.opn (o.l.map f)).contains (y.id : Int) && !y.out := List.mem_filter.2 ⟨hx', by
                rw [hout, hf.id, hmay]
                have : (mayL V.opn o.l).contains (x.id : Int) = true := by simpa using hm
                rw [this]; rfl⟩
              have := List.length_pos_of_mem hmem
              omega
          · exact .inr e
      · refine ⟨wrV W k, c + 1, by rw [if_neg hr], hS.wr k, hW.wr k, ?_⟩
        rcases h with h | h
        · exact .inl (h.wr k)
        · rcases List.mem_cons.1 h with e | e
          · left
            subst e
            obtain ⟨f, hf, ho', hmay, hop⟩ := hS.on ho
            have := Mkd.may hW ho' (x := f x) (List.mem_map.2 ⟨x, hx, rfl⟩) (by rw [hf.id, hmay]; exact hm)
            rw [hf.id] at this
            exact this
          · exact .inr e
    obtain ⟨W', c', e, h1, h2, h3⟩ := hstep
    rw [e]
    exact fold_mkd hs ho hx hm ks W' c' h1 h2 h3
theorem round_fewer (hs : WFS V) {o : On} {x : Ch} {ks : List Int} (ho : o ∈ V.ons) (hx : x ∈ o.l) (hm : (x.id : Int) ∈ mayL V.opn o.l) (hk : (o.b : Int) ∈ ks) : openV (roundP V ks).1 < openV V := by
  obtain ⟨h1, h2, h3⟩ := fold_mkd hs ho hx hm ks V 0 (Sim.refl V) hs (.inr hk)
  have := h1.fewer
  rw [h2.num] at this
  exact this
/-- The blocks in which those stand that wait with one. -/
def oneB (id : Int) (V : Ps) : List Int := ((List.range V.C.D.vs.length).filter fun b => V.all.any fun x => decide (x.b = b) && (waitsV V id).contains (x.id : Int)).map fun b : Nat => (b : Int)
theorem mem_oneB {id k : Int} : k ∈ oneB id V ↔ ∃ x ∈ V.all, x.b < V.C.D.vs.length ∧ k = (x.b : Int) ∧ (x.id : Int) ∈ waitsV V id := by
  unfold oneB
  rw [List.mem_map]
  constructor
  · rintro ⟨b, hb, rfl⟩
    obtain ⟨h1, h2⟩ := List.mem_filter.1 hb
    obtain ⟨x, hx, e⟩ := List.any_eq_true.1 h2
    rw [Bool.and_eq_true, decide_eq_true_eq, List.contains_iff_mem] at e
    exact ⟨x, hx, by rw [e.1]; exact List.mem_range.1 h1, by rw [e.1], e.2⟩
  · rintro ⟨x, hx, hl, rfl, hw⟩
    refine ⟨x.b, List.mem_filter.2 ⟨List.mem_range.2 hl, List.any_eq_true.2 ⟨x, hx, ?_⟩⟩, rfl⟩
    rw [Bool.and_eq_true, decide_eq_true_eq, List.contains_iff_mem]
    exact ⟨rfl, hw⟩
theorem oneB_srt (id : Int) (V : Ps) : (oneB id V).Pairwise (· < ·) := by
  unfold oneB
  rw [List.pairwise_map]
  exact (List.pairwise_lt_range.filter _).imp fun h => by omega
theorem oneB_len (id : Int) (V : Ps) : (oneB id V).length ≤ V.C.D.vs.length := by
  unfold oneB
  rw [List.length_map]
  have := List.length_filter_le (fun b => V.all.any fun x => decide (x.b = b) && (waitsV V id).contains (x.id : Int)) (List.range V.C.D.vs.length)
  rwa [List.length_range] at this
/-- What rounds need of a store. -/
structure Gd (V : Ps) : Prop where
  s : WFS V
  f : ∀ x ∈ V.all, ∀ k ∈ x.after, k < (x.id : Int)
  srt : Srt V
  ne : ∀ o ∈ V.ons, o.l ≠ []
  sm : V.C.D.vs.length ≤ 4096
theorem Gd.wr (h : Gd V) (n : Int) : Gd (wrV V n) := by
  refine ⟨h.s.wr n, ?_, h.srt.wr n, ?_, by rw [(wr_opn (V := V) n).2.2.2]; exact h.sm⟩
  · unfold wrV
    split
    · intro x hx
      have hx : x ∈ Ps.all ⟨_, V.last, mapX V (markF V n.toNat)⟩ := hx
      rw [all_mapX] at hx
      obtain ⟨y, hy, rfl⟩ := List.mem_map.1 hx
      rw [(markF_like V n.toNat).after, (markF_like V n.toNat).id]
      exact h.f y hy
    · exact h.f
  · unfold wrV
    split
    · intro o ho
      have ho : o ∈ mapX V (markF V n.toNat) := ho
      obtain ⟨p, hp, rfl⟩ := List.mem_map.1 ho
      intro e
      exact h.ne p hp (List.map_eq_nil_iff.1 e)
    · exact h.ne
theorem Gd.fl (h : Gd V) : Gd (flV V) := by
  refine ⟨h.s.flush, fun x hx => ?_, h.srt.fl, fun o ho => ?_, ?_⟩
  · rw [all_fl] at hx
    exact h.f x (List.mem_filter.1 hx).1
  · obtain ⟨p, hp, e⟩ := List.mem_filterMap.1 ho
    unfold flOn at e
    split at e
    · cases e
    · rename_i hn
      cases e
      intro e2
      exact hn (by show (p.l.filter fun x => !x.out).isEmpty = true; rw [List.isEmpty_iff]; exact e2)
  · have : (flV V).C.D.vs.length = V.C.D.vs.length := fl_len _
    rw [this]; exact h.sm
theorem Gd.one (h : Gd V) (id : Int) : (oneB id V).length ≤ 4096 := Nat.le_trans (oneB_len id V) h.sm
theorem Gd.fold : ∀ (ks : List Int) (W : Ps) (c : Nat), Gd W → Gd (ks.foldl stepR (W, c)).1
  | [], _, _, h => h
  | k :: ks, W, c, h => by
    rw [List.foldl_cons]
    unfold stepR
    split
    · exact Gd.fold ks W c h
    · exact Gd.fold ks _ _ (h.wr k)
theorem Gd.round (h : Gd V) (ks : List Int) : Gd (roundP V ks).1 := (Gd.fold ks V 0 h).fl
theorem least_of : ∀ {l : List Int}, l ≠ [] → ∃ k ∈ l, ∀ j ∈ l, k ≤ j
  | [], h => absurd rfl h
  | [k], _ => ⟨k, by simp, fun j hj => by rw [List.mem_singleton.1 hj]; omega⟩
  | k :: a :: r, _ => by
    obtain ⟨m, hm, hmin⟩ := least_of (l := a :: r) (by simp)
    by_cases e : k ≤ m
    · exact ⟨k, by simp, fun j hj => by
        rcases List.mem_cons.1 hj with rfl | hj
        · omega
        · have := hmin j hj; omega⟩
    · exact ⟨m, List.mem_cons_of_mem _ hm, fun j hj => by
        rcases List.mem_cons.1 hj with rfl | hj
        · omega
        · exact hmin j hj⟩
theorem waits_dep (h : Gd V) {id : Int} {y z : Ch} (hy : y ∈ V.all) (hw : (y.id : Int) ∈ waitsV V id) (hz : z ∈ V.all) (hd : Dep y z) : (z.id : Int) ∈ waitsV V id := by
  rw [mem_waitsV h.s h.f] at hw ⊢
  obtain ⟨x, hx, e, u, hu, eu⟩ := hw
  have : u = y := by
    exact map_inj h.s.ids (hu.mem hx) hy (by omega)
  subst this
  exact ⟨x, hx, e, z, hu.trans (Rc.head hz hd (Rc.refl _)), rfl⟩
theorem one_fewer (h : Gd V) (id : Int) (hn : oneB id V ≠ []) : openV (roundP V (oneB id V)).1 < openV V := by
  obtain ⟨k0, hk0⟩ := List.exists_mem_of_ne_nil _ hn
  obtain ⟨x0, hx0, _, _, hw0⟩ := mem_oneB.1 hk0
  have hwn : waitsV V id ≠ [] := fun e => by rw [e] at hw0; cases hw0
  obtain ⟨k, hk, hmin⟩ := least_of hwn
  have hk' := hk
  rw [mem_waitsV h.s h.f] at hk'
  obtain ⟨x1, hx1, _, x, hxr, rfl⟩ := hk'
  have hx := hxr.mem hx1
  obtain ⟨o, ho, hxo⟩ := mem_all.1 hx
  have hob := h.s.chb o ho x hxo
  have hlt := h.s.onlt o ho
  obtain ⟨p, hp, ep⟩ := List.getElem_of_mem hxo
  have hxp : o.l[p]? = some x := by rw [List.getElem?_eq_getElem hp, ep]
  have hm : (x.id : Int) ∈ mayL V.opn o.l := by
    rw [mayL_iff (h.srt o ho) hxp (h.f x hx)]
    constructor
    · intro k hka ho'
      obtain ⟨z, hz, ez⟩ := opn_iff.1 ho'
      have h1 := hmin _ (waits_dep h hx hk hz (.inl (by rw [ez]; exact hka)))
      have h2 := h.f x hx k hka
      omega
    · intro u hu hmu
      obtain ⟨hu1, hu2⟩ := (mem_take_srt (h.srt o ho) hxp).1 hu
      have hub := h.s.chb o ho u hu1
      have h1 := hmin _ (waits_dep h hx hk (on_all ho hu1) (.inr ⟨hu2, by unfold meetR; rw [decide_eq_true (by omega), Bool.true_and]; exact hmu⟩))
      omega
  exact round_fewer h.s ho hxo hm (mem_oneB.2 ⟨x, hx, by omega, by rw [hob], hk⟩)
theorem open0_one (id : Int) (h : openV V = 0) : oneB id V = [] := by
  refine List.eq_nil_iff_forall_not_mem.2 fun k hk => ?_
  obtain ⟨x, hx, _⟩ := mem_oneB.1 hk
  unfold openV at h
  rw [List.eq_nil_of_length_eq_zero h] at hx
  cases hx
end
end Go.Proofs.YtocjjigmpgekfaaGreat
end
section
/- What the bound of the second form gives (began as the kit's template UptoLemmas). -/
namespace Go.Proofs.YtocjjigmpgekfaaGreat.bulks

theorem one_le {H : Type} (d : DataW H) : 1 ≤ Rows.uptoBulk d := by
  cases d with
  | lit l => cases l <;> simp [Rows.uptoBulk]
  | nil => simp [Rows.uptoBulk]
  | ptr d => simp [Rows.uptoBulk]
  | slice elems spare => simp [Rows.uptoBulk]
  | agg parts => simp [Rows.uptoBulk]
  | iface t d => simp [Rows.uptoBulk]
  | map entries => simp [Rows.uptoBulk]
  | held h => simp [Rows.uptoBulk]

/-- a part's bulk is at most the whole's -/
theorem part_le {H : Type} {d : DataW H} {l : List (DataW H)} (h : d ∈ l) : Rows.uptoBulk d ≤ Rows.uptoBulkAll l := by
  induction l with
  | nil => cases h
  | cons x r ih =>
    simp only [Rows.uptoBulkAll]
    cases List.mem_cons.1 h with
    | inl e => subst e; omega
    | inr e => have := ih e; omega

theorem append {H : Type} (l r : List (DataW H)) : Rows.uptoBulkAll (l ++ r) = Rows.uptoBulkAll l + Rows.uptoBulkAll r := by
  induction l with
  | nil => simp [Rows.uptoBulkAll]
  | cons x l ih => simp only [List.cons_append, Rows.uptoBulkAll, ih]; omega

/-- so many values at the most -/
theorem length_le {H : Type} (l : List (DataW H)) : l.length ≤ Rows.uptoBulkAll l := by
  induction l with
  | nil => simp [Rows.uptoBulkAll]
  | cons x r ih => have := one_le x; simp only [Rows.uptoBulkAll, List.length_cons]; omega

/-- a slice's places, and what they hold -/
theorem slice_le {H : Type} (elems spare : List (DataW H)) : elems.length + spare.length + 1 ≤ Rows.uptoBulk (.slice elems spare) := by
  have h1 := length_le elems
  have h2 := length_le spare
  simp only [Rows.uptoBulk]
  omega
theorem slice_elems {H : Type} (elems spare : List (DataW H)) : Rows.uptoBulkAll elems + 1 ≤ Rows.uptoBulk (.slice elems spare) := by
  simp only [Rows.uptoBulk]
  omega

end Go.Proofs.YtocjjigmpgekfaaGreat.bulks
end
section
/- A law's last step: it returned true, and below the heap's size nothing has turned. -/
open Go Go.Den
namespace Go.Den
open Go.RowKit Go.ChangeShapes Go.WideShapes
section
variable {H : Type} {enc : TypeId × Value → H} {P : Program}

theorem trodAll_below (hl : laidOutB P = true) {W W' : World} (hb : Below W.heap.size W W') : ∀ {ts : List TypeId} {vs : List Value} {ds : List (DataW H)} {ps : List MemPlace},
    (ts.all fun t => P.readableRec t && decide (t < P.types.size)) = true → DataW.TrodAll enc P W 0 (fun _ => true) true ts vs ds ps → (∀ x ∈ ps, x.block < W.heap.size) →
    DataW.TrodAll enc P W' 0 (fun b => decide (b < W.heap.size)) true ts vs ds ps
  | [], [], [], _, _, h, _ => h
  | [], [], _ :: _, _, _, h, _ => h.elim
  | [], _ :: _, _, _, _, h, _ => h.elim
  | _ :: _, [], _, _, _, h, _ => h.elim
  | _ :: _, _ :: _, [], _, _, h, _ => h.elim
  | t :: ts, v :: vs, d :: ds, ps, hr, h, hlt => by
    simp only [List.all_cons, Bool.and_eq_true, decide_eq_true_eq] at hr
    obtain ⟨p, q, h1, h2, rfl⟩ := h
    exact ⟨p, q, Below.trod hl hr.1.1 hr.1.2 h1 hb (fun x hx => hlt x (List.mem_append_left _ hx)), trodAll_below hl hb hr.2 h2 (fun x hx => hlt x (List.mem_append_right _ hx)), rfl⟩

theorem law_post {f : Func} {s : ChangeSpec} {apart handsOn : Bool} {W W' : World} {args : Array Value} {ds gs : List (DataW H)} {before : List MemPlace} {tb : TypeId} (hl : laidOutB P = true)
    (hW : DataW.Whole enc P f.params.toList s.vars apart W args.toList ds gs before) (hv : s.vars = []) (hr : (f.params.toList.all fun t => P.readableRec t && decide (t < P.types.size)) = true)
    (hrt : f.resultTypes = #[tb]) (htb : P.underlying tb = some .bool) (hs : s.fn H ds = { results := [.lit (.bool true)], args := ds }) (hb : Below W.heap.size W W') :
    s.post enc P f apart true handsOn false W args (.bool true) W' := by
  have hlt : ∀ p ∈ before, p.block < W.heap.size := fun p hp => hW.lt p hp
  have hW0 := hW
  obtain ⟨p, q, hA, hV, he, _, _⟩ := hW
  rw [hv] at hV
  have hgs : gs = [] ∧ q = [] := by
    cases gs with
    | nil => exact ⟨rfl, hV⟩
    | cons a r => exact hV.elim
  obtain ⟨rfl, rfl⟩ := hgs
  rw [List.append_nil] at he
  subst he
  refine ⟨ds, [], before, [], before, [], hW0, ?_, ?_, ?_, World.keptBut_mono (fun x hx => ⟨hx, .inr (.inl hx)⟩) (hb.frame (· ∈ before)), fun h => Bool.noConfusion h⟩
  · rw [hrt, List.append_nil, hs]
    exact ⟨[], [], shut_bool htb true, rfl, rfl⟩
  · rw [List.append_nil, hs]
    exact trodAll_below hl hb hr hA hlt
  · rw [hv, List.append_nil, hs]; rfl
end
end Go.Den
end
section
/- Small laws for the last step of a statement. -/
open Go Go.Den
namespace Go.Proofs.YtocjjigmpgekfaaGreat
open Go.ChangeShapes Go.WideShapes Go.ChangeAt Go.RowKit

theorem own_none : ownKnob Tryz.prog.godebug = none := by kernel_rfl
theorem laid_out : laidOutB Tryz.prog = true := by kernel_rfl

theorem cal_calls {f : FuncId} {args : Array Value} {w : World} {K : Value → World → Prop} {R : Ending → World → Prop} (h : Cal Tryz.prog f args w K) (hk : ∀ v w', K v w' → R (.returned v) w') : Calls Tryz.prog f args w R :=
  h.2.mono fun e w' he => by cases e <;> first | exact hk _ _ he | exact he.elim

end Go.Proofs.YtocjjigmpgekfaaGreat
end
section
/- Arguments that came in: rows of bytes, as a proof over the denotation takes them; the last step of a statement of the second form. -/
open Go Go.Den
namespace Go.Den
open Go.ChangeShapes Go.WideShapes Go.RowKit
section
variable {H : Type} {enc : TypeId × Value → H} {P : Program} {w : World} {base : Nat} {spare : Nat → Bool} {held : Bool}
theorem At.of_cells {b o : Nat} {cs : List Value} (h0 : 0 < cs.length) (h : ∀ j (hj : j < cs.length), w.cell? ⟨b, o + j, none⟩ = some cs[j]) : At w b o cs := by
  have hb : ∃ l t fz, w.heap[b]? = some (.cells ⟨l⟩ t fz) := by
    have := h 0 h0
    unfold World.cell? at this
    split at this
    · rename_i c t fz hc; exact ⟨c.toList, t, fz, hc⟩
    · cases this
  obtain ⟨l, t, fz, hb⟩ := hb
  have hget : ∀ j (hj : j < cs.length), l[o + j]? = some cs[j] := fun j hj => by rw [← cell_of hb]; exact h j hj
  have hlen : o + cs.length ≤ l.length := by
    have := (List.getElem?_eq_some_iff.1 (hget (cs.length - 1) (by omega))).1
    omega
  refine ⟨l, t, fz, hb, hlen, ?_⟩
  apply List.ext_getElem?
  intro i
  by_cases hi : i < cs.length
  · rw [List.getElem?_take, if_pos hi, List.getElem?_drop, hget i hi]; simp [hi]
  · rw [List.getElem?_eq_none (by simp; omega), List.getElem?_eq_none (by omega)]

end
end Go.Den
end
section
/- Arguments that came in: rows of ints, rows of rows of bytes. -/
open Go Go.Den
namespace Go.Den
open Go.ChangeShapes Go.WideShapes Go.RowKit
section
variable {H : Type} {enc : TypeId × Value → H} {P : Program} {w : World} {base : Nat} {held : Bool}
def zB (zs : List Int) : List UInt8 := zs.map fun z => UInt8.ofNat z.toNat
theorem u8_of_wf {z : Int} (h : (Lit.int .u8 z).wf = true) : u8 (UInt8.ofNat z.toNat) = .int .u8 z := by
  have hb : 0 ≤ z ∧ z ≤ 255 := by simpa [Lit.wf, IntKind.min, IntKind.max, IntKind.signed, IntKind.bits] using h
  have : (UInt8.ofNat z.toNat).toNat = z.toNat := by rw [UInt8.toNat_ofNat']; omega
  unfold u8; rw [this]; congr 1; omega
theorem row_bytes {a : Addr} {zs : List Int} {l : Nat} (hl : l ≤ zs.length) (hcell : ∀ c, c < zs.length → w.cell? (a.add c) = some (.int .u8 (zs.getD c 0))) (hwf : ∀ n ∈ zs, (Lit.int .u8 n).wf = true) : Row w (some a) (u8L (zB (zs.take l))) := by
  by_cases h0 : l = 0
  · left; subst h0; simp [u8L, zB]
  · right
    obtain ⟨b, off, rfl, hcell'⟩ := Go.ints_at hcell (by omega)
    refine ⟨b, off, rfl, At.of_cells (by simp [zB]; omega) fun j hj => ?_⟩
    have hj' : j < zs.length := by simp [zB] at hj; omega
    rw [hcell' j hj']
    have e1 : zs.getD j 0 = zs[j] := by simp [hj']
    rw [e1, ← u8_of_wf (hwf _ (List.getElem_mem hj'))]
    simp [u8L, zB]

end
end Go.Den
end
section
/- Arguments that came in: a row of calls of layer 10. -/
open Go Go.Den
namespace Go.Proofs.YtocjjigmpgekfaaGreat
open Go.ChangeShapes Go.WideShapes Go.RowKit Go.Joins
section
variable {H : Type} {enc : TypeId × Value → H} {w : World} {base : Nat} {held : Bool}
theorem bytes_of_trod3 {fuel : Nat} {v : Value} {y : DataW H × List MemPlace} (h : DataW.trod enc Tryz.prog w base (fun _ => true) held fuel 36 [v] = some y) :
    ∃ a l c xs, v = .slice a l c ∧ xs.length = l ∧ Row w a (u8L xs) ∧ (a = none → l = 0 ∧ c = 0) ∧ (l ≤ Rows.uptoBulk y.1) ∧ l ≤ 9223372036854775807 := by
  rcases open_ints Tryz.underlying36 Tryz.underlying5 (by kernel_rfl) h with ⟨h1, h2⟩ | ⟨a', l', c', zs, h1, _, hlc, hm, hz, hx, hcell, hwf⟩
  · simp at h1; subst h1
    exact ⟨none, 0, 0, [], rfl, rfl, .inl rfl, fun _ => ⟨rfl, rfl⟩, Nat.zero_le _, by omega⟩
  · simp at h1; subst h1
    rw [if_pos rfl] at hz
    refine ⟨some a', l', c', zB (zs.take l'), rfl, by simp [zB]; omega, row_bytes (by omega) hcell hwf, (fun h => by cases h), ?_, by simp [maxLen] at hm; omega⟩
    rw [hx]
    have := bulks.slice_le (H := H) (lits .u8 (zs.take l')) (lits .u8 (zs.drop l'))
    simp [lits] at this ⊢
    omega
theorem list_choose3 {α β : Type} {p : β → α → Prop} : ∀ (xs : List β), (∀ x ∈ xs, ∃ y, p x y) → ∃ ys : List α, ys.length = xs.length ∧ ∀ (i : Nat) (x : β) (y : α), xs[i]? = some x → ys[i]? = some y → p x y
  | [], _ => ⟨[], rfl, fun i x y h => by simp at h⟩
  | x :: r, h => by
    obtain ⟨y, hy⟩ := h x (by simp)
    obtain ⟨ys, hl, hys⟩ := list_choose3 r fun z hz => h z (by simp [hz])
    refine ⟨y :: ys, by simp [hl], fun i a b ha hb => ?_⟩
    cases i with
    | zero => simp at ha hb; subst ha hb; exact hy
    | succ i => exact hys i a b (by simpa using ha) (by simpa using hb)

end
end Go.Proofs.YtocjjigmpgekfaaGreat
end
section
/- Arguments that came in: a row of calls of layer 11. -/
open Go Go.Den
namespace Go.Proofs.YtocjjigmpgekfaaGreat
open Go.ChangeShapes Go.WideShapes Go.RowKit Go.Joins
section
variable {H : Type} {enc : TypeId × Value → H} {w : World} {base : Nat} {held : Bool}
theorem trod_st6 {P : Program} {spare : Nat → Bool} {t : TypeId} {f0 f1 f2 f3 f4 f5 : Field} {fuel : Nat} {cs : List Value} {x : DataW H × List MemPlace} (ht : P.underlying t = some (.struct #[f0, f1, f2, f3, f4, f5])) (h : DataW.trod enc P w base spare held fuel t cs = some x) :
    ∃ y0 y1 y2 y3 y4 y5 n, x.1 = .agg [y0.1, y1.1, y2.1, y3.1, y4.1, y5.1] ∧ cs.length = P.cellsOf t ∧ DataW.trod enc P w base spare held n f0.type ((cs.drop f0.offset).take (P.cellsOf f0.type)) = some y0 ∧
      DataW.trod enc P w base spare held n f1.type ((cs.drop f1.offset).take (P.cellsOf f1.type)) = some y1 ∧ DataW.trod enc P w base spare held n f2.type ((cs.drop f2.offset).take (P.cellsOf f2.type)) = some y2 ∧
      DataW.trod enc P w base spare held n f3.type ((cs.drop f3.offset).take (P.cellsOf f3.type)) = some y3 ∧ DataW.trod enc P w base spare held n f4.type ((cs.drop f4.offset).take (P.cellsOf f4.type)) = some y4 ∧ DataW.trod enc P w base spare held n f5.type ((cs.drop f5.offset).take (P.cellsOf f5.type)) = some y5 := by
  obtain ⟨xs, n, _, rfl, hl, hlen, hf⟩ := DataW.trod_struct ht h
  match xs, hlen with
  | [y0, y1, y2, y3, y4, y5], _ => exact ⟨y0, y1, y2, y3, y4, y5, n, by simp, hl, by simpa using hf 0 f0 rfl, by simpa using hf 1 f1 rfl, by simpa using hf 2 f2 rfl, by simpa using hf 3 f3 rfl, by simpa using hf 4 f4 rfl, by simpa using hf 5 f5 rfl⟩
theorem ints_of_trod6 {fuel : Nat} {v : Value} {y : DataW H × List MemPlace} (h : DataW.trod enc Tryz.prog w base (fun _ => true) held fuel 37 [v] = some y) :
    ∃ a l c xs, v = .slice a l c ∧ xs.length = l ∧ Row w a (iL xs) ∧ (l ≤ Rows.uptoBulk y.1) ∧ l ≤ 9223372036854775807 := by
  rcases open_ints Tryz.underlying37 Tryz.underlying2 (by kernel_rfl) h with ⟨h1, h2⟩ | ⟨a', l', c', zs, h1, _, hlc, hm, hz, hx, hcell, hwf⟩
  · simp at h1; subst h1
    exact ⟨none, 0, 0, [], rfl, rfl, .inl rfl, Nat.zero_le _, by omega⟩
  · simp at h1; subst h1
    rw [if_pos rfl] at hz
    refine ⟨some a', l', c', zs.take l', rfl, by simp; omega, ?_, ?_, by simp [maxLen] at hm; omega⟩
    · by_cases h0 : l' = 0
      · left; subst h0; simp [iL]
      · right
        obtain ⟨b, off, rfl, hcell'⟩ := Go.ints_at hcell (by omega)
        refine ⟨b, off, rfl, At.of_cells (by simp; omega) fun j hj => ?_⟩
        have hj' : j < zs.length := by simp at hj; omega
        rw [hcell' j hj']
        have e1 : zs.getD j 0 = zs[j] := by simp [hj']
        rw [e1]
        simp [iL, I]
    · rw [hx]
      have := bulks.slice_le (H := H) (lits .i64 (zs.take l')) (lits .i64 (zs.drop l'))
      simp [lits] at this ⊢
      omega
end
end Go.Proofs.YtocjjigmpgekfaaGreat
end
section
/- Layer 11: both stores in memory, apart and alike; a call done to both; all that is seen of both. -/
open Go Go.Den Go.Proofs
namespace Go.Proofs.YtocjjigmpgekfaaGreat
structure T11 (w0 : World) (R R2 : Nat → Prop) (w : World) (sp d rp r : Nat) (V : Ps) (S : Rs) : Prop where
  p : Pz w0 R w sp d V
  q : Rx w0 R2 w rp r S
  dis : ∀ x, R x → ¬ R2 x
section
variable {w0 w w' : World} {R R2 : Nat → Prop} {sp d rp r : Nat} {V V' : Ps} {S S' : Rs} {K : Value → World → Prop}
theorem T11.nos (h : T11 w0 R R2 w sp d rp r V S) (m : Mod No w w') : T11 w0 R R2 w' sp d rp r V S := ⟨h.p.nos m, h.q.nos m, h.dis⟩
theorem T11.drew (h : T11 w0 R R2 w sp d rp r V S) : T11 w0 R R2 (Go.Den.drew w) sp d rp r V S := h.nos (Mod.refl No w).drew
theorem T11.keep {Z : Nat → Prop} (h : T11 w0 R R2 w sp d rp r V S) (m : Mod Z w w') (h1 : ∀ x, R x → ¬ Z x) (h2 : ∀ x, R2 x → ¬ Z x) (hw : ∀ x, x < w0.heap.size → ¬ Z x) : T11 w0 R R2 w' sp d rp r V S := ⟨h.p.keep m h1 hw, h.q.keep m h2 hw, h.dis⟩
theorem T11.stepP (h : T11 w0 R R2 w sp d rp r V S) (m : Mod R w w') (hp : Pz w0 (Gro R w w') w' sp d V') : T11 w0 (Gro R w w') R2 w' sp d rp r V' S := by
  have hq := h.q.wf.2.2.2
  have hpl := h.p.lo
  refine ⟨hp, h.q.keep m (fun x hx e => h.dis x e hx) fun x hx e => by have := (hpl x e).1; omega, fun x hx e => ?_⟩
  rcases hx with hx | hx
  · exact h.dis x hx e
  · have := hq x e; omega
theorem T11.stepQ (h : T11 w0 R R2 w sp d rp r V S) (m : Mod R2 w w') (hq : Rx w0 (Gro R2 w w') w' rp r S') : T11 w0 R (Gro R2 w w') w' sp d rp r V S' := by
  have hql := h.q.wf.2.2.2
  have hpl := h.p.lo
  refine ⟨h.p.keep m (fun x hx e => h.dis x hx e) fun x hx e => by have := (hql x e).1; omega, hq, fun x hx e => ?_⟩
  rcases e with e | e
  · exact h.dis x hx e
  · have := hpl x hx; omega
/-- What lies outside both. -/
structure Out (w0 : World) (R R2 : Nat → Prop) (w : World) (g : Nat) : Prop where
  p : ¬ R g
  q : ¬ R2 g
  lo : w0.heap.size ≤ g
  lt : g < w.heap.size
theorem Out.stepP {g : Nat} (h : Out w0 R R2 w g) (m : Mod R w w') : Out w0 (Gro R w w') R2 w' g := ⟨fun e => by
  rcases e with e | e
  · exact h.p e
  · have := h.lt; omega, h.q, h.lo, by have := m.size; have := h.lt; omega⟩
theorem Out.stepQ {g : Nat} (h : Out w0 R R2 w g) (m : Mod R2 w w') : Out w0 R (Gro R2 w w') w' g := ⟨h.p, fun e => by
  rcases e with e | e
  · exact h.q e
  · have := h.lt; omega, h.lo, by have := m.size; have := h.lt; omega⟩
theorem Out.nos {g : Nat} (h : Out w0 R R2 w g) (m : Mod No w w') : Out w0 R R2 w' g := ⟨h.p, h.q, h.lo, by have := m.size; have := h.lt; omega⟩
theorem Out.up {g : Nat} (h : Out w0 R R2 w g) (m : w.heap.size ≤ w'.heap.size) : Out w0 R R2 w' g := ⟨h.p, h.q, h.lo, by have := h.lt; omega⟩
theorem T11.fresh {g : Nat} (h : T11 w0 R R2 w sp d rp r V S) (hg : w.heap.size ≤ g) (hl : g < w'.heap.size) : Out w0 R R2 w' g :=
  ⟨fun e => by have := (h.p.lo g e).2; omega, fun e => by have := (h.q.wf.2.2.2 g e).2; omega, by have := h.p.mod.size; omega, hl⟩
/-- Bytes outside both: none, or in a block. -/
def Fz (w0 : World) (R R2 : Nat → Prop) (w : World) (a : Option Addr) (xs : List UInt8) : Prop := (a = none ∧ xs = []) ∨ ∃ g, a = some ⟨g, 0, none⟩ ∧ AtU w g 0 (u8L xs) ∧ Out w0 R R2 w g
theorem Fz.row {a : Option Addr} {xs : List UInt8} (h : Fz w0 R R2 w a xs) : Row w a (u8L xs) := by
  rcases h with ⟨_, rfl⟩ | ⟨g, e, hat, _⟩
  · exact .inl rfl
  · exact .inr ⟨_, _, e, hat.at⟩
theorem Fz.nos {a : Option Addr} {xs : List UInt8} (h : Fz w0 R R2 w a xs) (m : Mod No w w') : Fz w0 R R2 w' a xs := by
  rcases h with h | ⟨g, e, hat, ho⟩
  · exact .inl h
  · exact .inr ⟨g, e, hat.keep m id, ho.nos m⟩
theorem Fz.stepP {a : Option Addr} {xs : List UInt8} (h : Fz w0 R R2 w a xs) (m : Mod R w w') : Fz w0 (Gro R w w') R2 w' a xs := by
  rcases h with h | ⟨g, e, hat, ho⟩
  · exact .inl h
  · exact .inr ⟨g, e, hat.keep m ho.p, ho.stepP m⟩
theorem Fz.stepQ {a : Option Addr} {xs : List UInt8} (h : Fz w0 R R2 w a xs) (m : Mod R2 w w') : Fz w0 R (Gro R2 w w') w' a xs := by
  rcases h with h | ⟨g, e, hat, ho⟩
  · exact .inl h
  · exact .inr ⟨g, e, hat.keep m ho.q, ho.stepQ m⟩
theorem Fz.step {R' : Nat → Prop} {a : Option Addr} {xs : List UInt8} (h : Fz w0 R R2 w a xs) (m : Mod R w w') (hR : ∀ x, R' x → R x ∨ w.heap.size ≤ x) : Fz w0 R' R2 w' a xs := by
  rcases h with h | ⟨g, e, hat, ho⟩
  · exact .inl h
  · exact .inr ⟨g, e, hat.keep m ho.p, fun e => by
      rcases hR g e with e | e
      · exact ho.p e
      · have := ho.lt; omega, ho.q, ho.lo, by have := ho.lt; have := m.size; omega⟩
/-- How far calls may have gone. -/
structure Bd (V : Ps) (m : Nat) : Prop where
  ver : Bnd V.C.D (m + 1)
  last : V.last ≤ m
theorem Bd.pat {m : Nat} (h : Bd V m) (n f : Int) (data : Bk) (after : List Int) : Bd (patS V n f data after) (m + 1) := by
  unfold patS
  split
  · have hC : (addX V (newX V n.toNat f.toNat data after)).C = V.C := by unfold addX appO; exact newO_C.1
    refine ⟨by rw [hC]; exact h.ver.mono (by omega), ?_⟩
    show V.last + 1 ≤ m + 1
    have := h.last; omega
  · exact ⟨h.ver.mono (by omega), by have := h.last; omega⟩
theorem Bd.wr {m : Nat} (h : Bd V m) (n : Int) : Bd (wrV V n) (m + 1) := by
  refine ⟨?_, by rw [(wr_opn n).2.1]; have := h.last; omega⟩
  unfold wrV
  split
  · exact Bnd_wr h.ver _ _
  · exact h.ver.mono (by omega)
theorem Bd.fl {m : Nat} (h : Bd V m) (hl : V.C.D.left = -1) : Bd (flV V) (m + 1) := ⟨Bnd_fl hl (by omega), by show V.last ≤ m + 1; have := h.last; omega⟩
theorem Bd.up {m : Nat} (h : Bd V m) : Bd V (m + 1) := ⟨h.ver.mono (by omega), by have := h.last; omega⟩
end
end Go.Proofs.YtocjjigmpgekfaaGreat
end
section
/- The statement PatchPlays: whatever is changed, written and flushed. -/
open Go Go.Den Go.Proofs
namespace Go.Proofs.YtocjjigmpgekfaaGreat
section
variable {w0 w w' : World} {R R2 : Nat → Prop} {sp d rp r : Nat} {V V' : Ps} {S S' : Rs} {K : Value → World → Prop}
theorem Pz.disk (h : Pz w0 R w sp d V) : ∃ R4 sb mb sc L, DiskIn w R4 d sb mb sc L V.C.D ∧ Small V.C.D := by
  obtain ⟨C, eD, eM, hw, rl, c, mo, mm, ca, oa, Lo, Lm, h⟩ := h
  obtain ⟨rl2, m, sb, mb, sc, lc, la, L, mp, hC⟩ := h.cx
  have hD : Ps.C (⟨C, V.last, V.ons⟩ : Ps) = C := rfl
  have hd := hC.disk
  have hs := hC.wf.small
  rw [hD, eD] at hd hs
  exact ⟨_, sb, mb, sc, L, hd, hs⟩
theorem Rx.disk (h : Rx w0 R w rp r S) : ∃ R4 vb vc hs, RefIn w R4 r vb vc hs S.D := by
  obtain ⟨rl, vb, vc, hs, ba, bc, la, lc, H, h⟩ := h
  exact ⟨_, vb, vc, hs, h.disk⟩
theorem Rx.llast (h : Rx w0 R w rp r S) : Ru (Instr.loadAt 2 (.pointer (some (Addr.add ⟨rp, 0, none⟩ 3)))) w (.int .i64 S.last) w := by
  obtain ⟨rl, vb, vc, hs, ba, bc, la, lc, H, h⟩ := h
  exact h.llast
theorem Rel.start (k n : Nat) : Rel (zeroV k n) (newRs (newSt k)) :=
  ⟨fun _ => [], rfl, rfl, fun b hb => rfl, (fun x hx => by cases hx), fun b hb => by
    show ((List.range (newSt k).vs.length).map fun b => atD (newSt k) b)[b]? = some (atD (newSt k) b)
    have hb : b < (newSt k).vs.length := hb
    simp [hb]⟩
theorem Bd.start (k n : Nat) : Bd (zeroV k n) 0 := ⟨fun v hv => by
  have hv : v ∈ (newSt k).vs := hv
  rw [List.eq_of_mem_replicate hv]; simp, Nat.le_refl _⟩
end
end Go.Proofs.YtocjjigmpgekfaaGreat
end
section
/- Layer 12, walked: rows that are freed of doubles; the blocks of those waiting; rounds. -/
open Go Go.Den Go.Proofs
namespace Go.Den
theorem least_ex {p : Nat → Prop} (h : ∃ m, p m) : ∃ m, p m ∧ ∀ k, p k → m ≤ k := by
  obtain ⟨m, hm⟩ := h
  induction m using Nat.strongRecOn with
  | _ m ih =>
    by_cases e : ∃ k, k < m ∧ p k
    · obtain ⟨k, hk, hp⟩ := e
      exact ih k hk hp
    · exact ⟨m, hm, fun k hk => Nat.le_of_not_lt fun hl => e ⟨k, hl, hk⟩⟩
/-- A loop whose measure is known to the proof alone. -/
theorem LoopC.by {B : (List Value → World → Prop) → List Value → World → Prop} (J : Nat → List Value → World → Prop) {m : Nat} {x : List Value} {w : World} (h : J m x w)
    (hs : ∀ m x w, J m x w → B (fun x' w' => ∃ m', m' < m ∧ J m' x' w') x w) : LoopC B x w := by
  classical
  let μ : List Value → World → Nat := fun x w => if h : ∃ m, J m x w then Classical.choose (least_ex h) else 0
  have hμ : ∀ x w, (∃ m, J m x w) → J (μ x w) x w ∧ ∀ k, J k x w → μ x w ≤ k := fun x w h => by
    show J (if h : ∃ m, J m x w then Classical.choose (least_ex h) else 0) x w ∧ ∀ k, J k x w → (if h : ∃ m, J m x w then Classical.choose (least_ex h) else 0) ≤ k
    rw [dif_pos h]
    exact Classical.choose_spec (least_ex h)
  refine ⟨fun x w => ∃ m, J m x w, μ, ⟨m, h⟩, fun x w hI => ?_⟩
  have e : (fun x' w' => (∃ m, J m x' w') ∧ μ x' w' < μ x w) = fun x' w' => ∃ m', m' < μ x w ∧ J m' x' w' := by
    funext x' w'
    apply propext
    constructor
    · rintro ⟨h1, h2⟩
      exact ⟨_, h2, (hμ x' w' h1).1⟩
    · rintro ⟨m', hm, hJ⟩
      exact ⟨⟨m', hJ⟩, Nat.lt_of_le_of_lt ((hμ x' w' ⟨m', hJ⟩).2 m' hJ) hm⟩
  show B (fun x' w' => (∃ m, J m x' w') ∧ μ x' w' < μ x w) x w
  rw [e]
  exact hs _ x w (hμ x w hI).1
end Go.Den
namespace Go.Proofs.YtocjjigmpgekfaaGreat
theorem compact_mem (zs : List Int) : ∀ m, m ≤ zs.length → ∀ x, x ∈ Lib.compactUpTo zs.toArray m ↔ x ∈ zs.take m
  | 0, _, x => by simp [Lib.compactUpTo]
  | m + 1, h, x => by
    have hg : ∀ i (hi : i < zs.length), zs.toArray[i]! = zs[i] := fun i hi => by simp [hi]
    rw [Lib.compactUpTo_succ, List.mem_append, compact_mem zs m (by omega), List.take_succ_eq_append_getElem (by omega : m < zs.length), List.mem_append, List.mem_singleton]
    by_cases hk : Lib.keeps zs.toArray m = true
    · rw [if_pos hk, List.mem_singleton, hg m (by omega)]
    · rw [if_neg hk]
      have hk' : ¬ (m = 0 ∨ zs.toArray[m]! ≠ zs.toArray[m - 1]!) := fun e => hk (decide_eq_true e)
      have hm : m ≠ 0 := fun e => hk' (.inl e)
      have he : zs.toArray[m]! = zs.toArray[m - 1]! := Classical.byContradiction fun e => hk' (.inr e)
      rw [hg m (by omega), hg (m - 1) (by omega)] at he
      constructor
      · rintro (h1 | h1)
        · exact .inl h1
        · cases h1
      · rintro (h1 | h1)
        · exact .inl h1
        · left
          rw [h1, he]
          exact List.mem_take_iff_getElem.2 ⟨m - 1, by omega, rfl⟩
theorem compact_srt {zs : List Int} (hs : zs.Pairwise (· ≤ ·)) : ∀ m, m ≤ zs.length → (Lib.compactUpTo zs.toArray m).Pairwise (· < ·)
  | 0, _ => by simp [Lib.compactUpTo]
  | m + 1, h => by
    have hg : ∀ i (hi : i < zs.length), zs.toArray[i]! = zs[i] := fun i hi => by simp [hi]
    rw [Lib.compactUpTo_succ, List.pairwise_append]
    refine ⟨compact_srt hs m (by omega), by split <;> simp, fun x hx y hy => ?_⟩
    split at hy
    · rename_i hk
      rw [List.mem_singleton, hg m (by omega)] at hy
      rw [hy]
      rw [compact_mem zs m (by omega)] at hx
      obtain ⟨j, hj, e⟩ := List.mem_take_iff_getElem.1 hx
      have hk : m = 0 ∨ zs.toArray[m]! ≠ zs.toArray[m - 1]! := of_decide_eq_true hk
      have hne : zs.toArray[m]! ≠ zs.toArray[m - 1]! := hk.resolve_left (by omega)
      rw [hg m (by omega), hg (m - 1) (by omega)] at hne
      have hp := List.pairwise_iff_getElem.1 hs
      have h1 := hp (m - 1) m (by omega) (by omega) (by omega)
      by_cases hj2 : j = m - 1
      · subst hj2; omega
      · have h2 := hp j (m - 1) (by omega) (by omega) (by omega)
        omega
    · cases hy
theorem sorted_le (xs : List Int) : (sorted xs).Pairwise (· ≤ ·) := by
  have := List.pairwise_mergeSort (le := fun x y : Int => decide (x ≤ y)) (fun a b c h1 h2 => by simp only [decide_eq_true_eq] at *; omega) (fun a b => by simp only [Bool.or_eq_true, decide_eq_true_eq]; omega) xs
  exact this.imp fun h => of_decide_eq_true h
theorem sorted_mem {xs : List Int} {k : Int} : k ∈ sorted xs ↔ k ∈ xs := (List.mergeSort_perm _ _).mem_iff
theorem eq_of_lt {l r : List Int} (h1 : l.Pairwise (· < ·)) (h2 : r.Pairwise (· < ·)) (hm : ∀ x, x ∈ l ↔ x ∈ r) : l = r := by
  have hp : l.Perm r := (List.perm_ext_iff_of_nodup (nodup_of_lt h1) (nodup_of_lt h2)).2 hm
  exact hp.eq_of_pairwise (fun a b _ _ h1 h2 => by omega) h1 h2
theorem compact_sorted {xs ys : List Int} (hy : ys.Pairwise (· < ·)) (hm : ∀ k, k ∈ ys ↔ k ∈ xs) : Lib.compact (sorted xs) = ys := by
  refine eq_of_lt (compact_srt (sorted_le xs) _ (Nat.le_refl _)) hy fun k => ?_
  show k ∈ Lib.compactUpTo _ _ ↔ _
  rw [compact_mem _ _ (Nat.le_refl _), List.take_length, sorted_mem, hm]
theorem compact_len (zs : List Int) : (Lib.compact zs).length ≤ zs.length := by
  unfold Lib.compact Lib.compactUpTo
  rw [List.length_map]
  have := List.length_filter_le (Lib.keeps zs.toArray) (List.range zs.length)
  rwa [List.length_range] at this
theorem Compact_c {base l c : Nat} {a : Option Addr} {zs : List Int} {w : World} {K : Value → World → Prop} (h : Own Tryz.prog w base 49 1 a l c (iL zs))
    (hk : ∀ w', Own Tryz.prog w' base 49 1 a (Lib.compact zs).length c (iL (Lib.compact zs)) → Mod (fun x => base ≤ x) w w' → K (.slice a (Lib.compact zs).length c) w') (h63 : zs.length ≤ 9223372036854775807) :
    Cal Tryz.prog F_slices_Compact_int #[.slice a l c] w K := by
  refine ⟨⟨_, Tryz.func174, by kernel_rfl, by kernel_rfl⟩, ?_⟩
  have hlen : zs.length = l := by have := h.len; simpa using this
  have hcl := compact_len zs
  have hown := h
  obtain ⟨e, he, h1, h2⟩ := h
  rcases h2 with ⟨hv, hz⟩ | ⟨g, cap, cur, hv, hb, hg, hle, hm, hsz, ht⟩
  · subst hz
    simp at hv
    obtain ⟨rfl, rfl⟩ := hv
    have hzs : zs = [] := List.eq_nil_of_length_eq_zero hlen
    subst hzs
    refine (Tryz.slices_Compact_int_empty none 0 w).mono fun e' w' he' => ?_
    obtain ⟨rfl, rfl⟩ := he'
    have e0 : Lib.compact ([] : List Int) = [] := rfl
    rw [e0] at hk
    exact hk w' hown (Mod.refl _ _)
  · simp at hv
    obtain ⟨rfl, rfl⟩ := hv
    subst hlen
    have hmap : iL zs = zs.map (Value.int .i64) := rfl
    rw [Nat.mul_one, hmap] at ht
    have hH := holds_of_blockI hg ht
    refine (Tryz.slices_Compact_int g 0 c zs w hH h63 hle).mono fun e' w' he' => ?_
    obtain ⟨rfl, n, rfl⟩ := he'
    have eg : ∀ W : World, Go.Sort.grow W #[] = W := fun W => by unfold Go.Sort.grow; simp
    have hl2 : (Lib.compact zs ++ List.replicate (zs.length - (Lib.compact zs).length) (0 : Int)).length = zs.length := by simp; omega
    have o1 := ownsRow_sortedI (n := n) (os := #[]) (ts := Lib.compact zs ++ List.replicate (zs.length - (Lib.compact zs).length) (0 : Int)) (ss := zs) hl2 hb hg hle hm hsz
    have m1 := grownBy_sortedI (w := w) (g := g) (n := n) (os := #[]) (Lib.compact zs ++ List.replicate (zs.length - (Lib.compact zs).length) (0 : Int)).toArray
    rw [eg] at o1 m1
    have o2 : Own Tryz.prog _ base 49 1 (some ⟨g, 0, none⟩) zs.length c (iL (Lib.compact zs ++ List.replicate (zs.length - (Lib.compact zs).length) (0 : Int))) := ⟨e, he, o1⟩
    have o3 := o2.shrink hcl (by simp)
    have et : (iL (Lib.compact zs ++ List.replicate (zs.length - (Lib.compact zs).length) (0 : Int))).take (Lib.compact zs).length = iL (Lib.compact zs) := by
      unfold iL
      rw [List.map_append, List.take_append_of_le_length (by simp), List.take_of_length_le (by simp)]
    rw [et] at o3
    exact hk _ o3 ((Mod.grown m1).mono fun x _ e => by cases e; exact hb)
section
variable {w w' w0 : World} {R : Nat → Prop} {sp d : Nat} {V : Ps} {K : Value → World → Prop}
theorem snocI {base l c : Nat} {a : Option Addr} {xs : List Int} {v : Int} (h : Own Tryz.prog w base 49 1 a l c (iL xs)) (hl : l ≤ 1000000) (hb : base ≤ w.heap.size) :
    ∃ (a' : Option Addr) (c' : Nat) (w4 : World), Ru (Builtin.append_ #[49, 49] 49 #[.slice a l c, .slice (some ⟨w.heap.size, 0, none⟩) 1 1]) (w.alloc (.cells ⟨[.int .i64 v]⟩ 3)) (.slice a' (l + 1) c') w4 ∧ Own Tryz.prog w4 base 49 1 a' (l + 1) c' (iL (xs ++ [v])) ∧ Mod (fun x => base ≤ x) w w4 := by
  obtain ⟨a', c', w4, s1, s2, s3⟩ := h.snoc (ty := 49) (t := 3) (ys := [.int .i64 v]) elemZ_ints (by omega) rfl (by intro u hu; simp at hu; subst hu; rfl) (by omega) (by omega) hb
  have e : iL xs ++ [.int .i64 v] = iL (xs ++ [v]) := by unfold iL; rw [List.map_append]; rfl
  rw [e] at s2
  exact ⟨a', c', w4, s1, s2, s3⟩
theorem waits_open {n k : Int} (hs : WFS V) (ha : ∀ x ∈ V.all, ∀ k ∈ x.after, k < (x.id : Int)) (h : k ∈ waitsV V n) : ∃ x ∈ V.all, (x.id : Int) = k := by
  obtain ⟨x, hx, _, y, hy, e⟩ := (mem_waitsV hs ha).1 h
  exact ⟨y, hy.mem hx, e.symm⟩
theorem waits_len (hs : WFS V) (n : Int) : (waitsV V n).length ≤ V.all.length := by
  have h1 := cloR_sub (srtV V).reverse [n]
  have h2 := List.Nodup.length_le_of_subset (nodup_of_lt (waitsV_srt hs n)) (l₂ := V.all.map fun x => (x.id : Int)) fun k hk => by
    obtain ⟨x, hx, e⟩ := h1 k hk
    rw [List.mem_reverse, (srtV_perm V).mem_iff] at hx
    exact List.mem_map.2 ⟨x, hx, e.symm⟩
  rwa [List.length_map] at h2
theorem blocks_c {n : Int} {a1 : Option Addr} {c1 : Nat} (hP : Pz w0 R w sp d V) (hr : Row w a1 (iL (waitsV V n)))
    (hk : ∀ w' a c, Mod No w w' → Row w' a (iL (oneB n V)) → (∀ q, a = some q → w.heap.size ≤ q.block) → K (.slice a (oneB n V).length c) w') :
    Cal Tryz.prog F_push_blocks #[.pointer (some ⟨sp, 0, none⟩), .slice a1 (waitsV V n).length c1] w K := by
  obtain ⟨hs, hf, hne, hl, hD⟩ := hP.wf
  have hwl : (waitsV V n).length ≤ 1000000 := by
    have h1 := waits_len hs n
    have h2 := open_le hs
    have h3 := hs.last
    unfold openV at h2
    omega
  apply C_push_blocks
  unfold D_push_blocks
  refine ⟨fun x w1 => ∃ (a : Option Addr) (c i : Nat) (bs : List Int), x = [.slice a i c, .int .i64 i] ∧ i ≤ (waitsV V n).length ∧ bs.length = i ∧ (∀ b, b ∈ bs ↔ ∃ x ∈ V.all, (x.id : Int) ∈ (waitsV V n).take i ∧ b = (x.b : Int)) ∧ Own Tryz.prog w1 w.heap.size 49 1 a i c (iL bs) ∧ Mod No w w1, fun x _ => ((waitsV V n).length - nI x 1).toNat,
    ⟨none, 0, 0, [], rfl, by omega, rfl, fun b => by simp, Own.nil elemZ_ints, Mod.refl _ _⟩, ?_⟩
  rintro x w1 ⟨a, c, i, bs, rfl, hi, hbl, hbs, o1, m1⟩
  have z1 := hP.nos m1
  have hz1 := m1.size
  refine ⟨_, rfl, cond_of (fun hb => ?_) (fun hb => ?_)⟩
  · have hi : i < (waitsV V n).length := by have := of_decide_eq_true hb; omega
    obtain ⟨b4, o4, rfl, hat4⟩ := row_some (hr.nos m1) hi
    refine ⟨_, index_slice (k := 1) (by kernel_rfl) (by omega) (by omega), ?_⟩
    rw [add_none, show (i : Int).toNat * 1 = i by omega]
    refine ⟨_, hat4.load (by kernel_rfl) (iL_get hi), ?_⟩
    obtain ⟨y, hy, ey⟩ := waits_open hs hf (List.getElem_mem hi)
    refine qBlock_c z1 (fun ho => ?_) (fun x hx ex => ?_)
    · have := opn_not.1 ho y hy
      exact absurd ey this
    have : x = y := map_inj hs.ids hx hy (by omega)
    subst this
    obtain ⟨a', c', w4, s4, o4, m4⟩ := snocI (v := (x.b : Int)) o1 (by omega) hz1
    refine ⟨_, _, rfl, Share.dup (tt rfl ⟨_, _, _, rfl, _, _, _, _, builtI _ _, _, _, _, w4, s4, ?_⟩)⟩
    rw [wrap64 (x := (i : Int) + 1) (by omega) (by omega)]
    refine ⟨⟨a', c', i + 1, bs ++ [(x.b : Int)], rfl, by omega, by simp [hbl], fun b => ?_, o4, m1.up m4 (Nat.le_refl _)⟩, by simp [nI, nth]; omega⟩
    rw [List.mem_append, hbs, List.mem_singleton, List.take_succ_eq_append_getElem hi]
    constructor
    · rintro (⟨u, hu, h1, h2⟩ | h1)
      · exact ⟨u, hu, List.mem_append_left _ h1, h2⟩
      · exact ⟨x, hx, List.mem_append_right _ (by rw [← ex]; exact List.mem_singleton.2 rfl), h1⟩
    · rintro ⟨u, hu, h1, h2⟩
      rcases List.mem_append.1 h1 with h1 | h1
      · exact .inl ⟨u, hu, h1, h2⟩
      · right
        have : u = x := map_inj hs.ids hu hx (by have := List.mem_singleton.1 h1; omega)
        rw [h2, this]
  · have hi : i = (waitsV V n).length := by have := of_decide_eq_false hb; omega
    subst hi
    rw [List.take_length] at hbs
    refine ⟨_, _, _, rfl, Sort_c o1 (fun w2 o2 m2 => ⟨rfl, Compact_c o2 (fun w3 o3 m3 => ⟨_, _, _, rfl, ?_⟩) (by unfold sorted; rw [List.length_mergeSort]; omega)⟩) (by omega)⟩
    have e : Lib.compact (sorted bs) = oneB n V := compact_sorted (oneB_srt n V) fun k => by
      rw [hbs, mem_oneB]
      constructor
      · rintro ⟨x, hx, _, h1, h2⟩; exact ⟨x, hx, h2, h1⟩
      · rintro ⟨x, hx, h2, h1⟩
        obtain ⟨o, ho, hxo⟩ := mem_all.1 hx
        exact ⟨x, hx, by have := hs.chb o ho x hxo; have := hs.onlt o ho; omega, h1, h2⟩
    rw [e] at o3 ⊢
    exact hk w3 a c (m1.up (m2.trans m3 fun _ _ h => h) (Nat.le_refl _)) o3.rowU.row fun q hq => (o3.base hq).1
/-- The rows that a function gives, from round to round. -/
def Nexts (v : Value) (w0 : World) (sp d : Nat) (nx : Ps → List Int) (J : (Nat → Prop) → World → Prop) : Prop :=
  ∀ (R : Nat → Prop) (w : World) (V : Ps) (K : Value → World → Prop), Pz w0 R w sp d V → J R w → (∀ w' a l c, Mod No w w' → Row w' a (iL (nx V)) → l = (nx V).length → (∀ q, a = some q → w.heap.size ≤ q.block) → K (.slice a l c) w') → Dyn Tryz.prog v #[] w K
theorem fold_cnt : ∀ (ks : List Int) (W : Ps) (c : Nat), (ks.foldl stepR (W, c)).2 ≤ c + ks.length := by
  intro ks
  induction ks with
  | nil => intro W c; simp
  | cons k ks ih =>
    intro W c
    rw [List.foldl_cons]
    have e : stepR (W, c) k = if readyV W k = 0 then (W, c) else (wrV W k, c + 1) := rfl
    rw [e]
    split
    · have := ih W c; simp only [List.length_cons]; omega
    · have := ih (wrV W k) (c + 1); simp only [List.length_cons]; omega
theorem rnds_le {nx : Ps → List Int} (hg : ∀ V, Gd V → (nx V).length ≤ 4096) : ∀ {f : Nat} {V : Ps}, Gd V → (rnds nx f V).1 ≤ f * 4096
  | 0, V, _ => Nat.zero_le _
  | f + 1, V, hV => by
    by_cases hn : nx V = []
    · rw [rnds_nil hn]; exact Nat.zero_le _
    · rw [rnds_succ hn]
      have h1 := rnds_le hg (f := f) (hV.round (nx V))
      have h3 : (roundP V (nx V)).2 ≤ 0 + (nx V).length := fold_cnt (nx V) V 0
      have h4 := hg V hV
      show (roundP V (nx V)).2 + (rnds nx f (roundP V (nx V)).1).1 ≤ _
      omega
theorem ready_wr {k : Int} (hs : WFS V) (h : readyV V k ≠ 0) : wrVE V k = 0 := by
  unfold readyV at h
  split at h
  · rename_i o ho
    obtain ⟨h1, rfl⟩ := onOf_some ho
    exact wrVE_on hs h1
  · exact absurd rfl h
theorem rounds_c {v : Value} {nx : Ps → List Int} {J : (Nat → Prop) → World → Prop} (hnx : Nexts v w0 sp d nx J) (hJn : ∀ R w w', J R w → Mod No w w' → J R w') (hJs : ∀ R w w', J R w → Mod R w w' → J (Gro R w w') w')
    (hg : ∀ V, Gd V → nx V ≠ [] → openV (roundP V (nx V)).1 < openV V) (h0 : ∀ V, Gd V → openV V = 0 → nx V = []) (hlen : ∀ V, Gd V → (nx V).length ≤ 4096)
    (hP : Pz w0 R w sp d V) (hV : Gd V) (hJ : J R w) (hb : Bnd V.C.D 1000)
    (hk : ∀ w' R', Mod R w w' → (∀ x, R' x → R x ∨ w.heap.size ≤ x) → Pz w0 R' w' sp d (rnds nx (openV V) V).2 → Gd (rnds nx (openV V) V).2 → Bnd (rnds nx (openV V) V).2.C.D 1000 → K (.tuple #[.int .i64 (rnds nx (openV V) V).1, .int .i64 0]) w') :
    Cal Tryz.prog F_push_rounds #[.pointer (some ⟨sp, 0, none⟩), v] w K := by
  have hmax : (rnds nx (openV V) V).1 ≤ 4096000000 := by
    have h1 := rnds_le hlen (f := openV V) hV
    have h2 := open_le hV.s
    have h3 := hV.s.last
    have h4 : openV V ≤ 1000000 := by omega
    exact Nat.le_trans h1 (Nat.le_trans (Nat.mul_le_mul_right 4096 h4) (by decide))
  generalize hT : rnds nx (openV V) V = T at *
  apply C_push_rounds
  unfold D_push_rounds
  refine ff rfl (LoopC.by (fun m x w1 => ∃ (R1 : Nat → Prop) (W : Ps) (n : Nat) (y : Value), x = [.int .i64 n, y] ∧ m = openV W ∧ Pz w0 R1 w1 sp d W ∧ Gd W ∧ J R1 w1 ∧ Bnd W.C.D 1000 ∧ Mod R w w1 ∧ (∀ x, R1 x → R x ∨ w.heap.size ≤ x) ∧ n + (rnds nx (openV W) W).1 = T.1 ∧ (rnds nx (openV W) W).2 = T.2)
    ⟨R, V, 0, _, rfl, rfl, hP, hV, hJ, hb, Mod.refl _ _, fun x hx => .inl hx, by rw [hT]; omega, by rw [hT]⟩ ?_)
  rintro m x w1 ⟨R1, W, n, y, rfl, rfl, z1, gW, hJ1, hb1, m1, hR1, hT1, hT2⟩
  refine hnx R1 w1 W _ z1 hJ1 fun w2 a l c m2 hr2 hl2 hn2 => ⟨_, _, _, rfl, cond_of (fun hb => ?_) (fun hb => ?_)⟩
  · have hl9 : (l : Int) = 0 := by simpa using hb
    have hl0 : nx W = [] := List.eq_nil_of_length_eq_zero (by omega)
    rw [rnds_nil hl0] at hT1 hT2
    have e1 : n = T.1 := by simpa using hT1
    have e2 : W = T.2 := hT2
    subst e1 e2
    exact ⟨_, rfl, hk w2 R1 (m1.no m2) hR1 (z1.nos m2) gW hb1⟩
  have hne : nx W ≠ [] := fun e => by rw [e] at hl2; simp at hl2; subst hl2; simp at hb
  have hlW := hlen W gW
  have hlo1 := z1.lo
  have hz1 := m1.size
  have hz2 := m2.size
  rw [rnds_step Gd (fun V h hn => ⟨h.round _, hg V h hn⟩) h0 gW hne] at hT1 hT2
  dsimp only at hT1 hT2
  refine ⟨fun x w3 => ∃ (R3 : Nat → Prop) (W3 : Ps) (c3 j : Nat), x = [.int .i64 ((n + c3 : Nat) : Int), .int .i64 j] ∧ j ≤ l ∧ ((nx W).take j).foldl stepR (W, 0) = (W3, c3) ∧ Pz w0 R3 w3 sp d W3 ∧ Gd W3 ∧ J R3 w3 ∧ Bnd W3.C.D (1000 + j) ∧ Row w3 a (iL (nx W)) ∧ (∀ q, a = some q → ¬ R3 q.block) ∧ Mod R w w3 ∧ (∀ x, R3 x → R x ∨ w.heap.size ≤ x), fun x _ => (l - nI x 1).toNat,
    ⟨R1, W, 0, 0, rfl, by omega, by rw [List.take_zero]; rfl, z1.nos m2, gW, hJn _ _ _ hJ1 m2, hb1, hr2, fun q hq e => by have := hn2 q hq; have := (hlo1 _ e).2; omega, m1.no m2, hR1⟩, ?_⟩
  rintro x w3 ⟨R3, W3, c3, j, rfl, hj, hf3, z3, g3, hJ3, hb3, hr3, hn3, m3, hR3⟩
  have hc3 : c3 ≤ j := by
    have := fold_cnt ((nx W).take j) W 0
    rw [hf3, List.length_take] at this
    simp only at this
    omega
  refine ⟨_, rfl, cond_of (fun hb => ?_) (fun hb => ?_)⟩
  · have hj : j < l := by have := of_decide_eq_true hb; omega
    have hjx : j < (nx W).length := by omega
    obtain ⟨b4, o4, rfl, hat4⟩ := row_some hr3 hjx
    have hfj : ((nx W).take (j + 1)).foldl stepR (W, 0) = stepR (W3, c3) (nx W)[j] := by
      rw [List.take_succ_eq_append_getElem hjx, List.foldl_append, hf3]; rfl
    refine Share.cut (fun z w6 => ∃ (R3 : Nat → Prop) (W3 : Ps) (c3 : Nat), z = [.int .i64 ((n + c3 : Nat) : Int)] ∧ ((nx W).take (j + 1)).foldl stepR (W, 0) = (W3, c3) ∧ Pz w0 R3 w6 sp d W3 ∧ Gd W3 ∧ J R3 w6 ∧ Bnd W3.C.D (1000 + (j + 1)) ∧ Row w6 (some ⟨b4, o4, none⟩) (iL (nx W)) ∧ ¬ R3 b4 ∧ Mod R w w6 ∧ (∀ x, R3 x → R x ∨ w.heap.size ≤ x))
      ⟨_, index_slice (k := 1) (by kernel_rfl) (by omega) (by omega), ?_⟩ ?_
    · rw [add_none, show (j : Int).toNat * 1 = j by omega]
      refine ⟨_, hat4.load (by kernel_rfl) (iL_get hjx), qReady_c z3 fun w4 m4 => ⟨_, rfl, cond_of (fun hb => ?_) (fun hb => ?_)⟩⟩
      · have hr9 : (readyV W3 (nx W)[j] : Int) = 0 := by simpa using hb
        have hr0 : readyV W3 (nx W)[j] = 0 := by omega
        refine ⟨R3, W3, c3, rfl, ?_, z3.nos m4, g3, hJn _ _ _ hJ3 m4, hb3.mono (by omega), hr3.nos m4, hn3 _ rfl, m3.no m4, hR3⟩
        rw [hfj]; unfold stepR; rw [if_pos hr0]
      · have hr0 : readyV W3 (nx W)[j] ≠ 0 := fun e => by rw [e] at hb; simp at hb
        have hE := ready_wr g3.s hr0
        refine qWrite_c (n := (nx W)[j]) (z3.nos m4) (fun v hv => by have := hb3 v hv; omega) fun w5 m5 z5 => ⟨_, rfl, ff (by rw [hE]; rfl) ⟨_, rfl, ?_⟩⟩
        have hlo3 := z3.lo
        have hz3 := m3.size
        have hz4 := m4.size
        rw [wrap64 (x := ((n + c3 : Nat) : Int) + 1) (by omega) (by omega)]
        refine ⟨Gro R3 w4 w5, wrV W3 (nx W)[j], c3 + 1, by congr 2, ?_, z5, g3.wr _, hJs _ _ _ (hJn _ _ _ hJ3 m4) m5, ?_, (hr3.nos m4).keep m5 hn3, ?_, ?_, ?_⟩
        · rw [hfj]; unfold stepR; rw [if_neg hr0]
        · unfold wrV
          rw [if_pos hE]
          exact (Bnd_wr hb3 _ _).mono (by omega)
        · rintro (e | e)
          · exact hn3 _ rfl e
          · have := hat4.lt; omega
        · exact (m3.no m4).trans m5 fun x hx e => by
            rcases hR3 x e with h | h
            · exact h
            · omega
        · rintro x (e | e)
          · exact hR3 x e
          · right; omega
    rintro z w6 ⟨R6, W6, c6, rfl, hf6, z6, g6, hJ6, hb6, hr6, hn6, m6, hR6⟩
    rw [wrap64 (x := (j : Int) + 1) (by omega) (by omega)]
    exact ⟨⟨R6, W6, c6, j + 1, rfl, by omega, hf6, z6, g6, hJ6, hb6, hr6, fun q hq => by cases hq; exact hn6, m6, hR6⟩, by simp [nI, nth]; omega⟩
  · have hj : j = l := by have := of_decide_eq_false hb; omega
    subst hj
    rw [hl2, List.take_length] at hf3
    have hl3 := z3.wf.2.2.2.1
    refine qFlush_c z3 fun w7 m7 z7 => ⟨_, rfl, ff rfl ?_⟩
    have hrp : roundP W (nx W) = (flV W3, c3) := by unfold roundP; rw [hf3]
    have hless := hg W gW hne
    rw [hrp] at hT1 hT2 hless
    dsimp only at hT1 hT2 hless
    have hz3 := m3.size
    refine ⟨openV (flV W3), hless, Gro R3 w3 w7, flV W3, n + c3, _, rfl, rfl, z7, g3.fl, hJs _ _ _ hJ3 m7, Bnd_fl hl3 (by omega), ?_, ?_, by omega, hT2⟩
    · exact m3.trans m7 fun x hx e => by
        rcases hR3 x e with h | h
        · exact h
        · omega
    · rintro x (e | e)
      · exact hR3 x e
      · right; omega
end
end Go.Proofs.YtocjjigmpgekfaaGreat
end
section
/- Layer 12, walked: one change made safe, all, one step; stores that are not there. -/
open Go Go.Den Go.Proofs
namespace Go.Proofs.YtocjjigmpgekfaaGreat
section
variable {w w' w0 : World} {R : Nat → Prop} {sp d : Nat} {V : Ps} {K : Value → World → Prop}
theorem Gd.of (hP : Pz w0 R w sp d V) (h : Srt V) : Gd V := by
  obtain ⟨hs, hf, hne, hl, hD⟩ := hP.wf
  exact ⟨hs, hf, h, hne, hD.hi⟩
theorem One1_c {q2 q3 : Nat} {n : Int} (hP : Pz w0 R w sp d V) (h2 : At w q2 0 [.pointer (some ⟨sp, 0, none⟩)]) (h3 : At w q3 0 [.int .i64 n])
    (hk : ∀ w' a c, Mod No w w' → Row w' a (iL (oneB n V)) → (∀ q, a = some q → w.heap.size ≤ q.block) → K (.slice a (oneB n V).length c) w') :
    Cal Tryz.prog F_push_One_1 #[.pointer (some ⟨q2, 0, none⟩), .pointer (some ⟨q3, 0, none⟩)] w K := by
  apply C_push_One_1
  unfold D_push_One_1
  have md : Mod No w (drew w) := (Mod.refl No w).drew
  have zd := hP.nos md
  have l2 : ∀ {w2 : World}, Mod No w w2 → Ru (Instr.loadAt 30 (.pointer (some ⟨q2, 0, none⟩))) w2 (.pointer (some ⟨sp, 0, none⟩)) w2 := fun m => (h2.keep m id).load (i := 0) (by kernel_rfl) rfl
  have l3 : Ru (Instr.loadAt 2 (.pointer (some ⟨q3, 0, none⟩))) (drew w) (.int .i64 n) (drew w) := (h3.keep md id).load (i := 0) (by kernel_rfl) rfl
  refine ⟨_, l2 md, _, l2 md, _, l3, qWaits_c (n := n) zd fun w1 a c m1 o1 => ⟨_, _, _, rfl, l2 (md.no m1), ?_⟩⟩
  have M1 := md.no m1
  refine blocks_c (hP.nos M1) o1.rowU.row fun w2 a2 c2 m2 r2 h2 => ⟨_, _, _, rfl, hk w2 a2 c2 (M1.no m2) r2 fun q hq => ?_⟩
  have := h2 q hq
  have := M1.size
  omega
def oneV (n : Int) (V : Ps) : Nat × Ps := rnds (oneB n) (openV V) V
theorem One_c {n : Int} (hP : Pz w0 R w sp d V) (hV : Gd V) (hb : Bnd V.C.D 1000)
    (hk : ∀ w' R', Mod R w w' → (∀ x, R' x → R x ∨ w.heap.size ≤ x) → Pz w0 R' w' sp d (oneV n V).2 → Gd (oneV n V).2 → Bnd (oneV n V).2.C.D 1000 → K (.tuple #[.int .i64 (oneV n V).1, .int .i64 0]) w') :
    Cal Tryz.prog F_push_One #[.pointer (some ⟨sp, 0, none⟩), .int .i64 n] w K := by
  apply C_push_One
  unfold D_push_One
  have hlo := hP.lo
  refine ⟨_, _, box_store w _, ?_⟩
  have m1 : Mod No w (w.alloc (.cells ⟨[.pointer (some ⟨sp, 0, none⟩)]⟩ 30)) := (Mod.refl No w).alloc _
  have a1 : AtU (w.alloc (.cells ⟨[.pointer (some ⟨sp, 0, none⟩)]⟩ 30)) w.heap.size 0 [.pointer (some ⟨sp, 0, none⟩)] := AtU.new
  have s1 : (w.alloc (.cells ⟨[.pointer (some ⟨sp, 0, none⟩)]⟩ 30)).heap.size = w.heap.size + 1 := by simp
  generalize w.alloc (.cells ⟨[.pointer (some ⟨sp, 0, none⟩)]⟩ 30) = w1 at *
  refine ⟨_, _, box_run, ?_⟩
  have m2 : Mod No w1 (w1.alloc (.cells (Value.int .i64 n).cells 2)) := (Mod.refl No w1).alloc _
  have a2 : AtU (w1.alloc (.cells (Value.int .i64 n).cells 2)) w1.heap.size 0 [.int .i64 n] := AtU.new
  generalize w1.alloc (.cells (Value.int .i64 n).cells 2) = w2 at *
  have M2 := m1.no m2
  have a1' := a1.keep m2 id
  refine ⟨_, a1'.at.load (i := 0) (by kernel_rfl) rfl, ?_⟩
  have hz2 := M2.size
  refine rounds_c (nx := oneB n) (J := fun R u => Kp R u w.heap.size [.pointer (some ⟨sp, 0, none⟩)] ∧ Kp R u w1.heap.size [.int .i64 n]) ?_ (fun R u u' h m => ⟨h.1.nos m, h.2.nos m⟩) (fun R u u' h m => ⟨h.1.step m, h.2.step m⟩) (fun V h hn => one_fewer h n hn) (fun V _ h => open0_one n h) (fun V h => h.one n) (hP.nos M2) hV
    ⟨⟨a1', fun e => by have := (hlo _ e).2; omega⟩, ⟨a2, fun e => by have := (hlo _ e).2; omega⟩⟩ hb fun w3 R' m3 hR3 z3 g3 b3 => ⟨_, _, rfl, hk w3 R' ?_ ?_ z3 g3 b3⟩
  · intro R4 w4 V4 K4 z4 h4 hk4
    exact ⟨_, _, _, rfl, One1_c z4 h4.1.at_.at h4.2.at_.at fun w' a c m r hn => hk4 w' a _ c m r rfl hn⟩
  · exact (M2.mono fun _ _ h => h.elim).trans m3 fun _ _ h => h
  · intro x hx
    rcases hR3 x hx with h | h
    · exact .inl h
    · right; omega
end
end Go.Proofs.YtocjjigmpgekfaaGreat
end
section
/- Layer 12, the program's acts that wait: in memory, and each call. -/
open Go Go.Den Go.Proofs
namespace Go.Den
section
variable {P : Program} {w w' : World}
theorem flat_len' {α : Type} {f : α → List Value} {k : Nat} (h : ∀ x, (f x).length = k) : ∀ L : List α, (L.map f).flatten.length = L.length * k
  | [] => by simp
  | x :: r => by rw [List.map_cons, List.flatten_cons, List.length_append, h, flat_len' h r, List.length_cons, Nat.add_mul]; omega
theorem flat_drop {α : Type} {f : α → List Value} {k : Nat} (h : ∀ x, (f x).length = k) : ∀ {L : List α} {i : Nat} {x : α}, L[i]? = some x → ((L.map f).flatten.drop (i * k)).take k = f x
  | [], _, _, e => by simp at e
  | y :: r, 0, x, e => by
    have e : y = x := by simpa using e
    subst e
    rw [List.map_cons, List.flatten_cons, Nat.zero_mul, List.drop_zero, List.take_append_of_le_length (by rw [h]; omega), List.take_of_length_le (by rw [h]; omega)]
  | y :: r, i + 1, x, e => by
    rw [List.getElem?_cons_succ] at e
    rw [List.map_cons, List.flatten_cons, show (i + 1) * k = (f y).length + i * k by rw [h, Nat.add_mul]; omega, List.drop_append, List.drop_eq_nil_of_le (by omega), List.nil_append, show (f y).length + i * k - (f y).length = i * k by omega]
    exact flat_drop h e
theorem flat_cell {α : Type} {f : α → List Value} {k : Nat} (h : ∀ x, (f x).length = k) {L : List α} {i j : Nat} {x : α} {v : Value} (hx : L[i]? = some x) (hj : (f x)[j]? = some v) : (L.map f).flatten[i * k + j]? = some v := by
  have h1 := flat_drop h hx
  have hl : j < k := by have := (List.getElem?_eq_some_iff.1 hj).1; rwa [h] at this
  rw [← h1, List.getElem?_take_of_lt hl, List.getElem?_drop] at hj
  exact hj
end
end Go.Den
namespace Go.Proofs.YtocjjigmpgekfaaGreat
section
variable {w w' : World}
/-- append of one element that was built just now. -/
theorem snocG {T Te : TypeId} {base k bytes l c : Nat} {a : Option Addr} {xs ys : List Value} (hT : elemG Tryz.prog T k bytes) (hk : 0 < k) (h : Own Tryz.prog w base T k a l c xs) (hl : ys.length = k) (h1 : ∀ v ∈ ys, v.oneCell' = true)
    (h63 : (l + 1) * bytes ≤ 140737488355328) (hb : 0 < bytes) (hbase : base ≤ w.heap.size) :
    ∃ q c' w', Ru (Builtin.append_ #[T, T] T #[.slice a l c, .slice (some ⟨w.heap.size, 0, none⟩) 1 1]) (w.alloc (.cells ⟨ys⟩ Te)) (.slice (some q) (l + 1) c') w' ∧ Own Tryz.prog w' base T k (some q) (l + 1) c' (xs ++ ys) ∧ Mod (Of a) w w' ∧ ((∃ q', a = some q' ∧ q.block = q'.block) ∨ w.heap.size ≤ q.block) := by
  have m1 : Mod No w (w.alloc (.cells ⟨ys⟩ Te)) := (Mod.refl No w).alloc _
  have r1 : Row (w.alloc (.cells ⟨ys⟩ Te)) (some ⟨w.heap.size, 0, none⟩) ys := .inr ⟨_, _, rfl, AtU.new.at⟩
  have s1 : (w.alloc (.cells ⟨ys⟩ Te)).heap.size = w.heap.size + 1 := by simp
  obtain ⟨q, c', w2, run, p, mm, hq⟩ := (h.nos m1).appG (ty := T) (m := 1) (c2 := 1) hT hk r1 (by omega) (by omega) h1 h63 hb (by omega)
  refine ⟨q, c', w2, run, p, (m1.mono fun _ _ h => h.elim).trans mm fun x _ e => e, ?_⟩
  rcases hq with hq | hq
  · exact .inl hq
  · exact .inr (by omega)
end
abbrev Wt := Int × Int × Int
def wtV (x : Wt) : List Value := [.int .i64 x.1, .int .i64 x.2.1, .int .i64 x.2.2]
def acV (x : Int × Int) : List Value := [.int .i64 x.1, .int .i64 x.2]
theorem wtV_len (x : Wt) : (wtV x).length = 3 := rfl
theorem acV_len (x : Int × Int) : (acV x).length = 2 := rfl
theorem wtV_one (x : Wt) : ∀ v ∈ wtV x, v.oneCell' = true := by intro v hv; simp [wtV] at hv; rcases hv with rfl | rfl | rfl <;> rfl
theorem acV_one (x : Int × Int) : ∀ v ∈ acV x, v.oneCell' = true := by intro v hv; simp [acV] at hv; rcases hv with rfl | rfl <;> rfl
def rowW (L : List Wt) : List Value := (L.map wtV).flatten
def rowC (L : List (Int × Int)) : List Value := (L.map acV).flatten
theorem rowW_snoc (L : List Wt) (x : Wt) : rowW (L ++ [x]) = rowW L ++ wtV x := by simp [rowW]
theorem rowC_snoc (L : List (Int × Int)) (x : Int × Int) : rowC (L ++ [x]) = rowC L ++ acV x := by simp [rowC]
theorem elemG_waits : elemG Tryz.prog 168 3 24 := elemG_of (by kernel_rfl)
theorem elemG_acts : elemG Tryz.prog 77 2 16 := elemG_of (by kernel_rfl)
theorem elemN_waits : elemN Tryz.prog 168 = some 3 := by kernel_rfl
theorem agg_wait : aggN Tryz.prog 174 = some 3 := by kernel_rfl
theorem agg_pact : aggN Tryz.prog 71 = some 2 := by kernel_rfl
theorem build_wait (w : World) (n k m : Int) : (Instr.build 174 #[(0, .int .i64 n), (1, .agg ⟨[.int .i64 k, .int .i64 m]⟩)]).run Tryz.prog w = .ok (.agg ⟨[.int .i64 n, .int .i64 k, .int .i64 m]⟩) w := by kernel_rfl
theorem built_wait (w : World) (x : Wt) : (Instr.buildSlice 168 1 #[(0, .agg ⟨wtV x⟩)]).run Tryz.prog w = .ok (.slice (some ⟨w.heap.size, 0, none⟩) 1 1) (w.alloc (.cells ⟨wtV x⟩ 174)) := by kernel_rfl
theorem built_act (w : World) (x : Int × Int) : (Instr.buildSlice 77 1 #[(0, .agg ⟨acV x⟩)]).run Tryz.prog w = .ok (.slice (some ⟨w.heap.size, 0, none⟩) 1 1) (w.alloc (.cells ⟨acV x⟩ 71)) := by kernel_rfl
theorem alloc_wait (w : World) : (Instr.alloc 174 true (.tuple #[])).run Tryz.prog w = .ok (.pointer (some ⟨w.heap.size, 0, none⟩)) (w.alloc (.cells ⟨[.int .i64 0, .int .i64 0, .int .i64 0]⟩ 174)) := by kernel_rfl
/-- What waits, in memory: a row of waits, of a type of its own. -/
structure WkIn (T : TypeId) (Z : Nat → Prop) (w : World) (q : Nat) (L : List Wt) (la : Option Addr) (lc : Nat) : Prop where
  cell : AtU w q 0 [.slice la L.length lc]
  row : Own Tryz.prog w 0 T 3 la L.length lc (rowW L)
  nq : ∀ a, la = some a → a.block ≠ q ∧ ¬ Z a.block
  nz : ¬ Z q
def Wk (T : TypeId) (Z : Nat → Prop) (w : World) (q : Nat) (L : List Wt) : Prop := ∃ la lc, WkIn T Z w q L la lc
section
variable {w w' w0 : World} {R : Nat → Prop} {sp d : Nat} {V : Ps} {K : Value → World → Prop} {T : TypeId} {Z Z' : Nat → Prop} {q lc : Nat} {L : List Wt} {la : Option Addr}
theorem WkIn.keep {S : Nat → Prop} (h : WkIn T Z w q L la lc) (m : Mod S w w') (hS : ∀ x, S x → Z x) (hZ : ∀ x, x < w.heap.size → Z' x → Z x) : WkIn T Z' w' q L la lc where
  cell := h.cell.keep m fun e => h.nz (hS _ e)
  row := h.row.keep m fun a ha e => (h.nq a ha).2 (hS _ e)
  nq a ha := ⟨(h.nq a ha).1, fun e => (h.nq a ha).2 (hZ _ (h.row.base ha).2 e)⟩
  nz e := h.nz (hZ _ h.cell.lt e)
theorem Wk.keep {S : Nat → Prop} (h : Wk T Z w q L) (m : Mod S w w') (hS : ∀ x, S x → Z x) (hZ : ∀ x, x < w.heap.size → Z' x → Z x) : Wk T Z' w' q L := by
  obtain ⟨la, lc, h⟩ := h; exact ⟨la, lc, h.keep m hS hZ⟩
theorem WkIn.nos (h : WkIn T Z w q L la lc) (m : Mod No w w') : WkIn T Z w' q L la lc := h.keep m (fun _ h => h.elim) fun _ _ h => h
theorem Wk.nos (h : Wk T Z w q L) (m : Mod No w w') : Wk T Z w' q L := by obtain ⟨la, lc, h⟩ := h; exact ⟨la, lc, h.nos m⟩
theorem WkIn.ld (h : WkIn T Z w q L la lc) (hT : scal Tryz.prog T = true) : Ru (Instr.loadAt T (.pointer (some (Addr.add ⟨q, 0, none⟩ 0)))) w (.slice la L.length lc) w := by
  rw [add_none]; exact h.cell.at.load (i := 0) hT rfl
/-- One more waits: the row anew. -/
theorem WkIn.add {Te : TypeId} {x : Wt} (h : WkIn T Z w q L la lc) (hT : elemG Tryz.prog T 3 24) (hs : scal Tryz.prog T = true) (hn : L.length ≤ 5000) (hZ : ∀ x, Z x → x < w.heap.size) :
    ∃ c' w4 w5, Ru (Builtin.append_ #[T, T] T #[.slice la L.length L.length, .slice (some ⟨w.heap.size, 0, none⟩) 1 1]) (w.alloc (.cells ⟨wtV x⟩ Te)) (.slice (some ⟨w.heap.size + 1, 0, none⟩) (L.length + 1) c') w4 ∧
      RuU (Instr.storeAt T (.pointer (some (Addr.add ⟨q, 0, none⟩ 0))) (.slice (some ⟨w.heap.size + 1, 0, none⟩) (L.length + 1) c')) w4 w5 ∧ WkIn T Z w5 q (L ++ [x]) (some ⟨w.heap.size + 1, 0, none⟩) c' ∧ Mod (fun z => z = q) w w5 := by
  have m1 : Mod No w (w.alloc (.cells ⟨wtV x⟩ Te)) := (Mod.refl No w).alloc _
  have r1 : Row (w.alloc (.cells ⟨wtV x⟩ Te)) (some ⟨w.heap.size, 0, none⟩) (wtV x) := .inr ⟨_, _, rfl, AtU.new.at⟩
  have s1 : (w.alloc (.cells ⟨wtV x⟩ Te)).heap.size = w.heap.size + 1 := by simp
  generalize w.alloc (.cells ⟨wtV x⟩ Te) = w1 at *
  have hqw := h.cell.lt
  obtain ⟨c', w4, run, p, m4, z4⟩ := (h.row.nos m1).full (ty := T) (c2 := 1) hT r1 rfl (by omega) (by omega) (by omega)
  rw [s1] at run p z4
  obtain ⟨w5, u1, u2, u3, u4⟩ := ((h.cell.keep m1 id).keep m4 id).store (P := Tryz.prog) (T := T) (i := 0) (v := .slice (some ⟨w.heap.size + 1, 0, none⟩) (L.length + 1) c') hs (by simp) rfl
  refine ⟨c', w4, w5, run, by rw [add_none]; exact u1, ⟨?_, ?_, ?_, h.nz⟩, ((m1.no m4).mono fun _ _ h => h.elim).trans u3 fun _ _ e => e⟩
  · have : (L ++ [x]).length = L.length + 1 := by simp
    rw [this]; exact u2
  · rw [rowW_snoc, show (L ++ [x]).length = L.length + 1 by simp]
    exact p.keep u3 fun a ha e => by cases ha; have e : w.heap.size + 1 = q := e; omega
  · intro a ha; cases ha
    exact ⟨by show w.heap.size + 1 ≠ q; omega, fun e => by have := hZ _ e; simp only at this; omega⟩
def laterE (L : List Wt) (k : Int) : Int := if k < 1 ∨ 3 < k then 1 else if 4096 ≤ L.length then 5 else 0
def laterL (L : List Wt) (x : Wt) : List Wt := if laterE L x.2.1 = 0 then L ++ [x] else L
theorem kLater_c {n k m : Int} (h : Wk 168 Z w q L) (hn : L.length ≤ 5000) (hZ : ∀ x, Z x → x < w.heap.size)
    (hk : ∀ w', Mod (fun z => z = q) w w' → Wk 168 Z w' q (laterL L (n, k, m)) → K (.int .i64 (laterE L k)) w') :
    Cal Tryz.prog F_push_Work_Later #[.pointer (some ⟨q, 0, none⟩), .int .i64 n, .agg ⟨acV (k, m)⟩] w K := by
  apply C_push_Work_Later
  unfold D_push_Work_Later
  obtain ⟨la, lc, h⟩ := h
  refine ⟨_, _, box_run, ?_⟩
  have m1 : Mod No w (w.alloc (.cells (Value.agg ⟨acV (k, m)⟩).cells 71)) := (Mod.refl No w).alloc _
  have a1 : AtU (w.alloc (.cells (Value.agg ⟨acV (k, m)⟩).cells 71)) w.heap.size 0 (acV (k, m)) := AtU.new
  generalize w.alloc (.cells (Value.agg ⟨acV (k, m)⟩).cells 71) = w1 at *
  have hz1 := m1.size
  have h1 := h.nos m1
  have l0 : Ru (Instr.loadAt 3 (.pointer (some (Addr.add ⟨w.heap.size, 0, none⟩ 0)))) w1 (.int .i64 k) w1 := by rw [add_none]; exact a1.at.load (i := 0) (by kernel_rfl) rfl
  refine ff rfl (Share.cut (fun z w2 => w1 = w2 ∧ z = [.bool (decide (k < 1 ∨ 3 < k))]) ⟨_, l0, cond_of (fun hb => ⟨rfl, ?_⟩) (fun hb => ⟨_, l0, rfl, ?_⟩)⟩ ?_)
  · have := of_decide_eq_true hb
    rw [decide_eq_true (Or.inl this)]
  · have := of_decide_eq_false hb
    exact bcell (by omega)
  rintro z w2 ⟨rfl, rfl⟩
  have ms : ∀ {w2 : World}, Mod No w1 w2 → Mod (fun z => z = q) w w2 := fun mm => (m1.no mm).mono fun _ _ h => h.elim
  refine ⟨_, rfl, cond_of (fun hb => ?_) (fun hb => ⟨_, rfl, _, _, _, h1.ld (by kernel_rfl), cond_of (fun hb2 => ?_) (fun hb2 => ?_)⟩)⟩
  · have hb := of_decide_eq_true hb
    have e : laterE L k = 1 := if_pos hb
    have := hk w1 (ms (Mod.refl _ _)) ⟨la, lc, by unfold laterL; rw [if_neg (by show ¬ laterE L k = 0; rw [e]; omega)]; exact h1⟩
    rwa [e] at this
  · have hb := of_decide_eq_false hb
    have hb2 := of_decide_eq_true hb2
    have e : laterE L k = 5 := by unfold laterE; rw [if_neg hb, if_pos (by omega)]
    have := hk w1 (ms (Mod.refl _ _)) ⟨la, lc, by unfold laterL; rw [if_neg (by show ¬ laterE L k = 0; rw [e]; omega)]; exact h1⟩
    rwa [e] at this
  · have hb := of_decide_eq_false hb
    have hb2 := of_decide_eq_false hb2
    have e : laterE L k = 0 := by unfold laterE; rw [if_neg hb, if_neg (by omega)]
    have md : Mod No w1 (drew w1) := (Mod.refl No w1).drew
    have hd := h1.nos md
    have ld := hd.ld (by kernel_rfl)
    have la0 : Ru (Instr.loadAt 71 (.pointer (some ⟨w.heap.size, 0, none⟩))) (drew w1) (.agg ⟨acV (k, m)⟩) (drew w1) := (a1.keep md id).at.loadAgg (i := 0) agg_pact (by rw [acV_len]; omega)
    refine ⟨_, rfl, _, _, _, ld, _, rfl, _, _, _, ld, _, rfl, _, _, _, ld, _, _, _, fun w' => hd.row.cut3 elemN_waits w', _, la0, _, fun w => build_wait w _ _ _, _, _, _, _, built_wait _ (n, k, m), ?_⟩
    have hZ1 : ∀ x, Z x → x < (drew w1).heap.size := fun x hx => by have := hZ x hx; have := md.size; omega
    obtain ⟨c', w4, w5, run, sto, h5, m5⟩ := hd.add (Te := 174) (x := (n, k, m)) elemG_waits (by kernel_rfl) hn hZ1
    have ma : Mod No (drew w1) ((drew w1).alloc (.cells ⟨wtV (n, k, m)⟩ 174)) := (Mod.refl No _).alloc _
    have la1 := (hd.nos ma).ld (by kernel_rfl)
    refine ⟨la1, la1, la1, _, _, _, w4, run, _, rfl, w5, sto, ?_⟩
    have := hk w5 (((m1.no md).mono fun _ _ h => h.elim).trans m5 fun _ _ e => e) ⟨_, c', by unfold laterL; rw [if_pos (show laterE L k = 0 from e)]; exact h5⟩
    rwa [e] at this
theorem kLen_c (h : Wk 168 Z w q L) (hk : K (.int .i64 L.length) w) : Cal Tryz.prog F_push_Work_Len #[.pointer (some ⟨q, 0, none⟩)] w K := by
  apply C_push_Work_Len
  unfold D_push_Work_Len
  obtain ⟨la, lc, h⟩ := h
  exact ff rfl ⟨_, rfl, _, _, _, h.ld (by kernel_rfl), hk⟩
/-- One element of the row. -/
theorem WkIn.at {Te : TypeId} {i : Nat} {x : Wt} (h : WkIn T Z w q L la lc) (hT : elemN Tryz.prog T = some 3) (hE : aggN Tryz.prog Te = some 3) (hn : L.length ≤ 5000) (hx : L[i]? = some x) : ∃ g, la = some ⟨g, 0, none⟩ ∧ Al (Instr.indexAt T (.slice la L.length lc) (.int .i64 i)) (.pointer (some ⟨g, i * 3, none⟩)) ∧
    Ru (Instr.loadAt Te (.pointer (some ⟨g, i * 3, none⟩))) w (.agg ⟨wtV x⟩) w ∧ (∀ (w' : World) (Ta : TypeId), Mod No w w' → aggN Tryz.prog Ta = some 2 → Ru (Instr.loadAt Ta (.pointer (some (Addr.add ⟨g, i * 3, none⟩ 1)))) w' (.agg ⟨acV x.2⟩) w') ∧
    ∀ (w' : World) (Ti : TypeId), Mod No w w' → scal Tryz.prog Ti = true → Ru (Instr.loadAt Ti (.pointer (some (Addr.add ⟨g, i * 3, none⟩ 0)))) w' (.int .i64 x.1) w' := by
  have hi := (List.getElem?_eq_some_iff.1 hx).1
  obtain ⟨g, rfl, hg, hat⟩ := h.row.sm (by omega)
  have hlen : (rowW L).length = L.length * 3 := flat_len' wtV_len L
  refine ⟨g, rfl, fun w' => ?_, ?_, fun w' Ta m hTa => ?_, fun w' Ti m hTi => ?_⟩
  · have := index_slice (P := Tryz.prog) (T := T) (k := 3) (a := ⟨g, 0, none⟩) (n := L.length) (c := lc) (kk := .i64) (i := i) hT (by omega) (by omega) w'
    rw [add_none, show 0 + (i : Int).toNat * 3 = i * 3 by omega] at this
    exact this
  · have := hat.at.loadAgg (P := Tryz.prog) (T := Te) (i := i * 3) hE (by rw [hlen]; omega)
    rw [show ((rowW L).drop (i * 3)).take 3 = wtV x from flat_drop wtV_len hx, Nat.zero_add] at this
    exact this
  · rw [add_none]
    have := (hat.keep m id).at.loadAgg (P := Tryz.prog) (T := Ta) (i := i * 3 + 1) hTa (by rw [hlen]; omega)
    rw [Nat.zero_add] at this
    have e : ((rowW L).drop (i * 3 + 1)).take 2 = acV x.2 := by
      have h1 : ((rowW L).drop (i * 3)).take 3 = wtV x := flat_drop wtV_len hx
      have h2 : ((rowW L).drop (i * 3 + 1)).take 2 = (((rowW L).drop (i * 3)).take 3).drop 1 := by
        rw [List.drop_take, List.drop_drop]
      rw [h2, h1]; rfl
    rw [e] at this
    exact this
  · rw [add_none]
    have := (hat.keep m id).at.load (P := Tryz.prog) (T := Ti) (i := i * 3 + 0) hTi (v := .int .i64 x.1) (flat_cell wtV_len hx rfl)
    rw [Nat.zero_add] at this
    exact this
def ripeP (V : Ps) (x : Wt) : Bool := decide (x.1 < 1) || safeV V x.1
theorem kRipe_c (hP : Pz w0 R w sp d V) (h : Wk 168 Z w q L) (hn : L.length ≤ 5000) (hZ : ∀ x, Z x → x < w.heap.size)
    (hk : ∀ w' a c, Mod (fun z => z = q) w w' → Wk 168 Z w' q (L.filter fun x => !ripeP V x) → Own Tryz.prog w' w.heap.size 77 2 a (L.filter (ripeP V)).length c (rowC ((L.filter (ripeP V)).map (·.2))) →
      K (.slice a (L.filter (ripeP V)).length c) w') :
    Cal Tryz.prog F_push_Work_Ripe #[.pointer (some ⟨q, 0, none⟩), .pointer (some ⟨sp, 0, none⟩)] w K := by
  apply C_push_Work_Ripe
  unfold D_push_Work_Ripe
  obtain ⟨la, lc, h⟩ := h
  refine ff rfl ⟨_, rfl, _, _, _, h.ld (by kernel_rfl), ?_⟩
  refine ⟨fun x w1 => ∃ (i : Nat) (a5 a6 : Option Addr) (c5 c6 : Nat) (y : Value), x = [.slice a5 ((L.take i).filter (ripeP V)).length c5, .slice a6 ((L.take i).filter fun x => !ripeP V x).length c6, .int .i64 i, y] ∧ i ≤ L.length ∧
      Own Tryz.prog w1 w.heap.size 77 2 a5 ((L.take i).filter (ripeP V)).length c5 (rowC (((L.take i).filter (ripeP V)).map (·.2))) ∧ Own Tryz.prog w1 w.heap.size 168 3 a6 ((L.take i).filter fun x => !ripeP V x).length c6 (rowW ((L.take i).filter fun x => !ripeP V x)) ∧
      (∀ q q', a5 = some q → a6 = some q' → q.block ≠ q'.block) ∧ Mod No w w1, fun x _ => (L.length - nI x 2).toNat,
    ⟨0, none, none, 0, 0, _, rfl, by omega, Own.nilG elemG_acts, Own.nilG elemG_waits, (fun _ _ e => by cases e), Mod.refl _ _⟩, ?_⟩
  rintro x w1 ⟨i, a5, a6, c5, c6, y, rfl, hi, o5, o6, h56, m1⟩
  have h1 := h.nos m1
  have hz1 := m1.size
  refine ⟨_, rfl, cond_of (fun hb => ?_) (fun hb => ?_)⟩
  · have hi : i < L.length := by have := of_decide_eq_true hb; omega
    have hx : L[i]? = some L[i] := List.getElem?_eq_getElem hi
    have htk := List.take_succ_eq_append_getElem hi
    obtain ⟨g, rfl, hix, hag, _, _⟩ := h1.at (Te := 174) elemN_waits agg_wait hn hx
    generalize L[i] = x at *
    have hst : RuU (Instr.storeAt 174 (.pointer (some ⟨w1.heap.size, 0, none⟩)) (.agg ⟨wtV x⟩)) (w1.alloc (.cells ⟨[.int .i64 0, .int .i64 0, .int .i64 0]⟩ 174)) (w1.alloc (.cells ⟨wtV x⟩ 174)) := store_new agg_wait rfl rfl (wtV_one x)
    refine Share.cut (fun z w10 => ∃ (a5 a6 : Option Addr) (c5 c6 : Nat) (y : Value), z = [.slice a5 ((L.take (i + 1)).filter (ripeP V)).length c5, .slice a6 ((L.take (i + 1)).filter fun x => !ripeP V x).length c6, y] ∧
      Own Tryz.prog w10 w.heap.size 77 2 a5 ((L.take (i + 1)).filter (ripeP V)).length c5 (rowC (((L.take (i + 1)).filter (ripeP V)).map (·.2))) ∧ Own Tryz.prog w10 w.heap.size 168 3 a6 ((L.take (i + 1)).filter fun x => !ripeP V x).length c6 (rowW ((L.take (i + 1)).filter fun x => !ripeP V x)) ∧
      (∀ q q', a5 = some q → a6 = some q' → q.block ≠ q'.block) ∧ Mod No w w10) ⟨_, hix, _, hag, _, _, alloc_wait _, _, hst, ?_⟩ ?_
    · have m3 : Mod No w1 (w1.alloc (.cells ⟨wtV x⟩ 174)) := (Mod.refl No w1).alloc _
      have a3 : AtU (w1.alloc (.cells ⟨wtV x⟩ 174)) w1.heap.size 0 (wtV x) := AtU.new
      generalize w1.alloc (.cells ⟨wtV x⟩ 174) = w3 at *
      have l3 : Ru (Instr.loadAt 2 (.pointer (some (Addr.add ⟨w1.heap.size, 0, none⟩ 0)))) w3 (.int .i64 x.1) w3 := by rw [add_none]; exact a3.at.load (i := 0) (by kernel_rfl) rfl
      have M3 := m1.no m3
      have hz3 := M3.size
      refine Share.cut (fun z w5 => w3 = w5 ∧ z = [.bool (ripeP V x)]) ⟨_, l3, cond_of (fun hb2 => ⟨rfl, ?_⟩) (fun hb2 => ⟨_, l3, qSafe_c (hP.nos M3) ⟨_, rfl, rfl, ?_⟩⟩)⟩ ?_
      · unfold ripeP; rw [hb2]; rfl
      · unfold ripeP; rw [hb2]; rfl
      rintro z w5 ⟨rfl, rfl⟩
      have o5' := o5.nos m3
      have o6' := o6.nos m3
      refine ⟨_, rfl, cond_of (fun hb2 => ?_) (fun hb2 => ?_)⟩
      · have e1 : (L.take (i + 1)).filter (ripeP V) = (L.take i).filter (ripeP V) ++ [x] := by rw [htk, List.filter_append]; simp [hb2]
        have e2 : (L.take (i + 1)).filter (fun x => !ripeP V x) = (L.take i).filter fun x => !ripeP V x := by rw [htk, List.filter_append]; simp [hb2]
        have hfl := List.length_filter_le (ripeP V) (L.take i)
        rw [List.length_take] at hfl
        have la1 : Ru (Instr.loadAt 71 (.pointer (some (Addr.add ⟨w1.heap.size, 0, none⟩ 1)))) w3 (.agg ⟨acV x.2⟩) w3 := by
          rw [add_none]; exact a3.at.loadAgg (i := 1) agg_pact (by rw [wtV_len]; omega)
        obtain ⟨q2, c', w7, run, p, mm, hq2⟩ := snocG (Te := 71) (ys := acV x.2) elemG_acts (by omega) o5' rfl (acV_one _) (by omega) (by omega) (by omega)
        refine ⟨_, _, _, rfl, _, la1, _, _, _, _, built_act _ _, _, _, _, w7, run, some q2, a6, c', c6, .bool (ripeP V x), (by rw [e1, e2, List.length_append]; rfl), ?_, ?_, ?_, ?_⟩
        · rw [e1]
          have : rowC (((L.take i).filter (ripeP V) ++ [x]).map (·.2)) = rowC (((L.take i).filter (ripeP V)).map (·.2)) ++ acV x.2 := by rw [List.map_append]; exact rowC_snoc _ _
          rw [this, show ((L.take i).filter (ripeP V) ++ [x]).length = ((L.take i).filter (ripeP V)).length + 1 by simp]
          exact p
        · rw [e2]
          exact o6'.keep mm fun q' hq' ⟨q5, e5, e⟩ => h56 q5 q' e5 hq' e.symm
        · intro q' q6 e' e6 e
          cases e'
          rcases hq2 with ⟨q5, e5, e7⟩ | e7
          · exact h56 q5 q6 e5 e6 (by rw [← e7]; exact e)
          · have := (o6'.base e6).2; omega
        · exact M3.trans mm fun z hz ⟨q5, e5, e⟩ => by have := (o5.base e5).1; omega
      · have e1 : (L.take (i + 1)).filter (ripeP V) = (L.take i).filter (ripeP V) := by rw [htk, List.filter_append]; simp [hb2]
        have e2 : (L.take (i + 1)).filter (fun x => !ripeP V x) = ((L.take i).filter fun x => !ripeP V x) ++ [x] := by rw [htk, List.filter_append]; simp [hb2]
        have hfl := List.length_filter_le (fun x => !ripeP V x) (L.take i)
        rw [List.length_take] at hfl
        have la1 : Ru (Instr.loadAt 174 (.pointer (some ⟨w1.heap.size, 0, none⟩))) w3 (.agg ⟨wtV x⟩) w3 := a3.at.loadAgg (i := 0) agg_wait (by rw [wtV_len]; omega)
        obtain ⟨q2, c', w7, run, p, mm, hq2⟩ := snocG (Te := 174) (ys := wtV x) elemG_waits (by omega) o6' rfl (wtV_one _) (by omega) (by omega) (by omega)
        refine ⟨_, _, _, rfl, _, la1, _, _, _, _, built_wait _ _, _, _, _, w7, run, a5, some q2, c5, c', .bool (ripeP V x), (by rw [e1, e2, List.length_append]; rfl), ?_, ?_, ?_, ?_⟩
        · rw [e1]
          exact o5'.keep mm fun q' hq' ⟨q5, e5, e⟩ => h56 q' q5 hq' e5 e
        · rw [e2, rowW_snoc, show (((L.take i).filter fun x => !ripeP V x) ++ [x]).length = ((L.take i).filter fun x => !ripeP V x).length + 1 by simp]
          exact p
        · intro q5 q' e5 e' e
          cases e'
          rcases hq2 with ⟨q6, e6, e7⟩ | e7
          · exact h56 q5 q6 e5 e6 (by rw [← e7]; exact e)
          · have := (o5'.base e5).2; omega
        · exact M3.trans mm fun z hz ⟨q5, e5, e⟩ => by have := (o6.base e5).1; omega
    rintro z w10 ⟨a5, a6, c5, c6, y, rfl, o5, o6, h56, m10⟩
    rw [wrap64 (x := (i : Int) + 1) (by omega) (by omega)]
    exact ⟨⟨i + 1, a5, a6, c5, c6, _, rfl, by omega, o5, o6, h56, m10⟩, by simp [nI, nth]; omega⟩
  · have hi : i = L.length := by have := of_decide_eq_false hb; omega
    subst hi
    rw [List.take_length] at o5 o6
    obtain ⟨w5, u1, u2, u3, u4⟩ := h1.cell.store (P := Tryz.prog) (T := 168) (i := 0) (v := .slice a6 (L.filter fun x => !ripeP V x).length c6) (by kernel_rfl) (by simp) rfl
    have hqw := h.cell.lt
    rw [List.take_length]
    refine ⟨_, _, _, rfl, _, rfl, w5, by rw [add_none]; exact u1, _, _, _, rfl, hk w5 a5 c5 ((m1.mono fun _ _ h => h.elim).trans u3 fun _ _ e => e) ⟨a6, c6, ⟨u2, ?_, fun a ha => ⟨fun e => ?_, fun e => ?_⟩, h.nz⟩⟩ ?_⟩
    · exact (o6.keep u3 fun a ha e => by have e : a.block = q := e; have := (o6.base ha).1; omega).mono (by omega)
    · have := (o6.base ha).1; omega
    · have := (o6.base ha).1; have := hZ _ e; omega
    · exact o5.keep u3 fun a ha e => by have e : a.block = q := e; have := (o5.base ha).1; omega
theorem kList_c (h : Wk 168 Z w q L) (hn : L.length ≤ 5000) (hk : ∀ w' a c, Mod No w w' → Own Tryz.prog w' w.heap.size 77 2 a L.length c (rowC (L.map (·.2))) → K (.slice a L.length c) w') :
    Cal Tryz.prog F_push_Work_List #[.pointer (some ⟨q, 0, none⟩)] w K := by
  apply C_push_Work_List
  unfold D_push_Work_List
  refine kLen_c h ⟨_, rfl, ?_⟩
  obtain ⟨la, lc, h⟩ := h
  refine ⟨fun x w1 => ∃ (i : Nat) (a5 : Option Addr) (c5 : Nat), x = [.slice a5 i c5, .int .i64 i] ∧ i ≤ L.length ∧ Own Tryz.prog w1 w.heap.size 77 2 a5 i c5 (rowC ((L.take i).map (·.2))) ∧ Mod No w w1, fun x _ => (L.length - nI x 1).toNat,
    ⟨0, none, 0, rfl, by omega, Own.nilG elemG_acts, Mod.refl _ _⟩, ?_⟩
  rintro x w1 ⟨i, a5, c5, rfl, hi, o5, m1⟩
  have h1 := h.nos m1
  have hz1 := m1.size
  refine ⟨_, rfl, cond_of (fun hb => ?_) (fun hb => ?_)⟩
  · have hi : i < L.length := by have := of_decide_eq_true hb; omega
    have hx : L[i]? = some L[i] := List.getElem?_eq_getElem hi
    have htk := List.take_succ_eq_append_getElem hi
    obtain ⟨g, rfl, hix, _, hag, _⟩ := h1.at (Te := 174) elemN_waits agg_wait hn hx
    generalize L[i] = x at *
    obtain ⟨q2, c', w7, run, p, mm, hq2⟩ := snocG (Te := 71) (ys := acV x.2) elemG_acts (by omega) o5 rfl (acV_one _) (by omega) (by omega) (by omega)
    refine ⟨_, _, _, rfl, _, rfl, _, _, _, h1.ld (by kernel_rfl), _, hix, _, hag w1 _ (Mod.refl _ _) agg_pact, _, _, _, _, built_act _ _, _, _, _, w7, run, ?_⟩
    rw [wrap64 (x := (i : Int) + 1) (by omega) (by omega)]
    refine ⟨⟨i + 1, some q2, c', rfl, by omega, ?_, m1.trans mm fun z hz ⟨q5, e5, e⟩ => by have := (o5.base e5).1; omega⟩, by simp [nI, nth]; omega⟩
    have : rowC ((L.take (i + 1)).map (·.2)) = rowC ((L.take i).map (·.2)) ++ acV x.2 := by rw [htk, List.map_append]; exact rowC_snoc _ _
    rw [this]; exact p
  · have hi : i = L.length := by have := of_decide_eq_false hb; omega
    subst hi
    rw [List.take_length] at o5
    exact ⟨_, _, _, rfl, hk w1 a5 c5 m1 o5⟩
end
end Go.Proofs.YtocjjigmpgekfaaGreat
end
section
/- Layer 12: acts alike; does an act wait; the fixed calls; the statement PushNil. -/
open Go Go.Den Go.Proofs
namespace Go.Proofs.YtocjjigmpgekfaaGreat
/-- A struct of two integers. -/
def two (P : Program) (T : TypeId) : Bool :=
  match (P.fieldsOf T).toList with
  | [f, g] => f.name != "_" && g.name != "_" && f.type == 3 && f.offset == 0 && g.type == 3 && g.offset == 1
  | _ => false
theorem two_is {P : Program} {T : TypeId} (h : two P T = true) : ∃ f g, (P.fieldsOf T).toList = [f, g] ∧ f.name ≠ "_" ∧ g.name ≠ "_" ∧ f.type = 3 ∧ f.offset = 0 ∧ g.type = 3 ∧ g.offset = 1 := by
  unfold two at h
  split at h
  · rename_i f g e
    simp only [Bool.and_eq_true, bne_iff_ne, beq_iff_eq] at h
    exact ⟨f, g, e, h.1.1.1.1.1, h.1.1.1.1.2, h.1.1.1.2, h.1.1.2, h.1.2, h.2⟩
  · cases h
section
variable {w w' w0 : World} {R : Nat → Prop} {sp d : Nat} {V : Ps} {K : Value → World → Prop} {T : TypeId} {Z Z' : Nat → Prop} {q lc : Nat} {L : List Wt} {la : Option Addr}
def sameA (x y : Int × Int) : Bool := x.1 == y.1 && x.2 == y.2
theorem eqIn_act (h2 : two Tryz.prog T = true) (ht : Tryz.prog.underlying T = some (.struct (Tryz.prog.fieldsOf T))) (hp : Tryz.prog.stoodInHeld T = false) (x y : Int × Int) (w : World) :
    (Op.equalIn 10000 T (.agg ⟨acV x⟩) (.agg ⟨acV y⟩)).run Tryz.prog w = .ok (sameA x y) w := by
  obtain ⟨f, g, hfs, nf, ng, tf, of, tg, og⟩ := two_is h2
  rw [run_equalIn_agg w 9999 T _ _ ht hp, hfs]
  unfold Op.eqFields
  rw [if_pos nf, tf, of]
  have p1 : ∀ x : Int × Int, ∀ w : World, (part 3 ⟨acV x⟩ 0).run Tryz.prog w = .ok (.int .i64 x.1) w := fun x w => by kernel_rfl
  have p2 : ∀ x : Int × Int, ∀ w : World, (part 3 ⟨acV x⟩ 1).run Tryz.prog w = .ok (.int .i64 x.2) w := fun x w => by kernel_rfl
  have e1 : ∀ a b : Int, (Op.equalIn 9999 3 (.int .i64 a) (.int .i64 b)).run Tryz.prog w = .ok (a == b) w := fun a b => run_equalIn_int w 9998 3 .i64 .i64 a b (by kernel_rfl)
  unfold sameA
  cases h1 : x.1 == y.1 with
  | false => simp [Sem.run_bind, p1, e1, h1]
  | true =>
    simp [Sem.run_bind, p1, e1, h1, Op.eqFields, ng, tg, og, p2]
    cases h3 : x.2 == y.2 <;> simpa using h3
theorem eql_act (h2 : two Tryz.prog T = true) (ht : Tryz.prog.underlying T = some (.struct (Tryz.prog.fieldsOf T))) (hp : Tryz.prog.stoodInHeld T = false) (hg : Tryz.prog.eqGuardType Tryz.prog.depth T = false) (o1 o2 : Operand) (x y : Int × Int) :
    Al (eqS .eql T o1 o2 (.agg ⟨acV x⟩) (.agg ⟨acV y⟩)) (.bool (sameA x y)) := fun w => by
  unfold eqS
  rw [Sem.run_bind, run_eqGuard_agg w _ _ _ _ _ _ hg, Result.andThen_ok, run_eql_struct, eqIn_act h2 ht hp, Result.andThen_ok]
theorem neq_act (h2 : two Tryz.prog T = true) (ht : Tryz.prog.underlying T = some (.struct (Tryz.prog.fieldsOf T))) (hp : Tryz.prog.stoodInHeld T = false) (hg : Tryz.prog.eqGuardType Tryz.prog.depth T = false) (o1 o2 : Operand) (x y : Int × Int) :
    Al (eqS .neq T o1 o2 (.agg ⟨acV x⟩) (.agg ⟨acV y⟩)) (.bool (!sameA x y)) := fun w => by
  unfold eqS
  rw [Sem.run_bind, run_eqGuard_agg w _ _ _ _ _ _ hg, Result.andThen_ok, run_neq_struct, eqIn_act h2 ht hp, Result.andThen_ok]
theorem two_act : two Tryz.prog 71 = true := by kernel_rfl
theorem und_act : Tryz.prog.underlying 71 = some (.struct (Tryz.prog.fieldsOf 71)) := by kernel_rfl
theorem std_act : Tryz.prog.stoodInHeld 71 = false := by kernel_rfl
theorem grd_act : Tryz.prog.eqGuardType Tryz.prog.depth 71 = false := by kernel_rfl
/-- A row of acts: one element. -/
theorem actAt {T Te : TypeId} {base l c i : Nat} {a : Option Addr} {xs : List (Int × Int)} {x : Int × Int} (h : Own Tryz.prog w base T 2 a l c (rowC xs)) (hl : xs.length = l) (hT : elemN Tryz.prog T = some 2) (hE : aggN Tryz.prog Te = some 2) (h63 : l ≤ 1000000) (hx : xs[i]? = some x) :
    ∃ g, a = some ⟨g, 0, none⟩ ∧ base ≤ g ∧ Al (Instr.indexAt T (.slice a l c) (.int .i64 i)) (.pointer (some ⟨g, i * 2, none⟩)) ∧ (∀ w', Mod No w w' → Ru (Instr.loadAt Te (.pointer (some ⟨g, i * 2, none⟩))) w' (.agg ⟨acV x⟩) w') ∧
      ∀ (w' : World) (j : Nat) (v : Value) (Ti : TypeId), Mod No w w' → scal Tryz.prog Ti = true → (acV x)[j]? = some v → Ru (Instr.loadAt Ti (.pointer (some (Addr.add ⟨g, i * 2, none⟩ j)))) w' v w' := by
  have hi := (List.getElem?_eq_some_iff.1 hx).1
  obtain ⟨g, rfl, hg, hat⟩ := h.sm (by omega)
  have hlen : (rowC xs).length = xs.length * 2 := flat_len' acV_len xs
  refine ⟨g, rfl, hg, fun w' => ?_, fun w' m => ?_, fun w' j v Ti m hTi hj => ?_⟩
  · have := index_slice (P := Tryz.prog) (T := T) (k := 2) (a := ⟨g, 0, none⟩) (n := l) (c := c) (kk := .i64) (i := i) hT (by omega) (by omega) w'
    rw [add_none, show 0 + (i : Int).toNat * 2 = i * 2 by omega] at this
    exact this
  · have := (hat.keep m id).at.loadAgg (P := Tryz.prog) (T := Te) (i := i * 2) hE (by rw [hlen]; omega)
    rw [show ((rowC xs).drop (i * 2)).take 2 = acV x from flat_drop acV_len hx, Nat.zero_add] at this
    exact this
  · rw [add_none]
    have := (hat.keep m id).at.load (P := Tryz.prog) (T := Ti) (i := i * 2 + j) hTi (v := v) (flat_cell acV_len hx hj)
    rw [Nat.zero_add] at this
    exact this
theorem elemN_acts : elemN Tryz.prog 77 = some 2 := by kernel_rfl
theorem ContainsA_c {base l c : Nat} {a : Option Addr} {xs : List (Int × Int)} {y : Int × Int} (h : Own Tryz.prog w base 77 2 a l c (rowC xs)) (hl : xs.length = l) (h63 : l ≤ 1000000)
    (hk : ∀ w', Mod No w w' → K (.bool (xs.any fun x => sameA x y)) w') : Cal Tryz.prog F_slices_Contains_push_Act #[.slice a l c, .agg ⟨acV y⟩] w K := by
  apply C_slices_Contains_push_Act
  unfold D_slices_Contains_push_Act
  refine ⟨_, _, box_run, ?_⟩
  have m1 : Mod No w (w.alloc (.cells (Value.agg ⟨acV y⟩).cells 71)) := (Mod.refl No w).alloc _
  have a1 : AtU (w.alloc (.cells (Value.agg ⟨acV y⟩).cells 71)) w.heap.size 0 (acV y) := AtU.new
  generalize w.alloc (.cells (Value.agg ⟨acV y⟩).cells 71) = w1 at *
  have la1 : Ru (Instr.loadAt 71 (.pointer (some ⟨w.heap.size, 0, none⟩))) w1 (.agg ⟨acV y⟩) w1 := a1.at.loadAgg (i := 0) agg_pact (by rw [acV_len]; omega)
  refine ⟨_, la1, ?_⟩
  apply C_slices_Index_push_Act
  unfold D_slices_Index_push_Act
  refine ⟨_, _, box_run, ?_⟩
  have m2 : Mod No w1 (w1.alloc (.cells (Value.agg ⟨acV y⟩).cells 71)) := (Mod.refl No w1).alloc _
  have a2 : AtU (w1.alloc (.cells (Value.agg ⟨acV y⟩).cells 71)) w1.heap.size 0 (acV y) := AtU.new
  generalize w1.alloc (.cells (Value.agg ⟨acV y⟩).cells 71) = w2 at *
  have M2 := m1.no m2
  refine ⟨fun x w3 => ∃ i : Nat, x = [.int .i64 i] ∧ i ≤ l ∧ Mod No w2 w3 ∧ ((xs.take i).any fun x => sameA x y) = false, fun x _ => (l - nI x 0).toNat, ⟨0, rfl, by omega, Mod.refl _ _, rfl⟩, ?_⟩
  rintro x w3 ⟨i, rfl, hi, m3, hno⟩
  refine ⟨_, rfl, cond_of (fun hb => ?_) (fun hb => ?_)⟩
  · have hi : i < xs.length := by have := of_decide_eq_true hb; omega
    have md : Mod No w2 (drew w3) := m3.drew
    obtain ⟨g, rfl, _, hix, hag, _⟩ := actAt (Te := 71) h hl elemN_acts agg_pact h63 (List.getElem?_eq_getElem hi)
    have ht : ((xs.take (i + 1)).any fun x => sameA x y) = (((xs.take i).any fun x => sameA x y) || sameA xs[i] y) := by rw [List.take_succ_eq_append_getElem hi, List.any_append]; simp
    refine ⟨_, (a2.keep md id).at.loadAgg (i := 0) agg_pact (by rw [acV_len]; omega), _, hix, _, hag _ (M2.no md), _, eql_act two_act und_act std_act grd_act _ _ y xs[i], cond_of (fun hb2 => ?_) (fun hb2 => ?_)⟩
    · refine ⟨_, rfl, ?_⟩
      have hs : (xs.any fun x => sameA x y) = true := List.any_eq_true.2 ⟨xs[i], List.getElem_mem hi, by unfold sameA at hb2 ⊢; simp at hb2 ⊢; omega⟩
      rw [decide_eq_true (by omega), ← hs]
      exact hk _ (M2.no md)
    · rw [wrap64 (x := (i : Int) + 1) (by omega) (by omega)]
      refine ⟨⟨i + 1, rfl, by omega, md, ?_⟩, by simp [nI, nth]; omega⟩
      rw [ht, hno, Bool.false_or]
      unfold sameA at hb2 ⊢
      rw [Bool.eq_false_iff] at hb2 ⊢
      intro e; apply hb2; simp at e ⊢; omega
  · have hi : i = xs.length := by have := of_decide_eq_false hb; omega
    subst hi
    rw [List.take_length] at hno
    refine ⟨_, rfl, ?_⟩
    rw [decide_eq_false (by omega), ← hno]
    exact hk _ (M2.no m3)
theorem kWaits_c {y : Int × Int} (h : Wk 168 Z w q L) (hn : L.length ≤ 5000) (hk : ∀ w', Mod No w w' → K (.bool (L.any fun x => sameA x.2 y)) w') :
    Cal Tryz.prog F_push_Work_Waits #[.pointer (some ⟨q, 0, none⟩), .agg ⟨acV y⟩] w K := by
  apply C_push_Work_Waits
  unfold D_push_Work_Waits
  refine ⟨_, _, box_run, ?_⟩
  have m1 : Mod No w (w.alloc (.cells (Value.agg ⟨acV y⟩).cells 71)) := (Mod.refl No w).alloc _
  have a1 : AtU (w.alloc (.cells (Value.agg ⟨acV y⟩).cells 71)) w.heap.size 0 (acV y) := AtU.new
  generalize w.alloc (.cells (Value.agg ⟨acV y⟩).cells 71) = w1 at *
  have md : Mod No w1 (drew w1) := (Mod.refl No w1).drew
  refine ⟨_, (a1.keep md id).at.loadAgg (i := 0) agg_pact (by rw [acV_len]; omega), kList_c ((h.nos m1).nos md) hn fun w2 a c m2 o2 => ⟨_, _, _, rfl, (a1.keep (md.no m2) id).at.loadAgg (i := 0) agg_pact (by rw [acV_len]; omega), ?_⟩⟩
  refine ContainsA_c o2 (by simp) (by omega) fun w3 m3 => ⟨_, rfl, ?_⟩
  have := hk w3 (((m1.no md).no m2).no m3)
  rw [List.any_map]
  exact this
end
end Go.Proofs.YtocjjigmpgekfaaGreat
end
section
/- Layer 12: a store of five blocks; the fixed calls; the statement PushNil. -/
open Go Go.Den Go.Proofs
namespace Go.Proofs.YtocjjigmpgekfaaGreat
def g0 : Ps := zeroV 5 5
def g1 : Ps := patS g0 3 0 [97] []
def g2 : Ps := patS g1 4 0 [98] [1]
def g3 : Ps := patS g2 3 1 [99] [2]
theorem g1e : patE g0 3 0 [97] [] = 0 ∧ patN g0 3 0 [97] [] = 1 ∧ g0.last = 0 := by decide +kernel
theorem g2e : patE g1 4 0 [98] [1] = 0 ∧ patN g1 4 0 [98] [1] = 2 ∧ g1.last = 1 := by decide +kernel
theorem g3e : patE g2 3 1 [99] [2] = 0 ∧ patN g2 3 1 [99] [2] = 3 ∧ g2.last = 2 := by decide +kernel
theorem g3s : safeV g3 3 = false := by decide +kernel
theorem g3b : (g3.C.D.vs.all fun v => decide (v.length ≤ 1000)) = true := by decide +kernel
/-- The open changes by their numbers, so that it can be worked out. -/
def insI (x : Ch) : List Ch → List Ch
  | [] => [x]
  | y :: r => if x.id ≤ y.id then x :: y :: r else y :: insI x r
def isrt : List Ch → List Ch
  | [] => []
  | x :: r => insI x (isrt r)
theorem insI_perm (x : Ch) : ∀ l, (insI x l).Perm (x :: l)
  | [] => List.Perm.refl _
  | y :: r => by
    unfold insI
    split
    · exact List.Perm.refl _
    · exact ((insI_perm x r).cons y).trans (List.Perm.swap _ _ _)
theorem isrt_perm : ∀ l, (isrt l).Perm l
  | [] => List.Perm.refl _
  | x :: r => (insI_perm x _).trans ((isrt_perm r).cons x)
theorem insI_le (x : Ch) : ∀ l, (l.Pairwise fun x y : Ch => x.id ≤ y.id) → (insI x l).Pairwise fun x y : Ch => x.id ≤ y.id
  | [], _ => List.pairwise_singleton _ _
  | y :: r, h => by
    have h' := List.pairwise_cons.1 h
    unfold insI
    split
    · rename_i e
      exact List.pairwise_cons.2 ⟨fun z hz => by
        rcases List.mem_cons.1 hz with rfl | hz
        · exact e
        · have := h'.1 z hz; omega, h⟩
    · rename_i e
      exact List.pairwise_cons.2 ⟨fun z hz => by
        rcases List.mem_cons.1 ((insI_perm x r).mem_iff.1 hz) with rfl | hz
        · omega
        · exact h'.1 z hz, insI_le x r h'.2⟩
theorem isrt_le : ∀ l, (isrt l).Pairwise fun x y : Ch => x.id ≤ y.id
  | [] => List.Pairwise.nil
  | x :: r => insI_le x _ (isrt_le r)
theorem srtV_isrt {V : Ps} (h : WFS V) : srtV V = isrt V.all := by
  have hn : ((isrt V.all).map (·.id)).Nodup := ((isrt_perm V.all).map (·.id)).nodup_iff.2 h.ids
  refine eq_of_srt (srtV_srt h) ?_ fun x => by rw [(srtV_perm V).mem_iff, (isrt_perm V.all).mem_iff]
  have h1 := isrt_le V.all
  have h2 : (isrt V.all).Pairwise fun x y : Ch => x.id ≠ y.id := List.pairwise_map.1 hn
  exact (h1.and h2).imp fun h => by omega
def oneB' (id : Int) (V : Ps) : List Int := ((List.range V.C.D.vs.length).filter fun b => V.all.any fun x => decide (x.b = b) && (waitsL (isrt V.all) id).contains (x.id : Int)).map fun b : Nat => (b : Int)
theorem oneB_eq {id : Int} {V : Ps} (h : Gd V) : oneB id V = oneB' id V := by
  unfold oneB oneB' waitsV
  rw [srtV_isrt h.s]
theorem rnds_congr {nx nx' : Ps → List Int} (h : ∀ V, Gd V → nx V = nx' V) : ∀ {f : Nat} {V : Ps}, Gd V → rnds nx f V = rnds nx' f V
  | 0, _, _ => rfl
  | f + 1, V, g => by
    have e := h V g
    by_cases hn : nx V = []
    · rw [rnds_nil hn, rnds_nil (by rw [← e]; exact hn)]
    · rw [rnds_succ hn, rnds_succ (by rw [← e]; exact hn), e, rnds_congr h (g.round _)]
theorem gone : (rnds (oneB' 3) (openV g3) g3).1 = 3 := by decide +kernel
theorem gsafe : safeV (rnds (oneB' 3) (openV g3) g3).2 3 = true := by decide +kernel
section
variable {w w' w0 : World} {R R' : Nat → Prop} {sp d : Nat} {V : Ps} {K : Value → World → Prop} {T : TypeId} {Z Z' : Nat → Prop} {q lc : Nat} {L : List Wt} {la : Option Addr}
theorem oneV_eq {id : Int} (h : Gd V) : oneV id V = rnds (oneB' id) (openV V) V := rnds_congr (fun _ h => oneB_eq h) h
theorem open12_c (hk : ∀ w' R R2 sp d rp r, Mod No w w' → T11 w R R2 w' sp d rp r (zeroV 5 5) (newRs (newSt 5)) → K (.tuple #[.pointer (some ⟨sp, 0, none⟩), .pointer (some ⟨d, 0, none⟩), .pointer (some ⟨rp, 0, none⟩), .bool true]) w') :
    Cal Tryz.prog F_leveelaw12_open #[] w K := by
  apply C_leveelaw12_open
  unfold D_leveelaw12_open
  refine New_c (n := 5) (by omega) (by omega) (fun h => by omega) fun k hk' _ _ w1 d sb mb m1 h1 => ⟨_, _, rfl, ?_⟩
  have : k = 5 := by omega
  subst this
  refine refNew_c (n := 5) (by omega) (by omega) (fun h => by omega) fun k hk2 _ _ w2 r vb vc hs m2 h2 => ⟨_, _, rfl, ?_⟩
  have : k = 5 := by omega
  subst this
  have hsm : Small (newSt 5) := Small.one (sm _ (by decide +kernel))
  have hz1 := m1.size
  have hz2 := m2.size
  refine qNew_c (w0 := w) (k := 5) (h1.nos m2) hsm (fun x hx => ⟨hx.1, by omega⟩) (m1.no m2) rfl (by omega) (by omega) (by simp [newSt]) fun w3 sp m3 z3 => ⟨_, _, rfl, ?_⟩
  have hz3 := m3.size
  refine Share.dup (rOpen11_c (w0 := w) (h2.nos m3) hsm (fun x hx => ⟨by omega, by omega⟩) ((m1.no m2).no m3) fun w6 rp m6 q6 => ⟨_, rfl, tt rfl ?_⟩)
  have hz6 := m6.size
  have t6 : T11 w (Gro (fun x => w.heap.size ≤ x ∧ x < w1.heap.size) w2 w3) (Gro (fun x => w1.heap.size ≤ x ∧ x < w2.heap.size) w3 w6) w6 sp d rp r (zeroV 5 5) (newRs (newSt 5)) := ⟨z3.nos m6, q6, fun x hx e => by
    rcases hx with hx | hx <;> rcases e with e | e <;> omega⟩
  exact ⟨_, rfl, _, rfl, _, rfl, _, rfl, hk w6 _ _ sp d rp r (((m1.no m2).no m3).no m6) t6⟩
theorem build_work0 (w : World) : (Instr.build 170 #[]).run Tryz.prog w = .ok (.agg ⟨[.slice none 0 0]⟩) w := by kernel_rfl
theorem build_act (w : World) (k m : Int) : (Instr.build 71 #[(0, .int .i64 k), (1, .int .i64 m)]).run Tryz.prog w = .ok (.agg ⟨acV (k, m)⟩) w := by kernel_rfl
theorem kNew_c (hZ : ∀ x, Z x → x < w.heap.size) (hk : ∀ w', Mod No w w' → Wk 168 Z w' w.heap.size [] → K (.pointer (some ⟨w.heap.size, 0, none⟩)) w') : Cal Tryz.prog F_push_New #[] w K := by
  apply C_push_New
  unfold D_push_New
  exact ⟨_, fun w => build_work0 w, _, _, box_run, hk _ ((Mod.refl No w).alloc _) ⟨none, 0, AtU.new, Own.nilG elemG_waits, (fun _ h => by cases h), (fun e => by have := hZ _ e; omega)⟩⟩
theorem Wk.step (h : Wk T R w q L) (m : Mod R w w') : Wk T (Gro R w w') w' q L := h.keep m (fun _ h => h) fun x hx e => by
  rcases e with e | e
  · exact e
  · omega
theorem known12_c (hk : ∀ w', Mod No w w' → K (.bool true) w') : Cal Tryz.prog F_leveelaw12_known #[] w K := by
  apply C_leveelaw12_known
  unfold D_leveelaw12_known
  refine open12_c fun w2 R R2 sp d rp r m2 t2 => ⟨_, _, _, _, rfl, ?_⟩
  have z2 : Pz w R w2 sp d g0 := t2.p
  clear t2
  have s0 : Srt g0 := fun o ho => by cases ho
  have s1 : Srt g1 := s0.pat z2.wf.1 _ _ _ _
  have lo2 := z2.lo
  have hz2 := m2.size
  refine kNew_c (fun x hx => (lo2 x hx).2) fun w3 m3 k3 => ⟨_, rfl, Share.dup (ff rfl ⟨_, rfl, ff rfl ?_⟩)⟩
  generalize hq : w2.heap.size = q at *
  have z3 := z2.nos m3
  have lo3 := z3.lo
  -- the changes
  obtain ⟨ma, ra⟩ := lit w3 97
  refine ⟨_, _, _, _, built1 _ 97, _, _, _, _, conv_lit _ 97, qPatch_c (n := 3) (frm := 0) (data := [97]) (after := []) (z3.nos ma) (by rw [g1e.2.2]; omega) rfl ra (fun _ q hq hR => by cases hq; have := (lo3 _ hR).2; simp only at this; omega) (by omega) rfl (by omega) (.inl rfl) (fun _ q hq => by cases hq) fun w4 m4 z4 => ⟨_, _, rfl, ?_⟩⟩
  rw [g1e.2.1]
  have z4 : Pz w _ w4 sp d g1 := z4
  have s2 : Srt g2 := s1.pat z4.wf.1 _ _ _ _
  have k4 := (k3.nos ma).step m4
  obtain ⟨mb, rb⟩ := lit w4 98
  have lo4 := z4.lo
  refine ⟨_, _, _, _, built1 _ 98, _, _, _, _, conv_lit _ 98, _, _, _, _, builtI64 _ 1, ?_⟩
  have mb2 : Mod No (w4.alloc (.cells ⟨[.int .u8 ((98 : UInt8).toNat : Int)]⟩ 5 (1, 2))) ((w4.alloc (.cells ⟨[.int .u8 ((98 : UInt8).toNat : Int)]⟩ 5 (1, 2))).alloc (.cells ⟨[.int .i64 1]⟩ 2)) := (Mod.refl No _).alloc _
  refine qPatch_c (n := 4) (frm := 0) (data := [98]) (after := [1]) ((z4.nos mb).nos mb2) (by rw [g2e.2.2]; omega) rfl (rb.nos mb2) (fun _ q hq hR => by cases hq; have := (lo4 _ hR).2; simp only at this; omega) (by omega) rfl (by omega) (.inr ⟨_, _, rfl, AtU.new.at⟩) (fun _ q hq hR => by cases hq; have := (lo4 _ hR).2; simp at this; omega) fun w5 m5 z5 => ⟨_, _, rfl, ?_⟩
  rw [g2e.2.1]
  have z5 : Pz w _ w5 sp d g2 := z5
  have s3 : Srt g3 := s2.pat z5.wf.1 _ _ _ _
  have k5 := ((k4.nos mb).nos mb2).step m5
  obtain ⟨mc, rc⟩ := lit w5 99
  have lo5 := z5.lo
  refine ⟨_, _, _, _, built1 _ 99, _, _, _, _, conv_lit _ 99, _, _, _, _, builtI64 _ 2, ?_⟩
  have mc2 : Mod No (w5.alloc (.cells ⟨[.int .u8 ((99 : UInt8).toNat : Int)]⟩ 5 (1, 2))) ((w5.alloc (.cells ⟨[.int .u8 ((99 : UInt8).toNat : Int)]⟩ 5 (1, 2))).alloc (.cells ⟨[.int .i64 2]⟩ 2)) := (Mod.refl No _).alloc _
  refine qPatch_c (n := 3) (frm := 1) (data := [99]) (after := [2]) ((z5.nos mc).nos mc2) (by rw [g3e.2.2]; omega) rfl (rc.nos mc2) (fun _ q hq hR => by cases hq; have := (lo5 _ hR).2; simp only at this; omega) (by omega) rfl (by omega) (.inr ⟨_, _, rfl, AtU.new.at⟩) (fun _ q hq hR => by cases hq; have := (lo5 _ hR).2; simp at this; omega) fun w6 m6 z6 => ⟨_, _, rfl, ?_⟩
  rw [g3e.2.1]
  have z6 : Pz w _ w6 sp d g3 := z6
  have k6 := ((k5.nos mc).nos mc2).step m6
  clear s0 s1 s2 m6 mc2 rc mc k5 z5 m5 mb2 rb mb k4 z4 m4 ma ra z3 k3 z2 lo2 lo3 lo4 lo5
  have M6 := z6.mod
  have lo6 := z6.lo
  have hqw : w.heap.size ≤ q := by omega
  -- an act waits
  refine ⟨_, fun w => build_act w _ _, kLater_c (n := 3) (k := 1) (m := 7) k6 (by simp) (fun x hx => (lo6 x hx).2) fun w7 m7 k7 => ⟨_, rfl, ?_⟩⟩
  have e7 : laterE [] 1 = 0 := by decide
  have l7 : laterL [] (3, 1, 7) = [(3, 1, 7)] := by decide
  rw [e7]
  rw [l7] at k7
  have keepP : ∀ {R : Nat → Prop} {u u' : World} {V : Ps} {L : List Wt}, Pz w R u sp d V → Wk 168 R u q L → Mod (fun z => z = q) u u' → Pz w R u' sp d V := fun hP hW m => hP.keep m (fun x hx e => by
    obtain ⟨_, _, hW⟩ := hW
    have e : x = q := e
    subst e; exact hW.nz hx) fun x hx e => by
      have e : x = q := e
      omega
  have z7 := keepP z6 k6 m7
  have lo7 := z7.lo
  refine kRipe_c z7 k7 (by simp) (fun x hx => (lo7 x hx).2) fun w8 a8 c8 m8 k8 o8 => ⟨_, _, _, rfl, ?_⟩
  have r8 : ([(3, 1, 7)] : List Wt).filter (ripeP g3) = [] := by simp [ripeP, g3s]
  have r8' : ([(3, 1, 7)] : List Wt).filter (fun x => !ripeP g3 x) = [(3, 1, 7)] := by simp [ripeP, g3s]
  rw [r8'] at k8
  rw [r8]
  have z8 := keepP z7 k7 m8
  have hG : Gd g3 := Gd.of z8 s3
  refine One_c (n := 3) z8 hG (fun v hv => of_decide_eq_true (List.all_eq_true.1 g3b v hv)) fun w9 R9 m9 hR9 z9 g9 b9 => ⟨_, _, rfl, ?_⟩
  rw [oneV_eq hG] at z9 g9 b9 ⊢
  rw [gone]
  have gs := gsafe
  generalize (rnds (oneB' 3) (openV g3) g3).2 = V9 at *
  have k9 := k8.keep m9 (fun _ h => h) (Z' := R9) fun x hx e => (hR9 x e).resolve_right (by omega)
  have lo9 := z9.lo
  refine kRipe_c z9 k9 (by simp) (fun x hx => (lo9 x hx).2) fun w10 a10 c10 m10 k10 o10 => ⟨_, _, _, rfl, ?_⟩
  have r10 : ([(3, 1, 7)] : List Wt).filter (ripeP V9) = [(3, 1, 7)] := by simp [ripeP, gs]
  have r10' : ([(3, 1, 7)] : List Wt).filter (fun x => !ripeP V9 x) = [] := by simp [ripeP, gs]
  rw [r10'] at k10
  rw [r10] at o10 ⊢
  have z10 := keepP z9 k9 m10
  obtain ⟨g, rfl, _, hix, _, hld⟩ := actAt (i := 0) (x := (1, 7)) (Te := 71) o10 rfl elemN_acts agg_pact (by simp) rfl
  refine Share.dup (tt rfl (tt rfl (tt rfl (tt rfl (qSafe_c z10 ⟨_, rfl, tt gs (tt rfl ⟨_, hix, _, hld w10 1 (.int .i64 7) 3 (Mod.refl _ _) (by kernel_rfl) rfl, tt rfl (kLen_c k10 ⟨_, rfl, _, rfl, hk w10 z10.mod⟩)⟩)⟩)))))
end
end Go.Proofs.YtocjjigmpgekfaaGreat
end
section
/- Layer 12, the document's rounds: in plain terms, and walked. -/
open Go Go.Den Go.Proofs
namespace Go.Proofs.YtocjjigmpgekfaaGreat
structure Gx (V : Ps) : Prop where
  g : Gd V
  l : V.C.D.left = -1
  acc : ∀ o ∈ V.ons, atD V.C.D o.b = withL o.base (o.l.filter (·.out))
  may : ∀ o ∈ V.ons, ∀ x ∈ o.l, x.out = true → (x.id : Int) ∈ mayL V.opn o.l
section
variable {w w' w0 : World} {R R' : Nat → Prop} {sp d rp r : Nat} {V : Ps} {S : Rs} {K : Value → World → Prop}
theorem Gx.of (hP : Pz w0 R w sp d V) (h : Srt V) : Gx V := by
  obtain ⟨C, hC, hW⟩ := hP.full
  exact ⟨Gd.of hP h, hP.wf.2.2.2.1, hP.ord, hW.may⟩
theorem Gx.wr (h : Gx V) (hD : WF V.C.D) (n : Int) : Gx (wrV V n) := by
  have hg := h.g.wr n
  by_cases he : wrVE V n = 0
  · have hs := h.g.s
    have ho : ∃ o, onOf V n = some o := by
      unfold wrVE at he
      split at he
      · omega
      · split at he
        · omega
        · rename_i e
          cases ho : onOf V n with
          | none => rw [ho] at e; exact absurd rfl e
          | some o => exact ⟨o, rfl⟩
    obtain ⟨o, ho⟩ := ho
    obtain ⟨hom, rfl⟩ := onOf_some ho
    have e : wrV V (o.b : Int) = ⟨{ V.C with D := wrSt V.C.D (o.b : Int) (imgB V o.b) }, V.last, mapX V (markF V o.b)⟩ := by
      unfold wrV; rw [if_pos he, Int.toNat_natCast]
    rw [e] at hg ⊢
    have hb := hs.onlt o hom
    have hil := img_len hs hD hb
    have hat := atD_wrN hb hil h.l
    have hL := markF_like V o.b
    have hmb : mayB V o.b = mayL V.opn o.l := by unfold mayB; rw [ho]
    have hxb : ∀ x ∈ o.l, x.b = o.b := fun x hx => hs.chb o hom x hx
    have hno : ∀ p ∈ V.ons, p.b ≠ o.b → p.l.map (markF V o.b) = p.l := fun p hp e => markF_no fun x hx => by rw [hs.chb p hp x hx]; exact e
    have hmo : ∀ x ∈ o.l, (markF V o.b x).out = (mayL V.opn o.l).contains (x.id : Int) := fun x hx => by
      unfold markF
      rw [if_pos (hxb x hx), hmb]
      show (x.out || _) = _
      cases hxo : x.out with
      | false => rfl
      | true =>
        have := h.may o hom x hx hxo
        rw [Bool.true_or]; symm; simpa using this
    have hsame : ∀ p ∈ V.ons, p.b = o.b → p = o := fun p hp e => on_uniq hs hp hom (by omega)
    refine ⟨hg, ?_, fun p hp => ?_, fun p hp x hx hxo => ?_⟩
    · show (wrSt V.C.D (o.b : Int) (imgB V o.b)).left = -1
      rw [(wr_is hb hil h.l).2]
    · obtain ⟨q, hq, rfl⟩ := List.mem_map.1 hp
      show atD (wrSt V.C.D (o.b : Int) (imgB V o.b)) q.b = withL q.base ((q.l.map (markF V o.b)).filter (·.out))
      rw [hat]
      by_cases e : q.b = o.b
      · have := hsame q hq e
        subst this
        rw [if_pos rfl, List.filter_map, withL_map hL]
        unfold imgB
        rw [ho]
        show withL q.base _ = withL q.base _
        congr 1
        apply List.filter_congr
        intro x hx
        exact (hmo x hx).symm
      · rw [if_neg e, hno q hq e]; exact h.acc q hq
    · obtain ⟨q, hq, rfl⟩ := List.mem_map.1 hp
      rw [opn_mapX hL]
      show (x.id : Int) ∈ mayL V.opn (q.l.map (markF V o.b))
      rw [mayL_map hL]
      obtain ⟨y, hy, rfl⟩ := List.mem_map.1 hx
      rw [hL.id]
      by_cases e : q.b = o.b
      · have := hsame q hq e
        subst this
        rw [hmo y hy] at hxo
        simpa using hxo
      · have : markF V o.b y = y := by unfold markF; rw [if_neg (by rw [hs.chb q hq y hy]; exact e)]
        rw [this] at hxo
        exact h.may q hq y hy hxo
  · have e : wrV V n = V := by unfold wrV; rw [if_neg he]
    rw [e]; exact h
theorem Gx.fl (h : Gx V) : Gx (flV V) := by
  have hf : ∀ {o o' : On}, flOn o = some o' → o' = { o with base := withL o.base (o.l.filter (·.out)), l := o.l.filter fun x => !x.out } := fun {o o'} e => by
    unfold flOn at e
    split at e
    · cases e
    · exact (Option.some.inj e).symm
  refine ⟨h.g.fl, fl_left h.l, fun o' ho' => ?_, fun o' ho' x hx hxo => ?_⟩
  · obtain ⟨o, ho, e⟩ := List.mem_filterMap.1 ho'
    rw [hf e]
    show atD (flSt V.C.D) o.b = withL (withL o.base (o.l.filter (·.out))) ((o.l.filter fun x => !x.out).filter (·.out))
    have : (o.l.filter fun x => !x.out).filter (·.out) = [] := by
      rw [List.filter_eq_nil_iff]
      intro x hx
      have := (List.mem_filter.1 hx).2
      simp at this; simp [this]
    rw [this, atD_fl h.l]
    exact h.acc o ho
  · obtain ⟨o, ho, e⟩ := List.mem_filterMap.1 ho'
    rw [hf e] at hx
    have := (List.mem_filter.1 hx).2
    rw [hxo] at this; cases this
theorem xWrite_c {n : Int} (hq : Rx w0 R w rp r S) (hr : Rel V S) (hG : Gx V) (hb : Bnd V.C.D 999999) (hk : ∀ w' S', Mod R w w' → Rx w0 (Gro R w w') w' rp r S' → Rel (wrV V n) S' → Gx (wrV V n) → K (.int .i64 (wrVE V n)) w') :
    Cal Tryz.prog F_leveeref11_Store_Write #[.pointer (some ⟨rp, 0, none⟩), .int .i64 n] w K := by
  have hqwf := hq.wf
  obtain ⟨af, hA⟩ := hr
  have hD : WF V.C.D := by rw [← hA.D]; exact hqwf.2.1
  refine rWrite11_c (n := n) (f := mayF V) hq (by rw [hA.D]; exact hG.l) (fun v hv => by rw [hA.D] at hv; exact hb v hv) (fun b hb => ?_) fun w15 m15 z15 => ?_
  · by_cases hbl : b < V.C.D.vs.length
    · exact hA.may hG.g.s hqwf.1 hbl
    · intro i x hx
      have hxb := hqwf.1.blt x (List.mem_of_getElem? hx)
      have : x.b ≠ b := fun e => hbl (by rw [hA.wf hqwf.1]; omega)
      unfold mayF
      rw [decide_eq_false this, Bool.false_and, Bool.false_and]
  · rw [hA.wrE hqwf.1 hG.g.ne]
    exact hk w15 _ m15 z15 (hA.wr hG.g.s hqwf.1 hD hG.l hG.g.ne n) (hG.wr hD n)
theorem xFlush_c (hq : Rx w0 R w rp r S) (hr : Rel V S) (hG : Gx V) (hk : ∀ w' S', Mod R w w' → Rx w0 (Gro R w w') w' rp r S' → Rel (flV V) S' → Gx (flV V) → K (.int .i64 0) w') :
    Cal Tryz.prog F_leveeref11_Store_Flush #[.pointer (some ⟨rp, 0, none⟩)] w K := by
  obtain ⟨af, hA⟩ := hr
  exact rFlush11_c hq fun w' m z => hk w' _ m z (hA.fl hG.g.s hG.l hG.acc) hG.fl
/-- The blocks of those waiting, as the document has them. -/
def oneR (n : Int) (S : Rs) : Nat → Bool := fun b => S.l.any fun x => decide (x.b = b) && (waitsL S.l n).contains (x.id : Int)
theorem RelA.one {af : Nat → List Int} (h : RelA V S af) (hs : WFS V) (hr : WFR S) (n : Int) : oneB n V = ((List.range S.base.length).filter (oneR n S)).map fun b : Nat => (b : Int) := by
  unfold oneB
  have hl : V.C.D.vs.length = S.base.length := by rw [hr.len, h.D]
  rw [hl]
  congr 1
  apply List.filter_congr
  intro b _
  unfold oneR
  rw [h.waits hs hr, Bool.eq_iff_iff, List.any_eq_true, List.any_eq_true]
  constructor
  · rintro ⟨u, hu, e⟩
    obtain ⟨y, hy, rfl⟩ := (h.all hs hr).1 hu
    exact ⟨y, hy, e⟩
  · rintro ⟨y, hy, e⟩
    exact ⟨setA af y, (h.all hs hr).2 ⟨y, hy, rfl⟩, e⟩
end
end Go.Proofs.YtocjjigmpgekfaaGreat
end
section
/- Layer 12, in plain terms: what is out, all that it waits for is out; what rounds do to the disk. -/
open Go Go.Den Go.Proofs
namespace Go.Proofs.YtocjjigmpgekfaaGreat
section
variable {V W : Ps}
theorem WF_wrS {D : St} {b : Nat} {ys : Bk} (h : WF D) (hb : b < D.vs.length) (hy : ys.length = 256) (hl : D.left = -1) : WF (wrSt D b ys) := by
  rw [(wr_is hb hy hl).2]
  refine ⟨fun v hv => ?_, by simpa using h.lo, by simpa using h.hi, by simp, by simp⟩
  rcases List.mem_or_eq_of_mem_set hv with hv | rfl
  · exact h.ver v hv
  · refine ⟨by simp, fun x hx => ?_⟩
    rcases List.mem_append.1 hx with hx | hx
    · exact (h.ver _ (List.getElem_mem hb)).2 x hx
    · rw [List.mem_singleton.1 hx]; exact hy
theorem WF_flS {D : St} (h : WF D) (hl : D.left = -1) : WF (flSt D) := by
  have hl2 := fl_left hl
  have e : (flSt D).vs = D.vs.map fun v => [lastV v] := by unfold flSt; rw [if_neg (by omega)]
  refine ⟨fun v hv => ?_, by rw [fl_len]; exact h.lo, by rw [fl_len]; exact h.hi, by omega, by omega⟩
  rw [e] at hv
  obtain ⟨u, hu, rfl⟩ := List.mem_map.1 hv
  refine ⟨by simp, fun x hx => ?_⟩
  rw [List.mem_singleton.1 hx]
  obtain ⟨i, hi, ei⟩ := List.getElem_of_mem hu
  exact h.lastLen (i := i) (v := u) (by rw [List.getElem?_eq_getElem hi, ei])
structure Gy (V : Ps) : Prop where
  x : Gx V
  D : WF V.C.D
theorem wrV_no {n : Int} (he : wrVE V n ≠ 0) : wrV V n = V := by unfold wrV; rw [if_neg he]
theorem wrV_is {n : Int} (he : wrVE V n = 0) : ∃ o, o ∈ V.ons ∧ onOf V (o.b : Int) = some o ∧ n = (o.b : Int) ∧ wrV V n = ⟨{ V.C with D := wrSt V.C.D (o.b : Int) (imgB V o.b) }, V.last, mapX V (markF V o.b)⟩ := by
  have ho : ∃ o, onOf V n = some o := by
    have he' := he
    unfold wrVE at he'
    split at he'
    · omega
    · split at he'
      · omega
      · rename_i e
        cases ho : onOf V n with
        | none => rw [ho] at e; exact absurd rfl e
        | some o => exact ⟨o, rfl⟩
  obtain ⟨o, ho⟩ := ho
  obtain ⟨hom, rfl⟩ := onOf_some ho
  exact ⟨o, hom, ho, rfl, by unfold wrV; rw [if_pos he, Int.toNat_natCast]⟩
theorem Gy.wr (h : Gy V) (n : Int) : Gy (wrV V n) := by
  refine ⟨h.x.wr h.D n, ?_⟩
  by_cases he : wrVE V n = 0
  · obtain ⟨o, hom, ho, rfl, e⟩ := wrV_is he
    rw [e]
    have hb := h.x.g.s.onlt o hom
    exact WF_wrS h.D hb (img_len h.x.g.s h.D hb) h.x.l
  · rw [wrV_no he]; exact h.D
theorem Gy.fl (h : Gy V) : Gy (flV V) := ⟨h.x.fl, WF_flS h.D h.x.l⟩
theorem may_mem {op : Int → Bool} {l : List Ch} {k : Int} (h : k ∈ mayL op l) : ∃ y ∈ l, k = (y.id : Int) := by
  rcases mayN_split (p := 0) h with h | ⟨q, y, _, hy, e⟩
  · cases h
  · exact ⟨y, List.mem_of_getElem? hy, e⟩
/-- One that was in an image: all that it waits for was, too. -/
def Ou (V : Ps) : Prop := ∀ x ∈ V.all, x.out = true → ∀ z ∈ V.all, Dep x z → z.out = true
theorem Dep.like {f : Ch → Ch} (hf : Like f) {x z : Ch} (h : Dep (f x) (f z)) : Dep x z := by
  unfold Dep at *
  rw [hf.id, hf.id, hf.after] at h
  rcases h with h | ⟨h1, h2⟩
  · exact .inl h
  · right
    refine ⟨h1, ?_⟩
    unfold meetR meetB at *
    rw [hf.b, hf.b, hf.frm, hf.frm, hf.data, hf.data] at h2
    exact h2
theorem Ou.wr (h : Ou V) (g : Gd V) (n : Int) : Ou (wrV V n) := by
  by_cases he : wrVE V n = 0
  · obtain ⟨o, hom, ho, rfl, e⟩ := wrV_is he
    rw [e]
    have hL := markF_like V o.b
    have hmb : mayB V o.b = mayL V.opn o.l := by unfold mayB; rw [ho]
    have hin : ∀ {x : Ch}, x ∈ V.all → x.b = o.b → x ∈ o.l := fun {x} hx hb => by
      obtain ⟨p, hp, hxp⟩ := mem_all.1 hx
      have := on_uniq g.s hp hom (by rw [← g.s.chb p hp x hxp]; exact hb)
      rwa [this] at hxp
    have hmk : ∀ {x : Ch}, x.b = o.b → (x.id : Int) ∈ mayL V.opn o.l → (markF V o.b x).out = true := fun {x} hb hm => by
      unfold markF
      rw [if_pos hb, hmb]
      show (x.out || _) = true
      have : (mayL V.opn o.l).contains (x.id : Int) = true := by simpa using hm
      rw [this, Bool.or_true]
    have hmono : ∀ {x : Ch}, x.out = true → (markF V o.b x).out = true := fun {x} hx => by
      unfold markF
      split
      · show (x.out || _) = true; rw [hx, Bool.true_or]
      · exact hx
    intro x hx hxo z hz hd
    rw [all_mapX] at hx hz
    obtain ⟨x0, hx0, rfl⟩ := List.mem_map.1 hx
    obtain ⟨z0, hz0, rfl⟩ := List.mem_map.1 hz
    have hd := hd.like hL
    by_cases hxb : x0.b = o.b
    · by_cases hx1 : x0.out = true
      · exact hmono (h x0 hx0 hx1 z0 hz0 hd)
      · have hm : (x0.id : Int) ∈ mayL V.opn o.l := by
          unfold markF at hxo
          rw [if_pos hxb, hmb] at hxo
          have hxo : (x0.out || (mayL V.opn o.l).contains (x0.id : Int)) = true := hxo
          have : x0.out = false := by simpa using hx1
          rw [this, Bool.false_or] at hxo
          simpa using hxo
        obtain ⟨p, hp, ep⟩ := List.getElem_of_mem (hin hx0 hxb)
        have hxp : o.l[p]? = some x0 := by rw [List.getElem?_eq_getElem hp, ep]
        rw [mayL_iff (g.srt o hom) hxp (g.f x0 hx0)] at hm
        rcases hd with hd | ⟨h1, h2⟩
        · have hop : V.opn (z0.id : Int) = true := opn_iff.2 ⟨z0, hz0, rfl⟩
          have hzm := hm.1 _ hd hop
          obtain ⟨y, hy, ey⟩ := may_mem hzm
          have : y = z0 := map_inj g.s.ids (on_all hom hy) hz0 (by omega)
          subst this
          exact hmk (g.s.chb o hom y hy) hzm
        · unfold meetR at h2
          rw [Bool.and_eq_true, decide_eq_true_eq] at h2
          have hzb : z0.b = o.b := by rw [h2.1]; exact hxb
          exact hmk hzb (hm.2 z0 ((mem_take_srt (g.srt o hom) hxp).2 ⟨hin hz0 hzb, h1⟩) h2.2)
    · have hx1 : x0.out = true := by
        unfold markF at hxo
        rwa [if_neg hxb] at hxo
      exact hmono (h x0 hx0 hx1 z0 hz0 hd)
  · rw [wrV_no he]; exact h
theorem Ou.fl : Ou (flV V) := by
  intro x hx hxo
  rw [all_fl] at hx
  have := (List.mem_filter.1 hx).2
  rw [hxo] at this; cases this
theorem mem_addX {x y : Ch} (h : y ∈ (addX V x).all) : y ∈ V.all ∨ y = x := by
  obtain ⟨o, ho, hy⟩ := mem_all.1 h
  obtain ⟨p, hp, rfl⟩ := List.mem_map.1 ho
  have key : y ∈ p.l → y ∈ V.all := fun hy => by
    have : y ∈ (newO V x.b).all := mem_all.2 ⟨p, hp, hy⟩
    rwa [all_newO] at this
  split at hy
  · rcases List.mem_append.1 hy with hy | hy
    · exact .inl (key hy)
    · exact .inr (List.mem_singleton.1 hy)
  · exact .inl (key hy)
theorem Ou.pat (h : Ou V) (g : Gd V) (n f : Int) (data : Bk) (after : List Int) : Ou (patS V n f data after) := by
  unfold patS
  split
  · intro x hx hxo z hz hd
    have hnew : ∀ b frm data after, (newX V b frm data after).out = false ∧ (newX V b frm data after).id = V.last + 1 := fun _ _ _ _ => ⟨rfl, rfl⟩
    rcases mem_addX hx with hx | rfl
    · rcases mem_addX hz with hz | rfl
      · exact h x hx hxo z hz hd
      · exfalso
        have h1 := (g.s.idr x hx).2
        rcases hd with hd | ⟨h2, _⟩
        · have := g.f x hx _ hd
          rw [(hnew _ _ _ _).2] at this
          omega
        · rw [(hnew _ _ _ _).2] at h2
          omega
    · rw [(hnew _ _ _ _).1] at hxo; cases hxo
  · exact h
/-- Rounds so far: the same changes, fewer; what is closed, all that it waits for is closed. -/
structure Pj (V W : Ps) : Prop where
  sub : ∀ y ∈ W.all, ∃ x ∈ V.all, ∃ u, y = { x with out := u }
  ou : Ou W
  cl : ∀ x ∈ V.all, W.opn (x.id : Int) = false → ∀ z ∈ V.all, Dep x z → W.opn (z.id : Int) = false
  last : W.last = V.last
theorem Pj.start (h : Ou V) : Pj V V where
  sub y hy := ⟨y, hy, y.out, rfl⟩
  ou := h
  cl x hx ho := absurd rfl ((opn_not.1 ho) x hx)
  last := rfl
theorem Pj.wr (h : Pj V W) (g : Gd W) (n : Int) : Pj V (wrV W n) := by
  have ho := wr_opn (V := W) n
  refine ⟨fun y hy => ?_, h.ou.wr g n, ?_, by rw [ho.2.1]; exact h.last⟩
  · by_cases he : wrVE W n = 0
    · obtain ⟨o, _, _, rfl, e⟩ := wrV_is he
      rw [e, all_mapX] at hy
      obtain ⟨y0, hy0, rfl⟩ := List.mem_map.1 hy
      obtain ⟨x, hx, u, rfl⟩ := h.sub y0 hy0
      unfold markF
      split
      · exact ⟨x, hx, _, rfl⟩
      · exact ⟨x, hx, u, rfl⟩
    · rw [wrV_no he] at hy; exact h.sub y hy
  · rw [ho.1]; exact h.cl
theorem Pj.fl (h : Pj V W) (g : Gd V) : Pj V (flV W) where
  sub y hy := by
    rw [all_fl] at hy
    exact h.sub y (List.mem_filter.1 hy).1
  ou := Ou.fl
  last := h.last
  cl x hx ho z hz hd := by
    cases hzo : (flV W).opn (z.id : Int) with
    | false => rfl
    | true =>
      exfalso
      obtain ⟨z', hz', hzout, ez⟩ := opn_fl.1 hzo
      cases hxo : W.opn (x.id : Int) with
      | false => exact (opn_not.1 (h.cl x hx hxo z hz hd)) z' hz' ez
      | true =>
        obtain ⟨x', hx', ex⟩ := opn_iff.1 hxo
        have hxout : x'.out = true := by
          cases hxx : x'.out with
          | true => rfl
          | false =>
            have := opn_fl.2 ⟨x', hx', hxx, ex⟩
            rw [ho] at this; cases this
        obtain ⟨x0, hx0, u, rfl⟩ := h.sub x' hx'
        obtain ⟨z0, hz0, v, rfl⟩ := h.sub z' hz'
        have e1 : x0 = x := map_inj g.s.ids hx0 hx (by have ex : (x0.id : Int) = x.id := ex; omega)
        have e2 : z0 = z := map_inj g.s.ids hz0 hz (by have ez : (z0.id : Int) = z.id := ez; omega)
        subst e1 e2
        have := h.ou _ hx' hxout _ hz' hd
        rw [this] at hzout; cases hzout
/-- All that one waits for is safe, once it is. -/
theorem Pj.safe (h : Pj V W) (g : Gd V) {id k : Int} (ho : W.opn id = false) (hk : k ∈ waitsV V id) : safeV W k = true := by
  obtain ⟨x, hx, e, y, hy, rfl⟩ := (mem_waitsV g.s g.f).1 hk
  have : ∀ {x y : Ch}, Rc V.all x y → x ∈ V.all → W.opn (x.id : Int) = false → W.opn (y.id : Int) = false := by
    intro x y hr
    induction hr with
    | refl x => exact fun _ h => h
    | head hz hd _ ih => exact fun hx hxo => ih hz (h.cl _ hx hxo _ hz hd)
  have hyo := this hy hx (by rw [e]; exact ho)
  have hid := g.s.idr y (hy.mem hx)
  unfold safeV
  rw [hyo, h.last, decide_eq_true (by omega)]
  rfl
/-- What holds of a store behind changes, writes and flushes. -/
structure Lw (V : Ps) : Prop where
  srt : Srt V
  ou : Ou V
  one : One1 V
theorem Lw.pat (h : Lw V) (g : Gd V) (n f : Int) (data : Bk) (after : List Int) : Lw (patS V n f data after) := ⟨h.srt.pat g.s n f data after, h.ou.pat g n f data after, h.one.pat n f data after⟩
theorem Lw.wr (h : Lw V) (g : Gd V) (n : Int) : Lw (wrV V n) := ⟨h.srt.wr n, h.ou.wr g n, h.one.wr n⟩
theorem Lw.fl (h : Lw V) (hl : V.C.D.left = -1) : Lw (flV V) := ⟨h.srt.fl, Ou.fl, One1.fl hl⟩
theorem Lw.start (k n : Nat) : Lw (zeroV k n) where
  srt o ho := by cases ho
  ou x hx := by cases hx
  one b hb _ := by
    have hb : b < (newSt k).vs.length := hb
    show (verOf (newSt k) b).length = 1
    rw [ver_at hb]
    rw [List.eq_of_mem_replicate (show (newSt k).vs[b] ∈ List.replicate k [zeroB] from List.getElem_mem hb)]; rfl
end
end Go.Proofs.YtocjjigmpgekfaaGreat
end
