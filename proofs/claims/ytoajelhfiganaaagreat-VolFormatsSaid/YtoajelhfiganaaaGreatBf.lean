/- Parts of the proof, in order: what the statement leans on. -/
import Derived.Test.YtoajelhfiganaaaGreatBe
section
open Go Go.Den Go.Proofs
namespace Go.Proofs.YtoajelhfiganaaaGreat
structure A3 where
  k : Int
  n : Int
  xs : List UInt8
def A3.fit (x : A3) (w : World) (cs : List Value) : Prop := ∃ (ad : Option Addr) (cd : Nat), cs = [.int .i64 x.k, .int .i64 x.n, .slice ad x.xs.length cd] ∧ Row w ad (u8L x.xs) ∧ (ad = none → x.xs.length = 0 ∧ cd = 0) ∧ x.xs.length ≤ 9223372036854775807
def Acts3 (w : World) (a : Option Addr) (acts : List A3) : Prop :=
  acts = [] ∨ ∃ (b o : Nat) (H : List Value), a = some ⟨b, o, none⟩ ∧ At w b o H ∧ H.length = acts.length * 3 ∧ ∀ (r : Nat) (x : A3), acts[r]? = some x → x.fit w ((H.drop (r * 3)).take 3)
section
variable {w w0 : World} {K : Value → World → Prop}
theorem A3.fit.nos {x : A3} {w' : World} {cs : List Value} (h : x.fit w cs) (m : Mod No w w') : x.fit w' cs := by
  obtain ⟨ad, cd, h1, h2, h3⟩ := h
  exact ⟨ad, cd, h1, h2.nos m, h3⟩
theorem Acts3.nos {w' : World} {a : Option Addr} {acts : List A3} (h : Acts3 w a acts) (m : Mod No w w') : Acts3 w' a acts := by
  rcases h with h | ⟨b, o, H, h1, h2, h3, h4⟩
  · exact .inl h
  · exact .inr ⟨b, o, H, h1, h2.keep m id, h3, fun r x hx => (h4 r x hx).nos m⟩
theorem Count_c {k n : Int} (h1 : 1 ≤ n) (h2 : n ≤ 1000) (hk : K (.int .i64 (k % n)) w) : Cal Tryz.prog F_leveeref01_Count #[.int .i64 k, .int .i64 n] w K := by
  apply C_leveeref01_Count
  unfold D_leveeref01_Count
  refine ff (decide_eq_false (by omega)) ⟨_, rem_run (by omega), ?_⟩
  have hlt : k.tmod n < n ∧ -n < k.tmod n := by
    constructor
    · exact Int.tmod_lt_of_pos _ (by omega)
    · have := Int.tmod_lt_of_pos (-k) (b := n) (by omega)
      rw [Int.neg_tmod] at this; omega
  refine Share.cut (fun x w' => x = [.int .i64 (k % n)] ∧ w' = w) (cond_of (fun hb => ⟨?_, rfl⟩) (fun hb => ⟨?_, rfl⟩)) ?_
  · have hb := of_decide_eq_true hb
    rw [wrap64 (x := k.tmod n + n) (by omega) (by omega)]
    congr 2
    rw [Int.emod_eq_tmod, if_neg]
    · have : (n.natAbs : Int) = n := by omega
      omega
    · rintro (h | h)
      · have := Int.tmod_nonneg n h; omega
      · have : k.tmod n = 0 := Int.tmod_eq_zero_of_dvd h
        omega
  · have hb := of_decide_eq_false hb
    congr 2
    rw [Int.emod_eq_tmod]
    by_cases h0 : 0 ≤ k
    · rw [if_pos (.inl h0)]; simp
    · by_cases hd : n ∣ k
      · rw [if_pos (.inr hd)]; simp
      · exfalso
        have h3 : k.tmod n ≤ 0 := by
          have := Int.tmod_nonneg (a := -k) n (by omega)
          rw [Int.neg_tmod] at this; omega
        have h4 : k.tmod n = 0 := by omega
        exact hd (Int.dvd_of_tmod_eq_zero h4)
  · rintro x w' ⟨rfl, rfl⟩
    exact ⟨_, rfl, hk⟩
end
end Go.Proofs.YtoajelhfiganaaaGreat
end
section
open Go Go.Den Go.Proofs
namespace Go.Proofs.YtoajelhfiganaaaGreat
def Srt (V : Ps) : Prop := ∀ o ∈ V.ons, o.l.Pairwise fun x y => x.id < y.id
def One1 (V : Ps) : Prop := ∀ b, b < V.C.D.vs.length → (∀ o ∈ V.ons, o.b ≠ b) → (verOf V.C.D b).length = 1
theorem Srt.add {V : Ps} (h : Srt V) (hs : WFS V) {x : Ch} (hx : x.id = V.last + 1) : Srt (addX V x) := by
  intro o ho
  obtain ⟨p, hp, rfl⟩ := List.mem_map.1 ho
  have hold : p ∈ V.ons ∨ p.l = [] := by
    unfold newO at hp
    split at hp
    · exact .inl hp
    · rcases List.mem_append.1 hp with hp | hp
      · exact .inl hp
      · simp at hp; right; rw [hp]
  have hpl : p.l.Pairwise fun x y => x.id < y.id := by
    rcases hold with hp | hp
    · exact h p hp
    · rw [hp]; exact List.Pairwise.nil
  split
  · show (p.l ++ [x]).Pairwise _
    rw [List.pairwise_append]
    refine ⟨hpl, by simp, fun a ha c hc => ?_⟩
    simp at hc; subst hc
    rcases hold with hp | hp
    · have := hs.idr a (on_all hp ha); omega
    · rw [hp] at ha; cases ha
  · exact hpl
theorem Srt.wr {V : Ps} (h : Srt V) (n : Int) : Srt (wrV V n) := by
  unfold wrV
  split
  · intro o ho
    obtain ⟨p, hp, rfl⟩ := List.mem_map.1 ho
    show (p.l.map _).Pairwise _
    rw [List.pairwise_map]
    refine (h p hp).imp fun {a c} hac => ?_
    rw [(markF_like V n.toNat).id, (markF_like V n.toNat).id]; exact hac
  · exact h
theorem One1.wr {V : Ps} (h : One1 V) (n : Int) : One1 (wrV V n) := by
  intro b hb hno
  by_cases hE : wrVE V n = 0
  · have e : wrV V n = { V with C := { V.C with D := wrSt V.C.D n (imgB V n.toNat) }, ons := mapX V (markF V n.toNat) } := by unfold wrV; rw [if_pos hE]
    rw [e] at hb hno ⊢
    have hno' : ∀ o ∈ V.ons, o.b ≠ b := fun o ho => hno { o with l := o.l.map (markF V n.toNat) } (List.mem_map.2 ⟨o, ho, rfl⟩)
    have hb : b < (wrSt V.C.D n (imgB V n.toNat)).vs.length := hb
    rw [len_wr] at hb
    have h1 := h b hb hno'
    show (verOf (wrSt V.C.D n (imgB V n.toNat)) b).length = 1
    have hnb : n ≠ b := by
      rintro rfl
      unfold wrVE at hE
      split at hE
      · omega
      · split at hE
        · omega
        · rename_i hn
          cases ho : onOf V (b : Int) with
          | none => rw [ho] at hn; exact hn rfl
          | some o =>
            obtain ⟨h1, h2⟩ := onOf_some ho
            exact hno' o h1 (by omega)
    have hn0 : 0 ≤ n := by
      unfold wrVE at hE
      split at hE
      · omega
      · rename_i he
        have := err_range (Classical.not_not.1 he)
        obtain ⟨k, hk, _⟩ := this
        omega
    unfold wrSt
    split
    · exact h1
    · unfold verOf at h1 ⊢
      rw [if_neg (by omega), Int.toNat_natCast] at h1 ⊢
      rw [List.getElem?_set_ne (by omega)]; exact h1
  · have e : wrV V n = V := by unfold wrV; rw [if_neg hE]
    rw [e] at hb hno ⊢
    exact h b hb hno
theorem least_may {V : Ps} (hs : WFS V) (hf : ∀ x ∈ V.all, ∀ k ∈ x.after, k < (x.id : Int)) (hsrt : Srt V) {o : On} {x : Ch} (ho : o ∈ V.ons) (hx : x ∈ o.l) (hmin : ∀ y ∈ V.all, x.id ≤ y.id) : (x.id : Int) ∈ mayL V.opn o.l := by
  obtain ⟨j, hj, rfl⟩ := List.getElem_of_mem hx
  have hj0 : j = 0 := by
    by_cases e : j = 0
    · exact e
    · have h1 := List.pairwise_iff_getElem.1 (hsrt o ho) 0 j (by omega) hj (by omega)
      have h2 := hmin _ (on_all ho (List.getElem_mem (by omega : 0 < o.l.length)))
      omega
  subst hj0
  refine mayN_mono (n := 1) (by omega) ?_
  unfold mayN
  rw [List.getElem?_eq_getElem hj]
  show (o.l[0].id : Int) ∈ (if badB V.opn (o.l.take 0) (mayN V.opn o.l 0) o.l[0] = true then _ else _)
  rw [if_neg]
  · simp
  · unfold badB
    rw [Bool.or_eq_true, List.any_eq_true, List.any_eq_true]
    rintro (⟨k, hk, e⟩ | ⟨y, hy, _⟩)
    · rw [Bool.and_eq_true] at e
      have hop := e.1
      unfold Ps.opn at hop
      rw [List.any_eq_true] at hop
      obtain ⟨y, hy, ey⟩ := hop
      have ey : (y.id : Int) = k := by simpa using ey
      have h1 := hf _ (on_all ho hx) k hk
      have h2 := hmin y hy
      omega
    · simp at hy
theorem wr_opn {V : Ps} (n : Int) : (wrV V n).opn = V.opn ∧ (wrV V n).last = V.last ∧ (wrV V n).ons.map (·.b) = V.ons.map (·.b) ∧ (wrV V n).C.D.vs.length = V.C.D.vs.length := by
  unfold wrV
  split
  · have hL := markF_like V n.toNat
    refine ⟨opn_mapX hL, rfl, ?_, len_wr _ _ _⟩
    show (mapX V (markF V n.toNat)).map (·.b) = _
    unfold mapX; rw [List.map_map]; rfl
  · exact ⟨rfl, rfl, rfl, rfl⟩
def Sim (V W : Ps) : Prop := W.last = V.last ∧ ∃ f, Like f ∧ W.ons = mapX V f
theorem Sim.refl (V : Ps) : Sim V V := by
  refine ⟨rfl, fun x => x, ⟨fun _ => rfl, fun _ => rfl, fun _ => rfl, fun _ => rfl, fun _ => rfl⟩, ?_⟩
  unfold mapX
  conv => lhs; rw [← List.map_id V.ons]
  apply List.map_congr_left
  intro o _
  show o = { o with l := o.l.map fun x => x }
  rw [List.map_id']
theorem Sim.wr {V W : Ps} (h : Sim V W) (n : Int) : Sim V (wrV W n) := by
  obtain ⟨h1, f, hf, h2⟩ := h
  unfold wrV
  split
  · have hL := markF_like W n.toNat
    refine ⟨h1, fun x => markF W n.toNat (f x), ⟨fun x => by rw [hL.id, hf.id], fun x => by rw [hL.b, hf.b], fun x => by rw [hL.frm, hf.frm], fun x => by rw [hL.data, hf.data], fun x => by rw [hL.after, hf.after]⟩, ?_⟩
    show mapX W (markF W n.toNat) = _
    unfold mapX
    rw [h2]
    unfold mapX
    rw [List.map_map]
    apply List.map_congr_left
    intro o _
    simp only [Function.comp]
    rw [List.map_map]; rfl
  · exact ⟨h1, f, hf, h2⟩
theorem Sim.bs {V W : Ps} (h : Sim V W) : W.ons.map (·.b) = V.ons.map (·.b) := by
  obtain ⟨_, f, _, h2⟩ := h
  rw [h2]; unfold mapX; rw [List.map_map]; rfl
theorem Sim.ids {V W : Ps} (h : Sim V W) : W.all.map (·.id) = V.all.map (·.id) := by
  obtain ⟨_, f, hf, h2⟩ := h
  have : W.all = V.all.map f := by
    have := all_mapX (V := V) (C := V.C) (f := f)
    unfold Ps.all at this ⊢
    rw [h2]; exact this
  rw [this, List.map_map]
  congr 1
  funext x
  exact hf.id x
def Mkd (V : Ps) (i : Nat) : Prop := ∃ x ∈ V.all, x.id = i ∧ x.out = true
theorem Mkd.wr {V : Ps} {i : Nat} (h : Mkd V i) (n : Int) : Mkd (wrV V n) i := by
  obtain ⟨x, hx, e1, e2⟩ := h
  unfold wrV
  split
  · refine ⟨markF V n.toNat x, ?_, by rw [(markF_like V n.toNat).id]; exact e1, ?_⟩
    · show _ ∈ Ps.all ⟨_, V.last, mapX V (markF V n.toNat)⟩
      rw [all_mapX]; exact List.mem_map.2 ⟨x, hx, rfl⟩
    · unfold markF
      split
      · show (x.out || _) = true; rw [e2]; rfl
      · exact e2
  · exact ⟨x, hx, e1, e2⟩
theorem wrVE_on {V : Ps} (hs : WFS V) {o : On} (ho : o ∈ V.ons) : wrVE V (o.b : Int) = 0 := by
  unfold wrVE
  rw [if_neg (by rw [(rd_at V.C.D (hs.onlt o ho)).1]; simp), onOf_mem hs ho]; rfl
theorem Mkd.least {V : Ps} (hs : WFS V) (hf : ∀ x ∈ V.all, ∀ k ∈ x.after, k < (x.id : Int)) (hsrt : Srt V) {o : On} {x : Ch} (ho : o ∈ V.ons) (hx : x ∈ o.l) (hmin : ∀ y ∈ V.all, x.id ≤ y.id) : Mkd (wrV V (o.b : Int)) x.id := by
  have hm := least_may hs hf hsrt ho hx hmin
  unfold wrV
  rw [if_pos (wrVE_on hs ho), Int.toNat_natCast]
  refine ⟨markF V o.b x, ?_, (markF_like V o.b).id x, ?_⟩
  · show _ ∈ Ps.all ⟨_, V.last, mapX V (markF V o.b)⟩
    rw [all_mapX]; exact List.mem_map.2 ⟨x, on_all ho hx, rfl⟩
  · unfold markF
    rw [if_pos (hs.chb o ho x hx)]
    show (x.out || (mayB V o.b).contains (x.id : Int)) = true
    have : mayB V o.b = mayL V.opn o.l := by unfold mayB; rw [onOf_mem hs ho]
    rw [this]
    have : (mayL V.opn o.l).contains (x.id : Int) = true := by simpa using hm
    rw [this, Bool.or_true]
structure Rd (V W : Ps) (ks : List Int) : Prop where
  sim : Sim V W
  srt : Srt W
  one : One1 W
  mkd : ∀ o ∈ V.ons, ∀ x ∈ o.l, (∀ y ∈ V.all, x.id ≤ y.id) → (o.b : Int) ∈ ks → Mkd W x.id
theorem Rd.start {V : Ps} (h : Srt V) (h1 : One1 V) : Rd V V [] := ⟨Sim.refl V, h, h1, fun _ _ _ _ _ h => by cases h⟩
theorem Rd.next {V W : Ps} {ks : List Int} {n : Int} (h : Rd V W ks) (hs : WFS W) (hf : ∀ x ∈ W.all, ∀ k ∈ x.after, k < (x.id : Int)) : Rd V (wrV W n) (ks ++ [n]) := by
  refine ⟨h.sim.wr n, h.srt.wr n, h.one.wr n, fun o ho x hx hmin hk => ?_⟩
  rcases List.mem_append.1 hk with hk | hk
  · exact (h.mkd o ho x hx hmin hk).wr n
  · have hn : n = (o.b : Int) := by simpa using (List.mem_singleton.1 hk).symm
    subst hn
    obtain ⟨_, f, hL, e⟩ := h.sim
    have ho' : { o with l := o.l.map f } ∈ W.ons := by rw [e]; exact List.mem_map.2 ⟨o, ho, rfl⟩
    have := Mkd.least hs hf h.srt (o := { o with l := o.l.map f }) (x := f x) ho' (List.mem_map.2 ⟨x, hx, rfl⟩) fun y hy => by
      have hm : y.id ∈ W.all.map (·.id) := List.mem_map.2 ⟨y, hy, rfl⟩
      rw [h.sim.ids] at hm
      obtain ⟨z, hz, ez⟩ := List.mem_map.1 hm
      have := hmin z hz
      rw [hL.id]; omega
    rw [hL.id] at this
    exact this
end Go.Proofs.YtoajelhfiganaaaGreat
open Go Go.Den Go.Proofs
namespace Go.Proofs.YtoajelhfiganaaaGreat
structure A6 where
  k : Int
  n : Int
  f : Int
  xs : List UInt8
  af : List Int
  raw : Bool
def A6.fit (x : A6) (w : World) (cs : List Value) : Prop := ∃ (ad : Option Addr) (cd : Nat) (aa : Option Addr) (ca : Nat), cs = [.int .i64 x.k, .int .i64 x.n, .int .i64 x.f, .slice ad x.xs.length cd, .slice aa x.af.length ca, .bool x.raw] ∧
  Row w ad (u8L x.xs) ∧ (ad = none → x.xs.length = 0 ∧ cd = 0) ∧ x.xs.length ≤ 9223372036854775807 ∧ Row w aa (iL x.af) ∧ x.af.length ≤ 9223372036854775807
section
variable {w w' w0 : World} {R : Nat → Prop} {sp d : Nat} {V : Ps} {K : Value → World → Prop}
theorem Pz.wf (h : Pz w0 R w sp d V) : WFS V ∧ (∀ x ∈ V.all, ∀ k ∈ x.after, k < (x.id : Int)) ∧ (∀ o ∈ V.ons, o.l ≠ []) ∧ V.C.D.left = -1 ∧ WF V.C.D := by
  obtain ⟨C, eD, eM, hP⟩ := h
  have hwf := hP.wf
  refine ⟨?_, hwf.1.afl, hwf.1.lne, ?_, ?_⟩
  · exact WFS.cache (P := ⟨C, V.last, V.ons⟩) (C := V.C) hwf.2.1 (by rw [eD]) eM.symm
  · rw [← eD]; exact hwf.1.run
  · rw [← eD]; exact hwf.2.2.2.1
theorem Pz.full (h : Pz w0 R w sp d V) : ∃ C, C.D = V.C.D ∧ WFP ⟨C, V.last, V.ons⟩ := by
  obtain ⟨C, eD, eM, hP⟩ := h
  exact ⟨C, eD, hP.wf.1⟩
end
end Go.Proofs.YtoajelhfiganaaaGreat
open Go Go.Den Go.Proofs
namespace Go.Proofs.YtoajelhfiganaaaGreat
section
variable {w w' w0 : World} {R : Nat → Prop} {sp d : Nat} {V : Ps} {K : Value → World → Prop}
theorem Row.lt {w : World} {a : Option Addr} {xs : List Value} {q : Addr} (h : Row w a xs) (hne : xs ≠ []) (hq : a = some q) : q.block < w.heap.size := by
  rcases h with h | ⟨b, o, e, hat⟩
  · exact absurd h hne
  · rw [hq] at e; cases e; exact hat.lt
theorem u8L_ne {xs : List UInt8} (h : xs ≠ []) : u8L xs ≠ [] := fun e => h (List.eq_nil_of_length_eq_zero (by have := congrArg List.length e; rw [length_u8L] at this; exact this))
theorem Bnd_fl {D : St} (h : D.left = -1) {m : Nat} (hm : 1 ≤ m) : Bnd (flSt D) m := by
  intro v hv
  have e : flSt D = ⟨D.vs.map fun v => [lastV v], dec D.left⟩ := by unfold flSt; rw [if_neg (by omega)]
  rw [e] at hv
  obtain ⟨u, _, rfl⟩ := List.mem_map.1 hv
  exact hm
end
end Go.Proofs.YtoajelhfiganaaaGreat
end
section
open Go Go.Den Go.Proofs
namespace Go.Proofs.YtoajelhfiganaaaGreat
structure Mk where
  b : Nat
  after : List Nat
theorem withL_at : ∀ {L : List Ch} {b : Bk} (k : Nat), b.length = 256 → (∀ x ∈ L, x.data = [1] ∧ x.frm < 256) → ((withL b L)[k]? = some 1 ↔ (∃ x ∈ L, x.frm = k) ∨ b[k]? = some 1)
  | [], b, k, _, _ => by
    show b[k]? = some 1 ↔ _
    simp
  | c :: r, b, k, hb, hL => by
    obtain ⟨hd, hf⟩ := hL c (by simp)
    have hlen : c.frm + c.data.length ≤ b.length := by rw [hd, hb]; simp; omega
    have ih := withL_at (L := r) (b := overB b c.frm c.data) k (by rw [overB_len hlen, hb]) fun x hx => hL x (by simp [hx])
    show (withL (overB b c.frm c.data) r)[k]? = some 1 ↔ _
    rw [ih, overB_get hlen, hd]
    have e1 : ([1] : List UInt8).length = 1 := rfl
    rw [e1]
    by_cases hk : c.frm = k
    · subst hk
      rw [if_pos (by omega), Nat.sub_self]
      constructor
      · intro _; exact .inl ⟨c, by simp, rfl⟩
      · intro _; exact .inr rfl
    · rw [if_neg (by omega)]
      constructor
      · rintro (⟨x, hx, e⟩ | e)
        · exact .inl ⟨x, by simp [hx], e⟩
        · exact .inr e
      · rintro (⟨x, hx, e⟩ | e)
        · rcases List.mem_cons.1 hx with rfl | hx
          · exact absurd e hk
          · exact .inl ⟨x, hx, e⟩
        · exact .inr e
theorem opn_iff {V : Ps} {n : Int} : V.opn n = true ↔ ∃ x ∈ V.all, (x.id : Int) = n := by
  unfold Ps.opn
  rw [List.any_eq_true]
  constructor
  · rintro ⟨x, hx, e⟩; exact ⟨x, hx, by simpa using e⟩
  · rintro ⟨x, hx, e⟩; exact ⟨x, hx, by simpa using e⟩
theorem opn_not {V : Ps} {n : Int} : V.opn n = false ↔ ∀ x ∈ V.all, (x.id : Int) ≠ n := by
  rw [← Bool.not_eq_true, opn_iff]
  constructor
  · intro h x hx e; exact h ⟨x, hx, e⟩
  · rintro h ⟨x, hx, e⟩; exact h x hx e
def VerOk (ms : List Mk) (op : Int → Bool) (b : Nat) (v : Bk) : Prop :=
  (∀ (k : Nat) (m : Mk), ms[k]? = some m → m.b = b → (op ((k + 1 : Nat) : Int) = false → v[k]? = some 1) ∧
    (v[k]? = some 1 → ∀ j ∈ m.after, op ((j + 1 : Nat) : Int) = false ∨ ∃ m', ms[j]? = some m' ∧ m'.b = b ∧ v[j]? = some 1)) ∧
  ∀ k : Nat, ms.length ≤ k → v[k]? ≠ some 1
structure OrdI (ms : List Mk) (V : Ps) : Prop where
  last : V.last = ms.length
  len : V.C.D.vs.length = 5
  small : ms.length ≤ 60
  mk_ : ∀ (k : Nat) (m : Mk), ms[k]? = some m → m.b < 5 ∧ ∀ j ∈ m.after, j < k
  ch : ∀ x ∈ V.all, ∃ k m, x.id = k + 1 ∧ ms[k]? = some m ∧ x.b = m.b ∧ x.frm = k ∧ x.data = [1] ∧ ∀ j ∈ m.after, ((j + 1 : Nat) : Int) ∈ x.after ∨ V.opn ((j + 1 : Nat) : Int) = false
  safe : ∀ (k : Nat) (m : Mk), ms[k]? = some m → V.opn ((k + 1 : Nat) : Int) = false → ∀ j ∈ m.after, V.opn ((j + 1 : Nat) : Int) = false
  ver : ∀ b : Nat, b < 5 → ∀ v ∈ verOf V.C.D b, VerOk ms V.opn b v
  base : ∀ o ∈ V.ons, (∀ (k : Nat) (m : Mk), ms[k]? = some m → m.b = o.b → (o.base[k]? = some 1 ↔ V.opn ((k + 1 : Nat) : Int) = false)) ∧ ∀ k : Nat, ms.length ≤ k → o.base[k]? ≠ some 1
  out : ∀ o ∈ V.ons, ∀ x ∈ o.l, x.out = true → ∀ j ∈ x.after, V.opn j = true → ∃ y ∈ o.l, (y.id : Int) = j ∧ y.out = true
theorem OrdI.dat {ms : List Mk} {V : Ps} (h : OrdI ms V) {x : Ch} (hx : x ∈ V.all) : x.data = [1] ∧ x.frm < 256 := by
  obtain ⟨k, m, _, h2, _, h4, h5, _⟩ := h.ch x hx
  have := (List.getElem?_eq_some_iff.1 h2).1
  have := h.small
  exact ⟨h5, by omega⟩
theorem OrdI.wr {ms : List Mk} {V : Ps} (h : OrdI ms V) (hs : WFS V) (hl : V.C.D.left = -1) (hD : WF V.C.D) (n : Int) : OrdI ms (wrV V n) := by
  by_cases hE : ¬ wrVE V n = 0
  · have : wrV V n = V := by unfold wrV; rw [if_neg hE]
    rw [this]; exact h
  have hE : wrVE V n = 0 := Classical.not_not.1 hE
  have he : errOf V.C.D n = 0 := by
    unfold wrVE at hE
    split at hE
    · omega
    · rename_i he; exact Classical.not_not.1 he
  obtain ⟨b, rfl, hb⟩ := err_range he
  have hoo : ∃ o, onOf V (b : Int) = some o := by
    unfold wrVE at hE
    rw [if_neg (by rw [he]; simp)] at hE
    cases ho : onOf V (b : Int) with
    | none => rw [ho] at hE; simp at hE
    | some o => exact ⟨o, rfl⟩
  obtain ⟨o, ho⟩ := hoo
  obtain ⟨hom, hob⟩ := onOf_some ho
  have hob : o.b = b := by omega
  have eV : wrV V b = ⟨{ V.C with D := wrSt V.C.D b (imgB V b) }, V.last, mapX V (markF V b)⟩ := by unfold wrV; rw [if_pos hE, Int.toNat_natCast]
  have hL := markF_like V b
  have hop : (wrV V b).opn = V.opn := (wr_opn (V := V) b).1
  have hil := img_len hs hD hb
  have hbase := hs.base o hom
  have hmb : mayB V b = mayL V.opn o.l := by unfold mayB; rw [ho]
  have himg : ∀ k, (imgB V b)[k]? = some 1 ↔ (∃ x ∈ o.l, (x.id : Int) ∈ mayL V.opn o.l ∧ x.frm = k) ∨ o.base[k]? = some 1 := fun k => by
    unfold imgB
    rw [ho]
    show (withL o.base _)[k]? = some 1 ↔ _
    rw [withL_at k hbase fun x hx => h.dat (on_all hom (List.mem_filter.1 hx).1)]
    constructor
    · rintro (⟨x, hx, e⟩ | e)
      · obtain ⟨h1, h2⟩ := List.mem_filter.1 hx
        exact .inl ⟨x, h1, by simpa using h2, e⟩
      · exact .inr e
    · rintro (⟨x, hx, h1, e⟩ | e)
      · exact .inl ⟨x, List.mem_filter.2 ⟨hx, by simpa using h1⟩, e⟩
      · exact .inr e
  have hall : (wrV V b).all = V.all.map (markF V b) := by rw [eV]; exact all_mapX
  exact {
    last := by rw [(wr_opn (V := V) b).2.1]; exact h.last
    len := by rw [(wr_opn (V := V) b).2.2.2]; exact h.len
    small := h.small
    mk_ := h.mk_
    ch := fun x hx => by
      rw [hall] at hx
      obtain ⟨y, hy, rfl⟩ := List.mem_map.1 hx
      rw [hL.id, hL.b, hL.frm, hL.data, hL.after, hop]
      exact h.ch y hy
    safe := by rw [hop]; exact h.safe
    ver := fun b' hb' v hv => by
      rw [hop]
      rw [eV] at hv
      have hv : v ∈ verOf (wrSt V.C.D b (imgB V b)) b' := hv
      rw [(wr_is hb hil hl).2] at hv
      have hb5 : b' < V.C.D.vs.length := by rw [h.len]; exact hb'
      rw [ver_at (D := ⟨_, _⟩) (by simpa using hb5)] at hv
      simp only at hv
      by_cases e : b = b'
      · subst e
        rw [List.getElem_set_self] at hv
        rcases List.mem_append.1 hv with hv | hv
        · exact h.ver b hb' v (by rw [ver_at hb5]; exact hv)
        · have : v = imgB V b := by simpa using hv
          subst this
          refine ⟨fun k m hm hmb' => ⟨fun hsafe => ?_, fun h1 j hj => ?_⟩, fun k hk h1 => ?_⟩
          · rw [himg]
            exact .inr (((h.base o hom).1 k m hm (by omega)).2 hsafe)
          · rcases (himg k).1 h1 with ⟨x, hx, hmay, hfk⟩ | hbk
            · obtain ⟨k', m', e1, e2, e3, e4, e5, e6⟩ := h.ch x (on_all hom hx)
              have : k' = k := by omega
              subst this
              have : m' = m := by rw [e2] at hm; exact Option.some.inj hm
              subst this
              rcases e6 j hj with hja | hja
              · cases hopj : V.opn ((j + 1 : Nat) : Int) with
                | false => exact .inl rfl
                | true =>
                  right
                  have hw := mayL_waits (ids_on hs hom) hx hmay _ hja hopj
                  obtain ⟨y, hy, ey⟩ := mayN_mem _ _ hw
                  have hyl : y ∈ o.l := List.mem_of_mem_take hy
                  obtain ⟨ky, my, f1, f2, f3, f4, _, _⟩ := h.ch y (on_all hom hyl)
                  have : ky = j := by omega
                  subst this
                  refine ⟨my, f2, ?_, ?_⟩
                  · rw [← f3, hs.chb o hom y hyl]; exact hob
                  · rw [himg]
                    exact .inl ⟨y, hyl, by rw [← ey]; exact hw, f4⟩
              · exact .inl hja
            · exact .inl (h.safe k m hm (((h.base o hom).1 k m hm (by omega)).1 hbk) j hj)
          · rcases (himg k).1 h1 with ⟨x, hx, _, hfk⟩ | hbk
            · obtain ⟨k', m', e1, e2, e3, e4, _⟩ := h.ch x (on_all hom hx)
              have := (List.getElem?_eq_some_iff.1 e2).1
              omega
            · exact (h.base o hom).2 k hk hbk
      · rw [List.getElem_set_ne e] at hv
        exact h.ver b' hb' v (by rw [ver_at hb5]; exact hv)
    base := fun p hp => by
      rw [eV] at hp
      obtain ⟨q, hq, rfl⟩ := List.mem_map.1 hp
      rw [hop]
      exact h.base q hq
    out := fun p hp x hx hxo j hj hopj => by
      rw [hop] at hopj
      rw [eV] at hp
      obtain ⟨q, hq, rfl⟩ := List.mem_map.1 hp
      obtain ⟨y, hy, rfl⟩ := List.mem_map.1 hx
      rw [hL.after] at hj
      by_cases e : q.b = b
      · have : q = o := on_uniq hs hq hom (by omega)
        subst this
        have hmk : ∀ z ∈ q.l, (markF V b z).out = (z.out || (mayL V.opn q.l).contains (z.id : Int)) := fun z hz => by
          unfold markF; rw [if_pos (by rw [hs.chb q hq z hz]; exact e), hmb]
        rw [hmk y hy] at hxo
        by_cases hyo : y.out = true
        · obtain ⟨z, hz, e1, e2⟩ := h.out q hq y hy hyo j hj hopj
          exact ⟨markF V b z, List.mem_map.2 ⟨z, hz, rfl⟩, by rw [hL.id]; exact e1, by rw [hmk z hz, e2]; rfl⟩
        · have hym : (y.id : Int) ∈ mayL V.opn q.l := by
            have : y.out = false := by simpa using hyo
            rw [this, Bool.false_or] at hxo
            simpa using hxo
          have hw := mayL_waits (ids_on hs hq) hy hym j hj hopj
          obtain ⟨z, hz, ez⟩ := mayN_mem _ _ hw
          have hzl : z ∈ q.l := List.mem_of_mem_take hz
          refine ⟨markF V b z, List.mem_map.2 ⟨z, hzl, rfl⟩, by rw [hL.id]; exact ez.symm, ?_⟩
          rw [hmk z hzl]
          have : (mayL V.opn q.l).contains (z.id : Int) = true := by rw [← ez]; simpa using hw
          rw [this, Bool.or_true]
      · have hno : ∀ z ∈ q.l, markF V b z = z := fun z hz => by unfold markF; rw [if_neg (by rw [hs.chb q hq z hz]; exact e)]
        rw [hno y hy] at hxo
        obtain ⟨z, hz, e1, e2⟩ := h.out q hq y hy hxo j hj hopj
        exact ⟨markF V b z, List.mem_map.2 ⟨z, hz, rfl⟩, by rw [hL.id]; exact e1, by rw [hno z hz]; exact e2⟩ }
theorem OrdI.add {ms : List Mk} {V : Ps} {b : Nat} {ahead : List Nat} (h : OrdI ms V) (hs : WFS V) (hD : WF V.C.D) (hafl : ∀ x ∈ V.all, ∀ k ∈ x.after, k < (x.id : Int)) (hb : b < 5) (hah : ∀ j ∈ ahead, j < ms.length) (hsm : ms.length < 60) :
    OrdI (ms ++ [⟨b, ahead⟩]) (addX V (newX V b ms.length [1] (ahead.map fun j => ((j + 1 : Nat) : Int)))) := by
  have hb5 : b < V.C.D.vs.length := by rw [h.len]; exact hb
  have hcl := cont_len hs hD hb5
  have hsN := hs.newO hb5 hcl
  obtain ⟨o, ho, hob⟩ := newO_on (V := V) (b := b)
  have hxid : (newX V b ms.length [1] (ahead.map fun j => ((j + 1 : Nat) : Int))).id = ms.length + 1 := by show V.last + 1 = _; rw [h.last]
  generalize hx : newX V b ms.length [1] (ahead.map fun j => ((j + 1 : Nat) : Int)) = x at *
  have xb : x.b = b := by rw [← hx]; rfl
  have xf : x.frm = ms.length := by rw [← hx]; rfl
  have xd : x.data = [1] := by rw [← hx]; rfl
  have xa : x.after = (ahead.map fun j => ((j + 1 : Nat) : Int)).filter V.opn := by rw [← hx]; rfl
  have xo : x.out = false := by rw [← hx]; rfl
  have eA : addX V x = appO (newO V b) x := by unfold addX; rw [xb]
  obtain ⟨s, t, h1, h2, h3, hp⟩ := appO_all hsN ho (x := x) (by rw [xb]; exact hob)
  have hall : ∀ y, y ∈ (addX V x).all ↔ y = x ∨ y ∈ V.all := fun y => by
    rw [eA, hp.mem_iff, List.mem_cons, all_newO]
  have hop : ∀ n, (addX V x).opn n = (decide ((x.id : Int) = n) || V.opn n) := fun n => by
    have := opn_app hsN ho (x := x) (by rw [xb]; exact hob) n
    rw [opn_newO] at this
    rw [eA]; exact this
  have hopo : ∀ j, j < ms.length → (addX V x).opn ((j + 1 : Nat) : Int) = V.opn ((j + 1 : Nat) : Int) := fun j hj => by
    rw [hop, decide_eq_false (by omega), Bool.false_or]
  have hopx : (addX V x).opn ((ms.length + 1 : Nat) : Int) = true := by rw [hop, decide_eq_true (by omega), Bool.true_or]
  have hget : ∀ k, k < ms.length → (ms ++ [(⟨b, ahead⟩ : Mk)])[k]? = ms[k]? := fun k hk => List.getElem?_append_left hk
  have hcase : ∀ (k : Nat) (m : Mk), (ms ++ [(⟨b, ahead⟩ : Mk)])[k]? = some m → (k < ms.length ∧ ms[k]? = some m) ∨ (k = ms.length ∧ m = ⟨b, ahead⟩) := fun k m hm => by
    have hk := (List.getElem?_eq_some_iff.1 hm).1
    simp at hk
    by_cases e : k < ms.length
    · rw [hget k e] at hm; exact .inl ⟨e, hm⟩
    · have : k = ms.length := by omega
      subst this
      rw [List.getElem?_append_right (Nat.le_refl _), Nat.sub_self] at hm
      exact .inr ⟨rfl, by simpa using hm.symm⟩
  have hgo : ∀ (j : Nat) (m' : Mk), ms[j]? = some m' → (ms ++ [(⟨b, ahead⟩ : Mk)])[j]? = some m' := fun j m' hj => by
    rw [hget j (List.getElem?_eq_some_iff.1 hj).1]; exact hj
  have hC : (addX V x).C = V.C := by rw [eA]; exact (newO_C (V := V)).1
  have hmemv : ∀ v, v = atD V.C.D b → v ∈ verOf V.C.D b := fun v hv => by
    rw [hv]
    unfold atD
    rw [ver_at hb5]
    have hne := (hD.ver _ (List.getElem_mem hb5)).1
    unfold lastV
    rw [List.getLastD_eq_getLast?, List.getLast?_eq_some_getLast hne]
    exact List.getLast_mem hne
  -- the bytes of a block without its changes
  have hbase : ∀ p ∈ (newO V b).ons, (∀ (k : Nat) (m : Mk), ms[k]? = some m → m.b = p.b → (p.base[k]? = some 1 ↔ V.opn ((k + 1 : Nat) : Int) = false)) ∧ ∀ k : Nat, ms.length ≤ k → p.base[k]? ≠ some 1 := fun p hp => by
    unfold newO at hp
    split at hp
    · exact h.base p hp
    · rename_i hno
      rcases List.mem_append.1 hp with hp | hp
      · exact h.base p hp
      · have hp : p = ⟨b, contV V b, []⟩ := by simpa using hp
        subst hp
        have hcv : contV V b = atD V.C.D b := by unfold contV; rw [hno]
        have hvo := h.ver b hb _ (hmemv _ rfl)
        rw [← hcv] at hvo
        refine ⟨fun k m hm hmb => ?_, hvo.2⟩
        have hmb : m.b = b := hmb
        have hsafe : V.opn ((k + 1 : Nat) : Int) = false := by
          rw [opn_not]
          intro y hy e
          obtain ⟨k', m', f1, f2, f3, _⟩ := h.ch y hy
          have : k' = k := by omega
          subst this
          have : m' = m := by rw [f2] at hm; exact Option.some.inj hm
          subst this
          obtain ⟨q, hq, hyq⟩ := mem_all.1 hy
          exact onOf_none hno q hq (by rw [← hs.chb q hq y hyq, f3, hmb])
        exact ⟨fun _ => hsafe, fun _ => (hvo.1 k m hm hmb).1 hsafe⟩
  have honp : ∀ p ∈ (addX V x).ons, ∃ q ∈ (newO V b).ons, p.b = q.b ∧ p.base = q.base ∧ ∀ y, y ∈ p.l → y ∈ q.l ∨ y = x := fun p hp' => by
    rw [eA] at hp'
    obtain ⟨q, hq, rfl⟩ := List.mem_map.1 hp'
    refine ⟨q, hq, ?_, ?_, ?_⟩
    · split <;> rfl
    · split <;> rfl
    · intro y hy
      split at hy
      · rcases List.mem_append.1 hy with hy | hy
        · exact .inl hy
        · exact .inr (by simpa using hy)
      · exact .inl hy
  exact {
    last := by rw [eA]; show x.id = _; rw [hxid]; simp
    len := by rw [hC]; exact h.len
    small := by simp; omega
    mk_ := fun k m hm => by
      rcases hcase k m hm with ⟨hk, hm⟩ | ⟨rfl, rfl⟩
      · exact h.mk_ k m hm
      · exact ⟨hb, hah⟩
    ch := fun y hy => by
      rcases (hall y).1 hy with rfl | hy
      · refine ⟨ms.length, ⟨b, ahead⟩, hxid, by rw [List.getElem?_append_right (Nat.le_refl _), Nat.sub_self]; rfl, xb, xf, xd, fun j hj => ?_⟩
        have hjl := hah j hj
        rw [hopo j hjl]
        cases hopj : V.opn ((j + 1 : Nat) : Int) with
        | false => exact .inr rfl
        | true => left; rw [xa]; exact List.mem_filter.2 ⟨List.mem_map.2 ⟨j, hj, rfl⟩, hopj⟩
      · obtain ⟨k, m, e1, e2, e3, e4, e5, e6⟩ := h.ch y hy
        refine ⟨k, m, e1, hgo k m e2, e3, e4, e5, fun j hj => ?_⟩
        have hjk := (h.mk_ k m e2).2 j hj
        have hkl := (List.getElem?_eq_some_iff.1 e2).1
        rw [hopo j (by omega)]
        exact e6 j hj
    safe := fun k m hm hf j hj => by
      rcases hcase k m hm with ⟨hk, hm⟩ | ⟨rfl, rfl⟩
      · have hjk := (h.mk_ k m hm).2 j hj
        rw [hopo k hk] at hf
        rw [hopo j (by omega)]
        exact h.safe k m hm hf j hj
      · rw [hopx] at hf; cases hf
    ver := fun b' hb' v hv => by
      rw [hC] at hv
      obtain ⟨v1, v2⟩ := h.ver b' hb' v hv
      refine ⟨fun k m hm hmb => ?_, fun k hk => v2 k (by simp at hk; omega)⟩
      rcases hcase k m hm with ⟨hk, hm⟩ | ⟨rfl, rfl⟩
      · obtain ⟨w1, w2⟩ := v1 k m hm hmb
        refine ⟨fun hf => w1 (by rw [← hopo k hk]; exact hf), fun h1 j hj => ?_⟩
        have hjk := (h.mk_ k m hm).2 j hj
        rcases w2 h1 j hj with h3 | ⟨m', h3, h4, h5⟩
        · left; rw [hopo j (by omega)]; exact h3
        · exact .inr ⟨m', hgo j m' h3, h4, h5⟩
      · refine ⟨fun hf => ?_, fun h1 => absurd h1 (v2 _ (Nat.le_refl _))⟩
        rw [hopx] at hf; cases hf
    base := fun p hp => by
      obtain ⟨q, hq, e1, e2, _⟩ := honp p hp
      obtain ⟨b1, b2⟩ := hbase q hq
      rw [e1, e2]
      refine ⟨fun k m hm hmb => ?_, fun k hk => b2 k (by simp at hk; omega)⟩
      rcases hcase k m hm with ⟨hk, hm⟩ | ⟨rfl, rfl⟩
      · rw [hopo k hk]; exact b1 k m hm hmb
      · constructor
        · intro h1; exact absurd h1 (b2 _ (Nat.le_refl _))
        · intro hf; rw [hopx] at hf; cases hf
    out := fun p hp' y hy hyo j hj hopj => by
      rw [eA] at hp'
      obtain ⟨q, hq, rfl⟩ := List.mem_map.1 hp'
      have hyq : y ∈ q.l := by
        split at hy
        · rcases List.mem_append.1 hy with hy | hy
          · exact hy
          · have : y = x := by simpa using hy
            rw [this, xo] at hyo; cases hyo
        · exact hy
      have hqV : q ∈ V.ons := by
        unfold newO at hq
        split at hq
        · exact hq
        · rcases List.mem_append.1 hq with hq | hq
          · exact hq
          · have : q = ⟨b, contV V b, []⟩ := by simpa using hq
            rw [this] at hyq; cases hyq
      have hya := on_all hqV hyq
      have h4 := hafl y hya j hj
      have h5 := hs.idr y hya
      have hold : V.opn j = true := by
        rw [hop, decide_eq_false (by have := h.last; omega), Bool.false_or] at hopj; exact hopj
      obtain ⟨z, hz, e1, e2⟩ := h.out q hqV y hyq hyo j hj hold
      refine ⟨z, ?_, e1, e2⟩
      split
      · exact List.mem_append.2 (.inl hz)
      · exact hz }
theorem OrdI.end {ms : List Mk} {V : Ps} (h : OrdI ms V) {f : Nat → Bk} (hf : ∀ b : Nat, b < 5 → f b ∈ verOf V.C.D b) {k : Nat} {m : Mk} (hm : ms[k]? = some m) :
    (V.opn ((k + 1 : Nat) : Int) = false → (f m.b)[k]? = some 1) ∧ ((f m.b)[k]? = some 1 → ∀ j ∈ m.after, ∃ m', ms[j]? = some m' ∧ (f m'.b)[j]? = some 1) := by
  obtain ⟨hmb, hma⟩ := h.mk_ k m hm
  obtain ⟨v1, _⟩ := h.ver m.b hmb _ (hf _ hmb)
  obtain ⟨w1, w2⟩ := v1 k m hm rfl
  refine ⟨w1, fun h1 j hj => ?_⟩
  rcases w2 h1 j hj with h3 | ⟨m', h3, h4, h5⟩
  · have hjk := hma j hj
    have hkl := (List.getElem?_eq_some_iff.1 hm).1
    have hmj : ms[j]? = some ms[j] := List.getElem?_eq_getElem (by omega)
    have hbj := (h.mk_ j _ hmj).1
    exact ⟨ms[j], hmj, ((h.ver _ hbj _ (hf _ hbj)).1 j _ hmj rfl).1 h3⟩
  · exact ⟨m', h3, by rw [h4]; exact h5⟩
end Go.Proofs.YtoajelhfiganaaaGreat
end
section
open Go Go.Den Go.Proofs
namespace Go.Den
def Rows2 (w : World) (a : Option Addr) (xss : List (List UInt8)) : Prop :=
  xss = [] ∨ ∃ (b o : Nat) (H : List Value), a = some ⟨b, o, none⟩ ∧ At w b o H ∧ H.length = xss.length ∧ ∀ (r : Nat) (x : List UInt8), xss[r]? = some x → ∃ (ar : Option Addr) (cr : Nat), H[r]? = some (Value.slice ar x.length cr) ∧ Row w ar (u8L x) ∧ x.length ≤ 9223372036854775807
theorem Rows2.nos {w w' : World} {a : Option Addr} {xss : List (List UInt8)} (h : Rows2 w a xss) (m : Mod No w w') : Rows2 w' a xss := by
  rcases h with h | ⟨b, o, H, h1, h2, h3, h4⟩
  · exact .inl h
  · refine .inr ⟨b, o, H, h1, h2.keep m id, h3, fun r x hx => ?_⟩
    obtain ⟨ar, cr, e1, e2, e3⟩ := h4 r x hx
    exact ⟨ar, cr, e1, e2.nos m, e3⟩
end Go.Den
namespace Go.Proofs.YtoajelhfiganaaaGreat
section
variable {w : World} {D : St}
theorem rd_ok {i : Nat} {v : List Bk} (hv : D.vs[i]? = some v) : errOf D i = 0 ∧ rdB D i = lastV v := by
  rcases err_cases (D := D) (i : Int) with ⟨_, ho⟩ | ⟨he, j, u, hj, hu, hver⟩
  · have := (List.getElem?_eq_some_iff.1 hv).1; omega
  · have : j = i := by omega
    subst this
    have : u = v := by rw [hu] at hv; exact Option.some.inj hv
    subst this
    exact ⟨he, by unfold rdB; rw [if_pos he, hver]⟩
end
end Go.Proofs.YtoajelhfiganaaaGreat
end
section
open Go Go.Den Go.Proofs
namespace Go.Proofs.YtoajelhfiganaaaGreat
def bL (bs : List Bool) : List Value := bs.map .bool
@[simp] theorem length_bL (bs : List Bool) : (bL bs).length = bs.length := by simp [bL]
def nI' (js : List Nat) : List Int := js.map fun j : Nat => (j : Int)
section
variable {w w' w0 : World} {R R' : Nat → Prop} {sp d base lc : Nat} {la : Option Addr} {ms : List Mk} {V : Ps} {K : Value → World → Prop}
theorem flat_get {H : List (List Value)} (hH : ∀ c ∈ H, c.length = 3) : ∀ {k j : Nat} {c : List Value} {v : Value}, H[k]? = some c → c[j]? = some v → H.flatten[k * 3 + j]? = some v := by
  induction H with
  | nil => intro k j c v h; simp at h
  | cons u r ih =>
    intro k j c v h hv
    have hu := hH u (by simp)
    rw [List.flatten_cons]
    cases k with
    | zero =>
      simp at h; subst h
      rw [Nat.zero_mul, Nat.zero_add, List.getElem?_append_left (by have := (List.getElem?_eq_some_iff.1 hv).1; omega)]; exact hv
    | succ k =>
      rw [List.getElem?_append_right (by omega)]
      have e : (k + 1) * 3 + j - u.length = k * 3 + j := by omega
      rw [e]; exact ih (fun c hc => hH c (by simp [hc])) (by simpa using h) hv
end
end Go.Proofs.YtoajelhfiganaaaGreat
end
section
open Go Go.Den Go.Proofs
namespace Go.Proofs.YtoajelhfiganaaaGreat
section
variable {w w' w0 : World} {R R' : Nat → Prop} {sp d base lc : Nat} {la : Option Addr} {ms : List Mk} {V : Ps} {K : Value → World → Prop}
theorem elemG_ids : elemG Tryz.prog 128 1 8 := elemG_of (by kernel_rfl)
theorem elemG_ints : elemG Tryz.prog 103 1 8 := elemG_of (by kernel_rfl)
theorem Pz.keep {S : Nat → Prop} (h : Pz w0 R w sp d V) (k : Mod S w w') (hs : ∀ x, R x → ¬ S x) (hw : ∀ x, x < w0.heap.size → ¬ S x) : Pz w0 R w' sp d V := by
  obtain ⟨C, e1, e2, hw', rl, c, mo, mm, ca, oa, Lo, Lm, h⟩ := h
  exact ⟨C, e1, e2, hw', rl, c, mo, mm, ca, oa, Lo, Lm, h.keepS k hs hw⟩
def Ahd (w7 : World) (n : Nat) (x : List Value) (w16 : World) : Prop :=
  ∃ (js : List Nat) (a13 a14 : Option Addr) (c13 c14 : Nat) (y : Value), x = [.slice a13 js.length c13, .slice a14 js.length c14, .int .i64 js.length, y] ∧ js.length ≤ 4 ∧ (∀ j ∈ js, j < n) ∧
    Own Tryz.prog w16 w7.heap.size 128 1 a13 js.length c13 (iL (js.map fun j => ((j + 1 : Nat) : Int))) ∧ Own Tryz.prog w16 w7.heap.size 103 1 a14 js.length c14 (iL (nI' js)) ∧ (∀ q q', a13 = some q → a14 = some q' → q.block ≠ q'.block) ∧ Mod No w7 w16
theorem Ahd.next {w7 w16 : World} {n j : Nat} {js : List Nat} {a13 a14 : Option Addr} {c13 c14 : Nat} {y0 y1 : Value} (hl : js.length < 4) (hjs : ∀ j ∈ js, j < n) (hj : j < n)
    (o1 : Own Tryz.prog w16 w7.heap.size 128 1 a13 js.length c13 (iL (js.map fun j => ((j + 1 : Nat) : Int)))) (o2 : Own Tryz.prog w16 w7.heap.size 103 1 a14 js.length c14 (iL (nI' js))) (hne : ∀ q q', a13 = some q → a14 = some q' → q.block ≠ q'.block) (hm : Mod No w7 w16) :
    ∃ (a104 : Option Addr) (l104 c104 : Nat), ∃ w19 : World, Ru (Instr.buildSlice 128 1 #[(0, .int .i64 ((j + 1 : Nat) : Int))]) w16 (.slice a104 l104 c104) w19 ∧ ∃ (a105 : Option Addr) (l105 c105 : Nat), ∃ w20 : World, Ru (Builtin.append_ #[128, 128] 128 #[.slice a13 js.length c13, .slice a104 l104 c104]) w19 (.slice a105 l105 c105) w20 ∧
      ∃ (a14' : Option Addr) (l14' c14' : Nat), (.slice a14 js.length c14 : Value) = .slice a14' l14' c14' ∧ ∃ (a108 : Option Addr) (l108 c108 : Nat), ∃ w21 : World, Ru (Instr.buildSlice 103 1 #[(0, .int .i64 j)]) w20 (.slice a108 l108 c108) w21 ∧ ∃ (a109 : Option Addr) (l109 c109 : Nat), ∃ w22 : World, Ru (Builtin.append_ #[103, 103] 103 #[.slice a14' l14' c14', .slice a108 l108 c108]) w21 (.slice a109 l109 c109) w22 ∧ (Ahd w7 n [.slice a105 l105 c105, .slice a109 l109 c109, .int .i64 ((js.length + 1 : Nat) : Int), y0] w22 ∧ (4 - nI [.slice a105 l105 c105, .slice a109 l109 c109, .int .i64 ((js.length + 1 : Nat) : Int), y0] 2).toNat < (4 - nI [.slice a13 js.length c13, .slice a14 js.length c14, .int .i64 js.length, y1] 2).toNat) := by
  refine ⟨_, _, _, _, builtI64 _ _, ?_⟩
  have m19 : Mod No w16 (w16.alloc (.cells ⟨[.int .i64 ((j + 1 : Nat) : Int)]⟩ 2)) := (Mod.refl No w16).alloc _
  have r19 : Row (w16.alloc (.cells ⟨[.int .i64 ((j + 1 : Nat) : Int)]⟩ 2)) (some ⟨w16.heap.size, 0, none⟩) (iL [((j + 1 : Nat) : Int)]) := .inr ⟨_, _, rfl, AtU.new.at⟩
  generalize w16.alloc (.cells ⟨[.int .i64 ((j + 1 : Nat) : Int)]⟩ 2) = w19 at *
  have hz0 := hm.size
  have hz1 := m19.size
  obtain ⟨q1, c1, w20, run1, p1, mm1, hq1⟩ := (o1.nos m19).appG (ty := 128) (m := 1) (c2 := 1) elemG_ids (by omega) r19 rfl (by omega) (one_iL _) (by omega) (by omega) (by omega)
  have b1 : ∀ {q}, a13 = some q → _ := fun {q} hq => o1.base (q := q) hq
  have b2 : ∀ {q}, a14 = some q → _ := fun {q} hq => o2.base (q := q) hq
  have hb1 := p1.base rfl
  have M20 : Mod No w7 w20 := (hm.no m19).trans mm1 fun x hx ⟨q, hq, e⟩ => by have := (b1 hq).1; omega
  have o2' := (o2.nos m19).keep mm1 fun q hq ⟨q', hq', e⟩ => hne q' q hq' hq e.symm
  refine ⟨_, _, _, w20, run1, _, _, _, rfl, _, _, _, _, builtI _ _, ?_⟩
  have hz2 := mm1.size
  have m21 : Mod No w20 (w20.alloc (.cells ⟨[.int .i64 (j : Int)]⟩ 3)) := (Mod.refl No w20).alloc _
  have r21 : Row (w20.alloc (.cells ⟨[.int .i64 (j : Int)]⟩ 3)) (some ⟨w20.heap.size, 0, none⟩) (iL [(j : Int)]) := .inr ⟨_, _, rfl, AtU.new.at⟩
  generalize w20.alloc (.cells ⟨[.int .i64 (j : Int)]⟩ 3) = w21 at *
  have hz3 := m21.size
  obtain ⟨q2, c2, w22, run2, p2, mm2, hq2⟩ := (o2'.nos m21).appG (ty := 103) (m := 1) (c2 := 1) elemG_ints (by omega) r21 rfl (by omega) (one_iL _) (by omega) (by omega) (by omega)
  have hz4 := mm2.size
  have hd : q1.block ≠ q2.block := by
    rcases hq2 with ⟨q', hq', e⟩ | e
    · rcases hq1 with ⟨q'', hq'', e2⟩ | e2
      · rw [e, e2]; exact hne _ _ hq'' hq'
      · have := (b2 hq').2; omega
    · omega
  refine ⟨_, _, _, w22, run2, ⟨js ++ [j], some q1, some q2, c1, c2, y0, by simp, by simp; omega, fun i hi => ?_, ?_, ?_, fun q q' e e' => ?_, ?_⟩, by simp [nI, nth]; omega⟩
  · rcases List.mem_append.1 hi with h | h
    · exact hjs i h
    · rw [List.mem_singleton.1 h]; exact hj
  · have := (p1.nos m21).keep mm2 fun q hq ⟨q', hq', e⟩ => by
      cases hq
      rcases hq1 with ⟨q'', hq'', e2⟩ | e2
      · exact hne _ _ hq'' hq' (by rw [← e2]; exact e)
      · have := (b2 hq').2; omega
    simpa [iL] using this
  · simpa [iL, nI'] using p2
  · cases e; cases e'; exact hd
  · exact (M20.no m21).trans mm2 fun x hx ⟨q, hq, e⟩ => by have := (b2 hq).1; omega
end
end Go.Proofs.YtoajelhfiganaaaGreat
end
section
open Go Go.Den Go.Proofs
namespace Go.Den
section
variable {P : Program} {w : World}
def strBT (P : Program) (S T : TypeId) : Bool :=
  match P.underlying S with
  | some .string => match P.underlying T with
    | some (.slice e) => match P.underlying e with | some (.int .u8) => true | _ => false
    | _ => false
  | _ => false
theorem bytes_run {S T : TypeId} {xs : List UInt8} (hT : strBT P S T = true) : ∃ c w', (convert S T (.string ⟨xs.toArray⟩)).run P w = .ok (.slice (some ⟨w.heap.size, 0, none⟩) xs.length c) w' ∧ AtU w' w.heap.size 0 (u8L xs) ∧ Mod No w w' ∧ xs.length ≤ c := by
  have hT' : ∃ e, P.underlying S = some .string ∧ P.underlying T = some (.slice e) ∧ P.underlying e = some (.int .u8) := by
    unfold strBT at hT
    split at hT
    · rename_i h0
      split at hT
      · rename_i e he
        split at hT
        · rename_i h1; exact ⟨e, h0, he, h1⟩
        · cases hT
      · cases hT
    · cases hT
  obtain ⟨e, h1, h2, h3⟩ := hT'
  have hsz : (⟨xs.toArray⟩ : ByteArray).size = xs.length := by simp [ByteArray.size]
  have h := run_bytes_of_string (P := P) w S T e ⟨xs.toArray⟩ h1 h2 h3
  rw [hsz] at h
  have hl : (bytesRow ⟨xs.toArray⟩ (grownCap w xs.length 0 e)).toList = u8L xs ++ List.replicate (grownCap w xs.length 0 e - xs.length) (.int .u8 0) := by
    unfold bytesRow; rw [hsz]; simp [u8L, u8]
  have hs2 : xs.length ≤ (bytesRow ⟨xs.toArray⟩ (grownCap w xs.length 0 e)).size := by
    rw [← Array.length_toList, hl]; simp
  generalize bytesRow ⟨xs.toArray⟩ (grownCap w xs.length 0 e) = arr at *
  refine ⟨_, _, h, ⟨arr.toList, e, (arr.size, arr.size + 1), heap_new w.drew _, ?_, ?_, fun j _ hj hc => ?_⟩, (((Mod.refl No w).drew (b := w)).alloc _ : Mod No w (w.drew.alloc _)), grownCap_ge w xs.length 0 e⟩
  · rw [hl]; simp
  · rw [hl]; simp
  · simp at hj; omega
end
def strV (x : Bk) : Value := .string ⟨x.toArray⟩
def hdrs (hs : List (Nat × Nat)) (vs : List (List Bk)) : List Value := List.zipWith (fun h v => .slice (some ⟨h.1, 0, none⟩) (List.length v) h.2) hs vs
def heldB (D : St) : Bool := decide (D.left ≠ -1)
def leftB (D : St) : Int := if D.left = -1 then 0 else D.left
structure RefIn (w : World) (R : Nat → Prop) (b vb vc : Nat) (hs : List (Nat × Nat)) (D : St) : Prop where
  cell : AtU w b 0 [.slice (some ⟨vb, 0, none⟩) D.vs.length vc, .bool (heldB D), .int .i64 (leftB D)]
  vec : AtU w vb 0 (hdrs hs D.vs)
  cap : D.vs.length ≤ vc
  hl : hs.length = D.vs.length
  row : ∀ (i : Nat) (v : List Bk), D.vs[i]? = some v → ∃ q c, hs[i]? = some (q, c) ∧ v.length ≤ c ∧ At w q 0 (v.map strV) ∧ R q ∧ q ≠ b ∧ q ≠ vb
  rb : R b
  rv : R vb
  ne : b ≠ vb
  wf : WF D
  lt : ∀ x, R x → x < w.heap.size
section
variable {w : World} {R : Nat → Prop} {b vb vc : Nat} {hs : List (Nat × Nat)} {D : St}
theorem RefIn.keep {S : Nat → Prop} {w' : World} (h : RefIn w R b vb vc hs D) (m : Mod S w w') (hS : ∀ x, R x → ¬ S x) : RefIn w' R b vb vc hs D where
  cell := h.cell.keep m (hS _ h.rb)
  vec := h.vec.keep m (hS _ h.rv)
  cap := h.cap
  hl := h.hl
  row := fun i v hv => by
    obtain ⟨q, c, h1, h2, h3, h4, h5⟩ := h.row i v hv
    exact ⟨q, c, h1, h2, h3.keep m (hS _ h4), h4, h5⟩
  rb := h.rb
  rv := h.rv
  ne := h.ne
  wf := h.wf
  lt := fun x hx => Nat.lt_of_lt_of_le (h.lt x hx) m.size
theorem RefIn.nos {w' : World} (h : RefIn w R b vb vc hs D) (m : Mod No w w') : RefIn w' R b vb vc hs D := h.keep m fun _ _ => id
theorem RefIn.drew (h : RefIn w R b vb vc hs D) : RefIn (drew w) R b vb vc hs D := h.nos (Mod.refl No w).drew
theorem hdrs_get {i q c : Nat} {vs : List (List Bk)} {v : List Bk} (h1 : hs[i]? = some (q, c)) (h2 : vs[i]? = some v) : (hdrs hs vs)[i]? = some (.slice (some ⟨q, 0, none⟩) v.length c) := by
  simp [hdrs, List.getElem?_zipWith, h1, h2]
end
end Go.Den
namespace Go.Proofs.YtoajelhfiganaaaGreat
section
variable {w : World} {R : Nat → Prop} {b vb vc : Nat} {hs : List (Nat × Nat)} {D : St} {K : Value → World → Prop}
theorem rv (h : RefIn w R b vb vc hs D) : Ru (Instr.loadAt 82 (.pointer (some (Addr.add ⟨b, 0, none⟩ 0)))) w (.slice (some ⟨vb, 0, none⟩) D.vs.length vc) w := by
  rw [add_none]; exact h.cell.at.load (by kernel_rfl) rfl
theorem rh (h : RefIn w R b vb vc hs D) : Ru (Instr.loadAt 4 (.pointer (some (Addr.add ⟨b, 0, none⟩ 1)))) w (.bool (heldB D)) w := by
  rw [add_none]; exact h.cell.at.load (by kernel_rfl) rfl
theorem rl (h : RefIn w R b vb vc hs D) : Ru (Instr.loadAt 3 (.pointer (some (Addr.add ⟨b, 0, none⟩ 2)))) w (.int .i64 (leftB D)) w := by
  rw [add_none]; exact h.cell.at.load (by kernel_rfl) rfl
theorem idx_blk {a : Addr} {n c i : Nat} (hi : i < n) : Al (Instr.indexAt 82 (.slice (some a) n c) (.int .i64 i)) (.pointer (some (a.add i))) := by
  intro w'
  have := index_slice (P := Tryz.prog) (T := 82) (k := 1) (a := a) (n := n) (c := c) (kk := .i64) (i := i) (by kernel_rfl) (by omega) (by omega) w'
  rwa [Int.toNat_natCast, Nat.mul_one] at this
theorem idx_str {a : Addr} {n c i : Nat} (hi : i < n) : Al (Instr.indexAt 86 (.slice (some a) n c) (.int .i64 i)) (.pointer (some (a.add i))) := by
  intro w'
  have := index_slice (P := Tryz.prog) (T := 86) (k := 1) (a := a) (n := n) (c := c) (kk := .i64) (i := i) (by kernel_rfl) (by omega) (by omega) w'
  rwa [Int.toNat_natCast, Nat.mul_one] at this
theorem rrow (h : RefIn w R b vb vc hs D) {i : Nat} {v : List Bk} (hv : D.vs[i]? = some v) : ∃ q c, Ru (Instr.loadAt 86 (.pointer (some (Addr.add (Addr.add ⟨vb, 0, none⟩ i) 0)))) w (.slice (some ⟨q, 0, none⟩) v.length c) w ∧ v.length ≤ c ∧ At w q 0 (v.map strV) ∧ R q ∧ q ≠ b ∧ q ≠ vb ∧ hs[i]? = some (q, c) := by
  obtain ⟨q, c, h1, h2, h3, h4, h5, h6⟩ := h.row i v hv
  refine ⟨q, c, ?_, h2, h3, h4, h5, h6, h1⟩
  rw [add_none, add_none, Nat.add_zero]
  exact h.vec.at.load (by kernel_rfl) (hdrs_get h1 hv)
theorem strV_get {w : World} {q i : Nat} {v : List Bk} {x : Bk} (h : At w q 0 (v.map strV)) (hx : v[i]? = some x) : Ru (Instr.loadAt 9 (.pointer (some (Addr.add ⟨q, 0, none⟩ i)))) w (.string ⟨x.toArray⟩) w := by
  rw [add_none]
  exact h.load (by kernel_rfl) (by rw [List.getElem?_map, hx]; rfl)
theorem last_get {v : List Bk} (h : v ≠ []) : v[v.length - 1]? = some (lastV v) := by
  rw [← List.getLast?_eq_getElem?]; unfold lastV
  rw [List.getLastD_eq_getLast?, List.getLast?_eq_some_getLast h]; rfl
theorem hd_get {v : List Bk} (h : v ≠ []) : v[0]? = some (hd v) := by
  cases v with
  | nil => exact absurd rfl h
  | cons a r => rfl
theorem there_c (h : RefIn w R b vb vc hs D) {n : Int} (hk : K (.bool (decide (errOf D n = 0))) w) : Cal Tryz.prog F_leveeref02_Disk_there #[.pointer (some ⟨b, 0, none⟩), .int .i64 n] w K := by
  apply C_leveeref02_Disk_there
  unfold D_leveeref02_Disk_there
  refine Share.cut (fun x w' => x = [.bool (decide (errOf D n = 0))] ∧ w' = w) (cond_of (fun hb => ?_) (fun hb => ?_)) ?_
  · have hb := of_decide_eq_true hb
    refine ⟨_, rfl, _, _, _, rv h, ?_, rfl⟩
    congr 2; rw [Bool.eq_iff_iff]; simp only [decide_eq_true_eq]
    unfold errOf; split <;> omega
  · have hb := of_decide_eq_false hb
    refine ⟨?_, rfl⟩
    have : errOf D n = 3 := by unfold errOf; rw [if_pos (by omega)]
    rw [this]; rfl
  · rintro x w' ⟨rfl, rfl⟩
    exact ⟨_, rfl, hk⟩
theorem refRead_c (h : RefIn w R b vb vc hs D) (hsm : Small D) {n : Int} (hk : ∀ w' a c, Mod No w w' → Fresh w w' a (rdB D n) → K (.tuple #[.slice a (rdB D n).length c, .int .i64 (errOf D n)]) w') : Cal Tryz.prog F_leveeref02_Disk_Read #[.pointer (some ⟨b, 0, none⟩), .int .i64 n] w K := by
  apply C_leveeref02_Disk_Read
  unfold D_leveeref02_Disk_Read
  refine there_c h ⟨_, rfl, ?_⟩
  rcases err_cases (D := D) n with ⟨he, _⟩ | ⟨he, i, v, rfl, hv, hver⟩
  · have hb : rdB D n = [] := by unfold rdB; rw [if_neg (by omega)]
    refine tt (by rw [he]; rfl) ?_
    have := hk w none 0 (Mod.refl _ _) (.inl ⟨rfl, hb⟩)
    rw [hb, he] at this; exact this
  · have hb : rdB D i = lastV v := by unfold rdB; rw [if_pos he, hver]
    have hvne := (h.wf.ver v (List.mem_of_getElem? hv)).1
    have hvp := List.length_pos_iff.2 hvne
    have hvl := hsm v (List.mem_of_getElem? hv)
    obtain ⟨q, c, hl, hc, hat, _⟩ := rrow h hv
    refine ff (by rw [he]; rfl) ⟨_, rfl, _, _, _, rv h, _, idx_blk (List.getElem?_eq_some_iff.1 hv).1, _, _, _, hl, ?_⟩
    rw [wrap64 (x := (v.length : Int) - 1) (by omega) (by omega), show (v.length : Int) - 1 = ((v.length - 1 : Nat) : Int) by omega]
    refine ⟨_, idx_str (by omega), _, strV_get hat (last_get hvne), ?_⟩
    obtain ⟨c2, w2, h2, at2, m2, _⟩ := bytes_run (P := Tryz.prog) (w := w) (S := 9) (T := 24) (xs := lastV v) (by kernel_rfl)
    refine ⟨_, _, _, w2, h2, ?_⟩
    have := hk w2 (some ⟨w.heap.size, 0, none⟩) c2 m2 (.inr ⟨_, rfl, Nat.le_refl _, by rw [hb]; exact at2⟩)
    rw [hb, he] at this; exact this
theorem refSafe_c (h : RefIn w R b vb vc hs D) {n : Int} (hk : ∀ w' a c, Mod No w w' → Fresh w w' a (sfB D n) → K (.tuple #[.slice a (sfB D n).length c, .int .i64 (errOf D n)]) w') : Cal Tryz.prog F_leveeref02_Disk_Safe #[.pointer (some ⟨b, 0, none⟩), .int .i64 n] w K := by
  apply C_leveeref02_Disk_Safe
  unfold D_leveeref02_Disk_Safe
  refine there_c h ⟨_, rfl, ?_⟩
  rcases err_cases (D := D) n with ⟨he, _⟩ | ⟨he, i, v, rfl, hv, hver⟩
  · have hb : sfB D n = [] := by unfold sfB; rw [if_neg (by omega)]
    refine tt (by rw [he]; rfl) ?_
    have := hk w none 0 (Mod.refl _ _) (.inl ⟨rfl, hb⟩)
    rw [hb, he] at this; exact this
  · have hb : sfB D i = hd v := by unfold sfB; rw [if_pos he, hver]
    have hvne := (h.wf.ver v (List.mem_of_getElem? hv)).1
    have hvp := List.length_pos_iff.2 hvne
    obtain ⟨q, c, hl, hc, hat, _⟩ := rrow h hv
    refine ff (by rw [he]; rfl) ⟨_, rfl, _, _, _, rv h, _, idx_blk (List.getElem?_eq_some_iff.1 hv).1, _, _, _, hl, _, idx_str (i := 0) (by omega), _, strV_get hat (hd_get hvne), ?_⟩
    obtain ⟨c2, w2, h2, at2, m2, _⟩ := bytes_run (P := Tryz.prog) (w := w) (S := 9) (T := 24) (xs := hd v) (by kernel_rfl)
    refine ⟨_, _, _, w2, h2, ?_⟩
    have := hk w2 (some ⟨w.heap.size, 0, none⟩) c2 m2 (.inr ⟨_, rfl, Nat.le_refl _, by rw [hb]; exact at2⟩)
    rw [hb, he] at this; exact this
theorem refWrites_c (h : RefIn w R b vb vc hs D) (hsm : Small D) {n : Int} (hk : K (.int .i64 (verOf D n).tail.length) w) : Cal Tryz.prog F_leveeref02_Disk_Writes #[.pointer (some ⟨b, 0, none⟩), .int .i64 n] w K := by
  apply C_leveeref02_Disk_Writes
  unfold D_leveeref02_Disk_Writes
  refine there_c h ⟨_, rfl, ?_⟩
  rcases err_cases (D := D) n with ⟨he, ho⟩ | ⟨he, i, v, rfl, hv, hver⟩
  · rw [verOf_none ho] at hk
    exact tt (by rw [he]; rfl) hk
  · rw [hver] at hk
    have hvne := (h.wf.ver v (List.mem_of_getElem? hv)).1
    have hvp := List.length_pos_iff.2 hvne
    have hvl := hsm v (List.mem_of_getElem? hv)
    obtain ⟨q, c, hl, hc, hat, _⟩ := rrow h hv
    refine ff (by rw [he]; rfl) ⟨_, rfl, _, _, _, rv h, _, idx_blk (List.getElem?_eq_some_iff.1 hv).1, _, _, _, hl, ?_⟩
    rw [wrap64 (x := (v.length : Int) - 1) (by omega) (by omega)]
    have : (v.length : Int) - 1 = ((v.tail.length : Nat) : Int) := by rw [List.length_tail]; omega
    rw [this]; exact hk
theorem refStopped_c (h : RefIn w R b vb vc hs D) (hk : K (.bool (decide (D.left = 0))) w) : Cal Tryz.prog F_leveeref02_Disk_Stopped #[.pointer (some ⟨b, 0, none⟩)] w K := by
  apply C_leveeref02_Disk_Stopped
  unfold D_leveeref02_Disk_Stopped
  refine Share.dup ⟨_, rfl, _, rh h, cond_of (fun hb => ?_) (fun hb => ?_)⟩
  · have hb : D.left ≠ -1 := by unfold heldB at hb; exact of_decide_eq_true hb
    refine ⟨_, rfl, _, rl h, _, rfl, ?_⟩
    have : (leftB D == 0) = decide (D.left = 0) := by unfold leftB; rw [if_neg hb]; rfl
    rw [this]; exact hk
  · have hb : D.left = -1 := by unfold heldB at hb; simpa using of_decide_eq_false hb
    refine ⟨_, rfl, ?_⟩
    rw [hb] at hk; exact hk
end
end Go.Proofs.YtoajelhfiganaaaGreat
end
section
open Go Go.Den Go.Proofs
namespace Go.Proofs.YtoajelhfiganaaaGreat
section
variable {w : World} {R : Nat → Prop} {b vb vc : Nat} {hs : List (Nat × Nat)} {D : St} {K : Value → World → Prop}
theorem openN_take (D : St) (i : Nat) (hi : i < D.vs.length) : ((List.range (i + 1)).filter (isOpen D)) = (List.range i).filter (isOpen D) ++ (if isOpen D i then [i] else []) := by
  rw [List.range_succ, List.filter_append]
  congr 1
  simp only [List.filter_cons, List.filter_nil]
theorem isOpen_iff {i : Nat} {v : List Bk} (hv : D.vs[i]? = some v) : isOpen D i = decide (0 < v.tail.length) := by
  unfold isOpen; rw [hv]; simp only [Option.getD_some]
  cases v.tail <;> simp
theorem verOf_get {i : Nat} {v : List Bk} (hv : D.vs[i]? = some v) : verOf D i = v := by
  unfold verOf; rw [if_neg (by omega), Int.toNat_natCast, hv]; rfl
theorem refOpen_c (h : RefIn w R b vb vc hs D) (hsm : Small D) (hk : ∀ w' a l c, Mod No w w' → Own Tryz.prog w' w.heap.size 103 1 a l c (iL (openS D)) → K (.slice a l c) w') : Cal Tryz.prog F_leveeref02_Disk_Open #[.pointer (some ⟨b, 0, none⟩)] w K := by
  apply C_leveeref02_Disk_Open
  unfold D_leveeref02_Disk_Open
  have hhi := h.wf.hi
  refine ⟨fun x w2 => ∃ (i : Nat) (a : Option Addr) (l c : Nat), i ≤ D.vs.length ∧ l ≤ i ∧ x = [.slice a l c, .int .i64 i] ∧ Own Tryz.prog w2 w.heap.size 103 1 a l c (iL (((List.range i).filter (isOpen D)).map fun i : Nat => (i : Int))) ∧ Mod No w w2, fun x _ => (D.vs.length - nI x 1).toNat,
    ⟨0, none, 0, 0, by omega, by omega, rfl, Own.nil elemZ_ints, Mod.refl _ _⟩, ?_⟩
  rintro x w2 ⟨i, a, l, c, hi, hli, rfl, how, hm⟩
  have h2 := h.nos hm
  refine ⟨_, rfl, _, rfl, _, _, _, rv h2, cond_of (fun hb => ?_) (fun hb => ?_)⟩
  · have hi : i < D.vs.length := by have := of_decide_eq_true hb; omega
    have hv : D.vs[i]? = some D.vs[i] := by simp [hi]
    refine refWrites_c h2 hsm ⟨_, rfl, ?_⟩
    rw [verOf_get hv, wrap64 (x := (i : Int) + 1) (by omega) (by omega)]
    refine Share.cut (fun z w' => ∃ a' l' c', l' ≤ i + 1 ∧ z = [.slice a' l' c'] ∧ Own Tryz.prog w' w.heap.size 103 1 a' l' c' (iL (((List.range (i + 1)).filter (isOpen D)).map fun i : Nat => (i : Int))) ∧ Mod No w w') (cond_of (fun hb => ?_) (fun hb => ?_)) ?_
    · have ho : isOpen D i = true := by rw [isOpen_iff hv]; exact decide_eq_true (by have := of_decide_eq_true hb; omega)
      refine ⟨_, _, _, rfl, _, _, _, _, builtI _ _, ?_⟩
      obtain ⟨a3, c3, w3, h3, o3, m3⟩ := how.snoc (ty := 103) (t := 3) (ys := [.int .i64 i]) elemZ_ints (by omega) rfl (by simp; rfl) (by omega) (by omega) hm.size
      refine ⟨_, _, _, w3, h3, _, _, _, by omega, rfl, ?_, hm.up m3 (Nat.le_refl _)⟩
      rw [openN_take D i hi, ho]; simpa [iL, I] using o3
    · have ho : isOpen D i = false := by rw [isOpen_iff hv]; exact decide_eq_false (by have := of_decide_eq_false hb; omega)
      refine ⟨_, _, _, by omega, rfl, ?_, hm⟩
      rw [openN_take D i hi, ho]; simpa using how
    · rintro z w3 ⟨a', l', c', hl', rfl, o3, m3⟩
      exact ⟨⟨i + 1, a', l', c', by omega, by omega, rfl, o3, m3⟩, by simp [nI, nth]; omega⟩
  · have hi2 : i = D.vs.length := by have := of_decide_eq_false hb; omega
    subst hi2
    exact ⟨_, _, _, rfl, hk w2 a l c hm how⟩
def allB (D : St) : List UInt8 := (D.vs.map lastV).flatten
theorem flat_take {xs : List Bk} {i : Nat} (hi : i < xs.length) : (xs.take (i + 1)).flatten = (xs.take i).flatten ++ xs[i] := by
  rw [List.take_succ_eq_append_getElem hi, List.flatten_append]; simp
theorem refBytes_c (h : RefIn w R b vb vc hs D) (hsm : Small D) (hk : ∀ w' a l c, Mod No w w' → Own Tryz.prog w' w.heap.size 24 1 a l c (u8L (allB D)) → K (.slice a l c) w') : Cal Tryz.prog F_leveeref02_Disk_Bytes #[.pointer (some ⟨b, 0, none⟩)] w K := by
  apply C_leveeref02_Disk_Bytes
  unfold D_leveeref02_Disk_Bytes
  have hhi := h.wf.hi
  refine ⟨fun x w2 => ∃ (i : Nat) (a : Option Addr) (l c : Nat), i ≤ D.vs.length ∧ l = i * 256 ∧ x = [.slice a l c, .int .i64 i] ∧ Own Tryz.prog w2 w.heap.size 24 1 a l c (u8L ((D.vs.map lastV).take i).flatten) ∧ Mod No w w2, fun x _ => (D.vs.length - nI x 1).toNat,
    ⟨0, none, 0, 0, by omega, by omega, rfl, Own.nil elemZ_bytes, Mod.refl _ _⟩, ?_⟩
  rintro x w2 ⟨i, a, l, c, hi, hli, rfl, how, hm⟩
  have h2 := h.nos hm
  refine ⟨_, rfl, _, rfl, _, _, _, rv h2, cond_of (fun hb => ?_) (fun hb => ?_)⟩
  · have hi : i < D.vs.length := by have := of_decide_eq_true hb; omega
    have hv : D.vs[i]? = some D.vs[i] := by simp [hi]
    obtain ⟨q0, q1⟩ := rd_ok hv
    have hll := h.wf.lastLen hv
    refine refRead_c h2 hsm fun w3 a3 c3 m3 f3 => ⟨_, _, _, _, rfl, _, _, _, rfl, ?_⟩
    rw [q1] at f3 ⊢
    obtain ⟨a4, c4, w4, h4, o4, m4⟩ := (how.nos m3).append (ty := 24) elemZ_bytes (by omega) f3.row (m := (lastV D.vs[i]).length) (c2 := c3) (by simp)
      (fun e => by rcases f3 with ⟨_, e2⟩ | ⟨q, e2, _⟩
                   · rw [e2] at hll; simp at hll
                   · rw [e] at e2; cases e2) (one_u8L _) (by omega) (by omega) (by have := hm.size; have := m3.size; omega)
    rw [wrap64 (x := (i : Int) + 1) (by omega) (by omega)]
    refine ⟨_, _, _, w4, h4, ⟨i + 1, a4, _, c4, by omega, by omega, rfl, ?_, (hm.no m3).up m4 (Nat.le_refl _)⟩, by simp [nI, nth]; omega⟩
    rw [flat_take (by simpa using hi), u8L_append]
    simpa using o4
  · have hi2 : i = D.vs.length := by have := of_decide_eq_false hb; omega
    subst hi2
    have e : (D.vs.map lastV).take D.vs.length = D.vs.map lastV := List.take_of_length_le (by simp)
    rw [e] at how
    exact ⟨_, _, _, rfl, hk w2 a l c hm how⟩
theorem Bytes_c' {sb mb sc : Nat} {L : List (Int × Value)} (h : DiskIn w R b sb mb sc L D) (hsm : Small D) (hk : ∀ w' a l c, Mod No w w' → Own Tryz.prog w' w.heap.size 24 1 a l c (u8L (allB D)) → K (.slice a l c) w') : Cal Tryz.prog F_disk_Disk_Bytes #[.pointer (some ⟨b, 0, none⟩)] w K := by
  apply C_disk_Disk_Bytes
  unfold D_disk_Disk_Bytes
  have hhi := h.wf.hi
  refine Len_c h ⟨_, rfl, ?_⟩
  refine ⟨fun x w2 => ∃ (i : Nat) (a : Option Addr) (l c : Nat), i ≤ D.vs.length ∧ l = i * 256 ∧ x = [.slice a l c, .int .i64 i] ∧ Own Tryz.prog w2 w.heap.size 24 1 a l c (u8L ((D.vs.map lastV).take i).flatten) ∧ Mod No w w2, fun x _ => (D.vs.length - nI x 1).toNat,
    ⟨0, none, 0, 0, by omega, by omega, rfl, Own.nil elemZ_bytes, Mod.refl _ _⟩, ?_⟩
  rintro x w2 ⟨i, a, l, c, hi, hli, rfl, how, hm⟩
  have h2 := h.nos hm
  refine ⟨_, rfl, cond_of (fun hb => ?_) (fun hb => ?_)⟩
  · have hi : i < D.vs.length := by have := of_decide_eq_true hb; omega
    have hv : D.vs[i]? = some D.vs[i] := by simp [hi]
    have hll := h.wf.lastLen hv
    refine last_c h2 hv (hsm _ (List.mem_of_getElem? hv)) fun w3 m3 => ⟨_, rfl, _, _, alloc_block w3, _, store_new agg_block (by rw [length_u8L, List.length_replicate]) (by simp [hll]) (one_u8L _), _, _, _, rfl, _, _, _, slice_block _, ?_⟩
    have m3' : Mod No w2 (w3.alloc (.cells ⟨u8L (lastV D.vs[i])⟩ 107)) := m3.alloc _
    obtain ⟨a4, c4, w4, h4, o4, m4⟩ := (how.nos m3').append (ty := 24) elemZ_bytes (by omega) (a2 := some ⟨w3.heap.size, 0, none⟩) (ys := u8L (lastV D.vs[i])) (.inr ⟨_, _, rfl, AtU.new.at⟩) (m := 256) (c2 := 256) (by simp [hll])
      (fun e => by cases e) (one_u8L _) (by omega) (by omega) (by have := hm.size; have := m3'.size; omega)
    rw [wrap64 (x := (i : Int) + 1) (by omega) (by omega)]
    refine ⟨_, _, _, w4, h4, ⟨i + 1, a4, _, c4, by omega, by omega, rfl, ?_, (hm.no m3').up m4 (Nat.le_refl _)⟩, by simp [nI, nth]; omega⟩
    rw [flat_take (by simpa using hi), u8L_append]
    simpa using o4
  · have hi2 : i = D.vs.length := by have := of_decide_eq_false hb; omega
    subst hi2
    have e : (D.vs.map lastV).take D.vs.length = D.vs.map lastV := List.take_of_length_le (by simp)
    rw [e] at how
    exact ⟨_, _, _, rfl, hk w2 a l c hm how⟩
end
end Go.Proofs.YtoajelhfiganaaaGreat
end
section
open Go Go.Den Go.Proofs
namespace Go.Proofs.YtoajelhfiganaaaGreat
section
variable {w : World} {R R2 : Nat → Prop} {b vb vc b2 sb mb sc : Nat} {hs : List (Nat × Nat)} {L : List (Int × Value)} {D : St} {K : Value → World → Prop}
theorem Fresh.keep {w0 w w' : World} {a : Option Addr} {xs : List UInt8} {S : Nat → Prop} (h : Fresh w0 w a xs) (m : Mod S w w') (hs : ∀ q, a = some q → ¬ S q.block) : Fresh w0 w' a xs := by
  rcases h with h | ⟨q, rfl, hq, hat⟩
  · exact .inl h
  · exact .inr ⟨q, rfl, hq, hat.keep m (hs _ rfl)⟩
end
end Go.Proofs.YtoajelhfiganaaaGreat
end
section
open Go Go.Den Go.Proofs
namespace Go.Den
theorem At_ne {w : World} {q g o o' : Nat} {x y : Value} {r r' : List Value} (h : At w q o (x :: r)) (k : At w g o' (y :: r')) (ho : o = o') (hne : x ≠ y) : q ≠ g := by
  rintro rfl
  subst ho
  obtain ⟨l, t, fz, h1, h2, h3⟩ := h
  obtain ⟨l', t', fz', k1, k2, k3⟩ := k
  rw [h1] at k1
  simp at k1
  obtain ⟨rfl, _⟩ := k1
  have a1 := take_drop_get h3 0 (by simp)
  have a2 := take_drop_get k3 0 (by simp)
  rw [a1] at a2
  simp at a2
  exact hne a2
theorem hdrs_snoc {hs : List (Nat × Nat)} {vs : List (List Bk)} (h : hs.length = vs.length) (q c : Nat) (v : List Bk) : hdrs (hs ++ [(q, c)]) (vs ++ [v]) = hdrs hs vs ++ [.slice (some ⟨q, 0, none⟩) v.length c] := by
  unfold hdrs; rw [List.zipWith_append h]; rfl
end Go.Den
namespace Go.Proofs.YtoajelhfiganaaaGreat
theorem elemZ_blks : elemZ Tryz.prog 82 1 (.slice none 0 0) 24 := by unfold elemZ; kernel_rfl
theorem elemZ_strs : elemZ Tryz.prog 86 1 (.string ByteArray.empty) 16 := by unfold elemZ; kernel_rfl
theorem built_str (w : World) (s : ByteArray) : (Instr.buildSlice 86 1 #[(0, .string s)]).run Tryz.prog w = .ok (.slice (some ⟨w.heap.size, 0, none⟩) 1 1) (w.alloc (.cells ⟨[.string s]⟩ 9)) := by kernel_rfl
theorem build_blk (w : World) (a : Option Addr) (l c : Nat) : (Instr.build 88 #[(0, .slice a l c)]).run Tryz.prog w = .ok (.agg ⟨[.slice a l c]⟩) w := by kernel_rfl
theorem built_blk (w : World) (a : Option Addr) (l c : Nat) : (Instr.buildSlice 82 1 #[(0, .agg ⟨[.slice a l c]⟩)]).run Tryz.prog w = .ok (.slice (some ⟨w.heap.size, 0, none⟩) 1 1) (w.alloc (.cells ⟨[.slice a l c]⟩ 88)) := by kernel_rfl
theorem build_ref (w : World) : (Instr.build 84 #[]).run Tryz.prog w = .ok (.agg ⟨[.slice none 0 0, .bool false, .int .i64 0]⟩) w := by kernel_rfl
structure Bld (w0 w : World) (b : Nat) (a : Option Addr) (l c : Nat) (hs : List (Nat × Nat)) (vs : List (List Bk)) : Prop where
  cell : AtU w b 0 [.slice a l c, .bool false, .int .i64 0]
  own : Own Tryz.prog w (b + 1) 82 1 a l c (hdrs hs vs)
  hl : hs.length = vs.length
  row : ∀ (i : Nat) (v : List Bk), vs[i]? = some v → ∃ q cc, hs[i]? = some (q, cc) ∧ v.length ≤ cc ∧ At w q 0 (v.map strV) ∧ v ≠ [] ∧ b < q
  mod : Mod No w0 w
  b0 : w0.heap.size ≤ b
section
variable {w0 w : World} {b l c : Nat} {a : Option Addr} {hs : List (Nat × Nat)} {vs : List (List Bk)} {K : Value → World → Prop}
theorem Bld.len (h : Bld w0 w b a l c hs vs) : l = vs.length := by
  have := h.own.len
  simp [hdrs, h.hl] at this; exact this.symm
theorem Bld.nos {w' : World} (h : Bld w0 w b a l c hs vs) (m : Mod No w w') : Bld w0 w' b a l c hs vs where
  cell := h.cell.keep m id
  own := h.own.nos m
  hl := h.hl
  row := fun i v hv => by
    obtain ⟨q, cc, h1, h2, h3, h4⟩ := h.row i v hv
    exact ⟨q, cc, h1, h2, h3.keep m id, h4⟩
  mod := h.mod.no m
  b0 := h.b0
theorem Bld.ld (h : Bld w0 w b a l c hs vs) : Ru (Instr.loadAt 82 (.pointer (some (Addr.add ⟨b, 0, none⟩ 0)))) w (.slice a l c) w := by
  rw [add_none]; exact h.cell.at.load (by kernel_rfl) rfl
theorem Bld.start (w : World) : Bld w (w.alloc (.cells (Value.agg ⟨[.slice none 0 0, .bool false, .int .i64 0]⟩).cells 84)) w.heap.size none 0 0 [] [] where
  cell := AtU.new
  own := Own.nil elemZ_blks
  hl := rfl
  row := fun i v hv => by simp at hv
  mod := (Mod.refl No w).alloc _
  b0 := Nat.le_refl _
theorem hdr_first {i : Nat} {v : List Bk} (hl : hs.length = vs.length) (hv : vs[i]? = some v) : ∃ q cc u r, hdrs hs vs = .slice (some ⟨q, 0, none⟩) (List.length (u : List Bk)) cc :: r := by
  cases vs with
  | nil => simp at hv
  | cons u r =>
    cases hs with
    | nil => simp at hl
    | cons p r' => exact ⟨p.1, p.2, u, _, rfl⟩
theorem Bld.step (h : Bld w0 w b a l c hs vs) (x : Bk) (hl : l ≤ 5000) :
    ∃ a' c' w6 w7, Ru (Builtin.append_ #[82, 82] 82 #[.slice a l c, .slice (some ⟨(w.alloc (.cells ⟨[.string ⟨x.toArray⟩]⟩ 9)).heap.size, 0, none⟩) 1 1])
        ((w.alloc (.cells ⟨[.string ⟨x.toArray⟩]⟩ 9)).alloc (.cells ⟨[.slice (some ⟨w.heap.size, 0, none⟩) 1 1]⟩ 88)) (.slice a' (l + 1) c') w6 ∧
      RuU (Instr.storeAt 82 (.pointer (some (Addr.add ⟨b, 0, none⟩ 0))) (.slice a' (l + 1) c')) w6 w7 ∧ Bld w0 w7 b a' (l + 1) c' (hs ++ [(w.heap.size, 1)]) (vs ++ [[x]]) := by
  have m1 : Mod No w (w.alloc (.cells ⟨[.string ⟨x.toArray⟩]⟩ 9)) := (Mod.refl No w).alloc _
  have atx : At (w.alloc (.cells ⟨[.string ⟨x.toArray⟩]⟩ 9)) w.heap.size 0 ([x].map strV) := AtU.new.at
  have hs1 : (w.alloc (.cells ⟨[.string ⟨x.toArray⟩]⟩ 9)).heap.size = w.heap.size + 1 := by simp
  have hb := h.cell.lt
  generalize w.alloc (.cells ⟨[.string ⟨x.toArray⟩]⟩ 9) = w4 at *
  have m2 : Mod No w4 (w4.alloc (.cells ⟨[.slice (some ⟨w.heap.size, 0, none⟩) 1 1]⟩ 88)) := (Mod.refl No w4).alloc _
  have aty : At (w4.alloc (.cells ⟨[.slice (some ⟨w.heap.size, 0, none⟩) 1 1]⟩ 88)) w4.heap.size 0 [.slice (some ⟨w.heap.size, 0, none⟩) 1 1] := AtU.new.at
  have hs2 : (w4.alloc (.cells ⟨[.slice (some ⟨w.heap.size, 0, none⟩) 1 1]⟩ 88)).heap.size = w4.heap.size + 1 := by simp
  generalize w4.alloc (.cells ⟨[.slice (some ⟨w.heap.size, 0, none⟩) 1 1]⟩ 88) = w5 at *
  have h5 := (h.nos m1).nos m2
  have atx5 := atx.keep m2 id
  obtain ⟨a', c', w6, h6, o6, m6⟩ := h5.own.append' (ty := 82) (a2 := some ⟨w4.heap.size, 0, none⟩) (m := 1) (c2 := 1) (ys := [.slice (some ⟨w.heap.size, 0, none⟩) 1 1]) elemZ_blks (by omega) (.inr ⟨_, _, rfl, aty⟩) rfl (by simp) (by simp; rfl) (by omega) (by omega) (by omega)
  have hbq : ∀ q, a = some q → b + 1 ≤ q.block := fun q hq => (h5.own.base hq).1
  have hbq2 : ∀ q, a = some q → q.block < w.heap.size := fun q hq => (h.own.base hq).2
  have c6 := h5.cell.keep m6 (fun ⟨q, hq, e⟩ => by have := hbq q hq; omega)
  obtain ⟨w7, s1, s2, s3, s4⟩ := c6.store (P := Tryz.prog) (T := 82) (i := 0) (v := .slice a' (l + 1) c') (by kernel_rfl) (by simp) rfl
  refine ⟨a', c', w6, w7, h6, by rw [add_none]; exact s1, ?_⟩
  exact { cell := by simpa using s2
          own := by
            rw [hdrs_snoc h.hl]
            exact o6.keep s3 fun q hq e => by have := (o6.base hq).1; omega
          hl := by simp [h.hl]
          row := fun i v hv => by
            by_cases hi : i < vs.length
            · rw [List.getElem?_append_left hi] at hv
              obtain ⟨q, cc, r1, r2, r3, r4, r5⟩ := h5.row i v hv
              refine ⟨q, cc, by rw [List.getElem?_append_left (by rw [h.hl]; exact hi)]; exact r1, r2, (r3.keep m6 fun ⟨p, hp, e⟩ => ?_).keep s3 (by omega), r4, r5⟩
              obtain ⟨q1, c1, u1, r, hf⟩ := hdr_first h.hl hv
              have hpos : 0 < l := by rw [h.len]; omega
              obtain ⟨g, hg, _, hat⟩ := h5.own.sm hpos
              rw [hf] at hat
              cases v with
              | nil => exact r4 rfl
              | cons y rr =>
                have := At_ne r3 hat.at rfl (by simp [strV])
                rw [hg] at hp; cases hp
                exact this e
            · have hi2 : i = vs.length := by
                have := (List.getElem?_eq_some_iff.1 hv).1
                simp at this; omega
              subst hi2
              rw [List.getElem?_append_right (Nat.le_refl _), Nat.sub_self] at hv
              simp at hv; subst hv
              refine ⟨w.heap.size, 1, by rw [← h.hl]; simp, by simp, (atx5.keep m6 fun ⟨p, hp, e⟩ => ?_).keep s3 (by omega), by simp, hb⟩
              have := hbq2 p hp; omega
          mod := ((h5.mod.trans m6 fun y hy ⟨q, hq, e⟩ => by have := hbq q hq; have := h.b0; omega).trans s3 fun y hy e => by have := h.b0; omega)
          b0 := h.b0 }
theorem Bld.done (h : Bld w0 w b a l c hs vs) (hwf : WF ⟨vs, -1⟩) : ∃ vb, RefIn w (fun x => w0.heap.size ≤ x ∧ x < w.heap.size) b vb c hs ⟨vs, -1⟩ := by
  have hlo := hwf.lo
  have hlen := h.len
  simp only at hlo
  obtain ⟨g, rfl, hg, hat⟩ := h.own.sm (by omega)
  have hcap := h.own.cap
  have hb0 := h.b0
  refine ⟨g, ?_⟩
  exact { cell := by have := h.cell; rw [hlen] at this; exact this
          vec := hat
          cap := by simp only; omega
          hl := h.hl
          row := fun i v hv => by
            obtain ⟨q, cc, r1, r2, r3, r4, r5⟩ := h.row i v hv
            refine ⟨q, cc, r1, r2, r3, ⟨by omega, r3.lt⟩, by omega, ?_⟩
            obtain ⟨q1, c1, u1, r, hf⟩ := hdr_first h.hl hv
            rw [hf] at hat
            cases v with
            | nil => exact absurd rfl r4
            | cons y rr => exact At_ne r3 hat.at rfl (by simp [strV])
          rb := ⟨hb0, h.cell.lt⟩
          rv := ⟨by omega, hat.lt⟩
          ne := by omega
          wf := hwf
          lt := fun x hx => hx.2 }
end
end Go.Proofs.YtoajelhfiganaaaGreat
end
section
open Go Go.Den Go.Proofs
namespace Go.Den
theorem DiskIn.widen {w : World} {R R' : Nat → Prop} {b sb mb sc : Nat} {L : List (Int × Value)} {D : St} (h : DiskIn w R b sb mb sc L D) (h1 : ∀ x, R x → R' x) (h2 : ∀ x, R' x → x < w.heap.size) : DiskIn w R' b sb mb sc L D where
  cell := h.cell
  cap := h.cap
  safe := h.safe
  map := h.map
  rb := h1 _ h.rb
  rs := h1 _ h.rs
  rm := h1 _ h.rm
  ne := h.ne
  opn := fun i v hv => by
    rcases h.opn i v hv with h | ⟨g1, vb, c, g2, g3, g4, g5, g6⟩
    · exact .inl h
    · exact .inr ⟨g1, vb, c, g2, g3, g4, h1 _ g5, g6⟩
  keys := h.keys
  wf := h.wf
  lt := h2
end Go.Den
namespace Go.Proofs.YtoajelhfiganaaaGreat
section
variable {w : World} {K : Value → World → Prop}
theorem none_c (hk : ∀ w', Mod No w w' → K (.string ⟨zeroB.toArray⟩) w') : Cal Tryz.prog F_leveeref02_none #[] w K := by
  apply C_leveeref02_none
  unfold D_leveeref02_none
  obtain ⟨w1, hm1, hat1, hmod1, hsz1⟩ := makeSlice_run (P := Tryz.prog) (w := w) (n := 256) elemZ_bytes (by omega) (by omega) (by omega)
  have hz : List.replicate (256 * 1) (Value.int .u8 0) = u8L zeroB := by unfold u8L zeroB; rw [List.map_replicate]; rfl
  rw [hz] at hat1
  exact ⟨_, _, _, w1, hm1, _, str_run (by kernel_rfl) (.inr ⟨_, _, rfl, hat1.at⟩) List.length_replicate, hk w1 hmod1⟩
theorem refNew_c {n : Int} (h0 : -9223372036854775808 ≤ n) (h1 : n ≤ 9223372036854775807) (hbad : n < 1 ∨ 4096 < n → K (.tuple #[.pointer none, .int .i64 1]) w)
    (hok : ∀ k : Nat, n = k → 1 ≤ k → k ≤ 4096 → ∀ w' b vb vc hs, Mod No w w' → RefIn w' (fun x => w.heap.size ≤ x ∧ x < w'.heap.size) b vb vc hs (newSt k) → K (.tuple #[.pointer (some ⟨b, 0, none⟩), .int .i64 0]) w') :
    Cal Tryz.prog F_leveeref02_New #[.int .i64 n] w K := by
  apply C_leveeref02_New
  unfold D_leveeref02_New
  refine Share.or ⟨_, rfl, cond_of (fun hb => ?_) (fun hb => ?_)⟩
  · exact hbad (by simpa using hb)
  have hn : ¬ (n < 1 ∨ 4096 < n) := by simpa using hb
  obtain ⟨k, rfl⟩ := Int.eq_ofNat_of_zero_le (show 0 ≤ n by omega)
  refine ⟨_, fun w => build_ref w, _, _, box_run, ?_⟩
  refine ⟨fun x w2 => ∃ (i : Nat) (a : Option Addr) (c : Nat) (hs : List (Nat × Nat)), i ≤ k ∧ x = [.int .i64 i] ∧ Bld w w2 w.heap.size a i c hs (List.replicate i [zeroB]), fun x _ => (k - nI x 0).toNat, ⟨0, none, 0, [], by omega, rfl, Bld.start w⟩, ?_⟩
  rintro x w2 ⟨i, a, c, hs, hi, rfl, hB⟩
  refine ⟨_, rfl, cond_of (fun hb => ?_) (fun hb => ?_)⟩
  · have hi : i < k := by have := of_decide_eq_true hb; omega
    have hBd := hB.nos (Mod.refl No w2).drew
    refine ⟨_, rfl, _, _, _, hBd.ld, none_c fun w3 m3 => ⟨_, rfl, (hBd.nos m3).ld, _, _, _, _, built_str _ _, ?_⟩⟩
    have hB3 := hBd.nos m3
    have m4 : Mod No w3 (w3.alloc (.cells ⟨[.string ⟨zeroB.toArray⟩]⟩ 9)) := (Mod.refl No w3).alloc _
    refine ⟨(hB3.nos m4).ld, _, fun w => build_blk w _ _ _, _, _, _, _, built_blk _ _ _ _, ?_⟩
    have m5 : Mod No (w3.alloc (.cells ⟨[.string ⟨zeroB.toArray⟩]⟩ 9)) ((w3.alloc (.cells ⟨[.string ⟨zeroB.toArray⟩]⟩ 9)).alloc (.cells ⟨[.slice (some ⟨w3.heap.size, 0, none⟩) 1 1]⟩ 88)) := (Mod.refl No _).alloc _
    refine ⟨((hB3.nos m4).nos m5).ld, ?_⟩
    obtain ⟨a', c', w6, w7, s1, s2, s3⟩ := hB3.step zeroB (by omega)
    refine ⟨_, _, _, w6, s1, _, rfl, w7, s2, ?_⟩
    rw [wrap64 (x := (i : Int) + 1) (by omega) (by omega)]
    refine ⟨⟨i + 1, a', c', hs ++ [(w3.heap.size, 1)], by omega, rfl, ?_⟩, by simp [nI, nth]; omega⟩
    have e : List.replicate (i + 1) [zeroB] = List.replicate i [zeroB] ++ [[zeroB]] := List.replicate_succ'
    rw [e]; exact s3
  · have hik : i = k := by have := of_decide_eq_false hb; omega
    subst hik
    obtain ⟨vb, hR⟩ := hB.done (WF.new (by omega) (by omega))
    exact hok i rfl (by omega) (by omega) w2 _ vb c hs hB.mod hR
def chunk (xs : List UInt8) (i : Nat) : Bk := (xs.drop (256 * i)).take 256
def ldSt (k : Nat) (xs : List UInt8) : St := ⟨(List.range k).map fun i => [chunk xs i], -1⟩
theorem chunk_len {xs : List UInt8} {k i : Nat} (hl : xs.length = 256 * k) (hi : i < k) : (chunk xs i).length = 256 := by
  unfold chunk; simp; omega
theorem WF.ld {xs : List UInt8} {k : Nat} (hl : xs.length = 256 * k) (h0 : 1 ≤ k) (h1 : k ≤ 4096) : WF (ldSt k xs) where
  ver := by
    intro v hv
    obtain ⟨i, hi, rfl⟩ := List.mem_map.1 hv
    refine ⟨by simp, fun x hx => ?_⟩
    simp at hx; subst hx
    exact chunk_len hl (List.mem_range.1 hi)
  lo := by simp [ldSt]; exact h0
  hi := by simp [ldSt]; exact h1
  l0 := by simp [ldSt]
  l1 := by simp [ldSt]
end
end Go.Proofs.YtoajelhfiganaaaGreat
end
section
open Go Go.Den Go.Proofs
namespace Go.Proofs.YtoajelhfiganaaaGreat
section
variable {w : World} {R : Nat → Prop} {b vb vc : Nat} {hs : List (Nat × Nat)} {D : St} {K : Value → World → Prop}
theorem RefIn_lft (h : RefIn w R b vb vc hs D) {w' : World} {left : Int} (hc : AtU w' b 0 [.slice (some ⟨vb, 0, none⟩) D.vs.length vc, .bool (heldB ⟨D.vs, left⟩), .int .i64 (leftB ⟨D.vs, left⟩)]) (m : Mod (fun x => x = b) w w') (h0 : -1 ≤ left) (h1 : left ≤ 9223372036854775807) :
    RefIn w' R b vb vc hs ⟨D.vs, left⟩ where
  cell := hc
  vec := h.vec.keep m h.ne.symm
  cap := h.cap
  hl := h.hl
  row := fun i v hv => by
    obtain ⟨q, c, r1, r2, r3, r4, r5, r6⟩ := h.row i v hv
    exact ⟨q, c, r1, r2, r3.keep m r5, r4, r5, r6⟩
  rb := h.rb
  rv := h.rv
  ne := h.ne
  wf := { ver := h.wf.ver, lo := h.wf.lo, hi := h.wf.hi, l0 := h0, l1 := h1 }
  lt := fun x hx => Nat.lt_of_lt_of_le (h.lt x hx) m.size
theorem RefIn_set (h : RefIn w R b vb vc hs D) {R' : Nat → Prop} {i q' c' : Nat} {v v' : List Bk} (hv : D.vs[i]? = some v) (hR : ∀ x, R x → R' x) (hq : R' q') (hlt : ∀ x, R' x → x < w.heap.size)
    (hat : At w q' 0 (v'.map strV)) (hqb : q' ≠ b) (hqv : q' ≠ vb) (hne : v' ≠ []) (hx : ∀ x ∈ v', x.length = 256) (hc : v'.length ≤ c') :
    ∃ w', RuU (Instr.storeAt 86 (.pointer (some (Addr.add (Addr.add ⟨vb, 0, none⟩ i) 0))) (.slice (some ⟨q', 0, none⟩) v'.length c')) w w' ∧ RefIn w' R' b vb vc (hs.set i (q', c')) ⟨D.vs.set i v', D.left⟩ ∧ Mod (fun x => x = vb) w w' := by
  have hilt := (List.getElem?_eq_some_iff.1 hv).1
  have hhl := h.hl
  have hlen : (hdrs hs D.vs).length = D.vs.length := by simp [hdrs, h.hl]
  obtain ⟨w', s1, s2, s3, s4⟩ := h.vec.store (P := Tryz.prog) (T := 86) (i := i) (v := .slice (some ⟨q', 0, none⟩) v'.length c') (by kernel_rfl) (by omega) rfl
  refine ⟨w', ?_, ?_, s3⟩
  · rw [add_none, add_none, Nat.add_zero]; exact s1
  have hset : (hdrs hs D.vs).set i (.slice (some ⟨q', 0, none⟩) v'.length c') = hdrs (hs.set i (q', c')) (D.vs.set i v') := by
    apply List.ext_getElem?
    intro j
    by_cases hj : i = j
    · subst hj
      rw [List.getElem?_set_self (by omega), hdrs_get (List.getElem?_set_self (by omega)) (List.getElem?_set_self hilt)]
    · rw [List.getElem?_set_ne hj]
      simp [hdrs, List.getElem?_zipWith, List.getElem?_set_ne hj]
  rw [hset] at s2
  exact { cell := by have := h.cell.keep s3 h.ne; simpa [heldB, leftB] using this
          vec := s2
          cap := by simpa using h.cap
          hl := by simpa using h.hl
          row := fun j u hu => by
            by_cases hj : i = j
            · subst hj
              rw [List.getElem?_set_self hilt] at hu
              have := Option.some.inj hu
              subst this
              exact ⟨q', c', List.getElem?_set_self (by omega), hc, hat.keep s3 hqv, hq, hqb, hqv⟩
            · rw [List.getElem?_set_ne hj] at hu
              obtain ⟨q, c, r1, r2, r3, r4, r5, r6⟩ := h.row j u hu
              exact ⟨q, c, by rw [List.getElem?_set_ne hj]; exact r1, r2, r3.keep s3 r6, hR _ r4, r5, r6⟩
          rb := hR _ h.rb
          rv := hR _ h.rv
          ne := h.ne
          wf := { ver := fun y hy => by
                    rcases List.mem_or_eq_of_mem_set hy with hy | rfl
                    · exact h.wf.ver y hy
                    · exact ⟨hne, hx⟩
                  lo := by simpa using h.wf.lo
                  hi := by simpa using h.wf.hi
                  l0 := h.wf.l0
                  l1 := h.wf.l1 }
          lt := fun x hx => Nat.lt_of_lt_of_le (hlt x hx) s3.size }
theorem refGoes_c (h : RefIn w R b vb vc hs D) (h0 : D.left = 0 → K (.bool false) w)
    (h1 : D.left ≠ 0 → ∀ w', RefIn w' R b vb vc hs ⟨D.vs, dec D.left⟩ → Mod (fun x => x = b) w w' → K (.bool true) w') : Cal Tryz.prog F_leveeref02_Disk_goes #[.pointer (some ⟨b, 0, none⟩)] w K := by
  apply C_leveeref02_Disk_goes
  unfold D_leveeref02_Disk_goes
  refine refStopped_c h ⟨_, rfl, cond_of (fun hb => ?_) (fun hb => ?_)⟩
  · exact h0 (of_decide_eq_true hb)
  have hnz := of_decide_eq_false hb
  have hl0 := h.wf.l0
  have hl1 := h.wf.l1
  refine ⟨_, rfl, _, rh h, Share.dup (cond_of (fun hb => ?_) (fun hb => ?_))⟩
  · have hb : D.left ≠ -1 := by unfold heldB at hb; exact of_decide_eq_true hb
    have hlB : leftB D = D.left := by unfold leftB; rw [if_neg hb]
    have hd : dec D.left = D.left - 1 := by unfold dec; rw [if_neg (by omega)]
    obtain ⟨w', s1, s2, s3, s4⟩ := h.cell.store (P := Tryz.prog) (T := 3) (i := 2) (v := .int .i64 (D.left - 1)) (by kernel_rfl) (by simp) rfl
    refine ⟨_, rfl, _, rl h, _, rfl, w', ?_, ?_⟩
    · rw [hlB, wrap64 (by omega) (by omega), add_none]; exact s1
    refine h1 hnz w' (RefIn_lft h ?_ s3 (by rw [hd]; omega) (by rw [hd]; omega)) s3
    have e1 : heldB D = heldB ⟨D.vs, dec D.left⟩ := by unfold heldB; rw [hd]; simp only; rw [Bool.eq_iff_iff]; simp only [decide_eq_true_eq]; omega
    have e2 : leftB ⟨D.vs, dec D.left⟩ = D.left - 1 := by unfold leftB; rw [hd]; simp only; rw [if_neg (by omega)]
    rw [e2, ← e1]; simpa using s2
  · have hb : D.left = -1 := by unfold heldB at hb; simpa using of_decide_eq_false hb
    have hd : dec D.left = D.left := by rw [hb]; rfl
    refine h1 hnz w ?_ (Mod.refl _ _)
    rw [hd]; exact h
theorem gro_lt {R : Nat → Prop} {w0 w' : World} (hR : ∀ x, R x → x < w0.heap.size) (hs : w0.heap.size ≤ w'.heap.size) : ∀ x, Gro R w0 w' x → x < w'.heap.size := fun x hx => by
  rcases hx with hx | hx
  · have := hR x hx; omega
  · exact hx.2
theorem refWrite_c (h : RefIn w R b vb vc hs D) (hsm : ∀ v ∈ D.vs, v.length ≤ 999999) {n : Int} {a : Option Addr} {l c : Nat} {ys : List UInt8} (hl : ys.length = l) (hr : Row w a (u8L ys)) (hdis : ys ≠ [] → ∀ q, a = some q → ¬ R q.block)
    (hk : ∀ w' hs', Mod R w w' → RefIn w' (Gro R w w') b vb vc hs' (wrSt D n ys) → K (.int .i64 (wrE D n ys)) w') : Cal Tryz.prog F_leveeref02_Disk_Write #[.pointer (some ⟨b, 0, none⟩), .int .i64 n, .slice a l c] w K := by
  apply C_leveeref02_Disk_Write
  unfold D_leveeref02_Disk_Write
  have gro : ∀ {w' : World} {hs' : List (Nat × Nat)} {D' : St}, RefIn w' R b vb vc hs' D' → RefIn w' (Gro R w w') b vb vc hs' D' := fun h' =>
    { cell := h'.cell, vec := h'.vec, cap := h'.cap, hl := h'.hl,
      row := fun i v hv => by obtain ⟨q, c, r1, r2, r3, r4, r5⟩ := h'.row i v hv; exact ⟨q, c, r1, r2, r3, .inl r4, r5⟩
      rb := .inl h'.rb, rv := .inl h'.rv, ne := h'.ne, wf := h'.wf
      lt := fun x hx => by
        rcases hx with hx | hx
        · exact h'.lt x hx
        · exact hx.2 }
  refine there_c h ⟨_, rfl, ?_⟩
  rcases err_cases (D := D) n with ⟨he, ho⟩ | ⟨he, i, v, rfl, hv, hver⟩
  · have hw : wrE D n ys = 3 := by unfold wrE; rw [he, if_pos (by omega)]
    have hS : wrSt D n ys = D := by unfold wrSt; rw [if_pos (.inl (by omega))]
    refine tt (by rw [he]; rfl) ?_
    have := hk w hs (Mod.refl _ _) (by rw [hS]; exact gro h)
    rw [hw] at this; exact this
  refine ff (by rw [he]; rfl) (cond_of (fun hb => ?_) (fun hb => ?_))
  · have hne : ys.length ≠ 256 := by simp at hb; omega
    have hw : wrE D i ys = 4 := by unfold wrE; rw [he, if_neg (by omega), if_pos hne]
    have hS : wrSt D i ys = D := by unfold wrSt; rw [if_pos (.inl (by omega))]
    have := hk w hs (Mod.refl _ _) (by rw [hS]; exact gro h)
    rw [hw] at this; exact this
  have hl2 : l = 256 := by simp at hb; omega
  subst hl2
  have hw : wrE D i ys = 0 := by unfold wrE; rw [he, if_neg (by omega), if_neg (by omega)]
  rw [hw] at hk
  refine refGoes_c h (fun hz => ⟨_, rfl, tt rfl ?_⟩) fun hnz w2 h2 m2 => ⟨_, rfl, ff rfl ?_⟩
  · have hS : wrSt D i ys = D := by unfold wrSt; rw [if_pos (.inr hz)]
    exact hk w hs (Mod.refl _ _) (by rw [hS]; exact gro h)
  have hS : wrSt D i ys = ⟨D.vs.set i (v ++ [ys]), dec D.left⟩ := by unfold wrSt; rw [if_neg (by omega), hver]; rfl
  rw [hS] at hk
  have hilt := (List.getElem?_eq_some_iff.1 hv).1
  have hvne := (h.wf.ver v (List.mem_of_getElem? hv)).1
  have hvlen := hsm v (List.mem_of_getElem? hv)
  obtain ⟨q, cq, hrow, hcq, hat, hRq, hqb, hqv, _⟩ := rrow h2 (D := ⟨D.vs, dec D.left⟩) hv
  refine ⟨_, rfl, _, _, _, rv h2, _, idx_blk hilt, _, _, _, hrow, ?_⟩
  have one : ∀ (u : List Bk), ∀ y ∈ u.map strV, y.oneCell' = true := fun u y hy => by
    obtain ⟨z, _, rfl⟩ := List.mem_map.1 hy; rfl
  obtain ⟨a3, c3, w3, h3, o3, m3⟩ := (Own.nil (P := Tryz.prog) (w := w2) (base := w2.heap.size) elemZ_strs).append (ty := 86) elemZ_strs (by omega) (a2 := some ⟨q, 0, none⟩) (m := v.length) (c2 := cq) (ys := v.map strV) (.inr ⟨_, _, rfl, hat⟩) (by simp) (fun e => by cases e) (one v) (by omega) (by omega) (Nat.le_refl _)
  simp only [Nat.zero_add, List.nil_append] at h3 o3
  have m3' : Mod No w2 w3 := (Mod.refl No w2).up m3 (Nat.le_refl _)
  have hyne : ys ≠ [] := fun e => by rw [e] at hl; simp at hl
  have hb2 : ∀ q', a = some q' → q'.block ≠ b := fun q' hq' e => hdis hyne q' hq' (by rw [e]; exact h.rb)
  have hr3 : Row (drew w3) a (u8L ys) := ((hr.keep m2 fun q' hq' => hb2 q' hq').nos m3').nos (Mod.refl No w3).drew
  have h3R := (h2.nos m3').drew
  refine ⟨_, _, _, w3, h3, _, rfl, _, _, _, rv h3R, _, str_run (by kernel_rfl) hr3 hl, _, _, _, _, built_str _ _, ?_⟩
  have m4 : Mod No (drew w3) ((drew w3).alloc (.cells ⟨[.string ⟨ys.toArray⟩]⟩ 9)) := (Mod.refl No _).alloc _
  refine ⟨rv (h3R.nos m4), ?_⟩
  have hs4 : ((drew w3).alloc (.cells ⟨[.string ⟨ys.toArray⟩]⟩ 9)).heap.size = w3.heap.size + 1 := by simp
  have aty : At ((drew w3).alloc (.cells ⟨[.string ⟨ys.toArray⟩]⟩ 9)) (drew w3).heap.size 0 ([ys].map strV) := AtU.new.at
  have h4R := h3R.nos m4
  have o4 := (o3.nos (Mod.refl No w3).drew).nos m4
  generalize (drew w3).alloc (.cells ⟨[.string ⟨ys.toArray⟩]⟩ 9) = w4 at *
  have hz2 := m2.size
  have hz3 := m3'.size
  obtain ⟨a5, c5, w5, h5, o5, m5⟩ := o4.append (ty := 86) elemZ_strs (by omega) (a2 := some ⟨(drew w3).heap.size, 0, none⟩) (m := 1) (c2 := 1) (ys := [ys].map strV) (.inr ⟨_, _, rfl, aty⟩) (by simp) (fun e => by cases e) (one [ys]) (by omega) (by omega) (by omega)
  have hlt2 : ∀ x, R x → x < w2.heap.size := h2.lt
  have h5R := h4R.keep m5 fun x hx e => by have := hlt2 x hx; omega
  obtain ⟨g, rfl, hg, hgat⟩ := o5.sm (by omega)
  have hz5 := m5.size
  have hglt := hgat.lt
  have hgat' : At w5 g 0 ((v ++ [ys]).map strV) := by rw [List.map_append]; exact hgat.at
  have hcap5 := o5.cap
  refine ⟨_, _, _, w5, h5, rv h5R, _, idx_blk hilt, ?_⟩
  have hrb := hlt2 b h.rb
  have hrvb := hlt2 vb h.rv
  obtain ⟨w6, t1, t2, t3⟩ := RefIn_set h5R (D := ⟨D.vs, dec D.left⟩) (R' := Gro R w w5) (q' := g) (c' := c5) (v' := v ++ [ys]) hv (fun x hx => .inl hx) (.inr ⟨by omega, hglt⟩) (gro_lt h.lt (by omega)) hgat' (by omega) (by omega) (by simp)
    (fun x hx => by
      rcases List.mem_append.1 hx with hx | hx
      · exact (h.wf.ver v (List.mem_of_getElem? hv)).2 x hx
      · simp at hx; subst hx; omega) (by simp; omega)
  have hlv : (v ++ [ys]).length = v.length + 1 := by simp
  rw [hlv] at t1
  refine ⟨w6, t1, ?_⟩
  have M2 : Mod R w w2 := m2.mono fun x _ e => by subst e; exact h.rb
  have M5 : Mod R w w5 := (((M2.no m3').no (Mod.refl No w3).drew).no m4).trans m5 fun x hx e => by omega
  have hz6 := t3.size
  refine hk w6 (hs.set i (g, c5)) (M5.trans t3 fun x _ e => by subst e; exact h.rv) ?_
  exact { cell := t2.cell, vec := t2.vec, cap := t2.cap, hl := t2.hl
          row := fun j u hu => by
            obtain ⟨q, cc, r1, r2, r3, r4, r5⟩ := t2.row j u hu
            exact ⟨q, cc, r1, r2, r3, by rcases r4 with r4 | r4
                                         · exact .inl r4
                                         · exact .inr ⟨r4.1, by omega⟩, r5⟩
          rb := .inl h.rb, rv := .inl h.rv, ne := h.ne, wf := t2.wf
          lt := gro_lt h.lt (by omega) }
end
end Go.Proofs.YtoajelhfiganaaaGreat
end
section
open Go Go.Den Go.Proofs
namespace Go.Proofs.YtoajelhfiganaaaGreat
def updR (D : St) (ks : List Nat) (f : Nat → List Bk → Bk) : St := ⟨D.vs.mapIdx fun i v => if i ∈ ks then [f i v] else v, D.left⟩
section
variable {w : World} {R : Nat → Prop} {b vb vc : Nat} {hs : List (Nat × Nat)} {D : St} {K : Value → World → Prop}
theorem St_ext {A B : St} (h1 : A.vs = B.vs) (h2 : A.left = B.left) : A = B := by
  cases A; cases B; simp only at h1 h2; rw [h1, h2]
theorem updR_get {ks : List Nat} {f : Nat → List Bk → Bk} {i : Nat} {v : List Bk} (hv : D.vs[i]? = some v) : (updR D ks f).vs[i]? = some (if i ∈ ks then [f i v] else v) := by
  simp [updR, List.getElem?_mapIdx, hv]
theorem updR_step {ks : List Nat} {f : Nat → List Bk → Bk} {i : Nat} {v : List Bk} (hv : D.vs[i]? = some v) : (updR D ks f).vs.set i [f i v] = (updR D (ks ++ [i]) f).vs := by
  apply List.ext_getElem?
  intro j
  by_cases hj : i = j
  · subst hj
    have hlt : i < (updR D ks f).vs.length := by simp [updR]; exact (List.getElem?_eq_some_iff.1 hv).1
    rw [List.getElem?_set_self hlt, updR_get hv, if_pos (by simp)]
  · rw [List.getElem?_set_ne hj]
    cases hw : D.vs[j]? with
    | none => simp [updR, List.getElem?_mapIdx, hw]
    | some u =>
      rw [updR_get hw, updR_get hw]
      have : (j ∈ ks ++ [i]) ↔ j ∈ ks := by simp; intro e; exact absurd e.symm hj
      simp only [this]
theorem updR_nil (D : St) (f : Nat → List Bk → Bk) : updR D [] f = D := by
  have : (D.vs.mapIdx fun i v => if i ∈ ([] : List Nat) then [f i v] else v) = D.vs := by
    apply List.ext_getElem?
    intro i
    rw [List.getElem?_mapIdx]
    cases D.vs[i]? <;> simp
  unfold updR; rw [this]
theorem updR_all {ks : List Nat} {f : Nat → List Bk → Bk} (h : ∀ i v, D.vs[i]? = some v → i ∉ ks → v = [f i v]) : (updR D ks f).vs = (put1 D f).vs := by
  unfold updR put1
  apply List.ext_getElem?
  intro i
  rw [List.getElem?_mapIdx, List.getElem?_mapIdx]
  cases hv : D.vs[i]? with
  | none => rfl
  | some v =>
    simp only [Option.map_some]
    by_cases hi : i ∈ ks
    · rw [if_pos hi]
    · rw [if_neg hi, ← h i v hv hi]
theorem Gro_mono {w0 w1 w2 : World} (h : w1.heap.size ≤ w2.heap.size) : ∀ x, Gro R w0 w1 x → Gro R w0 w2 x := fun x hx => by
  rcases hx with hx | hx
  · exact .inl hx
  · exact .inr ⟨hx.1, by omega⟩
theorem _root_.Go.Den.RefIn.widen {R' : Nat → Prop} (h : RefIn w R b vb vc hs D) (h1 : ∀ x, R x → R' x) (h2 : ∀ x, R' x → x < w.heap.size) : RefIn w R' b vb vc hs D where
  cell := h.cell
  vec := h.vec
  cap := h.cap
  hl := h.hl
  row := fun i v hv => by obtain ⟨q, c, r1, r2, r3, r4, r5⟩ := h.row i v hv; exact ⟨q, c, r1, r2, r3, h1 _ r4, r5⟩
  rb := h1 _ h.rb
  rv := h1 _ h.rv
  ne := h.ne
  wf := h.wf
  lt := h2
theorem one_row {w0 : World} (hR : ∀ x, R x → x < w0.heap.size) (hrb : R b) (hrv : R vb) (h : RefIn w (Gro R w0 w) b vb vc hs D) (hz : w0.heap.size ≤ w.heap.size) {i : Nat} {v : List Bk} {x : Bk} (hv : D.vs[i]? = some v) (hx : x.length = 256) :
    RefIn (w.alloc (.cells ⟨[.string ⟨x.toArray⟩]⟩ 9)) (Gro R w0 (w.alloc (.cells ⟨[.string ⟨x.toArray⟩]⟩ 9))) b vb vc hs D ∧
    ∃ w', RuU (Instr.storeAt 86 (.pointer (some (Addr.add (Addr.add ⟨vb, 0, none⟩ i) 0))) (.slice (some ⟨w.heap.size, 0, none⟩) 1 1)) (w.alloc (.cells ⟨[.string ⟨x.toArray⟩]⟩ 9)) w' ∧
      RefIn w' (Gro R w0 w') b vb vc (hs.set i (w.heap.size, 1)) ⟨D.vs.set i [x], D.left⟩ ∧ Mod R w w' := by
  have m1 : Mod No w (w.alloc (.cells ⟨[.string ⟨x.toArray⟩]⟩ 9)) := (Mod.refl No w).alloc _
  have hat : At (w.alloc (.cells ⟨[.string ⟨x.toArray⟩]⟩ 9)) w.heap.size 0 ([x].map strV) := AtU.new.at
  have hs1 : (w.alloc (.cells ⟨[.string ⟨x.toArray⟩]⟩ 9)).heap.size = w.heap.size + 1 := by simp
  generalize w.alloc (.cells ⟨[.string ⟨x.toArray⟩]⟩ 9) = w1 at *
  have h1 := (h.nos m1).widen (R' := Gro R w0 w1) (Gro_mono (by omega)) (gro_lt hR (by omega))
  refine ⟨h1, ?_⟩
  have hb := hR b hrb
  have hvb := hR vb hrv
  obtain ⟨w2, s1, s2, s3⟩ := RefIn_set h1 (R' := Gro R w0 w1) (q' := w.heap.size) (c' := 1) (v' := [x]) hv (fun _ h => h) (.inr ⟨by omega, by omega⟩) h1.lt hat (by omega) (by omega) (by simp) (fun y hy => by simp at hy; subst hy; exact hx) (by simp)
  have hz2 := s3.size
  exact ⟨w2, s1, s2.widen (Gro_mono (by omega)) (gro_lt hR (by omega)), (m1.mono fun _ _ h => h.elim).trans s3 fun y _ e => by subst e; exact hrv⟩
theorem refFlush_c (h : RefIn w R b vb vc hs D) (hsm : Small D) (hk : ∀ w' hs', Mod R w w' → RefIn w' (Gro R w w') b vb vc hs' (flSt D) → K (.int .i64 0) w') : Cal Tryz.prog F_leveeref02_Disk_Flush #[.pointer (some ⟨b, 0, none⟩)] w K := by
  apply C_leveeref02_Disk_Flush
  unfold D_leveeref02_Disk_Flush
  refine refGoes_c h (fun hz => ⟨_, rfl, tt rfl ?_⟩) fun hnz w2 h2 m2 => ⟨_, rfl, ff rfl ?_⟩
  · have e : flSt D = D := by unfold flSt; rw [if_pos hz]
    exact hk w hs (Mod.refl _ _) (by rw [e]; exact h.widen (fun x hx => .inl hx) (gro_lt h.lt (Nat.le_refl _)))
  have eF : flSt D = ⟨D.vs.map fun v => [lastV v], dec D.left⟩ := by unfold flSt; rw [if_neg hnz]
  rw [eF] at hk
  have hhi := h.wf.hi
  have hz2 := m2.size
  have M2 : Mod R w w2 := m2.mono fun x _ e => by subst e; exact h.rb
  generalize hD2 : (⟨D.vs, dec D.left⟩ : St) = D2 at *
  have hvs : D2.vs = D.vs := by rw [← hD2]
  have hn2 : D2.vs.length = D.vs.length := by rw [hvs]
  have hlt2 : D2.left = dec D.left := by rw [← hD2]
  refine ⟨fun x w3 => ∃ (i : Nat) (hs' : List (Nat × Nat)), i ≤ D2.vs.length ∧ x = [.int .i64 i] ∧ RefIn w3 (Gro R w w3) b vb vc hs' (updR D2 (List.range i) fun _ v => lastV v) ∧ Mod R w w3 ∧ w.heap.size ≤ w3.heap.size, fun x _ => (D2.vs.length - nI x 0).toNat,
    ⟨0, hs, by omega, rfl, by rw [List.range_zero, updR_nil]; exact h2.widen (fun x hx => .inl hx) (gro_lt h.lt hz2), M2, hz2⟩, ?_⟩
  rintro x w3 ⟨i, hs', hi, rfl, h3, M3, hz3⟩
  have hn3 : (updR D2 (List.range i) fun _ v => lastV v).vs.length = D2.vs.length := by simp [updR]
  have hrv3 := rv h3
  rw [hn3] at hrv3
  refine ⟨_, rfl, _, rfl, _, _, _, hrv3, cond_of (fun hb => ?_) (fun hb => ?_)⟩
  · have hi : i < D2.vs.length := by have := of_decide_eq_true hb; omega
    have hv : D2.vs[i]? = some D2.vs[i] := by simp [hi]
    have hv3 : (updR D2 (List.range i) fun _ v => lastV v).vs[i]? = some D2.vs[i] := by rw [updR_get hv, if_neg (by simp)]
    have hvm : D2.vs[i] ∈ D.vs := by rw [← hvs]; exact List.getElem_mem hi
    have hvne := (h.wf.ver _ hvm).1
    have hvp := List.length_pos_iff.2 hvne
    have hvl := hsm _ hvm
    have hll : (lastV D2.vs[i]).length = 256 := h2.wf.lastLen hv
    obtain ⟨q, cq, hrow, hcq, hat, _⟩ := rrow h3 hv3
    refine ⟨_, rfl, _, _, _, hrv3, _, idx_blk hi, _, _, _, hrow, _, rfl, ?_⟩
    have h3d := h3.drew
    have hrv3d := rv h3d
    rw [hn3] at hrv3d
    refine ⟨_, _, _, hrv3d, ?_⟩
    rw [wrap64 (x := (D2.vs[i].length : Int) - 1) (by omega) (by omega), show (D2.vs[i].length : Int) - 1 = ((D2.vs[i].length - 1 : Nat) : Int) by omega]
    refine ⟨_, idx_str (by omega), _, strV_get (show At (drew w3) q 0 _ from hat) (last_get hvne), _, _, _, _, built_str _ _, ?_⟩
    have h3g : RefIn (drew w3) (Gro R w (drew w3)) b vb vc hs' (updR D2 (List.range i) fun _ v => lastV v) := h3d
    obtain ⟨h4, w5, s1, s2, s3⟩ := one_row (w0 := w) h.lt h.rb h.rv h3g hz3 hv3 hll
    have hrv4 := rv h4
    rw [hn3] at hrv4
    refine ⟨hrv4, _, idx_blk hi, w5, s1, ?_⟩
    rw [wrap64 (x := (i : Int) + 1) (by omega) (by omega)]
    have M5 : Mod R w w5 := (M3.no (Mod.refl No w3).drew).trans s3 fun _ _ h => h
    refine ⟨⟨i + 1, hs'.set i ((drew w3).heap.size, 1), by omega, rfl, ?_, M5, M5.size⟩, by simp [nI, nth]; omega⟩
    have e := updR_step (ks := List.range i) (f := fun _ v => lastV v) hv
    rw [← List.range_succ] at e
    rw [e] at s2
    exact s2
  · have hik : i = D2.vs.length := by have := of_decide_eq_false hb; omega
    subst hik
    refine hk w3 hs' M3 ?_
    have e : updR D2 (List.range D2.vs.length) (fun _ v => lastV v) = ⟨D.vs.map fun v => [lastV v], dec D.left⟩ := by
      have h1 := updR_all (D := D2) (ks := List.range D2.vs.length) (f := fun _ v => lastV v) (fun i v hv hi => by
        have := (List.getElem?_eq_some_iff.1 hv).1
        simp at hi; omega)
      rw [put1_const] at h1
      exact St_ext (by rw [h1, ← hvs]) hlt2
    rw [e] at h3
    exact h3
end
end Go.Proofs.YtoajelhfiganaaaGreat
end
section
open Go Go.Den Go.Proofs
namespace Go.Proofs.YtoajelhfiganaaaGreat
structure Rs where
  D : St
  base : List Bk
  l : List Ch
  last : Nat
structure WFR (S : Rs) : Prop where
  len : S.base.length = S.D.vs.length
  small : Small S.D
  bl : ∀ b ∈ S.base, b.length = 256
  dat : ∀ x ∈ S.l, 1 ≤ x.data.length ∧ x.frm + x.data.length ≤ 256
  blt : ∀ x ∈ S.l, x.b < S.base.length
  srt : S.l.Pairwise fun x y => x.id < y.id
  idr : ∀ x ∈ S.l, 1 ≤ x.id ∧ x.id ≤ S.last
  aft : ∀ x ∈ S.l, ∀ k ∈ x.after, k < (x.id : Int)
  aftn : ∀ x ∈ S.l, x.after.length ≤ 1000000
  last : S.last ≤ 1000000
theorem WFR.llen {S : Rs} (h : WFR S) : S.l.length ≤ S.last := by
  have hn : (S.l.map (·.id)).Nodup := List.Pairwise.map _ (fun a b h => by have h : a.id < b.id := h; omega) h.srt
  have := List.Nodup.length_le_of_subset hn (l₂ := (List.range S.last).map (· + 1)) fun k hk => by
    obtain ⟨x, hx, rfl⟩ := List.mem_map.1 hk
    have := h.idr x hx
    exact List.mem_map.2 ⟨x.id - 1, List.mem_range.2 (by omega), by omega⟩
  simpa using this
def chV (x : Ch) (h : Option Addr × Nat) : List Value := [.int .i64 x.id, .int .i64 x.b, .int .i64 x.frm, .string ⟨x.data.toArray⟩, .slice h.1 x.after.length h.2, .bool x.out]
def rowL (l : List Ch) (H : List (Option Addr × Nat)) : List Value := (List.zipWith chV l H).flatten
theorem rowL_len : ∀ {l : List Ch} {H : List (Option Addr × Nat)}, H.length = l.length → (rowL l H).length = l.length * 6
  | [], [], _ => rfl
  | x :: l, h :: H, e => by
    have e : H.length = l.length := by simpa using e
    have := rowL_len e
    unfold rowL at this ⊢
    simp only [List.zipWith_cons_cons, List.flatten_cons, List.length_append, this, List.length_cons]
    simp [chV]; omega
theorem rowL_get : ∀ {l : List Ch} {H : List (Option Addr × Nat)} {i : Nat} {x : Ch} {h : Option Addr × Nat}, l[i]? = some x → H[i]? = some h → ((rowL l H).drop (i * 6)).take 6 = chV x h
  | [], _, i, x, h, e, _ => by simp at e
  | _ :: _, [], i, x, h, _, e => by simp at e
  | y :: l, k :: H, 0, x, h, e1, e2 => by
    simp at e1 e2; subst e1; subst e2
    simp [rowL, chV]
  | y :: l, k :: H, i + 1, x, h, e1, e2 => by
    have := rowL_get (l := l) (H := H) (i := i) (x := x) (h := h) (by simpa using e1) (by simpa using e2)
    rw [← this]
    unfold rowL
    rw [List.zipWith_cons_cons, List.flatten_cons, show (i + 1) * 6 = (chV y k).length + i * 6 by simp [chV]; omega, ← List.drop_drop]
    simp
theorem rowL_cell {l : List Ch} {H : List (Option Addr × Nat)} {i j : Nat} {x : Ch} {h : Option Addr × Nat} {v : Value} (h1 : l[i]? = some x) (h2 : H[i]? = some h) (hj : (chV x h)[j]? = some v) : (rowL l H)[i * 6 + j]? = some v := by
  have hj6 : j < 6 := by have := (List.getElem?_eq_some_iff.1 hj).1; simpa [chV] using this
  rw [← rowL_get h1 h2, List.getElem?_take, if_pos hj6, List.getElem?_drop] at hj
  exact hj
structure RIn (w0 : World) (R : Nat → Prop) (rl : Nat → Nat) (w : World) (rp r vb vc : Nat) (hs : List (Nat × Nat)) (ba : Option Addr) (bc : Nat) (la : Option Addr) (lc : Nat) (H : List (Option Addr × Nat)) (S : Rs) : Prop where
  disk : RefIn w (fun x => rl x = 4) r vb vc hs S.D
  cell : AtU w rp 0 [.pointer (some ⟨r, 0, none⟩), .slice ba S.base.length bc, .slice la S.l.length lc, .int .i64 S.last]
  base : Own Tryz.prog w w0.heap.size 86 1 ba S.base.length bc (S.base.map strV)
  row : Own Tryz.prog w w0.heap.size 169 6 la S.l.length lc (rowL S.l H)
  hl : H.length = S.l.length
  aft : ∀ (i : Nat) (x : Ch) (h : Option Addr × Nat), S.l[i]? = some x → H[i]? = some h → Row w h.1 (iL x.after) ∧ (x.after ≠ [] → ∀ q, h.1 = some q → rl q.block = 5)
  rp1 : rl rp = 1
  rba : ∀ q, ba = some q → rl q.block = 2
  rla : ∀ q, la = some q → rl q.block = 3
  wf : WFR S
  reg : ∀ x, rl x ≠ 0 → R x
  lo : ∀ x, R x → w0.heap.size ≤ x ∧ x < w.heap.size
  mod : Mod No w0 w
section
variable {w0 w w' : World} {R : Nat → Prop} {rl : Nat → Nat} {rp r vb vc bc lc : Nat} {hs : List (Nat × Nat)} {ba la : Option Addr} {H : List (Option Addr × Nat)} {S : Rs} {K : Value → World → Prop}
theorem RIn.keepS {Z : Nat → Prop} (h : RIn w0 R rl w rp r vb vc hs ba bc la lc H S) (k : Mod Z w w') (hsr : ∀ x, R x → ¬ Z x) (hw : ∀ x, x < w0.heap.size → ¬ Z x) : RIn w0 R rl w' rp r vb vc hs ba bc la lc H S := by
  have hr : ∀ {x}, rl x ≠ 0 → ¬ Z x := fun hx => hsr _ (h.reg _ hx)
  exact {
    disk := h.disk.keep k fun x hx => hr (by omega)
    cell := h.cell.keep k (hr (by rw [h.rp1]; omega))
    base := h.base.keep k fun q hq => hr (by rw [h.rba q hq]; omega)
    row := h.row.keep k fun q hq => hr (by rw [h.rla q hq]; omega)
    hl := h.hl
    aft := fun i x p h1 h2 => by
      obtain ⟨g1, g2⟩ := h.aft i x p h1 h2
      refine ⟨?_, g2⟩
      by_cases hne : x.after = []
      · rw [hne]; exact .inl rfl
      · exact g1.keep k fun q hq => hr (by rw [g2 hne q hq]; omega)
    rp1 := h.rp1
    rba := h.rba
    rla := h.rla
    wf := h.wf
    reg := h.reg
    lo := fun x hx => by have := h.lo x hx; have := k.size; omega
    mod := h.mod.trans k fun x hx e => absurd e (hw x hx) }
theorem RIn.nos (h : RIn w0 R rl w rp r vb vc hs ba bc la lc H S) (k : Mod No w w') : RIn w0 R rl w' rp r vb vc hs ba bc la lc H S := h.keepS k (fun _ _ => id) fun _ _ => id
theorem RIn.drew (h : RIn w0 R rl w rp r vb vc hs ba bc la lc H S) : RIn w0 R rl (Go.Den.drew w) rp r vb vc hs ba bc la lc H S := h.nos (Mod.refl No w).drew
theorem RIn.widen {R' : Nat → Prop} (h : RIn w0 R rl w rp r vb vc hs ba bc la lc H S) (h1 : ∀ x, R x → R' x) (h2 : ∀ x, R' x → w0.heap.size ≤ x ∧ x < w.heap.size) : RIn w0 R' rl w rp r vb vc hs ba bc la lc H S :=
  { h with reg := fun x hx => h1 x (h.reg x hx), lo := h2 }
theorem RIn.gro (h : RIn w0 R rl w rp r vb vc hs ba bc la lc H S) (k : Mod No w w') : RIn w0 (Gro R w w') rl w' rp r vb vc hs ba bc la lc H S :=
  (h.nos k).widen (fun x hx => .inl hx) fun x hx => by
    have := k.size
    have := h.mod.size
    rcases hx with hx | hx
    · have := h.lo x hx; omega
    · omega
theorem RIn.out_of {x : Nat} (h : RIn w0 R rl w rp r vb vc hs ba bc la lc H S) (hx : w.heap.size ≤ x) : rl x = 0 := by
  by_cases e : rl x = 0
  · exact e
  · have := h.lo x (h.reg x e); omega
theorem RIn.step {Z : Nat → Prop} {rl' : Nat → Nat} {bc' lc' : Nat} {ba' la' : Option Addr} {H' : List (Option Addr × Nat)} {S' : Rs} (h : RIn w0 R rl w rp r vb vc hs ba bc la lc H S) (hD : S'.D = S.D) (k : Mod Z w w') (hx : Ext w w' rl rl')
    (hS : ∀ x, x < w.heap.size → Z x → rl x ≠ 0 ∧ rl x ≠ 4 ∧ rl x ≠ 5)
    (hcell : AtU w' rp 0 [.pointer (some ⟨r, 0, none⟩), .slice ba' S'.base.length bc', .slice la' S'.l.length lc', .int .i64 S'.last])
    (hbase : Own Tryz.prog w' w0.heap.size 86 1 ba' S'.base.length bc' (S'.base.map strV)) (hrow : Own Tryz.prog w' w0.heap.size 169 6 la' S'.l.length lc' (rowL S'.l H')) (hl : H'.length = S'.l.length)
    (haft : ∀ (i : Nat) (x : Ch) (p : Option Addr × Nat), S'.l[i]? = some x → H'[i]? = some p → (∃ (i0 : Nat) (x0 : Ch), S.l[i0]? = some x0 ∧ H[i0]? = some p ∧ x0.after = x.after) ∨ (Row w' p.1 (iL x.after) ∧ (x.after ≠ [] → ∀ q, p.1 = some q → rl' q.block = 5)))
    (hba : ∀ q, ba' = some q → rl' q.block = 2) (hla : ∀ q, la' = some q → rl' q.block = 3) (hwf : WFR S') :
    RIn w0 (Gro R w w') rl' w' rp r vb vc hs ba' bc' la' lc' H' S' where
  disk := by
    rw [hD]
    have e : (fun x => rl' x = 4) = fun x => rl x = 4 := by
      funext x; apply propext
      exact ⟨hx.dsk x, fun e => by rw [hx.old x (by omega)]; exact e⟩
    rw [e]
    exact h.disk.keep k fun x hx e => by
      have := h.lo x (h.reg x (by omega))
      exact (hS x this.2 e).2.1 hx
  cell := hcell
  base := hbase
  row := hrow
  hl := hl
  aft := fun i x p h1 h2 => by
    rcases haft i x p h1 h2 with ⟨i0, x0, e1, e2, e3⟩ | h
    · obtain ⟨g1, g2⟩ := h.aft i0 x0 p e1 e2
      rw [e3] at g1 g2
      refine ⟨?_, fun hne q hq => by rw [hx.old _ (by rw [g2 hne q hq]; omega)]; exact g2 hne q hq⟩
      by_cases hne : x.after = []
      · rw [hne]; exact .inl rfl
      · exact Row.keep2 g1 k fun q hq hlt e => (hS _ hlt e).2.2 (g2 hne q hq)
    · exact h
  rp1 := by rw [hx.old _ (by rw [h.rp1]; omega)]; exact h.rp1
  rba := hba
  rla := hla
  wf := hwf
  reg := fun x hx' => by
    by_cases e : rl x = 0
    · exact .inr (hx.new x e hx')
    · exact .inl (h.reg x e)
  lo := fun x hx => by
    have := k.size
    have := h.mod.size
    rcases hx with hx | hx
    · have := h.lo x hx; omega
    · omega
  mod := h.mod.trans k fun x hx' e => by
    have hsz := h.mod.size
    have := (hS x (by omega) e).1
    have := h.lo x (h.reg x this)
    omega
theorem RIn.dsk {Z : Nat → Prop} {hs' : List (Nat × Nat)} {D' : St} (h : RIn w0 R rl w rp r vb vc hs ba bc la lc H S) (k : Mod Z w w') (hS : ∀ x, Z x → rl x = 4)
    (hd : RefIn w' (Gro (fun x => rl x = 4) w w') r vb vc hs' D') (hsm : Small D') (hn : D'.vs.length = S.D.vs.length) :
    ∃ rl', RIn w0 (Gro R w w') rl' w' rp r vb vc hs' ba bc la lc H { S with D := D' } := by
  classical
  have hz := k.size
  have old : ∀ x, rl x ≠ 0 → x < w.heap.size := fun x hx => (h.lo x (h.reg x hx)).2
  have e4 : (fun x => (if w.heap.size ≤ x ∧ x < w'.heap.size then 4 else rl x) = 4) = Gro (fun x => rl x = 4) w w' := by
    funext x; apply propext
    unfold Gro
    constructor
    · intro e
      split at e
      · right; assumption
      · left; exact e
    · rintro (e | e)
      · have := old x (by omega)
        rw [if_neg (by omega)]; exact e
      · rw [if_pos e]
  have keepr : ∀ {x}, rl x ≠ 0 → (if w.heap.size ≤ x ∧ x < w'.heap.size then 4 else rl x) = rl x := fun {x} hx => by have := old x hx; rw [if_neg (by omega)]
  refine ⟨fun x => if w.heap.size ≤ x ∧ x < w'.heap.size then 4 else rl x, {
    disk := by rw [e4]; exact hd
    cell := h.cell.keep k fun e => by have := hS _ e; rw [h.rp1] at this; omega
    base := h.base.keep k fun q hq e => by have := hS _ e; rw [h.rba q hq] at this; omega
    row := h.row.keep k fun q hq e => by have := hS _ e; rw [h.rla q hq] at this; omega
    hl := h.hl
    aft := fun i x p h1 h2 => by
      obtain ⟨g1, g2⟩ := h.aft i x p h1 h2
      refine ⟨?_, fun hne q hq => by rw [keepr (by rw [g2 hne q hq]; omega)]; exact g2 hne q hq⟩
      by_cases hne : x.after = []
      · rw [hne]; exact .inl rfl
      · exact g1.keep k fun q hq e => by have := hS _ e; rw [g2 hne q hq] at this; omega
    rp1 := by rw [keepr (by rw [h.rp1]; omega)]; exact h.rp1
    rba := fun q hq => by rw [keepr (by rw [h.rba q hq]; omega)]; exact h.rba q hq
    rla := fun q hq => by rw [keepr (by rw [h.rla q hq]; omega)]; exact h.rla q hq
    wf := { h.wf with len := h.wf.len.trans hn.symm, small := hsm }
    reg := fun x hx => by
      by_cases e : w.heap.size ≤ x ∧ x < w'.heap.size
      · exact .inr e
      · rw [if_neg e] at hx; exact .inl (h.reg x hx)
    lo := fun x hx => by
      have := h.mod.size
      rcases hx with hx | hx
      · have := h.lo x hx; omega
      · omega
    mod := h.mod.trans k fun x hx e => by
      have hne : rl x ≠ 0 := by rw [hS x e]; omega
      have := h.lo x (h.reg x hne); omega }⟩
theorem RIn.ld (h : RIn w0 R rl w rp r vb vc hs ba bc la lc H S) : Ru (Instr.loadAt 31 (.pointer (some (Addr.add ⟨rp, 0, none⟩ 0)))) w (.pointer (some ⟨r, 0, none⟩)) w := by
  rw [add_none]; exact h.cell.at.load (by kernel_rfl) rfl
theorem RIn.lb (h : RIn w0 R rl w rp r vb vc hs ba bc la lc H S) : Ru (Instr.loadAt 86 (.pointer (some (Addr.add ⟨rp, 0, none⟩ 1)))) w (.slice ba S.base.length bc) w := by
  rw [add_none]; exact h.cell.at.load (by kernel_rfl) rfl
theorem RIn.ll (h : RIn w0 R rl w rp r vb vc hs ba bc la lc H S) : Ru (Instr.loadAt 169 (.pointer (some (Addr.add ⟨rp, 0, none⟩ 2)))) w (.slice la S.l.length lc) w := by
  rw [add_none]; exact h.cell.at.load (by kernel_rfl) rfl
theorem agg_chg : aggN Tryz.prog 213 = some 6 := by kernel_rfl
theorem elemG_chgs : elemG Tryz.prog 169 6 72 := elemG_of (by kernel_rfl)
theorem RIn.at {i : Nat} {x : Ch} (h : RIn w0 R rl w rp r vb vc hs ba bc la lc H S) (hx : S.l[i]? = some x) : ∃ g p, la = some ⟨g, 0, none⟩ ∧ H[i]? = some p ∧ Al (Instr.indexAt 169 (.slice la S.l.length lc) (.int .i64 i)) (.pointer (some ⟨g, i * 6, none⟩)) ∧
    (∀ (j : Nat) (T : TypeId) (v : Value), scal Tryz.prog T = true → (chV x p)[j]? = some v → Ru (Instr.loadAt T (.pointer (some (Addr.add ⟨g, i * 6, none⟩ j)))) w v w) ∧
    Ru (Instr.loadAt 213 (.pointer (some ⟨g, i * 6, none⟩))) w (.agg ⟨chV x p⟩) w ∧ Row w p.1 (iL x.after) := by
  have hi := (List.getElem?_eq_some_iff.1 hx).1
  obtain ⟨g, rfl, hg, hat⟩ := h.row.sm (by omega)
  obtain ⟨p, hp⟩ : ∃ p, H[i]? = some p := ⟨H[i]'(by rw [h.hl]; exact hi), List.getElem?_eq_getElem (by rw [h.hl]; exact hi)⟩
  refine ⟨g, p, rfl, hp, fun w' => ?_, fun j T v hT hj => ?_, ?_, (h.aft i x p hx hp).1⟩
  · have := index_slice (P := Tryz.prog) (T := 169) (k := 6) (a := ⟨g, 0, none⟩) (n := S.l.length) (c := lc) (kk := .i64) (i := i) (by kernel_rfl) (by omega) (by omega) w'
    rw [add_none, show 0 + (i : Int).toNat * 6 = i * 6 by omega] at this
    exact this
  · rw [add_none]
    have := hat.at.load (P := Tryz.prog) (i := i * 6 + j) hT (rowL_cell hx hp hj)
    rwa [Nat.zero_add] at this
  · have := hat.at.loadAgg (P := Tryz.prog) (i := i * 6) agg_chg (by rw [rowL_len h.hl]; omega)
    rw [rowL_get hx hp, Nat.zero_add] at this
    exact this
theorem rthere_c (h : RIn w0 R rl w rp r vb vc hs ba bc la lc H S) {n : Int} (hk : K (.bool (decide (0 ≤ n ∧ n < S.base.length))) w) : Cal Tryz.prog F_leveeref11_Store_there #[.pointer (some ⟨rp, 0, none⟩), .int .i64 n] w K := by
  apply C_leveeref11_Store_there
  unfold D_leveeref11_Store_there
  refine Share.dup (cond_of (fun hb => ⟨_, rfl, _, _, _, h.lb, _, rfl, ?_⟩) (fun hb => ⟨_, rfl, ?_⟩))
  · have hb := of_decide_eq_true hb
    rw [show decide (n < (S.base.length : Int)) = decide (0 ≤ n ∧ n < S.base.length) by rw [Bool.eq_iff_iff]; simp only [decide_eq_true_eq]; omega]
    exact hk
  · have hb := of_decide_eq_false hb
    rw [show false = decide (0 ≤ n ∧ n < S.base.length) by rw [Bool.eq_iff_iff]; simp; omega]
    exact hk
theorem box_chg (w : World) (cs : List Value) : (Instr.box 213 (.agg ⟨cs⟩)).run Tryz.prog w = .ok (.pointer (some ⟨w.heap.size, 0, none⟩)) (w.alloc (.cells ⟨cs⟩ 213)) := rfl
def meetR (x y : Ch) : Bool := decide (x.b = y.b) && meetB x y
end
end Go.Proofs.YtoajelhfiganaaaGreat
end
section
open Go Go.Den Go.Proofs
namespace Go.Proofs.YtoajelhfiganaaaGreat
section
variable {w0 w w' : World} {R : Nat → Prop} {rl : Nat → Nat} {rp r vb vc bc lc : Nat} {hs : List (Nat × Nat)} {ba la : Option Addr} {H : List (Option Addr × Nat)} {S : Rs} {K : Value → World → Prop}
theorem rLay1_c {a0 a2 : Option Addr} {l0 c0 l2 c2 i : Nat} {b ys : List UInt8} (hb : b.length = l0) (hy : ys.length = l2) (hin : i + l2 ≤ l0) (h63 : l0 ≤ 1048576) (hc : l0 ≤ c0) (h0 : Row w a0 (u8L b)) (h2 : Row w a2 (u8L ys)) (hn0 : a0 ≠ none) (hn2 : a2 ≠ none)
    (hk : ∀ w' a c, Mod No w w' → Own Tryz.prog w' w.heap.size 24 1 a l0 c (u8L (overB b i ys)) → K (.tuple #[.slice a l0 c, .int .i64 0]) w') : Cal Tryz.prog F_leveeref01_Lay #[.slice a0 l0 c0, .int .i64 i, .slice a2 l2 c2] w K := by
  subst hb; subst hy
  apply C_leveeref01_Lay
  unfold D_leveeref01_Lay
  refine Share.cut (fun z w1 => w = w1 ∧ z = [.bool false]) (ff (by simp) (ff (by simp; omega) ⟨rfl, ?_⟩)) ?_
  · rw [wrap64 (x := (b.length : Int) - i) (by omega) (by omega), decide_eq_false (by omega)]
  rintro z w1 ⟨rfl, rfl⟩
  refine ⟨_, rfl, ff rfl ⟨_, _, _, slice_h (k := 1) (by kernel_rfl) (by omega) (by omega), ?_⟩⟩
  rw [show (i : Int).toNat = i by omega]
  have hcut : ∀ k, cutA a0 c0 k 1 ≠ none := fun k => by
    unfold cutA
    split
    · exact hn0
    · obtain ⟨q, rfl⟩ := Option.ne_none_iff_exists'.1 hn0
      simp
  have r1 : Row w (cutA a0 c0 0 1) (u8L (b.take i)) := by
    by_cases hm : i = 0
    · left; rw [hm]; rfl
    · have := h0.sub (i := 0) (m := i) (c := c0) (by omega) hc (by omega)
      rwa [List.drop_zero] at this
  obtain ⟨a3, c3, w2, run2, o2, m2⟩ := (Own.nil (P := Tryz.prog) (w := w) (base := w.heap.size) elemZ_bytes).append' (ty := 24) (m := i) (c2 := c0) elemZ_bytes (by omega) r1 (by simp; omega) (hcut 0) (one_u8L _) (by omega) (by omega) (Nat.le_refl _)
  have M2 : Mod No w w2 := m2.mono fun x _ ⟨q, e, _⟩ => by cases e
  refine ⟨_, _, _, w2, run2, ?_⟩
  have hz2 := M2.size
  obtain ⟨a4, c4, w3, run3, o3, m3⟩ := o2.append' (ty := 24) (m := ys.length) (c2 := c2) elemZ_bytes (by omega) (h2.nos M2) (by simp) hn2 (one_u8L _) (by omega) (by omega) (by omega)
  have M3 : Mod No w w3 := M2.trans m3 fun x hx ⟨q, e, e2⟩ => by have := (o2.base e).1; omega
  refine ⟨_, _, _, w3, run3, ?_⟩
  have hz3 := M3.size
  rw [wrap64 (x := (i : Int) + (ys.length : Int)) (by omega) (by omega)]
  refine ⟨_, _, _, slice_l (k := 1) (by kernel_rfl) (by omega) (by omega), ?_⟩
  rw [show ((i : Int) + (ys.length : Int)).toNat = i + ys.length by omega]
  have r4 : Row w3 (cutA a0 c0 (i + ys.length) 1) (u8L (b.drop (i + ys.length))) := by
    by_cases hm : b.length - (i + ys.length) = 0
    · left; rw [List.drop_eq_nil_of_le (by omega)]; rfl
    · have := (h0.nos M3).sub (i := i + ys.length) (m := b.length - (i + ys.length)) (c := c0) (by omega) hc (by omega)
      rwa [List.take_of_length_le (by simp)] at this
  have hn4 := hcut (i + ys.length)
  obtain ⟨a5, c5, w4, run4, o4, m4⟩ := o3.append' (ty := 24) (m := b.length - (i + ys.length)) (c2 := c0 - (i + ys.length)) elemZ_bytes (by omega) r4 (by simp) hn4 (one_u8L _) (by omega) (by omega) (by omega)
  have M4 : Mod No w w4 := M3.trans m4 fun x hx ⟨q, e, e2⟩ => by have := (o3.base e).1; omega
  refine ⟨_, _, _, w4, run4, ?_⟩
  have hl : 0 + i + ys.length + (b.length - (i + ys.length)) = b.length := by omega
  rw [hl] at o4 ⊢
  refine hk w4 a5 c5 M4 ?_
  have e : [] ++ u8L (b.take i) ++ u8L ys ++ u8L (b.drop (i + ys.length)) = u8L (overB b i ys) := by
    unfold overB u8L; simp
  rwa [e] at o4
theorem upon_c {a0 : Option Addr} {c0 : Nat} {b : Bk} {x : Ch} {p : Option Addr × Nat} (hb : b.length = 256) (hx : x.frm + x.data.length ≤ 256) (hc : 256 ≤ c0) (h0 : Row w a0 (u8L b))
    (hk : ∀ w' a c, Mod No w w' → Own Tryz.prog w' w.heap.size 24 1 a 256 c (u8L (overB b x.frm x.data)) → K (.slice a 256 c) w') : Cal Tryz.prog F_leveeref11_upon #[.slice a0 256 c0, .agg ⟨chV x p⟩] w K := by
  apply C_leveeref11_upon
  unfold D_leveeref11_upon
  refine ⟨_, _, box_chg _ _, ?_⟩
  have a1 : At (w.alloc (.cells ⟨chV x p⟩ 213)) w.heap.size 0 (chV x p) := AtU.new.at
  have m1 : Mod No w (w.alloc (.cells ⟨chV x p⟩ 213)) := (Mod.refl No w).alloc _
  generalize w.alloc (.cells ⟨chV x p⟩ 213) = w1 at *
  have l1 : ∀ (j : Nat) (T : TypeId) (v : Value), scal Tryz.prog T = true → (chV x p)[j]? = some v → Ru (Instr.loadAt T (.pointer (some (Addr.add ⟨w.heap.size, 0, none⟩ j)))) w1 v w1 := fun j T v hT hj => by rw [add_none]; exact a1.load hT hj
  obtain ⟨cc, w2, c1, c2, c3, c4⟩ := bytes_run (P := Tryz.prog) (w := w1) (S := 9) (T := 24) (xs := x.data) (by kernel_rfl)
  refine ⟨_, l1 2 _ _ (by kernel_rfl) rfl, _, l1 3 _ _ (by kernel_rfl) rfl, _, _, _, w2, c1, ?_⟩
  have hz1 := m1.size
  have hz3 := c3.size
  have hn0 : a0 ≠ none := by
    rcases h0 with h0 | ⟨q, o, e, _⟩
    · exact absurd h0 (u8L_ne (fun e => by rw [e] at hb; simp at hb))
    · rw [e]; simp
  refine rLay1_c (b := b) (ys := x.data) hb rfl hx (by omega) hc ((h0.nos m1).nos c3) (.inr ⟨_, _, rfl, c2.at⟩) hn0 (by simp) fun w3 a c m3 o3 => ⟨_, _, _, _, rfl, ?_⟩
  exact hk w3 a c ((m1.no c3).no m3) (o3.mono (by omega))
def rdR (S : Rs) (b : Nat) (f : Ch → Bool) : Bk := withL ((S.base[b]?).getD []) (S.l.filter f)
theorem rdR_take {S : Rs} {b i : Nat} {f : Ch → Bool} (hi : i < S.l.length) : withL ((S.base[b]?).getD []) ((S.l.take (i + 1)).filter f) = if f S.l[i] = true then overB (withL ((S.base[b]?).getD []) ((S.l.take i).filter f)) S.l[i].frm S.l[i].data else withL ((S.base[b]?).getD []) ((S.l.take i).filter f) := by
  rw [List.take_succ_eq_append_getElem hi, List.filter_append]
  split
  · rename_i e
    rw [show [S.l[i]].filter f = [S.l[i]] by simp [e], withL_snoc]
  · rename_i e
    rw [show [S.l[i]].filter f = [] by simp [e], List.append_nil]
theorem RIn.bas (h : RIn w0 R rl w rp r vb vc hs ba bc la lc H S) {b : Nat} (hb : b < S.base.length) : ∃ g, ba = some ⟨g, 0, none⟩ ∧ Al (Instr.indexAt 86 (.slice ba S.base.length bc) (.int .i64 b)) (.pointer (some ⟨g, b, none⟩)) ∧ Ru (Instr.loadAt 9 (.pointer (some ⟨g, b, none⟩))) w (.string ⟨S.base[b].toArray⟩) w ∧ S.base[b].length = 256 := by
  obtain ⟨g, rfl, hg, hat⟩ := h.base.sm (by omega)
  refine ⟨g, rfl, fun w' => ?_, ?_, h.wf.bl _ (List.getElem_mem hb)⟩
  · have := index_slice (P := Tryz.prog) (T := 86) (k := 1) (a := ⟨g, 0, none⟩) (n := S.base.length) (c := bc) (kk := .i64) (i := b) (by kernel_rfl) (by omega) (by omega) w'
    rw [add_none, show 0 + (b : Int).toNat * 1 = b by omega] at this
    exact this
  · have := hat.at.load (P := Tryz.prog) (T := 9) (i := b) (v := strV S.base[b]) (by kernel_rfl) (by simp [hb])
    rwa [Nat.zero_add] at this
theorem rdR_len (h : WFR S) {b n : Nat} {f : Ch → Bool} (hb : b < S.base.length) : (withL ((S.base[b]?).getD []) ((S.l.take n).filter f)).length = 256 := by
  refine withL_len ?_ _ fun x hx => (h.dat x (List.mem_of_mem_take (List.mem_filter.1 hx).1)).2
  rw [List.getElem?_eq_getElem hb]
  exact h.bl _ (List.getElem_mem hb)
theorem srt_uniq {l : List Ch} (h : l.Pairwise fun x y => x.id < y.id) {x y : Ch} (hx : x ∈ l) (hy : y ∈ l) (e : x.id = y.id) : x = y := by
  obtain ⟨i, h1, rfl⟩ := List.getElem_of_mem hx
  obtain ⟨j, h2, rfl⟩ := List.getElem_of_mem hy
  rcases Nat.lt_trichotomy i j with h' | h' | h'
  · have := List.pairwise_iff_getElem.1 h i j h1 h2 h'; omega
  · subst h'; rfl
  · have := List.pairwise_iff_getElem.1 h j i h2 h1 h'; omega
def Mks (S : Rs) (f : Ch → Bool) (i : Nat) (b : Bool) (bs : List Bool) : Prop := bs.length = S.l.length ∧ (∀ j x, j < i → S.l[j]? = some x → bs[j]? = some (f x)) ∧ (i < S.l.length → bs[i]? = some b) ∧ ∀ j, i < j → j < S.l.length → bs[j]? = some false
theorem Mks.set {f : Ch → Bool} {i : Nat} {b b' : Bool} {bs : List Bool} (h : Mks S f i b bs) (hi : i < S.l.length) : Mks S f i b' (bs.set i b') := by
  obtain ⟨h1, h2, h3, h4⟩ := h
  refine ⟨by simpa using h1, fun j x hj hx => ?_, fun _ => ?_, fun j hj hj' => ?_⟩
  · rw [List.getElem?_set_ne (by omega)]; exact h2 j x hj hx
  · rw [List.getElem?_set_self (by omega)]
  · rw [List.getElem?_set_ne (by omega)]; exact h4 j hj hj'
theorem Mks.next {f : Ch → Bool} {i : Nat} {x : Ch} {bs : List Bool} (hx : S.l[i]? = some x) (h : Mks S f i (f x) bs) : Mks S f (i + 1) false bs := by
  obtain ⟨h1, h2, h3, h4⟩ := h
  have hi := (List.getElem?_eq_some_iff.1 hx).1
  refine ⟨h1, fun j y hj hy => ?_, fun hl => h4 _ (by omega) hl, fun j hj hj' => h4 j (by omega) hj'⟩
  by_cases e : j = i
  · subst e; rw [hx] at hy; cases hy; exact h3 hi
  · exact h2 j y (by omega) hy
end
end Go.Proofs.YtoajelhfiganaaaGreat
end
section
open Go Go.Den Go.Proofs
namespace Go.Proofs.YtoajelhfiganaaaGreat
section
variable {w : World} {K : Value → World → Prop}
def nmF (xs : List UInt8) (j : Nat) : Nd := { readN xs with p := (List.range 8).map fun k => if k < j then nmAt xs k else 0 }
theorem nmF_len (xs : List UInt8) (j : Nat) : (nV (nmF xs j)).length = 12 := rfl
theorem nmF_set {xs : List UInt8} {j : Nat} (hj : j < 8) : (nV (nmF xs j)).set (4 + j) (.int .i64 (nmAt xs j)) = nV (nmF xs (j + 1)) := by
  match j, hj with
  | 0, _ => rfl
  | 1, _ => rfl
  | 2, _ => rfl
  | 3, _ => rfl
  | 4, _ => rfl
  | 5, _ => rfl
  | 6, _ => rfl
  | 7, _ => rfl
set_option maxRecDepth 8000 in
theorem rinoGet_c {a : Option Addr} {l c : Nat} {xs : List UInt8} (hl : xs.length = l) (hc : l ≤ c) (hr : Row w a (u8L xs)) (h63 : l ≤ 1048576)
    (hk : ∀ w', Mod No w w' → K (.tuple #[.agg ⟨nV (inoG xs).1⟩, .int .i64 (inoG xs).2]) w') : Cal Tryz.prog F_leveeref07_Get #[.slice a l c] w K := by
  apply C_leveeref07_Get
  unfold D_leveeref07_Get
  obtain ⟨w1, b1, b2, b3, b4⟩ := new_u (P := Tryz.prog) (w := w) (T := 55) zero_ino
  have fin : ∀ (w' : World) (i : Nd) (e : Int), Mod No w1 w' → (i, e) = inoG xs → ∃ w3 : World, RuU (Instr.storeAt 55 (.pointer (some ⟨w.heap.size, 0, none⟩)) (.agg ⟨nV i⟩)) w' w3 ∧ ∃ gR2 : Array Value, Ru (Instr.loadAt 55 (.pointer (some ⟨w.heap.size, 0, none⟩))) w3 (.agg gR2) w3 ∧ K (.tuple #[.agg gR2, .int .i64 e]) w3 := fun w' i e m he => by
    have hw : nWf i := by have := inoG_wf xs; rw [← he] at this; exact this
    obtain ⟨w3, c1, c2, c3, c4⟩ := (b2.keep m id).put (T := 55) (vs := nV i) agg_ino rfl (nV_len hw) (one_nV _)
    refine ⟨w3, c1, _, c2.at.all agg_ino (nV_len hw), ?_⟩
    have := hk w3 ((b3.no m).own c3 (Nat.le_refl _))
    rw [← he] at this
    exact this
  refine ⟨_, w1, b1, ?_⟩
  rw [bneI]
  refine cond_of (fun h => ⟨_, build_ino0, ?_⟩) (fun h => ?_)
  · have h := of_decide_eq_true h
    exact fin w1 nZ 4 (Mod.refl _ _) (by unfold inoG; rw [if_pos (by omega)])
  have hl2 : xs.length = 64 := by have := of_decide_eq_false h; omega
  have hl' : l = 64 := by omega
  subst hl'
  have hr1 := hr.nos b3
  have h00 : 0 < xs.length := by omega
  obtain ⟨bb, oo, rfl, _⟩ := row_at hr h00
  have at0 : ∀ {w' : World}, Mod No w1 w' → At w' bb oo (u8L xs) := fun m => by
    obtain ⟨b', o', e, h⟩ := row_at (hr1.nos m) h00
    cases e; exact h
  have ex0 : (xs.getD 0 0) = xs[0] := by rw [List.getD_eq_getElem?_getD, List.getElem?_eq_getElem h00]; rfl
  have l0 : ∀ {w' : World}, Mod No w1 w' → Ru (Instr.loadAt 5 (.pointer (some (Addr.add ⟨bb, oo, none⟩ ((0 : Int).toNat * 1))))) w' (.int .u8 (xs[0].toNat : Int)) w' := fun m => by
    rw [add_none]; exact (at0 m).load (i := 0) sc_u8 (u8L_get h00)
  have n2 : leN ((xs.drop 2).take 2) < 256 ^ 2 := leN_sub (by omega)
  have n4 : leN ((xs.drop 4).take 4) < 256 ^ 4 := leN_sub (by omega)
  have hx0 := xs[0].toNat_lt
  have eN : (⟨IntKind.i64.wrap (xs[0].toNat : Int), IntKind.i64.wrap (leN ((xs.drop 2).take 2) : Int), IntKind.i64.wrap (leN ((xs.drop 4).take 4) : Int), IntKind.i64.wrap (leN ((xs.drop 8).take 8) : Int), [0, 0, 0, 0, 0, 0, 0, 0]⟩ : Nd) = readN4 xs := by
    unfold readN4 readN
    rw [wrap64 (x := (xs[0].toNat : Int)) (by omega) (by omega), wrap64 (x := (leN ((xs.drop 2).take 2) : Int)) (by omega) (by omega), wrap64 (x := (leN ((xs.drop 4).take 4) : Int)) (by omega) (by omega), ex0]
  have tail : ∀ (w5 : World) (q : Nat), Mod No w1 w5 → w1.heap.size ≤ q → AtU w5 q 0 (nV nZ) →
      ∃ w7 : World, RuU (Instr.storeAt 55 (.pointer (some ⟨q, 0, none⟩)) (.agg ⟨nV (readN4 xs)⟩)) w5 w7 ∧ LoopC (fun k x w8 =>
       ∃ n5 : Int, nth x 0 = .int .i64 n5 ∧ (bif decide (n5 < 6) then
       ∃ (a41 : Option Addr) (l41 c41 : Nat), Al (Instr.sliceAt 24 (.slice (some ⟨bb, oo, none⟩) 64 c) (some (.int .i64 (IntKind.i64.wrap (16 + (IntKind.i64.wrap (2 * n5)))))) (some (.int .i64 (IntKind.i64.wrap (18 + (IntKind.i64.wrap (2 * n5)))))) none) (.slice a41 l41 c41) ∧ Cal Tryz.prog F_leveeref01_Get #[.slice a41 l41 c41] w8 fun r42 w9 => ∃ n42 : Int, r42 = .int .u64 n42 ∧ ∃ q45 : Addr, Al (Instr.indexAt 53 (.pointer (some (Addr.add ⟨q, 0, none⟩ 4))) (.int .i64 n5)) (.pointer (some q45)) ∧ ∃ w10 : World, RuU (Instr.storeAt 3 (.pointer (some q45)) (.int .i64 (IntKind.i64.wrap n42))) w9 w10 ∧ k [.int .i64 (IntKind.i64.wrap (n5 + 1))] w10
       else
       ∃ (a47 : Option Addr) (l47 c47 : Nat), Al (Instr.sliceAt 24 (.slice (some ⟨bb, oo, none⟩) 64 c) (some (.int .i64 28)) (some (.int .i64 30)) none) (.slice a47 l47 c47) ∧ Cal Tryz.prog F_leveeref01_Get #[.slice a47 l47 c47] w8 fun r48 w11 => ∃ n48 : Int, r48 = .int .u64 n48 ∧ ∃ w12 : World, RuU (Instr.storeAt 3 (.pointer (some (Addr.add ⟨q, 0, none⟩ 10))) (.int .i64 (IntKind.i64.wrap n48))) w11 w12 ∧ ∃ (a52 : Option Addr) (l52 c52 : Nat), Al (Instr.sliceAt 24 (.slice (some ⟨bb, oo, none⟩) 64 c) (some (.int .i64 30)) (some (.int .i64 32)) none) (.slice a52 l52 c52) ∧ Cal Tryz.prog F_leveeref01_Get #[.slice a52 l52 c52] w12 fun r53 w13 => ∃ n53 : Int, r53 = .int .u64 n53 ∧ ∃ w14 : World, RuU (Instr.storeAt 3 (.pointer (some (Addr.add ⟨q, 0, none⟩ 11))) (.int .i64 (IntKind.i64.wrap n53))) w13 w14 ∧ ∃ g57 : Array Value, Ru (Instr.loadAt 55 (.pointer (some ⟨q, 0, none⟩))) w14 (.agg g57) w14 ∧ Cal Tryz.prog F_leveeref07_Put #[.agg g57] w14 fun r58 w15 => ∃ (a58a : Option Addr) (l58a c58a : Nat), ∃ n58b : Int, r58 = .tuple #[.slice a58a l58a c58a, .int .i64 n58b] ∧ Share (fun k_2 => (bif n58b != 0 then k_2 [.bool true] w15 else ∃ s65 : ByteArray, Ru (convert 24 9 (.slice a58a l58a c58a)) w15 (.string s65) w15 ∧ ∃ s67 : ByteArray, Ru (convert 24 9 (.slice (some ⟨bb, oo, none⟩) 64 c)) w15 (.string s67) w15 ∧ k_2 [.bool (!((ByteArray.toList s65) == (ByteArray.toList s67)))] w15)) fun x_2 w16 =>
       ∃ b69 : Bool, nth x_2 0 = .bool b69 ∧ (bif b69 then
       ∃ g70 : Array Value, Al (Instr.build 55 #[]) (.agg g70) ∧ ∃ w17 : World, RuU (Instr.storeAt 55 (.pointer (some ⟨w.heap.size, 0, none⟩)) (.agg g70)) w16 w17 ∧ ∃ gR2_2 : Array Value, Ru (Instr.loadAt 55 (.pointer (some ⟨w.heap.size, 0, none⟩))) w17 (.agg gR2_2) w17 ∧ K (.tuple #[.agg gR2_2, .int .i64 8]) w17
       else
       ∃ g71 : Array Value, Ru (Instr.loadAt 55 (.pointer (some ⟨q, 0, none⟩))) w16 (.agg g71) w16 ∧ ∃ w18 : World, RuU (Instr.storeAt 55 (.pointer (some ⟨w.heap.size, 0, none⟩)) (.agg g71)) w16 w18 ∧ ∃ gR2_3 : Array Value, Ru (Instr.loadAt 55 (.pointer (some ⟨w.heap.size, 0, none⟩))) w18 (.agg gR2_3) w18 ∧ K (.tuple #[.agg gR2_3, .int .i64 0]) w18))) [.int .i64 0] w7 := by
    intro w5 q m5 hq hat
    obtain ⟨w7, c1, c2, c3, c4⟩ := hat.put (T := 55) (vs := nV (readN4 xs)) agg_ino rfl rfl (one_nV _)
    have m7 : Mod No w1 w7 := m5.own c3 hq
    refine ⟨w7, c1, ?_⟩
    have c2 : AtU w7 q 0 (nV (nmF xs 0)) := c2
    refine ⟨fun x w9 => ∃ j : Nat, j ≤ 6 ∧ x = [.int .i64 j] ∧ AtU w9 q 0 (nV (nmF xs j)) ∧ Mod No w1 w9, fun x _ => (6 - nI x 0).toNat, ⟨0, by omega, rfl, c2, m7⟩, ?_⟩
    rintro x w9 ⟨j, hj, rfl, ha, m9⟩
    refine ⟨_, rfl, cond_of (fun hl => ?_) (fun hl => ?_)⟩
    · have hl := of_decide_eq_true hl
      have e1 : IntKind.i64.wrap (16 + (IntKind.i64.wrap (2 * (j : Int)))) = ((16 + 2 * j : Nat) : Int) := by rw [wrap64 (x := 2 * (j : Int)) (by omega) (by omega), wrap64 (by omega) (by omega)]; omega
      have e2 : IntKind.i64.wrap (18 + (IntKind.i64.wrap (2 * (j : Int)))) = ((18 + 2 * j : Nat) : Int) := by rw [wrap64 (x := 2 * (j : Int)) (by omega) (by omega), wrap64 (by omega) (by omega)]; omega
      rw [e1, e2]
      have nj : leN ((xs.drop (16 + 2 * j)).take 2) < 256 ^ 2 := leN_sub (by omega)
      refine ⟨_, _, _, slice_lh elemN_bytes (by omega) (by omega) (by omega), ?_⟩
      rw [show ((16 + 2 * j : Nat) : Int).toNat = 16 + 2 * j by omega]
      refine getR (i := 16 + 2 * j) (m := 2) hl2 hc (hr1.nos m9) (by omega) (by omega) (by omega) ⟨_, rfl, _, index_arr arrI6 (by omega) (by omega), ?_⟩
      rw [wrap64 (x := (leN ((xs.drop (16 + 2 * j)).take 2) : Int)) (by omega) (by omega)]
      obtain ⟨w11, p1, p2, p3, p4⟩ := ha.putE (P := Tryz.prog) (T := 3) (j := 4) (i := j) (v := .int .i64 (nmAt xs j)) sc_int (by rw [nmF_len]; omega) rfl
      rw [nmF_set (by omega)] at p2
      rw [wrap64 (x := (j : Int) + 1) (by omega) (by omega)]
      exact ⟨w11, p1, ⟨j + 1, by omega, by simp, p2, m9.own p3 hq⟩, by simp [nI, nth]; omega⟩
    have hl := of_decide_eq_false hl
    have hj6 : j = 6 := by omega
    subst hj6
    have n28 : leN ((xs.drop 28).take 2) < 256 ^ 2 := leN_sub (by omega)
    have n30 : leN ((xs.drop 30).take 2) < 256 ^ 2 := leN_sub (by omega)
    refine ⟨_, _, _, slice_lh elemN_bytes (by omega) (by omega) (by omega), ?_⟩
    refine getR (i := 28) (m := 2) hl2 hc (hr1.nos m9) (by omega) (by omega) rfl ⟨_, rfl, ?_⟩
    rw [wrap64 (x := (leN ((xs.drop 28).take 2) : Int)) (by omega) (by omega)]
    obtain ⟨w13, s1, s2, s3, s4⟩ := ha.putF (P := Tryz.prog) (T := 3) (j := 10) (v := .int .i64 (nmAt xs 6)) sc_int (show 10 < 12 by decide) rfl
    have m13 := m9.own s3 hq
    refine ⟨w13, s1, _, _, _, slice_lh elemN_bytes (by omega) (by omega) (by omega), ?_⟩
    refine getR (i := 30) (m := 2) hl2 hc (hr1.nos m13) (by omega) (by omega) rfl ⟨_, rfl, ?_⟩
    rw [wrap64 (x := (leN ((xs.drop 30).take 2) : Int)) (by omega) (by omega)]
    obtain ⟨w14, t1, t2, t3, t4⟩ := s2.putF (P := Tryz.prog) (T := 3) (j := 11) (v := .int .i64 (nmAt xs 7)) sc_int (show 11 < 12 by decide) rfl
    have t2 : AtU w14 q 0 (nV (readN xs)) := t2
    have M14 : Mod No w1 w14 := m13.own t3 hq
    refine ⟨w14, t1, _, t2.at.all agg_ino rfl, ?_⟩
    have last : ∀ (w12 : World) (b : Bool), Mod No w14 w12 → (b = false ↔ nOk (readN xs) = true ∧ inoB (readN xs) = xs) → ∃ b69 : Bool, nth [.bool b] 0 = .bool b69 ∧ (bif b69 then
       ∃ g70 : Array Value, Al (Instr.build 55 #[]) (.agg g70) ∧ ∃ w17 : World, RuU (Instr.storeAt 55 (.pointer (some ⟨w.heap.size, 0, none⟩)) (.agg g70)) w12 w17 ∧ ∃ gR2_2 : Array Value, Ru (Instr.loadAt 55 (.pointer (some ⟨w.heap.size, 0, none⟩))) w17 (.agg gR2_2) w17 ∧ K (.tuple #[.agg gR2_2, .int .i64 8]) w17
       else
       ∃ g71 : Array Value, Ru (Instr.loadAt 55 (.pointer (some ⟨q, 0, none⟩))) w12 (.agg g71) w12 ∧ ∃ w18 : World, RuU (Instr.storeAt 55 (.pointer (some ⟨w.heap.size, 0, none⟩)) (.agg g71)) w12 w18 ∧ ∃ gR2_3 : Array Value, Ru (Instr.loadAt 55 (.pointer (some ⟨w.heap.size, 0, none⟩))) w18 (.agg gR2_3) w18 ∧ K (.tuple #[.agg gR2_3, .int .i64 0]) w18) := by
      intro w12 b m12 hb
      refine ⟨_, rfl, cond_of (fun h => ⟨_, build_ino0, ?_⟩) (fun h => ⟨_, (t2.keep m12 id).at.all agg_ino rfl, ?_⟩)⟩
      · exact fin w12 nZ 8 (M14.no m12) (by rw [inoG_doc hl2, if_neg fun e => by rw [hb.2 e] at h; cases h])
      · exact fin w12 (readN xs) 0 (M14.no m12) (by rw [inoG_doc hl2, if_pos (hb.1 h)])
    refine rinoPut_c (readN_wf xs) (fun ho w11 m11 => ⟨_, _, _, _, rfl, Share.dup (tt rfl ?_)⟩) (fun ho w11 d e m11 o11 => ⟨_, _, _, _, rfl, Share.dup (ff rfl ⟨_, str_run (xs := inoB (readN xs)) mix_sup o11.rowU.row (inoB_len (readN_wf xs)), _, str_run (xs := xs) mix_sup (hr1.nos (M14.no m11)) hl2, ?_⟩)⟩)
    · refine last w11 true m11 ⟨fun e => (by cases e), fun e => ?_⟩
      rw [ho] at e; cases e.1
    · rw [beq_toList]
      refine last w11 _ m11 ?_
      rw [Bool.not_eq_false', decide_eq_true_iff]
      exact ⟨fun e => ⟨ho, e⟩, fun e => e.2⟩
  have md : Mod No w1 (Go.Den.drew w1) := (Mod.refl No w1).drew
  obtain ⟨w2, e1, e2, e3, e4⟩ := new_u (P := Tryz.prog) (w := Go.Den.drew w1) (T := 55) zero_ino
  have m2 : Mod No w1 w2 := md.no e3
  have t2 := tail w2 _ m2 (Nat.le_refl _) e2
  have bN := build_ino4 (IntKind.i64.wrap (xs[0].toNat : Int)) (IntKind.i64.wrap (leN ((xs.drop 2).take 2) : Int)) (IntKind.i64.wrap (leN ((xs.drop 4).take 4) : Int)) (IntKind.i64.wrap (leN ((xs.drop 8).take 8) : Int))
  rw [eN] at bN
  have g2 : ∀ {w' : World} {Q : Value → World → Prop}, Mod No w1 w' → Q (.int .u64 (leN ((xs.drop 2).take 2) : Int)) w' → Cal Tryz.prog F_leveeref01_Get #[.slice (cutA (some ⟨bb, oo, none⟩) c (2 : Int).toNat 1) ((4 : Int).toNat - (2 : Int).toNat) (c - (2 : Int).toNat)] w' Q := fun m hq => getR (i := 2) (m := 2) hl2 hc (hr1.nos m) (by omega) (by omega) rfl hq
  have g4 : ∀ {w' : World} {Q : Value → World → Prop}, Mod No w1 w' → Q (.int .u64 (leN ((xs.drop 4).take 4) : Int)) w' → Cal Tryz.prog F_leveeref01_Get #[.slice (cutA (some ⟨bb, oo, none⟩) c (4 : Int).toNat 1) ((8 : Int).toNat - (4 : Int).toNat) (c - (4 : Int).toNat)] w' Q := fun m hq => getR (i := 4) (m := 4) hl2 hc (hr1.nos m) (by omega) (by omega) rfl hq
  have g8 : ∀ {w' : World} {Q : Value → World → Prop}, Mod No w1 w' → Q (.int .u64 (leN ((xs.drop 8).take 8) : Int)) w' → Cal Tryz.prog F_leveeref01_Get #[.slice (cutA (some ⟨bb, oo, none⟩) c (8 : Int).toNat 1) ((16 : Int).toNat - (8 : Int).toNat) (c - (8 : Int).toNat)] w' Q := fun m hq => getR (i := 8) (m := 8) hl2 hc (hr1.nos m) (by omega) (by omega) rfl hq
  refine ⟨_, index_slice elemN_bytes (by omega) (by omega), _, l0 md, _, _, _, slice_lh elemN_bytes (by omega) (by omega) (by omega), _, _, _, slice_lh elemN_bytes (by omega) (by omega) (by omega), _, _, _, slice_lh elemN_bytes (by omega) (by omega) (by omega), ?_⟩
  exact ⟨g2 md ⟨_, rfl, l0 md, g4 md ⟨_, rfl, l0 md, g8 md ⟨_, rfl, l0 md, _, bN, _, w2, e1, l0 m2, t2⟩, _, w2, e1, l0 m2, g8 m2 ⟨_, rfl, l0 m2, _, bN, t2⟩⟩, _, w2, e1, l0 m2, g4 m2 ⟨_, rfl, l0 m2, g8 m2 ⟨_, rfl, l0 m2, _, bN, t2⟩⟩⟩, _, w2, e1, l0 m2, g2 m2 ⟨_, rfl, l0 m2, g4 m2 ⟨_, rfl, l0 m2, g8 m2 ⟨_, rfl, l0 m2, _, bN, t2⟩⟩⟩⟩
end
end Go.Proofs.YtoajelhfiganaaaGreat
end
section
open Go Go.Den Go.Proofs
namespace Go.Den
section
variable {P : Program} {w : World}
theorem Own.full {base k bytes l c c2 : Nat} {T ty : TypeId} {a : Option Addr} {ad : Addr} {xs ys : List Value} (hT : elemG P T k bytes) (h : Own P w base T k a l c xs) (hr : Row w (some ad) ys) (hl : ys.length = k)
    (h63 : (l + 1) * bytes ≤ 140737488355328) (hb : 0 < bytes) (hbase : base ≤ w.heap.size) :
    ∃ c' w', (Builtin.append_ #[T, T] ty #[.slice a l l, .slice (some ad) 1 c2]).run P w = .ok (.slice (some ⟨w.heap.size, 0, none⟩) (l + 1) c') w' ∧ Own P w' base T k (some ⟨w.heap.size, 0, none⟩) (l + 1) c' (xs ++ ys) ∧ Mod No w w' ∧ w.heap.size < w'.heap.size := by
  obtain ⟨e, i, zv, he, hi, hsz, hz, hzc, hby⟩ := hT
  obtain ⟨e', he', how⟩ := h
  have : e' = e := by rw [he] at he'; simpa using he'.symm
  subst this
  have hcell : ∀ j u, ys[j]? = some u → w.cell? (ad.add j) = some u := by
    intro j u hj
    rcases hr with hr | ⟨b, o, e, hat⟩
    · subst hr; simp at hj
    · simp at e; subst e; exact hat.cell hj
  have hle : l + 1 ≤ (l + 1) * bytes := Nat.le_mul_of_pos_right _ hb
  have hm : ∀ o : Obj, Mod No w (w.drew.alloc o) := fun o => ((Mod.refl No w).drew (b := w)).alloc o
  have hlen : (xs ++ ys).length = (l + 1) * k := by rw [List.length_append, how.1, hl, Nat.add_mul, Nat.one_mul]
  have hcm : ∀ old, grownCap w (l + 1) old e' ≤ maxLen := fun old => grownCap_le_maxLen w (l + 1) old e' (by simp [maxLen]; omega)
  have hown : ∀ (old : Nat) (arr : Array Value), arr.toList = xs ++ ys → Own P (w.drew.alloc (.cells (arr ++ Builtin.zeroCells zv.cells (grownCap w (l + 1) old e' - (l + 1))) e')) base T k (some ⟨w.heap.size, 0, none⟩) (l + 1) (grownCap w (l + 1) old e') (xs ++ ys) := by
    intro old arr harr
    have hge := grownCap_ge w (l + 1) old e'
    have hasz : arr.size = (l + 1) * k := by rw [← hlen, ← harr, Array.length_toList]
    refine ⟨e', he, hlen, .inr ⟨w.heap.size, _, _, rfl, hbase, heap_new w.drew _, hge, hcm old, ?_, ?_⟩⟩
    · rw [Array.size_append, size_zeroCells, hzc, hasz, ← Nat.add_mul]
      congr 1; omega
    · rw [Array.toList_append, harr, ← hlen]
      exact List.take_left
  rcases how.2 with ⟨hv, hx⟩ | ⟨g, cap, cur, hv, hbg, hg, hnc, hcm', hcs, htake⟩
  · simp at hv
    obtain ⟨rfl, rfl, rfl⟩ := hv
    have hx0 : xs = [] := List.eq_nil_of_length_eq_zero (by have := how.1; omega)
    subst hx0
    have hr2 := run_append_nil (P := P) w T ty e' i zv he hi hz ad 1 c2 ys (by rw [hsz]; omega) hcell (by omega) (by omega) (by rw [hby]; omega)
    refine ⟨_, _, hr2, ?_, hm _, size_drew_alloc _⟩
    have := hown 0 ys.toArray (by simp)
    simpa using this
  · simp at hv
    obtain ⟨rfl, rfl⟩ := hv
    have holds : ∀ j u, xs[j]? = some u → w.cell? ((⟨g, 0, none⟩ : Addr).add j) = some u := how.cells (g := g) rfl
    have hr2 := run_append_grow (P := P) w T ty e' i zv he hi hz ⟨g, 0, none⟩ l l xs (by rw [hsz]; exact how.1) holds ad 1 c2 ys (by rw [hsz]; omega) hcell (by omega) (by omega) (growslice_fits (by omega) (by rw [hby]; exact h63))
    exact ⟨_, _, hr2, hown l (xs.toArray ++ ys.toArray) (by simp), hm _, size_drew_alloc _⟩
end
end Go.Den
namespace Go.Proofs.YtoajelhfiganaaaGreat
def Rx (w0 : World) (R : Nat → Prop) (w : World) (rp r : Nat) (S : Rs) : Prop := ∃ rl vb vc hs ba bc la lc H, RIn w0 R rl w rp r vb vc hs ba bc la lc H S
section
variable {w0 w w' : World} {R : Nat → Prop} {rl : Nat → Nat} {rp r vb vc bc lc : Nat} {hs : List (Nat × Nat)} {ba la : Option Addr} {H : List (Option Addr × Nat)} {S : Rs} {K : Value → World → Prop}
theorem Rx.nos (h : Rx w0 R w rp r S) (k : Mod No w w') : Rx w0 R w' rp r S := by
  obtain ⟨rl, vb, vc, hs, ba, bc, la, lc, H, h⟩ := h; exact ⟨rl, vb, vc, hs, ba, bc, la, lc, H, h.nos k⟩
theorem Rx.keep {Z : Nat → Prop} (h : Rx w0 R w rp r S) (k : Mod Z w w') (hsr : ∀ x, R x → ¬ Z x) (hw : ∀ x, x < w0.heap.size → ¬ Z x) : Rx w0 R w' rp r S := by
  obtain ⟨rl, vb, vc, hs, ba, bc, la, lc, H, h⟩ := h; exact ⟨rl, vb, vc, hs, ba, bc, la, lc, H, h.keepS k hsr hw⟩
theorem Rx.wf (h : Rx w0 R w rp r S) : WFR S ∧ WF S.D ∧ Mod No w0 w ∧ ∀ x, R x → w0.heap.size ≤ x ∧ x < w.heap.size := by
  obtain ⟨rl, vb, vc, hs, ba, bc, la, lc, H, h⟩ := h; exact ⟨h.wf, h.disk.wf, h.mod, h.lo⟩
theorem Rx.gro (h : Rx w0 R w rp r S) (k : Mod No w w') : Rx w0 (Gro R w w') w' rp r S := by
  obtain ⟨rl, vb, vc, hs, ba, bc, la, lc, H, h⟩ := h; exact ⟨rl, vb, vc, hs, ba, bc, la, lc, H, h.gro k⟩
def patER (S : Rs) (n frm : Int) (data : Bk) (after : List Int) : Int :=
  if ¬ (0 ≤ n ∧ n < S.base.length) then 3 else if data.length = 0 ∨ frm < 0 ∨ 256 < frm ∨ 256 - frm < data.length then 4 else if after.any (fun k => !decide (1 ≤ k ∧ k ≤ (S.last : Int))) = true then 1 else 0
def newR (S : Rs) (n frm : Int) (data : Bk) (after : List Int) : Ch := ⟨S.last + 1, n.toNat, frm.toNat, data, after, false⟩
theorem WFR.add {n frm : Int} {data : Bk} {after : List Int} (h : WFR S) (he : patER S n frm data after = 0) (ha6 : after.length ≤ 1000000) (hl : S.last + 1 ≤ 1000000) : WFR { S with last := S.last + 1, l := S.l ++ [newR S n frm data after] } := by
  unfold patER at he
  split at he
  · omega
  rename_i h1
  split at he
  · omega
  rename_i h2
  split at he
  · omega
  rename_i h3
  have hmem : ∀ {x : Ch}, x ∈ S.l ++ [newR S n frm data after] → x ∈ S.l ∨ x = newR S n frm data after := fun hx => by
    rcases List.mem_append.1 hx with hx | hx
    · exact .inl hx
    · exact .inr (List.mem_singleton.1 hx)
  exact {
    len := h.len
    small := h.small
    bl := h.bl
    dat := fun x hx => by
      rcases hmem hx with hx | rfl
      · exact h.dat x hx
      · show 1 ≤ data.length ∧ frm.toNat + data.length ≤ 256
        omega
    blt := fun x hx => by
      rcases hmem hx with hx | rfl
      · exact h.blt x hx
      · show n.toNat < S.base.length
        omega
    srt := by
      rw [List.pairwise_append]
      refine ⟨h.srt, List.pairwise_singleton _ _, fun x hx y hy => ?_⟩
      rw [List.mem_singleton.1 hy]
      have := h.idr x hx
      show x.id < S.last + 1
      omega
    idr := fun x hx => by
      rcases hmem hx with hx | rfl
      · have := h.idr x hx
        show 1 ≤ x.id ∧ x.id ≤ S.last + 1
        omega
      · show 1 ≤ S.last + 1 ∧ S.last + 1 ≤ S.last + 1
        omega
    aft := fun x hx k hk => by
      rcases hmem hx with hx | rfl
      · exact h.aft x hx k hk
      · have hk : k ∈ after := hk
        have h3 : ∀ k ∈ after, 1 ≤ k ∧ k ≤ (S.last : Int) := by simpa using h3
        have := h3 k hk
        show k < ((S.last + 1 : Nat) : Int)
        omega
    aftn := fun x hx => by
      rcases hmem hx with hx | rfl
      · exact h.aftn x hx
      · exact ha6
    last := hl }
end
end Go.Proofs.YtoajelhfiganaaaGreat
end
section
open Go Go.Den Go.Proofs
namespace Go.Proofs.YtoajelhfiganaaaGreat
section
variable {w0 w w' : World} {R : Nat → Prop} {rl : Nat → Nat} {rp r vb vc bc lc : Nat} {hs : List (Nat × Nat)} {ba la : Option Addr} {H : List (Option Addr × Nat)} {S : Rs} {K : Value → World → Prop}
theorem WFR.map {f : Ch → Ch} (h : WFR S) (hf : Like f) : WFR { S with l := S.l.map f } := by
  have hm : ∀ {y : Ch}, y ∈ S.l.map f → ∃ x ∈ S.l, y = f x := fun hy => by obtain ⟨x, hx, rfl⟩ := List.mem_map.1 hy; exact ⟨x, hx, rfl⟩
  exact {
    len := h.len
    small := h.small
    bl := h.bl
    dat := fun y hy => by obtain ⟨x, hx, rfl⟩ := hm hy; rw [hf.data, hf.frm]; exact h.dat x hx
    blt := fun y hy => by obtain ⟨x, hx, rfl⟩ := hm hy; rw [hf.b]; exact h.blt x hx
    srt := List.Pairwise.map _ (fun a b hab => by rw [hf.id, hf.id]; exact hab) h.srt
    idr := fun y hy => by obtain ⟨x, hx, rfl⟩ := hm hy; rw [hf.id]; exact h.idr x hx
    aft := fun y hy => by obtain ⟨x, hx, rfl⟩ := hm hy; rw [hf.after, hf.id]; exact h.aft x hx
    aftn := fun y hy => by obtain ⟨x, hx, rfl⟩ := hm hy; rw [hf.after]; exact h.aftn x hx
    last := h.last }
theorem WFR.dsk {D : St} (h : WFR S) (hs : Small D) (hn : D.vs.length = S.D.vs.length) : WFR { S with D := D } := { h with len := h.len.trans hn.symm, small := hs }
theorem Rx.dsk {Z : Nat → Prop} {rl : Nat → Nat} {hs' : List (Nat × Nat)} {D' : St} (h : RIn w0 R rl w rp r vb vc hs ba bc la lc H S) (k : Mod Z w w') (hS : ∀ x, Z x → rl x = 4)
    (hd : RefIn w' (Gro (fun x => rl x = 4) w w') r vb vc hs' D') (hsm : Small D') (hn : D'.vs.length = S.D.vs.length) : Rx w0 (Gro R w w') w' rp r { S with D := D' } := by
  obtain ⟨rl', h'⟩ := h.dsk k hS hd hsm hn
  exact ⟨rl', vb, vc, hs', ba, bc, la, lc, H, h'⟩
def basR (S : Rs) (l : List Ch) : List Bk := S.base.mapIdx fun b x => withL x (l.filter fun c => decide (c.b = b) && c.out)
theorem basR_len (S : Rs) (l : List Ch) : (basR S l).length = S.base.length := by unfold basR; simp
theorem basR_get {S : Rs} {l : List Ch} {b : Nat} (hb : b < S.base.length) : (basR S l)[b]? = some (withL S.base[b] (l.filter fun c => decide (c.b = b) && c.out)) := by
  unfold basR
  rw [List.getElem?_mapIdx, List.getElem?_eq_getElem hb]; rfl
theorem withL_256 {b : Bk} {l : List Ch} (hb : b.length = 256) (hl : ∀ x ∈ l, x.frm + x.data.length ≤ 256) : (withL b l).length = 256 := withL_len hb l hl
theorem WFR.base {l : List Ch} (h : WFR S) (hl : ∀ x ∈ l, x ∈ S.l) : WFR { S with base := basR S l } := { h with
  len := by rw [← h.len]; exact basR_len S l
  bl := fun b hb => by
    have hb : b ∈ basR S l := hb
    obtain ⟨i, hi, rfl⟩ := List.getElem_of_mem hb
    rw [basR_len] at hi
    have := basR_get (l := l) hi
    rw [List.getElem?_eq_getElem (by rw [basR_len]; exact hi)] at this
    rw [Option.some.inj this]
    exact withL_256 (h.bl _ (List.getElem_mem hi)) fun x hx => (h.dat x (hl x (List.mem_filter.1 hx).1)).2
  blt := fun x hx => by
    show x.b < (basR S l).length
    rw [basR_len]; exact h.blt x hx }
theorem WFR.sub {p : Ch → Bool} (h : WFR S) : WFR { S with l := S.l.filter p } := { h with
  dat := fun x hx => h.dat x (List.mem_filter.1 hx).1
  blt := fun x hx => h.blt x (List.mem_filter.1 hx).1
  srt := h.srt.filter p
  idr := fun x hx => h.idr x (List.mem_filter.1 hx).1
  aft := fun x hx => h.aft x (List.mem_filter.1 hx).1
  aftn := fun x hx => h.aftn x (List.mem_filter.1 hx).1 }
end
end Go.Proofs.YtoajelhfiganaaaGreat
end
section
open Go Go.Den Go.Proofs
namespace Go.Proofs.YtoajelhfiganaaaGreat
def cloR : List Ch → List Int → List Int
  | [], _ => []
  | x :: r, acc => if acc.contains (x.id : Int) = true then cloR r (acc ++ x.after ++ (r.filter fun y => meetR y x).map fun y => (y.id : Int)) ++ [(x.id : Int)] else cloR r acc
def waitsL (l : List Ch) (n : Int) : List Int := cloR l.reverse [n]
theorem cloR_skip {l : List Ch} {x : Ch} {acc : List Int} (h : acc.contains (x.id : Int) = false) : cloR (x :: l) acc = cloR l acc := by
  rw [cloR, if_neg (by rw [h]; simp)]
section
variable {w0 w w' : World} {R : Nat → Prop} {rl : Nat → Nat} {rp r vb vc bc lc : Nat} {hs : List (Nat × Nat)} {ba la : Option Addr} {H : List (Option Addr × Nat)} {S : Rs} {K : Value → World → Prop}
structure Wm (S : Rs) (n : Int) (i : Nat) (bs : List Bool) (acc : List Int) : Prop where
  len : bs.length = S.l.length
  lo : ∀ (j : Nat) (x : Ch), j < i → S.l[j]? = some x → bs[j]? = some (acc.contains (x.id : Int))
  out : waitsL S.l n = cloR (S.l.take i).reverse acc ++ ((S.l.zip bs).drop i |>.filter (·.2)).map fun p => (p.1.id : Int)
theorem take_rev {l : List Ch} {i : Nat} (hi : i < l.length) : (l.take (i + 1)).reverse = l[i] :: (l.take i).reverse := by
  rw [List.take_succ_eq_append_getElem hi, List.reverse_append]; rfl
theorem zdrop (l : List Ch) (bs : List Bool) (i : Nat) : (l.zip bs).drop i = (l.drop i).zip (bs.drop i) := by unfold List.zip; exact List.drop_zipWith
theorem zip_drop {l : List Ch} {bs : List Bool} {i : Nat} {x : Ch} {b : Bool} (hx : l[i]? = some x) (hb : bs[i]? = some b) : (l.zip bs).drop i = (x, b) :: (l.zip bs).drop (i + 1) := by
  have hz : (l.zip bs)[i]? = some (x, b) := by rw [List.getElem?_zip_eq_some]; exact ⟨hx, hb⟩
  obtain ⟨hi, e⟩ := List.getElem?_eq_some_iff.1 hz
  rw [List.drop_eq_getElem_cons hi, e]
theorem Wm.start {k : Nat} {x : Ch} (hw : WFR S) (hx : S.l[k]? = some x) : Wm S x.id (k + 1) ((List.replicate S.l.length false).set k true) [(x.id : Int)] := by
  have hk := (List.getElem?_eq_some_iff.1 hx).1
  refine ⟨by simp, fun j y hj hy => ?_, ?_⟩
  · have hjl := (List.getElem?_eq_some_iff.1 hy).1
    by_cases e : j = k
    · subst e
      rw [List.getElem?_set_self (by simpa using hk)]
      rw [hx] at hy; cases hy; simp
    · rw [List.getElem?_set_ne (fun e' => e e'.symm), List.getElem?_replicate, if_pos hjl]
      have : y.id ≠ x.id := fun e2 => e (by
        have := srt_uniq hw.srt (List.mem_of_getElem? hy) (List.mem_of_getElem? hx) e2
        subst this
        obtain ⟨h1, e1⟩ := List.getElem?_eq_some_iff.1 hx
        obtain ⟨h3, e3⟩ := List.getElem?_eq_some_iff.1 hy
        rcases Nat.lt_trichotomy j k with h | h | h
        · have := List.pairwise_iff_getElem.1 hw.srt j k h3 h1 h; rw [e1, e3] at this; omega
        · exact h
        · have := List.pairwise_iff_getElem.1 hw.srt k j h1 h3 h; rw [e1, e3] at this; omega)
      congr 1
      symm
      rw [Bool.eq_false_iff]
      intro hc
      rw [List.contains_iff_mem, List.mem_singleton] at hc
      omega
  · have e2 : ((S.l.zip ((List.replicate S.l.length false).set k true)).drop (k + 1)).filter (·.2) = [] := by
      rw [List.filter_eq_nil_iff]
      intro p hp
      obtain ⟨j, hj, rfl⟩ := List.getElem_of_mem hp
      have hg := List.getElem?_eq_getElem hj
      rw [List.getElem?_drop, List.getElem?_zip_eq_some, List.getElem?_set_ne (by omega), List.getElem?_replicate] at hg
      have hg2 := hg.2
      split at hg2
      · rw [← Option.some.inj hg2]; simp
      · cases hg2
    rw [e2, List.map_nil, List.append_nil]
    -- those behind it are not wanted
    have key : ∀ m, k + 1 ≤ m → m ≤ S.l.length → cloR (S.l.take m).reverse [(x.id : Int)] = cloR (S.l.take (k + 1)).reverse [(x.id : Int)] := by
      intro m hm
      induction m with
      | zero => omega
      | succ m ih =>
        intro hml
        by_cases e : m = k
        · subst e; rfl
        · rw [take_rev (by omega), cloR_skip, ih (by omega) (by omega)]
          have hlt := List.pairwise_iff_getElem.1 hw.srt k m hk (by omega) (by omega)
          have hxe : S.l[k] = x := by rw [List.getElem?_eq_getElem hk] at hx; exact Option.some.inj hx
          rw [hxe] at hlt
          rw [Bool.eq_false_iff]
          intro hc
          rw [List.contains_iff_mem, List.mem_singleton] at hc
          omega
    have := key S.l.length (by omega) (Nat.le_refl _)
    rw [List.take_length] at this
    exact this
theorem Wm.take (hw : WFR S) {n : Int} {i : Nat} {bs bs' : List Bool} {acc : List Int} {x : Ch} (h : Wm S n (i + 1) bs acc) (hx : S.l[i]? = some x) (hb : bs[i]? = some true) (hl : bs'.length = S.l.length)
    (hlo : ∀ (j : Nat) (y : Ch), j < i → S.l[j]? = some y → bs'[j]? = some (acc.contains (y.id : Int) || x.after.contains (y.id : Int) || meetR y x)) (hhi : ∀ j, i ≤ j → bs'[j]? = bs[j]?) :
    Wm S n i bs' (acc ++ x.after ++ ((S.l.take i).reverse.filter fun y => meetR y x).map fun y => (y.id : Int)) := by
  have hc : acc.contains (x.id : Int) = true := by
    have := h.lo i x (by omega) hx
    rw [hb] at this; exact (Option.some.inj this).symm
  obtain ⟨hi, e⟩ := List.getElem?_eq_some_iff.1 hx
  refine ⟨hl, fun j y hj hy => ?_, ?_⟩
  · rw [hlo j y hj hy]
    congr 1
    rw [Bool.eq_iff_iff, Bool.or_eq_true, Bool.or_eq_true, List.contains_iff_mem, List.contains_iff_mem, List.contains_iff_mem, List.mem_append, List.mem_append]
    refine or_congr_right ?_
    rw [List.mem_map]
    have hym : y ∈ (S.l.take i).reverse := by
      rw [List.mem_reverse]
      obtain ⟨hj2, e2⟩ := List.getElem?_eq_some_iff.1 hy
      rw [List.mem_take_iff_getElem]
      exact ⟨j, by omega, e2⟩
    constructor
    · intro hm; exact ⟨y, List.mem_filter.2 ⟨hym, hm⟩, rfl⟩
    · rintro ⟨z, hz, ez⟩
      obtain ⟨hz1, hz2⟩ := List.mem_filter.1 hz
      have : z = y := srt_uniq hw.srt (List.mem_of_mem_take (List.mem_reverse.1 hz1)) (List.mem_of_getElem? hy) (by omega)
      rw [← this]; exact hz2
  · rw [h.out, take_rev hi, e, cloR, if_pos hc, zip_drop hx (by rw [hhi i (Nat.le_refl _)]; exact hb)]
    have e3 : (S.l.zip bs').drop (i + 1) = (S.l.zip bs).drop (i + 1) := by
      rw [zdrop, zdrop]
      congr 1
      refine List.ext_getElem? fun k => ?_
      rw [List.getElem?_drop, List.getElem?_drop, hhi _ (by omega)]
    rw [e3, List.append_assoc]; rfl
theorem build_rst (w : World) (p : Option Addr) : (Instr.build 171 #[(0, .pointer p)]).run Tryz.prog w = .ok (.agg ⟨[.pointer p, .slice none 0 0, .slice none 0 0, .int .i64 0]⟩) w := by kernel_rfl
theorem box_rst (w : World) (cs : List Value) : (Instr.box 171 (.agg ⟨cs⟩)).run Tryz.prog w = .ok (.pointer (some ⟨w.heap.size, 0, none⟩)) (w.alloc (.cells ⟨cs⟩ 171)) := rfl
theorem elemG_strs : elemG Tryz.prog 86 1 16 := elemG_of (by kernel_rfl)
def newRs (D : St) : Rs := ⟨D, (List.range D.vs.length).map fun b => atD D b, [], 0⟩
theorem rOpen11_c {D : St} (hd : RefIn w R r vb vc hs D) (hsm : Small D) (hlo : ∀ x, R x → w0.heap.size ≤ x ∧ x < w.heap.size) (hm : Mod No w0 w)
    (hk : ∀ w' rp, Mod No w w' → Rx w0 (Gro R w w') w' rp r (newRs D) → K (.pointer (some ⟨rp, 0, none⟩)) w') : Cal Tryz.prog F_leveeref11_Open #[.pointer (some ⟨r, 0, none⟩)] w K := by
  classical
  apply C_leveeref11_Open
  unfold D_leveeref11_Open
  refine ⟨_, fun w => build_rst w _, _, _, box_rst _ _, ?_⟩
  have hhi := hd.wf.hi
  have m1 : Mod No w (w.alloc (.cells ⟨[.pointer (some ⟨r, 0, none⟩), .slice none 0 0, .slice none 0 0, .int .i64 0]⟩ 171)) := (Mod.refl No w).alloc _
  have a1 : AtU (w.alloc (.cells ⟨[.pointer (some ⟨r, 0, none⟩), .slice none 0 0, .slice none 0 0, .int .i64 0]⟩ 171)) w.heap.size 0 [.pointer (some ⟨r, 0, none⟩), .slice none 0 0, .slice none 0 0, .int .i64 0] := AtU.new
  have s1 : (w.alloc (.cells ⟨[.pointer (some ⟨r, 0, none⟩), .slice none 0 0, .slice none 0 0, .int .i64 0]⟩ 171)).heap.size = w.heap.size + 1 := by simp
  generalize w.alloc (.cells ⟨[.pointer (some ⟨r, 0, none⟩), .slice none 0 0, .slice none 0 0, .int .i64 0]⟩ 171) = w1 at *
  refine ⟨fun x w2 => ∃ (i : Nat) (a : Option Addr) (c : Nat), x = [.int .i64 i] ∧ i ≤ D.vs.length ∧ AtU w2 w.heap.size 0 [.pointer (some ⟨r, 0, none⟩), .slice a i c, .slice none 0 0, .int .i64 0] ∧ Own Tryz.prog w2 w1.heap.size 86 1 a i c (((List.range i).map fun b => atD D b).map strV) ∧ Mod No w w2, fun x _ => (D.vs.length - nI x 0).toNat,
    ⟨0, none, 0, rfl, by omega, a1, Own.nilG elemG_strs, m1⟩, ?_⟩
  rintro x w2 ⟨i, a, c, rfl, hi, a2, o2, m2⟩
  have hd2 := hd.nos m2
  have hz2 := m2.size
  have hlt2 := a2.lt
  have ob : ∀ {q}, a = some q → _ := fun {q} hq => o2.base (q := q) hq
  refine ⟨_, rfl, _, rfl, _, _, _, rv hd2, cond_of (fun hb => ?_) (fun hb => ?_)⟩
  · have hi : i < D.vs.length := by have := of_decide_eq_true hb; omega
    have hat := rd_at D hi
    refine refRead_c (n := (i : Int)) hd2 hsm fun w3 a3 c3 m3 f3 => ⟨_, _, _, _, rfl, _, rfl, ?_⟩
    rw [hat.2] at f3 ⊢
    have M3 := m2.no m3
    have a3' := (a2.keep m3 id).drew
    have f3' := f3.nos (Mod.refl No w3).drew
    have hl256 : (atD D i).length = 256 := by
      unfold atD
      rw [ver_at hi]
      exact hd.wf.lastLen (List.getElem?_eq_getElem hi)
    have ld : ∀ {w' : World} (_ : AtU w' w.heap.size 0 [.pointer (some ⟨r, 0, none⟩), .slice a i c, .slice none 0 0, .int .i64 0]), Ru (Instr.loadAt 86 (.pointer (some (Addr.add ⟨w.heap.size, 0, none⟩ 1)))) w' (.slice a i c) w' := fun h => by rw [add_none]; exact h.at.load (by kernel_rfl) rfl
    refine ⟨_, _, _, ld a3', _, str_run (by kernel_rfl) f3'.row rfl, _, _, _, _, built_str _ _, ?_⟩
    have m4 : Mod No (drew w3) ((drew w3).alloc (.cells ⟨[.string ⟨(atD D i).toArray⟩]⟩ 9)) := (Mod.refl No _).alloc _
    have r4 : Row ((drew w3).alloc (.cells ⟨[.string ⟨(atD D i).toArray⟩]⟩ 9)) (some ⟨(drew w3).heap.size, 0, none⟩) [strV (atD D i)] := .inr ⟨_, _, rfl, AtU.new.at⟩
    generalize (drew w3).alloc (.cells ⟨[.string ⟨(atD D i).toArray⟩]⟩ 9) = w4 at *
    have a4 := a3'.keep m4 id
    have hz3 := m3.size
    have hz4 : w3.heap.size ≤ w4.heap.size := m4.size
    obtain ⟨q, c', w5, run, p5, mm, hq5⟩ := (((o2.nos m3).nos (Mod.refl No w3).drew).nos m4).appG (ty := 86) (m := 1) (c2 := 1) elemG_strs (by omega) r4 rfl (by omega) (by intro v hv; rw [List.mem_singleton.1 hv]; rfl) (by omega) (by omega) (by omega)
    have hz5 := mm.size
    have a5 := a4.keep mm fun ⟨q', hq', e⟩ => by have := (ob hq').1; omega
    obtain ⟨w6, st6, a6, m6, _⟩ := a5.store (P := Tryz.prog) (T := 86) (i := 1) (v := .slice (some q) (i + 1) c') (by kernel_rfl) (by simp) rfl
    refine ⟨ld a4, _, _, _, w5, run, _, rfl, w6, by rw [add_none]; exact st6, ?_⟩
    rw [wrap64 (x := (i : Int) + 1) (by omega) (by omega)]
    refine ⟨⟨i + 1, some q, c', rfl, by omega, a6, ?_, ((((m2.no m3).no (Mod.refl No w3).drew).no m4).trans mm fun z hz ⟨q', hq', e⟩ => by have := (ob hq').1; omega).trans m6 fun z hz e => by have e : z = w.heap.size := e; omega⟩, by simp [nI, nth]; omega⟩
    rw [List.range_succ, List.map_append, List.map_append]
    exact p5.keep m6 fun q' hq' e => by
      cases hq'
      have e : q.block = w.heap.size := e
      rcases hq5 with ⟨q', hq', e2⟩ | e2
      · have := (ob hq').1; omega
      · omega
  · have hi : i = D.vs.length := by have := of_decide_eq_false hb; omega
    subst hi
    have hw0 := hm.size
    have hR : ∀ x, R x → x ≠ w.heap.size := fun x hx => by have := hlo x hx; omega
    refine hk w2 w.heap.size m2 ⟨fun x => if x = w.heap.size then 1 else if R x then 4 else if w1.heap.size ≤ x ∧ x < w2.heap.size then 2 else 0, vb, vc, hs, a, c, none, 0, [], {
      disk := ?_
      cell := by
        show AtU w2 w.heap.size 0 [.pointer (some ⟨r, 0, none⟩), .slice a ((List.range D.vs.length).map fun b => atD D b).length c, .slice none 0 0, .int .i64 0]
        rw [List.length_map, List.length_range]; exact a2
      base := by
        show Own Tryz.prog w2 w0.heap.size 86 1 a ((List.range D.vs.length).map fun b => atD D b).length c _
        rw [List.length_map, List.length_range]; exact o2.mono (by omega)
      row := Own.nilG elemG_chgs
      hl := rfl
      aft := fun i x p hx => by cases hx
      rp1 := by rw [if_pos rfl]
      rba := fun q hq => by
        have := ob hq
        have hn : ¬ R q.block := fun e => by have := hlo _ e; omega
        rw [if_neg (by omega), if_neg hn, if_pos (by omega)]
      rla := fun q hq => by cases hq
      wf := {
        len := by show ((List.range D.vs.length).map fun b => atD D b).length = D.vs.length; rw [List.length_map, List.length_range]
        small := hsm
        bl := fun b hb => by
          obtain ⟨i, hi, rfl⟩ := List.mem_map.1 hb
          have hi := List.mem_range.1 hi
          unfold atD
          rw [ver_at hi]
          exact hd.wf.lastLen (List.getElem?_eq_getElem hi)
        dat := fun x hx => by cases hx
        blt := fun x hx => by cases hx
        srt := List.Pairwise.nil
        idr := fun x hx => by cases hx
        aft := fun x hx => by cases hx
        aftn := fun x hx => by cases hx
        last := by show 0 ≤ 1000000; omega }
      reg := fun x hx => by
        by_cases hRx : R x
        · exact .inl hRx
        · right
          by_cases e1 : x = w.heap.size
          · omega
          · rw [if_neg e1, if_neg hRx] at hx
            split at hx
            · omega
            · exact absurd rfl hx
      lo := fun x hx => by
        rcases hx with hx | hx
        · have := hlo x hx; omega
        · omega
      mod := hm.no m2 }⟩
    have e4 : (fun x => (if x = w.heap.size then 1 else if R x then 4 else if w1.heap.size ≤ x ∧ x < w2.heap.size then 2 else 0) = 4) = R := by
      funext x
      apply propext
      constructor
      · intro e
        split at e
        · omega
        · split at e
          · assumption
          · split at e <;> omega
      · intro hx
        rw [if_neg (hR x hx), if_pos hx]
    rw [e4]
    exact hd2
end
end Go.Proofs.YtoajelhfiganaaaGreat
end
section
open Go Go.Den Go.Proofs
namespace Go.Proofs.YtoajelhfiganaaaGreat
def rootN : Nd := ⟨2, 1, 0, 1, [0, 0, 0, 0, 0, 0, 0, 0]⟩
theorem rootN_wf : nWf rootN := rfl
theorem rootN_ok : nOk rootN = true := by decide
def volB (g : Gm) (k i : Nat) : Bk := if i = 0 then grpB g (hBase g k) else if k = 0 ∧ i = 1 then overB zeroB 64 (inoB rootN) else zeroB
def volX (g : Gm) (k i : Nat) : Int × Bk := (2 + k * g.gr + i, volB g k i)
def volG (g : Gm) (k n : Nat) : List (Int × Bk) := (List.range n).map (volX g k)
def volN (g : Gm) : Nat := 1 + (gTabs g).toNat
def volL (g : Gm) (n : Nat) : List (Int × Bk) := (List.range n).flatMap fun k => volG g k (volN g)
def wrAll (D : St) (l : List (Int × Bk)) : St := l.foldl (fun D x => wrSt D x.1 x.2) D
def fmt0 (D : St) : St := flSt (wrSt (wrSt D 0 zeroB) 1 zeroB)
def fmt1 (D : St) (g : Gm) : St := flSt (wrAll (fmt0 D) (volL g g.gs.toNat))
def fmtSt (D : St) (g : Gm) : St := flSt (wrSt (fmt1 D g) 1 (supB ⟨1, g⟩))
def fmtE (D : St) (g : Gm) : Int := if gOk g = false then 1 else if (D.vs.length : Int) < gSize g then 4 else 0
theorem zeroB_len : zeroB.length = 256 := List.length_replicate
theorem volB_len (g : Gm) (k i : Nat) : (volB g k i).length = 256 := by
  unfold volB
  split
  · exact grpB_len (hBase_wf _ _)
  split
  · rw [overB_len (by rw [inoB_len rootN_wf, zeroB_len]; omega), zeroB_len]
  · exact zeroB_len
theorem volG_succ (g : Gm) (k n : Nat) : volG g k (n + 1) = volG g k n ++ [volX g k n] := by
  unfold volG; rw [List.range_succ, List.map_append]; rfl
theorem volL_succ (g : Gm) (n : Nat) : volL g (n + 1) = volL g n ++ volG g n (volN g) := by
  unfold volL; rw [List.range_succ, List.flatMap_append]; simp
theorem wrAll_snoc (D : St) (l : List (Int × Bk)) (x : Int × Bk) : wrAll D (l ++ [x]) = wrSt (wrAll D l) x.1 x.2 := by
  unfold wrAll; rw [List.foldl_append]; rfl
theorem wrAll_app (D : St) (l m : List (Int × Bk)) : wrAll D (l ++ m) = wrAll (wrAll D l) m := List.foldl_append
theorem wrSt_len (D : St) (n : Int) (ys : Bk) : (wrSt D n ys).vs.length = D.vs.length := by
  unfold wrSt; split
  · rfl
  · simp
theorem wrSt_run {D : St} (h : D.left = -1) (n : Int) (ys : Bk) : (wrSt D n ys).left = -1 := by
  unfold wrSt; split
  · exact h
  · show dec D.left = -1; rw [h]; rfl
theorem flSt_len (D : St) : (flSt D).vs.length = D.vs.length := by
  unfold flSt; split
  · rfl
  · simp
theorem flSt_run {D : St} (h : D.left = -1) : (flSt D).left = -1 := by
  unfold flSt; split
  · exact h
  · show dec D.left = -1; rw [h]; rfl
theorem wrAll_len (D : St) (l : List (Int × Bk)) : (wrAll D l).vs.length = D.vs.length := by
  induction l generalizing D with
  | nil => rfl
  | cons x l ih => exact (ih _).trans (wrSt_len _ _ _)
theorem wrAll_run {D : St} (h : D.left = -1) (l : List (Int × Bk)) : (wrAll D l).left = -1 := by
  induction l generalizing D with
  | nil => exact h
  | cons x l ih => exact ih (wrSt_run h _ _)
theorem Bnd_all {D : St} {m : Nat} (h : Bnd D m) (l : List (Int × Bk)) : Bnd (wrAll D l) (m + l.length) := by
  induction l generalizing D m with
  | nil => exact h
  | cons x l ih =>
    have := ih (Bnd_wr h x.1 x.2)
    rw [List.length_cons]
    exact this.mono (by omega)
theorem volG_len (g : Gm) (k n : Nat) : (volG g k n).length = n := by simp [volG]
theorem volN_b {g : Gm} (h : gOk g = true) : (volN g : Int) = 1 + g.no / 4 ∧ volN g ≤ 17 := by
  have e : gTabs g = g.no / 4 := by unfold gTabs; rw [if_pos h]
  obtain ⟨_, _, _, _, h5, h6, _⟩ := gOk_iff.1 h
  unfold volN
  rw [e]
  constructor <;> omega
theorem volL_len {g : Gm} (h : gOk g = true) (n : Nat) : (volL g n).length ≤ 17 * n := by
  induction n with
  | zero => exact Nat.le_refl _
  | succ n ih =>
    have := (volN_b h).2
    rw [volL_succ, List.length_append, volG_len]; omega
theorem volX_in {g : Gm} (h : gOk g = true) {k i n : Nat} (hk : (k : Int) < g.gs) (hi : i < volN g) (hn : gSize g ≤ n) : 2 ≤ (volX g k i).1 ∧ (volX g k i).1 < n := by
  have hv := (volN_b h).1
  have e : gSize g = 2 + g.gs * g.gr := by unfold gSize; rw [if_pos h]
  obtain ⟨h1, h2, h3, h4, h5, h6, h7, h8, h9⟩ := gOk_iff.1 h
  have hmul : ((k : Int) + 1) * g.gr ≤ g.gs * g.gr := Int.mul_le_mul_of_nonneg_right (by omega) (by omega)
  have hp : 0 ≤ (k : Int) * g.gr := Int.mul_nonneg (by omega) (by omega)
  have hs : ((k : Int) + 1) * g.gr = k * g.gr + g.gr := by rw [Int.add_mul, Int.one_mul]
  show 2 ≤ 2 + (k : Int) * g.gr + i ∧ 2 + (k : Int) * g.gr + i < n
  omega
theorem fmt0_run {D : St} (h : D.left = -1) : (fmt0 D).left = -1 := flSt_run (wrSt_run (wrSt_run h _ _) _ _)
theorem fmt0_len (D : St) : (fmt0 D).vs.length = D.vs.length := by unfold fmt0; rw [flSt_len, wrSt_len, wrSt_len]
theorem fmt1_run {D : St} (h : D.left = -1) (g : Gm) : (fmt1 D g).left = -1 := flSt_run (wrAll_run (fmt0_run h) _)
theorem fmt1_len (D : St) (g : Gm) : (fmt1 D g).vs.length = D.vs.length := by unfold fmt1; rw [flSt_len, wrAll_len, fmt0_len]
theorem fmtSt_run {D : St} (h : D.left = -1) (g : Gm) : (fmtSt D g).left = -1 := flSt_run (wrSt_run (fmt1_run h g) _ _)
theorem fmtSt_len (D : St) (g : Gm) : (fmtSt D g).vs.length = D.vs.length := by unfold fmtSt; rw [flSt_len, wrSt_len, fmt1_len]
theorem fmt0_bnd {D : St} (h : D.left = -1) : Bnd (fmt0 D) 1 := Bnd_fl (wrSt_run (wrSt_run h _ _) _ _) (Nat.le_refl _)
theorem fmt1_bnd {D : St} (h : D.left = -1) (g : Gm) : Bnd (fmt1 D g) 1 := Bnd_fl (wrAll_run (fmt0_run h) _) (Nat.le_refl _)
theorem fmtSt_bnd {D : St} (h : D.left = -1) (g : Gm) : Bnd (fmtSt D g) 1 := Bnd_fl (wrSt_run (fmt1_run h g) _ _) (Nat.le_refl _)
def headAt (D : St) (g : Gm) (k : Int) : Hd × Int := if (gHead g k).2 ≠ 0 then (hZ, (gHead g k).2) else hGet g (rdB D (gHead g k).1)
def slotAt (D : St) (g : Gm) (s : Int) : Nd × Int := if (gPlace g s).2.2 ≠ 0 then (nZ, (gPlace g s).2.2) else inoAt (rdB D (gPlace g s).1) (gPlace g s).2.1
theorem headAt_wf (D : St) (g : Gm) (k : Int) : hWf (headAt D g k).1 := by unfold headAt; split; exact hZ_wf; exact hGet_wf _ _
theorem slotAt_wf (D : St) (g : Gm) (s : Int) : nWf (slotAt D g s).1 := by unfold slotAt; split; exact nZ_wf; exact inoAt_wf _ _
def headOk (D : St) (g : Gm) (k : Nat) : Bool := decide ((headAt D g k).2 = 0 ∧ (headAt D g k).1.no = k)
def rootOk (D : St) (g : Gm) : Bool := decide ((slotAt D g 1).2 = 0 ∧ (slotAt D g 1).1.kind = 2)
def mntOk (D : St) (g : Gm) : Bool := (List.range g.gs.toNat).all (headOk D g) && rootOk D g
def mntS (D : St) : Sp × Int × Int := supChoose (rdB D 0) (rdB D 1) D.vs.length
def mnt (D : St) : Sp × Int := if (mntS D).2.2 ≠ 0 then (sZ, (mntS D).2.2) else if mntOk D (mntS D).1.geo = true then ((mntS D).1, 0) else (sZ, 8)
def nextTo (D : St) (g : Gm) : Nat → Int
  | 0 => 0
  | n + 1 => if (slotAt D g n).1.id > nextTo D g n then (slotAt D g n).1.id else nextTo D g n
theorem nextTo_nn (D : St) (g : Gm) : ∀ n, 0 ≤ nextTo D g n
  | 0 => Int.le_refl _
  | n + 1 => by
    have := nextTo_nn D g n
    unfold nextTo
    split <;> omega
theorem inoG_id (xs : List UInt8) : 0 ≤ (inoG xs).1.id ∧ (inoG xs).1.id ≤ 4611686018427387904 := by
  unfold inoG
  split
  · decide
  split
  · rename_i h
    have := nOk_b h.2.2
    exact ⟨this.2.2.2.2.2.2.1, this.2.2.2.2.2.2.2.1⟩
  · decide
theorem nZ_id : 0 ≤ nZ.id ∧ nZ.id ≤ 4611686018427387904 := by decide
theorem slotAt_id (D : St) (g : Gm) (s : Int) : 0 ≤ (slotAt D g s).1.id ∧ (slotAt D g s).1.id ≤ 4611686018427387904 := by
  unfold slotAt
  split
  · exact nZ_id
  unfold inoAt
  split
  · exact nZ_id
  · exact inoG_id _
theorem nextTo_b (D : St) (g : Gm) : ∀ n, nextTo D g n ≤ 4611686018427387904
  | 0 => by show (0 : Int) ≤ _; decide
  | n + 1 => by
    have := nextTo_b D g n
    have := (slotAt_id D g n).2
    unfold nextTo
    split <;> omega
theorem inoG_bad (xs : List UInt8) (h : (inoG xs).2 ≠ 0) : (inoG xs).1 = nZ := by
  unfold inoG at *
  split
  · rfl
  split
  · rename_i h1 h2
    rw [if_neg h1, if_pos h2] at h
    exact absurd rfl h
  · rfl
theorem slotAt_bad {D : St} {g : Gm} {s : Int} (h : (slotAt D g s).2 ≠ 0) : (slotAt D g s).1 = nZ := by
  unfold slotAt at *
  split
  · rfl
  rename_i h1
  rw [if_neg h1] at h
  unfold inoAt at *
  split
  · rfl
  rename_i h2
  rw [if_neg h2] at h
  exact inoG_bad _ h
theorem hOk_base {g : Gm} (h : gOk g = true) {k : Int} (h0 : 0 ≤ k) (h1 : k < g.gs) : hOk g (hBase g k) = true := by
  have hv := volN_b h
  have hn : 1 + (gTabs g).toNat = volN g := rfl
  obtain ⟨g1, g2, g3, g4, g5, g6, g7, g8, g9⟩ := gOk_iff.1 h
  refine hOk_iff.2 ⟨h, ⟨h0, h1⟩, fun i hi => ⟨fun e => ?_, fun e => ?_⟩, fun i hi => ⟨fun e => ?_, fun e e2 => ?_⟩⟩
  · show bitB (baseB (1 + (gTabs g).toNat)) i = true
    rw [hn, bitB_base (by omega), decide_eq_true_iff]; omega
  · show bitB (baseB (1 + (gTabs g).toNat)) i = false
    rw [hn, bitB_base (by omega), decide_eq_false_iff_not]; omega
  · show bitB (baseS k) i = false
    rw [bitB_baseS, Bool.and_eq_false_iff, decide_eq_false_iff_not, decide_eq_false_iff_not]; omega
  · show bitB (baseS k) i = true
    have e1 : k = 0 := e
    rw [bitB_baseS, decide_eq_true e1, decide_eq_true e2]; rfl
theorem wrE_in {D : St} {n : Int} {ys : Bk} (h0 : 0 ≤ n) (h1 : n < D.vs.length) (h : ys.length = 256) : wrE D n ys = 0 := by
  have e : errOf D n = 0 := by unfold errOf; rw [if_neg (by omega)]
  unfold wrE
  rw [e, if_neg (by decide), if_neg (by omega)]
end Go.Proofs.YtoajelhfiganaaaGreat
end
section
open Go Go.Den Go.Proofs
namespace Go.Proofs.YtoajelhfiganaaaGreat
section
variable {w : World} {K : Value → World → Prop}
theorem rtab_or {p : Int} {w1 : World} {C : List Value → World → Prop} (hk : C [.bool (decide (p < 0 ∨ 4 ≤ p))] w1) : Share (fun k => (bif decide (p < 0) then k [.bool true] w1 else k [.bool (decide (p > 3))] w1)) C := by
  refine Share.cut (fun z w4 => w4 = w1 ∧ z = [.bool (decide (p < 0 ∨ 4 ≤ p))]) (cond_of (fun h1 => ⟨rfl, ?_⟩) (fun h1 => ⟨rfl, ?_⟩)) ?_
  · have h1 := of_decide_eq_true h1
    rw [decide_eq_true (show p < 0 ∨ 4 ≤ p from .inl h1)]
  · have h1 := of_decide_eq_false h1
    by_cases h2 : p > 3
    · rw [decide_eq_true h2, decide_eq_true (show p < 0 ∨ 4 ≤ p by omega)]
    · rw [decide_eq_false h2, decide_eq_false (show ¬ (p < 0 ∨ 4 ≤ p) by omega)]
  rintro z w4 ⟨rfl, rfl⟩
  exact hk
theorem rinoRead_c {a : Option Addr} {l c : Nat} {p : Int} {xs : List UInt8} (hl : xs.length = l) (hc : l ≤ c) (hr : Row w a (u8L xs)) (h63 : l ≤ 1048576)
    (hk : ∀ w', Mod No w w' → K (.tuple #[.agg ⟨nV (inoAt xs p).1⟩, .int .i64 (inoAt xs p).2]) w') : Cal Tryz.prog F_leveeref07_Read #[.slice a l c, .int .i64 p] w K := by
  apply C_leveeref07_Read
  unfold D_leveeref07_Read
  obtain ⟨w1, b1, b2, b3, b4⟩ := new_u (P := Tryz.prog) (w := w) (T := 55) zero_ino
  have fin : ∀ (w' : World) (i : Nd) (e : Int), Mod No w1 w' → (i, e) = inoAt xs p → ∃ w3 : World, RuU (Instr.storeAt 55 (.pointer (some ⟨w.heap.size, 0, none⟩)) (.agg ⟨nV i⟩)) w' w3 ∧ ∃ gR2 : Array Value, Ru (Instr.loadAt 55 (.pointer (some ⟨w.heap.size, 0, none⟩))) w3 (.agg gR2) w3 ∧ K (.tuple #[.agg gR2, .int .i64 e]) w3 := fun w' i e m he => by
    have hw : nWf i := by have := inoAt_wf xs p; rw [← he] at this; exact this
    obtain ⟨w3, c1, c2, c3, c4⟩ := (b2.keep m id).put (T := 55) (vs := nV i) agg_ino rfl (nV_len hw) (one_nV _)
    refine ⟨w3, c1, _, c2.at.all agg_ino (nV_len hw), ?_⟩
    have := hk w3 ((b3.no m).own c3 (Nat.le_refl _))
    rw [← he] at this
    exact this
  refine ⟨_, w1, b1, ?_⟩
  rw [bneI]
  refine cond_of (fun h => ⟨_, build_ino0, ?_⟩) (fun h => ?_)
  · have h := of_decide_eq_true h
    have e : tabE l p = 4 := by unfold tabE; rw [if_pos (by omega)]
    exact fin w1 nZ 4 (Mod.refl _ _) (by unfold inoAt; rw [hl, e, if_pos (by decide)])
  have h := of_decide_eq_false h
  have hl' : l = 256 := by omega
  subst hl'
  refine rtab_or ⟨_, rfl, cond_of (fun h1 => ⟨_, build_ino0, ?_⟩) (fun h1 => ?_)⟩
  · have e : tabE 256 p = 3 := by unfold tabE; rw [if_neg (by omega), if_pos (of_decide_eq_true h1)]
    exact fin w1 nZ 3 (Mod.refl _ _) (by unfold inoAt; rw [hl, e, if_pos (by decide)])
  have e : tabE 256 p = 0 := by unfold tabE; rw [if_neg (by omega), if_neg (of_decide_eq_false h1)]
  obtain ⟨_, hp0, hp4⟩ := tabMay_ok e
  obtain ⟨k, rfl⟩ : ∃ k : Nat, p = k := ⟨p.toNat, by omega⟩
  have e1 : IntKind.i64.wrap (64 * (k : Int)) = ((64 * k : Nat) : Int) := by rw [wrap64 (by omega) (by omega)]; omega
  have e2 : IntKind.i64.wrap (((64 * k : Nat) : Int) + 64) = ((64 * k + 64 : Nat) : Int) := by rw [wrap64 (by omega) (by omega)]; omega
  rw [e1, e2]
  refine ⟨_, _, _, slice_lh elemN_bytes (by omega) (by omega) (by omega), ?_⟩
  rw [show ((64 * k : Nat) : Int).toNat = 64 * k by omega, show ((64 * k + 64 : Nat) : Int).toNat - 64 * k = 64 by omega]
  refine rinoGet_c (xs := (xs.drop (64 * k)).take 64) (by simp; omega) (by omega) ((hr.nos b3).cut (by omega) (by omega)) (by omega) fun w4 m4 => ⟨_, _, rfl, ?_⟩
  exact fin w4 _ _ m4 (by unfold inoAt; rw [hl, if_neg (by omega)]; rfl)
theorem rinoLay_c {a : Option Addr} {l c : Nat} {p : Int} {xs : List UInt8} {i : Nd} (hw : nWf i) (hl : xs.length = l) (hc : l ≤ c) (hr : Row w a (u8L xs)) (ha : a ≠ none) (h63 : l ≤ 1048576) (hm : tabE l p = 0) (ho : nOk i = true)
    (hk : ∀ w' a' c', Mod No w w' → Own Tryz.prog w' w.heap.size 24 1 a' 256 c' (u8L (overB xs (64 * p.toNat) (inoB i))) → K (.tuple #[.slice a' 256 c', .int .i64 0]) w') : Cal Tryz.prog F_leveeref07_Lay #[.slice a l c, .int .i64 p, .agg ⟨nV i⟩] w K := by
  apply C_leveeref07_Lay
  unfold D_leveeref07_Lay
  obtain ⟨w1, a1, a2, a3, a4⟩ := box_u (P := Tryz.prog) (w := w) (T := 55) (cs := nV i)
  obtain ⟨rfl, hp0, hp4⟩ := tabMay_ok hm
  refine ⟨_, w1, a1, ff rfl (rtab_or ⟨_, rfl, ff (by rw [decide_eq_false (by omega)]) ?_⟩)⟩
  obtain ⟨k, rfl⟩ : ∃ k : Nat, p = k := ⟨p.toNat, by omega⟩
  have e1 : IntKind.i64.wrap (64 * (k : Int)) = ((64 * k : Nat) : Int) := by rw [wrap64 (by omega) (by omega)]; omega
  rw [e1]
  refine ⟨_, a2.at.all agg_ino (nV_len hw), rinoPut_c hw (fun h => by rw [ho] at h; cases h) fun _ w3 q d m3 o3 => ⟨_, _, _, _, rfl, ff rfl ?_⟩⟩
  have M3 := a3.no m3
  have hq : q ≠ none := fun e => by
    obtain ⟨g, h, _⟩ := o3.sm (by omega)
    rw [e] at h; cases h
  refine rLay1_c (b := xs) (ys := inoB i) hl (inoB_len hw) (by omega) (by omega) hc (hr.nos M3) o3.rowU.row ha hq fun w4 a4 c4 m4 o4 => ⟨_, _, _, _, rfl, ?_⟩
  exact hk w4 a4 c4 (M3.no m4) (o4.mono M3.size)
end
end Go.Proofs.YtoajelhfiganaaaGreat
end
section
open Go Go.Den Go.Proofs
namespace Go.Proofs.YtoajelhfiganaaaGreat
def Dx (wb : World) (R0 : Nat → Prop) (N : Nat) (w : World) (d : Nat) (D : St) : Prop :=
  ∃ R sb mb sc L, DiskIn w R d sb mb sc L D ∧ (∀ x, R x → (R0 x ∨ wb.heap.size ≤ x) ∧ x < N) ∧ Mod R0 wb w ∧ N ≤ w.heap.size
section
variable {wb w w' : World} {R0 : Nat → Prop} {N d : Nat} {D : St} {K : Value → World → Prop}
theorem Dx.nos (h : Dx wb R0 N w d D) (m : Mod No w w') : Dx wb R0 N w' d D := by
  obtain ⟨R, sb, mb, sc, L, h1, h2, h3, h4⟩ := h
  exact ⟨R, sb, mb, sc, L, h1.nos m, h2, h3.no m, Nat.le_trans h4 m.size⟩
theorem Dx.mod (h : Dx wb R0 N w d D) : Mod R0 wb w := by obtain ⟨_, _, _, _, _, _, _, h, _⟩ := h; exact h
theorem Dx.size (h : Dx wb R0 N w d D) : N ≤ w.heap.size := by obtain ⟨_, _, _, _, _, _, _, _, h⟩ := h; exact h
theorem Dx.wf (h : Dx wb R0 N w d D) : WF D := by obtain ⟨_, _, _, _, _, h, _⟩ := h; exact h.wf
theorem Dx.start {R : Nat → Prop} {sb mb sc : Nat} {L : List (Int × Value)} (h : DiskIn w R d sb mb sc L D) (m : Mod No w wb) : Dx wb R w.heap.size wb d D :=
  ⟨R, sb, mb, sc, L, h.nos m, fun x hx => ⟨.inl hx, h.lt x hx⟩, Mod.refl _ _, m.size⟩
theorem Dx.write (h : Dx wb R0 N w d D) (hs : ∀ v ∈ D.vs, v.length ≤ 999999) {n : Int} {a : Option Addr} {l c : Nat} {ys : List UInt8} (hl : ys.length = l) (hr : Row w a (u8L ys)) (hdis : ∀ q, a = some q → N ≤ q.block)
    (hk : ∀ w', Dx wb R0 w'.heap.size w' d (wrSt D n ys) → K (.int .i64 (wrE D n ys)) w') : Cal Tryz.prog F_disk_Disk_Write #[.pointer (some ⟨d, 0, none⟩), .int .i64 n, .slice a l c] w K := by
  obtain ⟨R, sb, mb, sc, L, h1, h2, h3, h4⟩ := h
  refine Write_c h1 hs hl hr (fun q hq hR => ?_) fun w' L' m hd' => hk w' ⟨Gro R w w', sb, mb, sc, L', hd', fun x hx => ?_, h3.trans m fun x hx hR => ?_, Nat.le_refl _⟩
  · have := (h2 _ hR).2
    have := hdis q hq
    omega
  · rcases hx with hx | hx
    · have h5 := h2 x hx; have := m.size
      exact ⟨h5.1, by omega⟩
    · have := h3.size
      exact ⟨.inr (by omega), hx.2⟩
  · exact ((h2 x hR).1).resolve_right (by omega)
theorem Dx.flush (h : Dx wb R0 N w d D) (hs : Small D) (hk : ∀ w', Dx wb R0 w'.heap.size w' d (flSt D) → K (.int .i64 0) w') : Cal Tryz.prog F_disk_Disk_Flush #[.pointer (some ⟨d, 0, none⟩)] w K := by
  obtain ⟨R, sb, mb, sc, L, h1, h2, h3, h4⟩ := h
  refine Flush_c h1 hs fun w' L' m hd' => hk w' ⟨R, sb, mb, sc, L', hd', fun x hx => ?_, h3.trans m fun x hx hR => ?_, Nat.le_refl _⟩
  · have h5 := h2 x hx; have := m.size
    exact ⟨h5.1, by omega⟩
  · exact ((h2 x hR).1).resolve_right (by omega)
theorem Dx.len (h : Dx wb R0 N w d D) (hk : K (.int .i64 D.vs.length) w) : Cal Tryz.prog F_disk_Disk_Len #[.pointer (some ⟨d, 0, none⟩)] w K := by
  obtain ⟨R, sb, mb, sc, L, h1, h2, h3, h4⟩ := h
  exact Len_c h1 hk
theorem build_root : Al (Instr.build 55 #[(0, .int .i64 2), (1, .int .i64 1), (3, .int .i64 1)]) (.agg ⟨nV rootN⟩) := fun w => by kernel_rfl
theorem Bnd9 {m : Nat} (h : Bnd D m) (hm : m ≤ 999999) : ∀ v ∈ D.vs, v.length ≤ 999999 := fun v hv => Nat.le_trans (h v hv) hm
theorem BndS {m : Nat} (h : Bnd D m) (hm : m ≤ 999999) : Small D := fun v hv => Nat.le_trans (h v hv) (by omega)
set_option maxRecDepth 8000 in
theorem each_c {R : Nat → Prop} {sb mb sc : Nat} {L : List (Int × Value)} {g : Gm} (h : DiskIn w R d sb mb sc L D) (hg : gOk g = true) (hn : gSize g ≤ D.vs.length) (hb : Bnd D 1)
    (hk : ∀ w1 N w', Mod No w w1 → w.heap.size ≤ N → Dx w1 R N w' d (wrAll D (volL g g.gs.toNat)) → K (.int .i64 0) w') :
    Cal Tryz.prog F_vol_each #[.agg ⟨gV g⟩, .int .i64 0, .func (.func F_disk_Disk_Write) #[.pointer (some ⟨d, 0, none⟩)] #[]] w K := by
  apply C_vol_each
  unfold D_vol_each
  obtain ⟨w1, a1, a2, a3, a4⟩ := box_u (P := Tryz.prog) (w := w) (T := 23) (cs := gV g)
  have hnR : ¬ R w.heap.size := fun e => Nat.lt_irrefl _ (h.lt _ e)
  have hq : ∀ {w2 : World} {N : Nat} {D' : St}, Dx w1 R N w2 d D' → AtU w2 w.heap.size 0 (gV g) := fun x => a2.keep x.mod hnR
  obtain ⟨g1, g2, g3, g4, g5, g6, g7, g8, g9⟩ := gOk_iff.1 hg
  have hvn := volN_b hg
  have hlen := h.wf.hi
  refine ⟨_, w1, a1, fun x w2 => ∃ (k N : Nat) (y1 y2 y3 : Value), (k : Int) ≤ g.gs ∧ x = [.int .i64 k, y1, y2, y3] ∧ w.heap.size ≤ N ∧ Dx w1 R N w2 d (wrAll D (volL g k)), fun x _ => (g.gs - nI x 0).toNat,
    ⟨0, _, undef, undef, undef, by omega, rfl, Nat.le_refl _, Dx.start h a3⟩, ?_⟩
  rintro x w2 ⟨k, N, y1, y2, y3, hkg, rfl, hN, hx⟩
  refine ⟨_, rfl, _, (hq hx).at.fld sc_int rfl, cond_of (fun hl => ?_) (fun hl => ?_)⟩
  · have hl : (k : Int) < g.gs := of_decide_eq_true hl
    have eF : hFresh g k = (hBase g k, 0) := by unfold hFresh; rw [if_pos ⟨hg, by omega, hl⟩]
    have eH : gHead g k = (2 + k * g.gr, 0) := by unfold gHead; rw [if_pos hg, if_pos ⟨by omega, hl⟩]
    refine ⟨_, (hq hx).at.all agg_geo rfl, fresh_c fun w3 m3 => ⟨_, _, rfl, ?_⟩⟩
    rw [eF]
    have x3 := hx.nos m3
    obtain ⟨w4, b1, b2, b3, b4⟩ := new_u (P := Tryz.prog) (w := w3) (T := 63) zero_head
    have x4 := x3.nos b3
    obtain ⟨w5, c1, c2, c3, c4⟩ := b2.put (T := 63) (vs := hV (hBase g k)) agg_head rfl (hV_len (hBase_wf _ _)) (one_hV _)
    have m5 : Mod No w3 w5 := b3.own c3 (Nat.le_refl _)
    have x5 := x3.nos m5
    refine ⟨_, w4, b1, w5, c1, _, (hq x5).at.all agg_geo rfl, _, c2.at.all agg_head (hV_len (hBase_wf _ _)), hPut_c (hBase_wf _ _) (fun e => by rw [hOk_base hg (by omega) hl] at e; cases e) fun _ w6 q m6 hq6 h6 => ⟨_, _, _, _, rfl, ?_⟩⟩
    have x6 := x5.nos m6
    refine ⟨_, (hq x6).at.all agg_geo rfl, geoHead_c fun w7 m7 => ⟨_, _, rfl, ?_⟩⟩
    have x7 := x6.nos m7
    refine ⟨_, (hq x7).at.all agg_geo rfl, geoTabs_c fun w8 m8 => ⟨_, rfl, ?_⟩⟩
    have x8 := x7.nos m8
    rw [eH]
    have hNq : N ≤ q := by have := hx.size; have := m3.size; have := m5.size; omega
    have hrow := ((h6.keep m7 id).keep m8 id)
    have eT : IntKind.i64.wrap (1 + gTabs g) = (volN g : Int) := by
      have e : gTabs g = g.no / 4 := by unfold gTabs; rw [if_pos hg]
      rw [wrap64 (by omega) (by omega), hvn.1, e]
    refine ⟨fun x w9 => ∃ (i N' : Nat) (a : Option Addr) (l c : Nat) (y : Value), i ≤ volN g ∧ x = [.slice a l c, .int .i64 i, y] ∧ w.heap.size ≤ N' ∧ Dx w1 R N' w9 d (wrAll (wrAll D (volL g k)) (volG g k i)) ∧ (i = 0 → ∃ q, a = some ⟨q, 0, none⟩ ∧ l = 256 ∧ c = 256 ∧ N' ≤ q ∧ AtU w9 q 0 (u8L (grpB g (hBase g k)))),
      fun x _ => (volN g - nI x 1).toNat, ⟨0, N, _, _, _, _, by omega, rfl, hN, x8, fun _ => ⟨q, rfl, rfl, rfl, hNq, hrow⟩⟩, ?_⟩
    rintro x w9 ⟨i, N', a, l, c, y, hi, rfl, hN', x9, hi0⟩
    rw [eT]
    refine ⟨_, rfl, cond_of (fun hl2 => ?_) (fun hl2 => ?_)⟩
    · have hl2 : i < volN g := by have := of_decide_eq_true hl2; omega
      have hvx := volX_in hg (n := D.vs.length) hl hl2 hn
      refine Share.cut (fun z w11 => ∃ q', z = [.slice (some ⟨q', 0, none⟩) 256 256] ∧ N' ≤ q' ∧ AtU w11 q' 0 (u8L (if i = 0 then grpB g (hBase g k) else zeroB)) ∧ Mod No w9 w11) (cond_of (fun hp => ?_) (fun hp => ?_)) ?_
      · have hp : 0 < i := by have := of_decide_eq_true hp; omega
        obtain ⟨w10, s1, s2, s3, s4⟩ := make_z (w := w9) (n := 256) (by omega)
        exact ⟨_, _, _, w10, s1, _, rfl, x9.size, by rw [if_neg (by omega)]; exact s2, s3⟩
      · have hp : i = 0 := by have := of_decide_eq_false hp; omega
        obtain ⟨q', e1, e2, e3, e4, e5⟩ := hi0 hp
        subst e1 e2 e3
        exact ⟨q', rfl, e4, by rw [if_pos hp]; exact e5, Mod.refl _ _⟩
      rintro z w11 ⟨q', rfl, hq', h11, m11⟩
      refine Share.cut (fun z w12 => z = [.bool (decide (k = 0 ∧ i = 1))] ∧ w12 = w11) ?_ ?_
      · rw [beqI]
        refine cond_of (fun hp => ⟨?_, rfl⟩) (fun hp => ⟨?_, rfl⟩)
        · have hp : k = 0 := by have := of_decide_eq_true hp; omega
          congr 2
          rw [beqI, Bool.eq_iff_iff, decide_eq_true_iff, decide_eq_true_iff]; omega
        · have hp : ¬ k = 0 := by have := of_decide_eq_false hp; omega
          rw [decide_eq_false (fun e => hp e.1)]
      rintro z w12 ⟨rfl, rfl⟩
      refine ⟨_, rfl, ?_⟩
      refine Share.cut (fun z w14 => ∃ q', z = [.slice (some ⟨q', 0, none⟩) 256 256] ∧ N' ≤ q' ∧ AtU w14 q' 0 (u8L (volB g k i)) ∧ Mod No w9 w14) (cond_of (fun hp => ?_) (fun hp => ?_)) ?_
      · have hp := of_decide_eq_true hp
        refine ⟨_, _, _, rfl, _, build_root, ?_⟩
        rw [if_neg (by omega)] at h11
        refine inoLay_c rootN_wf zeroB_len (.inr ⟨_, _, rfl, h11.at⟩) (by omega) (by decide) rootN_ok fun w13 q'' m13 hq'' h13 => ⟨_, _, _, _, rfl, q'', rfl, ?_, ?_, m11.no m13⟩
        · have := x9.size; have := m11.size; omega
        · unfold volB
          rw [if_neg (by omega), if_pos hp]; exact h13
      · have hp := of_decide_eq_false hp
        refine ⟨q', rfl, hq', ?_, m11⟩
        unfold volB
        by_cases h0 : i = 0
        · rw [if_pos h0]; rw [if_pos h0] at h11; exact h11
        · rw [if_neg h0, if_neg hp]; rw [if_neg h0] at h11; exact h11
      rintro z w14 ⟨q'', rfl, hq'', h14, m14⟩
      have x14 := x9.nos m14
      have e1 : IntKind.i64.wrap (2 + (k : Int) * g.gr + i) = (volX g k i).1 := by
        show _ = 2 + (k : Int) * g.gr + i
        have := hvx
        unfold volX at this
        simp only at this
        rw [wrap64 (by omega) (by omega)]
      refine ⟨_, _, _, rfl, ?_⟩
      rw [e1]
      have hB : Bnd (wrAll (wrAll D (volL g k)) (volG g k i)) 999999 := by
        have h1 := Bnd_all (Bnd_all hb (volL g k)) (volG g k i)
        have h2 := volL_len hg k
        rw [volG_len] at h1
        exact h1.mono (by omega)
      have hvl : (wrAll (wrAll D (volL g k)) (volG g k i)).vs.length = D.vs.length := by rw [wrAll_len, wrAll_len]
      refine ⟨_, _, _, rfl, ?_⟩
      show Cal Tryz.prog F_disk_Disk_Write #[.pointer (some ⟨d, 0, none⟩), .int .i64 (volX g k i).1, .slice (some ⟨q'', 0, none⟩) 256 256] w14 _
      refine x14.write hB (volB_len g k i) (.inr ⟨_, _, rfl, h14.at⟩) (fun q3 e3 => by cases e3; exact hq'') fun w15 x15 => ⟨_, rfl, ff ?_ ?_⟩
      · rw [wrE_in (by omega) (by rw [hvl]; omega) (volB_len g k i)]; rfl
      have e2 : wrSt (wrAll (wrAll D (volL g k)) (volG g k i)) (volX g k i).1 (volB g k i) = wrAll (wrAll D (volL g k)) (volG g k (i + 1)) := by
        rw [volG_succ, wrAll_snoc]; rfl
      rw [e2] at x15
      rw [wrap64 (x := (i : Int) + 1) (by omega) (by omega)]
      exact ⟨⟨i + 1, _, _, _, _, _, by omega, rfl, by have := x9.size; have := m14.size; have := x15.size; have := x15.mod.size; have := a3.size; omega, x15, fun e => by omega⟩, by simp [nI, nth]; omega⟩
    · have hl2 : i = volN g := by have := of_decide_eq_false hl2; omega
      subst hl2
      rw [wrap64 (x := (k : Int) + 1) (by omega) (by omega)]
      refine ⟨⟨k + 1, N', _, _, _, by omega, rfl, hN', ?_⟩, by simp [nI, nth]; omega⟩
      rw [volL_succ, wrAll_app]; exact x9
  · have hl : (k : Int) = g.gs := by have := of_decide_eq_false hl; omega
    have e : g.gs.toNat = k := by omega
    refine hk w1 N w2 a3 hN ?_
    rw [e]; exact hx
end
end Go.Proofs.YtoajelhfiganaaaGreat
end
section
open Go Go.Den Go.Proofs
namespace Go.Proofs.YtoajelhfiganaaaGreat
section
variable {wb w w' : World} {R0 : Nat → Prop} {N d : Nat} {D : St} {K : Value → World → Prop}
theorem Dx.comp {R' : Nat → Prop} {w1 : World} {N' : Nat} {D' : St} (h2 : ∀ x, R' x → R0 x ∨ wb.heap.size ≤ x) (hm : Mod R0 wb w) (m : Mod No w w1) (k : Dx w1 R' N' w' d D') : Dx wb R0 N' w' d D' := by
  obtain ⟨R, sb, mb, sc, L, k1, k2, k3, k4⟩ := k
  refine ⟨R, sb, mb, sc, L, k1, fun x hx => ⟨?_, (k2 x hx).2⟩, (hm.no m).trans k3 fun x hx e => (h2 x e).resolve_right (by omega), k4⟩
  rcases (k2 x hx).1 with e | e
  · exact h2 x e
  · have := hm.size; have := m.size; exact .inr (by omega)
def wrZ (D : St) : Nat → St
  | 0 => D
  | n + 1 => wrSt (wrZ D n) n zeroB
theorem wrZ_bnd (hb : Bnd D 1) : ∀ n, Bnd (wrZ D n) (n + 1)
  | 0 => hb
  | n + 1 => Bnd_wr (wrZ_bnd hb n) _ _
theorem sOk_new {g : Gm} (h : gOk g = true) : sOk ⟨1, g⟩ = true := sOk_iff.2 ⟨⟨Int.le_refl _, by show (1 : Int) ≤ 4611686018427387904; decide⟩, h⟩
set_option maxRecDepth 8000 in
theorem vFormat_c {R : Nat → Prop} {sb mb sc : Nat} {L : List (Int × Value)} {g : Gm} (h : DiskIn w R d sb mb sc L D) (hrun : D.left = -1) (hb : Bnd D 1)
    (hk0 : fmtE D g ≠ 0 → ∀ w', Mod No w w' → K (.int .i64 (fmtE D g)) w')
    (hk : fmtE D g = 0 → ∀ w1 N w', Mod No w w1 → Dx w1 R N w' d (fmtSt D g) → K (.int .i64 0) w') :
    Cal Tryz.prog F_vol_Format #[.pointer (some ⟨d, 0, none⟩), .agg ⟨gV g⟩] w K := by
  apply C_vol_Format
  unfold D_vol_Format
  obtain ⟨w1, a1, a2, a3, a4⟩ := box_u (P := Tryz.prog) (w := w) (T := 23) (cs := gV g)
  have hnR : ¬ R w.heap.size := fun e => Nat.lt_irrefl _ (h.lt _ e)
  have hq : ∀ {w2 : World} {N : Nat} {D' : St}, Dx w1 R N w2 d D' → AtU w2 w.heap.size 0 (gV g) := fun x => a2.keep x.mod hnR
  refine ⟨_, w1, a1, ff rfl ⟨_, a2.at.all agg_geo rfl, geoRight_c fun w2 m2 => ⟨_, rfl, cond_of (fun hg => ?_) (fun hg => ?_)⟩⟩⟩
  · have e : fmtE D g = 1 := by unfold fmtE; rw [if_pos (by simpa using hg)]
    have := hk0 (by rw [e]; decide) w2 (a3.no m2)
    rwa [e] at this
  have hg : gOk g = true := by simpa using hg
  have md : Mod No w1 (Go.Den.drew w2) := m2.drew
  have xd : Dx w1 R w.heap.size (Go.Den.drew w2) d D := (Dx.start h a3).nos md
  refine ⟨_, (hq xd).at.all agg_geo rfl, xd.len ⟨_, rfl, (hq xd).at.all agg_geo rfl, geoSize_c fun w4 m4 => ⟨_, rfl, cond_of (fun hl => ?_) (fun hl => ?_)⟩⟩⟩
  · have hl := of_decide_eq_true hl
    have e : fmtE D g = 4 := by unfold fmtE; rw [if_neg (by rw [hg]; decide), if_pos hl]
    have := hk0 (by rw [e]; decide) w4 (a3.no (md.no m4))
    rwa [e] at this
  have hl := of_decide_eq_false hl
  have eE : fmtE D g = 0 := by unfold fmtE; rw [if_neg (by rw [hg]; decide), if_neg hl]
  have x4 := xd.nos m4
  refine ⟨fun x w5 => ∃ i N : Nat, i ≤ 2 ∧ x = [.int .i64 i] ∧ Dx w1 R N w5 d (wrZ D i), fun x _ => (2 - nI x 0).toNat, ⟨0, _, by omega, rfl, x4⟩, ?_⟩
  rintro x w5 ⟨i, N, hi, rfl, x5⟩
  refine ⟨_, rfl, cond_of (fun hl2 => ?_) (fun hl2 => ?_)⟩
  · have hl2 := of_decide_eq_true hl2
    obtain ⟨w6, s1, s2, s3, s4⟩ := make_z (w := w5) (n := 256) (by omega)
    refine ⟨_, _, _, w6, s1, ?_⟩
    refine (x5.nos s3).write (Bnd9 (wrZ_bnd hb i) (by omega)) zeroB_len (.inr ⟨_, _, rfl, s2.at⟩) (fun q e => by cases e; exact x5.size) fun w7 x7 => ⟨_, rfl, ?_⟩
    rw [wrap64 (x := (i : Int) + 1) (by omega) (by omega)]
    exact ⟨⟨i + 1, _, by omega, by simp, x7⟩, by simp [nI, nth]; omega⟩
  have hl2 := of_decide_eq_false hl2
  have hi2 : i = 2 := by omega
  subst hi2
  refine x5.flush (BndS (wrZ_bnd hb 2) (by omega)) fun w8 x8 => ⟨_, rfl, ?_⟩
  have x8 : Dx w1 R w8.heap.size w8 d (fmt0 D) := x8
  refine ⟨_, (hq x8).at.all agg_geo rfl, ?_⟩
  have hm8 := x8.mod
  obtain ⟨R8, sb8, mb8, sc8, L8, k1, k2, k3, k4⟩ := x8
  refine each_c k1 hg (by rw [fmt0_len]; omega) (fmt0_bnd hrun) fun w9 N9 w10 m9 hN9 x10 => ⟨_, rfl, ?_⟩
  have x10 := x10.comp (fun x hx => (k2 x hx).1) hm8 m9
  have hB : Bnd (wrAll (fmt0 D) (volL g g.gs.toNat)) 999999 := by
    have h1 := Bnd_all (fmt0_bnd hrun) (volL g g.gs.toNat)
    have h2 := volL_len hg g.gs.toNat
    obtain ⟨_, _, _, g4, _⟩ := gOk_iff.1 hg
    exact h1.mono (by omega)
  refine x10.flush (BndS hB (by omega)) fun w11 x11 => ⟨_, rfl, _, (hq x11).at.all agg_geo rfl, _, build_sup 1 g, ?_⟩
  have x11 : Dx w1 R w11.heap.size w11 d (fmt1 D g) := x11
  refine supPut_c (s := ⟨1, g⟩) (fun e => by rw [sOk_new hg] at e; cases e) fun _ w12 q m12 hq12 h12 => ⟨_, _, _, _, rfl, ?_⟩
  refine (x11.nos m12).write (Bnd9 (fmt1_bnd hrun g) (by omega)) (supB_len _) (.inr ⟨_, _, rfl, h12.at⟩) (fun q' e => by cases e; exact hq12) fun w13 x13 => ⟨_, rfl, ?_⟩
  refine x13.flush (BndS (Bnd_wr (fmt1_bnd hrun g) _ _) (by omega)) fun w14 x14 => ⟨_, rfl, ?_⟩
  exact hk eE w1 _ w14 a3 x14
end
end Go.Proofs.YtoajelhfiganaaaGreat
end
section
open Go Go.Den Go.Proofs
namespace Go.Proofs.YtoajelhfiganaaaGreat
def BlkAt (b0 : Nat) (w : World) (la : Option Addr) (cs : List Value) (B : List (Int × Bk)) : Prop :=
  cs.length = B.length * 2 ∧ ∀ (i : Nat) (x : Int × Bk), B[i]? = some x → ∃ q c, (cs.drop (i * 2)).take 2 = [.int .i64 x.1, .slice (some ⟨q, 0, none⟩) 256 c] ∧ 256 ≤ c ∧ AtU w q 0 (u8L x.2) ∧ b0 ≤ q ∧ ∀ p, la = some p → p.block ≠ q
theorem elemG_blk : elemG Tryz.prog 95 2 32 := elemG_of (by kernel_rfl)
theorem build_bl13 (n : Int) (a : Option Addr) (l c : Nat) : Al (Instr.build 98 #[(0, .int .i64 n), (1, .slice a l c)]) (.agg ⟨[.int .i64 n, .slice a l c]⟩) := fun w => by kernel_rfl
theorem built_bl13 (w : World) (n : Int) (a : Option Addr) (l c : Nat) : (Instr.buildSlice 95 1 #[(0, .agg ⟨[.int .i64 n, .slice a l c]⟩)]).run Tryz.prog w = .ok (.slice (some ⟨w.heap.size, 0, none⟩) 1 1) (w.alloc (.cells ⟨[.int .i64 n, .slice a l c]⟩ 98)) := by kernel_rfl
section
variable {b0 : Nat} {w w' : World} {la : Option Addr} {cs : List Value} {B : List (Int × Bk)} {K : Value → World → Prop}
theorem BlkAt.keep {S : Nat → Prop} (h : BlkAt b0 w la cs B) (m : Mod S w w') (hs : ∀ (i : Nat) (x : Int × Bk) (q c : Nat), B[i]? = some x → (cs.drop (i * 2)).take 2 = [.int .i64 x.1, .slice (some ⟨q, 0, none⟩) 256 c] → ¬ S q) : BlkAt b0 w' la cs B := by
  refine ⟨h.1, fun i x hx => ?_⟩
  obtain ⟨q, c, h1, h2, h3, h4⟩ := h.2 i x hx
  exact ⟨q, c, h1, h2, h3.keep m (hs i x q c hx h1), h4⟩
theorem BlkAt.nos (h : BlkAt b0 w la cs B) (m : Mod No w w') : BlkAt b0 w' la cs B := h.keep m fun _ _ _ _ _ _ => id
theorem BlkAt.snoc {base l c : Nat} {n : Int} {q e : Nat} {ys : Bk} (h : BlkAt b0 w la cs B) (o : Own Tryz.prog w base 95 2 la l c cs) (hat : AtU w q 0 (u8L ys)) (he : 256 ≤ e) (hq0 : b0 ≤ q) (hq : ∀ p, la = some p → p.block ≠ q) (hl : l ≤ 100000) (hb : base ≤ w.heap.size)
    {C : Option Addr → Nat → Nat → World → Prop}
    (hk : ∀ w' la' c' cs', Own Tryz.prog w' base 95 2 la' (l + 1) c' cs' → BlkAt b0 w' la' cs' (B ++ [(n, ys)]) → Mod (fun x => base ≤ x) w w' → C la' (l + 1) c' w') :
    ∃ (a44 : Option Addr) (l44 c44 : Nat), ∃ w8 : World, Ru (Instr.buildSlice 95 1 #[(0, .agg ⟨[.int .i64 n, .slice (some ⟨q, 0, none⟩) 256 e]⟩)]) w (.slice a44 l44 c44) w8 ∧ ∃ (a45 : Option Addr) (l45 c45 : Nat), ∃ w9 : World, Ru (Builtin.append_ #[95, 95] 95 #[.slice la l c, .slice a44 l44 c44]) w8 (.slice a45 l45 c45) w9 ∧ C a45 l45 c45 w9 := by
  obtain ⟨w8, hw8⟩ : ∃ w8, w8 = w.alloc (.cells ⟨[.int .i64 n, .slice (some ⟨q, 0, none⟩) 256 e]⟩ 98) := ⟨_, rfl⟩
  have m8 : Mod No w w8 := by rw [hw8]; exact (Mod.refl No w).alloc _
  have r8 : Row w8 (some ⟨w.heap.size, 0, none⟩) [.int .i64 n, .slice (some ⟨q, 0, none⟩) 256 e] := by rw [hw8]; exact .inr ⟨_, _, rfl, AtU.new.at⟩
  have z8 := m8.size
  refine ⟨_, _, _, w8, by rw [hw8]; exact built_bl13 w _ _ _ _, ?_⟩
  obtain ⟨p, c', w9, run, o9, m9, hp⟩ := (o.nos m8).appG (ty := 95) (m := 1) (c2 := 1) elemG_blk (by omega) r8 rfl (by omega) (by intro v hv; simp at hv; rcases hv with rfl | rfl <;> rfl) (by omega) (by omega) (by omega)
  refine ⟨_, _, _, w9, run, hk w9 _ _ _ o9 ?_ ?_⟩
  · have hlen := o.len
    have hcl := h.1
    refine ⟨by simp; omega, fun i x hx => ?_⟩
    have hpq : ∀ q' : Nat, q' < w.heap.size → (∀ p', la = some p' → p'.block ≠ q') → ∀ p', some p = some p' → p'.block ≠ q' := fun q' hq' hn p' e => by
      cases e
      rcases hp with ⟨p0, e0, e1⟩ | e1
      · rw [e1]; exact hn p0 e0
      · omega
    by_cases hi : i < B.length
    · rw [List.getElem?_append_left hi] at hx
      obtain ⟨q', c2, h1, h2, h3, h5, h4⟩ := h.2 i x hx
      refine ⟨q', c2, ?_, h2, (h3.keep m8 id).keep m9 fun ⟨p0, e0, e1⟩ => h4 p0 e0 e1.symm, h5, hpq q' h3.lt h4⟩
      rw [List.drop_append_of_le_length (by omega), List.take_append_of_le_length (by rw [List.length_drop]; omega)]
      exact h1
    · have hi2 : i = B.length := by
        have := (List.getElem?_eq_some_iff.1 hx).1
        simp at this; omega
      subst hi2
      rw [List.getElem?_append_right (Nat.le_refl _), Nat.sub_self] at hx
      have hx : (n, ys) = x := by simpa using hx
      subst hx
      refine ⟨q, e, ?_, he, (hat.keep m8 id).keep m9 fun ⟨p0, e0, e1⟩ => hq p0 e0 e1.symm, hq0, hpq q hat.lt hq⟩
      rw [List.drop_append, List.drop_eq_nil_of_le (by omega), List.nil_append, show B.length * 2 - cs.length = 0 by omega]
      rfl
  · refine (m8.mono fun _ _ e => e.elim).trans m9 fun x hx ⟨q', e, e'⟩ => ?_
    have := (o.base e).1
    rw [e']; exact this
theorem volX0 (g : Gm) (k : Nat) : volX g k 0 = (2 + k * g.gr, grpB g (hBase g k)) := by
  unfold volX volB
  rw [if_pos rfl]
  congr 1
  exact Int.add_zero _
theorem volG1 (g : Gm) (k : Nat) : volG g k 1 = [(2 + k * g.gr, grpB g (hBase g k))] := by
  rw [volG_succ, volX0]; rfl
set_option maxRecDepth 8000 in
theorem groups_c {g : Gm} (hg : gOk g = true)
    (hk : ∀ w' la c cs, Mod No w w' → Own Tryz.prog w' w.heap.size 95 2 la (volL g g.gs.toNat).length c cs → BlkAt w.heap.size w' la cs (volL g g.gs.toNat) → K (.slice la (volL g g.gs.toNat).length c) w') :
    Cal Tryz.prog F_leveeref13_groups #[.agg ⟨gV g⟩, .int .i64 0] w K := by
  apply C_leveeref13_groups
  unfold D_leveeref13_groups
  obtain ⟨w1, a1, a2, a3, a4⟩ := box_u (P := Tryz.prog) (w := w) (T := 23) (cs := gV g)
  have hq : ∀ {w2 : World}, Mod No w1 w2 → AtU w2 w.heap.size 0 (gV g) := fun m => a2.keep m id
  obtain ⟨g1, g2, g3, g4, g5, g6, g7, g8, g9⟩ := gOk_iff.1 hg
  have hvn := volN_b hg
  have eT : gTabs g = (volN g : Int) - 1 := by
    have e : gTabs g = g.no / 4 := by unfold gTabs; rw [if_pos hg]
    rw [e, hvn.1]; omega
  refine ⟨_, w1, a1, fun x w2 => ∃ (k : Nat) (la : Option Addr) (c : Nat) (cs : List Value) (y2 y3 y4 : Value), (k : Int) ≤ g.gs ∧ x = [.slice la (volL g k).length c, .int .i64 k, y2, y3, y4] ∧ Own Tryz.prog w2 w1.heap.size 95 2 la (volL g k).length c cs ∧ BlkAt w.heap.size w2 la cs (volL g k) ∧ Mod No w1 w2, fun x _ => (g.gs - nI x 1).toNat,
    ⟨0, none, 0, [], undef, undef, undef, by omega, rfl, Own.nilG elemG_blk, ⟨rfl, fun i x hx => by simp [volL] at hx⟩, Mod.refl _ _⟩, ?_⟩
  rintro x w2 ⟨k, la, c, cs, y2, y3, y4, hkg, rfl, o2, h2, m2⟩
  refine ⟨_, rfl, _, (hq m2).at.fld sc_int rfl, cond_of (fun hl => ?_) (fun hl => ?_)⟩
  · have hl : (k : Int) < g.gs := of_decide_eq_true hl
    have eH : gHead g k = (2 + k * g.gr, 0) := by unfold gHead; rw [if_pos hg, if_pos ⟨by omega, hl⟩]
    have hLl := volL_len hg k
    refine ⟨_, (hq m2).at.all agg_geo rfl, rhFresh_c (fun e => absurd ⟨hg, by omega, hl⟩ e) fun _ w3 ab cb aq cc m3 rb rs => ⟨_, _, rfl, ?_⟩⟩
    have M3 := m2.no m3
    obtain ⟨w4, b1, b2, b3, b4⟩ := new_u (P := Tryz.prog) (w := w3) (T := 122) zero_rhead
    obtain ⟨w5, c1, c2, c3, c4⟩ := b2.put (T := 122) (vs := rV6 k ab cb aq cc) agg_rhead rfl rfl (one_rV6 _ _ _ _ _)
    have m5 : Mod No w3 w5 := b3.own c3 (Nat.le_refl _)
    have M5 := M3.no m5
    refine ⟨_, w4, b1, w5, c1, _, (hq M5).at.all agg_geo rfl, _, c2.at.all agg_rhead rfl, ?_⟩
    refine rhPut_c (h := hBase g k) (hBase_wf _ _) (rb.nos m5) (rs.nos m5) (fun e => by rw [hOk_base hg (by omega) hl] at e; cases e) fun _ w6 b d m6 o6 => ⟨_, _, _, _, rfl, ?_⟩
    obtain ⟨q, rfl, hq6, h6⟩ := o6.sm (by omega)
    have M6 := M5.no m6
    have hd := o6.cap.1
    refine ⟨_, (hq M6).at.all agg_geo rfl, rgHead_c fun w7 m7 => ⟨_, _, rfl, _, _, _, rfl, ?_⟩⟩
    have M7 := M6.no m7
    rw [eH]
    refine ⟨_, build_bl13 _ _ _ _, ?_⟩
    have hz : ∀ p, la = some p → p.block ≠ q := fun p e => by
      have := (o2.base e).2; have := m3.size; have := m5.size; omega
    have M27 : Mod No w2 w7 := ((m3.no m5).no m6).no m7
    refine (h2.nos M27).snoc (o2.nos M27) (h6.keep m7 id) hd (by have := a3.size; have := M5.size; omega) hz (by omega) M7.size fun w9 la' c' cs' o9 h9 m9 => ?_
    have M9 : Mod No w1 w9 := M7.up m9 (Nat.le_refl _)
    have el : (volL g k).length + 1 = (volL g k ++ volG g k (0 + 1)).length := by rw [List.length_append, volG_len]
    rw [← volG1 g k] at h9
    rw [el] at o9 ⊢
    refine ⟨fun x w10 => ∃ (i : Nat) (la : Option Addr) (c : Nat) (cs : List Value) (y2 y3 : Value), i + 1 ≤ volN g ∧ x = [.slice la (volL g k ++ volG g k (i + 1)).length c, .int .i64 i, y2, y3] ∧ Own Tryz.prog w10 w1.heap.size 95 2 la (volL g k ++ volG g k (i + 1)).length c cs ∧ BlkAt w.heap.size w10 la cs (volL g k ++ volG g k (i + 1)) ∧ Mod No w1 w10,
      fun x _ => (volN g - nI x 1).toNat, ⟨0, la', c', cs', _, _, by omega, rfl, o9, h9, M9⟩, ?_⟩
    rintro x w10 ⟨i, la2, c2', cs2, z2, z3, hi, rfl, o10, h10, M10⟩
    refine ⟨_, rfl, _, (hq M10).at.all agg_geo rfl, rgTabs_c fun w11 m11 => ⟨_, rfl, ?_⟩⟩
    have M11 := M10.no m11
    rw [eT]
    refine cond_of (fun hl2 => ?_) (fun hl2 => ?_)
    · have hl2 : i + 1 < volN g := by have := of_decide_eq_true hl2; omega
      have hvx := volX_in hg (n := 4096) hl hl2 (gSize_b (g := g)).2
      obtain ⟨w12, s1, s2, s3, s4⟩ := make_z (w := w11) (n := 256) (by omega)
      refine ⟨_, _, _, w12, s1, ?_⟩
      refine Share.cut (fun z w13 => z = [.bool (decide (k = 0 ∧ i = 0))] ∧ w13 = w12) ?_ ?_
      · rw [beqI]
        refine cond_of (fun hp => ⟨?_, rfl⟩) (fun hp => ⟨?_, rfl⟩)
        · have hp : k = 0 := by have := of_decide_eq_true hp; omega
          congr 2
          rw [beqI, Bool.eq_iff_iff, decide_eq_true_iff, decide_eq_true_iff]; omega
        · have hp : ¬ k = 0 := by have := of_decide_eq_false hp; omega
          rw [decide_eq_false (fun e => hp e.1)]
      rintro z w13 ⟨rfl, rfl⟩
      refine ⟨_, rfl, ?_⟩
      refine Share.cut (fun z w15 => ∃ q' e', z = [.slice (some ⟨q', 0, none⟩) 256 e'] ∧ 256 ≤ e' ∧ w11.heap.size ≤ q' ∧ AtU w15 q' 0 (u8L (volB g k (i + 1))) ∧ Mod No w11 w15) (cond_of (fun hp => ?_) (fun hp => ?_)) ?_
      · have hp := of_decide_eq_true hp
        refine ⟨_, build_root, rinoLay_c rootN_wf zeroB_len (by omega) (.inr ⟨_, _, rfl, s2.at⟩) (by simp) (by omega) (by decide) rootN_ok fun w14 a14 c14 m14 o14 => ⟨_, _, _, _, rfl, ?_⟩⟩
        obtain ⟨q', rfl, hq', h14⟩ := o14.sm (by omega)
        refine ⟨q', c14, rfl, o14.cap.1, by have := s3.size; omega, ?_, s3.no m14⟩
        unfold volB
        rw [if_neg (by omega), if_pos ⟨hp.1, by omega⟩]; exact h14
      · have hp := of_decide_eq_false hp
        refine ⟨_, _, rfl, by omega, Nat.le_refl _, ?_, s3⟩
        unfold volB
        rw [if_neg (by omega), if_neg (fun e => hp ⟨e.1, by omega⟩)]; exact s2
      rintro z w15 ⟨q', e', rfl, he', hq', h15, m15⟩
      refine ⟨_, _, _, rfl, _, _, _, rfl, _, build_bl13 _ _ _ _, ?_⟩
      have e1 : IntKind.i64.wrap (IntKind.i64.wrap (2 + (k : Int) * g.gr + 1) + i) = (volX g k (i + 1)).1 := by
        have h5 : (volX g k (i + 1)).1 = 2 + (k : Int) * g.gr + ((i + 1 : Nat) : Int) := rfl
        have hp : 0 ≤ (k : Int) * g.gr := Int.mul_nonneg (by omega) (by omega)
        rw [h5] at hvx ⊢
        rw [wrap64 (x := 2 + (k : Int) * g.gr + 1) (by omega) (by omega), wrap64 (by omega) (by omega)]; omega
      rw [e1]
      have M1015 : Mod No w10 w15 := m11.no m15
      have M15 := M10.no M1015
      have hLl2 : (volL g k ++ volG g k (i + 1)).length ≤ 100000 := by rw [List.length_append, volG_len]; omega
      refine (h10.nos M1015).snoc (o10.nos M1015) h15 he' (by have := a3.size; have := M11.size; omega) (fun p e => by have := (o10.base e).2; have := m11.size; omega) hLl2 M15.size fun w17 la3 c3 cs3 o17 h17 m17 => ?_
      have eB : (volL g k ++ volG g k (i + 1)) ++ [((volX g k (i + 1)).1, volB g k (i + 1))] = volL g k ++ volG g k (i + 1 + 1) := by
        rw [List.append_assoc, volG_succ g k (i + 1)]; rfl
      have el2 : (volL g k ++ volG g k (i + 1)).length + 1 = (volL g k ++ volG g k (i + 1 + 1)).length := by
        rw [← eB]; simp; omega
      rw [eB] at h17
      rw [el2] at o17 ⊢
      rw [wrap64 (x := (i : Int) + 1) (by omega) (by omega)]
      exact ⟨⟨i + 1, la3, c3, cs3, _, _, by omega, rfl, o17, h17, M15.up m17 (Nat.le_refl _)⟩, by simp [nI, nth]; omega⟩
    · have hl2 : i + 1 = volN g := by have := of_decide_eq_false hl2; omega
      rw [hl2, ← volL_succ] at o10 h10
      rw [hl2, ← volL_succ]
      rw [wrap64 (x := (k : Int) + 1) (by omega) (by omega)]
      exact ⟨⟨k + 1, _, _, _, _, _, _, by omega, rfl, o10.nos m11, h10.nos m11, M11⟩, by simp [nI, nth]; omega⟩
  · have hl : (k : Int) = g.gs := by have := of_decide_eq_false hl; omega
    have e : g.gs.toNat = k := by omega
    rw [e] at hk
    exact ⟨_, _, _, rfl, hk w2 la c cs (a3.no m2) (o2.mono a3.size) h2⟩
end
end Go.Proofs.YtoajelhfiganaaaGreat
end
section
open Go Go.Den Go.Proofs
namespace Go.Proofs.YtoajelhfiganaaaGreat
def Dr (wb : World) (R0 : Nat → Prop) (N : Nat) (w : World) (d : Nat) (D : St) : Prop :=
  ∃ R vb vc hs, RefIn w R d vb vc hs D ∧ (∀ x, R x → (R0 x ∨ wb.heap.size ≤ x) ∧ x < N) ∧ Mod R0 wb w ∧ N ≤ w.heap.size
section
variable {wb w w' : World} {R0 : Nat → Prop} {N d : Nat} {D : St} {K : Value → World → Prop}
theorem Dr.nos (h : Dr wb R0 N w d D) (m : Mod No w w') : Dr wb R0 N w' d D := by
  obtain ⟨R, vb, vc, hs, h1, h2, h3, h4⟩ := h
  exact ⟨R, vb, vc, hs, h1.nos m, h2, h3.no m, Nat.le_trans h4 m.size⟩
theorem Dr.mod (h : Dr wb R0 N w d D) : Mod R0 wb w := by obtain ⟨_, _, _, _, _, _, h, _⟩ := h; exact h
theorem Dr.size (h : Dr wb R0 N w d D) : N ≤ w.heap.size := by obtain ⟨_, _, _, _, _, _, _, h⟩ := h; exact h
theorem Dr.wf (h : Dr wb R0 N w d D) : WF D := by obtain ⟨_, _, _, _, h, _⟩ := h; exact h.wf
theorem Dr.start {R : Nat → Prop} {vb vc : Nat} {hs : List (Nat × Nat)} (h : RefIn w R d vb vc hs D) (m : Mod No w wb) : Dr wb R w.heap.size wb d D :=
  ⟨R, vb, vc, hs, h.nos m, fun x hx => ⟨.inl hx, h.lt x hx⟩, Mod.refl _ _, m.size⟩
theorem Dr.write (h : Dr wb R0 N w d D) (hs : ∀ v ∈ D.vs, v.length ≤ 999999) {n : Int} {a : Option Addr} {l c : Nat} {ys : List UInt8} (hl : ys.length = l) (hr : Row w a (u8L ys)) (hdis : ∀ q, a = some q → N ≤ q.block ∨ (q.block < wb.heap.size ∧ ¬ R0 q.block))
    (hk : ∀ w', Dr wb R0 w'.heap.size w' d (wrSt D n ys) → K (.int .i64 (wrE D n ys)) w') : Cal Tryz.prog F_leveeref02_Disk_Write #[.pointer (some ⟨d, 0, none⟩), .int .i64 n, .slice a l c] w K := by
  obtain ⟨R, vb, vc, hs', h1, h2, h3, h4⟩ := h
  refine refWrite_c h1 hs hl hr (fun _ q hq hR => ?_) fun w' hs2 m hd' => hk w' ⟨Gro R w w', vb, vc, hs2, hd', fun x hx => ?_, h3.trans m fun x hx hR => ?_, Nat.le_refl _⟩
  · have h5 := h2 _ hR
    rcases hdis q hq with h6 | ⟨h6, h7⟩
    · omega
    · rcases h5.1 with h8 | h8
      · exact h7 h8
      · omega
  · rcases hx with hx | hx
    · have h5 := h2 x hx; have := m.size
      exact ⟨h5.1, by omega⟩
    · have := h3.size
      exact ⟨.inr (by omega), hx.2⟩
  · exact ((h2 x hR).1).resolve_right (by omega)
theorem Dr.flush (h : Dr wb R0 N w d D) (hs : Small D) (hk : ∀ w', Dr wb R0 w'.heap.size w' d (flSt D) → K (.int .i64 0) w') : Cal Tryz.prog F_leveeref02_Disk_Flush #[.pointer (some ⟨d, 0, none⟩)] w K := by
  obtain ⟨R, vb, vc, hs', h1, h2, h3, h4⟩ := h
  refine refFlush_c h1 hs fun w' hs2 m hd' => hk w' ⟨Gro R w w', vb, vc, hs2, hd', fun x hx => ?_, h3.trans m fun x hx hR => ?_, Nat.le_refl _⟩
  · rcases hx with hx | hx
    · have h5 := h2 x hx; have := m.size
      exact ⟨h5.1, by omega⟩
    · have := h3.size
      exact ⟨.inr (by omega), hx.2⟩
  · exact ((h2 x hR).1).resolve_right (by omega)
theorem Dr.comp {R' : Nat → Prop} {w1 : World} {N' : Nat} {D' : St} (h2 : ∀ x, R' x → R0 x ∨ wb.heap.size ≤ x) (hm : Mod R0 wb w) (m : Mod No w w1) (k : Dr w1 R' N' w' d D') : Dr wb R0 N' w' d D' := by
  obtain ⟨R, vb, vc, hs, k1, k2, k3, k4⟩ := k
  refine ⟨R, vb, vc, hs, k1, fun x hx => ⟨?_, (k2 x hx).2⟩, (hm.no m).trans k3 fun x hx e => (h2 x e).resolve_right (by omega), k4⟩
  rcases (k2 x hx).1 with e | e
  · exact h2 x e
  · have := hm.size; have := m.size; exact .inr (by omega)
theorem volL_all (D : St) (l : List (Int × Bk)) (i : Nat) (x : Int × Bk) (h : l[i]? = some x) : wrAll D (l.take (i + 1)) = wrSt (wrAll D (l.take i)) x.1 x.2 := by
  obtain ⟨h1, h2⟩ := List.getElem?_eq_some_iff.1 h
  rw [List.take_succ_eq_append_getElem h1, wrAll_snoc, h2]
set_option maxRecDepth 8000 in
theorem rFormat_c {R : Nat → Prop} {vb vc : Nat} {hs : List (Nat × Nat)} {g : Gm} (h : RefIn w R d vb vc hs D) (hrun : D.left = -1) (hb : Bnd D 1)
    (hk0 : fmtE D g ≠ 0 → ∀ w', Mod No w w' → K (.int .i64 (fmtE D g)) w')
    (hk : fmtE D g = 0 → ∀ w1 N w', Mod No w w1 → Dr w1 R N w' d (fmtSt D g) → K (.int .i64 0) w') :
    Cal Tryz.prog F_leveeref13_Format #[.pointer (some ⟨d, 0, none⟩), .agg ⟨gV g⟩] w K := by
  apply C_leveeref13_Format
  unfold D_leveeref13_Format
  obtain ⟨w1, a1, a2, a3, a4⟩ := box_u (P := Tryz.prog) (w := w) (T := 23) (cs := gV g)
  have hnR : ¬ R w.heap.size := fun e => Nat.lt_irrefl _ (h.lt _ e)
  have hq : ∀ {w2 : World} {N : Nat} {D' : St}, Dr w1 R N w2 d D' → AtU w2 w.heap.size 0 (gV g) := fun x => a2.keep x.mod hnR
  refine ⟨_, w1, a1, _, a2.at.all agg_geo rfl, rgRight_c fun w2 m2 => ⟨_, rfl, cond_of (fun hg => ?_) (fun hg => ?_)⟩⟩
  · have e : fmtE D g = 1 := by unfold fmtE; rw [if_pos (by simpa using hg)]
    have := hk0 (by rw [e]; decide) w2 (a3.no m2)
    rwa [e] at this
  have hg : gOk g = true := by simpa using hg
  have md : Mod No w1 (Go.Den.drew w2) := m2.drew
  have hd := h.nos (a3.no md)
  refine ⟨_, rfl, _, _, _, rv hd, _, (a2.keep md id).at.all agg_geo rfl, rgSize_c fun w3 m3 => ⟨_, rfl, rv (hd.nos m3), cond_of (fun hl => ?_) (fun hl => ?_)⟩⟩
  · have hl := of_decide_eq_true hl
    have e : fmtE D g = 4 := by unfold fmtE; rw [if_neg (by rw [hg]; decide), if_pos hl]
    have := hk0 (by rw [e]; decide) w3 (a3.no (md.no m3))
    rwa [e] at this
  have hl := of_decide_eq_false hl
  have eE : fmtE D g = 0 := by unfold fmtE; rw [if_neg (by rw [hg]; decide), if_neg hl]
  have x3 : Dr w1 R w.heap.size w3 d D := (Dr.start h a3).nos (md.no m3)
  obtain ⟨w4, s1, s2, s3, s4⟩ := make_z (w := w3) (n := 256) (by omega)
  refine ⟨_, _, _, w4, s1, (x3.nos s3).write (Bnd9 hb (by omega)) zeroB_len (.inr ⟨_, _, rfl, s2.at⟩) (fun q e => by cases e; exact .inl x3.size) fun w5 x5 => ⟨_, rfl, ?_⟩⟩
  obtain ⟨w6, t1, t2, t3, t4⟩ := make_z (w := w5) (n := 256) (by omega)
  refine ⟨_, _, _, w6, t1, (x5.nos t3).write (Bnd9 (Bnd_wr hb _ _) (by omega)) zeroB_len (.inr ⟨_, _, rfl, t2.at⟩) (fun q e => by cases e; exact .inl x5.size) fun w7 x7 => ⟨_, rfl, ?_⟩⟩
  refine x7.flush (BndS (Bnd_wr (Bnd_wr hb _ _) _ _) (by omega)) fun w8 x8 => ⟨_, rfl, ?_⟩
  have x8 : Dr w1 R w8.heap.size w8 d (fmt0 D) := x8
  refine ⟨_, (hq x8).at.all agg_geo rfl, groups_c hg fun w9 la c cs m9 o9 h9 => ⟨_, _, _, rfl, ?_⟩⟩
  have hm8 := x8.mod
  obtain ⟨R8, vb8, vc8, hs8, k1, k2, k3, k4⟩ := x8
  have hBl := volL_len hg g.gs.toNat
  obtain ⟨_, _, _, g4, _⟩ := gOk_iff.1 hg
  have hN8 : ∀ x, R8 x → x < w8.heap.size := k1.lt
  refine ⟨fun x w10 => ∃ i N : Nat, i ≤ (volL g g.gs.toNat).length ∧ x = [.int .i64 i] ∧ Dr w9 R8 N w10 d (wrAll (fmt0 D) ((volL g g.gs.toNat).take i)), fun x _ => ((volL g g.gs.toNat).length - nI x 0).toNat,
    ⟨0, _, by omega, rfl, Dr.start k1 m9⟩, ?_⟩
  rintro x w10 ⟨i, N, hi, rfl, x10⟩
  have hB : ∀ i, Bnd (wrAll (fmt0 D) ((volL g g.gs.toNat).take i)) 999999 := fun i => by
    have h1 := Bnd_all (fmt0_bnd hrun) ((volL g g.gs.toNat).take i)
    have h2 := List.length_take_le i (volL g g.gs.toNat)
    have h3 : ((volL g g.gs.toNat).take i).length ≤ (volL g g.gs.toNat).length := List.length_take_le' _ _
    exact h1.mono (by omega)
  refine ⟨_, rfl, cond_of (fun hl2 => ?_) (fun hl2 => ?_)⟩
  · have hl2 : i < (volL g g.gs.toNat).length := by have := of_decide_eq_true hl2; omega
    have hx := List.getElem?_eq_getElem hl2
    obtain ⟨q, e, h1, h2, h3, h4, h5⟩ := h9.2 i _ hx
    obtain ⟨p, rfl, hp, hat⟩ := o9.sm (by omega)
    have hcl := h9.1
    have hat10 := hat.keep x10.mod (fun e => by have := hN8 _ e; omega)
    have h10 := h3.keep x10.mod (fun e => by have := hN8 _ e; omega)
    have hc : ∀ j v, ([.int .i64 (volL g g.gs.toNat)[i].1, .slice (some ⟨q, 0, none⟩) 256 e] : List Value)[j]? = some v → cs[i * 2 + j]? = some v := fun j v hj => by
      have hj2 : j < 2 := by have := (List.getElem?_eq_some_iff.1 hj).1; simpa using this
      rw [← h1, List.getElem?_take, if_pos hj2, List.getElem?_drop] at hj
      exact hj
    have hix : Al (Instr.indexAt 95 (.slice (some ⟨p, 0, none⟩) (volL g g.gs.toNat).length c) (.int .i64 i)) (.pointer (some ⟨p, i * 2, none⟩)) := fun w => by
      have := index_slice (P := Tryz.prog) (T := 95) (k := 2) (a := ⟨p, 0, none⟩) (n := (volL g g.gs.toNat).length) (c := c) (kk := .i64) (i := i) (by kernel_rfl) (by omega) (by omega) w
      rw [add_none, Nat.zero_add, show (i : Int).toNat = i by omega] at this
      exact this
    have ld1 : Ru (Instr.loadAt 3 (.pointer (some (Addr.add ⟨p, i * 2, none⟩ 0)))) (Go.Den.drew w10) (.int .i64 (volL g g.gs.toNat)[i].1) (Go.Den.drew w10) := by
      rw [add_none]
      have := hat10.drew.at.load (P := Tryz.prog) (T := 3) sc_int (hc 0 _ rfl)
      rw [Nat.zero_add] at this
      exact this
    have ld2 : Ru (Instr.loadAt 24 (.pointer (some (Addr.add ⟨p, i * 2, none⟩ 1)))) (Go.Den.drew w10) (.slice (some ⟨q, 0, none⟩) 256 e) (Go.Den.drew w10) := by
      rw [add_none]
      have := hat10.drew.at.load (P := Tryz.prog) (T := 24) sc_bytes (hc 1 _ rfl)
      rw [Nat.zero_add] at this
      exact this
    refine ⟨_, hix, _, ld1, _, hix, _, _, _, ld2, ?_⟩
    have hv : (volL g g.gs.toNat)[i].2.length = 256 := by
      have hm := List.getElem_mem hl2
      obtain ⟨k, hk1, hk2⟩ := List.mem_flatMap.1 hm
      obtain ⟨j, hj1, hj2⟩ := List.mem_map.1 hk2
      rw [← hj2]; exact volB_len g k j
    refine (x10.nos (Mod.refl No w10).drew).write (hB i) hv (.inr ⟨_, _, rfl, h10.drew.at⟩) (fun q' e => by cases e; exact .inr ⟨h3.lt, fun e => by have := hN8 _ e; have e : q < w8.heap.size := this; omega⟩) fun w11 x11 => ⟨_, rfl, ?_⟩
    rw [← volL_all _ _ _ _ hx] at x11
    rw [wrap64 (x := (i : Int) + 1) (by omega) (by omega)]
    exact ⟨⟨i + 1, _, by omega, rfl, x11⟩, by simp [nI, nth]; omega⟩
  have hl2 : i = (volL g g.gs.toNat).length := by have := of_decide_eq_false hl2; omega
  have x10 := x10.comp (fun x hx => (k2 x hx).1) hm8 m9
  have hBi := hB i
  rw [hl2, List.take_length] at x10 hBi
  refine x10.flush (BndS hBi (by omega)) fun w11 x11 => ⟨_, rfl, _, (hq x11).at.all agg_geo rfl, _, build_rsup 1 g, ?_⟩
  have x11 : Dr w1 R w11.heap.size w11 d (fmt1 D g) := x11
  refine rsPut_c (s := ⟨1, g⟩) (fun e => by rw [sOk_new hg] at e; cases e) fun _ w12 a12 c12 m12 o12 => ⟨_, _, _, _, rfl, ?_⟩
  refine (x11.nos m12).write (Bnd9 (fmt1_bnd hrun g) (by omega)) (supB_len _) o12.rowU.row (fun q' e => .inl (o12.base e).1) fun w13 x13 => ⟨_, rfl, ?_⟩
  refine x13.flush (BndS (Bnd_wr (fmt1_bnd hrun g) _ _) (by omega)) fun w14 x14 => ⟨_, rfl, ?_⟩
  exact hk eE w1 _ w14 a3 x14
end
end Go.Proofs.YtoajelhfiganaaaGreat
end
section
open Go Go.Den Go.Proofs
namespace Go.Proofs.YtoajelhfiganaaaGreat
theorem fldA2 {w : World} {T : TypeId} {b j i n : Nat} {cs vs : List Value} (h : At w b 0 cs) (hT : aggN Tryz.prog T = some n) (hj : j + i + n ≤ cs.length) (hv : (cs.drop (j + i)).take n = vs) : Ru (Instr.loadAt T (.pointer (some (Addr.add (Addr.add ⟨b, 0, none⟩ j) i)))) w (.agg ⟨vs⟩) w := by
  have e : Addr.add (Addr.add ⟨b, 0, none⟩ j) i = Addr.add ⟨b, 0, none⟩ (j + i) := by
    rw [add_none, add_none, add_none, Nat.add_assoc]
  rw [e]
  exact h.fldA hT hj hv
def vV (s : Sp) (sp wk : Nat) (nx : Int) : List Value := sV s ++ [.pointer (some ⟨sp, 0, none⟩), .pointer (some ⟨wk, 0, none⟩), .int .i64 nx]
theorem sc_store : scal Tryz.prog 71 = true := by kernel_rfl
def Vg (wb : World) (R0 : Nat → Prop) (N : Nat) (w : World) (v d : Nat) (s : Sp) (D : St) (nx : Int) : Prop :=
  ∃ R sp wk k w0, Pz w0 R w sp d ⟨⟨D, k, []⟩, 0, []⟩ ∧ AtU w v 0 (vV s sp wk nx) ∧ (¬ R v ∧ w0.heap.size ≤ v ∧ v < N ∧ (R0 v ∨ wb.heap.size ≤ v)) ∧ (∀ x, R x → (R0 x ∨ wb.heap.size ≤ x) ∧ x < N) ∧ Mod R0 wb w ∧ (N ≤ w.heap.size ∧ wb.heap.size ≤ N ∧ w0.heap.size ≤ N)
section
variable {w0 wb w w' : World} {R R0 : Nat → Prop} {N v d sp : Nat} {s : Sp} {D : St} {V : Ps} {nx : Int} {K : Value → World → Prop}
theorem qReadC_c {n : Int} (hP : Pz w0 R w sp d V) {b : Nat} (hb : n = b) (hlt : b < V.C.D.vs.length)
    (hk : ∀ w1 w' g cc, Mod R w w1 → Mod No w1 w' → Pz w0 (Gro R w w1) w' sp d V → w1.heap.size ≤ g → AtU w' g 0 (u8L (contV V b)) → 256 ≤ cc → K (.tuple #[.slice (some ⟨g, 0, none⟩) 256 cc, .int .i64 0]) w') :
    Cal Tryz.prog F_patch_Store_Read #[.pointer (some ⟨sp, 0, none⟩), .int .i64 n] w K := by
  obtain ⟨C, eD, eM, hP⟩ := hP
  have hwf := hP.wf
  refine pRead_c hP (fun he w' m => ?_) fun b' hb' hlt' w1 w' a cc C' m1 m2 h e1 e2 hc o => ?_
  · have he : errOf C.D n ≠ 0 := he
    rw [eD, hb] at he
    exact absurd (rd_at V.C.D hlt).1 he
  · have : b' = b := by omega
    subst this
    obtain ⟨g, rfl, hg, hat⟩ := o.sm (by omega)
    rw [cont_view hwf.1 hwf.2.1 hwf.2.2.1, contV_C eD] at hat
    exact hk w1 w' g cc m1 m2 ⟨C', e1.trans eD, e2.trans eM, h⟩ hg hat o.cap.1
theorem Vg.nos (h : Vg wb R0 N w v d s D nx) (m : Mod No w w') : Vg wb R0 N w' v d s D nx := by
  obtain ⟨R, sp, wk, k, w0, h1, h2, h3, h4, h5, h6, h7⟩ := h
  exact ⟨R, sp, wk, k, w0, h1.nos m, h2.keep m id, h3, h4, h5.no m, Nat.le_trans h6 m.size, h7⟩
theorem Vg.up (h : Vg wb R0 N w v d s D nx) : Vg wb R0 w.heap.size w v d s D nx := by
  obtain ⟨R, sp, wk, k, w0, h1, h2, h3, h4, h5, h6, h7, h8⟩ := h
  exact ⟨R, sp, wk, k, w0, h1, h2, ⟨h3.1, h3.2.1, by omega, h3.2.2.2⟩, fun x hx => ⟨(h4 x hx).1, by have := (h4 x hx).2; omega⟩, h5, Nat.le_refl _, by omega, by omega⟩
theorem Vg.put {q : Nat} (h : Vg wb R0 N w v d s D nx) (hq : N ≤ q) (m : Mod (fun x => x = q) w w') : Vg wb R0 N w' v d s D nx := by
  obtain ⟨R, sp, wk, k, w0, h1, h2, h3, h4, h5, h6, h7, h8⟩ := h
  refine ⟨R, sp, wk, k, w0, h1.keep m (fun x hx e => ?_) (fun x hx e => ?_), h2.keep m (fun e => ?_), h3, h4, h5.trans m fun x hx e => ?_, Nat.le_trans h6 m.size, h7, h8⟩
  · have := (h4 x hx).2
    have e : x = q := e
    omega
  · have e : x = q := e
    omega
  · have := h3.2.2.1
    have e : v = q := e
    omega
  · have e : x = q := e
    omega
theorem Vg.mod (h : Vg wb R0 N w v d s D nx) : Mod R0 wb w := by obtain ⟨_, _, _, _, _, _, _, _, _, h, _⟩ := h; exact h
theorem Vg.size (h : Vg wb R0 N w v d s D nx) : N ≤ w.heap.size := by obtain ⟨_, _, _, _, _, _, _, _, _, _, h, _⟩ := h; exact h
theorem Vg.at (h : Vg wb R0 N w v d s D nx) : ∃ sp wk, AtU w v 0 (vV s sp wk nx) := by obtain ⟨_, sp, wk, _, _, _, h, _⟩ := h; exact ⟨sp, wk, h⟩
theorem Vg.wf (h : Vg wb R0 N w v d s D nx) : WF D := by obtain ⟨_, _, _, _, _, h, _⟩ := h; exact h.wf.2.2.2.2
theorem Vg.geo (h : Vg wb R0 N w v d s D nx) : Ru (Instr.loadAt 23 (.pointer (some (Addr.add (Addr.add ⟨v, 0, none⟩ 0) 1)))) w (.agg ⟨gV s.geo⟩) w := by
  obtain ⟨sp, wk, h⟩ := h.at
  exact fldA2 h.at agg_geo (by show 4 ≤ 7; omega) rfl
theorem Vg.gen (h : Vg wb R0 N w v d s D nx) : Ru (Instr.loadAt 2 (.pointer (some (Addr.add (Addr.add ⟨v, 0, none⟩ 0) 0)))) w (.int .i64 s.gen) w := by
  obtain ⟨sp, wk, h⟩ := h.at
  exact h.at.fld2 sc_i64 rfl
theorem Vg.next (h : Vg wb R0 N w v d s D nx) : Ru (Instr.loadAt 2 (.pointer (some (Addr.add ⟨v, 0, none⟩ 6)))) w (.int .i64 nx) w := by
  obtain ⟨sp, wk, h⟩ := h.at
  exact h.at.fld sc_i64 rfl
theorem Vg.set (h : Vg wb R0 N w v d s D nx) (n : Int) : ∃ w', RuU (Instr.storeAt 2 (.pointer (some (Addr.add ⟨v, 0, none⟩ 6))) (.int .i64 n)) w w' ∧ Vg wb R0 N w' v d s D n := by
  obtain ⟨R, sp, wk, k, w0, h1, h2, h3, h4, h5, h6, h7, h8⟩ := h
  obtain ⟨w', s1, s2, s3, s4⟩ := h2.putF (P := Tryz.prog) (T := 2) (j := 6) (v := .int .i64 n) sc_i64 (by show 6 < 7; omega) rfl
  refine ⟨w', s1, R, sp, wk, k, w0, h1.keep s3 (fun x hx e => ?_) (fun x hx e => ?_), s2, h3, h4, h5.trans s3 fun x hx e => ?_, by omega, h7, h8⟩
  · have e : x = v := e
    rw [e] at hx; exact h3.1 hx
  · have e : x = v := e
    have := h3.2.1; omega
  · have e : x = v := e
    rw [e]
    exact h3.2.2.2.resolve_right (by omega)
theorem Vg.rd (h : Vg wb R0 N w v d s D nx) {n : Int} (h0 : 0 ≤ n) (h1 : n < D.vs.length)
    (hk : ∀ w' g cc, Vg wb R0 w'.heap.size w' v d s D nx → Mod (fun x => x < N) w w' → (∀ q w5 w6, N ≤ q → q < w.heap.size → Mod No w' w5 → Mod (fun x => x = q) w5 w6 → Vg wb R0 w6.heap.size w6 v d s D nx) → AtU w' g 0 (u8L (rdB D n)) → (rdB D n).length = 256 → 256 ≤ cc → K (.tuple #[.slice (some ⟨g, 0, none⟩) 256 cc, .int .i64 0]) w') :
    ∃ p : Option Addr, Ru (Instr.loadAt 71 (.pointer (some (Addr.add ⟨v, 0, none⟩ 4)))) w (.pointer p) w ∧ Cal Tryz.prog F_patch_Store_Read #[.pointer p, .int .i64 n] w K := by
  have hwf := h.wf
  obtain ⟨R, sp, wk, k, w0, a1, a2, a3, a4, a5, a6, a7, a8⟩ := h
  refine ⟨_, a2.at.fld sc_store rfl, ?_⟩
  obtain ⟨b, rfl⟩ := Int.eq_ofNat_of_zero_le h0
  have hb : b < D.vs.length := by omega
  refine qReadC_c a1 rfl hb fun w1 w' g cc m1 m2 hP hg hat hcc => ?_
  have e1 : rdB D b = atD D b := (rd_at D hb).2
  have hz1 := m1.size
  have hz2 := m2.size
  have hz5 := a5.size
  have hv : v < w.heap.size := by have := a3.2.2.1; omega
  have hnv : ¬ Gro R w w1 v := by
    rintro (e | e)
    · exact a3.1 e
    · omega
  have hR : ∀ x, Gro R w w1 x → (R0 x ∨ wb.heap.size ≤ x) ∧ x < w1.heap.size := fun x hx => by
    rcases hx with hx | hx
    · exact ⟨(a4 x hx).1, by have := (a4 x hx).2; omega⟩
    · exact ⟨.inr (by omega), by omega⟩
  have M : Mod R0 wb w' := (a5.trans m1 fun x hx e => ((a4 x e).1).resolve_right (by omega)).no m2
  have hV := (a2.keep m1 a3.1).keep m2 id
  refine hk w' g cc ⟨_, sp, wk, k, w0, hP, hV, ⟨hnv, a3.2.1, by omega, a3.2.2.2⟩, fun x hx => ⟨(hR x hx).1, by have := (hR x hx).2; omega⟩, M, Nat.le_refl _, by omega, by omega⟩ ((m1.mono fun x _ e => (a4 x e).2).no m2) (fun q w5 w6 hq1 hq2 m5 m6 => ?_) ?_ ?_ hcc
  · have hz3 := m5.size
    have hz4 := m6.size
    have hnq : ∀ x, Gro R w w1 x → x ≠ q := fun x hx e => by
      subst e
      rcases hx with hx | hx
      · have := (a4 _ hx).2; omega
      · omega
    refine ⟨_, sp, wk, k, w0, (hP.nos m5).keep m6 hnq (fun x hx e => ?_), (hV.keep m5 id).keep m6 (fun e => ?_), ⟨hnv, a3.2.1, by omega, a3.2.2.2⟩, fun x hx => ⟨(hR x hx).1, by have := (hR x hx).2; omega⟩, (M.no m5).trans m6 fun x hx e => ?_, Nat.le_refl _, by omega, by omega⟩
    · have e : x = q := e
      omega
    · have e : v = q := e
      have := a3.2.2.1; omega
    · have e : x = q := e
      omega
  · rw [e1]; exact hat
  · rw [e1]; unfold atD; rw [ver_at hb]; exact hwf.lastLen (List.getElem?_eq_getElem hb)
theorem gHead_in {g : Gm} {k b : Int} (h : gHead g k = (b, 0)) : 0 ≤ b ∧ b < gSize g := by
  unfold gHead at h
  split at h
  · rename_i hg
    split at h
    · rename_i hk
      have e : gSize g = 2 + g.gs * g.gr := by unfold gSize; rw [if_pos hg]
      obtain ⟨h1, _⟩ := gOk_iff.1 hg
      have hmul : (k + 1) * g.gr ≤ g.gs * g.gr := Int.mul_le_mul_of_nonneg_right (by omega) (by omega)
      have hp : 0 ≤ k * g.gr := Int.mul_nonneg hk.1 (by omega)
      have hs : (k + 1) * g.gr = k * g.gr + g.gr := by rw [Int.add_mul, Int.one_mul]
      cases h
      omega
    · cases h
  · cases h
theorem vhd_c {k : Int} (h : Vg wb R0 N w v d s D nx) (hk : ∀ w', Mod No w w' → K (.tuple #[.int .i64 (gHead s.geo k).1, .int .i64 (gHead s.geo k).2]) w') : Cal Tryz.prog F_vol_Vol_head #[.pointer (some ⟨v, 0, none⟩), .int .i64 k] w K := by
  apply C_vol_Vol_head
  unfold D_vol_Vol_head
  exact ff rfl ⟨_, rfl, _, h.geo, geoHead_c fun w' m => ⟨_, _, rfl, hk w' m⟩⟩
theorem vpl_c {k : Int} (h63 : k ≤ 9223372036854775807) (h : Vg wb R0 N w v d s D nx) (hk : ∀ w', Mod No w w' → K (.tuple #[.int .i64 (gPlace s.geo k).1, .int .i64 (gPlace s.geo k).2.1, .int .i64 (gPlace s.geo k).2.2]) w') : Cal Tryz.prog F_vol_Vol_place #[.pointer (some ⟨v, 0, none⟩), .int .i64 k] w K := by
  apply C_vol_Vol_place
  unfold D_vol_Vol_place
  exact ff rfl ⟨_, rfl, _, h.geo, geoPlace_c h63 fun w' m => ⟨_, _, _, rfl, hk w' m⟩⟩
theorem vHead_c {k : Int} (h : Vg wb R0 N w v d s D nx) (hsz : gSize s.geo ≤ D.vs.length)
    (hk : ∀ w', Vg wb R0 w'.heap.size w' v d s D nx → K (.tuple #[.agg ⟨hV (headAt D s.geo k).1⟩, .int .i64 (headAt D s.geo k).2]) w') : Cal Tryz.prog F_vol_Vol_Head #[.pointer (some ⟨v, 0, none⟩), .int .i64 k] w K := by
  apply C_vol_Vol_Head
  unfold D_vol_Vol_Head
  obtain ⟨w1, b1, b2, b3, b4⟩ := new_u (P := Tryz.prog) (w := w) (T := 63) zero_head
  have hN := h.size
  have fin : ∀ (w' : World) (i : Hd) (e : Int), AtU w' w.heap.size 0 (hV hZ) → (∀ w6, Mod (fun x => x = w.heap.size) w' w6 → Vg wb R0 w6.heap.size w6 v d s D nx) → (i, e) = headAt D s.geo k → ∃ w3 : World, RuU (Instr.storeAt 63 (.pointer (some ⟨w.heap.size, 0, none⟩)) (.agg ⟨hV i⟩)) w' w3 ∧ ∃ gR2 : Array Value, Ru (Instr.loadAt 63 (.pointer (some ⟨w.heap.size, 0, none⟩))) w3 (.agg gR2) w3 ∧ K (.tuple #[.agg gR2, .int .i64 e]) w3 := fun w' i e hat hv he => by
    have hw : hWf i := by have := headAt_wf D s.geo k; rw [← he] at this; exact this
    obtain ⟨w3, c1, c2, c3, c4⟩ := hat.put (T := 63) (vs := hV i) agg_head rfl (hV_len hw) (one_hV _)
    refine ⟨w3, c1, _, c2.at.all agg_head (hV_len hw), ?_⟩
    have := hk w3 (hv w3 c3)
    rw [← he] at this
    exact this
  have h1 := h.nos b3
  refine ⟨_, w1, b1, vhd_c h1 fun w2 m2 => ⟨_, _, rfl, ?_⟩⟩
  have h2 := h1.nos m2
  rw [bneI]
  refine cond_of (fun he => ⟨_, build_head0, ?_⟩) (fun he => ?_)
  · have he := of_decide_eq_true he
    exact fin w2 hZ _ (b2.keep m2 id) (fun w6 m6 => (h2.put hN m6).up) (by unfold headAt; rw [if_pos he])
  have he := Classical.not_not.1 (of_decide_eq_false he)
  have hin := gHead_in (g := s.geo) (k := k) (b := (gHead s.geo k).1) (by rw [← he])
  refine ⟨_, rfl, ?_⟩
  have hs1 := b3.size
  have hs2 := m2.size
  refine h2.rd hin.1 (by omega) fun w4 g cc h4 m4 hput hat hl hcc => ⟨_, _, _, _, rfl, ff rfl ⟨_, rfl, _, h4.geo, ?_⟩⟩
  refine headGet_c hl hcc (.inr ⟨_, _, rfl, hat.at⟩) (by omega) fun w6 m6 => ⟨_, _, rfl, ?_⟩
  exact fin w6 _ _ (((b2.keep m2 id).keep m4 (by show ¬ w.heap.size < N; omega)).keep m6 id) (fun w7 m7 => hput _ w6 w7 hN (by omega) m6 m7) (by unfold headAt; rw [if_neg (by rw [he]; decide)])
theorem vInode_c {k : Int} (h63 : k ≤ 9223372036854775807) (h : Vg wb R0 N w v d s D nx) (hsz : gSize s.geo ≤ D.vs.length)
    (hk : ∀ w', Vg wb R0 w'.heap.size w' v d s D nx → K (.tuple #[.agg ⟨nV (slotAt D s.geo k).1⟩, .int .i64 (slotAt D s.geo k).2]) w') : Cal Tryz.prog F_vol_Vol_Inode #[.pointer (some ⟨v, 0, none⟩), .int .i64 k] w K := by
  apply C_vol_Vol_Inode
  unfold D_vol_Vol_Inode
  obtain ⟨w1, b1, b2, b3, b4⟩ := new_u (P := Tryz.prog) (w := w) (T := 55) zero_ino
  have hN := h.size
  have fin : ∀ (w' : World) (i : Nd) (e : Int), AtU w' w.heap.size 0 (nV nZ) → (∀ w6, Mod (fun x => x = w.heap.size) w' w6 → Vg wb R0 w6.heap.size w6 v d s D nx) → (i, e) = slotAt D s.geo k → ∃ w3 : World, RuU (Instr.storeAt 55 (.pointer (some ⟨w.heap.size, 0, none⟩)) (.agg ⟨nV i⟩)) w' w3 ∧ ∃ gR2 : Array Value, Ru (Instr.loadAt 55 (.pointer (some ⟨w.heap.size, 0, none⟩))) w3 (.agg gR2) w3 ∧ K (.tuple #[.agg gR2, .int .i64 e]) w3 := fun w' i e hat hv he => by
    have hw : nWf i := by have := slotAt_wf D s.geo k; rw [← he] at this; exact this
    obtain ⟨w3, c1, c2, c3, c4⟩ := hat.put (T := 55) (vs := nV i) agg_ino rfl (nV_len hw) (one_nV _)
    refine ⟨w3, c1, _, c2.at.all agg_ino (nV_len hw), ?_⟩
    have := hk w3 (hv w3 c3)
    rw [← he] at this
    exact this
  have h1 := h.nos b3
  refine ⟨_, w1, b1, vpl_c h63 h1 fun w2 m2 => ⟨_, _, _, rfl, ?_⟩⟩
  have h2 := h1.nos m2
  rw [bneI]
  refine cond_of (fun he => ⟨_, build_ino0, ?_⟩) (fun he => ?_)
  · have he := of_decide_eq_true he
    exact fin w2 nZ _ (b2.keep m2 id) (fun w6 m6 => (h2.put hN m6).up) (by unfold slotAt; rw [if_pos he])
  have he := Classical.not_not.1 (of_decide_eq_false he)
  have hin := gPlace_b (g := s.geo) (s := k) (b := (gPlace s.geo k).1) (p := (gPlace s.geo k).2.1) (by rw [← he])
  refine ⟨_, rfl, ?_⟩
  have hs1 := b3.size
  have hs2 := m2.size
  refine h2.rd (by omega) (by omega) fun w4 g cc h4 m4 hput hat hl hcc => ⟨_, _, _, _, rfl, ff rfl ?_⟩
  refine inoRead_c hl hcc (.inr ⟨_, _, rfl, hat.at⟩) (by omega) fun w6 m6 => ⟨_, _, rfl, ?_⟩
  exact fin w6 _ _ (((b2.keep m2 id).keep m4 (by show ¬ w.heap.size < N; omega)).keep m6 id) (fun w7 m7 => hput _ w6 w7 hN (by omega) m6 m7) (by unfold slotAt; rw [if_neg (by rw [he]; decide)])
end
end Go.Proofs.YtoajelhfiganaaaGreat
end
section
open Go Go.Den Go.Proofs
namespace Go.Proofs.YtoajelhfiganaaaGreat
theorem choose_ok {xs ys : List UInt8} {n : Int} (h : (supChoose xs ys n).2.2 = 0) : sOk (supChoose xs ys n).1 = true ∧ gSize (supChoose xs ys n).1.geo ≤ n := by
  have pick : ∀ (i : Int) (zs : List UInt8) (b : Sp), (sOk b = true ∧ gSize b.geo ≤ n) ∨ b = sZ → (sOk (supPick i zs n b) = true ∧ gSize (supPick i zs n b).geo ≤ n) ∨ supPick i zs n b = sZ := by
    intro i zs b hb
    unfold supPick
    split
    · rename_i h
      exact .inl ⟨(supG_ok h.1).1, h.2.2.1⟩
    · exact hb
  have hb := pick 1 ys _ (pick 0 xs sZ (.inr rfl))
  unfold supChoose at *
  by_cases e : supBest xs ys n = sZ
  · rw [if_pos e] at h; cases h
  · rw [if_neg e]
    exact hb.resolve_right e
theorem mnt_ok {D : St} (h : (mntS D).2.2 = 0) : gOk (mntS D).1.geo = true ∧ gSize (mntS D).1.geo ≤ D.vs.length ∧ 1 ≤ (mntS D).1.gen := by
  have := choose_ok h
  exact ⟨(sOk_iff.1 this.1).2, this.2, (sOk_iff.1 this.1).1.1⟩
theorem mnt_no {D : St} (h : (mntS D).2.2 = 0) (h2 : mntOk D (mntS D).1.geo = false) : mnt D = (sZ, 8) := by
  unfold mnt
  rw [if_neg (by omega), if_neg (by rw [h2]; decide)]
theorem mnt_yes {D : St} (h : (mntS D).2.2 = 0) (h2 : mntOk D (mntS D).1.geo = true) : mnt D = ((mntS D).1, 0) := by
  unfold mnt
  rw [if_neg (by omega), if_pos h2]
theorem build_work : Al (Instr.build 165 #[]) (.agg ⟨[.slice none 0 0]⟩) := fun w => by kernel_rfl
theorem build_vol (s : Sp) (sp wk : Nat) : Al (Instr.build 114 #[(0, .agg ⟨sV s⟩), (1, .pointer (some ⟨sp, 0, none⟩)), (2, .pointer (some ⟨wk, 0, none⟩)), (3, .int .i64 0)]) (.agg ⟨vV s sp wk 0⟩) := fun w => by kernel_rfl
section
variable {w0 wb w w' : World} {R R0 : Nat → Prop} {N v d sb mb sc : Nat} {L : List (Int × Value)} {s : Sp} {D : St} {V : Ps} {nx : Int} {K : Value → World → Prop}
theorem ReadC_c (h : DiskIn w R d sb mb sc L D) (hs : Small D) {n : Int} (hk : ∀ w' a c, Mod No w w' → Fresh w w' a (rdB D n) → (rdB D n).length ≤ c → K (.tuple #[.slice a (rdB D n).length c, .int .i64 (errOf D n)]) w') : Cal Tryz.prog F_disk_Disk_Read #[.pointer (some ⟨d, 0, none⟩), .int .i64 n] w K := by
  apply C_disk_Disk_Read
  unfold D_disk_Disk_Read
  refine may_c h ⟨_, rfl, ?_⟩
  rcases err_cases (D := D) n with ⟨he, _⟩ | ⟨he, i, v, rfl, hv, hver⟩
  · have hb : rdB D n = [] := by unfold rdB; rw [if_neg (by omega)]
    refine tt (by rw [he]; rfl) ?_
    have := hk w none 0 (Mod.refl _ _) (.inl ⟨rfl, hb⟩) (by rw [hb]; exact Nat.le_refl _)
    rw [hb] at this; exact this
  · have hb : rdB D i = lastV v := by unfold rdB; rw [if_pos he, hver]
    have hll := h.wf.lastLen hv
    refine ff (by rw [he]; rfl) (last_c h hv (hs v (List.mem_of_getElem? hv)) fun w2 m2 => ⟨_, rfl, _, _, alloc_block w2, _, store_new agg_block (by rw [length_u8L, List.length_replicate]) (by simp [hll]) (one_u8L _), _, _, _, slice_block _, ?_⟩)
    have := hk (w2.alloc (.cells ⟨u8L (lastV v)⟩ 107)) (some ⟨w2.heap.size, 0, none⟩) 256 (m2.alloc _) (.inr ⟨w2.heap.size, rfl, m2.size, by rw [hb]; exact AtU.new⟩) (by rw [hb, hll]; exact Nat.le_refl _)
    rw [hb, hll, he] at this; exact this
theorem diskV (h : Pz w0 R w v d V) : ∃ R4 sb mb sc L, DiskIn w R4 d sb mb sc L V.C.D ∧ Small V.C.D := by
  obtain ⟨C, eD, eM, hw, rl, c, mo, mm, ca, oa, Lo, Lm, h⟩ := h
  obtain ⟨rl2, m, sb, mb, sc, lc, la, L, mp, hC⟩ := h.cx
  have hD : Ps.C (⟨C, V.last, V.ons⟩ : Ps) = C := rfl
  have hd := hC.disk
  have hs := hC.wf.small
  rw [hD, eD] at hd hs
  exact ⟨_, sb, mb, sc, L, hd, hs⟩
theorem Vg.comp {R' : Nat → Prop} {w1 : World} (h2 : ∀ x, R' x → R0 x ∨ wb.heap.size ≤ x) (hm : Mod R0 wb w1) (k : Vg w1 R' N w' v d s D nx) : Vg wb R0 N w' v d s D nx := by
  obtain ⟨R, sp, wk, k, w0, h1, hv, h3, h4, h5, h6, h7, h8⟩ := k
  have hz := hm.size
  refine ⟨R, sp, wk, k, w0, h1, hv, ⟨h3.1, h3.2.1, h3.2.2.1, ?_⟩, fun x hx => ⟨?_, (h4 x hx).2⟩, hm.trans h5 fun x hx e => (h2 x e).resolve_right (by omega), h6, by omega, h8⟩
  · rcases h3.2.2.2 with e | e
    · exact h2 v e
    · exact .inr (by omega)
  · rcases (h4 x hx).1 with e | e
    · exact h2 x e
    · exact .inr (by omega)
theorem rdB_le (h : WF D) (n : Int) : (rdB D n).length ≤ 256 := by
  rcases err_cases (D := D) n with ⟨he, _⟩ | ⟨he, i, v, rfl, hv, hver⟩
  · unfold rdB; rw [if_neg (by omega)]; simp
  · unfold rdB; rw [if_pos he, hver, h.lastLen hv]; exact Nat.le_refl _
set_option maxRecDepth 8000 in
theorem vMount_c (h : DiskIn w R d sb mb sc L D) (hsm : Small D) (hlo : ∀ x, R x → w0.heap.size ≤ x ∧ x < w.heap.size) (hm0 : Mod No w0 w) (hrun : D.left = -1)
    (hk0 : (mnt D).2 ≠ 0 → ∀ w', Mod R w w' → K (.tuple #[.pointer none, .int .i64 (mnt D).2]) w')
    (hk : (mnt D).2 = 0 → ∀ w' N v, Vg w R N w' v d (mnt D).1 D (nextTo D (mnt D).1.geo (gSlots (mnt D).1.geo).toNat + 1) → K (.tuple #[.pointer (some ⟨v, 0, none⟩), .int .i64 0]) w') :
    Cal Tryz.prog F_vol_Mount #[.pointer (some ⟨d, 0, none⟩)] w K := by
  have hlen := h.wf.lo
  have hhi := h.wf.hi
  have hwf := h.wf
  apply C_vol_Mount
  unfold D_vol_Mount
  refine Len_c h ⟨_, rfl, ?_⟩
  have e1 : (if (1 : Int) > (D.vs.length : Int) then (1 : Int) else (D.vs.length : Int)) = (D.vs.length : Int) := by rw [if_neg (by omega)]
  rw [e1]
  refine qNew_c h hsm hlo hm0 hrun hlen hhi (Nat.le_refl _) fun w2 sp m2 P2 => ⟨_, _, rfl, ff rfl ?_⟩
  obtain ⟨R4, sb4, mb4, sc4, L4, hd2, hs2⟩ := diskV P2
  refine ReadC_c hd2 hs2 (n := 0) fun w3 a3 c3 m3 f3 hc3 => ⟨_, _, _, _, rfl, ?_⟩
  refine ReadC_c (hd2.nos m3) hs2 (n := 1) fun w4 a4 c4 m4 f4 hc4 => ⟨_, _, _, _, rfl, ?_⟩
  have M24 : Mod No w2 w4 := m3.no m4
  refine Len_c (hd2.nos M24) ⟨_, rfl, ?_⟩
  have l3 := rdB_le hwf 0
  have l4 := rdB_le hwf 1
  refine supChoose_c (xs := rdB D 0) (ys := rdB D 1) rfl hc3 (f3.nos m4).row (by show (rdB D 0).length ≤ _; omega) rfl hc4 f4.row (by show (rdB D 1).length ≤ _; omega) fun w6 m6 => ⟨_, _, _, rfl, ?_⟩
  have M26 := M24.no m6
  show ∃ q10 : Addr, _
  obtain ⟨w7, b1, b2, b3, b4⟩ := new_u (P := Tryz.prog) (w := w6) (T := 94) zero_sup
  obtain ⟨w8, c1, c2, c3', c4'⟩ := b2.put (T := 94) (vs := sV (mntS D).1) agg_sup rfl rfl (one_sV _)
  have m8 : Mod No w6 w8 := b3.own c3' (Nat.le_refl _)
  refine ⟨_, w7, b1, w8, c1, ?_⟩
  rw [bneI]
  refine cond_of (fun he => ?_) (fun he => ?_)
  · have he : (mntS D).2.2 ≠ 0 := of_decide_eq_true he
    have e : mnt D = (sZ, (mntS D).2.2) := by unfold mnt; rw [if_pos he]
    have := hk0 (by rw [e]; exact he) w8 (((m2.no M26).no m8).mono fun _ _ h => h.elim)
    rw [e] at this
    exact this
  have he : (mntS D).2.2 = 0 := Classical.not_not.1 (of_decide_eq_false he)
  obtain ⟨hg, hsz, hgen⟩ := mnt_ok he
  have m8d : Mod No w6 (Go.Den.drew w8) := m8.drew
  refine ⟨_, c2.drew.at.all agg_sup rfl, ?_⟩
  apply C_push_New
  unfold D_push_New
  obtain ⟨w9, p1, p2, p3, p4⟩ := box_u (P := Tryz.prog) (w := Go.Den.drew w8) (T := 165) (cs := [.slice none 0 0])
  have q9 : AtU w9 w6.heap.size 0 (sV (mntS D).1) := c2.drew.keep p3 id
  refine ⟨_, build_work, _, w9, p1, _, rfl, q9.at.all agg_sup rfl, _, build_vol _ _ _, ?_⟩
  obtain ⟨w10, v1, v2, v3, v4⟩ := box_u (P := Tryz.prog) (w := w9) (T := 114) (cs := vV (mntS D).1 sp (Go.Den.drew w8).heap.size 0)
  refine ⟨_, w10, v1, ?_⟩
  have M69 : Mod No w6 w9 := m8d.no p3
  have M29 : Mod No w2 w9 := M26.no M69
  have M210 : Mod No w2 w10 := M29.no v3
  have hz2 := m2.size
  have hz6 := M26.size
  have hz9 := M29.size
  have hz69 := M69.size
  have hz0 := hm0.size
  have hlt6 := c2.lt
  have hz8 : w8.heap.size ≤ w9.heap.size := p3.size
  have hG : ∀ x, Gro R w w2 x → x < w2.heap.size := fun x hx => by
    rcases hx with hx | hx
    · have := (hlo x hx).2; omega
    · omega
  have X10 : Vg w9 (Gro R w w2) w10.heap.size w10 w9.heap.size d (mntS D).1 D 0 :=
    ⟨Gro R w w2, sp, _, _, w0, P2.nos M210, v2, ⟨fun e => by have := hG _ e; omega, by omega, by omega, .inr (Nat.le_refl _)⟩, fun x hx => ⟨.inl hx, by have := hG _ hx; omega⟩, v3.mono fun _ _ h => h.elim, Nat.le_refl _, by omega, by omega⟩
  have hq : ∀ {w' : World} {N : Nat} {nx : Int}, Vg w9 (Gro R w w2) N w' w9.heap.size d (mntS D).1 D nx → AtU w' w6.heap.size 0 (sV (mntS D).1) := fun X => q9.keep X.mod fun e => by have := hG _ e; omega
  have back : ∀ x, Gro R w w2 x → R x ∨ w.heap.size ≤ x := fun x hx => by
    rcases hx with hx | hx
    · exact .inl hx
    · exact .inr hx.1
  have bm : Mod R w w9 := (m2.no M29).mono fun _ _ h => h.elim
  have hno : ∀ {w' : World} {N : Nat} {nx : Int}, Vg w9 (Gro R w w2) N w' w9.heap.size d (mntS D).1 D nx → mntOk D (mntS D).1.geo = false → ∀ w'', Mod No w' w'' → K (.tuple #[.pointer none, .int .i64 8]) w'' := fun X hf w'' m => by
    have e := mnt_no he hf
    have := hk0 (by rw [e]; decide) w'' ((X.comp back bm).mod.no m)
    rw [e] at this
    exact this
  obtain ⟨g1, g2, g3, g4, g5, g6, g7, g8, g9⟩ := gOk_iff.1 hg
  refine ⟨_, (hq X10).at.fld2 sc_int rfl, ?_⟩
  refine ⟨fun x w11 => ∃ (k N : Nat) (y : Value), (k : Int) ≤ (mntS D).1.geo.gs ∧ x = [.int .i64 k, y] ∧ Vg w9 (Gro R w w2) N w11 w9.heap.size d (mntS D).1 D 0 ∧ ∀ j, j < k → headOk D (mntS D).1.geo j = true, fun x _ => ((mntS D).1.geo.gs - nI x 0).toNat,
    ⟨0, _, undef, by omega, rfl, X10, fun j hj => by omega⟩, ?_⟩
  rintro x w11 ⟨k, N, y, hk2, rfl, X11, hh⟩
  refine ⟨_, rfl, cond_of (fun hl => ?_) (fun hl => ?_)⟩
  · have hl : (k : Int) < (mntS D).1.geo.gs := of_decide_eq_true hl
    refine vHead_c X11 hsz fun w12 X12 => ⟨_, _, rfl, ?_⟩
    obtain ⟨w13, s1, s2, s3, s4⟩ := new_u (P := Tryz.prog) (w := w12) (T := 63) zero_head
    have hwd := headAt_wf D (mntS D).1.geo k
    obtain ⟨w14, t1, t2, t3, t4⟩ := s2.put (T := 63) (vs := hV (headAt D (mntS D).1.geo k).1) agg_head rfl (hV_len hwd) (one_hV _)
    have m14 : Mod No w12 w14 := s3.own t3 (Nat.le_refl _)
    refine ⟨_, w13, s1, w14, t1, ?_⟩
    refine Share.cut (fun z w15 => z = [.bool (!headOk D (mntS D).1.geo k)] ∧ w15 = w14) ?_ ?_
    · rw [bneI]
      refine cond_of (fun hp => ⟨?_, rfl⟩) (fun hp => ⟨_, t2.at.fld (v := .int .i64 (headAt D (mntS D).1.geo k).1.no) sc_int rfl, ?_, rfl⟩)
      · have hp := of_decide_eq_true hp
        have : headOk D (mntS D).1.geo k = false := by unfold headOk; rw [decide_eq_false fun e => hp e.1]
        rw [this]; rfl
      · have hp := Classical.not_not.1 (of_decide_eq_false hp)
        rw [bneI]
        congr 2
        unfold headOk
        by_cases e : (headAt D (mntS D).1.geo k).1.no = k
        · rw [decide_eq_false (fun x => x e), decide_eq_true ⟨hp, e⟩]; rfl
        · rw [decide_eq_true e, decide_eq_false fun x => e x.2]; rfl
    rintro z w15 ⟨rfl, rfl⟩
    refine ⟨_, rfl, cond_of (fun hp => ?_) (fun hp => ?_)⟩
    · refine hno X12 ?_ w15 m14
      unfold mntOk
      rw [Bool.and_eq_false_iff]
      left
      rw [List.all_eq_false]
      exact ⟨k, List.mem_range.2 (by omega), by simpa using hp⟩
    · have hp : headOk D (mntS D).1.geo k = true := by simpa using hp
      rw [wrap64 (x := (k : Int) + 1) (by omega) (by omega)]
      exact ⟨⟨k + 1, _, _, by omega, rfl, X12.nos m14, fun j hj => by
        by_cases e : j = k
        · rw [e]; exact hp
        · exact hh j (by omega)⟩, by simp [nI, nth]; omega⟩
  have hl : (k : Int) = (mntS D).1.geo.gs := by have := of_decide_eq_false hl; omega
  refine vInode_c (by omega) X11 hsz fun w16 X16 => ⟨_, _, rfl, ?_⟩
  obtain ⟨w17, s1, s2, s3, s4⟩ := new_u (P := Tryz.prog) (w := w16) (T := 55) zero_ino
  have hwd := slotAt_wf D (mntS D).1.geo 1
  obtain ⟨w18, t1, t2, t3, t4⟩ := s2.put (T := 55) (vs := nV (slotAt D (mntS D).1.geo 1).1) agg_ino rfl (nV_len hwd) (one_nV _)
  have m18 : Mod No w16 w18 := s3.own t3 (Nat.le_refl _)
  refine ⟨_, w17, s1, w18, t1, ?_⟩
  refine Share.cut (fun z w19 => z = [.bool (!rootOk D (mntS D).1.geo)] ∧ w19 = w18) ?_ ?_
  · rw [bneI]
    refine cond_of (fun hp => ⟨?_, rfl⟩) (fun hp => ⟨_, t2.at.fld (v := .int .i64 (slotAt D (mntS D).1.geo 1).1.kind) sc_int rfl, ?_, rfl⟩)
    · have hp := of_decide_eq_true hp
      have : rootOk D (mntS D).1.geo = false := by unfold rootOk; rw [decide_eq_false fun e => hp e.1]
      rw [this]; rfl
    · have hp := Classical.not_not.1 (of_decide_eq_false hp)
      rw [bneI]
      congr 2
      unfold rootOk
      by_cases e : (slotAt D (mntS D).1.geo 1).1.kind = 2
      · rw [decide_eq_false (fun x => x e), decide_eq_true ⟨hp, e⟩]; rfl
      · rw [decide_eq_true e, decide_eq_false fun x => e x.2]; rfl
  rintro z w19 ⟨rfl, rfl⟩
  refine ⟨_, rfl, cond_of (fun hp => ?_) (fun hp => ?_)⟩
  · refine hno X16 ?_ w19 m18
    unfold mntOk
    rw [Bool.and_eq_false_iff]
    right
    simpa using hp
  have hp : rootOk D (mntS D).1.geo = true := by simpa using hp
  have hok : mntOk D (mntS D).1.geo = true := by
    unfold mntOk
    rw [hp, Bool.and_true, List.all_eq_true]
    intro j hj
    exact hh j (by have := List.mem_range.1 hj; omega)
  have eM := mnt_yes he hok
  have X19 := X16.nos m18
  refine ⟨_, (hq X19).at.fldA agg_geo (by show 4 ≤ 4; omega) rfl, geoSlots_c fun w20 m20 => ⟨_, rfl, ?_⟩⟩
  have hsl := gSlots_b (g := (mntS D).1.geo)
  refine ⟨fun x w21 => ∃ n N : Nat, (n : Int) ≤ gSlots (mntS D).1.geo ∧ x = [.int .i64 n] ∧ Vg w9 (Gro R w w2) N w21 w9.heap.size d (mntS D).1 D (nextTo D (mntS D).1.geo n), fun x _ => (gSlots (mntS D).1.geo - nI x 0).toNat,
    ⟨0, _, by omega, rfl, X19.nos m20⟩, ?_⟩
  rintro x w21 ⟨n, N, hn, rfl, X21⟩
  refine ⟨_, rfl, cond_of (fun hl2 => ?_) (fun hl2 => ?_)⟩
  · have hl2 : (n : Int) < gSlots (mntS D).1.geo := of_decide_eq_true hl2
    refine vInode_c (by omega) X21 hsz fun w22 X22 => ⟨_, _, rfl, ?_⟩
    obtain ⟨w23, s1, s2, s3, s4⟩ := new_u (P := Tryz.prog) (w := w22) (T := 55) zero_ino
    have hwd := slotAt_wf D (mntS D).1.geo n
    obtain ⟨w24, t1, t2, t3, t4⟩ := s2.put (T := 55) (vs := nV (slotAt D (mntS D).1.geo n).1) agg_ino rfl (nV_len hwd) (one_nV _)
    have m24 : Mod No w22 w24 := s3.own t3 (Nat.le_refl _)
    have X24 := (X22.nos m24).nos (Mod.refl No w24).drew
    obtain ⟨w25, u1, u2⟩ := X24.set (if (slotAt D (mntS D).1.geo n).1.id > nextTo D (mntS D).1.geo n then (slotAt D (mntS D).1.geo n).1.id else nextTo D (mntS D).1.geo n)
    refine ⟨_, w23, s1, w24, t1, _, rfl, _, X24.next, _, t2.drew.at.fld (v := .int .i64 (slotAt D (mntS D).1.geo n).1.id) sc_i64 rfl, _, rfl, w25, u1, ?_⟩
    rw [wrap64 (x := (n : Int) + 1) (by omega) (by omega)]
    exact ⟨⟨n + 1, _, by omega, rfl, u2⟩, by simp [nI, nth]; omega⟩
  have hl2 : (n : Int) = gSlots (mntS D).1.geo := by have := of_decide_eq_false hl2; omega
  have hnb := nextTo_b D (mntS D).1.geo n
  have hnn := nextTo_nn D (mntS D).1.geo n
  obtain ⟨w26, u1, u2⟩ := X21.set (nextTo D (mntS D).1.geo n + 1)
  refine ⟨_, rfl, _, X21.next, _, rfl, w26, ?_, ?_⟩
  · rw [wrap64 (by omega) (by omega)]; exact u1
  have := hk (by rw [eM]) w26 N w9.heap.size
  rw [eM] at this
  refine this ?_
  show Vg w R N w26 w9.heap.size d (mntS D).1 D (nextTo D (mntS D).1.geo (gSlots (mntS D).1.geo).toNat + 1)
  rw [← hl2, Int.toNat_natCast]
  exact u2.comp back bm
end
end Go.Proofs.YtoajelhfiganaaaGreat
end
