/- Parts of the proof, in order: what the statement leans on. -/
import Derived.Test.YtoajelhfiganaaaGreatBf
section
open Go Go.Den Go.Proofs
namespace Go.Proofs.YtoajelhfiganaaaGreat
section
variable {w0 w w' : World} {R : Nat → Prop} {rl : Nat → Nat} {rp r vb vc bc lc : Nat} {hs : List (Nat × Nat)} {ba la : Option Addr} {H : List (Option Addr × Nat)} {S : Rs} {K : Value → World → Prop}
theorem rRead11C_c (h : RIn w0 R rl w rp r vb vc hs ba bc la lc H S) {n : Int} (hk0 : ¬ (0 ≤ n ∧ n < S.base.length) → K (.tuple #[.slice none 0 0, .int .i64 3]) w)
    (hk : ∀ b : Nat, n = b → b < S.base.length → ∀ w' a c, Mod No w w' → Row w' a (u8L (rdR S b fun x => decide (x.b = b))) → 256 ≤ c → K (.tuple #[.slice a 256 c, .int .i64 0]) w') :
    Cal Tryz.prog F_leveeref11_Store_Read #[.pointer (some ⟨rp, 0, none⟩), .int .i64 n] w K := by
  have hlen := h.wf.llen
  have hlast := h.wf.last
  apply C_leveeref11_Store_Read
  unfold D_leveeref11_Store_Read
  refine rthere_c h ⟨_, rfl, cond_of (fun hb => ?_) (fun hb => ?_)⟩
  · exact hk0 (by simp only [Bool.not_eq_true', decide_eq_false_iff_not] at hb; exact hb)
  have hb : 0 ≤ n ∧ n < S.base.length := by simp only [Bool.not_eq_false', decide_eq_true_eq] at hb; exact hb
  obtain ⟨b, rfl⟩ := Int.eq_ofNat_of_zero_le hb.1
  have hbl : b < S.base.length := by omega
  obtain ⟨g, hg, hix, hld, hl256⟩ := h.bas hbl
  obtain ⟨cc, w2, c1, c2, c3, c4⟩ := bytes_run (P := Tryz.prog) (w := w) (S := 9) (T := 24) (xs := S.base[b]) (by kernel_rfl)
  rw [hl256] at c1 c4
  refine ⟨_, rfl, _, _, _, h.lb, _, hix, _, hld, _, _, _, w2, c1, ?_⟩
  refine ⟨fun x w3 => ∃ (i : Nat) (a : Option Addr) (c : Nat), x = [.slice a 256 c, .int .i64 i] ∧ i ≤ S.l.length ∧ 256 ≤ c ∧ Row w3 a (u8L (withL ((S.base[b]?).getD []) ((S.l.take i).filter fun x => decide (x.b = b)))) ∧ Mod No w w3 ∧ (∀ q, a = some q → w.heap.size ≤ q.block), fun x _ => (S.l.length - nI x 1).toNat,
    ⟨0, _, cc, rfl, by omega, c4, by rw [List.getElem?_eq_getElem hbl]; exact .inr ⟨_, _, rfl, c2.at⟩, c3, fun q hq => by cases hq; exact Nat.le_refl _⟩, ?_⟩
  rintro x w3 ⟨i, a, c, rfl, hi, hc, hr, hm, hfr⟩
  have h3 := h.nos hm
  have hz3 := hm.size
  refine ⟨_, rfl, _, rfl, _, _, _, h3.ll, cond_of (fun hb => ?_) (fun hb => ?_)⟩
  · have hi : i < S.l.length := by have := of_decide_eq_true hb; omega
    obtain ⟨g, p, hg, hp, hix, hld, hagg, _⟩ := h3.at (List.getElem?_eq_getElem hi)
    have hd := h.wf.dat _ (List.getElem_mem hi)
    refine ⟨_, rfl, _, _, _, h3.ll, _, hix, _, hld 1 _ _ (by kernel_rfl) rfl, ?_⟩
    rw [wrap64 (x := (i : Int) + 1) (by omega) (by omega)]
    have ht := rdR_take (S := S) (b := b) (f := fun x => decide (x.b = b)) hi
    refine Share.dup (cond_of (fun hb => ⟨_, _, _, rfl, _, rfl, _, _, _, h3.ll, _, hix, _, hagg, upon_c (rdR_len h.wf hbl) hd.2 hc hr fun w4 a4 c4 m4 o4 => ⟨_, _, _, rfl, ?_⟩⟩) (fun hb => ?_))
    · have hb : S.l[i].b = b := by
        have : (S.l[i].b : Int) = b := by simpa using hb
        omega
      rw [if_pos (decide_eq_true hb)] at ht
      refine ⟨⟨i + 1, a4, c4, rfl, by omega, o4.cap.1, by rw [ht]; exact o4.rowU.row, hm.no m4, fun q hq => by have := (o4.base hq).1; omega⟩, by simp [nI, nth]; omega⟩
    · have hb : ¬ S.l[i].b = b := fun e => by rw [e] at hb; simp at hb
      rw [if_neg (by simpa using hb)] at ht
      exact ⟨⟨i + 1, a, c, rfl, by omega, hc, by rw [ht]; exact hr, hm, hfr⟩, by simp [nI, nth]; omega⟩
  · have hi : i = S.l.length := by have := of_decide_eq_false hb; omega
    subst hi
    refine ⟨_, _, _, rfl, hk b rfl hbl w3 a c hm ?_ hc⟩
    unfold rdR
    rw [List.take_length] at hr
    exact hr
end
def rvV (s : Sp) (rp wk : Nat) (nx : Int) : List Value := [.pointer (some ⟨rp, 0, none⟩), .pointer (some ⟨wk, 0, none⟩), .int .i64 s.gen, .int .i64 s.geo.gr, .int .i64 s.geo.no, .int .i64 s.geo.gs, .int .i64 nx]
theorem sc_rst : scal Tryz.prog 47 = true := by kernel_rfl
theorem build_rwork : Al (Instr.build 120 #[]) (.agg ⟨[.slice none 0 0]⟩) := fun w => by kernel_rfl
theorem build_rvol (s : Sp) (rp wk : Nat) : Al (Instr.build 50 #[(0, .pointer (some ⟨rp, 0, none⟩)), (1, .pointer (some ⟨wk, 0, none⟩)), (2, .int .i64 s.gen), (3, .agg ⟨gV s.geo⟩)]) (.agg ⟨rvV s rp wk 0⟩) := fun w => by kernel_rfl
def Rg (wb w : World) (v : Nat) (s : Sp) (D : St) (nx : Int) : Prop :=
  ∃ w0 R rp wk r, Rx w0 R w rp r (newRs D) ∧ AtU w v 0 (rvV s rp wk nx) ∧ (¬ R v ∧ w0.heap.size ≤ v ∧ wb.heap.size ≤ v) ∧ Mod No wb w
theorem headAt_bad {D : St} {g : Gm} {k : Int} (h : (headAt D g k).2 ≠ 0) : (headAt D g k).1 = hZ := by
  unfold headAt at *
  split
  · rfl
  rename_i h1
  rw [if_neg h1] at h
  unfold hGet at *
  split
  · rfl
  rename_i h2
  rw [if_neg h2] at h
  split
  · rfl
  rename_i h3
  rw [if_neg h3] at h
  split
  · rename_i h4
    rw [if_pos h4] at h
    exact absurd rfl h
  · rfl
section
variable {w0 wb w w' : World} {R R0 : Nat → Prop} {v d vb vc : Nat} {hs : List (Nat × Nat)} {s : Sp} {D : St} {nx : Int} {K : Value → World → Prop}
theorem Rg.nos (h : Rg wb w v s D nx) (m : Mod No w w') : Rg wb w' v s D nx := by
  obtain ⟨w0, R, rp, wk, r, h1, h2, h3, h4⟩ := h
  exact ⟨w0, R, rp, wk, r, h1.nos m, h2.keep m id, h3, h4.no m⟩
theorem Rg.mod (h : Rg wb w v s D nx) : Mod No wb w := by obtain ⟨_, _, _, _, _, _, _, _, h⟩ := h; exact h
theorem Rg.at (h : Rg wb w v s D nx) : ∃ rp wk, AtU w v 0 (rvV s rp wk nx) := by obtain ⟨_, _, rp, wk, _, _, h, _⟩ := h; exact ⟨rp, wk, h⟩
theorem Rg.wf (h : Rg wb w v s D nx) : WF D := by obtain ⟨_, _, _, _, _, h, _⟩ := h; exact h.wf.2.1
theorem Rg.geo (h : Rg wb w v s D nx) : Ru (Instr.loadAt 23 (.pointer (some (Addr.add ⟨v, 0, none⟩ 3)))) w (.agg ⟨gV s.geo⟩) w := by
  obtain ⟨rp, wk, h⟩ := h.at
  exact h.at.fldA agg_geo (by show 6 ≤ 7; omega) rfl
theorem Rg.gs (h : Rg wb w v s D nx) : Ru (Instr.loadAt 3 (.pointer (some (Addr.add (Addr.add ⟨v, 0, none⟩ 3) 2)))) w (.int .i64 s.geo.gs) w := by
  obtain ⟨rp, wk, h⟩ := h.at
  exact h.at.fld2 sc_int rfl
theorem Rg.gen (h : Rg wb w v s D nx) : Ru (Instr.loadAt 2 (.pointer (some (Addr.add ⟨v, 0, none⟩ 2)))) w (.int .i64 s.gen) w := by
  obtain ⟨rp, wk, h⟩ := h.at
  exact h.at.fld sc_i64 rfl
theorem Rg.next (h : Rg wb w v s D nx) : Ru (Instr.loadAt 2 (.pointer (some (Addr.add ⟨v, 0, none⟩ 6)))) w (.int .i64 nx) w := by
  obtain ⟨rp, wk, h⟩ := h.at
  exact h.at.fld sc_i64 rfl
theorem Rg.set (h : Rg wb w v s D nx) (n : Int) : ∃ w', RuU (Instr.storeAt 2 (.pointer (some (Addr.add ⟨v, 0, none⟩ 6))) (.int .i64 n)) w w' ∧ Rg wb w' v s D n ∧ Mod (fun x => x = v) w w' := by
  obtain ⟨w0, R, rp, wk, r, h1, h2, h3, h4⟩ := h
  obtain ⟨w', s1, s2, s3, s4⟩ := h2.putF (P := Tryz.prog) (T := 2) (j := 6) (v := .int .i64 n) sc_i64 (by show 6 < 7; omega) rfl
  refine ⟨w', s1, ⟨w0, R, rp, wk, r, h1.keep s3 (fun x hx e => ?_) (fun x hx e => ?_), s2, h3, h4.own s3 h3.2.2⟩, s3⟩
  · have e : x = v := e
    rw [e] at hx; exact h3.1 hx
  · have e : x = v := e
    have := h3.2.1; omega
theorem Rg.rd (h : Rg wb w v s D nx) {n : Int} (h0 : 0 ≤ n) (h1 : n < D.vs.length)
    (hk : ∀ w' a cc, Mod No w w' → Row w' a (u8L (rdB D n)) → (rdB D n).length = 256 → 256 ≤ cc → K (.tuple #[.slice a 256 cc, .int .i64 0]) w') :
    ∃ p : Option Addr, Ru (Instr.loadAt 47 (.pointer (some (Addr.add ⟨v, 0, none⟩ 0)))) w (.pointer p) w ∧ Cal Tryz.prog F_leveeref11_Store_Read #[.pointer p, .int .i64 n] w K := by
  have hwf := h.wf
  obtain ⟨w0, R, rp, wk, r, a1, a2, a3, a4⟩ := h
  refine ⟨_, a2.at.fld sc_rst rfl, ?_⟩
  obtain ⟨b, rfl⟩ := Int.eq_ofNat_of_zero_le h0
  have hb : b < D.vs.length := by omega
  obtain ⟨rl, vb, vc, hs, ba, bc, la, lc, H, a1⟩ := a1
  have hbl : (newRs D).base.length = D.vs.length := by simp [newRs]
  refine rRead11C_c a1 (fun hn => absurd ⟨by omega, by rw [hbl]; omega⟩ hn) fun b' hb' hlt w' a cc m hrow hcc => ?_
  have : b' = b := by omega
  subst this
  have e1 : rdB D b' = atD D b' := (rd_at D hb).2
  have e2 : rdR (newRs D) b' (fun x => decide (x.b = b')) = atD D b' := by
    unfold rdR newRs
    simp [withL, hb]
  refine hk w' a cc m ?_ ?_ hcc
  · rw [e1, ← e2]; exact hrow
  · rw [e1]; unfold atD; rw [ver_at hb]; exact hwf.lastLen (List.getElem?_eq_getElem hb)
theorem rHead_c {k : Int} (h : Rg wb w v s D nx) (hsz : gSize s.geo ≤ D.vs.length)
    (hk : ∀ w' x1 x2, x1.oneCell' = true → x2.oneCell' = true → Mod No w w' → K (.tuple #[.agg ⟨[.int .i64 (headAt D s.geo k).1.no, x1, x2]⟩, .int .i64 (headAt D s.geo k).2]) w') : Cal Tryz.prog F_leveeref13_Vol_Head #[.pointer (some ⟨v, 0, none⟩), .int .i64 k] w K := by
  apply C_leveeref13_Vol_Head
  unfold D_leveeref13_Vol_Head
  obtain ⟨w1, b1, b2, b3, b4⟩ := new_u (P := Tryz.prog) (w := w) (T := 122) zero_rhead
  have fin : ∀ (w' : World) (x1 x2 : Value) (n e : Int), x1.oneCell' = true → x2.oneCell' = true → Mod No w1 w' → n = (headAt D s.geo k).1.no → e = (headAt D s.geo k).2 → ∃ w3 : World, RuU (Instr.storeAt 122 (.pointer (some ⟨w.heap.size, 0, none⟩)) (.agg ⟨[.int .i64 n, x1, x2]⟩)) w' w3 ∧ ∃ gR2 : Array Value, Ru (Instr.loadAt 122 (.pointer (some ⟨w.heap.size, 0, none⟩))) w3 (.agg gR2) w3 ∧ K (.tuple #[.agg gR2, .int .i64 e]) w3 := fun w' x1 x2 n e o1 o2 m hn he => by
    obtain ⟨w3, c1, c2, c3, c4⟩ := (b2.keep m id).put (T := 122) (vs := [.int .i64 n, x1, x2]) agg_rhead rfl rfl (by intro v hv; simp at hv; rcases hv with rfl | rfl | rfl <;> first | rfl | assumption)
    refine ⟨w3, c1, _, c2.at.all agg_rhead rfl, ?_⟩
    have := hk w3 x1 x2 o1 o2 ((b3.no m).own c3 (Nat.le_refl _))
    rw [← hn, ← he] at this
    exact this
  have h1 := h.nos b3
  refine ⟨_, w1, b1, _, rfl, _, h1.geo, rgHead_c fun w2 m2 => ⟨_, _, rfl, ?_⟩⟩
  have h2 := h1.nos m2
  rw [bneI]
  refine cond_of (fun he => ⟨_, build_rhead0, ?_⟩) (fun he => ?_)
  · have he := of_decide_eq_true he
    have e : headAt D s.geo k = (hZ, (gHead s.geo k).2) := by unfold headAt; rw [if_pos he]
    exact fin w2 _ _ 0 _ rfl rfl m2 (by rw [e]; rfl) (by rw [e])
  have he := Classical.not_not.1 (of_decide_eq_false he)
  have hin := gHead_in (g := s.geo) (k := k) (b := (gHead s.geo k).1) (by rw [← he])
  have eA : headAt D s.geo k = hGet s.geo (rdB D (gHead s.geo k).1) := by unfold headAt; rw [if_neg (by rw [he]; decide)]
  refine ⟨_, rfl, ?_⟩
  refine h2.rd hin.1 (by omega) fun w4 a cc m4 hrow hl hcc => ⟨_, _, _, _, rfl, _, rfl, _, (h2.nos m4).geo, ?_⟩
  have M4 := m2.no m4
  refine rhGet_c hl hcc hrow (by omega) (fun h0 w5 m5 => ⟨_, _, rfl, ?_⟩) (fun h0 w5 b e b' e' m5 r1 r2 => ⟨_, _, rfl, ?_⟩)
  · refine fin w5 _ _ 0 _ rfl rfl (M4.no m5) ?_ (by rw [eA])
    rw [headAt_bad (by rw [eA]; exact h0)]; rfl
  · exact fin w5 _ _ _ 0 rfl rfl (M4.no m5) (by rw [eA]) (by rw [eA, h0])
theorem rInode_c {k : Int} (h63 : k ≤ 9223372036854775807) (h : Rg wb w v s D nx) (hsz : gSize s.geo ≤ D.vs.length)
    (hk : ∀ w', Mod No w w' → K (.tuple #[.agg ⟨nV (slotAt D s.geo k).1⟩, .int .i64 (slotAt D s.geo k).2]) w') : Cal Tryz.prog F_leveeref13_Vol_Inode #[.pointer (some ⟨v, 0, none⟩), .int .i64 k] w K := by
  apply C_leveeref13_Vol_Inode
  unfold D_leveeref13_Vol_Inode
  obtain ⟨w1, b1, b2, b3, b4⟩ := new_u (P := Tryz.prog) (w := w) (T := 55) zero_ino
  have fin : ∀ (w' : World) (i : Nd) (e : Int), Mod No w1 w' → (i, e) = slotAt D s.geo k → ∃ w3 : World, RuU (Instr.storeAt 55 (.pointer (some ⟨w.heap.size, 0, none⟩)) (.agg ⟨nV i⟩)) w' w3 ∧ ∃ gR2 : Array Value, Ru (Instr.loadAt 55 (.pointer (some ⟨w.heap.size, 0, none⟩))) w3 (.agg gR2) w3 ∧ K (.tuple #[.agg gR2, .int .i64 e]) w3 := fun w' i e m he => by
    have hw : nWf i := by have := slotAt_wf D s.geo k; rw [← he] at this; exact this
    obtain ⟨w3, c1, c2, c3, c4⟩ := (b2.keep m id).put (T := 55) (vs := nV i) agg_ino rfl (nV_len hw) (one_nV _)
    refine ⟨w3, c1, _, c2.at.all agg_ino (nV_len hw), ?_⟩
    have := hk w3 ((b3.no m).own c3 (Nat.le_refl _))
    rw [← he] at this
    exact this
  have h1 := h.nos b3
  refine ⟨_, w1, b1, _, rfl, _, h1.geo, rgPlace_c h63 fun w2 m2 => ⟨_, _, _, rfl, ?_⟩⟩
  have h2 := h1.nos m2
  rw [bneI]
  refine cond_of (fun he => ⟨_, build_ino0, ?_⟩) (fun he => ?_)
  · have he := of_decide_eq_true he
    exact fin w2 nZ _ m2 (by unfold slotAt; rw [if_pos he])
  have he := Classical.not_not.1 (of_decide_eq_false he)
  have hin := gPlace_b (g := s.geo) (s := k) (b := (gPlace s.geo k).1) (p := (gPlace s.geo k).2.1) (by rw [← he])
  refine ⟨_, rfl, ?_⟩
  refine h2.rd (by omega) (by omega) fun w4 a cc m4 hrow hl hcc => ⟨_, _, _, _, rfl, ?_⟩
  refine rinoRead_c hl hcc hrow (by omega) fun w5 m5 => ⟨_, _, rfl, ?_⟩
  exact fin w5 _ _ ((m2.no m4).no m5) (by unfold slotAt; rw [if_neg (by rw [he]; decide)])
theorem refReadC_c (h : RefIn w R d vb vc hs D) (hsm : Small D) {n : Int} (hk : ∀ w' a c, Mod No w w' → Fresh w w' a (rdB D n) → (rdB D n).length ≤ c → K (.tuple #[.slice a (rdB D n).length c, .int .i64 (errOf D n)]) w') : Cal Tryz.prog F_leveeref02_Disk_Read #[.pointer (some ⟨d, 0, none⟩), .int .i64 n] w K := by
  apply C_leveeref02_Disk_Read
  unfold D_leveeref02_Disk_Read
  refine there_c h ⟨_, rfl, ?_⟩
  rcases err_cases (D := D) n with ⟨he, _⟩ | ⟨he, i, v, rfl, hv, hver⟩
  · have hb : rdB D n = [] := by unfold rdB; rw [if_neg (by omega)]
    refine tt (by rw [he]; rfl) ?_
    have := hk w none 0 (Mod.refl _ _) (.inl ⟨rfl, hb⟩) (by rw [hb]; exact Nat.le_refl _)
    rw [hb, he] at this; exact this
  · have hb : rdB D i = lastV v := by unfold rdB; rw [if_pos he, hver]
    have hvne := (h.wf.ver v (List.mem_of_getElem? hv)).1
    have hvp := List.length_pos_iff.2 hvne
    have hvl := hsm v (List.mem_of_getElem? hv)
    obtain ⟨q, c, hl, hc, hat, _⟩ := rrow h hv
    refine ff (by rw [he]; rfl) ⟨_, rfl, _, _, _, rv h, _, idx_blk (List.getElem?_eq_some_iff.1 hv).1, _, _, _, hl, ?_⟩
    rw [wrap64 (x := (v.length : Int) - 1) (by omega) (by omega), show (v.length : Int) - 1 = ((v.length - 1 : Nat) : Int) by omega]
    refine ⟨_, idx_str (by omega), _, strV_get hat (last_get hvne), ?_⟩
    obtain ⟨c2, w2, h2, at2, m2, hc2⟩ := bytes_run (P := Tryz.prog) (w := w) (S := 9) (T := 24) (xs := lastV v) (by kernel_rfl)
    refine ⟨_, _, _, w2, h2, ?_⟩
    have := hk w2 (some ⟨w.heap.size, 0, none⟩) c2 m2 (.inr ⟨_, rfl, Nat.le_refl _, by rw [hb]; exact at2⟩) (by rw [hb]; exact hc2)
    rw [hb, he] at this; exact this
end
end Go.Proofs.YtoajelhfiganaaaGreat
end
section
open Go Go.Den Go.Proofs
namespace Go.Proofs.YtoajelhfiganaaaGreat
section
variable {w0 wb w w' : World} {R R0 : Nat → Prop} {v d vb vc : Nat} {hs : List (Nat × Nat)} {s : Sp} {D : St} {nx : Int} {K : Value → World → Prop}
theorem gSlots_4 {g : Gm} (h : gOk g = true) : 4 ≤ gSlots g := by
  obtain ⟨g1, g2, g3, g4, g5, g6, g7, g8, g9⟩ := gOk_iff.1 h
  unfold gSlots
  rw [if_pos h]
  have := Int.mul_le_mul (show (1 : Int) ≤ g.gs by omega) (show (4 : Int) ≤ g.no by omega) (by decide) (by omega)
  omega
set_option maxRecDepth 8000 in
theorem rMount_c (h : RefIn w R d vb vc hs D) (hsm : Small D) (hlo : ∀ x, R x → w0.heap.size ≤ x ∧ x < w.heap.size) (hm0 : Mod No w0 w)
    (hk0 : (mnt D).2 ≠ 0 → ∀ w', Mod No w w' → K (.tuple #[.pointer none, .int .i64 (mnt D).2]) w')
    (hk : (mnt D).2 = 0 → ∀ w' v, Rg w w' v (mnt D).1 D (nextTo D (mnt D).1.geo (gSlots (mnt D).1.geo).toNat + 1) → K (.tuple #[.pointer (some ⟨v, 0, none⟩), .int .i64 0]) w') :
    Cal Tryz.prog F_leveeref13_Mount #[.pointer (some ⟨d, 0, none⟩)] w K := by
  have hwf := h.wf
  have hhi := hwf.hi
  apply C_leveeref13_Mount
  unfold D_leveeref13_Mount
  refine refReadC_c h hsm (n := 0) fun w1 a1 c1 m1 f1 hc1 => ⟨_, _, _, _, rfl, ?_⟩
  refine refReadC_c (h.nos m1) hsm (n := 1) fun w2 a2 c2 m2 f2 hc2 => ⟨_, _, _, _, rfl, _, rfl, ?_⟩
  have M2 := m1.no m2
  refine ⟨_, _, _, rv (h.nos M2), ?_⟩
  have l1 := rdB_le hwf 0
  have l2 := rdB_le hwf 1
  refine rsChoose_c (xs := rdB D 0) (ys := rdB D 1) rfl hc1 (f1.nos m2).row (by show (rdB D 0).length ≤ _; omega) rfl hc2 f2.row (by show (rdB D 1).length ≤ _; omega) fun w3 m3 => ⟨_, _, _, rfl, ?_⟩
  have M3 := M2.no m3
  show ∃ q8 : Addr, _
  obtain ⟨w4, b1, b2, b3, b4⟩ := new_u (P := Tryz.prog) (w := w3) (T := 100) zero_rsup
  obtain ⟨w5, e1, e2, e3, e4⟩ := b2.put (T := 100) (vs := sV (mntS D).1) agg_rsup rfl rfl (one_sV _)
  have m5 : Mod No w3 w5 := b3.own e3 (Nat.le_refl _)
  have M5 := M3.no m5
  refine ⟨_, w4, b1, w5, e1, ?_⟩
  rw [bneI]
  refine cond_of (fun he => ?_) (fun he => ?_)
  · have he : (mntS D).2.2 ≠ 0 := of_decide_eq_true he
    have e : mnt D = (sZ, (mntS D).2.2) := by unfold mnt; rw [if_pos he]
    have := hk0 (by rw [e]; exact he) w5 M5
    rw [e] at this
    exact this
  have he : (mntS D).2.2 = 0 := Classical.not_not.1 (of_decide_eq_false he)
  obtain ⟨hg, hsz, hgen⟩ := mnt_ok he
  obtain ⟨g1, g2, g3, g4, g5, g6, g7, g8, g9⟩ := gOk_iff.1 hg
  have hno : ∀ {w' : World}, Mod No w w' → mntOk D (mntS D).1.geo = false → K (.tuple #[.pointer none, .int .i64 8]) w' := fun {w'} m hf => by
    have e := mnt_no he hf
    have := hk0 (by rw [e]; decide) w' m
    rw [e] at this
    exact this
  have tail : ∀ (w7 : World) (rp wq : Nat) (R' : Nat → Prop), Rx w0 R' w7 rp d (newRs D) → Mod No w w7 →
      ∃ g51 : Array Value, Al (Instr.build 50 #[(0, .pointer (some ⟨rp, 0, none⟩)), (1, .pointer (some ⟨wq, 0, none⟩)), (2, .int .i64 (mntS D).1.gen), (3, .agg ⟨gV (mntS D).1.geo⟩)]) (.agg g51) ∧ ∃ q52 : Addr, ∃ w8 : World, Ru (Instr.box 50 (.agg g51)) w7 (.pointer (some q52)) w8 ∧ LoopC (fun k x w9 =>
       ∃ n12 : Int, nth x 0 = .int .i64 n12 ∧ ∃ q55 : Addr, (.pointer (some q52) : Value) = .pointer (some q55) ∧ ∃ n58 : Int, Ru (Instr.loadAt 3 (.pointer (some (Addr.add (Addr.add q55 3) 2)))) w9 (.int .i64 n58) w9 ∧ (bif decide (n12 < n58) then
       Cal Tryz.prog F_leveeref13_Vol_Head #[.pointer (some q52), .int .i64 n12] w9 fun r65 w10 => ∃ g65a : Array Value, ∃ n65b : Int, r65 = .tuple #[.agg g65a, .int .i64 n65b] ∧ ∃ q13 : Addr, ∃ w11 : World, Ru (Instr.alloc 122 true (.tuple #[])) w10 (.pointer (some q13)) w11 ∧ ∃ w12 : World, RuU (Instr.storeAt 122 (.pointer (some q13)) (.agg g65a)) w11 w12 ∧ Share (fun k_2 => (bif n65b != 0 then k_2 [.bool true] w12 else ∃ n72 : Int, Ru (Instr.loadAt 3 (.pointer (some (Addr.add q13 0)))) w12 (.int .i64 n72) w12 ∧ k_2 [.bool (n72 != n12)] w12)) fun x_2 w13 =>
       ∃ b75 : Bool, nth x_2 0 = .bool b75 ∧ (bif b75 then
       K (.tuple #[.pointer none, .int .i64 8]) w13
       else
       k [.int .i64 (IntKind.i64.wrap (n12 + 1)), .bool b75] w13)
       else
       LoopC (fun k_3 x_3 w14 =>
       ∃ n15 : Int, nth x_3 0 = .int .i64 n15 ∧ ∃ q78 : Addr, (.pointer (some q52) : Value) = .pointer (some q78) ∧ ∃ g80 : Array Value, Ru (Instr.loadAt 23 (.pointer (some (Addr.add q78 3)))) w14 (.agg g80) w14 ∧ Cal Tryz.prog F_leveeref03_Slots #[.agg g80] w14 fun r81 w15 => ∃ n81 : Int, r81 = .int .i64 n81 ∧ (bif decide (n15 < n81) then
       Cal Tryz.prog F_leveeref13_Vol_Inode #[.pointer (some q52), .int .i64 n15] w15 fun r88 w16 => ∃ g88a : Array Value, ∃ n88b : Int, r88 = .tuple #[.agg g88a, .int .i64 n88b] ∧ ∃ q16 : Addr, ∃ w17 : World, Ru (Instr.alloc 55 true (.tuple #[])) w16 (.pointer (some q16)) w17 ∧ ∃ w18 : World, RuU (Instr.storeAt 55 (.pointer (some q16)) (.agg g88a)) w17 w18 ∧ Share (fun k_4 => (bif n88b == 0 then ∃ n95 : Int, Ru (Instr.loadAt 2 (.pointer (some (Addr.add q16 3)))) (drew w18) (.int .i64 n95) (drew w18) ∧ ∃ q97 : Addr, (.pointer (some q52) : Value) = .pointer (some q97) ∧ ∃ n99 : Int, Ru (Instr.loadAt 2 (.pointer (some (Addr.add q97 6)))) (drew w18) (.int .i64 n99) (drew w18) ∧ k_4 [.bool (decide (n95 > n99))] (drew w18) else k_4 [.bool false] (drew w18))) fun x_4 w19 =>
       ∃ b101 : Bool, nth x_4 0 = .bool b101 ∧ Share (fun k_5 => (bif b101 then
       ∃ n104 : Int, Ru (Instr.loadAt 2 (.pointer (some (Addr.add q16 3)))) w19 (.int .i64 n104) w19 ∧ ∃ q105 : Addr, (.pointer (some q52) : Value) = .pointer (some q105) ∧ ∃ w20 : World, RuU (Instr.storeAt 2 (.pointer (some (Addr.add q105 6))) (.int .i64 n104)) w19 w20 ∧ k_5 [] w20
       else
       k_5 [] w19)) fun x_5 w21 =>
       Share (fun k_6 => (bif n15 == 1 then (bif n88b != 0 then k_6 [.bool true] w21 else ∃ n114 : Int, Ru (Instr.loadAt 3 (.pointer (some (Addr.add q16 0)))) w21 (.int .i64 n114) w21 ∧ k_6 [.bool (n114 != 2)] w21) else k_6 [.bool false] w21)) fun x_6 w22 =>
       ∃ b117 : Bool, nth x_6 0 = .bool b117 ∧ (bif b117 then
       K (.tuple #[.pointer none, .int .i64 8]) w22
       else
       k_3 [.int .i64 (IntKind.i64.wrap (n15 + 1)), .bool b101, .bool b117] w22)
       else
       ∃ q119 : Addr, (.pointer (some q52) : Value) = .pointer (some q119) ∧ ∃ n121 : Int, Ru (Instr.loadAt 2 (.pointer (some (Addr.add q119 6)))) w15 (.int .i64 n121) w15 ∧ ∃ q123 : Addr, (.pointer (some q52) : Value) = .pointer (some q123) ∧ ∃ w23 : World, RuU (Instr.storeAt 2 (.pointer (some (Addr.add q123 6))) (.int .i64 (IntKind.i64.wrap (n121 + 1)))) w15 w23 ∧ K (.tuple #[.pointer (some q52), .int .i64 0]) w23)) [.int .i64 0, undef, undef] w9)) [.int .i64 0, undef] w8 := by
    intro w7 rp wq R' hx M7
    have hxw := hx.wf
    obtain ⟨w8, v1, v2, v3, v4⟩ := box_u (P := Tryz.prog) (w := w7) (T := 50) (cs := rvV (mntS D).1 rp wq 0)
    have hz0 := hm0.size
    have hz7 := M7.size
    have X8 : Rg w w8 w7.heap.size (mntS D).1 D 0 := ⟨w0, R', rp, wq, d, hx.nos v3, v2, ⟨fun e => by have := hxw.2.2.2 _ e; omega, by omega, hz7⟩, M7.no v3⟩
    refine ⟨_, build_rvol _ _ _, _, w8, v1, ?_⟩
    refine ⟨fun x w11 => ∃ (k : Nat) (y : Value), (k : Int) ≤ (mntS D).1.geo.gs ∧ x = [.int .i64 k, y] ∧ Rg w w11 w7.heap.size (mntS D).1 D 0 ∧ ∀ j, j < k → headOk D (mntS D).1.geo j = true, fun x _ => ((mntS D).1.geo.gs - nI x 0).toNat,
      ⟨0, undef, by omega, rfl, X8, fun j hj => by omega⟩, ?_⟩
    rintro x w11 ⟨k, y, hk2, rfl, X11, hh⟩
    refine ⟨_, rfl, _, rfl, _, X11.gs, cond_of (fun hl => ?_) (fun hl => ?_)⟩
    · have hl : (k : Int) < (mntS D).1.geo.gs := of_decide_eq_true hl
      refine rHead_c X11 hsz fun w12 x1 x2 o1 o2 m12 => ⟨_, _, rfl, ?_⟩
      have X12 := X11.nos m12
      obtain ⟨w13, s1, s2, s3, s4⟩ := new_u (P := Tryz.prog) (w := w12) (T := 122) zero_rhead
      obtain ⟨w14, t1, t2, t3, t4⟩ := s2.put (T := 122) (vs := [.int .i64 (headAt D (mntS D).1.geo k).1.no, x1, x2]) agg_rhead rfl rfl (by intro v hv; simp at hv; rcases hv with rfl | rfl | rfl <;> first | rfl | assumption)
      have m14 : Mod No w12 w14 := s3.own t3 (Nat.le_refl _)
      refine ⟨_, w13, s1, w14, t1, ?_⟩
      refine Share.cut (fun z w15 => z = [.bool (!headOk D (mntS D).1.geo k)] ∧ w15 = w14) ?_ ?_
      · rw [bneI]
        refine cond_of (fun hp => ⟨?_, rfl⟩) (fun hp => ⟨_, t2.at.fld (v := .int .i64 (headAt D (mntS D).1.geo k).1.no) sc_int rfl, ?_, rfl⟩)
        · have hp := of_decide_eq_true hp
          have : headOk D (mntS D).1.geo k = false := by unfold headOk; rw [decide_eq_false fun e => hp e.1]
          rw [this]; rfl
        · have hp := Classical.not_not.1 (of_decide_eq_false hp)
          rw [bneI]
          congr 2
          unfold headOk
          by_cases e : (headAt D (mntS D).1.geo k).1.no = k
          · rw [decide_eq_false (fun x => x e), decide_eq_true ⟨hp, e⟩]; rfl
          · rw [decide_eq_true e, decide_eq_false fun x => e x.2]; rfl
      rintro z w15 ⟨rfl, rfl⟩
      refine ⟨_, rfl, cond_of (fun hp => ?_) (fun hp => ?_)⟩
      · refine hno (X12.nos m14).mod ?_
        unfold mntOk
        rw [Bool.and_eq_false_iff]
        left
        rw [List.all_eq_false]
        exact ⟨k, List.mem_range.2 (by omega), by simpa using hp⟩
      · have hp : headOk D (mntS D).1.geo k = true := by simpa using hp
        rw [wrap64 (x := (k : Int) + 1) (by omega) (by omega)]
        exact ⟨⟨k + 1, _, by omega, rfl, X12.nos m14, fun j hj => by
          by_cases e : j = k
          · rw [e]; exact hp
          · exact hh j (by omega)⟩, by simp [nI, nth]; omega⟩
    have hl : (k : Int) = (mntS D).1.geo.gs := by have := of_decide_eq_false hl; omega
    have hsl := gSlots_b (g := (mntS D).1.geo)
    have hs4 := gSlots_4 hg
    refine ⟨fun x w14 => ∃ (n : Nat) (y1 y2 : Value), (n : Int) ≤ gSlots (mntS D).1.geo ∧ x = [.int .i64 n, y1, y2] ∧ Rg w w14 w7.heap.size (mntS D).1 D (nextTo D (mntS D).1.geo n) ∧ (1 < n → rootOk D (mntS D).1.geo = true), fun x _ => (gSlots (mntS D).1.geo - nI x 0).toNat,
      ⟨0, undef, undef, by omega, rfl, X11, fun e => by omega⟩, ?_⟩
    rintro x w14 ⟨n, y1, y2, hn, rfl, X14, hr⟩
    refine ⟨_, rfl, _, rfl, _, X14.geo, rgSlots_c fun w15 m15 => ⟨_, rfl, ?_⟩⟩
    have X15 := X14.nos m15
    have hnb := nextTo_b D (mntS D).1.geo n
    have hnn := nextTo_nn D (mntS D).1.geo n
    refine cond_of (fun hl2 => ?_) (fun hl2 => ?_)
    · have hl2 : (n : Int) < gSlots (mntS D).1.geo := of_decide_eq_true hl2
      refine rInode_c (by omega) X15 hsz fun w16 m16 => ⟨_, _, rfl, ?_⟩
      have X16 := X15.nos m16
      obtain ⟨w17, s1, s2, s3, s4⟩ := new_u (P := Tryz.prog) (w := w16) (T := 55) zero_ino
      have hwd := slotAt_wf D (mntS D).1.geo n
      obtain ⟨w18, t1, t2, t3, t4⟩ := s2.put (T := 55) (vs := nV (slotAt D (mntS D).1.geo n).1) agg_ino rfl (nV_len hwd) (one_nV _)
      have m18 : Mod No w16 w18 := s3.own t3 (Nat.le_refl _)
      have X18 := (X16.nos m18).nos (Mod.refl No w18).drew
      refine ⟨_, w17, s1, w18, t1, ?_⟩
      have hid : (decide ((slotAt D (mntS D).1.geo n).1.id > nextTo D (mntS D).1.geo n) = true → (slotAt D (mntS D).1.geo n).2 = 0) := fun e => by
        have e := of_decide_eq_true e
        refine Classical.not_not.1 fun hb => ?_
        rw [slotAt_bad hb] at e
        have e : (0 : Int) > nextTo D (mntS D).1.geo n := e
        omega
      refine Share.cut (fun z w19 => z = [.bool (decide ((slotAt D (mntS D).1.geo n).1.id > nextTo D (mntS D).1.geo n))] ∧ w19 = Go.Den.drew w18) ?_ ?_
      · rw [beqI]
        refine cond_of (fun hp => ⟨_, t2.drew.at.fld (v := .int .i64 (slotAt D (mntS D).1.geo n).1.id) sc_i64 rfl, _, rfl, _, X18.next, rfl, rfl⟩) (fun hp => ⟨?_, rfl⟩)
        have hp := of_decide_eq_false hp
        cases e : decide ((slotAt D (mntS D).1.geo n).1.id > nextTo D (mntS D).1.geo n) with
        | false => rfl
        | true => exact absurd (hid e) hp
      rintro z w19 ⟨rfl, rfl⟩
      refine ⟨_, rfl, ?_⟩
      refine Share.cut (fun z w21 => Rg w w21 w7.heap.size (mntS D).1 D (nextTo D (mntS D).1.geo (n + 1)) ∧ AtU w21 w16.heap.size 0 (nV (slotAt D (mntS D).1.geo n).1)) (cond_of (fun hp => ?_) (fun hp => ?_)) ?_
      · obtain ⟨w20, u1, u2, u3⟩ := X18.set (slotAt D (mntS D).1.geo n).1.id
        refine ⟨_, t2.drew.at.fld (v := .int .i64 (slotAt D (mntS D).1.geo n).1.id) sc_i64 rfl, _, rfl, w20, u1, ?_, t2.drew.keep u3 fun e => ?_⟩
        · have e : nextTo D (mntS D).1.geo (n + 1) = (slotAt D (mntS D).1.geo n).1.id := by unfold nextTo; rw [if_pos (of_decide_eq_true hp)]
          rw [e]; exact u2
        · have e : w16.heap.size = w7.heap.size := e
          obtain ⟨rp', wk', h'⟩ := X16.at
          have := h'.lt
          omega
      · refine ⟨?_, t2.drew⟩
        have e : nextTo D (mntS D).1.geo (n + 1) = nextTo D (mntS D).1.geo n := by rw [nextTo]; rw [if_neg (of_decide_eq_false hp)]
        rw [e]; exact X18
      rintro z w21 ⟨X21, t21⟩
      refine Share.cut (fun z w22 => z = [.bool (decide (n = 1) && !rootOk D (mntS D).1.geo)] ∧ w22 = w21) ?_ ?_
      · rw [beqI]
        refine cond_of (fun hp => ?_) (fun hp => ⟨?_, rfl⟩)
        · have hp : n = 1 := by have := of_decide_eq_true hp; omega
          subst hp
          rw [bneI]
          refine cond_of (fun hp => ⟨?_, rfl⟩) (fun hp => ⟨_, t21.at.fld (v := .int .i64 (slotAt D (mntS D).1.geo (1 : Nat)).1.kind) sc_int rfl, ?_, rfl⟩)
          · have hp := of_decide_eq_true hp
            have : rootOk D (mntS D).1.geo = false := by unfold rootOk; rw [decide_eq_false fun e => hp e.1]
            rw [this]; rfl
          · have hp := Classical.not_not.1 (of_decide_eq_false hp)
            have e0 : rootOk D (mntS D).1.geo = decide ((slotAt D (mntS D).1.geo (1 : Nat)).1.kind = 2) := by
              unfold rootOk
              by_cases e : (slotAt D (mntS D).1.geo (1 : Nat)).1.kind = 2
              · rw [decide_eq_true e]; exact decide_eq_true ⟨hp, e⟩
              · rw [decide_eq_false e]; exact decide_eq_false fun x => e x.2
            rw [bneI, e0, decide_eq_true (rfl : (1 : Nat) = 1), Bool.true_and]
            congr 2
            exact decide_not
        · have hp : ¬ n = 1 := by have := of_decide_eq_false hp; omega
          rw [decide_eq_false hp]; rfl
      rintro z w22 ⟨rfl, rfl⟩
      refine ⟨_, rfl, cond_of (fun hp => ?_) (fun hp => ?_)⟩
      · refine hno X21.mod ?_
        unfold mntOk
        rw [Bool.and_eq_false_iff]
        right
        rw [Bool.and_eq_true] at hp
        simpa using hp.2
      · rw [wrap64 (x := (n : Int) + 1) (by omega) (by omega)]
        refine ⟨⟨n + 1, _, _, by omega, rfl, X21, fun e => ?_⟩, by simp [nI, nth]; omega⟩
        by_cases e1 : n = 1
        · rw [decide_eq_true e1, Bool.true_and] at hp
          simpa using hp
        · exact hr (by omega)
    have hl2 : (n : Int) = gSlots (mntS D).1.geo := by have := of_decide_eq_false hl2; omega
    have hok : mntOk D (mntS D).1.geo = true := by
      unfold mntOk
      rw [hr (by omega), Bool.and_true, List.all_eq_true]
      intro j hj
      exact hh j (by have := List.mem_range.1 hj; omega)
    have eM := mnt_yes he hok
    obtain ⟨w23, u1, u2, u3⟩ := X15.set (nextTo D (mntS D).1.geo n + 1)
    refine ⟨_, rfl, _, X15.next, _, rfl, w23, ?_, ?_⟩
    · rw [wrap64 (by omega) (by omega)]; exact u1
    have := hk (by rw [eM]) w23 w7.heap.size
    rw [eM] at this
    refine this ?_
    show Rg w w23 w7.heap.size (mntS D).1 D (nextTo D (mntS D).1.geo (gSlots (mntS D).1.geo).toNat + 1)
    rw [← hl2, Int.toNat_natCast]
    exact u2
  have md : Mod No w (Go.Den.drew w5) := M5.drew
  have lg : ∀ {w' : World}, Mod No (Go.Den.drew w5) w' → Ru (Instr.loadAt 2 (.pointer (some (Addr.add ⟨w3.heap.size, 0, none⟩ 0)))) w' (.int .i64 (mntS D).1.gen) w' := fun m => (e2.drew.keep m id).at.fld sc_i64 rfl
  have lG : ∀ {w' : World}, Mod No (Go.Den.drew w5) w' → Ru (Instr.loadAt 23 (.pointer (some (Addr.add ⟨w3.heap.size, 0, none⟩ 1)))) w' (.agg ⟨gV (mntS D).1.geo⟩) w' := fun m => (e2.drew.keep m id).at.fldA agg_geo (by show 4 ≤ 4; omega) rfl
  have hlo' : ∀ {w' : World}, Mod No w w' → ∀ x, R x → w0.heap.size ≤ x ∧ x < w'.heap.size := fun m x hx => by
    have := hlo x hx; have := m.size; omega
  refine ⟨_, build_rwork, _, lg (Mod.refl _ _), _, lG (Mod.refl _ _), ?_, ?_⟩
  · refine rOpen11_c (h.nos md) hsm (hlo' md) (hm0.no md) fun w6 rp m6 X6 => ⟨_, rfl, lg m6, lG m6, ?_⟩
    obtain ⟨w7, p1, p2, p3, p4⟩ := box_u (P := Tryz.prog) (w := w6) (T := 120) (cs := [.slice none 0 0])
    exact ⟨_, w7, p1, lg (m6.no p3), lG (m6.no p3), tail w7 rp _ _ (X6.nos p3) ((md.no m6).no p3)⟩
  · obtain ⟨w7, p1, p2, p3, p4⟩ := box_u (P := Tryz.prog) (w := Go.Den.drew w5) (T := 120) (cs := [.slice none 0 0])
    have M7 := md.no p3
    refine ⟨_, w7, p1, lg p3, lG p3, ?_⟩
    refine rOpen11_c (h.nos M7) hsm (hlo' M7) (hm0.no M7) fun w8 rp m8 X8 => ⟨_, rfl, lg (p3.no m8), lG (p3.no m8), ?_⟩
    exact tail w8 rp _ _ X8 (M7.no m8)
end
end Go.Proofs.YtoajelhfiganaaaGreat
end
section
open Go Go.Den Go.Proofs
namespace Go.Proofs.YtoajelhfiganaaaGreat
def gKn : Gm := ⟨16, 8, 2⟩
def dKn : St := fmtSt (newSt 34) gKn
theorem kn_fmt : fmtE (newSt 34) gKn = 0 := by decide
theorem kn_slot : slotAt dKn gKn 1 = (rootN, 0) := by decide +kernel
theorem kn_next : nextTo dKn gKn 16 = 1 := by decide +kernel
theorem kn_root : rootOk dKn gKn = true := by decide +kernel
theorem kn_head : (List.range 2).all (headOk dKn gKn) = true := by decide +kernel
theorem kn_sup : (mntS dKn).2.2 = 0 ∧ (mntS dKn).1.gen = 1 ∧ (mntS dKn).1.geo = gKn := by decide +kernel
theorem kn_mnt : mnt dKn = (⟨1, gKn⟩, 0) := by
  obtain ⟨h1, h2, h3⟩ := kn_sup
  have e : (mntS dKn).1 = ⟨1, gKn⟩ := by
    cases hs : (mntS dKn).1 with
    | mk a b =>
      rw [hs] at h2 h3
      cases h2; cases h3; rfl
  have hok : mntOk dKn (mntS dKn).1.geo = true := by
    rw [h3]
    unfold mntOk
    rw [kn_root, Bool.and_true]
    exact kn_head
  rw [mnt_yes h1 hok, e]
end Go.Proofs.YtoajelhfiganaaaGreat
end
section
open Go Go.Den Go.Proofs
namespace Go.Proofs.YtoajelhfiganaaaGreat
section
variable {w0 wb w w' : World} {R R0 R2 : Nat → Prop} {N v d r sb mb sc vb vc : Nat} {L : List (Int × Value)} {hs : List (Nat × Nat)} {s : Sp} {D : St} {nx : Int} {K : Value → World → Prop}
theorem Vg.set2 (h : Vg wb R0 N w v d s D nx) (n : Int) : ∃ w', RuU (Instr.storeAt 2 (.pointer (some (Addr.add ⟨v, 0, none⟩ 6))) (.int .i64 n)) w w' ∧ Vg wb R0 N w' v d s D n ∧ Mod (fun x => x = v) w w' := by
  obtain ⟨R, sp, wk, k, w0, h1, h2, h3, h4, h5, h6, h7, h8⟩ := h
  obtain ⟨w', s1, s2, s3, s4⟩ := h2.putF (P := Tryz.prog) (T := 2) (j := 6) (v := .int .i64 n) sc_i64 (by show 6 < 7; omega) rfl
  refine ⟨w', s1, ⟨R, sp, wk, k, w0, h1.keep s3 (fun x hx e => ?_) (fun x hx e => ?_), s2, h3, h4, h5.trans s3 fun x hx e => ?_, by omega, h7, h8⟩, s3⟩
  · have e : x = v := e
    rw [e] at hx; exact h3.1 hx
  · have e : x = v := e
    have := h3.2.1; omega
  · have e : x = v := e
    rw [e]
    exact h3.2.2.2.resolve_right (by omega)
theorem Vg.modno (h : Vg wb R0 N w v d s D nx) (m : Mod No w0 wb) (hlo : ∀ x, R0 x → w0.heap.size ≤ x) : Mod No w0 w := m.trans h.mod fun x hx e => by have := hlo x e; omega
theorem Vg.lt (h : Vg wb R0 N w v d s D nx) : v < N := by obtain ⟨_, _, _, _, _, _, _, h, _⟩ := h; exact h.2.2.1
theorem vGen_c (h : Vg wb R0 N w v d s D nx) (hk : K (.int .i64 s.gen) w) : Cal Tryz.prog F_vol_Vol_Gen #[.pointer (some ⟨v, 0, none⟩)] w K := by
  apply C_vol_Vol_Gen
  unfold D_vol_Vol_Gen
  exact ff rfl ⟨_, rfl, _, h.gen, hk⟩
theorem vGeo_c (h : Vg wb R0 N w v d s D nx) (hk : ∀ w', Mod No w w' → K (.agg ⟨gV s.geo⟩) w') : Cal Tryz.prog F_vol_Vol_Geo #[.pointer (some ⟨v, 0, none⟩)] w K := by
  apply C_vol_Vol_Geo
  unfold D_vol_Vol_Geo
  obtain ⟨w1, b1, b2, b3, b4⟩ := new_u (P := Tryz.prog) (w := w) (T := 23) zero_geo
  obtain ⟨w2, c1, c2, c3, c4⟩ := b2.put (T := 23) (vs := gV s.geo) agg_geo rfl rfl (one_gV _)
  exact ⟨_, w1, b1, ff rfl ⟨_, rfl, _, (h.nos b3).geo, w2, c1, _, c2.at.all agg_geo rfl, hk w2 (b3.own c3 (Nat.le_refl _))⟩⟩
theorem vNewId_c (h : Vg wb R0 N w v d s D nx) (h0 : 0 ≤ nx) (h1 : nx ≤ 4611686018427387904) (hk : ∀ w', Vg wb R0 N w' v d s D (nx + 1) → Mod (fun x => x = v) w w' → K (.tuple #[.int .i64 nx, .int .i64 0]) w') : Cal Tryz.prog F_vol_Vol_NewId #[.pointer (some ⟨v, 0, none⟩)] w K := by
  apply C_vol_Vol_NewId
  unfold D_vol_Vol_NewId
  refine ff rfl ⟨_, rfl, _, h.next, ff (by rw [decide_eq_false (by omega)]) ⟨_, rfl, _, h.next, _, rfl, ?_⟩⟩
  obtain ⟨w', s1, s2, s3⟩ := h.set2 (nx + 1)
  rw [wrap64 (x := nx + 1) (by omega) (by omega)]
  refine ⟨w', s1, _, rfl, _, s2.next, ?_⟩
  rw [wrap64 (by omega) (by omega), show nx + 1 - 1 = nx by omega]
  exact hk w' s2 s3
theorem bnd_new (k : Nat) : Bnd (newSt k) 1 := fun v hv => by
  have := List.eq_of_mem_replicate hv
  subst this; simp
set_option maxRecDepth 8000 in
theorem known13_c (hk : ∀ w', Mod No w w' → K (.bool true) w') : Cal Tryz.prog F_leveelaw13_known #[] w K := by
  apply C_leveelaw13_known
  unfold D_leveelaw13_known
  refine New_c (by omega) (by omega) (fun h => by omega) fun k hk' _ _ w1 b sb mb m1 hD => ⟨_, _, rfl, _, build_geo3 16 8 2, ?_⟩
  have : k = 34 := by omega
  subst this
  have hz1 := m1.size
  refine vFormat_c (g := gKn) hD rfl (bnd_new 34) (fun h => absurd kn_fmt h) fun _ wb N w2 mb2 X2 => ⟨_, rfl, ?_⟩
  have hz2 := mb2.size
  have kn : ∃ D, D = fmtSt (newSt 34) gKn ∧ mnt D = (⟨1, gKn⟩, 0) ∧ slotAt D gKn 1 = (rootN, 0) ∧ nextTo D gKn 16 = 1 ∧ D.left = -1 ∧ Bnd D 1 ∧ D.vs.length = 34 :=
    ⟨dKn, rfl, kn_mnt, kn_slot, kn_next, fmtSt_run rfl gKn, fmtSt_bnd rfl gKn, (fmtSt_len _ _).trans (by simp [newSt])⟩
  obtain ⟨D, eD, f1, f2, f3, f4, f5, f6⟩ := kn
  rw [← eD] at X2
  clear eD
  obtain ⟨R', sb', mb', sc', L', d1, d2, d3, d4⟩ := X2
  have hR' : ∀ x, R' x → w.heap.size ≤ x ∧ x < w2.heap.size := fun x hx => by
    refine ⟨?_, d1.lt x hx⟩
    rcases (d2 x hx).1 with e | e
    · exact e.1
    · omega
  have M2 : Mod No w w2 := (m1.no mb2).trans d3 fun x hx e => by omega
  refine vMount_c (w0 := w) d1 (BndS f5 (by omega)) hR' M2 f4 (fun h => absurd (by rw [f1]) h) fun _ w3 N3 v X3 => ⟨_, _, rfl, ?_⟩
  rw [f1] at X3
  have X3 : Vg w2 R' N3 w3 v b ⟨1, gKn⟩ D 2 := by
    have e : nextTo D gKn (gSlots gKn).toNat + 1 = 2 := by
      rw [show (gSlots gKn).toNat = 16 by decide, f3]; rfl
    rw [← e]; exact X3
  refine Share.dup (ff rfl (ff rfl ⟨_, rfl, ff rfl ?_⟩))
  have hsz : gSize (⟨1, gKn⟩ : Sp).geo ≤ D.vs.length := by
    rw [f6]; decide
  refine vInode_c (by omega) X3 hsz fun w5 X5 => ⟨_, _, rfl, ?_⟩
  have eS : slotAt D (⟨1, gKn⟩ : Sp).geo 1 = (rootN, 0) := f2
  rw [eS]
  obtain ⟨w6, s1, s2, s3, s4⟩ := new_u (P := Tryz.prog) (w := w5) (T := 55) zero_ino
  obtain ⟨w7, t1, t2, t3, t4⟩ := s2.put (T := 55) (vs := nV rootN) agg_ino rfl rfl (one_nV _)
  have m7 : Mod No w5 w7 := s3.own t3 (Nat.le_refl _)
  have X7 := X5.nos m7
  refine ⟨_, w6, s1, w7, t1, ?_⟩
  refine vNewId_c X7 (by omega) (by omega) fun w8 X8 m8 => ⟨_, _, rfl, ?_⟩
  have hv := X5.lt
  have t8 := t2.keep m8 (fun e => by have e : w5.heap.size = v := e; omega)
  refine Share.dup (vGen_c X8 ⟨_, rfl, tt rfl ⟨_, t8.at.fld (v := .int .i64 2) sc_int rfl, tt rfl ⟨_, t8.at.fld (v := .int .i64 1) sc_i64 rfl, tt rfl (tt rfl (tt rfl ⟨_, rfl, ?_⟩))⟩⟩⟩)
  exact hk w8 (X8.modno M2 fun x hx => (hR' x hx).1)
theorem same13_c (h1 : DiskIn w R d sb mb sc L D) (h2 : RefIn w R2 r vb vc hs D) (hsm : Small D) (hk : ∀ w', Mod No w w' → K (.bool true) w') :
    Cal Tryz.prog F_leveelaw13_same #[.pointer (some ⟨d, 0, none⟩), .pointer (some ⟨r, 0, none⟩)] w K := by
  apply C_leveelaw13_same
  unfold D_leveelaw13_same
  refine Share.cut (fun z w10 => z = [.bool false] ∧ Mod No w w10) ?_ ?_
  · have md : Mod No w (drew w) := (Mod.refl No w).drew
    refine Bytes_c' (h1.nos md) hsm fun w1 a1 l1 c1 m1 o1 => ⟨_, _, _, rfl, ?_⟩
    have e1 : (allB D).length = l1 := by have := o1.len; simpa using this
    have M1 := md.no m1
    refine ⟨_, str_run (by kernel_rfl) o1.rowU.row e1, refBytes_c (h2.nos M1) hsm fun w2 a2 l2 c2 m2 o2 => ⟨_, _, _, rfl, str_run (by kernel_rfl) (o1.rowU.row.nos m2) e1, ?_⟩⟩
    have e2 : (allB D).length = l2 := by have := o2.len; simpa using this
    have M2 := M1.no m2
    refine ⟨_, str_run (by kernel_rfl) o2.rowU.row e2, ff (by simp) ?_⟩
    refine Open_c (h1.nos M2) fun w3 a3 l3 c3 m3 o3 => ⟨_, _, _, rfl, ?_⟩
    have M3 := M2.no m3
    refine refOpen_c (h2.nos M3) hsm fun w4 a4 l4 c4 m4 o4 => ⟨_, _, _, rfl, ?_⟩
    have e3 : (openS D).length = l3 := by have := o3.len; simpa using this
    have e4 : (openS D).length = l4 := by have := o4.len; simpa using this
    have e34 : l4 = l3 := by omega
    subst e34
    refine Ints_c (xs := openS D) e3 (o3.rowU.row.nos m4) o4.rowU.row ?_ fun w5 m5 => ⟨_, rfl, rfl, (M3.no m4).no m5⟩
    have := o3.cap
    simp [maxLen] at *
    omega
  rintro z w10 ⟨rfl, m10⟩
  refine ⟨_, rfl, ff rfl ?_⟩
  refine ⟨fun x w11 => ∃ i : Nat, x = [.int .i64 i] ∧ i ≤ D.vs.length ∧ Mod No w w11, fun x _ => (D.vs.length - nI x 0).toNat, ⟨0, rfl, by omega, m10⟩, ?_⟩
  rintro x w11 ⟨i, rfl, hi, m11⟩
  have hhi := h1.wf.hi
  refine ⟨_, rfl, _, rfl, _, _, _, rv (h2.nos m11), cond_of (fun hb => ?_) (fun hb => hk w11 m11)⟩
  have hb := of_decide_eq_true hb
  refine Safe_c (h1.nos m11) (n := (i : Int)) fun w12 a1 c1 m12 f1 => ⟨_, _, _, _, rfl, ?_⟩
  have M12 := m11.no m12
  refine refSafe_c (h2.nos M12) (n := (i : Int)) fun w13 a2 c2 m13 f2 => ⟨_, _, _, _, rfl, _, str_run (by kernel_rfl) (f1.nos m13).row rfl, _, str_run (by kernel_rfl) f2.row rfl, ff (by simp) ?_⟩
  rw [wrap64 (x := (i : Int) + 1) (by omega) (by omega)]
  exact ⟨⟨i + 1, rfl, by omega, M12.no m13⟩, by simp [nI, nth]; omega⟩
theorem vFormatNil_c {g : Gm} (hk : ∀ w', Mod No w w' → K (.int .i64 2) w') : Cal Tryz.prog F_vol_Format #[.pointer none, .agg ⟨gV g⟩] w K := by
  apply C_vol_Format
  unfold D_vol_Format
  obtain ⟨w1, a1, a2, a3, a4⟩ := box_u (P := Tryz.prog) (w := w) (T := 23) (cs := gV g)
  exact ⟨_, w1, a1, tt rfl (hk w1 a3)⟩
end
end Go.Proofs.YtoajelhfiganaaaGreat
end
section
open Go Go.Den Go.Proofs
namespace Go.Proofs.YtoajelhfiganaaaGreat
def Tw (w0 w : World) (d r : Nat) (D : St) : Prop := ∃ R sb mb sc L R2 vb vc hs, DiskIn w R d sb mb sc L D ∧ RefIn w R2 r vb vc hs D ∧ (∀ x, R x → ¬ R2 x) ∧ (∀ x, R x → w0.heap.size ≤ x) ∧ (∀ x, R2 x → w0.heap.size ≤ x) ∧ Mod No w0 w
section
variable {w0 w w' : World} {d r : Nat} {D : St} {K : Value → World → Prop}
theorem Tw.nos (h : Tw w0 w d r D) (m : Mod No w w') : Tw w0 w' d r D := by
  obtain ⟨R, sb, mb, sc, L, R2, vb, vc, hs, h1, h2, h3, h4, h5, h6⟩ := h
  exact ⟨R, sb, mb, sc, L, R2, vb, vc, hs, h1.nos m, h2.nos m, h3, h4, h5, h6.no m⟩
theorem Tw.mod (h : Tw w0 w d r D) : Mod No w0 w := by obtain ⟨_, _, _, _, _, _, _, _, _, _, _, _, _, _, h⟩ := h; exact h
set_option maxRecDepth 8000 in
theorem VolFormats_c {g : Gm} {n1 n2 : Int} {a3 : Option Addr} {l3 c3 : Nat} {bs : List UInt8} (h0 : -9223372036854775808 ≤ n1) (h1 : n1 ≤ 9223372036854775807) (hl : bs.length = l3) (hr : Row w a3 (u8L bs)) (h63 : l3 ≤ 9223372036854775807) :
    Cal Tryz.prog F_leveelaw13_VolFormats #[.agg ⟨gV g⟩, .int .i64 n1, .int .i64 n2, .slice a3 l3 c3] w (fun v w' => v = .bool true ∧ Mod No w w') := by
  apply C_leveelaw13_VolFormats
  unfold D_leveelaw13_VolFormats
  obtain ⟨w1, b1, b2, b3, b4⟩ := box_u (P := Tryz.prog) (w := w) (T := 23) (cs := gV g)
  refine ⟨_, w1, b1, ?_⟩
  refine Share.cut (fun z w3 => z = [.bool (decide (gSize g > 300 ∨ n1 > 300))] ∧ Mod No w1 w3) ?_ ?_
  · refine ⟨_, b2.at.all agg_geo rfl, rgSize_c fun w2 m2 => ⟨_, rfl, cond_of (fun hb => ⟨?_, m2⟩) (fun hb => ⟨?_, m2⟩)⟩⟩
    · rw [decide_eq_true (show gSize g > 300 ∨ n1 > 300 from .inl (of_decide_eq_true hb))]
    · have hb := of_decide_eq_false hb
      congr 2
      rw [Bool.eq_iff_iff, decide_eq_true_iff, decide_eq_true_iff]
      exact ⟨.inr, fun e => e.resolve_left hb⟩
  rintro z w3 ⟨rfl, m3⟩
  have M3 : Mod No w w3 := b3.no m3
  refine ⟨_, rfl, cond_of (fun hb => ?_) (fun hb => ?_)⟩
  · exact known13_c fun w4 m4 => ⟨_, rfl, rfl, M3.no m4⟩
  have hb := of_decide_eq_false hb
  have q3 := b2.keep m3 id
  refine New_c h0 h1 (fun hbad => ⟨_, _, rfl, ?_⟩) fun k hk hk1 hk2 w5 d sb mb m5 hD => ⟨_, _, rfl, ?_⟩
  · refine refNew_c h0 h1 (fun _ => ⟨_, _, rfl, ff rfl (tt rfl ?_)⟩) fun k hk hk1 hk2 => by omega
    refine Share.dup ⟨_, q3.at.all agg_geo rfl, vFormatNil_c fun w7 m7 => ⟨_, rfl, tt rfl (known13_c fun w8 m8 => ⟨_, rfl, _, rfl, rfl, (M3.no m7).no m8⟩)⟩⟩
  refine refNew_c h0 h1 (fun hbad => by omega) fun k' hk' _ _ w6 r vb vc hs m6 hR => ⟨_, _, rfl, ff rfl (ff rfl ?_)⟩
  have : k' = k := by omega
  subst this
  have hk300 : k' ≤ 300 := by omega
  have q6 := ((q3.keep m5 id).keep m6 id).drew
  have hz3 := M3.size
  have hz5 := m5.size
  have hz6 := m6.size
  have M6 : Mod No w (Go.Den.drew w6) := ((M3.no m5).no m6).drew
  have hD6 : DiskIn (Go.Den.drew w6) (fun x => w3.heap.size ≤ x ∧ x < w5.heap.size) d sb mb k' [] (newSt k') := (hD.nos m6).drew
  have hR6 : RefIn (Go.Den.drew w6) (fun x => w5.heap.size ≤ x ∧ x < w6.heap.size) r vb vc hs (newSt k') := hR.nos (Mod.refl No w6).drew
  have hlq : w.heap.size < w3.heap.size := q3.lt
  have hnl : (newSt k').vs.length = k' := by simp [newSt]
  refine Share.cut (fun z w13 => z = [.bool false] ∧ ∃ D2, Tw w w13 d r D2 ∧ D2.left = -1 ∧ Bnd D2 1 ∧ D2.vs.length = k') ?_ ?_
  · refine ⟨_, q6.at.all agg_geo rfl, _, q6.at.all agg_geo rfl, ?_⟩
    by_cases hE : fmtE (newSt k') g = 0
    · refine vFormat_c (g := g) hD6 rfl (bnd_new k') (fun h => absurd hE h) fun _ wa Na w10 ma Xa => ⟨_, rfl, ?_⟩
      have hza : w6.heap.size ≤ wa.heap.size := ma.size
      have q10 := (q6.keep ma id).keep Xa.mod (fun e => by have e : w3.heap.size ≤ w.heap.size ∧ w.heap.size < w5.heap.size := e; omega)
      have hR10 := (hR6.nos ma).keep Xa.mod fun x hx e => by have hx : w5.heap.size ≤ x ∧ x < w6.heap.size := hx; have e : w3.heap.size ≤ x ∧ x < w5.heap.size := e; omega
      refine ⟨q10.at.all agg_geo rfl, ?_⟩
      refine rFormat_c (g := g) hR10 rfl (bnd_new k') (fun h => absurd hE h) fun _ wb Nb w11 mb2 Xb => ⟨_, rfl, ff rfl ?_⟩
      have hz10 := Xa.size
      have hzb := mb2.size
      have hma := Xa.mod.size
      obtain ⟨Ra, sba, mba, sca, La, a1, a2, a3', a4⟩ := Xa
      obtain ⟨Rb, vbb, vcb, hsb, c1, c2, c3', c4⟩ := Xb
      have hRa : ∀ x, Ra x → w3.heap.size ≤ x ∧ ¬ (w5.heap.size ≤ x ∧ x < w6.heap.size) ∧ x < w10.heap.size := fun x hx => by
        have := (a2 x hx).2
        rcases (a2 x hx).1 with e | e
        · have e : w3.heap.size ≤ x ∧ x < w5.heap.size := e
          omega
        · omega
      have hRb : ∀ x, Rb x → w5.heap.size ≤ x ∧ ((w5.heap.size ≤ x ∧ x < w6.heap.size) ∨ w10.heap.size ≤ x) := fun x hx => by
        rcases (c2 x hx).1 with e | e
        · have e : w5.heap.size ≤ x ∧ x < w6.heap.size := e
          omega
        · omega
      have hD11 := (a1.nos mb2).keep c3' fun x hx e => (hRa x hx).2.1 e
      have M11 : Mod No w w11 := ((((M6.no ma).trans a3' fun x hx e => by have e : w3.heap.size ≤ x ∧ x < w5.heap.size := e; omega).no mb2).trans c3' fun x hx e => by have e : w5.heap.size ≤ x ∧ x < w6.heap.size := e; omega)
      refine same13_c hD11 c1 (BndS (fmtSt_bnd rfl g) (by omega)) fun w12 m12 => ⟨_, rfl, rfl, fmtSt (newSt k') g, ?_, fmtSt_run rfl g, fmtSt_bnd rfl g, (fmtSt_len _ _).trans hnl⟩
      exact Tw.nos ⟨Ra, sba, mba, sca, La, Rb, vbb, vcb, hsb, hD11, c1, fun x hx e => by have := hRa x hx; have := hRb x e; omega, fun x hx => by have := hRa x hx; omega, fun x hx => by have := hRb x hx; omega, M11⟩ m12
    · refine vFormat_c (g := g) hD6 rfl (bnd_new k') (fun _ w10 ma => ⟨_, rfl, ?_⟩) fun h => absurd h hE
      refine ⟨(q6.keep ma id).at.all agg_geo rfl, ?_⟩
      refine rFormat_c (g := g) (hR6.nos ma) rfl (bnd_new k') (fun _ w11 mb2 => ⟨_, rfl, ff (by rw [bneI, decide_eq_false (fun e => e rfl)]) ?_⟩) fun h => absurd h hE
      have M11 := ma.no mb2
      refine same13_c (hD6.nos M11) (hR6.nos M11) (BndS (bnd_new k') (by omega)) fun w12 m12 => ⟨_, rfl, rfl, newSt k', ?_, rfl, bnd_new k', hnl⟩
      have M12 := M11.no m12
      exact ⟨_, sb, mb, k', [], _, vb, vc, hs, hD6.nos M12, hR6.nos M12, fun x hx e => by have hx : w3.heap.size ≤ x ∧ x < w5.heap.size := hx; have e : w5.heap.size ≤ x ∧ x < w6.heap.size := e; omega, fun x hx => by have hx : w3.heap.size ≤ x ∧ x < w5.heap.size := hx; omega, fun x hx => by have hx : w5.heap.size ≤ x ∧ x < w6.heap.size := hx; omega, M6.no M12⟩
  rintro z w13 ⟨rfl, D2, T2, hrun, hbnd, hlen⟩
  refine ⟨_, rfl, ff rfl ?_⟩
  rw [hk]
  refine Count_c (by omega) (by omega) ⟨_, rfl, ?_⟩
  have hr13 := hr.nos T2.mod
  refine Fill_c hl hr13 h63 fun w15 q15 hq15 m15 h15 => ⟨_, _, _, rfl, ?_⟩
  obtain ⟨R, sb2, mb2, sc2, L2, R2, vb2, vc2, hs2, t1, t2, t3, t4, t5, t6⟩ := T2
  have hlenf : (fillB bs).length = 256 := length_fillB bs
  have hz13 := t6.size
  have hz15 := m15.size
  refine Write_c (t1.nos m15) (Bnd9 hbnd (by omega)) hlenf (.inr ⟨_, _, rfl, h15.at⟩) (fun q e hR => by cases e; have := t1.lt _ hR; have e : q15 < w13.heap.size := this; omega) fun w16 L16 m16 d16 => ⟨_, rfl, ?_⟩
  have hz16 := m16.size
  have M16 : Mod No w w16 := (t6.no m15).trans m16 fun x hx e => by have := t4 x e; omega
  have r16 := (t2.nos m15).keep m16 fun x hx e => t3 x e hx
  have lt2 : ∀ x, R2 x → x < w13.heap.size := t2.lt
  refine Count_c (by omega) (by omega) ⟨_, rfl, ?_⟩
  refine Fill_c hl (hr.nos M16) h63 fun w18 q18 hq18 m18 h18 => ⟨_, _, _, rfl, ?_⟩
  have hz18 := m18.size
  refine refWrite_c (r16.nos m18) (Bnd9 hbnd (by omega)) hlenf (.inr ⟨_, _, rfl, h18.at⟩) (fun _ q e hR => by cases e; have := lt2 _ hR; have e : q18 < w13.heap.size := this; omega) fun w19 hs19 m19 r19 => ⟨_, rfl, ?_⟩
  have hz19 := m19.size
  have hG : ∀ x, Gro R w15 w16 x → w.heap.size ≤ x ∧ x < w16.heap.size ∧ ¬ R2 x := fun x hx => by
    rcases hx with hx | hx
    · exact ⟨t4 x hx, by have := t1.lt x hx; omega, t3 x hx⟩
    · exact ⟨by omega, by omega, fun e => by have := lt2 x e; omega⟩
  have hG2 : ∀ x, Gro R2 w18 w19 x → w.heap.size ≤ x ∧ x < w19.heap.size ∧ (R2 x ∨ w16.heap.size ≤ x) := fun x hx => by
    rcases hx with hx | hx
    · exact ⟨t5 x hx, by have := lt2 x hx; omega, .inl hx⟩
    · exact ⟨by omega, by omega, .inr (by omega)⟩
  have d19 := (d16.nos m18).keep m19 fun x hx e => (hG x hx).2.2 e
  have M19 : Mod No w w19 := (M16.no m18).trans m19 fun x hx e => by have := t5 x e; omega
  have hrun3 := wrSt_run hrun (n2 % (k' : Int)) (fillB bs)
  have hbnd3 := Bnd_wr hbnd (n2 % (k' : Int)) (fillB bs)
  generalize wrSt D2 (n2 % (k' : Int)) (fillB bs) = D3 at *
  have hs3 : Small D3 := BndS hbnd3 (by omega)
  have hlo1 : ∀ x, Gro R w15 w16 x → w.heap.size ≤ x ∧ x < w19.heap.size := fun x hx => by have := hG x hx; omega
  by_cases hM : (mnt D3).2 = 0
  · refine vMount_c (w0 := w) d19 hs3 hlo1 M19 hrun3 (fun h => absurd hM h) fun _ w20 N20 v X20 => ⟨_, _, rfl, ?_⟩
    have mX := X20.mod
    have M20 : Mod No w w20 := X20.modno M19 fun x hx => (hG x hx).1
    have hz20 := mX.size
    have r20 := r19.keep mX fun x hx e => by
      have h1 := hG x e
      rcases (hG2 x hx).2.2 with h2 | h2
      · exact h1.2.2 h2
      · omega
    refine rMount_c (w0 := w) r20 hs3 (fun x hx => by have := hG2 x hx; omega) M20 (fun h => absurd hM h) fun _ w21 v2 X21 => ⟨_, _, rfl, ?_⟩
    have V21 := X20.nos X21.mod
    have M21 := M20.no X21.mod
    refine Share.cut (fun z w22 => z = [.bool false] ∧ w22 = w21) (ff rfl ⟨rfl, rfl⟩) ?_
    rintro z w22 ⟨rfl, rfl⟩
    refine ⟨_, rfl, ff rfl ?_⟩
    have md : Mod No w22 (Go.Den.drew w22) := (Mod.refl No w22).drew
    have Vd := V21.nos md
    have Xd := X21.nos md
    refine Share.dup (ff rfl ⟨_, rfl, _, Xd.gen, vGen_c Vd ⟨_, rfl, Xd.gen, tt (by rw [beqI, decide_eq_true rfl]) ⟨_, rfl, _, Xd.geo, vGeo_c Vd fun w25 m25 => ⟨_, rfl, (Xd.nos m25).geo, ?_⟩⟩⟩⟩)
    obtain ⟨b, hbb, he⟩ := geq (mnt D3).1.geo (mnt D3).1.geo (o1 := .tmp 105) (o2 := .tmp 109)
    have hbt : b = true := hbb.2 rfl
    subst hbt
    exact ⟨_, he, tt rfl (known13_c fun w26 m26 => ⟨_, rfl, _, rfl, rfl, ((M21.no md).no m25).no m26⟩)⟩
  · refine vMount_c (w0 := w) d19 hs3 hlo1 M19 hrun3 (fun _ w20 mX => ⟨_, _, rfl, ?_⟩) fun h => absurd h hM
    have M20 : Mod No w w20 := M19.trans mX fun x hx e => by have := hG x e; omega
    have hz20 := mX.size
    have r20 := r19.keep mX fun x hx e => by
      have h1 := hG x e
      rcases (hG2 x hx).2.2 with h2 | h2
      · exact h1.2.2 h2
      · omega
    refine rMount_c (w0 := w) r20 hs3 (fun x hx => by have := hG2 x hx; omega) M20 (fun _ w21 m21 => ⟨_, _, rfl, ?_⟩) fun h => absurd h hM
    refine Share.cut (fun z w22 => z = [.bool false] ∧ w22 = w21) (ff (by rw [bneI, decide_eq_false (fun e => e rfl)]) ⟨rfl, rfl⟩) ?_
    rintro z w22 ⟨rfl, rfl⟩
    refine ⟨_, rfl, ff rfl ?_⟩
    refine Share.dup (tt rfl (known13_c fun w23 m23 => ⟨_, rfl, _, rfl, rfl, ((M20.no m21).drew).no m23⟩))
end
end Go.Proofs.YtoajelhfiganaaaGreat
end
section
namespace Go.Proofs.YtoajelhfiganaaaGreat.bulks
theorem append {H : Type} (l r : List (DataW H)) : Rows.uptoBulkAll (l ++ r) = Rows.uptoBulkAll l + Rows.uptoBulkAll r := by
  induction l with
  | nil => simp [Rows.uptoBulkAll]
  | cons x l ih => simp only [List.cons_append, Rows.uptoBulkAll, ih]; omega
end Go.Proofs.YtoajelhfiganaaaGreat.bulks
end
section
open Go Go.Den
namespace Go.Den
open Go.RowKit Go.ChangeShapes Go.WideShapes
section
variable {H : Type} {enc : TypeId × Value → H} {P : Program}
theorem trodAll_below (hl : laidOutB P = true) {W W' : World} (hb : Below W.heap.size W W') : ∀ {ts : List TypeId} {vs : List Value} {ds : List (DataW H)} {ps : List MemPlace},
    (ts.all fun t => P.readableRec t && decide (t < P.types.size)) = true → DataW.TrodAll enc P W 0 (fun _ => true) true ts vs ds ps → (∀ x ∈ ps, x.block < W.heap.size) →
    DataW.TrodAll enc P W' 0 (fun b => decide (b < W.heap.size)) true ts vs ds ps
  | [], [], [], _, _, h, _ => h
  | [], [], _ :: _, _, _, h, _ => h.elim
  | [], _ :: _, _, _, _, h, _ => h.elim
  | _ :: _, [], _, _, _, h, _ => h.elim
  | _ :: _, _ :: _, [], _, _, h, _ => h.elim
  | t :: ts, v :: vs, d :: ds, ps, hr, h, hlt => by
    simp only [List.all_cons, Bool.and_eq_true, decide_eq_true_eq] at hr
    obtain ⟨p, q, h1, h2, rfl⟩ := h
    exact ⟨p, q, Below.trod hl hr.1.1 hr.1.2 h1 hb (fun x hx => hlt x (List.mem_append_left _ hx)), trodAll_below hl hb hr.2 h2 (fun x hx => hlt x (List.mem_append_right _ hx)), rfl⟩
theorem law_post {f : Func} {s : ChangeSpec} {apart handsOn : Bool} {W W' : World} {args : Array Value} {ds gs : List (DataW H)} {before : List MemPlace} {tb : TypeId} (hl : laidOutB P = true)
    (hW : DataW.Whole enc P f.params.toList s.vars apart W args.toList ds gs before) (hv : s.vars = []) (hr : (f.params.toList.all fun t => P.readableRec t && decide (t < P.types.size)) = true)
    (hrt : f.resultTypes = #[tb]) (htb : P.underlying tb = some .bool) (hs : s.fn H ds = { results := [.lit (.bool true)], args := ds }) (hb : Below W.heap.size W W') :
    s.post enc P f apart true handsOn false W args (.bool true) W' := by
  have hlt : ∀ p ∈ before, p.block < W.heap.size := fun p hp => hW.lt p hp
  have hW0 := hW
  obtain ⟨p, q, hA, hV, he, _, _⟩ := hW
  rw [hv] at hV
  have hgs : gs = [] ∧ q = [] := by
    cases gs with
    | nil => exact ⟨rfl, hV⟩
    | cons a r => exact hV.elim
  obtain ⟨rfl, rfl⟩ := hgs
  rw [List.append_nil] at he
  subst he
  refine ⟨ds, [], before, [], before, [], hW0, ?_, ?_, ?_, World.keptBut_mono (fun x hx => ⟨hx, .inr (.inl hx)⟩) (hb.frame (· ∈ before)), fun h => Bool.noConfusion h⟩
  · rw [hrt, List.append_nil, hs]
    exact ⟨[], [], shut_bool htb true, rfl, rfl⟩
  · rw [List.append_nil, hs]
    exact trodAll_below hl hb hr hA hlt
  · rw [hv, List.append_nil, hs]; rfl
end
end Go.Den
end
section
open Go Go.Den
namespace Go.Proofs.YtoajelhfiganaaaGreat
open Go.ChangeShapes Go.WideShapes Go.ChangeAt Go.RowKit
theorem i64_bounds {n : Int} (h : (Lit.int .i64 n).wf = true) : -9223372036854775808 ≤ n ∧ n ≤ 9223372036854775807 := by
  simpa [Lit.wf, IntKind.min, IntKind.max, IntKind.signed, IntKind.bits] using h
theorem own_none : ownKnob Tryz.prog.godebug = none := by kernel_rfl
theorem laid_out : laidOutB Tryz.prog = true := by kernel_rfl
theorem cal_calls {f : FuncId} {args : Array Value} {w : World} {K : Value → World → Prop} {R : Ending → World → Prop} (h : Cal Tryz.prog f args w K) (hk : ∀ v w', K v w' → R (.returned v) w') : Calls Tryz.prog f args w R :=
  h.2.mono fun e w' he => by cases e <;> first | exact hk _ _ he | exact he.elim
end Go.Proofs.YtoajelhfiganaaaGreat
end
section
open Go Go.Den
namespace Go.Den
open Go.ChangeShapes Go.WideShapes Go.RowKit
section
variable {H : Type} {enc : TypeId × Value → H} {P : Program} {w : World} {base : Nat} {spare : Nat → Bool} {held : Bool}
theorem At.of_cells {b o : Nat} {cs : List Value} (h0 : 0 < cs.length) (h : ∀ j (hj : j < cs.length), w.cell? ⟨b, o + j, none⟩ = some cs[j]) : At w b o cs := by
  have hb : ∃ l t fz, w.heap[b]? = some (.cells ⟨l⟩ t fz) := by
    have := h 0 h0
    unfold World.cell? at this
    split at this
    · rename_i c t fz hc; exact ⟨c.toList, t, fz, hc⟩
    · cases this
  obtain ⟨l, t, fz, hb⟩ := hb
  have hget : ∀ j (hj : j < cs.length), l[o + j]? = some cs[j] := fun j hj => by rw [← cell_of hb]; exact h j hj
  have hlen : o + cs.length ≤ l.length := by
    have := (List.getElem?_eq_some_iff.1 (hget (cs.length - 1) (by omega))).1
    omega
  refine ⟨l, t, fz, hb, hlen, ?_⟩
  apply List.ext_getElem?
  intro i
  by_cases hi : i < cs.length
  · rw [List.getElem?_take, if_pos hi, List.getElem?_drop, hget i hi]; simp [hi]
  · rw [List.getElem?_eq_none (by simp; omega), List.getElem?_eq_none (by omega)]
theorem open_bytes {r : Reach} {b0 : Nat} {t e : TypeId} {v : Value} {d : DataW H} {ps : List MemPlace} (ht : P.underlying t = some (.slice e)) (he : P.underlying e = some (.int .u8)) (hc : P.cellsOf e = 1)
    (hval : Value.okWide P w r b0 t v) (hd : DataW.Trod enc P w base (fun _ => true) held t v d ps) :
    ∃ a l c xs, v = .slice a l c ∧ xs.length = l ∧ Row w a (u8L xs) ∧ (a = none → l = 0 ∧ c = 0) ∧ l ≤ c ∧ ((d = .nil ∧ c = 0) ∨ ∃ e1 e2, d = .slice e1 e2 ∧ e1.length + e2.length = c) := by
  obtain ⟨fuel, hf⟩ := hd
  obtain ⟨a, l, c, rfl⟩ := okWide_slice ht hval
  rcases open_ints ht he hc hf with ⟨h1, h2⟩ | ⟨a', l', c', zs, h1, _, hlc, _, hz, hx, hcell, hwf⟩
  · simp [Value.cells] at h1
    obtain ⟨rfl, rfl, rfl⟩ := h1
    simp at h2
    exact ⟨none, 0, 0, [], rfl, rfl, .inl rfl, fun _ => ⟨rfl, rfl⟩, Nat.le_refl _, .inl ⟨h2.1, rfl⟩⟩
  · simp [Value.cells] at h1
    obtain ⟨rfl, rfl, rfl⟩ := h1
    rw [if_pos rfl] at hz
    simp only [Prod.mk.injEq] at hx
    refine ⟨some a', l, c, (zs.take l).map fun z => UInt8.ofNat z.toNat, rfl, by simp; omega, ?_, (fun h => by cases h), hlc, .inr ⟨_, _, hx.1, by simp [lits]; omega⟩⟩
    by_cases h0 : l = 0
    · left; subst h0; simp [u8L]
    · right
      obtain ⟨b, off, rfl, hcell'⟩ := Go.ints_at hcell (by omega)
      refine ⟨b, off, rfl, At.of_cells (by simp; omega) fun j hj => ?_⟩
      have hj' : j < zs.length := by simp at hj; omega
      rw [hcell' j hj']
      have hw : (Lit.int .u8 zs[j]).wf = true := hwf _ (List.getElem_mem hj')
      have hb : 0 ≤ zs[j] ∧ zs[j] ≤ 255 := by simpa [Lit.wf, IntKind.min, IntKind.max, IntKind.signed, IntKind.bits] using hw
      have e1 : zs.getD j 0 = zs[j] := by simp [hj']
      rw [e1]
      simp only [u8L, u8, List.map_map, List.getElem_map, List.getElem_take, Function.comp]
      have : (UInt8.ofNat zs[j].toNat).toNat = zs[j].toNat := by rw [UInt8.toNat_ofNat']; omega
      rw [this]; congr 2; omega
end
end Go.Den
end
section
open Go Go.Den
namespace Go.Den
open Go.ChangeShapes Go.WideShapes Go.RowKit
section
variable {H : Type} {enc : TypeId × Value → H} {P : Program} {w : World} {base : Nat} {held : Bool}
theorem bytes_max {t e : TypeId} {a : Option Addr} {l c : Nat} {d : DataW H} {ps : List MemPlace} (ht : P.underlying t = some (.slice e)) (hd : DataW.Trod enc P w base (fun _ => true) held t (.slice a l c) d ps) : l ≤ 9223372036854775807 := by
  obtain ⟨fuel, hf⟩ := hd
  rcases DataW.trod_slice ht hf with ⟨h1, _⟩ | ⟨a', l', c', _, _, _, _, h1, _, _, hlc, hm, _⟩
  · simp [Value.cells] at h1; omega
  · simp [Value.cells] at h1; simp [maxLen] at hm; omega
end
end Go.Den
end
