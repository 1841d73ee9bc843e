/- Parts of the proof, in order: what the statement leans on. -/
import Derived.Test.YtelhlihjihklbaaGreatBe
section
open Go Go.Den Go.Proofs
namespace Go.Proofs.YtelhlihjihklbaaGreat
section
variable {w:World} {K:Value->World->Prop}
def nmF (xs:List UInt8) (j:Nat):Nd:={ readN xs with p:=(List.range 8).map fun k=>if k<j then nmAt xs k else 0 }
theorem nmF_len (xs:List UInt8) (j:Nat):(nV (nmF xs j)).length=12:=rfl
theorem nmF_set {xs:List UInt8} {j:Nat} (hj:j<8):(nV (nmF xs j)).set (4+j) (.int .i64 (nmAt xs j))=nV (nmF xs (j+1)):=by
 match j,hj with
 | 0,_=>rfl
 | 1,_=>rfl
 | 2,_=>rfl
 | 3,_=>rfl
 | 4,_=>rfl
 | 5,_=>rfl
 | 6,_=>rfl
 | 7,_=>rfl
set_option maxRecDepth 8000 in
theorem rinoGet_c {a : Option Addr} {l c : Nat} {xs : List UInt8} (hl : xs.length = l) (hc : l ≤ c) (hr : Row w a (u8L xs)) (h63 : l ≤ 1048576)
    (hk : ∀ w', Mod No w w' → K (.tuple #[.agg ⟨nV (inoG xs).1⟩, .int .i64 (inoG xs).2]) w') : Cal Tryz.prog F_leveeref07_Get #[.slice a l c] w K := by
  apply C_leveeref07_Get
  unfold D_leveeref07_Get
  obtain ⟨w1, b1, b2, b3, b4⟩ := new_u (P := Tryz.prog) (w := w) (T := 218) zero_ino
  have fin : ∀ (w' : World) (i : Nd) (e : Int), Mod No w1 w' → (i, e) = inoG xs → ∃ w3 : World, RuU (Instr.storeAt 218 (.pointer (some ⟨w.heap.size, 0, none⟩)) (.agg ⟨nV i⟩)) w' w3 ∧ ∃ gR2 : Array Value, Ru (Instr.loadAt 218 (.pointer (some ⟨w.heap.size, 0, none⟩))) w3 (.agg gR2) w3 ∧ K (.tuple #[.agg gR2, .int .i64 e]) w3 := fun w' i e m he => by
    have hw : nWf i := by have := inoG_wf xs; rw [← he] at this; exact this
    obtain ⟨w3, c1, c2, c3, c4⟩ := (b2.keep m id).put (T := 218) (vs := nV i) agg_ino rfl (nV_len hw) (one_nV _)
    refine ⟨w3, c1, _, c2.at.all agg_ino (nV_len hw), ?_⟩
    have := hk w3 ((b3.no m).own c3 (Nat.le_refl _))
    rw [← he] at this
    exact this
  refine ⟨_, w1, b1, ?_⟩
  rw [bneI]
  refine cond_of (fun h => ⟨_, build_ino0, ?_⟩) (fun h => ?_)
  · have h := of_decide_eq_true h
    exact fin w1 nZ 4 (Mod.refl _ _) (by unfold inoG; rw [if_pos (by omega)])
  have hl2 : xs.length = 64 := by have := of_decide_eq_false h; omega
  have hl' : l = 64 := by omega
  subst hl'
  have hr1 := hr.nos b3
  have h00 : 0 < xs.length := by omega
  obtain ⟨bb, oo, rfl, _⟩ := row_at hr h00
  have at0 : ∀ {w' : World}, Mod No w1 w' → At w' bb oo (u8L xs) := fun m => by
    obtain ⟨b', o', e, h⟩ := row_at (hr1.nos m) h00
    cases e; exact h
  have ex0 : (xs.getD 0 0) = xs[0] := by rw [List.getD_eq_getElem?_getD, List.getElem?_eq_getElem h00]; rfl
  have l0 : ∀ {w' : World}, Mod No w1 w' → Ru (Instr.loadAt 5 (.pointer (some (Addr.add ⟨bb, oo, none⟩ ((0 : Int).toNat * 1))))) w' (.int .u8 (xs[0].toNat : Int)) w' := fun m => by
    rw [add_none]; exact (at0 m).load (i := 0) sc_u8 (u8L_get h00)
  have n2 : leN ((xs.drop 2).take 2) < 256 ^ 2 := leN_sub (by omega)
  have n4 : leN ((xs.drop 4).take 4) < 256 ^ 4 := leN_sub (by omega)
  have hx0 := xs[0].toNat_lt
  have eN : (⟨IntKind.i64.wrap (xs[0].toNat : Int), IntKind.i64.wrap (leN ((xs.drop 2).take 2) : Int), IntKind.i64.wrap (leN ((xs.drop 4).take 4) : Int), IntKind.i64.wrap (leN ((xs.drop 8).take 8) : Int), [0, 0, 0, 0, 0, 0, 0, 0]⟩ : Nd) = readN4 xs := by
    unfold readN4 readN
    rw [wrap64 (x := (xs[0].toNat : Int)) (by omega) (by omega), wrap64 (x := (leN ((xs.drop 2).take 2) : Int)) (by omega) (by omega), wrap64 (x := (leN ((xs.drop 4).take 4) : Int)) (by omega) (by omega), ex0]
  have tail : ∀ (w5 : World) (q : Nat), Mod No w1 w5 → w1.heap.size ≤ q → AtU w5 q 0 (nV nZ) →
      ∃ w7 : World, RuU (Instr.storeAt 218 (.pointer (some ⟨q, 0, none⟩)) (.agg ⟨nV (readN4 xs)⟩)) w5 w7 ∧ LoopC (fun k x w8 =>
       ∃ n5 : Int, nth x 0 = .int .i64 n5 ∧ (bif decide (n5 < 6) then
       ∃ (a41 : Option Addr) (l41 c41 : Nat), Al (Instr.sliceAt 88 (.slice (some ⟨bb, oo, none⟩) 64 c) (some (.int .i64 (IntKind.i64.wrap (16 + (IntKind.i64.wrap (2 * n5)))))) (some (.int .i64 (IntKind.i64.wrap (18 + (IntKind.i64.wrap (2 * n5)))))) none) (.slice a41 l41 c41) ∧ Cal Tryz.prog F_leveeref01_Get #[.slice a41 l41 c41] w8 fun r42 w9 => ∃ n42 : Int, r42 = .int .u64 n42 ∧ ∃ q45 : Addr, Al (Instr.indexAt 216 (.pointer (some (Addr.add ⟨q, 0, none⟩ 4))) (.int .i64 n5)) (.pointer (some q45)) ∧ ∃ w10 : World, RuU (Instr.storeAt 3 (.pointer (some q45)) (.int .i64 (IntKind.i64.wrap n42))) w9 w10 ∧ k [.int .i64 (IntKind.i64.wrap (n5 + 1))] w10
       else
       ∃ (a47 : Option Addr) (l47 c47 : Nat), Al (Instr.sliceAt 88 (.slice (some ⟨bb, oo, none⟩) 64 c) (some (.int .i64 28)) (some (.int .i64 30)) none) (.slice a47 l47 c47) ∧ Cal Tryz.prog F_leveeref01_Get #[.slice a47 l47 c47] w8 fun r48 w11 => ∃ n48 : Int, r48 = .int .u64 n48 ∧ ∃ w12 : World, RuU (Instr.storeAt 3 (.pointer (some (Addr.add ⟨q, 0, none⟩ 10))) (.int .i64 (IntKind.i64.wrap n48))) w11 w12 ∧ ∃ (a52 : Option Addr) (l52 c52 : Nat), Al (Instr.sliceAt 88 (.slice (some ⟨bb, oo, none⟩) 64 c) (some (.int .i64 30)) (some (.int .i64 32)) none) (.slice a52 l52 c52) ∧ Cal Tryz.prog F_leveeref01_Get #[.slice a52 l52 c52] w12 fun r53 w13 => ∃ n53 : Int, r53 = .int .u64 n53 ∧ ∃ w14 : World, RuU (Instr.storeAt 3 (.pointer (some (Addr.add ⟨q, 0, none⟩ 11))) (.int .i64 (IntKind.i64.wrap n53))) w13 w14 ∧ ∃ g57 : Array Value, Ru (Instr.loadAt 218 (.pointer (some ⟨q, 0, none⟩))) w14 (.agg g57) w14 ∧ Cal Tryz.prog F_leveeref07_Put #[.agg g57] w14 fun r58 w15 => ∃ (a58a : Option Addr) (l58a c58a : Nat), ∃ n58b : Int, r58 = .tuple #[.slice a58a l58a c58a, .int .i64 n58b] ∧ Share (fun k_2 => (bif n58b != 0 then k_2 [.bool true] w15 else ∃ s65 : ByteArray, Ru (convert 88 9 (.slice a58a l58a c58a)) w15 (.string s65) w15 ∧ ∃ s67 : ByteArray, Ru (convert 88 9 (.slice (some ⟨bb, oo, none⟩) 64 c)) w15 (.string s67) w15 ∧ k_2 [.bool (!((ByteArray.toList s65) == (ByteArray.toList s67)))] w15)) fun x_2 w16 =>
       ∃ b69 : Bool, nth x_2 0 = .bool b69 ∧ (bif b69 then
       ∃ g70 : Array Value, Al (Instr.build 218 #[]) (.agg g70) ∧ ∃ w17 : World, RuU (Instr.storeAt 218 (.pointer (some ⟨w.heap.size, 0, none⟩)) (.agg g70)) w16 w17 ∧ ∃ gR2_2 : Array Value, Ru (Instr.loadAt 218 (.pointer (some ⟨w.heap.size, 0, none⟩))) w17 (.agg gR2_2) w17 ∧ K (.tuple #[.agg gR2_2, .int .i64 8]) w17
       else
       ∃ g71 : Array Value, Ru (Instr.loadAt 218 (.pointer (some ⟨q, 0, none⟩))) w16 (.agg g71) w16 ∧ ∃ w18 : World, RuU (Instr.storeAt 218 (.pointer (some ⟨w.heap.size, 0, none⟩)) (.agg g71)) w16 w18 ∧ ∃ gR2_3 : Array Value, Ru (Instr.loadAt 218 (.pointer (some ⟨w.heap.size, 0, none⟩))) w18 (.agg gR2_3) w18 ∧ K (.tuple #[.agg gR2_3, .int .i64 0]) w18))) [.int .i64 0] w7 := by
    intro w5 q m5 hq hat
    obtain ⟨w7, c1, c2, c3, c4⟩ := hat.put (T := 218) (vs := nV (readN4 xs)) agg_ino rfl rfl (one_nV _)
    have m7 : Mod No w1 w7 := m5.own c3 hq
    refine ⟨w7, c1, ?_⟩
    have c2 : AtU w7 q 0 (nV (nmF xs 0)) := c2
    refine ⟨fun x w9 => ∃ j : Nat, j ≤ 6 ∧ x = [.int .i64 j] ∧ AtU w9 q 0 (nV (nmF xs j)) ∧ Mod No w1 w9, fun x _ => (6 - nI x 0).toNat, ⟨0, by omega, rfl, c2, m7⟩, ?_⟩
    rintro x w9 ⟨j, hj, rfl, ha, m9⟩
    refine ⟨_, rfl, cond_of (fun hl => ?_) (fun hl => ?_)⟩
    · have hl := of_decide_eq_true hl
      have e1 : IntKind.i64.wrap (16 + (IntKind.i64.wrap (2 * (j : Int)))) = ((16 + 2 * j : Nat) : Int) := by rw [wrap64 (x := 2 * (j : Int)) (by omega) (by omega), wrap64 (by omega) (by omega)]; omega
      have e2 : IntKind.i64.wrap (18 + (IntKind.i64.wrap (2 * (j : Int)))) = ((18 + 2 * j : Nat) : Int) := by rw [wrap64 (x := 2 * (j : Int)) (by omega) (by omega), wrap64 (by omega) (by omega)]; omega
      rw [e1, e2]
      have nj : leN ((xs.drop (16 + 2 * j)).take 2) < 256 ^ 2 := leN_sub (by omega)
      refine ⟨_, _, _, slice_lh elemN_bytes (by omega) (by omega) (by omega), ?_⟩
      rw [show ((16 + 2 * j : Nat) : Int).toNat = 16 + 2 * j by omega]
      refine getR (i := 16 + 2 * j) (m := 2) hl2 hc (hr1.nos m9) (by omega) (by omega) (by omega) ⟨_, rfl, _, index_arr arrI6 (by omega) (by omega), ?_⟩
      rw [wrap64 (x := (leN ((xs.drop (16 + 2 * j)).take 2) : Int)) (by omega) (by omega)]
      obtain ⟨w11, p1, p2, p3, p4⟩ := ha.putE (P := Tryz.prog) (T := 3) (j := 4) (i := j) (v := .int .i64 (nmAt xs j)) sc_int (by rw [nmF_len]; omega) rfl
      rw [nmF_set (by omega)] at p2
      rw [wrap64 (x := (j : Int) + 1) (by omega) (by omega)]
      exact ⟨w11, p1, ⟨j + 1, by omega, by simp, p2, m9.own p3 hq⟩, by simp [nI, nth]; omega⟩
    have hl := of_decide_eq_false hl
    have hj6 : j = 6 := by omega
    subst hj6
    have n28 : leN ((xs.drop 28).take 2) < 256 ^ 2 := leN_sub (by omega)
    have n30 : leN ((xs.drop 30).take 2) < 256 ^ 2 := leN_sub (by omega)
    refine ⟨_, _, _, slice_lh elemN_bytes (by omega) (by omega) (by omega), ?_⟩
    refine getR (i := 28) (m := 2) hl2 hc (hr1.nos m9) (by omega) (by omega) rfl ⟨_, rfl, ?_⟩
    rw [wrap64 (x := (leN ((xs.drop 28).take 2) : Int)) (by omega) (by omega)]
    obtain ⟨w13, s1, s2, s3, s4⟩ := ha.putF (P := Tryz.prog) (T := 3) (j := 10) (v := .int .i64 (nmAt xs 6)) sc_int (show 10 < 12 by decide) rfl
    have m13 := m9.own s3 hq
    refine ⟨w13, s1, _, _, _, slice_lh elemN_bytes (by omega) (by omega) (by omega), ?_⟩
    refine getR (i := 30) (m := 2) hl2 hc (hr1.nos m13) (by omega) (by omega) rfl ⟨_, rfl, ?_⟩
    rw [wrap64 (x := (leN ((xs.drop 30).take 2) : Int)) (by omega) (by omega)]
    obtain ⟨w14, t1, t2, t3, t4⟩ := s2.putF (P := Tryz.prog) (T := 3) (j := 11) (v := .int .i64 (nmAt xs 7)) sc_int (show 11 < 12 by decide) rfl
    have t2 : AtU w14 q 0 (nV (readN xs)) := t2
    have M14 : Mod No w1 w14 := m13.own t3 hq
    refine ⟨w14, t1, _, t2.at.all agg_ino rfl, ?_⟩
    have last : ∀ (w12 : World) (b : Bool), Mod No w14 w12 → (b = false ↔ nOk (readN xs) = true ∧ inoB (readN xs) = xs) → ∃ b69 : Bool, nth [.bool b] 0 = .bool b69 ∧ (bif b69 then
       ∃ g70 : Array Value, Al (Instr.build 218 #[]) (.agg g70) ∧ ∃ w17 : World, RuU (Instr.storeAt 218 (.pointer (some ⟨w.heap.size, 0, none⟩)) (.agg g70)) w12 w17 ∧ ∃ gR2_2 : Array Value, Ru (Instr.loadAt 218 (.pointer (some ⟨w.heap.size, 0, none⟩))) w17 (.agg gR2_2) w17 ∧ K (.tuple #[.agg gR2_2, .int .i64 8]) w17
       else
       ∃ g71 : Array Value, Ru (Instr.loadAt 218 (.pointer (some ⟨q, 0, none⟩))) w12 (.agg g71) w12 ∧ ∃ w18 : World, RuU (Instr.storeAt 218 (.pointer (some ⟨w.heap.size, 0, none⟩)) (.agg g71)) w12 w18 ∧ ∃ gR2_3 : Array Value, Ru (Instr.loadAt 218 (.pointer (some ⟨w.heap.size, 0, none⟩))) w18 (.agg gR2_3) w18 ∧ K (.tuple #[.agg gR2_3, .int .i64 0]) w18) := by
      intro w12 b m12 hb
      refine ⟨_, rfl, cond_of (fun h => ⟨_, build_ino0, ?_⟩) (fun h => ⟨_, (t2.keep m12 id).at.all agg_ino rfl, ?_⟩)⟩
      · exact fin w12 nZ 8 (M14.no m12) (by rw [inoG_doc hl2, if_neg fun e => by rw [hb.2 e] at h; cases h])
      · exact fin w12 (readN xs) 0 (M14.no m12) (by rw [inoG_doc hl2, if_pos (hb.1 h)])
    refine rinoPut_c (readN_wf xs) (fun ho w11 m11 => ⟨_, _, _, _, rfl, Share.dup (tt rfl ?_)⟩) (fun ho w11 d e m11 o11 => ⟨_, _, _, _, rfl, Share.dup (ff rfl ⟨_, str_run (xs := inoB (readN xs)) mix_sup o11.rowU.row (inoB_len (readN_wf xs)), _, str_run (xs := xs) mix_sup (hr1.nos (M14.no m11)) hl2, ?_⟩)⟩)
    · refine last w11 true m11 ⟨fun e => (by cases e), fun e => ?_⟩
      rw [ho] at e; cases e.1
    · rw [beq_toList]
      refine last w11 _ m11 ?_
      rw [Bool.not_eq_false', decide_eq_true_iff]
      exact ⟨fun e => ⟨ho, e⟩, fun e => e.2⟩
  have md : Mod No w1 (Go.Den.drew w1) := (Mod.refl No w1).drew
  obtain ⟨w2, e1, e2, e3, e4⟩ := new_u (P := Tryz.prog) (w := Go.Den.drew w1) (T := 218) zero_ino
  have m2 : Mod No w1 w2 := md.no e3
  have t2 := tail w2 _ m2 (Nat.le_refl _) e2
  have bN := build_ino4 (IntKind.i64.wrap (xs[0].toNat : Int)) (IntKind.i64.wrap (leN ((xs.drop 2).take 2) : Int)) (IntKind.i64.wrap (leN ((xs.drop 4).take 4) : Int)) (IntKind.i64.wrap (leN ((xs.drop 8).take 8) : Int))
  rw [eN] at bN
  have g2 : ∀ {w' : World} {Q : Value → World → Prop}, Mod No w1 w' → Q (.int .u64 (leN ((xs.drop 2).take 2) : Int)) w' → Cal Tryz.prog F_leveeref01_Get #[.slice (cutA (some ⟨bb, oo, none⟩) c (2 : Int).toNat 1) ((4 : Int).toNat - (2 : Int).toNat) (c - (2 : Int).toNat)] w' Q := fun m hq => getR (i := 2) (m := 2) hl2 hc (hr1.nos m) (by omega) (by omega) rfl hq
  have g4 : ∀ {w' : World} {Q : Value → World → Prop}, Mod No w1 w' → Q (.int .u64 (leN ((xs.drop 4).take 4) : Int)) w' → Cal Tryz.prog F_leveeref01_Get #[.slice (cutA (some ⟨bb, oo, none⟩) c (4 : Int).toNat 1) ((8 : Int).toNat - (4 : Int).toNat) (c - (4 : Int).toNat)] w' Q := fun m hq => getR (i := 4) (m := 4) hl2 hc (hr1.nos m) (by omega) (by omega) rfl hq
  have g8 : ∀ {w' : World} {Q : Value → World → Prop}, Mod No w1 w' → Q (.int .u64 (leN ((xs.drop 8).take 8) : Int)) w' → Cal Tryz.prog F_leveeref01_Get #[.slice (cutA (some ⟨bb, oo, none⟩) c (8 : Int).toNat 1) ((16 : Int).toNat - (8 : Int).toNat) (c - (8 : Int).toNat)] w' Q := fun m hq => getR (i := 8) (m := 8) hl2 hc (hr1.nos m) (by omega) (by omega) rfl hq
  refine ⟨_, index_slice elemN_bytes (by omega) (by omega), _, l0 md, _, _, _, slice_lh elemN_bytes (by omega) (by omega) (by omega), _, _, _, slice_lh elemN_bytes (by omega) (by omega) (by omega), _, _, _, slice_lh elemN_bytes (by omega) (by omega) (by omega), ?_⟩
  exact ⟨g2 md ⟨_, rfl, l0 md, g4 md ⟨_, rfl, l0 md, g8 md ⟨_, rfl, l0 md, _, bN, _, w2, e1, l0 m2, t2⟩, _, w2, e1, l0 m2, g8 m2 ⟨_, rfl, l0 m2, _, bN, t2⟩⟩, _, w2, e1, l0 m2, g4 m2 ⟨_, rfl, l0 m2, g8 m2 ⟨_, rfl, l0 m2, _, bN, t2⟩⟩⟩, _, w2, e1, l0 m2, g2 m2 ⟨_, rfl, l0 m2, g4 m2 ⟨_, rfl, l0 m2, g8 m2 ⟨_, rfl, l0 m2, _, bN, t2⟩⟩⟩⟩
end
end Go.Proofs.YtelhlihjihklbaaGreat
end
section
open Go Go.Den Go.Proofs
namespace Go.Den
section
variable {P:Program} {w:World}
end
end Go.Den
namespace Go.Proofs.YtelhlihjihklbaaGreat
def Rx (w0:World) (R:Nat->Prop) (w:World) (rp r:Nat) (S:Rs):Prop:=∃ rl vb vc hs ba bc la lc H,RIn w0 R rl w rp r vb vc hs ba bc la lc H S
section
variable {w0 w w':World} {R:Nat->Prop} {rl:Nat->Nat} {rp r vb vc bc lc:Nat} {hs:List (Nat×Nat)} {ba la:Option Addr} {H:List (Option Addr×Nat)} {S:Rs} {K:Value->World->Prop}
theorem Rx.nos (h:Rx w0 R w rp r S) (k:Mod No w w'):Rx w0 R w' rp r S:=by
 obtain ⟨rl,vb,vc,hs,ba,bc,la,lc,H,h⟩:=h; exact ⟨rl,vb,vc,hs,ba,bc,la,lc,H,h.nos k⟩
theorem Rx.keep {Z:Nat->Prop} (h:Rx w0 R w rp r S) (k:Mod Z w w') (hsr:∀ x,R x->¬ Z x) (hw:∀ x,x<w0.heap.size->¬ Z x):Rx w0 R w' rp r S:=by
 obtain ⟨rl,vb,vc,hs,ba,bc,la,lc,H,h⟩:=h; exact ⟨rl,vb,vc,hs,ba,bc,la,lc,H,h.keepS k hsr hw⟩
theorem Rx.wf (h:Rx w0 R w rp r S):WFR S/\WF S.D/\Mod No w0 w/\∀ x,R x->w0.heap.size<=x/\x<w.heap.size:=by
 obtain ⟨rl,vb,vc,hs,ba,bc,la,lc,H,h⟩:=h; exact ⟨h.wf,h.disk.wf,h.mod,h.lo⟩
end
end Go.Proofs.YtelhlihjihklbaaGreat
end
section
open Go Go.Den Go.Proofs
namespace Go.Proofs.YtelhlihjihklbaaGreat
section
variable {w0 w w':World} {R:Nat->Prop} {rl:Nat->Nat} {rp r vb vc bc lc:Nat} {hs:List (Nat×Nat)} {ba la:Option Addr} {H:List (Option Addr×Nat)} {S:Rs} {K:Value->World->Prop}
theorem build_rst (w:World) (p:Option Addr):(Instr.build 181 #[(0,.pointer p)]).run Tryz.prog w=.ok (.agg ⟨[.pointer p,.slice none 0 0,.slice none 0 0,.int .i64 0]⟩) w:=by kernel_rfl
theorem box_rst (w:World) (cs:List Value):(Instr.box 181 (.agg ⟨cs⟩)).run Tryz.prog w=.ok (.pointer (some ⟨w.heap.size,0,none⟩)) (w.alloc (.cells ⟨cs⟩ 181)):=rfl
theorem elemG_strs:elemG Tryz.prog 178 1 16:=elemG_of (by kernel_rfl)
def newRs (D:St):Rs:=⟨D,(List.range D.vs.length).map fun b=>atD D b,[],0⟩
theorem rOpen11_c {D:St} (hd:RefIn w R r vb vc hs D) (hsm:Small D) (hlo:∀ x,R x->w0.heap.size<=x/\x<w.heap.size) (hm:Mod No w0 w)
  (hk:∀ w' rp,Mod No w w'->Rx w0 (Gro R w w') w' rp r (newRs D)->K (.pointer (some ⟨rp,0,none⟩)) w'):Cal Tryz.prog F_leveeref11_Open #[.pointer (some ⟨r,0,none⟩)] w K:=by
 classical
 apply C_leveeref11_Open
 unfold D_leveeref11_Open
 refine ⟨_,fun w=>build_rst w _,_,_,box_rst _ _,?_⟩
 have hhi:=hd.wf.hi
 have m1:Mod No w (w.alloc (.cells ⟨[.pointer (some ⟨r,0,none⟩),.slice none 0 0,.slice none 0 0,.int .i64 0]⟩ 181)):=(Mod.refl No w).alloc _
 have a1:AtU (w.alloc (.cells ⟨[.pointer (some ⟨r,0,none⟩),.slice none 0 0,.slice none 0 0,.int .i64 0]⟩ 181)) w.heap.size 0 [.pointer (some ⟨r,0,none⟩),.slice none 0 0,.slice none 0 0,.int .i64 0]:=AtU.new
 have s1:(w.alloc (.cells ⟨[.pointer (some ⟨r,0,none⟩),.slice none 0 0,.slice none 0 0,.int .i64 0]⟩ 181)).heap.size=w.heap.size+1:=by simp
 generalize w.alloc (.cells ⟨[.pointer (some ⟨r,0,none⟩),.slice none 0 0,.slice none 0 0,.int .i64 0]⟩ 181)=w1 at *
 refine ⟨fun x w2=>∃ (i:Nat) (a:Option Addr) (c:Nat),x=[.int .i64 i]/\i<=D.vs.length/\AtU w2 w.heap.size 0 [.pointer (some ⟨r,0,none⟩),.slice a i c,.slice none 0 0,.int .i64 0]/\Ow Tryz.prog w2 w1.heap.size 178 1 a i c (((List.range i).map fun b=>atD D b).map strV)/\Mod No w w2,fun x _=>(D.vs.length-nI x 0).toNat,
  ⟨0,none,0,rfl,by omega,a1,Ow.nilG elemG_strs,m1⟩,?_⟩
 rintro x w2 ⟨i,a,c,rfl,hi,a2,o2,m2⟩
 have hd2:=hd.nos m2
 have hz2:=m2.size
 have hlt2:=a2.lt
 have ob:∀ {q},a=some q->_:=fun {q} hq=>o2.base (q:=q) hq
 refine ⟨_,rfl,_,rfl,_,_,_,rv hd2,cond_of (fun hb=>?_) (fun hb=>?_)⟩
 ·have hi:i<D.vs.length:=by have:=of_decide_eq_true hb; omega
  have hat:=rd_at D hi
  refine refRead_c (n:=(i:Int)) hd2 hsm fun w3 a3 c3 m3 f3=>⟨_,_,_,_,rfl,_,rfl,?_⟩
  rw [hat.2] at f3 |-
  have M3:=m2.no m3
  have a3':=(a2.keep m3 id).drew
  have f3':=f3.nos (Mod.refl No w3).drew
  have hl256:(atD D i).length=256:=by
   unfold atD
   rw [ver_at hi]
   exact hd.wf.lastLen (List.getElem?_eq_getElem hi)
  have ld:∀ {w':World} (_:AtU w' w.heap.size 0 [.pointer (some ⟨r,0,none⟩),.slice a i c,.slice none 0 0,.int .i64 0]),Ru (Instr.loadAt 178 (.pointer (some (Addr.add ⟨w.heap.size,0,none⟩ 1)))) w' (.slice a i c) w':=fun h=>by rw [add_none]; exact h.at.load (by kernel_rfl) rfl
  refine ⟨_,_,_,ld a3',_,str_run (by kernel_rfl) f3'.row rfl,_,_,_,_,built_str _ _,?_⟩
  have m4:Mod No (drew w3) ((drew w3).alloc (.cells ⟨[.string ⟨(atD D i).toArray⟩]⟩ 9)):=(Mod.refl No _).alloc _
  have r4:Row ((drew w3).alloc (.cells ⟨[.string ⟨(atD D i).toArray⟩]⟩ 9)) (some ⟨(drew w3).heap.size,0,none⟩) [strV (atD D i)]:=.inr ⟨_,_,rfl,AtU.new.at⟩
  generalize (drew w3).alloc (.cells ⟨[.string ⟨(atD D i).toArray⟩]⟩ 9)=w4 at *
  have a4:=a3'.keep m4 id
  have hz3:=m3.size
  have hz4:w3.heap.size<=w4.heap.size:=m4.size
  obtain ⟨q,c',w5,run,p5,mm,hq5⟩:=(((o2.nos m3).nos (Mod.refl No w3).drew).nos m4).appG (ty:=178) (m:=1) (c2:=1) elemG_strs (by omega) r4 rfl (by omega) (by intro v hv; rw [List.mem_singleton.1 hv]; rfl) (by omega) (by omega) (by omega)
  have hz5:=mm.size
  have a5:=a4.keep mm fun ⟨q',hq',e⟩=>by have:=(ob hq').1; omega
  obtain ⟨w6,st6,a6,m6,_⟩:=a5.store (P:=Tryz.prog) (T:=178) (i:=1) (v:=.slice (some q) (i+1) c') (by kernel_rfl) (by simp) rfl
  refine ⟨ld a4,_,_,_,w5,run,_,rfl,w6,by rw [add_none]; exact st6,?_⟩
  rw [wrap64 (x:=(i:Int)+1) (by omega) (by omega)]
  refine ⟨⟨i+1,some q,c',rfl,by omega,a6,?_,((((m2.no m3).no (Mod.refl No w3).drew).no m4).trans mm fun z hz ⟨q',hq',e⟩=>by have:=(ob hq').1; omega).trans m6 fun z hz e=>by have e:z=w.heap.size:=e; omega⟩,by simp [nI,nth]; omega⟩
  rw [List.range_succ,List.map_append,List.map_append]
  exact p5.keep m6 fun q' hq' e=>by
   cases hq'
   have e:q.block=w.heap.size:=e
   rcases hq5 with ⟨q',hq',e2⟩ | e2
   ·have:=(ob hq').1; omega
   ·omega
 ·have hi:i=D.vs.length:=by have:=of_decide_eq_false hb; omega
  subst hi
  have hw0:=hm.size
  have hR:∀ x,R x->x≠w.heap.size:=fun x hx=>by have:=hlo x hx; omega
  refine hk w2 w.heap.size m2 ⟨fun x=>if x=w.heap.size then 1 else if R x then 4 else if w1.heap.size<=x/\x<w2.heap.size then 2 else 0,vb,vc,hs,a,c,none,0,[],{
   disk:=?_
   cell:=by
    show AtU w2 w.heap.size 0 [.pointer (some ⟨r,0,none⟩),.slice a ((List.range D.vs.length).map fun b=>atD D b).length c,.slice none 0 0,.int .i64 0]
    rw [List.length_map,List.length_range]; exact a2
   base:=by
    show Ow Tryz.prog w2 w0.heap.size 178 1 a ((List.range D.vs.length).map fun b=>atD D b).length c _
    rw [List.length_map,List.length_range]; exact o2.mono (by omega)
   row:=Ow.nilG elemG_chgs
   hl:=rfl
   aft:=fun i x p hx=>by cases hx
   rp1:=by rw [if_pos rfl]
   rba:=fun q hq=>by
    have:=ob hq
    have hn:¬ R q.block:=fun e=>by have:=hlo _ e; omega
    rw [if_neg (by omega),if_neg hn,if_pos (by omega)]
   rla:=fun q hq=>by cases hq
   wf:={
    len:=by show ((List.range D.vs.length).map fun b=>atD D b).length=D.vs.length; rw [List.length_map,List.length_range]
    small:=hsm
    bl:=fun b hb=>by
     obtain ⟨i,hi,rfl⟩:=List.mem_map.1 hb
     have hi:=List.mem_range.1 hi
     unfold atD
     rw [ver_at hi]
     exact hd.wf.lastLen (List.getElem?_eq_getElem hi)
    dat:=fun x hx=>by cases hx
    blt:=fun x hx=>by cases hx
    srt:=List.Pairwise.nil
    idr:=fun x hx=>by cases hx
    aft:=fun x hx=>by cases hx
    aftn:=fun x hx=>by cases hx
    last:=by show 0<=1000000; omega }
   reg:=fun x hx=>by
    by_cases hRx:R x
    ·exact .inl hRx
    ·right
     by_cases e1:x=w.heap.size
     ·omega
     ·rw [if_neg e1,if_neg hRx] at hx
      split at hx
      ·omega
      ·exact absurd rfl hx
   lo:=fun x hx=>by
    rcases hx with hx | hx
    ·have:=hlo x hx; omega
    ·omega
   mod:=hm.no m2 }⟩
  have e4:(fun x=>(if x=w.heap.size then 1 else if R x then 4 else if w1.heap.size<=x/\x<w2.heap.size then 2 else 0)=4)=R:=by
   funext x
   apply propext
   constructor
   ·intro e
    split at e
    ·omega
    ·split at e
     ·assumption
     ·split at e <;> omega
   ·intro hx
    rw [if_neg (hR x hx),if_pos hx]
  rw [e4]
  exact hd2
end
end Go.Proofs.YtelhlihjihklbaaGreat
end
section
open Go Go.Den Go.Proofs
namespace Go.Proofs.YtelhlihjihklbaaGreat
def rootN:Nd:=⟨2,1,0,1,[0,0,0,0,0,0,0,0]⟩
theorem rootN_wf:nWf rootN:=rfl
theorem rootN_ok:nOk rootN=true:=by decide
def volB (g:Gm) (k i:Nat):Bk:=if i=0 then grpB g (hBase g k) else if k=0/\i=1 then overB zeroB 64 (inoB rootN) else zeroB
def volX (g:Gm) (k i:Nat):Int×Bk:=(2+k*g.gr+i,volB g k i)
def volG (g:Gm) (k n:Nat):List (Int×Bk):=(List.range n).map (volX g k)
def volN (g:Gm):Nat:=1+(gTabs g).toNat
def volL (g:Gm) (n:Nat):List (Int×Bk):=(List.range n).flatMap fun k=>volG g k (volN g)
def wrAll (D:St) (l:List (Int×Bk)):St:=l.foldl (fun D x=>wrSt D x.1 x.2) D
def fmt0 (D:St):St:=flSt (wrSt (wrSt D 0 zeroB) 1 zeroB)
def fmt1 (D:St) (g:Gm):St:=flSt (wrAll (fmt0 D) (volL g g.gs.toNat))
def fmtSt (D:St) (g:Gm):St:=flSt (wrSt (fmt1 D g) 1 (supB ⟨1,g⟩))
def fmtE (D:St) (g:Gm):Int:=if gOk g=false then 1 else if (D.vs.length:Int)<gSize g then 4 else 0
theorem zeroB_len:zeroB.length=256:=List.length_replicate
theorem volB_len (g:Gm) (k i:Nat):(volB g k i).length=256:=by
 unfold volB
 split
 ·exact grpB_len (hBase_wf _ _)
 split
 ·rw [overB_len (by rw [inoB_len rootN_wf,zeroB_len]; omega),zeroB_len]
 ·exact zeroB_len
theorem volG_succ (g:Gm) (k n:Nat):volG g k (n+1)=volG g k n++[volX g k n]:=by
 unfold volG; rw [List.range_succ,List.map_append]; rfl
theorem volL_succ (g:Gm) (n:Nat):volL g (n+1)=volL g n++volG g n (volN g):=by
 unfold volL; rw [List.range_succ,List.flatMap_append]; simp
theorem wrAll_snoc (D:St) (l:List (Int×Bk)) (x:Int×Bk):wrAll D (l++[x])=wrSt (wrAll D l) x.1 x.2:=by
 unfold wrAll; rw [List.foldl_append]; rfl
theorem wrAll_app (D:St) (l m:List (Int×Bk)):wrAll D (l++m)=wrAll (wrAll D l) m:=List.foldl_append
theorem wrSt_len (D:St) (n:Int) (ys:Bk):(wrSt D n ys).vs.length=D.vs.length:=by
 unfold wrSt; split
 ·rfl
 ·simp
theorem wrSt_run {D:St} (h:D.left=-1) (n:Int) (ys:Bk):(wrSt D n ys).left=-1:=by
 unfold wrSt; split
 ·exact h
 ·show dec D.left=-1; rw [h]; rfl
theorem flSt_len (D:St):(flSt D).vs.length=D.vs.length:=by
 unfold flSt; split
 ·rfl
 ·simp
theorem flSt_run {D:St} (h:D.left=-1):(flSt D).left=-1:=by
 unfold flSt; split
 ·exact h
 ·show dec D.left=-1; rw [h]; rfl
theorem wrAll_len (D:St) (l:List (Int×Bk)):(wrAll D l).vs.length=D.vs.length:=by
 induction l generalizing D with
 | nil=>rfl
 | cons x l ih=>exact (ih _).trans (wrSt_len _ _ _)
theorem wrAll_run {D:St} (h:D.left=-1) (l:List (Int×Bk)):(wrAll D l).left=-1:=by
 induction l generalizing D with
 | nil=>exact h
 | cons x l ih=>exact ih (wrSt_run h _ _)
theorem Bnd_all {D:St} {m:Nat} (h:Bnd D m) (l:List (Int×Bk)):Bnd (wrAll D l) (m+l.length):=by
 induction l generalizing D m with
 | nil=>exact h
 | cons x l ih =>
  have:=ih (Bnd_wr h x.1 x.2)
  rw [List.length_cons]
  exact this.mono (by omega)
theorem volG_len (g:Gm) (k n:Nat):(volG g k n).length=n:=by simp [volG]
theorem volN_b {g:Gm} (h:gOk g=true):(volN g:Int)=1+g.no / 4/\volN g<=17:=by
 have e:gTabs g=g.no / 4:=by unfold gTabs; rw [if_pos h]
 obtain ⟨_,_,_,_,h5,h6,_⟩:=gOk_iff.1 h
 unfold volN
 rw [e]
 constructor <;> omega
theorem volL_len {g:Gm} (h:gOk g=true) (n:Nat):(volL g n).length<=17*n:=by
 induction n with
 | zero=>exact Nat.le_refl _
 | succ n ih =>
  have:=(volN_b h).2
  rw [volL_succ,List.length_append,volG_len]; omega
theorem volX_in {g:Gm} (h:gOk g=true) {k i n:Nat} (hk:(k:Int)<g.gs) (hi:i<volN g) (hn:gSize g<=n):2<=(volX g k i).1/\(volX g k i).1<n:=by
 have hv:=(volN_b h).1
 have e:gSize g=2+g.gs*g.gr:=by unfold gSize; rw [if_pos h]
 obtain ⟨h1,h2,h3,h4,h5,h6,h7,h8,h9⟩:=gOk_iff.1 h
 have hmul:((k:Int)+1)*g.gr<=g.gs*g.gr:=Int.mul_le_mul_of_nonneg_right (by omega) (by omega)
 have hp:0<=(k:Int)*g.gr:=Int.mul_nonneg (by omega) (by omega)
 have hs:((k:Int)+1)*g.gr=k*g.gr+g.gr:=by rw [Int.add_mul,Int.one_mul]
 show 2<=2+(k:Int)*g.gr+i/\2+(k:Int)*g.gr+i<n
 omega
theorem fmt0_run {D:St} (h:D.left=-1):(fmt0 D).left=-1:=flSt_run (wrSt_run (wrSt_run h _ _) _ _)
theorem fmt0_len (D:St):(fmt0 D).vs.length=D.vs.length:=by unfold fmt0; rw [flSt_len,wrSt_len,wrSt_len]
theorem fmt1_run {D:St} (h:D.left=-1) (g:Gm):(fmt1 D g).left=-1:=flSt_run (wrAll_run (fmt0_run h) _)
theorem fmt1_len (D:St) (g:Gm):(fmt1 D g).vs.length=D.vs.length:=by unfold fmt1; rw [flSt_len,wrAll_len,fmt0_len]
theorem fmtSt_run {D:St} (h:D.left=-1) (g:Gm):(fmtSt D g).left=-1:=flSt_run (wrSt_run (fmt1_run h g) _ _)
theorem fmtSt_len (D:St) (g:Gm):(fmtSt D g).vs.length=D.vs.length:=by unfold fmtSt; rw [flSt_len,wrSt_len,fmt1_len]
theorem fmt0_bnd {D:St} (h:D.left=-1):Bnd (fmt0 D) 1:=Bnd_fl (wrSt_run (wrSt_run h _ _) _ _) (Nat.le_refl _)
theorem fmt1_bnd {D:St} (h:D.left=-1) (g:Gm):Bnd (fmt1 D g) 1:=Bnd_fl (wrAll_run (fmt0_run h) _) (Nat.le_refl _)
theorem fmtSt_bnd {D:St} (h:D.left=-1) (g:Gm):Bnd (fmtSt D g) 1:=Bnd_fl (wrSt_run (fmt1_run h g) _ _) (Nat.le_refl _)
def headAt (D:St) (g:Gm) (k:Int):Hd×Int:=if (gHead g k).2≠0 then (hZ,(gHead g k).2) else hGet g (rdB D (gHead g k).1)
def slotAt (D:St) (g:Gm) (s:Int):Nd×Int:=if (gPlace g s).2.2≠0 then (nZ,(gPlace g s).2.2) else inoAt (rdB D (gPlace g s).1) (gPlace g s).2.1
theorem headAt_wf (D:St) (g:Gm) (k:Int):hWf (headAt D g k).1:=by unfold headAt; split; exact hZ_wf; exact hGet_wf _ _
theorem slotAt_wf (D:St) (g:Gm) (s:Int):nWf (slotAt D g s).1:=by unfold slotAt; split; exact nZ_wf; exact inoAt_wf _ _
def headOk (D:St) (g:Gm) (k:Nat):Bool:=decide ((headAt D g k).2=0/\(headAt D g k).1.no=k)
def rootOk (D:St) (g:Gm):Bool:=decide ((slotAt D g 1).2=0/\(slotAt D g 1).1.kind=2)
def mntOk (D:St) (g:Gm):Bool:=(List.range g.gs.toNat).all (headOk D g)&&rootOk D g
def mntS (D:St):Sp×Int×Int:=supChoose (rdB D 0) (rdB D 1) D.vs.length
def mnt (D:St):Sp×Int:=if (mntS D).2.2≠0 then (sZ,(mntS D).2.2) else if mntOk D (mntS D).1.geo=true then ((mntS D).1,0) else (sZ,8)
def nextTo (D:St) (g:Gm):Nat->Int
 | 0=>0
 | n+1=>if (slotAt D g n).1.id > nextTo D g n then (slotAt D g n).1.id else nextTo D g n
theorem nextTo_nn (D:St) (g:Gm):∀ n,0<=nextTo D g n
 | 0=>Int.le_refl _
 | n+1=>by
  have:=nextTo_nn D g n
  unfold nextTo
  split <;> omega
theorem inoG_id (xs:List UInt8):0<=(inoG xs).1.id/\(inoG xs).1.id<=4611686018427387904:=by
 unfold inoG
 split
 ·decide
 split
 ·rename_i h
  have:=nOk_b h.2.2
  exact ⟨this.2.2.2.2.2.2.1,this.2.2.2.2.2.2.2.1⟩
 ·decide
theorem nZ_id:0<=nZ.id/\nZ.id<=4611686018427387904:=by decide
theorem slotAt_id (D:St) (g:Gm) (s:Int):0<=(slotAt D g s).1.id/\(slotAt D g s).1.id<=4611686018427387904:=by
 unfold slotAt
 split
 ·exact nZ_id
 unfold inoAt
 split
 ·exact nZ_id
 ·exact inoG_id _
theorem nextTo_b (D:St) (g:Gm):∀ n,nextTo D g n<=4611686018427387904
 | 0=>by show (0:Int)<=_; decide
 | n+1=>by
  have:=nextTo_b D g n
  have:=(slotAt_id D g n).2
  unfold nextTo
  split <;> omega
theorem inoG_bad (xs:List UInt8) (h:(inoG xs).2≠0):(inoG xs).1=nZ:=by
 unfold inoG at *
 split
 ·rfl
 split
 ·rename_i h1 h2
  rw [if_neg h1,if_pos h2] at h
  exact absurd rfl h
 ·rfl
theorem slotAt_bad {D:St} {g:Gm} {s:Int} (h:(slotAt D g s).2≠0):(slotAt D g s).1=nZ:=by
 unfold slotAt at *
 split
 ·rfl
 rename_i h1
 rw [if_neg h1] at h
 unfold inoAt at *
 split
 ·rfl
 rename_i h2
 rw [if_neg h2] at h
 exact inoG_bad _ h
theorem hOk_base {g:Gm} (h:gOk g=true) {k:Int} (h0:0<=k) (h1:k<g.gs):hOk g (hBase g k)=true:=by
 have hv:=volN_b h
 have hn:1+(gTabs g).toNat=volN g:=rfl
 obtain ⟨g1,g2,g3,g4,g5,g6,g7,g8,g9⟩:=gOk_iff.1 h
 refine hOk_iff.2 ⟨h,⟨h0,h1⟩,fun i hi=>⟨fun e=>?_,fun e=>?_⟩,fun i hi=>⟨fun e=>?_,fun e e2=>?_⟩⟩
 ·show bitB (baseB (1+(gTabs g).toNat)) i=true
  rw [hn,bitB_base (by omega),decide_eq_true_iff]; omega
 ·show bitB (baseB (1+(gTabs g).toNat)) i=false
  rw [hn,bitB_base (by omega),decide_eq_false_iff_not]; omega
 ·show bitB (baseS k) i=false
  rw [bitB_baseS,Bool.and_eq_false_iff,decide_eq_false_iff_not,decide_eq_false_iff_not]; omega
 ·show bitB (baseS k) i=true
  have e1:k=0:=e
  rw [bitB_baseS,decide_eq_true e1,decide_eq_true e2]; rfl
theorem wrE_in {D:St} {n:Int} {ys:Bk} (h0:0<=n) (h1:n<D.vs.length) (h:ys.length=256):wrE D n ys=0:=by
 have e:errOf D n=0:=by unfold errOf; rw [if_neg (by omega)]
 unfold wrE
 rw [e,if_neg (by decide),if_neg (by omega)]
end Go.Proofs.YtelhlihjihklbaaGreat
end
section
open Go Go.Den Go.Proofs
namespace Go.Proofs.YtelhlihjihklbaaGreat
def grMay (g:Gm) (h:Hd) (i f t:Int):Int:=if hOk g h=false then 1 else if i<f\/t<=i then 3 else 0
def useBk (g:Gm) (h:Hd) (i:Int) (on:Bool):Hd×Int :=
 if grMay g h i (1+gTabs g) g.gr≠0 then (hZ,grMay g h i (1+gTabs g) g.gr) else if bitB h.bs i.toNat=on then (hZ,6) else (⟨h.no,putB h.bs i.toNat on,h.ss⟩,0)
def slF (h:Hd):Int:=if h.no=0 then 2 else 0
def useSl (g:Gm) (h:Hd) (i:Int) (on:Bool):Hd×Int :=
 if grMay g h i (slF h) g.no≠0 then (hZ,grMay g h i (slF h) g.no) else if bitB h.ss i.toNat=on then (hZ,6) else (⟨h.no,h.bs,putB h.ss i.toNat on⟩,0)
theorem grMay_0 {g:Gm} {h:Hd} {i f t:Int} (e:grMay g h i f t=0):hOk g h=true/\f<=i/\i<t:=by
 unfold grMay at e
 split at e
 ·cases e
 ·rename_i h1
  split at e
  ·cases e
  ·rename_i h2
   exact ⟨by simpa using h1,by omega,by omega⟩
theorem useBk_wf {g:Gm} {h:Hd} (hw:hWf h) (i:Int) (on:Bool):hWf (useBk g h i on).1:=by
 unfold useBk
 split
 ·exact hZ_wf
 split
 ·exact hZ_wf
 ·exact ⟨by show (putB _ _ _).length=16; rw [putB_len]; exact hw.1,hw.2⟩
theorem useSl_wf {g:Gm} {h:Hd} (hw:hWf h) (i:Int) (on:Bool):hWf (useSl g h i on).1:=by
 unfold useSl
 split
 ·exact hZ_wf
 split
 ·exact hZ_wf
 ·exact ⟨hw.1,by show (putB _ _ _).length=8; rw [putB_len]; exact hw.2⟩
theorem gTabs_eq {g:Gm} (h:gOk g=true):gTabs g=g.no / 4:=by unfold gTabs; rw [if_pos h]
theorem useBk_ok {g:Gm} {h:Hd} {i:Int} {on:Bool} (hw:hWf h) (e:(useBk g h i on).2=0) :
  hOk g (useBk g h i on).1=true/\(useBk g h i on).1=⟨h.no,putB h.bs i.toNat on,h.ss⟩/\hOk g h=true/\bitB h.bs i.toNat≠on/\1+gTabs g<=i/\i<g.gr:=by
 unfold useBk at e |-
 split at e
 ·rename_i h1; exact absurd e h1
 rename_i h1
 have h1:=Classical.not_not.1 h1
 split at e
 ·cases e
 rename_i h2
 rw [if_neg (by rw [h1]; decide),if_neg h2]
 obtain ⟨k1,k2,k3⟩:=grMay_0 h1
 refine ⟨?_,rfl,k1,h2,k2,k3⟩
 obtain ⟨g1,g2,g3,g4⟩:=hOk_iff.1 k1
 have hT:=gTabs_eq g1
 obtain ⟨q1,q2,_⟩:=gOk_iff.1 g1
 have hi:i.toNat<8*h.bs.length:=by rw [hw.1]; omega
 refine hOk_iff.2 ⟨g1,g2,fun j hj=>⟨fun hjt=>?_,fun hjt=>?_⟩,g4⟩
 ·show bitB (putB h.bs i.toNat on) j=true
  rw [bitB_putB hi,if_neg (by omega)]; exact (g3 j hj).1 hjt
 ·show bitB (putB h.bs i.toNat on) j=false
  rw [bitB_putB hi,if_neg (by omega)]; exact (g3 j hj).2 hjt
theorem useSl_ok {g:Gm} {h:Hd} {i:Int} {on:Bool} (hw:hWf h) (e:(useSl g h i on).2=0) :
  hOk g (useSl g h i on).1=true/\(useSl g h i on).1=⟨h.no,h.bs,putB h.ss i.toNat on⟩/\hOk g h=true/\bitB h.ss i.toNat≠on/\slF h<=i/\i<g.no:=by
 unfold useSl at e |-
 split at e
 ·rename_i h1; exact absurd e h1
 rename_i h1
 have h1:=Classical.not_not.1 h1
 split at e
 ·cases e
 rename_i h2
 rw [if_neg (by rw [h1]; decide),if_neg h2]
 obtain ⟨k1,k2,k3⟩:=grMay_0 h1
 refine ⟨?_,rfl,k1,h2,k2,k3⟩
 obtain ⟨g1,g2,g3,g4⟩:=hOk_iff.1 k1
 obtain ⟨_,_,_,_,q5,q6,_⟩:=gOk_iff.1 g1
 have hf:0<=slF h:=by unfold slF; split <;> decide
 have hi:i.toNat<8*h.ss.length:=by rw [hw.2]; omega
 refine hOk_iff.2 ⟨g1,g2,g3,fun j hj=>⟨fun hjt=>?_,fun hn hjt=>?_⟩⟩
 ·show bitB (putB h.ss i.toNat on) j=false
  rw [bitB_putB hi,if_neg (by omega)]; exact (g4 j hj).1 hjt
 ·show bitB (putB h.ss i.toNat on) j=true
  have hn:h.no=0:=hn
  have:slF h=2:=by unfold slF; rw [if_pos hn]
  rw [bitB_putB hi,if_neg (by omega)]; exact (g4 j hj).2 hn hjt
def findBk (g:Gm) (h:Hd) (f:Int):Int:=if hOk g h=true then firstB h.bs g.gr f else -1
def findSl (g:Gm) (h:Hd) (f:Int):Int:=if hOk g h=true then firstB h.ss g.no f else -1
theorem findBk_use {g:Gm} {h:Hd} {f:Int} (hw:hWf h) (e:0<=findBk g h f):(useBk g h (findBk g h f) true).2=0/\findBk g h f<g.gr:=by
 unfold findBk at e |-
 by_cases ho:hOk g h=true
 ·rw [if_pos ho] at e |-
  obtain ⟨i,h1,h2,h3,h4⟩:=firstB_some e
  rw [h1]
  obtain ⟨g1,g2,g3,g4⟩:=hOk_iff.1 ho
  have hT:=gTabs_eq g1
  obtain ⟨q1,q2,_⟩:=gOk_iff.1 g1
  have hge:1+gTabs g<=(i:Int):=by
   refine Classical.byContradiction fun hn=>?_
   rw [(g3 i (by omega)).1 (by omega)] at h2; cases h2
  have hm:grMay g h i (1+gTabs g) g.gr=0:=by unfold grMay; rw [if_neg (by rw [ho]; decide),if_neg (by omega)]
  unfold useBk
  rw [hm,if_neg (by decide),Int.toNat_natCast,if_neg (by rw [h2]; decide)]
  exact ⟨rfl,h3⟩
 ·rw [if_neg ho] at e; omega
theorem findSl_use {g:Gm} {h:Hd} {f:Int} (hw:hWf h) (e:0<=findSl g h f):(useSl g h (findSl g h f) true).2=0/\findSl g h f<g.no:=by
 unfold findSl at e |-
 by_cases ho:hOk g h=true
 ·rw [if_pos ho] at e |-
  obtain ⟨i,h1,h2,h3,h4⟩:=firstB_some e
  rw [h1]
  obtain ⟨g1,g2,g3,g4⟩:=hOk_iff.1 ho
  obtain ⟨_,_,_,_,q5,q6,_⟩:=gOk_iff.1 g1
  have hge:slF h<=(i:Int):=by
   unfold slF
   split
   ·rename_i hn
    refine Classical.byContradiction fun hlt=>?_
    rw [(g4 i (by omega)).2 hn (by omega)] at h2; cases h2
   ·omega
  have hm:grMay g h i (slF h) g.no=0:=by unfold grMay; rw [if_neg (by rw [ho]; decide),if_neg (by omega)]
  unfold useSl
  rw [hm,if_neg (by decide),Int.toNat_natCast,if_neg (by rw [h2]; decide)]
  exact ⟨rfl,h3⟩
 ·rw [if_neg ho] at e; omega
theorem readH_grpB {g:Gm} {h:Hd} (hw:hWf h) (ho:hOk g h=true):readH (grpB g h)=h:=by
 obtain ⟨g1,g2,_⟩:=hOk_iff.1 ho
 obtain ⟨q1,q2,q3,q4,_⟩:=gOk_iff.1 g1
 have hfl:=gFront_len g h
 have e1:(grpB g h).drop 4=toLe 2 h.no.toNat++(toLe 2 (hFree g h).1.toNat++toLe 2 (hFree g h).2.toNat++List.replicate 6 0++h.bs++h.ss++List.replicate 216 0):=by
  unfold grpB gFront gMark
  simp only [List.append_assoc]; rfl
 have e16:(grpB g h).drop 16=h.bs++(h.ss++List.replicate 216 0):=by
  unfold grpB
  have hl16:(gFront g h++List.replicate 6 0).length=16:=by rw [List.length_append,hfl]; rfl
  rw [List.append_assoc,List.append_assoc,List.drop_append,List.drop_eq_nil_of_le (by rw [hl16]; exact Nat.le_refl _),List.nil_append,hl16]
  rfl
 have e32:(grpB g h).drop 32=h.ss++List.replicate 216 0:=by
  rw [show 32=16+16 by rfl,<- List.drop_drop,e16,List.drop_append,List.drop_eq_nil_of_le (by rw [hw.1]; exact Nat.le_refl _),hw.1,List.nil_append]; rfl
 unfold readH
 rw [e1,e16,e32,List.take_append_of_le_length (by rw [length_toLe]; exact Nat.le_refl _),List.take_of_length_le (by rw [length_toLe]; exact Nat.le_refl _),List.take_append_of_le_length (by rw [hw.1]; exact Nat.le_refl _),List.take_of_length_le (by rw [hw.1]; exact Nat.le_refl _),List.take_append_of_le_length (by rw [hw.2]; exact Nat.le_refl _),List.take_of_length_le (by rw [hw.2]; exact Nat.le_refl _)]
 have:leN (toLe 2 h.no.toNat)=h.no.toNat:=leN_toLe _ _ (by omega)
 rw [this]
 cases h
 simp only [Hd.mk.injEq,and_true]
 simp only at g2
 omega
theorem hGet_grpB {g:Gm} {h:Hd} (hw:hWf h) (ho:hOk g h=true):hGet g (grpB g h)=(h,0):=by
 have hr:=readH_grpB hw ho
 unfold hGet
 rw [if_neg (by rw [(hOk_iff.1 ho).1]; decide),if_neg (by rw [grpB_len hw]; decide),hr,if_pos ⟨ho,rfl⟩]
theorem grp_over {g:Gm} {h h':Hd} (hw:hWf h) (hw':hWf h'):overB (grpB g h) 0 ((grpB g h').take 64)=grpB g h':=by
 have cut:∀ {h:Hd},hWf h->(grpB g h).drop 64=List.replicate 192 0:=fun {h} hw=>by
  have:(gFront g h++List.replicate 6 0++h.bs++h.ss).length=40:=by
   rw [List.length_append,List.length_append,List.length_append,gFront_len,hw.1,hw.2,List.length_replicate]
  unfold grpB
  rw [List.drop_append,List.drop_eq_nil_of_le (by omega),List.nil_append,this]
  rfl
 have hl:((grpB g h').take 64).length=64:=by rw [List.length_take,grpB_len hw']; rfl
 unfold overB
 rw [hl,List.take_zero,List.nil_append,Nat.zero_add,cut hw,<- cut hw',List.take_append_drop]
end Go.Proofs.YtelhlihjihklbaaGreat
end
section
open Go Go.Den Go.Proofs
namespace Go.Proofs.YtelhlihjihklbaaGreat
section
variable {w:World} {K:Value->World->Prop}
theorem rtab_or {p:Int} {w1:World} {C:List Value->World->Prop} (hk:C [.bool (decide (p<0\/4<=p))] w1):Share (fun k=>(bif decide (p<0) then k [.bool true] w1 else k [.bool (decide (p > 3))] w1)) C:=by
 refine Share.cut (fun z w4=>w4=w1/\z=[.bool (decide (p<0\/4<=p))]) (cond_of (fun h1=>⟨rfl,?_⟩) (fun h1=>⟨rfl,?_⟩)) ?_
 ·have h1:=of_decide_eq_true h1
  rw [decide_eq_true (show p<0\/4<=p from .inl h1)]
 ·have h1:=of_decide_eq_false h1
  by_cases h2:p > 3
  ·rw [decide_eq_true h2,decide_eq_true (show p<0\/4<=p by omega)]
  ·rw [decide_eq_false h2,decide_eq_false (show ¬ (p<0\/4<=p) by omega)]
 rintro z w4 ⟨rfl,rfl⟩
 exact hk
theorem rinoRead_c {a:Option Addr} {l c:Nat} {p:Int} {xs:List UInt8} (hl:xs.length=l) (hc:l<=c) (hr:Row w a (u8L xs)) (h63:l<=1048576)
  (hk:∀ w',Mod No w w'->K (.tuple #[.agg ⟨nV (inoAt xs p).1⟩,.int .i64 (inoAt xs p).2]) w'):Cal Tryz.prog F_leveeref07_Read #[.slice a l c,.int .i64 p] w K:=by
 apply C_leveeref07_Read
 unfold D_leveeref07_Read
 obtain ⟨w1,b1,b2,b3,b4⟩:=new_u (P:=Tryz.prog) (w:=w) (T:=218) zero_ino
 have fin:∀ (w':World) (i:Nd) (e:Int),Mod No w1 w'->(i,e)=inoAt xs p->∃ w3:World,RuU (Instr.storeAt 218 (.pointer (some ⟨w.heap.size,0,none⟩)) (.agg ⟨nV i⟩)) w' w3/\∃ gR2:Array Value,Ru (Instr.loadAt 218 (.pointer (some ⟨w.heap.size,0,none⟩))) w3 (.agg gR2) w3/\K (.tuple #[.agg gR2,.int .i64 e]) w3:=fun w' i e m he=>by
  have hw:nWf i:=by have:=inoAt_wf xs p; rw [<- he] at this; exact this
  obtain ⟨w3,c1,c2,c3,c4⟩:=(b2.keep m id).put (T:=218) (vs:=nV i) agg_ino rfl (nV_len hw) (one_nV _)
  refine ⟨w3,c1,_,c2.at.all agg_ino (nV_len hw),?_⟩
  have:=hk w3 ((b3.no m).own c3 (Nat.le_refl _))
  rw [<- he] at this
  exact this
 refine ⟨_,w1,b1,?_⟩
 rw [bneI]
 refine cond_of (fun h=>⟨_,build_ino0,?_⟩) (fun h=>?_)
 ·have h:=of_decide_eq_true h
  have e:tabE l p=4:=by unfold tabE; rw [if_pos (by omega)]
  exact fin w1 nZ 4 (Mod.refl _ _) (by unfold inoAt; rw [hl,e,if_pos (by decide)])
 have h:=of_decide_eq_false h
 have hl':l=256:=by omega
 subst hl'
 refine rtab_or ⟨_,rfl,cond_of (fun h1=>⟨_,build_ino0,?_⟩) (fun h1=>?_)⟩
 ·have e:tabE 256 p=3:=by unfold tabE; rw [if_neg (by omega),if_pos (of_decide_eq_true h1)]
  exact fin w1 nZ 3 (Mod.refl _ _) (by unfold inoAt; rw [hl,e,if_pos (by decide)])
 have e:tabE 256 p=0:=by unfold tabE; rw [if_neg (by omega),if_neg (of_decide_eq_false h1)]
 obtain ⟨_,hp0,hp4⟩:=tabMay_ok e
 obtain ⟨k,rfl⟩:∃ k:Nat,p=k:=⟨p.toNat,by omega⟩
 have e1:IntKind.i64.wrap (64*(k:Int))=((64*k:Nat):Int):=by rw [wrap64 (by omega) (by omega)]; omega
 have e2:IntKind.i64.wrap (((64*k:Nat):Int)+64)=((64*k+64:Nat):Int):=by rw [wrap64 (by omega) (by omega)]; omega
 rw [e1,e2]
 refine ⟨_,_,_,slice_lh elemN_bytes (by omega) (by omega) (by omega),?_⟩
 rw [show ((64*k:Nat):Int).toNat=64*k by omega,show ((64*k+64:Nat):Int).toNat-64*k=64 by omega]
 refine rinoGet_c (xs:=(xs.drop (64*k)).take 64) (by simp; omega) (by omega) ((hr.nos b3).cut (by omega) (by omega)) (by omega) fun w4 m4=>⟨_,_,rfl,?_⟩
 exact fin w4 _ _ m4 (by unfold inoAt; rw [hl,if_neg (by omega)]; rfl)
theorem rinoLay_c {a:Option Addr} {l c:Nat} {p:Int} {xs:List UInt8} {i:Nd} (hw:nWf i) (hl:xs.length=l) (hc:l<=c) (hr:Row w a (u8L xs)) (ha:a≠none) (h63:l<=1048576) (hm:tabE l p=0) (ho:nOk i=true)
  (hk:∀ w' a' c',Mod No w w'->Ow Tryz.prog w' w.heap.size 88 1 a' 256 c' (u8L (overB xs (64*p.toNat) (inoB i)))->K (.tuple #[.slice a' 256 c',.int .i64 0]) w'):Cal Tryz.prog F_leveeref07_Lay #[.slice a l c,.int .i64 p,.agg ⟨nV i⟩] w K:=by
 apply C_leveeref07_Lay
 unfold D_leveeref07_Lay
 obtain ⟨w1,a1,a2,a3,a4⟩:=box_u (P:=Tryz.prog) (w:=w) (T:=218) (cs:=nV i)
 obtain ⟨rfl,hp0,hp4⟩:=tabMay_ok hm
 refine ⟨_,w1,a1,ff rfl (rtab_or ⟨_,rfl,ff (by rw [decide_eq_false (by omega)]) ?_⟩)⟩
 obtain ⟨k,rfl⟩:∃ k:Nat,p=k:=⟨p.toNat,by omega⟩
 have e1:IntKind.i64.wrap (64*(k:Int))=((64*k:Nat):Int):=by rw [wrap64 (by omega) (by omega)]; omega
 rw [e1]
 refine ⟨_,a2.at.all agg_ino (nV_len hw),rinoPut_c hw (fun h=>by rw [ho] at h; cases h) fun _ w3 q d m3 o3=>⟨_,_,_,_,rfl,ff rfl ?_⟩⟩
 have M3:=a3.no m3
 have hq:q≠none:=fun e=>by
  obtain ⟨g,h,_⟩:=o3.sm (by omega)
  rw [e] at h; cases h
 refine rLay1_c (b:=xs) (ys:=inoB i) hl (inoB_len hw) (by omega) (by omega) hc (hr.nos M3) o3.rowU.row ha hq fun w4 a4 c4 m4 o4=>⟨_,_,_,_,rfl,?_⟩
 exact hk w4 a4 c4 (M3.no m4) (o4.mono M3.size)
end
end Go.Proofs.YtelhlihjihklbaaGreat
end
section
open Go Go.Den Go.Proofs
namespace Go.Proofs.YtelhlihjihklbaaGreat
def Dx (wb:World) (R0:Nat->Prop) (N:Nat) (w:World) (d:Nat) (D:St):Prop :=
 ∃ R sb mb sc L,DiskIn w R d sb mb sc L D/\(∀ x,R x->(R0 x\/wb.heap.size<=x)/\x<N)/\Mod R0 wb w/\N<=w.heap.size
section
variable {wb w w':World} {R0:Nat->Prop} {N d:Nat} {D:St} {K:Value->World->Prop}
theorem Dx.nos (h:Dx wb R0 N w d D) (m:Mod No w w'):Dx wb R0 N w' d D:=by
 obtain ⟨R,sb,mb,sc,L,h1,h2,h3,h4⟩:=h
 exact ⟨R,sb,mb,sc,L,h1.nos m,h2,h3.no m,Nat.le_trans h4 m.size⟩
theorem Dx.mod (h:Dx wb R0 N w d D):Mod R0 wb w:=by obtain ⟨_,_,_,_,_,_,_,h,_⟩:=h; exact h
theorem Dx.size (h:Dx wb R0 N w d D):N<=w.heap.size:=by obtain ⟨_,_,_,_,_,_,_,_,h⟩:=h; exact h
theorem Dx.start {R:Nat->Prop} {sb mb sc:Nat} {L:List (Int×Value)} (h:DiskIn w R d sb mb sc L D) (m:Mod No w wb):Dx wb R w.heap.size wb d D :=
 ⟨R,sb,mb,sc,L,h.nos m,fun x hx=>⟨.inl hx,h.lt x hx⟩,Mod.refl _ _,m.size⟩
theorem Dx.write (h:Dx wb R0 N w d D) (hs:∀ v∈D.vs,v.length<=999999) {n:Int} {a:Option Addr} {l c:Nat} {ys:List UInt8} (hl:ys.length=l) (hr:Row w a (u8L ys)) (hdis:∀ q,a=some q->N<=q.block)
  (hk:∀ w',Dx wb R0 w'.heap.size w' d (wrSt D n ys)->K (.int .i64 (wrE D n ys)) w'):Cal Tryz.prog F_disk_Disk_Write #[.pointer (some ⟨d,0,none⟩),.int .i64 n,.slice a l c] w K:=by
 obtain ⟨R,sb,mb,sc,L,h1,h2,h3,h4⟩:=h
 refine Write_c h1 hs hl hr (fun q hq hR=>?_) fun w' L' m hd'=>hk w' ⟨Gro R w w',sb,mb,sc,L',hd',fun x hx=>?_,h3.trans m fun x hx hR=>?_,Nat.le_refl _⟩
 ·have:=(h2 _ hR).2
  have:=hdis q hq
  omega
 ·rcases hx with hx | hx
  ·have h5:=h2 x hx; have:=m.size
   exact ⟨h5.1,by omega⟩
  ·have:=h3.size
   exact ⟨.inr (by omega),hx.2⟩
 ·exact ((h2 x hR).1).resolve_right (by omega)
theorem Dx.flush (h:Dx wb R0 N w d D) (hs:Small D) (hk:∀ w',Dx wb R0 w'.heap.size w' d (flSt D)->K (.int .i64 0) w'):Cal Tryz.prog F_disk_Disk_Flush #[.pointer (some ⟨d,0,none⟩)] w K:=by
 obtain ⟨R,sb,mb,sc,L,h1,h2,h3,h4⟩:=h
 refine Flush_c h1 hs fun w' L' m hd'=>hk w' ⟨R,sb,mb,sc,L',hd',fun x hx=>?_,h3.trans m fun x hx hR=>?_,Nat.le_refl _⟩
 ·have h5:=h2 x hx; have:=m.size
  exact ⟨h5.1,by omega⟩
 ·exact ((h2 x hR).1).resolve_right (by omega)
theorem Dx.len (h:Dx wb R0 N w d D) (hk:K (.int .i64 D.vs.length) w):Cal Tryz.prog F_disk_Disk_Len #[.pointer (some ⟨d,0,none⟩)] w K:=by
 obtain ⟨R,sb,mb,sc,L,h1,h2,h3,h4⟩:=h
 exact Len_c h1 hk
theorem build_root:Al (Instr.build 218 #[(0,.int .i64 2),(1,.int .i64 1),(3,.int .i64 1)]) (.agg ⟨nV rootN⟩):=fun w=>by kernel_rfl
theorem Bnd9 {m:Nat} (h:Bnd D m) (hm:m<=999999):∀ v∈D.vs,v.length<=999999:=fun v hv=>Nat.le_trans (h v hv) hm
theorem BndS {m:Nat} (h:Bnd D m) (hm:m<=999999):Small D:=fun v hv=>Nat.le_trans (h v hv) (by omega)
set_option maxRecDepth 8000 in
theorem each_c {R:Nat->Prop} {sb mb sc:Nat} {L:List (Int×Value)} {g:Gm} (h:DiskIn w R d sb mb sc L D) (hg:gOk g=true) (hn:gSize g<=D.vs.length) (hb:Bnd D 1)
  (hk:∀ w1 N w',Mod No w w1->w.heap.size<=N->Dx w1 R N w' d (wrAll D (volL g g.gs.toNat))->K (.int .i64 0) w') :
  Cal Tryz.prog F_vol_each #[.agg ⟨gV g⟩,.int .i64 0,.func (.func F_disk_Disk_Write) #[.pointer (some ⟨d,0,none⟩)] #[]] w K:=by
 apply C_vol_each
 unfold D_vol_each
 obtain ⟨w1,a1,a2,a3,a4⟩:=box_u (P:=Tryz.prog) (w:=w) (T:=40) (cs:=gV g)
 have hnR:¬ R w.heap.size:=fun e=>Nat.lt_irrefl _ (h.lt _ e)
 have hq:∀ {w2:World} {N:Nat} {D':St},Dx w1 R N w2 d D'->AtU w2 w.heap.size 0 (gV g):=fun x=>a2.keep x.mod hnR
 obtain ⟨g1,g2,g3,g4,g5,g6,g7,g8,g9⟩:=gOk_iff.1 hg
 have hvn:=volN_b hg
 have hlen:=h.wf.hi
 refine ⟨_,w1,a1,fun x w2=>∃ (k N:Nat) (y1 y2 y3:Value),(k:Int)<=g.gs/\x=[.int .i64 k,y1,y2,y3]/\w.heap.size<=N/\Dx w1 R N w2 d (wrAll D (volL g k)),fun x _=>(g.gs-nI x 0).toNat,
  ⟨0,_,undef,undef,undef,by omega,rfl,Nat.le_refl _,Dx.start h a3⟩,?_⟩
 rintro x w2 ⟨k,N,y1,y2,y3,hkg,rfl,hN,hx⟩
 refine ⟨_,rfl,_,(hq hx).at.fld sc_int rfl,cond_of (fun hl=>?_) (fun hl=>?_)⟩
 ·have hl:(k:Int)<g.gs:=of_decide_eq_true hl
  have eF:hFresh g k=(hBase g k,0):=by unfold hFresh; rw [if_pos ⟨hg,by omega,hl⟩]
  have eH:gHead g k=(2+k*g.gr,0):=by unfold gHead; rw [if_pos hg,if_pos ⟨by omega,hl⟩]
  refine ⟨_,(hq hx).at.all agg_geo rfl,fresh_c fun w3 m3=>⟨_,_,rfl,?_⟩⟩
  rw [eF]
  have x3:=hx.nos m3
  obtain ⟨w4,b1,b2,b3,b4⟩:=new_u (P:=Tryz.prog) (w:=w3) (T:=119) zero_head
  have x4:=x3.nos b3
  obtain ⟨w5,c1,c2,c3,c4⟩:=b2.put (T:=119) (vs:=hV (hBase g k)) agg_head rfl (hV_len (hBase_wf _ _)) (one_hV _)
  have m5:Mod No w3 w5:=b3.own c3 (Nat.le_refl _)
  have x5:=x3.nos m5
  refine ⟨_,w4,b1,w5,c1,_,(hq x5).at.all agg_geo rfl,_,c2.at.all agg_head (hV_len (hBase_wf _ _)),hPut_c (hBase_wf _ _) (fun e=>by rw [hOk_base hg (by omega) hl] at e; cases e) fun _ w6 q m6 hq6 h6=>⟨_,_,_,_,rfl,?_⟩⟩
  have x6:=x5.nos m6
  refine ⟨_,(hq x6).at.all agg_geo rfl,geoHead_c fun w7 m7=>⟨_,_,rfl,?_⟩⟩
  have x7:=x6.nos m7
  refine ⟨_,(hq x7).at.all agg_geo rfl,geoTabs_c fun w8 m8=>⟨_,rfl,?_⟩⟩
  have x8:=x7.nos m8
  rw [eH]
  have hNq:N<=q:=by have:=hx.size; have:=m3.size; have:=m5.size; omega
  have hrow:=((h6.keep m7 id).keep m8 id)
  have eT:IntKind.i64.wrap (1+gTabs g)=(volN g:Int):=by
   have e:gTabs g=g.no / 4:=by unfold gTabs; rw [if_pos hg]
   rw [wrap64 (by omega) (by omega),hvn.1,e]
  refine ⟨fun x w9=>∃ (i N':Nat) (a:Option Addr) (l c:Nat) (y:Value),i<=volN g/\x=[.slice a l c,.int .i64 i,y]/\w.heap.size<=N'/\Dx w1 R N' w9 d (wrAll (wrAll D (volL g k)) (volG g k i))/\(i=0->∃ q,a=some ⟨q,0,none⟩/\l=256/\c=256/\N'<=q/\AtU w9 q 0 (u8L (grpB g (hBase g k)))),
   fun x _=>(volN g-nI x 1).toNat,⟨0,N,_,_,_,_,by omega,rfl,hN,x8,fun _=>⟨q,rfl,rfl,rfl,hNq,hrow⟩⟩,?_⟩
  rintro x w9 ⟨i,N',a,l,c,y,hi,rfl,hN',x9,hi0⟩
  rw [eT]
  refine ⟨_,rfl,cond_of (fun hl2=>?_) (fun hl2=>?_)⟩
  ·have hl2:i<volN g:=by have:=of_decide_eq_true hl2; omega
   have hvx:=volX_in hg (n:=D.vs.length) hl hl2 hn
   refine Share.cut (fun z w11=>∃ q',z=[.slice (some ⟨q',0,none⟩) 256 256]/\N'<=q'/\AtU w11 q' 0 (u8L (if i=0 then grpB g (hBase g k) else zeroB))/\Mod No w9 w11) (cond_of (fun hp=>?_) (fun hp=>?_)) ?_
   ·have hp:0<i:=by have:=of_decide_eq_true hp; omega
    obtain ⟨w10,s1,s2,s3,s4⟩:=make_z (w:=w9) (n:=256) (by omega)
    exact ⟨_,_,_,w10,s1,_,rfl,x9.size,by rw [if_neg (by omega)]; exact s2,s3⟩
   ·have hp:i=0:=by have:=of_decide_eq_false hp; omega
    obtain ⟨q',e1,e2,e3,e4,e5⟩:=hi0 hp
    subst e1 e2 e3
    exact ⟨q',rfl,e4,by rw [if_pos hp]; exact e5,Mod.refl _ _⟩
   rintro z w11 ⟨q',rfl,hq',h11,m11⟩
   refine Share.cut (fun z w12=>z=[.bool (decide (k=0/\i=1))]/\w12=w11) ?_ ?_
   ·rw [beqI]
    refine cond_of (fun hp=>⟨?_,rfl⟩) (fun hp=>⟨?_,rfl⟩)
    ·have hp:k=0:=by have:=of_decide_eq_true hp; omega
     congr 2
     rw [beqI,Bool.eq_iff_iff,decide_eq_true_iff,decide_eq_true_iff]; omega
    ·have hp:¬ k=0:=by have:=of_decide_eq_false hp; omega
     rw [decide_eq_false (fun e=>hp e.1)]
   rintro z w12 ⟨rfl,rfl⟩
   refine ⟨_,rfl,?_⟩
   refine Share.cut (fun z w14=>∃ q',z=[.slice (some ⟨q',0,none⟩) 256 256]/\N'<=q'/\AtU w14 q' 0 (u8L (volB g k i))/\Mod No w9 w14) (cond_of (fun hp=>?_) (fun hp=>?_)) ?_
   ·have hp:=of_decide_eq_true hp
    refine ⟨_,_,_,rfl,_,build_root,?_⟩
    rw [if_neg (by omega)] at h11
    refine inoLay_c rootN_wf zeroB_len (.inr ⟨_,_,rfl,h11.at⟩) (by omega) (by decide) rootN_ok fun w13 q'' m13 hq'' h13=>⟨_,_,_,_,rfl,q'',rfl,?_,?_,m11.no m13⟩
    ·have:=x9.size; have:=m11.size; omega
    ·unfold volB
     rw [if_neg (by omega),if_pos hp]; exact h13
   ·have hp:=of_decide_eq_false hp
    refine ⟨q',rfl,hq',?_,m11⟩
    unfold volB
    by_cases h0:i=0
    ·rw [if_pos h0]; rw [if_pos h0] at h11; exact h11
    ·rw [if_neg h0,if_neg hp]; rw [if_neg h0] at h11; exact h11
   rintro z w14 ⟨q'',rfl,hq'',h14,m14⟩
   have x14:=x9.nos m14
   have e1:IntKind.i64.wrap (2+(k:Int)*g.gr+i)=(volX g k i).1:=by
    show _=2+(k:Int)*g.gr+i
    have:=hvx
    unfold volX at this
    simp only at this
    rw [wrap64 (by omega) (by omega)]
   refine ⟨_,_,_,rfl,?_⟩
   rw [e1]
   have hB:Bnd (wrAll (wrAll D (volL g k)) (volG g k i)) 999999:=by
    have h1:=Bnd_all (Bnd_all hb (volL g k)) (volG g k i)
    have h2:=volL_len hg k
    rw [volG_len] at h1
    exact h1.mono (by omega)
   have hvl:(wrAll (wrAll D (volL g k)) (volG g k i)).vs.length=D.vs.length:=by rw [wrAll_len,wrAll_len]
   refine ⟨_,_,_,rfl,?_⟩
   show Cal Tryz.prog F_disk_Disk_Write #[.pointer (some ⟨d,0,none⟩),.int .i64 (volX g k i).1,.slice (some ⟨q'',0,none⟩) 256 256] w14 _
   refine x14.write hB (volB_len g k i) (.inr ⟨_,_,rfl,h14.at⟩) (fun q3 e3=>by cases e3; exact hq'') fun w15 x15=>⟨_,rfl,ff ?_ ?_⟩
   ·rw [wrE_in (by omega) (by rw [hvl]; omega) (volB_len g k i)]; rfl
   have e2:wrSt (wrAll (wrAll D (volL g k)) (volG g k i)) (volX g k i).1 (volB g k i)=wrAll (wrAll D (volL g k)) (volG g k (i+1)):=by
    rw [volG_succ,wrAll_snoc]; rfl
   rw [e2] at x15
   rw [wrap64 (x:=(i:Int)+1) (by omega) (by omega)]
   exact ⟨⟨i+1,_,_,_,_,_,by omega,rfl,by have:=x9.size; have:=m14.size; have:=x15.size; have:=x15.mod.size; have:=a3.size; omega,x15,fun e=>by omega⟩,by simp [nI,nth]; omega⟩
  ·have hl2:i=volN g:=by have:=of_decide_eq_false hl2; omega
   subst hl2
   rw [wrap64 (x:=(k:Int)+1) (by omega) (by omega)]
   refine ⟨⟨k+1,N',_,_,_,by omega,rfl,hN',?_⟩,by simp [nI,nth]; omega⟩
   rw [volL_succ,wrAll_app]; exact x9
 ·have hl:(k:Int)=g.gs:=by have:=of_decide_eq_false hl; omega
  have e:g.gs.toNat=k:=by omega
  refine hk w1 N w2 a3 hN ?_
  rw [e]; exact hx
end
end Go.Proofs.YtelhlihjihklbaaGreat
end
section
open Go Go.Den Go.Proofs
namespace Go.Proofs.YtelhlihjihklbaaGreat
section
variable {wb w w':World} {R0:Nat->Prop} {N d:Nat} {D:St} {K:Value->World->Prop}
theorem Dx.comp {R':Nat->Prop} {w1:World} {N':Nat} {D':St} (h2:∀ x,R' x->R0 x\/wb.heap.size<=x) (hm:Mod R0 wb w) (m:Mod No w w1) (k:Dx w1 R' N' w' d D'):Dx wb R0 N' w' d D':=by
 obtain ⟨R,sb,mb,sc,L,k1,k2,k3,k4⟩:=k
 refine ⟨R,sb,mb,sc,L,k1,fun x hx=>⟨?_,(k2 x hx).2⟩,(hm.no m).trans k3 fun x hx e=>(h2 x e).resolve_right (by omega),k4⟩
 rcases (k2 x hx).1 with e | e
 ·exact h2 x e
 ·have:=hm.size; have:=m.size; exact .inr (by omega)
def wrZ (D:St):Nat->St
 | 0=>D
 | n+1=>wrSt (wrZ D n) n zeroB
theorem wrZ_bnd (hb:Bnd D 1):∀ n,Bnd (wrZ D n) (n+1)
 | 0=>hb
 | n+1=>Bnd_wr (wrZ_bnd hb n) _ _
theorem sOk_new {g:Gm} (h:gOk g=true):sOk ⟨1,g⟩=true:=sOk_iff.2 ⟨⟨Int.le_refl _,by show (1:Int)<=4611686018427387904; decide⟩,h⟩
set_option maxRecDepth 8000 in
theorem vFormat_c {R:Nat->Prop} {sb mb sc:Nat} {L:List (Int×Value)} {g:Gm} (h:DiskIn w R d sb mb sc L D) (hrun:D.left=-1) (hb:Bnd D 1)
  (hk0:fmtE D g≠0->∀ w',Mod No w w'->K (.int .i64 (fmtE D g)) w')
  (hk:fmtE D g=0->∀ w1 N w',Mod No w w1->Dx w1 R N w' d (fmtSt D g)->K (.int .i64 0) w') :
  Cal Tryz.prog F_vol_Format #[.pointer (some ⟨d,0,none⟩),.agg ⟨gV g⟩] w K:=by
 apply C_vol_Format
 unfold D_vol_Format
 obtain ⟨w1,a1,a2,a3,a4⟩:=box_u (P:=Tryz.prog) (w:=w) (T:=40) (cs:=gV g)
 have hnR:¬ R w.heap.size:=fun e=>Nat.lt_irrefl _ (h.lt _ e)
 have hq:∀ {w2:World} {N:Nat} {D':St},Dx w1 R N w2 d D'->AtU w2 w.heap.size 0 (gV g):=fun x=>a2.keep x.mod hnR
 refine ⟨_,w1,a1,ff rfl ⟨_,a2.at.all agg_geo rfl,geoRight_c fun w2 m2=>⟨_,rfl,cond_of (fun hg=>?_) (fun hg=>?_)⟩⟩⟩
 ·have e:fmtE D g=1:=by unfold fmtE; rw [if_pos (by simpa using hg)]
  have:=hk0 (by rw [e]; decide) w2 (a3.no m2)
  rwa [e] at this
 have hg:gOk g=true:=by simpa using hg
 have md:Mod No w1 (Go.Den.drew w2):=m2.drew
 have xd:Dx w1 R w.heap.size (Go.Den.drew w2) d D:=(Dx.start h a3).nos md
 refine ⟨_,(hq xd).at.all agg_geo rfl,xd.len ⟨_,rfl,(hq xd).at.all agg_geo rfl,geoSize_c fun w4 m4=>⟨_,rfl,cond_of (fun hl=>?_) (fun hl=>?_)⟩⟩⟩
 ·have hl:=of_decide_eq_true hl
  have e:fmtE D g=4:=by unfold fmtE; rw [if_neg (by rw [hg]; decide),if_pos hl]
  have:=hk0 (by rw [e]; decide) w4 (a3.no (md.no m4))
  rwa [e] at this
 have hl:=of_decide_eq_false hl
 have eE:fmtE D g=0:=by unfold fmtE; rw [if_neg (by rw [hg]; decide),if_neg hl]
 have x4:=xd.nos m4
 refine ⟨fun x w5=>∃ i N:Nat,i<=2/\x=[.int .i64 i]/\Dx w1 R N w5 d (wrZ D i),fun x _=>(2-nI x 0).toNat,⟨0,_,by omega,rfl,x4⟩,?_⟩
 rintro x w5 ⟨i,N,hi,rfl,x5⟩
 refine ⟨_,rfl,cond_of (fun hl2=>?_) (fun hl2=>?_)⟩
 ·have hl2:=of_decide_eq_true hl2
  obtain ⟨w6,s1,s2,s3,s4⟩:=make_z (w:=w5) (n:=256) (by omega)
  refine ⟨_,_,_,w6,s1,?_⟩
  refine (x5.nos s3).write (Bnd9 (wrZ_bnd hb i) (by omega)) zeroB_len (.inr ⟨_,_,rfl,s2.at⟩) (fun q e=>by cases e; exact x5.size) fun w7 x7=>⟨_,rfl,?_⟩
  rw [wrap64 (x:=(i:Int)+1) (by omega) (by omega)]
  exact ⟨⟨i+1,_,by omega,by simp,x7⟩,by simp [nI,nth]; omega⟩
 have hl2:=of_decide_eq_false hl2
 have hi2:i=2:=by omega
 subst hi2
 refine x5.flush (BndS (wrZ_bnd hb 2) (by omega)) fun w8 x8=>⟨_,rfl,?_⟩
 have x8:Dx w1 R w8.heap.size w8 d (fmt0 D):=x8
 refine ⟨_,(hq x8).at.all agg_geo rfl,?_⟩
 have hm8:=x8.mod
 obtain ⟨R8,sb8,mb8,sc8,L8,k1,k2,k3,k4⟩:=x8
 refine each_c k1 hg (by rw [fmt0_len]; omega) (fmt0_bnd hrun) fun w9 N9 w10 m9 hN9 x10=>⟨_,rfl,?_⟩
 have x10:=x10.comp (fun x hx=>(k2 x hx).1) hm8 m9
 have hB:Bnd (wrAll (fmt0 D) (volL g g.gs.toNat)) 999999:=by
  have h1:=Bnd_all (fmt0_bnd hrun) (volL g g.gs.toNat)
  have h2:=volL_len hg g.gs.toNat
  obtain ⟨_,_,_,g4,_⟩:=gOk_iff.1 hg
  exact h1.mono (by omega)
 refine x10.flush (BndS hB (by omega)) fun w11 x11=>⟨_,rfl,_,(hq x11).at.all agg_geo rfl,_,build_sup 1 g,?_⟩
 have x11:Dx w1 R w11.heap.size w11 d (fmt1 D g):=x11
 refine supPut_c (s:=⟨1,g⟩) (fun e=>by rw [sOk_new hg] at e; cases e) fun _ w12 q m12 hq12 h12=>⟨_,_,_,_,rfl,?_⟩
 refine (x11.nos m12).write (Bnd9 (fmt1_bnd hrun g) (by omega)) (supB_len _) (.inr ⟨_,_,rfl,h12.at⟩) (fun q' e=>by cases e; exact hq12) fun w13 x13=>⟨_,rfl,?_⟩
 refine x13.flush (BndS (Bnd_wr (fmt1_bnd hrun g) _ _) (by omega)) fun w14 x14=>⟨_,rfl,?_⟩
 exact hk eE w1 _ w14 a3 x14
end
end Go.Proofs.YtelhlihjihklbaaGreat
end
section
open Go Go.Den Go.Proofs
namespace Go.Proofs.YtelhlihjihklbaaGreat
def BlkAt (b0:Nat) (w:World) (la:Option Addr) (cs:List Value) (B:List (Int×Bk)):Prop :=
 cs.length=B.length*2/\∀ (i:Nat) (x:Int×Bk),B[i]?=some x->∃ q c,(cs.drop (i*2)).take 2=[.int .i64 x.1,.slice (some ⟨q,0,none⟩) 256 c]/\256<=c/\AtU w q 0 (u8L x.2)/\b0<=q/\∀ p,la=some p->p.block≠q
theorem elemG_blk:elemG Tryz.prog 227 2 32:=elemG_of (by kernel_rfl)
theorem build_bl13 (n:Int) (a:Option Addr) (l c:Nat):Al (Instr.build 230 #[(0,.int .i64 n),(1,.slice a l c)]) (.agg ⟨[.int .i64 n,.slice a l c]⟩):=fun w=>by kernel_rfl
theorem built_bl13 (w:World) (n:Int) (a:Option Addr) (l c:Nat):(Instr.buildSlice 227 1 #[(0,.agg ⟨[.int .i64 n,.slice a l c]⟩)]).run Tryz.prog w=.ok (.slice (some ⟨w.heap.size,0,none⟩) 1 1) (w.alloc (.cells ⟨[.int .i64 n,.slice a l c]⟩ 230)):=by kernel_rfl
section
variable {b0:Nat} {w w':World} {la:Option Addr} {cs:List Value} {B:List (Int×Bk)} {K:Value->World->Prop}
theorem BlkAt.keep {S:Nat->Prop} (h:BlkAt b0 w la cs B) (m:Mod S w w') (hs:∀ (i:Nat) (x:Int×Bk) (q c:Nat),B[i]?=some x->(cs.drop (i*2)).take 2=[.int .i64 x.1,.slice (some ⟨q,0,none⟩) 256 c]->¬ S q):BlkAt b0 w' la cs B:=by
 refine ⟨h.1,fun i x hx=>?_⟩
 obtain ⟨q,c,h1,h2,h3,h4⟩:=h.2 i x hx
 exact ⟨q,c,h1,h2,h3.keep m (hs i x q c hx h1),h4⟩
theorem BlkAt.nos (h:BlkAt b0 w la cs B) (m:Mod No w w'):BlkAt b0 w' la cs B:=h.keep m fun _ _ _ _ _ _=>id
theorem BlkAt.snoc {base l c:Nat} {n:Int} {q e:Nat} {ys:Bk} (h:BlkAt b0 w la cs B) (o:Ow Tryz.prog w base 227 2 la l c cs) (hat:AtU w q 0 (u8L ys)) (he:256<=e) (hq0:b0<=q) (hq:∀ p,la=some p->p.block≠q) (hl:l<=100000) (hb:base<=w.heap.size)
  {C:Option Addr->Nat->Nat->World->Prop}
  (hk:∀ w' la' c' cs',Ow Tryz.prog w' base 227 2 la' (l+1) c' cs'->BlkAt b0 w' la' cs' (B++[(n,ys)])->Mod (fun x=>base<=x) w w'->C la' (l+1) c' w') :
  ∃ (a44:Option Addr) (l44 c44:Nat),∃ w8:World,Ru (Instr.buildSlice 227 1 #[(0,.agg ⟨[.int .i64 n,.slice (some ⟨q,0,none⟩) 256 e]⟩)]) w (.slice a44 l44 c44) w8/\∃ (a45:Option Addr) (l45 c45:Nat),∃ w9:World,Ru (Builtin.append_ #[227,227] 227 #[.slice la l c,.slice a44 l44 c44]) w8 (.slice a45 l45 c45) w9/\C a45 l45 c45 w9:=by
 obtain ⟨w8,hw8⟩:∃ w8,w8=w.alloc (.cells ⟨[.int .i64 n,.slice (some ⟨q,0,none⟩) 256 e]⟩ 230):=⟨_,rfl⟩
 have m8:Mod No w w8:=by rw [hw8]; exact (Mod.refl No w).alloc _
 have r8:Row w8 (some ⟨w.heap.size,0,none⟩) [.int .i64 n,.slice (some ⟨q,0,none⟩) 256 e]:=by rw [hw8]; exact .inr ⟨_,_,rfl,AtU.new.at⟩
 have z8:=m8.size
 refine ⟨_,_,_,w8,by rw [hw8]; exact built_bl13 w _ _ _ _,?_⟩
 obtain ⟨p,c',w9,run,o9,m9,hp⟩:=(o.nos m8).appG (ty:=227) (m:=1) (c2:=1) elemG_blk (by omega) r8 rfl (by omega) (by intro v hv; simp at hv; rcases hv with rfl | rfl <;> rfl) (by omega) (by omega) (by omega)
 refine ⟨_,_,_,w9,run,hk w9 _ _ _ o9 ?_ ?_⟩
 ·have hlen:=o.len
  have hcl:=h.1
  refine ⟨by simp; omega,fun i x hx=>?_⟩
  have hpq:∀ q':Nat,q'<w.heap.size->(∀ p',la=some p'->p'.block≠q')->∀ p',some p=some p'->p'.block≠q':=fun q' hq' hn p' e=>by
   cases e
   rcases hp with ⟨p0,e0,e1⟩ | e1
   ·rw [e1]; exact hn p0 e0
   ·omega
  by_cases hi:i<B.length
  ·rw [List.getElem?_append_left hi] at hx
   obtain ⟨q',c2,h1,h2,h3,h5,h4⟩:=h.2 i x hx
   refine ⟨q',c2,?_,h2,(h3.keep m8 id).keep m9 fun ⟨p0,e0,e1⟩=>h4 p0 e0 e1.symm,h5,hpq q' h3.lt h4⟩
   rw [List.drop_append_of_le_length (by omega),List.take_append_of_le_length (by rw [List.length_drop]; omega)]
   exact h1
  ·have hi2:i=B.length:=by
    have:=(List.getElem?_eq_some_iff.1 hx).1
    simp at this; omega
   subst hi2
   rw [List.getElem?_append_right (Nat.le_refl _),Nat.sub_self] at hx
   have hx:(n,ys)=x:=by simpa using hx
   subst hx
   refine ⟨q,e,?_,he,(hat.keep m8 id).keep m9 fun ⟨p0,e0,e1⟩=>hq p0 e0 e1.symm,hq0,hpq q hat.lt hq⟩
   rw [List.drop_append,List.drop_eq_nil_of_le (by omega),List.nil_append,show B.length*2-cs.length=0 by omega]
   rfl
 ·refine (m8.mono fun _ _ e=>e.elim).trans m9 fun x hx ⟨q',e,e'⟩=>?_
  have:=(o.base e).1
  rw [e']; exact this
theorem volX0 (g:Gm) (k:Nat):volX g k 0=(2+k*g.gr,grpB g (hBase g k)):=by
 unfold volX volB
 rw [if_pos rfl]
 congr 1
 exact Int.add_zero _
theorem volG1 (g:Gm) (k:Nat):volG g k 1=[(2+k*g.gr,grpB g (hBase g k))]:=by
 rw [volG_succ,volX0]; rfl
set_option maxRecDepth 8000 in
theorem groups_c {g:Gm} (hg:gOk g=true)
  (hk:∀ w' la c cs,Mod No w w'->Ow Tryz.prog w' w.heap.size 227 2 la (volL g g.gs.toNat).length c cs->BlkAt w.heap.size w' la cs (volL g g.gs.toNat)->K (.slice la (volL g g.gs.toNat).length c) w') :
  Cal Tryz.prog F_leveeref13_groups #[.agg ⟨gV g⟩,.int .i64 0] w K:=by
 apply C_leveeref13_groups
 unfold D_leveeref13_groups
 obtain ⟨w1,a1,a2,a3,a4⟩:=box_u (P:=Tryz.prog) (w:=w) (T:=40) (cs:=gV g)
 have hq:∀ {w2:World},Mod No w1 w2->AtU w2 w.heap.size 0 (gV g):=fun m=>a2.keep m id
 obtain ⟨g1,g2,g3,g4,g5,g6,g7,g8,g9⟩:=gOk_iff.1 hg
 have hvn:=volN_b hg
 have eT:gTabs g=(volN g:Int)-1:=by
  have e:gTabs g=g.no / 4:=by unfold gTabs; rw [if_pos hg]
  rw [e,hvn.1]; omega
 refine ⟨_,w1,a1,fun x w2=>∃ (k:Nat) (la:Option Addr) (c:Nat) (cs:List Value) (y2 y3 y4:Value),(k:Int)<=g.gs/\x=[.slice la (volL g k).length c,.int .i64 k,y2,y3,y4]/\Ow Tryz.prog w2 w1.heap.size 227 2 la (volL g k).length c cs/\BlkAt w.heap.size w2 la cs (volL g k)/\Mod No w1 w2,fun x _=>(g.gs-nI x 1).toNat,
  ⟨0,none,0,[],undef,undef,undef,by omega,rfl,Ow.nilG elemG_blk,⟨rfl,fun i x hx=>by simp [volL] at hx⟩,Mod.refl _ _⟩,?_⟩
 rintro x w2 ⟨k,la,c,cs,y2,y3,y4,hkg,rfl,o2,h2,m2⟩
 refine ⟨_,rfl,_,(hq m2).at.fld sc_int rfl,cond_of (fun hl=>?_) (fun hl=>?_)⟩
 ·have hl:(k:Int)<g.gs:=of_decide_eq_true hl
  have eH:gHead g k=(2+k*g.gr,0):=by unfold gHead; rw [if_pos hg,if_pos ⟨by omega,hl⟩]
  have hLl:=volL_len hg k
  refine ⟨_,(hq m2).at.all agg_geo rfl,rhFresh_c (fun e=>absurd ⟨hg,by omega,hl⟩ e) fun _ w3 ab cb aq cc m3 rb rs=>⟨_,_,rfl,?_⟩⟩
  have M3:=m2.no m3
  obtain ⟨w4,b1,b2,b3,b4⟩:=new_u (P:=Tryz.prog) (w:=w3) (T:=183) zero_rhead
  obtain ⟨w5,c1,c2,c3,c4⟩:=b2.put (T:=183) (vs:=rV6 k ab cb aq cc) agg_rhead rfl rfl (one_rV6 _ _ _ _ _)
  have m5:Mod No w3 w5:=b3.own c3 (Nat.le_refl _)
  have M5:=M3.no m5
  refine ⟨_,w4,b1,w5,c1,_,(hq M5).at.all agg_geo rfl,_,c2.at.all agg_rhead rfl,?_⟩
  refine rhPut_c (h:=hBase g k) (hBase_wf _ _) (rb.nos m5) (rs.nos m5) (fun e=>by rw [hOk_base hg (by omega) hl] at e; cases e) fun _ w6 b d m6 o6=>⟨_,_,_,_,rfl,?_⟩
  obtain ⟨q,rfl,hq6,h6⟩:=o6.sm (by omega)
  have M6:=M5.no m6
  have hd:=o6.cap.1
  refine ⟨_,(hq M6).at.all agg_geo rfl,rgHead_c fun w7 m7=>⟨_,_,rfl,_,_,_,rfl,?_⟩⟩
  have M7:=M6.no m7
  rw [eH]
  refine ⟨_,build_bl13 _ _ _ _,?_⟩
  have hz:∀ p,la=some p->p.block≠q:=fun p e=>by
   have:=(o2.base e).2; have:=m3.size; have:=m5.size; omega
  have M27:Mod No w2 w7:=((m3.no m5).no m6).no m7
  refine (h2.nos M27).snoc (o2.nos M27) (h6.keep m7 id) hd (by have:=a3.size; have:=M5.size; omega) hz (by omega) M7.size fun w9 la' c' cs' o9 h9 m9=>?_
  have M9:Mod No w1 w9:=M7.up m9 (Nat.le_refl _)
  have el:(volL g k).length+1=(volL g k++volG g k (0+1)).length:=by rw [List.length_append,volG_len]
  rw [<- volG1 g k] at h9
  rw [el] at o9 |-
  refine ⟨fun x w10=>∃ (i:Nat) (la:Option Addr) (c:Nat) (cs:List Value) (y2 y3:Value),i+1<=volN g/\x=[.slice la (volL g k++volG g k (i+1)).length c,.int .i64 i,y2,y3]/\Ow Tryz.prog w10 w1.heap.size 227 2 la (volL g k++volG g k (i+1)).length c cs/\BlkAt w.heap.size w10 la cs (volL g k++volG g k (i+1))/\Mod No w1 w10,
   fun x _=>(volN g-nI x 1).toNat,⟨0,la',c',cs',_,_,by omega,rfl,o9,h9,M9⟩,?_⟩
  rintro x w10 ⟨i,la2,c2',cs2,z2,z3,hi,rfl,o10,h10,M10⟩
  refine ⟨_,rfl,_,(hq M10).at.all agg_geo rfl,rgTabs_c fun w11 m11=>⟨_,rfl,?_⟩⟩
  have M11:=M10.no m11
  rw [eT]
  refine cond_of (fun hl2=>?_) (fun hl2=>?_)
  ·have hl2:i+1<volN g:=by have:=of_decide_eq_true hl2; omega
   have hvx:=volX_in hg (n:=4096) hl hl2 (gSize_b (g:=g)).2
   obtain ⟨w12,s1,s2,s3,s4⟩:=make_z (w:=w11) (n:=256) (by omega)
   refine ⟨_,_,_,w12,s1,?_⟩
   refine Share.cut (fun z w13=>z=[.bool (decide (k=0/\i=0))]/\w13=w12) ?_ ?_
   ·rw [beqI]
    refine cond_of (fun hp=>⟨?_,rfl⟩) (fun hp=>⟨?_,rfl⟩)
    ·have hp:k=0:=by have:=of_decide_eq_true hp; omega
     congr 2
     rw [beqI,Bool.eq_iff_iff,decide_eq_true_iff,decide_eq_true_iff]; omega
    ·have hp:¬ k=0:=by have:=of_decide_eq_false hp; omega
     rw [decide_eq_false (fun e=>hp e.1)]
   rintro z w13 ⟨rfl,rfl⟩
   refine ⟨_,rfl,?_⟩
   refine Share.cut (fun z w15=>∃ q' e',z=[.slice (some ⟨q',0,none⟩) 256 e']/\256<=e'/\w11.heap.size<=q'/\AtU w15 q' 0 (u8L (volB g k (i+1)))/\Mod No w11 w15) (cond_of (fun hp=>?_) (fun hp=>?_)) ?_
   ·have hp:=of_decide_eq_true hp
    refine ⟨_,build_root,rinoLay_c rootN_wf zeroB_len (by omega) (.inr ⟨_,_,rfl,s2.at⟩) (by simp) (by omega) (by decide) rootN_ok fun w14 a14 c14 m14 o14=>⟨_,_,_,_,rfl,?_⟩⟩
    obtain ⟨q',rfl,hq',h14⟩:=o14.sm (by omega)
    refine ⟨q',c14,rfl,o14.cap.1,by have:=s3.size; omega,?_,s3.no m14⟩
    unfold volB
    rw [if_neg (by omega),if_pos ⟨hp.1,by omega⟩]; exact h14
   ·have hp:=of_decide_eq_false hp
    refine ⟨_,_,rfl,by omega,Nat.le_refl _,?_,s3⟩
    unfold volB
    rw [if_neg (by omega),if_neg (fun e=>hp ⟨e.1,by omega⟩)]; exact s2
   rintro z w15 ⟨q',e',rfl,he',hq',h15,m15⟩
   refine ⟨_,_,_,rfl,_,_,_,rfl,_,build_bl13 _ _ _ _,?_⟩
   have e1:IntKind.i64.wrap (IntKind.i64.wrap (2+(k:Int)*g.gr+1)+i)=(volX g k (i+1)).1:=by
    have h5:(volX g k (i+1)).1=2+(k:Int)*g.gr+((i+1:Nat):Int):=rfl
    have hp:0<=(k:Int)*g.gr:=Int.mul_nonneg (by omega) (by omega)
    rw [h5] at hvx |-
    rw [wrap64 (x:=2+(k:Int)*g.gr+1) (by omega) (by omega),wrap64 (by omega) (by omega)]; omega
   rw [e1]
   have M1015:Mod No w10 w15:=m11.no m15
   have M15:=M10.no M1015
   have hLl2:(volL g k++volG g k (i+1)).length<=100000:=by rw [List.length_append,volG_len]; omega
   refine (h10.nos M1015).snoc (o10.nos M1015) h15 he' (by have:=a3.size; have:=M11.size; omega) (fun p e=>by have:=(o10.base e).2; have:=m11.size; omega) hLl2 M15.size fun w17 la3 c3 cs3 o17 h17 m17=>?_
   have eB:(volL g k++volG g k (i+1))++[((volX g k (i+1)).1,volB g k (i+1))]=volL g k++volG g k (i+1+1):=by
    rw [List.append_assoc,volG_succ g k (i+1)]; rfl
   have el2:(volL g k++volG g k (i+1)).length+1=(volL g k++volG g k (i+1+1)).length:=by
    rw [<- eB]; simp; omega
   rw [eB] at h17
   rw [el2] at o17 |-
   rw [wrap64 (x:=(i:Int)+1) (by omega) (by omega)]
   exact ⟨⟨i+1,la3,c3,cs3,_,_,by omega,rfl,o17,h17,M15.up m17 (Nat.le_refl _)⟩,by simp [nI,nth]; omega⟩
  ·have hl2:i+1=volN g:=by have:=of_decide_eq_false hl2; omega
   rw [hl2,<- volL_succ] at o10 h10
   rw [hl2,<- volL_succ]
   rw [wrap64 (x:=(k:Int)+1) (by omega) (by omega)]
   exact ⟨⟨k+1,_,_,_,_,_,_,by omega,rfl,o10.nos m11,h10.nos m11,M11⟩,by simp [nI,nth]; omega⟩
 ·have hl:(k:Int)=g.gs:=by have:=of_decide_eq_false hl; omega
  have e:g.gs.toNat=k:=by omega
  rw [e] at hk
  exact ⟨_,_,_,rfl,hk w2 la c cs (a3.no m2) (o2.mono a3.size) h2⟩
end
end Go.Proofs.YtelhlihjihklbaaGreat
end
section
open Go Go.Den Go.Proofs
namespace Go.Proofs.YtelhlihjihklbaaGreat
def Dr (wb:World) (R0:Nat->Prop) (N:Nat) (w:World) (d:Nat) (D:St):Prop :=
 ∃ R vb vc hs,RefIn w R d vb vc hs D/\(∀ x,R x->(R0 x\/wb.heap.size<=x)/\x<N)/\Mod R0 wb w/\N<=w.heap.size
section
variable {wb w w':World} {R0:Nat->Prop} {N d:Nat} {D:St} {K:Value->World->Prop}
theorem Dr.nos (h:Dr wb R0 N w d D) (m:Mod No w w'):Dr wb R0 N w' d D:=by
 obtain ⟨R,vb,vc,hs,h1,h2,h3,h4⟩:=h
 exact ⟨R,vb,vc,hs,h1.nos m,h2,h3.no m,Nat.le_trans h4 m.size⟩
theorem Dr.mod (h:Dr wb R0 N w d D):Mod R0 wb w:=by obtain ⟨_,_,_,_,_,_,h,_⟩:=h; exact h
theorem Dr.size (h:Dr wb R0 N w d D):N<=w.heap.size:=by obtain ⟨_,_,_,_,_,_,_,h⟩:=h; exact h
theorem Dr.start {R:Nat->Prop} {vb vc:Nat} {hs:List (Nat×Nat)} (h:RefIn w R d vb vc hs D) (m:Mod No w wb):Dr wb R w.heap.size wb d D :=
 ⟨R,vb,vc,hs,h.nos m,fun x hx=>⟨.inl hx,h.lt x hx⟩,Mod.refl _ _,m.size⟩
theorem Dr.write (h:Dr wb R0 N w d D) (hs:∀ v∈D.vs,v.length<=999999) {n:Int} {a:Option Addr} {l c:Nat} {ys:List UInt8} (hl:ys.length=l) (hr:Row w a (u8L ys)) (hdis:∀ q,a=some q->N<=q.block\/(q.block<wb.heap.size/\¬ R0 q.block))
  (hk:∀ w',Dr wb R0 w'.heap.size w' d (wrSt D n ys)->K (.int .i64 (wrE D n ys)) w'):Cal Tryz.prog F_leveeref02_Disk_Write #[.pointer (some ⟨d,0,none⟩),.int .i64 n,.slice a l c] w K:=by
 obtain ⟨R,vb,vc,hs',h1,h2,h3,h4⟩:=h
 refine refWrite_c h1 hs hl hr (fun _ q hq hR=>?_) fun w' hs2 m hd'=>hk w' ⟨Gro R w w',vb,vc,hs2,hd',fun x hx=>?_,h3.trans m fun x hx hR=>?_,Nat.le_refl _⟩
 ·have h5:=h2 _ hR
  rcases hdis q hq with h6 | ⟨h6,h7⟩
  ·omega
  ·rcases h5.1 with h8 | h8
   ·exact h7 h8
   ·omega
 ·rcases hx with hx | hx
  ·have h5:=h2 x hx; have:=m.size
   exact ⟨h5.1,by omega⟩
  ·have:=h3.size
   exact ⟨.inr (by omega),hx.2⟩
 ·exact ((h2 x hR).1).resolve_right (by omega)
theorem Dr.flush (h:Dr wb R0 N w d D) (hs:Small D) (hk:∀ w',Dr wb R0 w'.heap.size w' d (flSt D)->K (.int .i64 0) w'):Cal Tryz.prog F_leveeref02_Disk_Flush #[.pointer (some ⟨d,0,none⟩)] w K:=by
 obtain ⟨R,vb,vc,hs',h1,h2,h3,h4⟩:=h
 refine refFlush_c h1 hs fun w' hs2 m hd'=>hk w' ⟨Gro R w w',vb,vc,hs2,hd',fun x hx=>?_,h3.trans m fun x hx hR=>?_,Nat.le_refl _⟩
 ·rcases hx with hx | hx
  ·have h5:=h2 x hx; have:=m.size
   exact ⟨h5.1,by omega⟩
  ·have:=h3.size
   exact ⟨.inr (by omega),hx.2⟩
 ·exact ((h2 x hR).1).resolve_right (by omega)
theorem Dr.comp {R':Nat->Prop} {w1:World} {N':Nat} {D':St} (h2:∀ x,R' x->R0 x\/wb.heap.size<=x) (hm:Mod R0 wb w) (m:Mod No w w1) (k:Dr w1 R' N' w' d D'):Dr wb R0 N' w' d D':=by
 obtain ⟨R,vb,vc,hs,k1,k2,k3,k4⟩:=k
 refine ⟨R,vb,vc,hs,k1,fun x hx=>⟨?_,(k2 x hx).2⟩,(hm.no m).trans k3 fun x hx e=>(h2 x e).resolve_right (by omega),k4⟩
 rcases (k2 x hx).1 with e | e
 ·exact h2 x e
 ·have:=hm.size; have:=m.size; exact .inr (by omega)
theorem volL_all (D:St) (l:List (Int×Bk)) (i:Nat) (x:Int×Bk) (h:l[i]?=some x):wrAll D (l.take (i+1))=wrSt (wrAll D (l.take i)) x.1 x.2:=by
 obtain ⟨h1,h2⟩:=List.getElem?_eq_some_iff.1 h
 rw [List.take_succ_eq_append_getElem h1,wrAll_snoc,h2]
set_option maxRecDepth 8000 in
theorem rFormat_c {R:Nat->Prop} {vb vc:Nat} {hs:List (Nat×Nat)} {g:Gm} (h:RefIn w R d vb vc hs D) (hrun:D.left=-1) (hb:Bnd D 1)
  (hk0:fmtE D g≠0->∀ w',Mod No w w'->K (.int .i64 (fmtE D g)) w')
  (hk:fmtE D g=0->∀ w1 N w',Mod No w w1->Dr w1 R N w' d (fmtSt D g)->K (.int .i64 0) w') :
  Cal Tryz.prog F_leveeref13_Format #[.pointer (some ⟨d,0,none⟩),.agg ⟨gV g⟩] w K:=by
 apply C_leveeref13_Format
 unfold D_leveeref13_Format
 obtain ⟨w1,a1,a2,a3,a4⟩:=box_u (P:=Tryz.prog) (w:=w) (T:=40) (cs:=gV g)
 have hnR:¬ R w.heap.size:=fun e=>Nat.lt_irrefl _ (h.lt _ e)
 have hq:∀ {w2:World} {N:Nat} {D':St},Dr w1 R N w2 d D'->AtU w2 w.heap.size 0 (gV g):=fun x=>a2.keep x.mod hnR
 refine ⟨_,w1,a1,_,a2.at.all agg_geo rfl,rgRight_c fun w2 m2=>⟨_,rfl,cond_of (fun hg=>?_) (fun hg=>?_)⟩⟩
 ·have e:fmtE D g=1:=by unfold fmtE; rw [if_pos (by simpa using hg)]
  have:=hk0 (by rw [e]; decide) w2 (a3.no m2)
  rwa [e] at this
 have hg:gOk g=true:=by simpa using hg
 have md:Mod No w1 (Go.Den.drew w2):=m2.drew
 have hd:=h.nos (a3.no md)
 refine ⟨_,rfl,_,_,_,rv hd,_,(a2.keep md id).at.all agg_geo rfl,rgSize_c fun w3 m3=>⟨_,rfl,rv (hd.nos m3),cond_of (fun hl=>?_) (fun hl=>?_)⟩⟩
 ·have hl:=of_decide_eq_true hl
  have e:fmtE D g=4:=by unfold fmtE; rw [if_neg (by rw [hg]; decide),if_pos hl]
  have:=hk0 (by rw [e]; decide) w3 (a3.no (md.no m3))
  rwa [e] at this
 have hl:=of_decide_eq_false hl
 have eE:fmtE D g=0:=by unfold fmtE; rw [if_neg (by rw [hg]; decide),if_neg hl]
 have x3:Dr w1 R w.heap.size w3 d D:=(Dr.start h a3).nos (md.no m3)
 obtain ⟨w4,s1,s2,s3,s4⟩:=make_z (w:=w3) (n:=256) (by omega)
 refine ⟨_,_,_,w4,s1,(x3.nos s3).write (Bnd9 hb (by omega)) zeroB_len (.inr ⟨_,_,rfl,s2.at⟩) (fun q e=>by cases e; exact .inl x3.size) fun w5 x5=>⟨_,rfl,?_⟩⟩
 obtain ⟨w6,t1,t2,t3,t4⟩:=make_z (w:=w5) (n:=256) (by omega)
 refine ⟨_,_,_,w6,t1,(x5.nos t3).write (Bnd9 (Bnd_wr hb _ _) (by omega)) zeroB_len (.inr ⟨_,_,rfl,t2.at⟩) (fun q e=>by cases e; exact .inl x5.size) fun w7 x7=>⟨_,rfl,?_⟩⟩
 refine x7.flush (BndS (Bnd_wr (Bnd_wr hb _ _) _ _) (by omega)) fun w8 x8=>⟨_,rfl,?_⟩
 have x8:Dr w1 R w8.heap.size w8 d (fmt0 D):=x8
 refine ⟨_,(hq x8).at.all agg_geo rfl,groups_c hg fun w9 la c cs m9 o9 h9=>⟨_,_,_,rfl,?_⟩⟩
 have hm8:=x8.mod
 obtain ⟨R8,vb8,vc8,hs8,k1,k2,k3,k4⟩:=x8
 have hBl:=volL_len hg g.gs.toNat
 obtain ⟨_,_,_,g4,_⟩:=gOk_iff.1 hg
 have hN8:∀ x,R8 x->x<w8.heap.size:=k1.lt
 refine ⟨fun x w10=>∃ i N:Nat,i<=(volL g g.gs.toNat).length/\x=[.int .i64 i]/\Dr w9 R8 N w10 d (wrAll (fmt0 D) ((volL g g.gs.toNat).take i)),fun x _=>((volL g g.gs.toNat).length-nI x 0).toNat,
  ⟨0,_,by omega,rfl,Dr.start k1 m9⟩,?_⟩
 rintro x w10 ⟨i,N,hi,rfl,x10⟩
 have hB:∀ i,Bnd (wrAll (fmt0 D) ((volL g g.gs.toNat).take i)) 999999:=fun i=>by
  have h1:=Bnd_all (fmt0_bnd hrun) ((volL g g.gs.toNat).take i)
  have h2:=List.length_take_le i (volL g g.gs.toNat)
  have h3:((volL g g.gs.toNat).take i).length<=(volL g g.gs.toNat).length:=List.length_take_le' _ _
  exact h1.mono (by omega)
 refine ⟨_,rfl,cond_of (fun hl2=>?_) (fun hl2=>?_)⟩
 ·have hl2:i<(volL g g.gs.toNat).length:=by have:=of_decide_eq_true hl2; omega
  have hx:=List.getElem?_eq_getElem hl2
  obtain ⟨q,e,h1,h2,h3,h4,h5⟩:=h9.2 i _ hx
  obtain ⟨p,rfl,hp,hat⟩:=o9.sm (by omega)
  have hcl:=h9.1
  have hat10:=hat.keep x10.mod (fun e=>by have:=hN8 _ e; omega)
  have h10:=h3.keep x10.mod (fun e=>by have:=hN8 _ e; omega)
  have hc:∀ j v,([.int .i64 (volL g g.gs.toNat)[i].1,.slice (some ⟨q,0,none⟩) 256 e]:List Value)[j]?=some v->cs[i*2+j]?=some v:=fun j v hj=>by
   have hj2:j<2:=by have:=(List.getElem?_eq_some_iff.1 hj).1; simpa using this
   rw [<- h1,List.getElem?_take,if_pos hj2,List.getElem?_drop] at hj
   exact hj
  have hix:Al (Instr.indexAt 227 (.slice (some ⟨p,0,none⟩) (volL g g.gs.toNat).length c) (.int .i64 i)) (.pointer (some ⟨p,i*2,none⟩)):=fun w=>by
   have:=index_slice (P:=Tryz.prog) (T:=227) (k:=2) (a:=⟨p,0,none⟩) (n:=(volL g g.gs.toNat).length) (c:=c) (kk:=.i64) (i:=i) (by kernel_rfl) (by omega) (by omega) w
   rw [add_none,Nat.zero_add,show (i:Int).toNat=i by omega] at this
   exact this
  have ld1:Ru (Instr.loadAt 3 (.pointer (some (Addr.add ⟨p,i*2,none⟩ 0)))) (Go.Den.drew w10) (.int .i64 (volL g g.gs.toNat)[i].1) (Go.Den.drew w10):=by
   rw [add_none]
   have:=hat10.drew.at.load (P:=Tryz.prog) (T:=3) sc_int (hc 0 _ rfl)
   rw [Nat.zero_add] at this
   exact this
  have ld2:Ru (Instr.loadAt 88 (.pointer (some (Addr.add ⟨p,i*2,none⟩ 1)))) (Go.Den.drew w10) (.slice (some ⟨q,0,none⟩) 256 e) (Go.Den.drew w10):=by
   rw [add_none]
   have:=hat10.drew.at.load (P:=Tryz.prog) (T:=88) sc_bytes (hc 1 _ rfl)
   rw [Nat.zero_add] at this
   exact this
  refine ⟨_,hix,_,ld1,_,hix,_,_,_,ld2,?_⟩
  have hv:(volL g g.gs.toNat)[i].2.length=256:=by
   have hm:=List.getElem_mem hl2
   obtain ⟨k,hk1,hk2⟩:=List.mem_flatMap.1 hm
   obtain ⟨j,hj1,hj2⟩:=List.mem_map.1 hk2
   rw [<- hj2]; exact volB_len g k j
  refine (x10.nos (Mod.refl No w10).drew).write (hB i) hv (.inr ⟨_,_,rfl,h10.drew.at⟩) (fun q' e=>by cases e; exact .inr ⟨h3.lt,fun e=>by have:=hN8 _ e; have e:q<w8.heap.size:=this; omega⟩) fun w11 x11=>⟨_,rfl,?_⟩
  rw [<- volL_all _ _ _ _ hx] at x11
  rw [wrap64 (x:=(i:Int)+1) (by omega) (by omega)]
  exact ⟨⟨i+1,_,by omega,rfl,x11⟩,by simp [nI,nth]; omega⟩
 have hl2:i=(volL g g.gs.toNat).length:=by have:=of_decide_eq_false hl2; omega
 have x10:=x10.comp (fun x hx=>(k2 x hx).1) hm8 m9
 have hBi:=hB i
 rw [hl2,List.take_length] at x10 hBi
 refine x10.flush (BndS hBi (by omega)) fun w11 x11=>⟨_,rfl,_,(hq x11).at.all agg_geo rfl,_,build_rsup 1 g,?_⟩
 have x11:Dr w1 R w11.heap.size w11 d (fmt1 D g):=x11
 refine rsPut_c (s:=⟨1,g⟩) (fun e=>by rw [sOk_new hg] at e; cases e) fun _ w12 a12 c12 m12 o12=>⟨_,_,_,_,rfl,?_⟩
 refine (x11.nos m12).write (Bnd9 (fmt1_bnd hrun g) (by omega)) (supB_len _) o12.rowU.row (fun q' e=>.inl (o12.base e).1) fun w13 x13=>⟨_,rfl,?_⟩
 refine x13.flush (BndS (Bnd_wr (fmt1_bnd hrun g) _ _) (by omega)) fun w14 x14=>⟨_,rfl,?_⟩
 exact hk eE w1 _ w14 a3 x14
end
end Go.Proofs.YtelhlihjihklbaaGreat
end
section
open Go Go.Den Go.Proofs
namespace Go.Proofs.YtelhlihjihklbaaGreat
theorem fldA2 {w:World} {T:TypeId} {b j i n:Nat} {cs vs:List Value} (h:At w b 0 cs) (hT:aggN Tryz.prog T=some n) (hj:j+i+n<=cs.length) (hv:(cs.drop (j+i)).take n=vs):Ru (Instr.loadAt T (.pointer (some (Addr.add (Addr.add ⟨b,0,none⟩ j) i)))) w (.agg ⟨vs⟩) w:=by
 have e:Addr.add (Addr.add ⟨b,0,none⟩ j) i=Addr.add ⟨b,0,none⟩ (j+i):=by
  rw [add_none,add_none,add_none,Nat.add_assoc]
 rw [e]
 exact h.fldA hT hj hv
def vV (s:Sp) (sp wk:Nat) (nx:Int):List Value:=sV s++[.pointer (some ⟨sp,0,none⟩),.pointer (some ⟨wk,0,none⟩),.int .i64 nx]
theorem sc_store:scal Tryz.prog 89=true:=by kernel_rfl
def Wc (w0:World) (R:Nat->Prop) (N:Nat) (w:World) (v d wk:Nat):Prop:=AtU w wk 0 [.slice none 0 0]/\¬ R wk/\wk≠v/\w0.heap.size<=wk/\wk<N/\d<=wk/\d<=v
theorem Wc.keep {S R R':Nat->Prop} {w0 w w':World} {N N' v d wk:Nat} (h:Wc w0 R N w v d wk) (m:Mod S w w') (hS:¬ S wk) (hR:¬ R' wk) (hN:N<=N'):Wc w0 R' N' w' v d wk :=
 ⟨h.1.keep m hS,hR,h.2.2.1,h.2.2.2.1,Nat.lt_of_lt_of_le h.2.2.2.2.1 hN,h.2.2.2.2.2⟩
def Vg (wb:World) (R0:Nat->Prop) (N:Nat) (w:World) (v d:Nat) (s:Sp) (D:St) (nx:Int):Prop :=
 ∃ R sp wk k w0,Pz w0 R w sp d ⟨⟨D,k,[]⟩,0,[]⟩/\AtU w v 0 (vV s sp wk nx)/\(¬ R v/\w0.heap.size<=v/\v<N/\(R0 v\/wb.heap.size<=v))/\(∀ x,R x->(R0 x\/wb.heap.size<=x)/\x<N)/\Mod R0 wb w/\(N<=w.heap.size/\wb.heap.size<=N/\w0.heap.size<=N/\Wc w0 R N w v d wk)
section
variable {w0 wb w w':World} {R R0:Nat->Prop} {N v d sp:Nat} {s:Sp} {D:St} {V:Ps} {nx:Int} {K:Value->World->Prop}
theorem qReadC_c {n:Int} (hP:Pz w0 R w sp d V) {b:Nat} (hb:n=b) (hlt:b<V.C.D.vs.length)
  (hk:∀ w1 w' g cc,Mod R w w1->Mod No w1 w'->Pz w0 (Gro R w w1) w' sp d V->w1.heap.size<=g->AtU w' g 0 (u8L (contV V b))->256<=cc->K (.tuple #[.slice (some ⟨g,0,none⟩) 256 cc,.int .i64 0]) w') :
  Cal Tryz.prog F_patch_Store_Read #[.pointer (some ⟨sp,0,none⟩),.int .i64 n] w K:=by
 obtain ⟨C,eD,eM,hP⟩:=hP
 have hwf:=hP.wf
 refine pRead_c hP (fun he w' m=>?_) fun b' hb' hlt' w1 w' a cc C' m1 m2 h e1 e2 hc o=>?_
 ·have he:errOf C.D n≠0:=he
  rw [eD,hb] at he
  exact absurd (rd_at V.C.D hlt).1 he
 ·have:b'=b:=by omega
  subst this
  obtain ⟨g,rfl,hg,hat⟩:=o.sm (by omega)
  rw [cont_view hwf.1 hwf.2.1 hwf.2.2.1,contV_C eD] at hat
  exact hk w1 w' g cc m1 m2 ⟨C',e1.trans eD,e2.trans eM,h⟩ hg hat o.cap.1
theorem Vg.nos (h:Vg wb R0 N w v d s D nx) (m:Mod No w w'):Vg wb R0 N w' v d s D nx:=by
 obtain ⟨R,sp,wk,k,w0,h1,h2,h3,h4,h5,h6,h7⟩:=h
 exact ⟨R,sp,wk,k,w0,h1.nos m,h2.keep m id,h3,h4,h5.no m,Nat.le_trans h6 m.size,h7.1,h7.2.1,h7.2.2.keep m id h7.2.2.2.1 (Nat.le_refl _)⟩
theorem Vg.up (h:Vg wb R0 N w v d s D nx):Vg wb R0 w.heap.size w v d s D nx:=by
 obtain ⟨R,sp,wk,k,w0,h1,h2,h3,h4,h5,h6,h7,h8,h9⟩:=h
 exact ⟨R,sp,wk,k,w0,h1,h2,⟨h3.1,h3.2.1,by omega,h3.2.2.2⟩,fun x hx=>⟨(h4 x hx).1,by have:=(h4 x hx).2; omega⟩,h5,Nat.le_refl _,by omega,by omega,h9.keep (Mod.refl No w) id h9.2.1 h6⟩
theorem Vg.put {q:Nat} (h:Vg wb R0 N w v d s D nx) (hq:N<=q) (m:Mod (fun x=>x=q) w w'):Vg wb R0 N w' v d s D nx:=by
 obtain ⟨R,sp,wk,k,w0,h1,h2,h3,h4,h5,h6,h7,h8,h9⟩:=h
 refine ⟨R,sp,wk,k,w0,h1.keep m (fun x hx e=>?_) (fun x hx e=>?_),h2.keep m (fun e=>?_),h3,h4,h5.trans m fun x hx e=>?_,Nat.le_trans h6 m.size,h7,h8,h9.keep m (fun e=>?_) h9.2.1 (Nat.le_refl _)⟩
 ·have:=(h4 x hx).2
  have e:x=q:=e
  omega
 ·have e:x=q:=e
  omega
 ·have:=h3.2.2.1
  have e:v=q:=e
  omega
 ·have e:x=q:=e
  omega
 ·have:=h9.2.2.2.2.1
  have e:wk=q:=e
  omega
theorem Vg.mod (h:Vg wb R0 N w v d s D nx):Mod R0 wb w:=by obtain ⟨_,_,_,_,_,_,_,_,_,h,_⟩:=h; exact h
theorem Vg.size (h:Vg wb R0 N w v d s D nx):N<=w.heap.size:=by obtain ⟨_,_,_,_,_,_,_,_,_,_,h,_⟩:=h; exact h
theorem Vg.at (h:Vg wb R0 N w v d s D nx):∃ sp wk,AtU w v 0 (vV s sp wk nx):=by obtain ⟨_,sp,wk,_,_,_,h,_⟩:=h; exact ⟨sp,wk,h⟩
theorem Vg.wf (h:Vg wb R0 N w v d s D nx):WF D:=by obtain ⟨_,_,_,_,_,h,_⟩:=h; exact h.wf.2.2.2.2
theorem Vg.geo (h:Vg wb R0 N w v d s D nx):Ru (Instr.loadAt 40 (.pointer (some (Addr.add (Addr.add ⟨v,0,none⟩ 0) 1)))) w (.agg ⟨gV s.geo⟩) w:=by
 obtain ⟨sp,wk,h⟩:=h.at
 exact fldA2 h.at agg_geo (by show 4<=7; omega) rfl
theorem Vg.next (h:Vg wb R0 N w v d s D nx):Ru (Instr.loadAt 2 (.pointer (some (Addr.add ⟨v,0,none⟩ 6)))) w (.int .i64 nx) w:=by
 obtain ⟨sp,wk,h⟩:=h.at
 exact h.at.fld sc_i64 rfl
theorem Vg.set (h:Vg wb R0 N w v d s D nx) (n:Int):∃ w',RuU (Instr.storeAt 2 (.pointer (some (Addr.add ⟨v,0,none⟩ 6))) (.int .i64 n)) w w'/\Vg wb R0 N w' v d s D n:=by
 obtain ⟨R,sp,wk,k,w0,h1,h2,h3,h4,h5,h6,h7,h8,h9⟩:=h
 obtain ⟨w',s1,s2,s3,s4⟩:=h2.putF (P:=Tryz.prog) (T:=2) (j:=6) (v:=.int .i64 n) sc_i64 (by show 6<7; omega) rfl
 refine ⟨w',s1,R,sp,wk,k,w0,h1.keep s3 (fun x hx e=>?_) (fun x hx e=>?_),s2,h3,h4,h5.trans s3 fun x hx e=>?_,by omega,h7,h8,h9.keep s3 (fun e=>h9.2.2.1 e) h9.2.1 (Nat.le_refl _)⟩
 ·have e:x=v:=e
  rw [e] at hx; exact h3.1 hx
 ·have e:x=v:=e
  have:=h3.2.1; omega
 ·have e:x=v:=e
  rw [e]
  exact h3.2.2.2.resolve_right (by omega)
theorem Vg.rd (h:Vg wb R0 N w v d s D nx) {n:Int} (h0:0<=n) (h1:n<D.vs.length)
  (hk:∀ w' g cc,Vg wb R0 w'.heap.size w' v d s D nx->Mod (fun x=>x<N) w w'->(∀ q w5 w6,N<=q->q<w.heap.size->Mod No w' w5->Mod (fun x=>x=q) w5 w6->Vg wb R0 w6.heap.size w6 v d s D nx)->AtU w' g 0 (u8L (rdB D n))->(rdB D n).length=256->256<=cc->K (.tuple #[.slice (some ⟨g,0,none⟩) 256 cc,.int .i64 0]) w') :
  ∃ p:Option Addr,Ru (Instr.loadAt 89 (.pointer (some (Addr.add ⟨v,0,none⟩ 4)))) w (.pointer p) w/\Cal Tryz.prog F_patch_Store_Read #[.pointer p,.int .i64 n] w K:=by
 have hwf:=h.wf
 obtain ⟨R,sp,wk,k,w0,a1,a2,a3,a4,a5,a6,a7,a8,a9⟩:=h
 refine ⟨_,a2.at.fld sc_store rfl,?_⟩
 obtain ⟨b,rfl⟩:=Int.eq_ofNat_of_zero_le h0
 have hb:b<D.vs.length:=by omega
 refine qReadC_c a1 rfl hb fun w1 w' g cc m1 m2 hP hg hat hcc=>?_
 have e1:rdB D b=atD D b:=(rd_at D hb).2
 have hz1:=m1.size
 have hz2:=m2.size
 have hz5:=a5.size
 have hv:v<w.heap.size:=by have:=a3.2.2.1; omega
 have hnv:¬ Gro R w w1 v:=by
  rintro (e | e)
  ·exact a3.1 e
  ·omega
 have hwk:¬ Gro R w w1 wk:=by
  rintro (e | e)
  ·exact a9.2.1 e
  ·have:=a9.2.2.2.2.1; omega
 have hR:∀ x,Gro R w w1 x->(R0 x\/wb.heap.size<=x)/\x<w1.heap.size:=fun x hx=>by
  rcases hx with hx | hx
  ·exact ⟨(a4 x hx).1,by have:=(a4 x hx).2; omega⟩
  ·exact ⟨.inr (by omega),by omega⟩
 have M:Mod R0 wb w':=(a5.trans m1 fun x hx e=>((a4 x e).1).resolve_right (by omega)).no m2
 have hV:=(a2.keep m1 a3.1).keep m2 id
 refine hk w' g cc ⟨_,sp,wk,k,w0,hP,hV,⟨hnv,a3.2.1,by omega,a3.2.2.2⟩,fun x hx=>⟨(hR x hx).1,by have:=(hR x hx).2; omega⟩,M,Nat.le_refl _,by omega,by omega,(a9.keep m1 a9.2.1 hwk (N':=w'.heap.size) (by omega)).keep m2 id hwk (Nat.le_refl _)⟩ ((m1.mono fun x _ e=>(a4 x e).2).no m2) (fun q w5 w6 hq1 hq2 m5 m6=>?_) ?_ ?_ hcc
 ·have hz3:=m5.size
  have hz4:=m6.size
  have hnq:∀ x,Gro R w w1 x->x≠q:=fun x hx e=>by
   subst e
   rcases hx with hx | hx
   ·have:=(a4 _ hx).2; omega
   ·omega
  refine ⟨_,sp,wk,k,w0,(hP.nos m5).keep m6 hnq (fun x hx e=>?_),(hV.keep m5 id).keep m6 (fun e=>?_),⟨hnv,a3.2.1,by omega,a3.2.2.2⟩,fun x hx=>⟨(hR x hx).1,by have:=(hR x hx).2; omega⟩,(M.no m5).trans m6 fun x hx e=>?_,Nat.le_refl _,by omega,by omega,(((a9.keep m1 a9.2.1 hwk (N':=w6.heap.size) (by omega)).keep m2 id hwk (Nat.le_refl _)).keep m5 id hwk (Nat.le_refl _)).keep m6 (fun e=>?_) hwk (Nat.le_refl _)⟩
  ·have e:x=q:=e
   omega
  ·have e:v=q:=e
   have:=a3.2.2.1; omega
  ·have e:x=q:=e
   omega
  ·have e:wk=q:=e
   have:=a9.2.2.2.2.1; omega
 ·rw [e1]; exact hat
 ·rw [e1]; unfold atD; rw [ver_at hb]; exact hwf.lastLen (List.getElem?_eq_getElem hb)
theorem gHead_in {g:Gm} {k b:Int} (h:gHead g k=(b,0)):0<=b/\b<gSize g:=by
 unfold gHead at h
 split at h
 ·rename_i hg
  split at h
  ·rename_i hk
   have e:gSize g=2+g.gs*g.gr:=by unfold gSize; rw [if_pos hg]
   obtain ⟨h1,_⟩:=gOk_iff.1 hg
   have hmul:(k+1)*g.gr<=g.gs*g.gr:=Int.mul_le_mul_of_nonneg_right (by omega) (by omega)
   have hp:0<=k*g.gr:=Int.mul_nonneg hk.1 (by omega)
   have hs:(k+1)*g.gr=k*g.gr+g.gr:=by rw [Int.add_mul,Int.one_mul]
   cases h
   omega
  ·cases h
 ·cases h
theorem vhd_c {k:Int} (h:Vg wb R0 N w v d s D nx) (hk:∀ w',Mod No w w'->K (.tuple #[.int .i64 (gHead s.geo k).1,.int .i64 (gHead s.geo k).2]) w'):Cal Tryz.prog F_vol_Vol_head #[.pointer (some ⟨v,0,none⟩),.int .i64 k] w K:=by
 apply C_vol_Vol_head
 unfold D_vol_Vol_head
 exact ff rfl ⟨_,rfl,_,h.geo,geoHead_c fun w' m=>⟨_,_,rfl,hk w' m⟩⟩
theorem vpl_c {k:Int} (h63:k<=9223372036854775807) (h:Vg wb R0 N w v d s D nx) (hk:∀ w',Mod No w w'->K (.tuple #[.int .i64 (gPlace s.geo k).1,.int .i64 (gPlace s.geo k).2.1,.int .i64 (gPlace s.geo k).2.2]) w'):Cal Tryz.prog F_vol_Vol_place #[.pointer (some ⟨v,0,none⟩),.int .i64 k] w K:=by
 apply C_vol_Vol_place
 unfold D_vol_Vol_place
 exact ff rfl ⟨_,rfl,_,h.geo,geoPlace_c h63 fun w' m=>⟨_,_,_,rfl,hk w' m⟩⟩
theorem vHead_c {k:Int} (h:Vg wb R0 N w v d s D nx) (hsz:gSize s.geo<=D.vs.length)
  (hk:∀ w',Vg wb R0 w'.heap.size w' v d s D nx->K (.tuple #[.agg ⟨hV (headAt D s.geo k).1⟩,.int .i64 (headAt D s.geo k).2]) w'):Cal Tryz.prog F_vol_Vol_Head #[.pointer (some ⟨v,0,none⟩),.int .i64 k] w K:=by
 apply C_vol_Vol_Head
 unfold D_vol_Vol_Head
 obtain ⟨w1,b1,b2,b3,b4⟩:=new_u (P:=Tryz.prog) (w:=w) (T:=119) zero_head
 have hN:=h.size
 have fin:∀ (w':World) (i:Hd) (e:Int),AtU w' w.heap.size 0 (hV hZ)->(∀ w6,Mod (fun x=>x=w.heap.size) w' w6->Vg wb R0 w6.heap.size w6 v d s D nx)->(i,e)=headAt D s.geo k->∃ w3:World,RuU (Instr.storeAt 119 (.pointer (some ⟨w.heap.size,0,none⟩)) (.agg ⟨hV i⟩)) w' w3/\∃ gR2:Array Value,Ru (Instr.loadAt 119 (.pointer (some ⟨w.heap.size,0,none⟩))) w3 (.agg gR2) w3/\K (.tuple #[.agg gR2,.int .i64 e]) w3:=fun w' i e hat hv he=>by
  have hw:hWf i:=by have:=headAt_wf D s.geo k; rw [<- he] at this; exact this
  obtain ⟨w3,c1,c2,c3,c4⟩:=hat.put (T:=119) (vs:=hV i) agg_head rfl (hV_len hw) (one_hV _)
  refine ⟨w3,c1,_,c2.at.all agg_head (hV_len hw),?_⟩
  have:=hk w3 (hv w3 c3)
  rw [<- he] at this
  exact this
 have h1:=h.nos b3
 refine ⟨_,w1,b1,vhd_c h1 fun w2 m2=>⟨_,_,rfl,?_⟩⟩
 have h2:=h1.nos m2
 rw [bneI]
 refine cond_of (fun he=>⟨_,build_head0,?_⟩) (fun he=>?_)
 ·have he:=of_decide_eq_true he
  exact fin w2 hZ _ (b2.keep m2 id) (fun w6 m6=>(h2.put hN m6).up) (by unfold headAt; rw [if_pos he])
 have he:=Classical.not_not.1 (of_decide_eq_false he)
 have hin:=gHead_in (g:=s.geo) (k:=k) (b:=(gHead s.geo k).1) (by rw [<- he])
 refine ⟨_,rfl,?_⟩
 have hs1:=b3.size
 have hs2:=m2.size
 refine h2.rd hin.1 (by omega) fun w4 g cc h4 m4 hput hat hl hcc=>⟨_,_,_,_,rfl,ff rfl ⟨_,rfl,_,h4.geo,?_⟩⟩
 refine headGet_c hl hcc (.inr ⟨_,_,rfl,hat.at⟩) (by omega) fun w6 m6=>⟨_,_,rfl,?_⟩
 exact fin w6 _ _ (((b2.keep m2 id).keep m4 (by show ¬ w.heap.size<N; omega)).keep m6 id) (fun w7 m7=>hput _ w6 w7 hN (by omega) m6 m7) (by unfold headAt; rw [if_neg (by rw [he]; decide)])
theorem vInode_c {k:Int} (h63:k<=9223372036854775807) (h:Vg wb R0 N w v d s D nx) (hsz:gSize s.geo<=D.vs.length)
  (hk:∀ w',Vg wb R0 w'.heap.size w' v d s D nx->K (.tuple #[.agg ⟨nV (slotAt D s.geo k).1⟩,.int .i64 (slotAt D s.geo k).2]) w'):Cal Tryz.prog F_vol_Vol_Inode #[.pointer (some ⟨v,0,none⟩),.int .i64 k] w K:=by
 apply C_vol_Vol_Inode
 unfold D_vol_Vol_Inode
 obtain ⟨w1,b1,b2,b3,b4⟩:=new_u (P:=Tryz.prog) (w:=w) (T:=218) zero_ino
 have hN:=h.size
 have fin:∀ (w':World) (i:Nd) (e:Int),AtU w' w.heap.size 0 (nV nZ)->(∀ w6,Mod (fun x=>x=w.heap.size) w' w6->Vg wb R0 w6.heap.size w6 v d s D nx)->(i,e)=slotAt D s.geo k->∃ w3:World,RuU (Instr.storeAt 218 (.pointer (some ⟨w.heap.size,0,none⟩)) (.agg ⟨nV i⟩)) w' w3/\∃ gR2:Array Value,Ru (Instr.loadAt 218 (.pointer (some ⟨w.heap.size,0,none⟩))) w3 (.agg gR2) w3/\K (.tuple #[.agg gR2,.int .i64 e]) w3:=fun w' i e hat hv he=>by
  have hw:nWf i:=by have:=slotAt_wf D s.geo k; rw [<- he] at this; exact this
  obtain ⟨w3,c1,c2,c3,c4⟩:=hat.put (T:=218) (vs:=nV i) agg_ino rfl (nV_len hw) (one_nV _)
  refine ⟨w3,c1,_,c2.at.all agg_ino (nV_len hw),?_⟩
  have:=hk w3 (hv w3 c3)
  rw [<- he] at this
  exact this
 have h1:=h.nos b3
 refine ⟨_,w1,b1,vpl_c h63 h1 fun w2 m2=>⟨_,_,_,rfl,?_⟩⟩
 have h2:=h1.nos m2
 rw [bneI]
 refine cond_of (fun he=>⟨_,build_ino0,?_⟩) (fun he=>?_)
 ·have he:=of_decide_eq_true he
  exact fin w2 nZ _ (b2.keep m2 id) (fun w6 m6=>(h2.put hN m6).up) (by unfold slotAt; rw [if_pos he])
 have he:=Classical.not_not.1 (of_decide_eq_false he)
 have hin:=gPlace_b (g:=s.geo) (s:=k) (b:=(gPlace s.geo k).1) (p:=(gPlace s.geo k).2.1) (by rw [<- he])
 refine ⟨_,rfl,?_⟩
 have hs1:=b3.size
 have hs2:=m2.size
 refine h2.rd (by omega) (by omega) fun w4 g cc h4 m4 hput hat hl hcc=>⟨_,_,_,_,rfl,ff rfl ?_⟩
 refine inoRead_c hl hcc (.inr ⟨_,_,rfl,hat.at⟩) (by omega) fun w6 m6=>⟨_,_,rfl,?_⟩
 exact fin w6 _ _ (((b2.keep m2 id).keep m4 (by show ¬ w.heap.size<N; omega)).keep m6 id) (fun w7 m7=>hput _ w6 w7 hN (by omega) m6 m7) (by unfold slotAt; rw [if_neg (by rw [he]; decide)])
end
end Go.Proofs.YtelhlihjihklbaaGreat
end
section
open Go Go.Den Go.Proofs
namespace Go.Proofs.YtelhlihjihklbaaGreat
section
variable {V:Ps} {g:Gm} {hs:List Hd}
theorem find_mapO (l:List On) (f:On->On) (hf:∀ o,(f o).b=o.b) (k:Int):(l.map f).find? (fun o=>(o.b:Int)==k)=(l.find? fun o=>(o.b:Int)==k).map f:=by
 rw [List.find?_map]
 congr 2
 funext o
 simp only [Function.comp]
 rw [hf]
theorem onOf_new (V:Ps) (b:Nat) (n:Int):onOf (newO V b) n=match onOf V n with | some o=>some o | none=>if (b:Int)=n then some ⟨b,contV V b,[]⟩ else none:=by
 unfold newO
 cases hb:onOf V b with
 | some o =>
  show onOf V n=_
  cases hn:onOf V n with
  | some o2=>rfl
  | none =>
   show none=_
   rw [if_neg fun e=>by rw [<- e,hb] at hn; cases hn]
 | none =>
  show (V.ons++[(⟨b,contV V b,[]⟩:On)]).find? (fun o=>(o.b:Int)==n)=_
  rw [List.find?_append]
  show (onOf V n).or _=_
  cases hn:onOf V n with
  | some o2=>rfl
  | none =>
   simp only [Option.none_or,List.find?_cons,List.find?_nil]
   by_cases e:(b:Int)=n
   ·rw [if_pos e]
    have:((b:Int)==n)=true:=by simpa using e
    rw [this]
   ·rw [if_neg e]
    have:((b:Int)==n)=false:=by simpa using e
    rw [this]
theorem contV_new (V:Ps) (b c:Nat):contV (newO V b) c=contV V c:=by
 have hC:=(newO_C (V:=V) (b:=b)).1
 have e:=onOf_new V b c
 unfold contV
 cases hc:onOf V c with
 | some o =>
  rw [hc] at e
  rw [e]
 | none =>
  rw [hc] at e
  simp only at e
  by_cases hb:(b:Int)=c
  ·rw [if_pos hb] at e
   rw [e]
   have hbc:b=c:=by omega
   subst hbc
   show withL (contV V b) []=_
   unfold contV
   rw [hc]; rfl
  ·rw [if_neg hb] at e
   rw [e]
   show atD (newO V b).C.D c=atD V.C.D c
   rw [hC]
theorem contV_add (V:Ps) (x:Ch) (c:Nat):contV (addX V x) c=if c=x.b then overB (contV V c) x.frm x.data else contV V c:=by
 rw [<- contV_new V x.b c]
 show contV (appO (newO V x.b) x) c=_
 have hon:∃ o,onOf (newO V x.b) x.b=some o:=by
  rw [onOf_new]
  cases onOf V x.b with
  | some o=>exact ⟨o,rfl⟩
  | none=>exact ⟨⟨x.b,contV V x.b,[]⟩,if_pos rfl⟩
 generalize newO V x.b=W at *
 have e:onOf (appO W x) c=(onOf W c).map (fun o=>if o.b=x.b then { o with l:=o.l++[x] } else o):=find_mapO W.ons _ (fun o=>by split <;> rfl) c
 show contV (appO W x) c=_
 unfold contV
 rw [e]
 cases hc:onOf W c with
 | none =>
  by_cases hcb:c=x.b
  ·obtain ⟨o,ho⟩:=hon
   rw [hcb,ho] at hc; cases hc
  ·rw [if_neg hcb]; rfl
 | some o =>
  have hob:=(onOf_some hc).2
  have hob:o.b=c:=by omega
  by_cases hcb:c=x.b
  ·rw [if_pos hcb]
   simp only [Option.map_some]
   rw [if_pos (by omega)]
   show withL o.base (o.l++[x])=_
   unfold withL
   rw [List.foldl_append]; rfl
  ·rw [if_neg hcb]
   simp only [Option.map_some]
   rw [if_neg (by omega)]
theorem contV_pat {n f:Int} {data:Bk} {after:List Int} (h:patE V n f data after=0) (c:Nat):contV (patS V n f data after) c=if c=n.toNat then overB (contV V c) f.toNat data else contV V c:=by
 have e:patS V n f data after=addX V (newX V n.toNat f.toNat data after):=by unfold patS; rw [if_pos h]
 rw [e,contV_add]; rfl
theorem patS_C0 (V:Ps) (n f:Int) (data:Bk) (after:List Int):(patS V n f data after).C=V.C:=(patS_C (V:=V) (C:=V.C) rfl).2.2
theorem patS_last {n f:Int} {data:Bk} {after:List Int} (h:patE V n f data after=0):(patS V n f data after).last=V.last+1:=by
 unfold patS; rw [if_pos h]; rfl
def HdsAt (V:Ps) (g:Gm) (hs:List Hd):Prop :=
 gOk g=true/\gSize g<=V.C.D.vs.length/\(hs.length:Int)=g.gs/\∀ (k:Nat) (h:Hd),hs[k]?=some h->contV V (2+k*g.gr).toNat=grpB g h/\hOk g h=true/\h.no=k/\hWf h
theorem head_pos {g:Gm} (hg:gOk g=true) {k:Nat} (hk:(k:Int)<g.gs):gHead g k=(2+k*g.gr,0)/\2<=2+(k:Int)*g.gr/\2+(k:Int)*g.gr<gSize g:=by
 have e:gHead g k=(2+k*g.gr,0):=by unfold gHead; rw [if_pos hg,if_pos ⟨by omega,hk⟩]
 obtain ⟨h1,_⟩:=gOk_iff.1 hg
 have hp:0<=(k:Int)*g.gr:=Int.mul_nonneg (by omega) (by omega)
 exact ⟨e,by omega,(gHead_in e).2⟩
theorem head_inj {g:Gm} (hg:gOk g=true) {j k:Nat} (h:(2+(j:Int)*g.gr).toNat=(2+(k:Int)*g.gr).toNat):j=k:=by
 obtain ⟨h1,_⟩:=gOk_iff.1 hg
 have hj:0<=(j:Int)*g.gr:=Int.mul_nonneg (by omega) (by omega)
 have hk:0<=(k:Int)*g.gr:=Int.mul_nonneg (by omega) (by omega)
 have e:(j:Int)*g.gr=k*g.gr:=by omega
 have:=Int.eq_of_mul_eq_mul_right (by omega) e
 omega
theorem HdsAt.lt (h:HdsAt V g hs) {k:Nat} {x:Hd} (hk:hs[k]?=some x):(k:Int)<g.gs:=by
 have:=(List.getElem?_eq_some_iff.1 hk).1
 have:=h.2.2.1
 omega
def setHB (g:Gm) (h:Hd):Bk:=(grpB g h).take 64
theorem setHB_len {g:Gm} {h:Hd} (hw:hWf h):(setHB g h).length=64:=by unfold setHB; rw [List.length_take,grpB_len hw]; rfl
def setHV (V:Ps) (g:Gm) (k:Nat) (h:Hd):Ps:=patS V (2+k*g.gr) 0 (setHB g h) []
theorem setH_E (hV:HdsAt V g hs) {k:Nat} (hk:(k:Int)<g.gs) {h:Hd} (hw:hWf h):patE V (2+k*g.gr) 0 (setHB g h) []=0:=by
 obtain ⟨_,p1,p2⟩:=head_pos hV.1 hk
 have:=hV.2.1
 have e:errOf V.C.D (2+k*g.gr)=0:=by unfold errOf; rw [if_neg (by omega)]
 unfold patE
 rw [e,if_neg (by decide),if_neg (by rw [setHB_len hw]; omega)]
 rfl
theorem HdsAt.set (hV:HdsAt V g hs) {k:Nat} (hk:(k:Int)<g.gs) {h:Hd} (hw:hWf h) (ho:hOk g h=true) (hn:h.no=k):HdsAt (setHV V g k h) g (hs.set k h):=by
 have hE:=setH_E hV hk (h:=h) hw
 obtain ⟨g1,g2,g3,g4⟩:=hV
 refine ⟨g1,by unfold setHV; rw [patS_C0]; exact g2,by simpa using g3,fun j x hj=>?_⟩
 unfold setHV
 rw [contV_pat hE]
 by_cases e:j=k
 ·subst e
  have hlt:j<hs.length:=by omega
  rw [List.getElem?_set_self hlt] at hj
  cases hj
  rw [if_pos rfl]
  obtain ⟨q1,q2,q3,q4⟩:=g4 j hs[j] (by simp [hlt])
  rw [q1]
  exact ⟨grp_over q4 hw,ho,hn,hw⟩
 ·rw [List.getElem?_set_ne (fun x=>e x.symm)] at hj
  rw [if_neg fun x=>e (head_inj g1 x)]
  exact g4 j x hj
end
def ringK (g:Gm) (s:Int) (i:Nat):Nat:=((s+i) % g.gs).toNat
def ringF (p:Int) (there:Bool) (i:Nat):Int:=if i=0/\there=true then p+1 else 0
def takeAt (g:Gm) (hs:List Hd) (fz:Int->Bool) (find:Hd->Int->Int) (s p:Int) (there:Bool) (i:Nat):Option (Nat×Int) :=
 if fz (ringK g s i)=true then none else
  match hs[ringK g s i]? with
  | some h=>if 0<=find h (ringF p there i) then some (ringK g s i,find h (ringF p there i)) else none
  | none=>none
def takeTo (g:Gm) (hs:List Hd) (fz:Int->Bool) (find:Hd->Int->Int) (s p:Int) (there:Bool):Nat->Option (Nat×Int)
 | 0=>none
 | n+1=>match takeTo g hs fz find s p there n with | some x=>some x | none=>takeAt g hs fz find s p there n
theorem ringK_lt {g:Gm} (hg:gOk g=true) (s:Int) (i:Nat):(ringK g s i:Int)<g.gs:=by
 obtain ⟨_,_,h3,_⟩:=gOk_iff.1 hg
 unfold ringK
 have h1:=Int.emod_nonneg (s+i) (show g.gs≠0 by omega)
 have h2:=Int.emod_lt_of_pos (s+i) (show 0<g.gs by omega)
 omega
end Go.Proofs.YtelhlihjihklbaaGreat
end
section
open Go Go.Den Go.Proofs
namespace Go.Proofs.YtelhlihjihklbaaGreat
theorem andnot_nat8 {a b:Nat} (ha:a<256) (hb:b<256):IntKind.u8.wrap (bvAndNot 8 (a:Int) (b:Int))=((a &&& (255-b):Nat):Int):=by
 have:bvAndNot 8 (a:Int) (b:Int)=((a &&& (255-b):Nat):Int):=by
  show (((_:BitVec 8).toNat:Nat):Int)=_
  rw [BitVec.ofInt_natCast,BitVec.ofInt_natCast,BitVec.toNat_and,BitVec.toNat_not,BitVec.toNat_ofNat,BitVec.toNat_ofNat,Nat.mod_eq_of_lt ha,Nat.mod_eq_of_lt hb]
 have hlt:a &&& (255-b)<=a:=Nat.and_le_left
 rw [this,wrapU8]; omega
section
variable {w:World} {K:Value->World->Prop}
theorem bitSet_c {a:Option Addr} {l c i:Nat} {on:Bool} {xs:List UInt8} (hl:xs.length=l) (hr:Row w a (u8L xs)) (h63:l<=1048576) (hi:i<8*l)
  (hk:∀ w' q,Mod No w w'->w.heap.size<=q->AtU w' q 0 (u8L (putB xs i on))->K (.tuple #[.slice (some ⟨q,0,none⟩) l l,.int .i64 0]) w'):Cal Tryz.prog F_bits_Set #[.slice a l c,.int .i64 i,.bool on] w K:=by
 apply C_bits_Set
 unfold D_bits_Set
 apply C_bits_there
 unfold D_bits_there
 refine Share.dup (tt (decide_eq_true (by omega)) ⟨_,rfl,_,rfl,ff ?_ ?_⟩)
 ·rw [wrap64 (x:=8*(l:Int)) (by omega) (by omega),decide_eq_true (by omega)]; rfl
 have hi8:i / 8<xs.length:=by omega
 have d1:IntKind.i64.wrap (Int.tdiv (i:Int) 8)=((i / 8:Nat):Int):=by rw [Int.tdiv_eq_ediv_of_nonneg (by omega),wrap64 (by omega) (by omega)]; omega
 have d2:Int.tmod (i:Int) 8=((i % 8:Nat):Int):=by rw [Int.tmod_eq_emod_of_nonneg (by omega)]; omega
 rw [d1,d2]
 have hp8:=pow8 (k:=i % 8) (by omega)
 obtain ⟨w1,a1,a2,a3,a4⟩:=makeSlice_run (P:=Tryz.prog) (w:=w) (n:=l) elemZ_bytes (by omega) (by omega) (by omega)
 obtain ⟨w2,b1,b2,b3,b4⟩:=copy_run (P:=Tryz.prog) (T:=88) (T2:=88) (ty:=3) (n:=l) (n2:=l) (c:=l) (c2:=c) elemN_bytes a2 (by simp) (hr.nos a3) (by rw [length_u8L,hl]; omega) (one_u8L _)
 have e2:splice (List.replicate (l*1) (Value.int .u8 0)) 0 ((u8L xs).take (Nat.min l l*1))=u8L xs:=by
  unfold splice
  rw [List.take_zero,List.nil_append,List.take_of_length_le (by rw [length_u8L,hl]; simp),List.drop_eq_nil_of_le (by rw [length_u8L,hl]; simp),List.append_nil]
 rw [e2] at b2
 have ix:Al (Instr.indexAt 88 (.slice (some ⟨w.heap.size,0,none⟩) l l) (.int .i64 ((i / 8:Nat):Int))) (.pointer (some ⟨w.heap.size,i / 8,none⟩)):=by
  have:=index_slice (P:=Tryz.prog) (T:=88) (k:=1) (n:=l) (c:=l) (a:=⟨w.heap.size,0,none⟩) (kk:=.i64) (i:=((i / 8:Nat):Int)) elemN_bytes (by omega) (by omega)
  rw [add_none,show 0+((i / 8:Nat):Int).toNat*1=i / 8 by omega] at this
  exact this
 have n1:(xs.getD (i / 8) 0).toNat &&& (255-2 ^ (i % 8))<256:=Nat.lt_of_le_of_lt Nat.and_le_left (xs.getD (i / 8) 0).toNat_lt
 obtain ⟨w4,c1,c2,c3,c4⟩:=b2.drew.store (P:=Tryz.prog) (T:=5) (i:=i / 8) (v:=.int .u8 (((xs.getD (i / 8) 0).toNat &&& (255-2 ^ (i % 8)):Nat):Int)) (by kernel_rfl) (by rw [length_u8L]; omega) rfl
 rw [u8L_set _ _ _ n1] at c2
 have c2:AtU w4 w.heap.size 0 (u8L (clrB xs i)):=c2
 have M2:Mod No w w2:=a3.own b3 (Nat.le_refl _)
 have M4:Mod No w w4:=M2.drew.own c3 (Nat.le_refl _)
 have g0:xs.getD (i / 8) 0=xs[i / 8]:=by rw [List.getD_eq_getElem?_getD,List.getElem?_eq_getElem hi8]; rfl
 refine ⟨_,_,_,w1,a1,_,w2,b1,_,ix,((xs.getD (i / 8) 0).toNat:Int),?_,_,shl8 (by omega),_,ix,w4,?_,?_⟩
 ·have:=b2.at.drew.load (P:=Tryz.prog) (T:=5) (i:=i / 8) (by kernel_rfl) (u8L_get hi8)
  rw [Nat.zero_add] at this
  rw [g0]; exact this
 ·rw [one_shl (Nat.mod_lt _ (by omega)),andnot_nat8 (UInt8.toNat_lt _) hp8]
  rw [Nat.zero_add] at c1
  exact c1
 refine Share.cut (fun z w6=>AtU w6 w.heap.size 0 (u8L (putB xs i on))/\Mod No w w6) ?_ ?_
 ·cases on with
  | false=>exact ⟨c2,M4⟩
  | true =>
   have hc8:i / 8<(clrB xs i).length:=by rw [clrB_len]; exact hi8
   have n2:((clrB xs i).getD (i / 8) 0).toNat ||| 2 ^ (i % 8)<256:=Nat.or_lt_two_pow (n:=8) (UInt8.toNat_lt _) hp8
   obtain ⟨w5,d1,d2,d3,d4⟩:=c2.drew.store (P:=Tryz.prog) (T:=5) (i:=i / 8) (v:=.int .u8 ((((clrB xs i).getD (i / 8) 0).toNat ||| 2 ^ (i % 8):Nat):Int)) (by kernel_rfl) (by rw [length_u8L]; omega) rfl
   rw [u8L_set _ _ _ n2] at d2
   have g1:(clrB xs i).getD (i / 8) 0=(clrB xs i)[i / 8]:=by rw [List.getD_eq_getElem?_getD,List.getElem?_eq_getElem hc8]; rfl
   refine ⟨_,ix,(((clrB xs i).getD (i / 8) 0).toNat:Int),?_,_,shl8 (by omega),_,ix,w5,?_,d2,M4.drew.own d3 (Nat.le_refl _)⟩
   ·have:=c2.at.drew.load (P:=Tryz.prog) (T:=5) (i:=i / 8) (by kernel_rfl) (u8L_get hc8)
    rw [Nat.zero_add] at this
    rw [g1]; exact this
   ·rw [one_shl (Nat.mod_lt _ (by omega)),or_nat8 (UInt8.toNat_lt _) hp8]
    rw [Nat.zero_add] at d1
    exact d1
 ·rintro z w6 ⟨h1,h2⟩
  exact hk w6 _ h2 (Nat.le_refl _) h1
def fstB (xs:List UInt8) (i:Nat):Int:=match (List.range i).find? (clearB xs) with | some j=>j | none=>-1
theorem bitFirst_c {a:Option Addr} {l c:Nat} {n f:Int} {xs:List UInt8} (hl:xs.length=l) (hr:Row w a (u8L xs)) (h63:l<=1048576) (hk:∀ w',Mod No w w'->K (.int .i64 (firstB xs n f)) w'):Cal Tryz.prog F_bits_First #[.slice a l c,.int .i64 n,.int .i64 f] w K:=by
 apply C_bits_First
 unfold D_bits_First
 refine Share.cut (fun z w1=>w1=w/\z=[.bool (decide (f<0\/n<f))]) (cond_of (fun h=>⟨rfl,?_⟩) (fun h=>⟨rfl,?_⟩)) ?_
 ·rw [decide_eq_true (show f<0\/n<f from .inl (of_decide_eq_true h))]
 ·have h:=of_decide_eq_false h
  congr 2
  exact decide_eq_decide.2 ⟨.inr,fun e=>e.resolve_left h⟩
 rintro z w1 ⟨rfl,rfl⟩
 refine ⟨_,rfl,Share.cut (fun z w2=>w2=w1/\z=[.int .i64 (fromB n f)]) (cond_of (fun h=>⟨rfl,?_⟩) (fun h=>⟨rfl,?_⟩)) ?_⟩
 ·unfold fromB; rw [if_pos (of_decide_eq_true h)]
 ·unfold fromB; rw [if_neg (of_decide_eq_false h)]
 rintro z w2 ⟨rfl,rfl⟩
 apply C_bits_most
 unfold D_bits_most
 refine ⟨_,rfl,?_⟩
 rw [wrap64 (x:=8*(l:Int)) (by omega) (by omega)]
 have em:(if 8*(l:Int)<(if 0 > n then 0 else n) then 8*(l:Int) else (if 0 > n then 0 else n))=(upB xs n:Int):=by
  unfold upB; rw [hl]; split <;> split <;> omega
 rw [em]
 have hu:upB xs n<=8*l:=by unfold upB; omega
 generalize hm:upB xs n=m at *
 refine ⟨fun x w3=>∃ j:Nat,j<=m/\x=[.int .i64 (fstB xs j),.int .i64 j]/\(List.range j).find? (fun i=>clearB xs i&&decide (fromB n f<=i))=none/\Mod No w2 w3,fun x _=>(m-nI x 1).toNat,⟨0,by omega,rfl,rfl,Mod.refl _ _⟩,?_⟩
 rintro x w3 ⟨j,hj,rfl,hno,m3⟩
 refine ⟨_,rfl,cond_of (fun h=>?_) (fun h=>?_)⟩
 ·have h:=of_decide_eq_true h
  have hs:=find_range_succ (clearB xs) j
  have hs2:=find_range_succ (fun i=>clearB xs i&&decide (fromB n f<=i)) j
  rw [hno] at hs2
  have hs2:(List.range (j+1)).find? (fun i=>clearB xs i&&decide (fromB n f<=i))=if (clearB xs j&&decide (fromB n f<=j))=true then some j else none:=hs2
  refine Share.cut (fun z w5=>z=[.int .i64 (fstB xs (j+1))]/\(List.range (j+1)).find? (fun i=>clearB xs i&&decide (fromB n f<=i))=none/\Mod No w2 w5) ?_ ?_
  ·refine bitGet_c (xs:=xs) hl (hr.nos m3) h63 (by omega) fun w5 m5=>⟨_,rfl,cond_of (fun h2=>⟨?_,?_,m3.no m5⟩) (fun h2=>⟨_,rfl,cond_of (fun h3=>?_) (fun h3=>⟨_,rfl,?_⟩)⟩)⟩
   ·have hc:clearB xs j=false:=by unfold clearB; rw [h2]; rfl
    unfold fstB
    rw [hs,hc]
    cases (List.range j).find? (clearB xs) <;> rfl
   ·have hc:clearB xs j=false:=by unfold clearB; rw [h2]; rfl
    rw [hs2,hc]; rfl
   ·have h3:=of_decide_eq_true h3
    have hc:clearB xs j=true:=by unfold clearB; rw [h2]; rfl
    have hc2:(clearB xs j&&decide (fromB n f<=j))=true:=by rw [hc,decide_eq_true (by omega)]; rfl
    rw [if_pos hc2] at hs2
    have e:firstB xs n f=j:=by
     unfold firstB
     rw [hm,find_range_mono hs2 (by omega)]
    rw [<- e]
    exact hk _ (m3.no m5)
   ·have h3:=of_decide_eq_false h3
    have hc:clearB xs j=true:=by unfold clearB; rw [h2]; rfl
    have hc2:(clearB xs j&&decide (fromB n f<=j))=false:=by rw [hc,decide_eq_false (by omega)]; rfl
    rw [hc2] at hs2
    rw [hc] at hs
    refine Share.cut (fun z w6=>w6=w5/\z=[.int .i64 (fstB xs (j+1))]) (cond_of (fun h4=>⟨rfl,?_⟩) (fun h4=>⟨rfl,?_⟩)) ?_
    ·have h4:=of_decide_eq_true h4
     unfold fstB at h4 |-
     rw [hs]
     cases hf:(List.range j).find? (clearB xs) with
     | none=>rfl
     | some i=>rw [hf] at h4; simp only at h4; omega
    ·have h4:=of_decide_eq_false h4
     unfold fstB at h4 |-
     rw [hs]
     cases hf:(List.range j).find? (clearB xs) with
     | none=>rw [hf] at h4; simp only at h4; omega
     | some i=>rfl
    ·rintro z w6 ⟨rfl,rfl⟩
     exact ⟨rfl,hs2,m3.no m5⟩
  ·rintro z w5 ⟨rfl,h1,h2⟩
   rw [wrap64 (x:=(j:Int)+1) (by omega) (by omega)]
   exact ⟨⟨j+1,by omega,rfl,h1,h2⟩,by simp [nI,nth]; omega⟩
 ·have h:=of_decide_eq_false h
  have:j=m:=by omega
  subst this
  refine ⟨_,rfl,?_⟩
  have e:firstB xs n f=fstB xs j:=by
   unfold firstB fstB
   rw [hm,hno]
   cases (List.range j).find? (clearB xs) <;> rfl
  rw [<- e]
  exact hk _ m3
end
end Go.Proofs.YtelhlihjihklbaaGreat
end
section
open Go Go.Den Go.Proofs
namespace Go.Proofs.YtelhlihjihklbaaGreat
theorem gTabs_b {g:Gm}:0<=gTabs g/\gTabs g<=16:=by
 unfold gTabs
 split
 ·rename_i h
  obtain ⟨_,_,_,_,h5,h6,_⟩:=gOk_iff.1 h
  omega
 ·omega
section
variable {w:World} {K:Value->World->Prop}
theorem grMay_c {g:Gm} {h:Hd} {i f t:Int} (hw:hWf h) (hk:∀ w',Mod No w w'->K (.int .i64 (grMay g h i f t)) w') :
  Cal Tryz.prog F_group_may #[.agg ⟨gV g⟩,.agg ⟨hV h⟩,.int .i64 i,.int .i64 f,.int .i64 t] w K:=by
 apply C_group_may
 unfold D_group_may
 obtain ⟨w1,a1,a2,a3,a4⟩:=box_u (P:=Tryz.prog) (w:=w) (T:=40) (cs:=gV g)
 obtain ⟨w2,b1,b2,b3,b4⟩:=box_u (P:=Tryz.prog) (w:=w1) (T:=119) (cs:=hV h)
 have m2:=a3.no b3
 refine ⟨_,w1,a1,_,w2,b1,_,(a2.at.keep b3 id).all agg_geo rfl,_,b2.at.all agg_head (hV_len hw),hRight_c hw fun w3 m3=>⟨_,rfl,cond_of (fun ho=>?_) (fun ho=>?_)⟩⟩
 ·have e:grMay g h i f t=1:=by unfold grMay; rw [if_pos (by simpa using ho)]
  rw [<- e]; exact hk _ (m2.no m3)
 have ho:hOk g h=true:=by simpa using ho
 refine Share.cut (fun z w4=>w4=w3/\z=[.bool (decide (i<f\/t<=i))]) (cond_of (fun hb=>⟨rfl,?_⟩) (fun hb=>⟨rfl,?_⟩)) ?_
 ·rw [decide_eq_true (show i<f\/t<=i from .inl (of_decide_eq_true hb))]
 ·have hb:=of_decide_eq_false hb
  congr 2
  exact decide_eq_decide.2 ⟨.inr,fun e=>e.resolve_left hb⟩
 rintro z w4 ⟨rfl,rfl⟩
 refine ⟨_,rfl,cond_of (fun hb=>?_) (fun hb=>?_)⟩
 ·have e:grMay g h i f t=3:=by unfold grMay; rw [if_neg (by rw [ho]; decide),if_pos (of_decide_eq_true hb)]
  rw [<- e]; exact hk _ (m2.no m3)
 ·have e:grMay g h i f t=0:=by unfold grMay; rw [if_neg (by rw [ho]; decide),if_neg (of_decide_eq_false hb)]
  rw [<- e]; exact hk _ (m2.no m3)
theorem grUse_c {b o l c i:Nat} {on:Bool} {cs:List Value} {xs:List UInt8} (hl:xs.length=l) (hat:AtU w b 0 cs) (hx:(cs.drop o).take l=u8L xs) (hol:o+l<=cs.length) (h63:l<=1048576) (hi:i<8*l)
  (hk:∀ w',Mod (fun x=>x=b) w w'->AtU w' b 0 (if bitB xs i=on then cs else splice cs o (u8L (putB xs i on)))->K (.int .i64 (if bitB xs i=on then 6 else 0)) w') :
  Cal Tryz.prog F_group_use #[.slice (some ⟨b,o,none⟩) l c,.int .i64 i,.bool on] w K:=by
 apply C_group_use
 unfold D_group_use
 have hr:Row w (some ⟨b,o,none⟩) (u8L xs):=.inr ⟨b,o,rfl,by
  have:=hat.at.sub (i:=o) (m:=l) (by omega)
  rw [Nat.zero_add,hx] at this; exact this⟩
 refine bitGet_c hl hr h63 (by omega) fun w1 m1=>⟨_,rfl,cond_of (fun h=>?_) (fun h=>?_)⟩
 ·have h:bitB xs i=on:=by simpa using h
  rw [if_pos h,if_pos h] at hk
  exact hk w1 (m1.mono fun _ _ e=>e.elim) (hat.keep m1 id)
 ·have h:¬ bitB xs i=on:=by simpa using h
  rw [if_neg h,if_neg h] at hk
  refine bitSet_c hl (hr.nos m1) h63 hi fun w2 q m2 hq hat2=>⟨_,_,_,_,rfl,?_⟩
  obtain ⟨w3,p1,p2,p3,p4⟩:=copy_in (P:=Tryz.prog) (T:=88) (T2:=88) (ty:=3) (o:=0) (i:=o) (n:=l) (c:=c) (n2:=l) (c2:=l) (a2:=some ⟨q,0,none⟩) elemN_bytes ((hat.keep m1 id).keep m2 id) (by omega) (.inr ⟨q,0,rfl,hat2.at⟩) (by rw [length_u8L,putB_len,hl]; omega) (one_u8L _)
  rw [Nat.zero_add] at p1
  rw [List.take_of_length_le (by rw [length_u8L,putB_len,hl]; simp)] at p2
  exact ⟨_,w3,p1,hk w3 (((m1.no m2).mono fun _ _ e=>e.elim).trans p3 fun _ _ e=>e) p2⟩
theorem hV_dropb {h:Hd} (hw:hWf h):((hV h).drop 1).take 16=u8L h.bs:=by
 unfold hV
 rw [List.drop_succ_cons,List.drop_zero,List.take_append_of_le_length (by rw [length_u8L,hw.1]; omega),List.take_of_length_le (by rw [length_u8L,hw.1]; omega)]
theorem hV_drops {h:Hd} (hw:hWf h):((hV h).drop 17).take 8=u8L h.ss:=by
 unfold hV
 rw [show 17=16+1 from rfl,List.drop_succ_cons,List.drop_append,List.drop_eq_nil_of_le (by rw [length_u8L,hw.1]; omega),length_u8L,hw.1,Nat.sub_self,List.drop_zero,List.nil_append,List.take_of_length_le (by rw [length_u8L,hw.2]; omega)]
theorem useBk_c {g:Gm} {h:Hd} {i:Int} {on:Bool} (hw:hWf h) (hk:∀ w',Mod No w w'->K (.tuple #[.agg ⟨hV (useBk g h i on).1⟩,.int .i64 (useBk g h i on).2]) w') :
  Cal Tryz.prog F_group_UseBlock #[.agg ⟨gV g⟩,.agg ⟨hV h⟩,.int .i64 i,.bool on] w K:=by
 apply C_group_UseBlock
 unfold D_group_UseBlock
 obtain ⟨w1,a1,a2,a3,a4⟩:=box_u (P:=Tryz.prog) (w:=w) (T:=40) (cs:=gV g)
 obtain ⟨w2,b1,b2,b3,b4⟩:=box_u (P:=Tryz.prog) (w:=w1) (T:=119) (cs:=hV h)
 obtain ⟨w3,c1,c2,c3,c4⟩:=new_u (P:=Tryz.prog) (w:=w2) (T:=119) zero_head
 have m2:=a3.no b3
 have m3:=(m2.no c3).drew
 have q1:AtU (Go.Den.drew w3) w.heap.size 0 (gV g):=((a2.keep b3 id).keep c3 id).drew
 have q2:AtU (Go.Den.drew w3) w1.heap.size 0 (hV h):=(b2.keep c3 id).drew
 have q3:AtU (Go.Den.drew w3) w2.heap.size 0 (hV hZ):=c2.drew
 have z1:=a3.size
 have z2:=b3.size
 have n12:w1.heap.size<w2.heap.size:=b2.lt
 refine ⟨_,w1,a1,_,w2,b1,_,w3,c1,_,q1.at.all agg_geo rfl,_,q2.at.all agg_head (hV_len hw),_,q1.at.all agg_geo rfl,_,q1.at.fld sc_int rfl,geoTabs_c fun w4 m4=>⟨_,rfl,(q1.keep m4 id).at.all agg_geo rfl,(q2.keep m4 id).at.all agg_head (hV_len hw),(q1.keep m4 id).at.fld sc_int rfl,?_⟩⟩
 have htb:=gTabs_b (g:=g)
 rw [wrap64 (x:=1+gTabs g) (by omega) (by omega)]
 refine grMay_c hw fun w5 m5=>⟨_,rfl,?_⟩
 have m45:=m4.no m5
 have p2:=q2.keep m45 id
 have p3:=q3.keep m45 id
 have M5:=m3.no m45
 refine Share.cut (fun z w7=>∃ e h',z=[.int .i64 e]/\Mod No w w7/\AtU w7 w1.heap.size 0 (hV h')/\AtU w7 w2.heap.size 0 (hV hZ)/\hWf h'/\useBk g h i on=if e≠0 then (hZ,e) else (h',0)) ?_ ?_
 ·rw [beqI]
  refine cond_of (fun he=>?_) (fun he=>?_)
  ·have he:=of_decide_eq_true he
   obtain ⟨ho,f1,f2⟩:=grMay_0 he
   obtain ⟨g1,_⟩:=hOk_iff.1 ho
   obtain ⟨_,gr2,_⟩:=gOk_iff.1 g1
   obtain ⟨j,rfl⟩:=Int.eq_ofNat_of_zero_le (show 0<=i by omega)
   have ad1:Addr.add ⟨w1.heap.size,0,none⟩ 1=⟨w1.heap.size,1,none⟩:=by rw [add_none]
   rw [ad1]
   refine ⟨_,_,_,sliceA_all arr16,?_⟩
   refine grUse_c (o:=1) (l:=16) (xs:=h.bs) hw.1 p2 (hV_dropb hw) (by rw [hV_len hw]; omega) (by omega) (by omega) fun w6 m6 h6=>⟨_,rfl,?_⟩
   have hU:useBk g h j on=if bitB h.bs j=on then (hZ,6) else (⟨h.no,putB h.bs j on,h.ss⟩,0):=by
    unfold useBk; rw [if_neg (by rw [he]; decide)]; rfl
   rw [hU]
   by_cases hb:bitB h.bs j=on
   ·rw [if_pos hb] at h6 |-
    exact ⟨_,h,rfl,M5.own m6 (by omega),h6,p3.keep m6 (fun e=>by have e:w2.heap.size=w1.heap.size:=e; omega),hw,by rw [if_pos hb]; rfl⟩
   ·rw [if_neg hb] at h6 |-
    rw [splice_b hw (by rw [putB_len]; exact hw.1)] at h6
    exact ⟨_,_,rfl,M5.own m6 (by omega),h6,p3.keep m6 (fun e=>by have e:w2.heap.size=w1.heap.size:=e; omega),⟨by show (putB _ _ _).length=16; rw [putB_len]; exact hw.1,hw.2⟩,by rw [if_neg hb]; rfl⟩
  ·have he:=of_decide_eq_false he
   exact ⟨_,h,rfl,M5,p2,p3,hw,by unfold useBk; rw [if_pos he,if_pos he]⟩
 rintro z w7 ⟨e,h',rfl,m7,x2,x3,hw',hU⟩
 refine ⟨_,rfl,?_⟩
 rw [bneI]
 refine cond_of (fun he=>⟨_,build_head0,?_⟩) (fun he=>?_)
 ·have he:=of_decide_eq_true he
  rw [if_pos he] at hU
  rw [hU] at hk
  obtain ⟨w8,y1,y2,y3,y4⟩:=x3.put (T:=119) (vs:=hV hZ) agg_head (hV_len hZ_wf) (hV_len hZ_wf) (one_hV _)
  exact ⟨w8,y1,_,y2.at.all agg_head (hV_len hZ_wf),hk w8 (m7.own y3 (by omega))⟩
 ·have he:=of_decide_eq_false he
  rw [if_neg he] at hU
  rw [hU] at hk
  obtain ⟨w8,y1,y2,y3,y4⟩:=x3.put (T:=119) (vs:=hV h') agg_head (hV_len hZ_wf) (hV_len hw') (one_hV _)
  exact ⟨_,x2.at.all agg_head (hV_len hw'),w8,y1,_,y2.at.all agg_head (hV_len hw'),hk w8 (m7.own y3 (by omega))⟩
theorem useSl_c {g:Gm} {h:Hd} {i:Int} {on:Bool} (hw:hWf h) (hk:∀ w',Mod No w w'->K (.tuple #[.agg ⟨hV (useSl g h i on).1⟩,.int .i64 (useSl g h i on).2]) w') :
  Cal Tryz.prog F_group_UseSlot #[.agg ⟨gV g⟩,.agg ⟨hV h⟩,.int .i64 i,.bool on] w K:=by
 apply C_group_UseSlot
 unfold D_group_UseSlot
 obtain ⟨w1,a1,a2,a3,a4⟩:=box_u (P:=Tryz.prog) (w:=w) (T:=40) (cs:=gV g)
 obtain ⟨w2,b1,b2,b3,b4⟩:=box_u (P:=Tryz.prog) (w:=w1) (T:=119) (cs:=hV h)
 obtain ⟨w3,c1,c2,c3,c4⟩:=new_u (P:=Tryz.prog) (w:=w2) (T:=119) zero_head
 have m3:=(a3.no b3).no c3
 have q1:AtU w3 w.heap.size 0 (gV g):=(a2.keep b3 id).keep c3 id
 have q2:AtU w3 w1.heap.size 0 (hV h):=b2.keep c3 id
 have q3:AtU w3 w2.heap.size 0 (hV hZ):=c2
 have z1:=a3.size
 have z2:=b3.size
 have n12:w1.heap.size<w2.heap.size:=b2.lt
 refine ⟨_,w1,a1,_,w2,b1,_,w3,c1,_,q2.at.fld sc_int rfl,Share.cut (fun z w4=>w4=w3/\z=[.int .i64 (slF h)]) ?_ ?_⟩
 ·rw [beqI]
  refine cond_of (fun he=>⟨rfl,?_⟩) (fun he=>⟨rfl,?_⟩)
  ·unfold slF; rw [if_pos (of_decide_eq_true he)]
  ·unfold slF; rw [if_neg (of_decide_eq_false he)]
 rintro z w4 ⟨rfl,rfl⟩
 refine ⟨_,q1.at.all agg_geo rfl,_,q2.at.all agg_head (hV_len hw),_,rfl,_,q1.at.fld sc_int rfl,?_⟩
 refine grMay_c hw fun w5 m5=>⟨_,rfl,?_⟩
 have p2:=q2.keep m5 id
 have p3:=q3.keep m5 id
 have M5:=m3.no m5
 refine Share.cut (fun z w7=>∃ e h',z=[.int .i64 e]/\Mod No w w7/\AtU w7 w1.heap.size 0 (hV h')/\AtU w7 w2.heap.size 0 (hV hZ)/\hWf h'/\useSl g h i on=if e≠0 then (hZ,e) else (h',0)) ?_ ?_
 ·rw [beqI]
  refine cond_of (fun he=>?_) (fun he=>?_)
  ·have he:=of_decide_eq_true he
   obtain ⟨ho,f1,f2⟩:=grMay_0 he
   obtain ⟨g1,_⟩:=hOk_iff.1 ho
   obtain ⟨_,_,_,_,gn1,gn2,_⟩:=gOk_iff.1 g1
   have hf:0<=slF h:=by unfold slF; split <;> decide
   obtain ⟨j,rfl⟩:=Int.eq_ofNat_of_zero_le (show 0<=i by omega)
   have ad1:Addr.add ⟨w1.heap.size,0,none⟩ 17=⟨w1.heap.size,17,none⟩:=by rw [add_none]
   rw [ad1]
   refine ⟨_,_,_,sliceA_all arr8,?_⟩
   refine grUse_c (o:=17) (l:=8) (xs:=h.ss) hw.2 p2 (hV_drops hw) (by rw [hV_len hw]; omega) (by omega) (by omega) fun w6 m6 h6=>⟨_,rfl,?_⟩
   have hU:useSl g h j on=if bitB h.ss j=on then (hZ,6) else (⟨h.no,h.bs,putB h.ss j on⟩,0):=by
    unfold useSl; rw [if_neg (by rw [he]; decide)]; rfl
   rw [hU]
   by_cases hb:bitB h.ss j=on
   ·rw [if_pos hb] at h6 |-
    exact ⟨_,h,rfl,M5.own m6 (by omega),h6,p3.keep m6 (fun e=>by have e:w2.heap.size=w1.heap.size:=e; omega),hw,by rw [if_pos hb]; rfl⟩
   ·rw [if_neg hb] at h6 |-
    rw [splice_s hw (by rw [putB_len]; exact hw.2)] at h6
    exact ⟨_,_,rfl,M5.own m6 (by omega),h6,p3.keep m6 (fun e=>by have e:w2.heap.size=w1.heap.size:=e; omega),⟨hw.1,by show (putB _ _ _).length=8; rw [putB_len]; exact hw.2⟩,by rw [if_neg hb]; rfl⟩
  ·have he:=of_decide_eq_false he
   exact ⟨_,h,rfl,M5,p2,p3,hw,by unfold useSl; rw [if_pos he,if_pos he]⟩
 rintro z w7 ⟨e,h',rfl,m7,x2,x3,hw',hU⟩
 refine ⟨_,rfl,?_⟩
 rw [bneI]
 refine cond_of (fun he=>⟨_,build_head0,?_⟩) (fun he=>?_)
 ·have he:=of_decide_eq_true he
  rw [if_pos he] at hU
  rw [hU] at hk
  obtain ⟨w8,y1,y2,y3,y4⟩:=x3.put (T:=119) (vs:=hV hZ) agg_head (hV_len hZ_wf) (hV_len hZ_wf) (one_hV _)
  exact ⟨w8,y1,_,y2.at.all agg_head (hV_len hZ_wf),hk w8 (m7.own y3 (by omega))⟩
 ·have he:=of_decide_eq_false he
  rw [if_neg he] at hU
  rw [hU] at hk
  obtain ⟨w8,y1,y2,y3,y4⟩:=x3.put (T:=119) (vs:=hV h') agg_head (hV_len hZ_wf) (hV_len hw') (one_hV _)
  exact ⟨_,x2.at.all agg_head (hV_len hw'),w8,y1,_,y2.at.all agg_head (hV_len hw'),hk w8 (m7.own y3 (by omega))⟩
theorem findBk_c {g:Gm} {h:Hd} {f:Int} (hw:hWf h) (hk:∀ w',Mod No w w'->K (.int .i64 (findBk g h f)) w') :
  Cal Tryz.prog F_group_FindBlock #[.agg ⟨gV g⟩,.agg ⟨hV h⟩,.int .i64 f] w K:=by
 apply C_group_FindBlock
 unfold D_group_FindBlock
 obtain ⟨w1,a1,a2,a3,a4⟩:=box_u (P:=Tryz.prog) (w:=w) (T:=40) (cs:=gV g)
 obtain ⟨w2,b1,b2,b3,b4⟩:=box_u (P:=Tryz.prog) (w:=w1) (T:=119) (cs:=hV h)
 have m2:=a3.no b3
 have q1:=a2.keep b3 id
 refine ⟨_,w1,a1,_,w2,b1,_,q1.at.all agg_geo rfl,_,b2.at.all agg_head (hV_len hw),hRight_c hw fun w3 m3=>⟨_,rfl,cond_of (fun ho=>?_) (fun ho=>?_)⟩⟩
 ·have e:findBk g h f=-1:=by unfold findBk; rw [if_neg (by simpa using ho)]
  rw [<- e]; exact hk _ (m2.no m3)
 have e:findBk g h f=firstB h.bs g.gr f:=by unfold findBk; rw [if_pos (by simpa using ho)]
 have ad1:Addr.add ⟨w1.heap.size,0,none⟩ 1=⟨w1.heap.size,1,none⟩:=by rw [add_none]
 rw [ad1]
 have hb:=(b2.keep m3 id).drew.at.sub (i:=1) (m:=16) (by rw [hV_len hw]; omega)
 rw [hV_dropb hw] at hb
 refine ⟨_,_,_,sliceA_all arr16,_,(q1.keep m3 id).drew.at.fld sc_int rfl,bitFirst_c (xs:=h.bs) hw.1 (.inr ⟨_,_,rfl,hb⟩) (by omega) fun w4 m4=>⟨_,rfl,?_⟩⟩
 rw [<- e]; exact hk _ ((m2.no m3).drew.no m4)
theorem findSl_c {g:Gm} {h:Hd} {f:Int} (hw:hWf h) (hk:∀ w',Mod No w w'->K (.int .i64 (findSl g h f)) w') :
  Cal Tryz.prog F_group_FindSlot #[.agg ⟨gV g⟩,.agg ⟨hV h⟩,.int .i64 f] w K:=by
 apply C_group_FindSlot
 unfold D_group_FindSlot
 obtain ⟨w1,a1,a2,a3,a4⟩:=box_u (P:=Tryz.prog) (w:=w) (T:=40) (cs:=gV g)
 obtain ⟨w2,b1,b2,b3,b4⟩:=box_u (P:=Tryz.prog) (w:=w1) (T:=119) (cs:=hV h)
 have m2:=a3.no b3
 have q1:=a2.keep b3 id
 refine ⟨_,w1,a1,_,w2,b1,_,q1.at.all agg_geo rfl,_,b2.at.all agg_head (hV_len hw),hRight_c hw fun w3 m3=>⟨_,rfl,cond_of (fun ho=>?_) (fun ho=>?_)⟩⟩
 ·have e:findSl g h f=-1:=by unfold findSl; rw [if_neg (by simpa using ho)]
  rw [<- e]; exact hk _ (m2.no m3)
 have e:findSl g h f=firstB h.ss g.no f:=by unfold findSl; rw [if_pos (by simpa using ho)]
 have ad1:Addr.add ⟨w1.heap.size,0,none⟩ 17=⟨w1.heap.size,17,none⟩:=by rw [add_none]
 rw [ad1]
 have hb:=(b2.keep m3 id).drew.at.sub (i:=17) (m:=8) (by rw [hV_len hw]; omega)
 rw [hV_drops hw] at hb
 refine ⟨_,_,_,sliceA_all arr8,_,(q1.keep m3 id).drew.at.fld sc_int rfl,bitFirst_c (xs:=h.ss) hw.2 (.inr ⟨_,_,rfl,hb⟩) (by omega) fun w4 m4=>⟨_,rfl,?_⟩⟩
 rw [<- e]; exact hk _ ((m2.no m3).drew.no m4)
end
end Go.Proofs.YtelhlihjihklbaaGreat
end
section
open Go Go.Den Go.Proofs
namespace Go.Proofs.YtelhlihjihklbaaGreat
def Dep (x z:Ch):Prop:=(z.id:Int)∈x.after\/(z.id<x.id/\meetR z x=true)
inductive Rc (l:List Ch):Ch->Ch->Prop
 | refl (x:Ch):Rc l x x
 | head {x z y:Ch}:z∈l->Dep x z->Rc l z y->Rc l x y
end Go.Proofs.YtelhlihjihklbaaGreat
end
section
namespace Go.Proofs.YtelhlihjihklbaaGreat.bulks
theorem append {H:Type} (l r:List (DataW H)):Rows.uptoBulkAll (l++r)=Rows.uptoBulkAll l+Rows.uptoBulkAll r:=by
 induction l with
 | nil=>simp [Rows.uptoBulkAll]
 | cons x l ih=>simp only [List.cons_append,Rows.uptoBulkAll,ih]; omega
end Go.Proofs.YtelhlihjihklbaaGreat.bulks
end
section
open Go Go.Den
namespace Go.Den
open Go.RowKit Go.ChangeShapes Go.WideShapes
section
variable {H:Type} {enc:TypeId×Value->H} {P:Program}
theorem trodAll_below (hl:laidOutB P=true) {W W':World} (hb:Below W.heap.size W W'):∀ {ts:List TypeId} {vs:List Value} {ds:List (DataW H)} {ps:List MemPlace},
  (ts.all fun t=>P.readableRec t&&decide (t<P.types.size))=true->DataW.TrodAll enc P W 0 (fun _=>true) true ts vs ds ps->(∀ x∈ps,x.block<W.heap.size) ->
  DataW.TrodAll enc P W' 0 (fun b=>decide (b<W.heap.size)) true ts vs ds ps
 | [],[],[],_,_,h,_=>h
 | [],[],_::_,_,_,h,_=>h.elim
 | [],_::_,_,_,_,h,_=>h.elim
 | _::_,[],_,_,_,h,_=>h.elim
 | _::_,_::_,[],_,_,h,_=>h.elim
 | t::ts,v::vs,d::ds,ps,hr,h,hlt=>by
  simp only [List.all_cons,Bool.and_eq_true,decide_eq_true_eq] at hr
  obtain ⟨p,q,h1,h2,rfl⟩:=h
  exact ⟨p,q,Below.trod hl hr.1.1 hr.1.2 h1 hb (fun x hx=>hlt x (List.mem_append_left _ hx)),trodAll_below hl hb hr.2 h2 (fun x hx=>hlt x (List.mem_append_right _ hx)),rfl⟩
theorem law_post {f:Func} {s:ChangeSpec} {apart handsOn:Bool} {W W':World} {args:Array Value} {ds gs:List (DataW H)} {before:List MemPlace} {tb:TypeId} (hl:laidOutB P=true)
  (hW:DataW.Whole enc P f.params.toList s.vars apart W args.toList ds gs before) (hv:s.vars=[]) (hr:(f.params.toList.all fun t=>P.readableRec t&&decide (t<P.types.size))=true)
  (hrt:f.resultTypes=#[tb]) (htb:P.underlying tb=some .bool) (hs:s.fn H ds={ results:=[.lit (.bool true)],args:=ds }) (hb:Below W.heap.size W W') :
  s.post enc P f apart true handsOn false W args (.bool true) W':=by
 have hlt:∀ p∈before,p.block<W.heap.size:=fun p hp=>hW.lt p hp
 have hW0:=hW
 obtain ⟨p,q,hA,hV,he,_,_⟩:=hW
 rw [hv] at hV
 have hgs:gs=[]/\q=[]:=by
  cases gs with
  | nil=>exact ⟨rfl,hV⟩
  | cons a r=>exact hV.elim
 obtain ⟨rfl,rfl⟩:=hgs
 rw [List.append_nil] at he
 subst he
 refine ⟨ds,[],before,[],before,[],hW0,?_,?_,?_,World.keptBut_mono (fun x hx=>⟨hx,.inr (.inl hx)⟩) (hb.frame (·∈before)),fun h=>Bool.noConfusion h⟩
 ·rw [hrt,List.append_nil,hs]
  exact ⟨[],[],shut_bool htb true,rfl,rfl⟩
 ·rw [List.append_nil,hs]
  exact trodAll_below hl hb hr hA hlt
 ·rw [hv,List.append_nil,hs]; rfl
end
end Go.Den
end
section
open Go Go.Den
namespace Go.Proofs.YtelhlihjihklbaaGreat
open Go.ChangeShapes Go.WideShapes Go.ChangeAt Go.RowKit
theorem own_none:ownKnob Tryz.prog.godebug=none:=by kernel_rfl
theorem laid_out:laidOutB Tryz.prog=true:=by kernel_rfl
theorem cal_calls {f:FuncId} {args:Array Value} {w:World} {K:Value->World->Prop} {R:Ending->World->Prop} (h:Cal Tryz.prog f args w K) (hk:∀ v w',K v w'->R (.returned v) w'):Calls Tryz.prog f args w R :=
 h.2.mono fun e w' he=>by cases e <;> first | exact hk _ _ he | exact he.elim
end Go.Proofs.YtelhlihjihklbaaGreat
end
section
open Go Go.Den Go.Proofs
namespace Go.Den
section
variable {P:Program} {w w':World}
end
end Go.Den
namespace Go.Proofs.YtelhlihjihklbaaGreat
section
variable {w w':World}
end
abbrev Wt:=Int×Int×Int
def wtV (x:Wt):List Value:=[.int .i64 x.1,.int .i64 x.2.1,.int .i64 x.2.2]
def rowW (L:List Wt):List Value:=(L.map wtV).flatten
theorem elemG_waits:elemG Tryz.prog 199 3 24:=elemG_of (by kernel_rfl)
structure WkIn (T:TypeId) (Z:Nat->Prop) (w:World) (q:Nat) (L:List Wt) (la:Option Addr) (lc:Nat):Prop where
 cell:AtU w q 0 [.slice la L.length lc]
 row:Ow Tryz.prog w 0 T 3 la L.length lc (rowW L)
 nq:∀ a,la=some a->a.block≠q/\¬ Z a.block
 nz:¬ Z q
def Wk (T:TypeId) (Z:Nat->Prop) (w:World) (q:Nat) (L:List Wt):Prop:=∃ la lc,WkIn T Z w q L la lc
section
variable {w w' w0:World} {R:Nat->Prop} {sp d:Nat} {V:Ps} {K:Value->World->Prop} {T:TypeId} {Z Z':Nat->Prop} {q lc:Nat} {L:List Wt} {la:Option Addr}
theorem WkIn.keep {S:Nat->Prop} (h:WkIn T Z w q L la lc) (m:Mod S w w') (hS:∀ x,S x->Z x) (hZ:∀ x,x<w.heap.size->Z' x->Z x):WkIn T Z' w' q L la lc where
 cell:=h.cell.keep m fun e=>h.nz (hS _ e)
 row:=h.row.keep m fun a ha e=>(h.nq a ha).2 (hS _ e)
 nq a ha:=⟨(h.nq a ha).1,fun e=>(h.nq a ha).2 (hZ _ (h.row.base ha).2 e)⟩
 nz e:=h.nz (hZ _ h.cell.lt e)
theorem Wk.keep {S:Nat->Prop} (h:Wk T Z w q L) (m:Mod S w w') (hS:∀ x,S x->Z x) (hZ:∀ x,x<w.heap.size->Z' x->Z x):Wk T Z' w' q L:=by
 obtain ⟨la,lc,h⟩:=h; exact ⟨la,lc,h.keep m hS hZ⟩
end
end Go.Proofs.YtelhlihjihklbaaGreat
end
section
open Go Go.Den Go.Proofs
namespace Go.Proofs.YtelhlihjihklbaaGreat
def two (P : Program) (T : TypeId) : Bool :=
  match (P.fieldsOf T).toList with
  | [f, g] => f.name != "_" && g.name != "_" && f.type == 3 && f.offset == 0 && g.type == 3 && g.offset == 1
  | _ => false
section
variable {w w' w0:World} {R:Nat->Prop} {sp d:Nat} {V:Ps} {K:Value->World->Prop} {T:TypeId} {Z Z':Nat->Prop} {q lc:Nat} {L:List Wt} {la:Option Addr}
end
end Go.Proofs.YtelhlihjihklbaaGreat
end
section
open Go Go.Den Go.Proofs
namespace Go.Proofs.YtelhlihjihklbaaGreat
def Sb (R R':Nat->Prop) (w:World):Prop:=∀ z,R' z->R z\/w.heap.size<=z
theorem Sb.refl (R:Nat->Prop) (w:World):Sb R R w:=fun _ h=>.inl h
theorem Sb.trans {R R' R'':Nat->Prop} {w w':World} (h:Sb R R' w) (k:Sb R' R'' w') (hz:w.heap.size<=w'.heap.size):Sb R R'' w:=fun z hx=>by
 rcases k z hx with h1 | h1
 ·exact h z h1
 ·exact .inr (by omega)
theorem Sb.gro {R:Nat->Prop} {w w1:World}:Sb R (Gro R w w1) w:=fun _ h=>by
 rcases h with h | h
 ·exact .inl h
 ·exact .inr (by omega)
theorem Sb.up {R R':Nat->Prop} {w w':World} (k:Sb R R' w') (hz:w.heap.size<=w'.heap.size):Sb R R' w:=fun z h=>(k z h).imp id fun e=>by omega
theorem Pz.dlo {w0 w:World} {R:Nat->Prop} {sp d:Nat} {V:Ps} (h:Pz w0 R w sp d V):w0.heap.size<=d:=by
 obtain ⟨C,_,_,_,rl,c,mo,mm,ca,oa,Lo,Lm,h⟩:=h
 have hl:=h.lo d
 obtain ⟨rl2,m,sb,mb,sc,lc,la,L,mp,hC⟩:=h.cx
 have e4:rl2 d=4:=hC.disk.rb
 have e1:rl d=1:=hC.reg d (by omega)
 exact (hl (h.reg d (by omega))).1
structure VuS (w0:World) (Rs Rw:Nat->Prop) (w:World) (v d sp wk:Nat) (s:Sp) (V:Ps) (W:List Wt) (nx:Int):Prop where
 st:Pz w0 Rs w sp d V
 cell:AtU w v 0 (vV s sp wk nx)
 wrk:Wk 199 (fun x=>x<w.heap.size/\¬ Rw x) w wk W
 dj:∀ z,Rs z->¬ Rw z
 nv:¬ Rs v/\¬ Rw v
 lo:∀ z,Rw z\/z=v->d<=z/\z<w.heap.size
def Vu (R:Nat->Prop) (w:World) (v d:Nat) (s:Sp) (V:Ps) (W:List Wt) (nx:Int):Prop :=
 ∃ w0 Rs Rw sp wk,VuS w0 Rs Rw w v d sp wk s V W nx/\(∀ z,Rs z\/Rw z\/z=v->R z)/\∀ z,R z->z<w.heap.size
section
variable {w0 w w':World} {R R':Nat->Prop} {v d:Nat} {s:Sp} {V:Ps} {W:List Wt} {nx:Int} {K:Value->World->Prop}
theorem Vu.lt (h:Vu R w v d s V W nx):∀ z,R z->z<w.heap.size:=by obtain ⟨_,_,_,_,_,_,_,h⟩:=h; exact h
theorem Vu.rv (h:Vu R w v d s V W nx):R v:=by obtain ⟨_,_,_,_,_,_,h,_⟩:=h; exact h v (.inr (.inr rfl))
theorem Vu.wf (h:Vu R w v d s V W nx):WFS V/\WF V.C.D:=by obtain ⟨_,_,_,_,_,h,_⟩:=h; exact ⟨h.st.wf.1,h.st.wf.2.2.2.2⟩
theorem Vu.dlo (h:Vu R w v d s V W nx):d<=v:=by obtain ⟨_,_,_,_,_,h,_⟩:=h; exact (h.lo v (.inr rfl)).1
theorem Vu.keep {S:Nat->Prop} (h:Vu R w v d s V W nx) (m:Mod S w w') (hS:∀ z,R z->¬ S z) (hd:∀ z,S z->d<=z):Vu R w' v d s V W nx:=by
 obtain ⟨w0,Rs,Rw,sp,wk,h,h1,h2⟩:=h
 have hz:=m.size
 have hd0:=h.st.dlo
 have hrw:∀ x,x<w.heap.size->Rw x->¬ S x:=fun x _ e=>hS x (h1 x (.inr (.inl e)))
 refine ⟨w0,Rs,Rw,sp,wk,⟨h.st.keep m (fun x hx=>hS x (h1 x (.inl hx))) fun x hx e=>by have:=hd x e; omega,h.cell.keep m (hS v (h1 v (.inr (.inr rfl)))),?_,h.dj,h.nv,fun z hz=>?_⟩,h1,fun z hz=>?_⟩
 ·refine h.wrk.keep (S:=fun x=>S x/\x<w.heap.size) (m.mono fun x hx e=>⟨e,hx⟩) (fun x e=>⟨e.2,fun r=>hrw x e.2 r e.1⟩) fun x hx e=>⟨hx,e.2⟩
 ·have:=h.lo z hz
  omega
 ·have:=h2 z hz
  omega
theorem Vu.nos (h:Vu R w v d s V W nx) (m:Mod No w w'):Vu R w' v d s V W nx:=h.keep m (fun _ _ e=>e) fun _ e=>e.elim
theorem Vu.op (h:Vu R w v d s V W nx):∃ (w0:World) (Rs Z:Nat->Prop) (sp wk:Nat),Pz w0 Rs w sp d V/\Wk 199 Z w wk W/\(∀ x,Z x->x<w.heap.size)/\AtU w v 0 (vV s sp wk nx)/\(∀ z,Rs z->R z) /\
  (∀ w1 w' V',Mod Rs w w1->Mod No w1 w'->Pz w0 (Gro Rs w w1) w' sp d V'->Mod R w w'/\Vu (Gro R w w1) w' v d s V' W nx) /\
  (∀ w' (Z':Nat->Prop) W',Mod (fun z=>z=wk) w w'->(∀ x,Z x->Z' x)->Wk 199 Z' w' wk W'->Mod R w w'/\Vu (fun z=>R z\/(w.heap.size<=z/\z<w'.heap.size/\¬ Z' z)) w' v d s V W' nx):=by
 obtain ⟨w0,Rs,Rw,sp,wk,h,h1,h2⟩:=h
 have hd0:=h.st.dlo
 have hlo:=h.st.lo
 have hw:=h.wrk
 have hRwk:Rw wk:=by
  obtain ⟨la,lc,hw⟩:=hw
  exact Classical.byContradiction fun e=>hw.nz ⟨hw.cell.lt,e⟩
 refine ⟨w0,Rs,_,sp,wk,h.st,h.wrk,fun x e=>e.1,h.cell,fun z hz=>h1 z (.inl hz),fun w1 w' V' m1 m2 hP=>?_,fun w' Z' W' m hZ hW=>?_⟩
 ·have m:=m1.no m2
  have z1:=m1.size
  have z2:=m2.size
  refine ⟨m.mono fun x _ e=>h1 x (.inl e),w0,Gro Rs w w1,Rw,sp,wk,⟨hP,h.cell.keep m h.nv.1,?_,fun z hz e=>?_,⟨fun e=>?_,h.nv.2⟩,fun z hz=>?_⟩,fun z hz=>?_,fun z hz=>?_⟩
  ·refine h.wrk.keep m (fun x e=>⟨(hlo x e).2,h.dj x e⟩) fun x hx e=>⟨hx,e.2⟩
  ·rcases hz with hz | hz
   ·exact h.dj z hz e
   ·have:=(h.lo z (.inl e)).2; omega
  ·rcases e with e | e
   ·exact h.nv.1 e
   ·have:=(h.lo v (.inr rfl)).2; omega
  ·have:=h.lo z hz; omega
  ·rcases hz with (hz | hz) | hz
   ·exact .inl (h1 z (.inl hz))
   ·exact .inr hz
   ·exact .inl (h1 z (.inr hz))
  ·rcases hz with hz | hz
   ·have:=h2 z hz; omega
   ·omega
 ·have z1:=m.size
  have hwkl:=(h.lo wk (.inl hRwk)).2
  have e1:¬ v=wk:=fun e=>h.nv.2 (e ▸ hRwk)
  refine ⟨m.mono fun x _ e=>by have e:x=wk:=e; rw [e]; exact h1 wk (.inr (.inl hRwk)),w0,Rs,fun z=>Rw z\/(w.heap.size<=z/\z<w'.heap.size/\¬ Z' z),sp,wk,⟨h.st.keep m (fun x hx e=>?_) (fun x hx e=>?_),h.cell.keep m e1,?_,fun z hz e=>?_,⟨h.nv.1,fun e=>?_⟩,fun z hz=>?_⟩,fun z hz=>?_,fun z hz=>?_⟩
  ·have e:x=wk:=e
   rw [e] at hx; exact h.dj wk hx hRwk
  ·have e:x=wk:=e
   have:=(h.lo wk (.inl hRwk)).1; omega
  ·refine hW.keep (S:=No) (Mod.refl _ _) (fun _ e=>e.elim) fun x hx e=>?_
   by_cases hx2:x<w.heap.size
   ·exact hZ x ⟨hx2,fun r=>e.2 (.inl r)⟩
   ·exact Classical.byContradiction fun r=>e.2 (.inr ⟨by omega,hx,r⟩)
  ·rcases e with e | e
   ·exact h.dj z hz e
   ·have:=(hlo z hz).2; omega
  ·rcases e with e | e
   ·exact h.nv.2 e
   ·have:=(h.lo v (.inr rfl)).2; omega
  ·rcases hz with (hz | hz) | hz
   ·have:=h.lo z (.inl hz); omega
   ·have:=(h.lo wk (.inl hRwk)).1; omega
   ·have:=h.lo z (.inr hz); omega
  ·rcases hz with hz | (hz | hz) | hz
   ·exact .inl (h1 z (.inl hz))
   ·exact .inl (h1 z (.inr (.inl hz)))
   ·exact .inr hz
   ·exact .inl (h1 z (.inr (.inr hz)))
  ·rcases hz with hz | hz
   ·have:=h2 z hz; omega
   ·omega
theorem Vu.at (h:Vu R w v d s V W nx):∃ sp wk,AtU w v 0 (vV s sp wk nx):=by obtain ⟨_,_,_,sp,wk,h,_⟩:=h; exact ⟨sp,wk,h.cell⟩
theorem Vu.geo (h:Vu R w v d s V W nx):Ru (Instr.loadAt 40 (.pointer (some (Addr.add (Addr.add ⟨v,0,none⟩ 0) 1)))) w (.agg ⟨gV s.geo⟩) w:=by
 obtain ⟨sp,wk,h⟩:=h.at
 exact fldA2 h.at agg_geo (by show 4<=7; omega) rfl
theorem wGeo_c (h:Vu R w v d s V W nx) (hk:∀ w',Mod No w w'->K (.agg ⟨gV s.geo⟩) w'):Cal Tryz.prog F_vol_Vol_Geo #[.pointer (some ⟨v,0,none⟩)] w K:=by
 apply C_vol_Vol_Geo
 unfold D_vol_Vol_Geo
 obtain ⟨w1,b1,b2,b3,b4⟩:=new_u (P:=Tryz.prog) (w:=w) (T:=40) zero_geo
 obtain ⟨w2,c1,c2,c3,c4⟩:=b2.put (T:=40) (vs:=gV s.geo) agg_geo rfl rfl (one_gV _)
 exact ⟨_,w1,b1,ff rfl ⟨_,rfl,_,(h.nos b3).geo,w2,c1,_,c2.at.all agg_geo rfl,hk w2 (b3.own c3 (Nat.le_refl _))⟩⟩
theorem whd_c {k:Int} (h:Vu R w v d s V W nx) (hk:∀ w',Mod No w w'->K (.tuple #[.int .i64 (gHead s.geo k).1,.int .i64 (gHead s.geo k).2]) w'):Cal Tryz.prog F_vol_Vol_head #[.pointer (some ⟨v,0,none⟩),.int .i64 k] w K:=by
 apply C_vol_Vol_head
 unfold D_vol_Vol_head
 exact ff rfl ⟨_,rfl,_,h.geo,geoHead_c fun w' m=>⟨_,_,rfl,hk w' m⟩⟩
theorem Vu.rd (h:Vu R w v d s V W nx) {n:Int} (h0:0<=n) (h1:n<V.C.D.vs.length)
  (hk:∀ w' R' g cc,Mod R w w'->Sb R R' w->Vu R' w' v d s V W nx->w.heap.size<=g->¬ R' g->AtU w' g 0 (u8L (contV V n.toNat))->(contV V n.toNat).length=256->256<=cc->K (.tuple #[.slice (some ⟨g,0,none⟩) 256 cc,.int .i64 0]) w') :
  ∃ p:Option Addr,Ru (Instr.loadAt 89 (.pointer (some (Addr.add ⟨v,0,none⟩ 4)))) w (.pointer p) w/\Cal Tryz.prog F_patch_Store_Read #[.pointer p,.int .i64 n] w K:=by
 have hwf:=h.wf
 have hlt:=h.lt
 obtain ⟨w0,Rs,Z,sp,wk,a1,a2,a3,a4,a5,a6,a7⟩:=h.op
 refine ⟨_,a4.at.fld sc_store rfl,?_⟩
 obtain ⟨b,rfl⟩:=Int.eq_ofNat_of_zero_le h0
 have hb:b<V.C.D.vs.length:=by omega
 refine qReadC_c a1 rfl hb fun w1 w' g cc m1 m2 hP hg hat hcc=>?_
 obtain ⟨M,hV⟩:=a6 w1 w' V m1 m2 hP
 have z1:=m1.size
 refine hk w' _ g cc M Sb.gro hV (by omega) (fun e=>?_) hat (cont_len hwf.1 hwf.2 hb) hcc
 rcases e with e | e
 ·have:=hlt g e; omega
 ·omega
def hdOf (g:Gm) (hs:List Hd) (k:Int):Hd×Int:=if (gHead g k).2≠0 then (hZ,(gHead g k).2) else (hs.getD k.toNat hZ,0)
theorem gHead_ok {g:Gm} {k:Int} (h:(gHead g k).2=0):gOk g=true/\0<=k/\k<g.gs/\(gHead g k).1=2+k*g.gr:=by
 unfold gHead at h |-
 split at h
 ·rename_i hg
  split at h
  ·rename_i hk
   rw [if_pos hg,if_pos hk]; exact ⟨hg,hk.1,hk.2,rfl⟩
  ·cases h
 ·cases h
variable {hs:List Hd}
theorem HdsAt.get (h:HdsAt V s.geo hs) {k:Int} (h0:0<=k) (h1:k<s.geo.gs):∃ x,hs[k.toNat]?=some x/\contV V (2+k*s.geo.gr).toNat=grpB s.geo x/\hOk s.geo x=true/\x.no=k/\hWf x:=by
 have hl:=h.2.2.1
 have hlt:k.toNat<hs.length:=by omega
 refine ⟨hs[k.toNat],by simp [hlt],?_⟩
 have:=h.2.2.2 k.toNat hs[k.toNat] (by simp [hlt])
 rw [show ((k.toNat:Nat):Int)=k by omega] at this
 exact this
theorem wHead_c {k:Int} (h:Vu R w v d s V W nx) (hH:HdsAt V s.geo hs)
  (hk:∀ w' R',Mod R w w'->Sb R R' w->Vu R' w' v d s V W nx->hWf (hdOf s.geo hs k).1->(k<0\/s.geo.gs<=k->Mod No w w')->K (.tuple #[.agg ⟨hV (hdOf s.geo hs k).1⟩,.int .i64 (hdOf s.geo hs k).2]) w'):Cal Tryz.prog F_vol_Vol_Head #[.pointer (some ⟨v,0,none⟩),.int .i64 k] w K:=by
 apply C_vol_Vol_Head
 unfold D_vol_Vol_Head
 obtain ⟨w1,b1,b2,b3,b4⟩:=new_u (P:=Tryz.prog) (w:=w) (T:=119) zero_head
 have hdv:=h.dlo
 have hvl:=h.lt v h.rv
 have h1:=h.nos b3
 refine ⟨_,w1,b1,whd_c h1 fun w2 m2=>⟨_,_,rfl,?_⟩⟩
 have h2:=h1.nos m2
 have m02:=b3.no m2
 rw [bneI]
 refine cond_of (fun he=>⟨_,build_head0,?_⟩) (fun he=>?_)
 ·have he:=of_decide_eq_true he
  obtain ⟨w3,c1,c2,c3,c4⟩:=(b2.keep m2 id).put (T:=119) (vs:=hV hZ) agg_head rfl (hV_len hZ_wf) (one_hV _)
  refine ⟨w3,c1,_,c2.at.all agg_head (hV_len hZ_wf),?_⟩
  have e:hdOf s.geo hs k=(hZ,(gHead s.geo k).2):=by unfold hdOf; rw [if_pos he]
  rw [e] at hk
  have m3:Mod No w w3:=m02.own c3 (Nat.le_refl _)
  exact hk w3 R (m3.mono fun _ _ e=>e.elim) (Sb.refl _ _) (h.nos m3) hZ_wf fun _=>m3
 have he:=Classical.not_not.1 (of_decide_eq_false he)
 obtain ⟨hg,k0,k1,kb⟩:=gHead_ok he
 obtain ⟨x,hx,hx1,hx2,hx3,hx4⟩:=hH.get k0 k1
 have e:hdOf s.geo hs k=(x,0):=by unfold hdOf; rw [if_neg (by rw [he]; decide),List.getD_eq_getElem?_getD,hx]; rfl
 rw [e] at hk
 have hin:=gHead_in (g:=s.geo) (k:=k) (b:=(gHead s.geo k).1) (by rw [<- he])
 have hsz:=hH.2.1
 refine ⟨_,rfl,?_⟩
 have hs1:=b3.size
 have hs2:=m2.size
 refine h2.rd hin.1 (by omega) fun w4 R4 g cc m4 s4 h4 hg1 hg2 hat hl hcc=>⟨_,_,_,_,rfl,ff rfl ⟨_,rfl,_,h4.geo,?_⟩⟩
 rw [kb,hx1] at hat hl
 have q2:=(b2.keep m2 id).keep m4 (fun e=>by have:=h.lt _ e; omega)
 refine headGet_c hl hcc (.inr ⟨_,_,rfl,hat.at⟩) (by omega) fun w6 m6=>⟨_,_,rfl,?_⟩
 rw [hGet_grpB hx4 hx2]
 obtain ⟨w7,c1,c2,c3,c4⟩:=(q2.keep m6 id).put (T:=119) (vs:=hV x) agg_head rfl (hV_len hx4) (one_hV _)
 have hnR:¬ R4 w.heap.size:=fun e=>by
  rcases s4 _ e with e | e
  ·have:=h.lt _ e; omega
  ·have:=b2.lt; omega
 have M6:Mod R w w6:=((m02.mono fun _ _ e=>e.elim).trans m4 fun x _ e=>e).no m6
 refine ⟨w7,c1,_,c2.at.all agg_head (hV_len hx4),?_⟩
 refine hk w7 R4 (M6.trans c3 fun x hx e=>by have e:x=w.heap.size:=e; omega) (s4.up (by omega)) ((h4.nos m6).keep c3 (fun z hz e=>by have e:z=w.heap.size:=e; rw [e] at hz; exact hnR hz) fun z e=>by have e:z=w.heap.size:=e; omega) hx4 fun hbad=>by omega
theorem wSet_c {k:Int} {x:Hd} (h:Vu R w v d s V W nx) (hH:HdsAt V s.geo hs) (k0:0<=k) (k1:k<s.geo.gs) (hw:hWf x) (ho:hOk s.geo x=true) (hn:x.no=k) (hlast:V.last+1<=1000000)
  (hk:∀ w' R',Mod R w w'->Sb R R' w->Vu R' w' v d s (setHV V s.geo k.toNat x) W nx->HdsAt (setHV V s.geo k.toNat x) s.geo (hs.set k.toNat x)->(setHV V s.geo k.toNat x).last=V.last+1->K (.tuple #[.int .i64 ((V.last:Int)+1),.int .i64 0]) w') :
  Cal Tryz.prog F_vol_Vol_SetHead #[.pointer (some ⟨v,0,none⟩),.int .i64 k,.agg ⟨hV x⟩,.slice none 0 0] w K:=by
 apply C_vol_Vol_SetHead
 unfold D_vol_Vol_SetHead
 obtain ⟨j,rfl⟩:=Int.eq_ofNat_of_zero_le k0
 obtain ⟨w1,b1,b2,b3,b4⟩:=box_u (P:=Tryz.prog) (w:=w) (T:=119) (cs:=hV x)
 have hg:=hH.1
 obtain ⟨p1,p2,p3⟩:=head_pos hg k1
 refine ⟨_,w1,b1,whd_c (h.nos b3) fun w2 m2=>⟨_,_,rfl,?_⟩⟩
 rw [p1]
 have m02:=(b3.no m2).drew
 have h2:=h.nos m02
 have q2:AtU (Go.Den.drew w2) w.heap.size 0 (hV x):=(b2.keep m2 id).drew
 refine ff rfl ⟨_,rfl,_,h2.geo,_,q2.at.all agg_head (hV_len hw),hPut_c hw (fun e=>by rw [ho] at e; cases e) fun _ w3 q m3 hq hat=>⟨_,_,_,_,rfl,?_⟩⟩
 have q3:=q2.keep m3 id
 refine Share.cut (fun z w4=>w4=w3/\z=[.bool false]) (ff rfl ⟨_,q3.at.fld sc_int rfl,rfl,?_⟩) ?_
 ·rw [hn,bneI,decide_eq_false (by simp)]
 rintro z w4 ⟨rfl,rfl⟩
 have m04:=(m02.no m3).drew
 have h4:=h.nos m04
 have hlt:=h.lt
 obtain ⟨w0,Rs,Z,sp,wk,a1,a2,a3,a4,a5,a6,a7⟩:=h4.op
 refine ⟨_,rfl,ff rfl ⟨_,rfl,_,a4.at.fld sc_store rfl,_,_,_,slice_h elemN_bytes (by omega) (by omega),?_⟩⟩
 have hE:=setH_E (V:=V) hH k1 hw
 have hN:patN V (2+(j:Int)*s.geo.gr) 0 (setHB s.geo x) []=(V.last:Int)+1:=by unfold patN; rw [if_pos hE]; omega
 have hz4:=m04.size
 have hR:Row (Go.Den.drew w4) (some ⟨q,0,none⟩) (u8L (setHB s.geo x)):=.inr ⟨q,0,rfl,by
  have:=hat.at.drew.sub (i:=0) (m:=64) (by rw [length_u8L,grpB_len hw]; omega)
  rw [List.drop_zero,<- u8L_take] at this; exact this⟩
 refine qPatch_c (data:=setHB s.geo x) (after:=[]) a1 hlast (setHB_len hw) hR (fun _ q' e=>by
  cases e
  intro e
  have h1:=hlt q (a5 q e)
  have:=m02.size
  omega) (by omega) rfl (by omega) (.inl rfl) (fun e=>absurd rfl e) fun w5 m5 hP=>⟨_,_,rfl,?_⟩
 rw [hE,hN]
 obtain ⟨M,hV⟩:=a6 w5 w5 _ m5 (Mod.refl _ _) hP
 refine hk w5 _ ((m04.mono fun _ _ e=>e.elim).trans M fun x _ e=>e) (Sb.gro.up hz4) hV (hH.set k1 hw ho hn) (patS_last hE)
end
end Go.Proofs.YtelhlihjihklbaaGreat
end
section
open Go Go.Den Go.Proofs
namespace Go.Proofs.YtelhlihjihklbaaGreat
def gKind (g:Gm) (b:Int):Int×Int :=
 if b<0\/gSize g<=b then (0,-1) else if b<2 then (1,-1) else if (b-2) % g.gr=0 then (2,(b-2) / g.gr) else if (b-2) % g.gr<=gTabs g then (3,(b-2) / g.gr) else (4,(b-2) / g.gr)
def gOf (g:Gm) (n:Int):Int:=if n<0\/gSlots g<=n then -1 else n / g.no
theorem gSize_in {g:Gm} {b:Int} (h:0<=b) (h1:b<gSize g):gOk g=true/\b<2+g.gs*g.gr:=by
 unfold gSize at h1
 split at h1
 ·rename_i h2; exact ⟨h2,h1⟩
 ·omega
theorem gSlots_in {g:Gm} {b:Int} (h:0<=b) (h1:b<gSlots g):gOk g=true/\b<g.gs*g.no:=by
 unfold gSlots at h1
 split at h1
 ·rename_i h2; exact ⟨h2,h1⟩
 ·omega
section
variable {w:World} {K:Value->World->Prop}
theorem geoKind_c {g:Gm} {b:Int} (hk:∀ w',Mod No w w'->K (.tuple #[.int .i64 (gKind g b).1,.int .i64 (gKind g b).2]) w'):Cal Tryz.prog F_geo_Kind #[.agg ⟨gV g⟩,.int .i64 b] w K:=by
 apply C_geo_Kind
 unfold D_geo_Kind
 obtain ⟨w1,a1,a2,a3,a4⟩:=box_u (P:=Tryz.prog) (w:=w) (T:=40) (cs:=gV g)
 refine ⟨_,w1,a1,Share.cut (fun z w3=>Mod No w1 w3/\z=[.bool (decide (b<0\/gSize g<=b))]) (cond_of (fun h=>⟨Mod.refl _ _,?_⟩) (fun h=>⟨_,a2.at.all agg_geo rfl,geoSize_c fun w2 m2=>⟨_,rfl,m2,?_⟩⟩)) ?_⟩
 ·rw [decide_eq_true (show b<0\/gSize g<=b from .inl (of_decide_eq_true h))]
 ·have h:=of_decide_eq_false h
  congr 2
  exact decide_eq_decide.2 ⟨.inr,fun e=>e.resolve_left h⟩
 rintro z w3 ⟨m3,rfl⟩
 have M:=a3.no m3
 have hq:=a2.at.keep m3 id
 refine ⟨_,rfl,cond_of (fun h=>?_) (fun h=>cond_of (fun h2=>?_) (fun h2=>?_))⟩
 ·have e:gKind g b=(0,-1):=by unfold gKind; rw [if_pos (of_decide_eq_true h)]
  rw [e] at hk; exact hk _ M
 ·have e:gKind g b=(1,-1):=by unfold gKind; rw [if_neg (of_decide_eq_false h),if_pos (of_decide_eq_true h2)]
  rw [e] at hk; exact hk _ M
 have h:=of_decide_eq_false h
 have h2:=of_decide_eq_false h2
 obtain ⟨hg,hb⟩:=gSize_in (g:=g) (b:=b) (by omega) (by omega)
 obtain ⟨g1,g2,g3,g4,_⟩:=gOk_iff.1 hg
 have hp:=prodB (a:=g.gs) (b:=g.gr) (m:=16) (n:=128) (by omega) (by omega) (by omega) (by omega)
 rw [wrap64 (x:=b-2) (by omega) (by omega)]
 refine ⟨_,hq.drew.fld sc_int rfl,_,quoR (by omega) (by omega) (by omega),_,hq.drew.fld sc_int rfl,_,remR (by omega) (by omega) (by omega),?_⟩
 rw [beqI]
 refine cond_of (fun h3=>?_) (fun h3=>⟨_,hq.drew.all agg_geo rfl,geoTabs_c fun w4 m4=>⟨_,rfl,cond_of (fun h4=>?_) (fun h4=>?_)⟩⟩)
 ·have e:gKind g b=(2,(b-2) / g.gr):=by unfold gKind; rw [if_neg h,if_neg h2,if_pos (of_decide_eq_true h3)]
  rw [e] at hk; exact hk _ M.drew
 ·have e:gKind g b=(3,(b-2) / g.gr):=by unfold gKind; rw [if_neg h,if_neg h2,if_neg (of_decide_eq_false h3),if_pos (of_decide_eq_true h4)]
  rw [e] at hk; exact hk _ (M.drew.no m4)
 ·have e:gKind g b=(4,(b-2) / g.gr):=by unfold gKind; rw [if_neg h,if_neg h2,if_neg (of_decide_eq_false h3),if_neg (of_decide_eq_false h4)]
  rw [e] at hk; exact hk _ (M.drew.no m4)
theorem geoOf_c {g:Gm} {n:Int} (h63:n<=9223372036854775807) (hk:∀ w',Mod No w w'->K (.int .i64 (gOf g n)) w'):Cal Tryz.prog F_geo_Of #[.agg ⟨gV g⟩,.int .i64 n] w K:=by
 apply C_geo_Of
 unfold D_geo_Of
 obtain ⟨w1,a1,a2,a3,a4⟩:=box_u (P:=Tryz.prog) (w:=w) (T:=40) (cs:=gV g)
 refine ⟨_,w1,a1,Share.cut (fun z w3=>Mod No w1 w3/\z=[.bool (decide (n<0\/gSlots g<=n))]) (cond_of (fun h=>⟨Mod.refl _ _,?_⟩) (fun h=>⟨_,a2.at.all agg_geo rfl,geoSlots_c fun w2 m2=>⟨_,rfl,m2,?_⟩⟩)) ?_⟩
 ·rw [decide_eq_true (show n<0\/gSlots g<=n from .inl (of_decide_eq_true h))]
 ·have h:=of_decide_eq_false h
  congr 2
  exact decide_eq_decide.2 ⟨.inr,fun e=>e.resolve_left h⟩
 rintro z w3 ⟨m3,rfl⟩
 have M:=a3.no m3
 have hq:=a2.at.keep m3 id
 refine ⟨_,rfl,cond_of (fun h=>?_) (fun h=>?_)⟩
 ·have e:gOf g n=-1:=by unfold gOf; rw [if_pos (of_decide_eq_true h)]
  rw [e] at hk; exact hk _ M
 have h:=of_decide_eq_false h
 obtain ⟨hg,hb⟩:=gSlots_in (g:=g) (b:=n) (by omega) (by omega)
 obtain ⟨_,_,_,_,g5,g6,_⟩:=gOk_iff.1 hg
 have e:gOf g n=n / g.no:=by unfold gOf; rw [if_neg h]
 rw [e] at hk
 exact ⟨_,hq.fld sc_int rfl,_,quoR (by omega) (by omega) h63,hk _ M⟩
theorem gHead_b {g:Gm} {k:Int}:0<=(gHead g k).1/\(gHead g k).1<=4096:=by
 unfold gHead
 split
 ·rename_i hg
  obtain ⟨g1,g2,g3,g4,_⟩:=gOk_iff.1 hg
  split
  ·have hp:=prodB (a:=k) (b:=g.gr) (m:=16) (n:=128) (by omega) (by omega) (by omega) (by omega)
   show 0<=2+k*g.gr/\2+k*g.gr<=4096
   omega
  ·exact ⟨Int.le_refl 0,by decide⟩
 ·exact ⟨Int.le_refl 0,by decide⟩
end
end Go.Proofs.YtelhlihjihklbaaGreat
end
section
open Go Go.Den Go.Proofs
namespace Go.Proofs.YtelhlihjihklbaaGreat
structure Az where
 s:Sp
 V:Ps
 W:List Wt
 nx:Int
 hs:List Hd
 fz:Int->Bool
def Ao (R:Nat->Prop) (w:World) (a v d:Nat) (A:Az):Prop :=
 ∃ Rv fm L,Vu Rv w v d A.s A.V A.W A.nx/\AtU w a 0 [.pointer (some ⟨v,0,none⟩),.map (some fm)]/\MapAt w fm L/\(∀ k,(lookupL L k).getD (.bool false)=.bool (A.fz k))/\(¬ Rv a/\¬ Rv fm/\a≠fm/\d<=a/\d<=fm)/\(∀ z,Rv z\/z=a\/z=fm->R z)/\(∀ z,R z->z<w.heap.size)/\HdsAt A.V A.s.geo A.hs
theorem mapFz:mapZ Tryz.prog 97=some (.bool false):=by kernel_rfl
theorem sc_pvol:scal Tryz.prog 31=true:=by kernel_rfl
theorem sc_fz:scal Tryz.prog 97=true:=by kernel_rfl
section
variable {w w':World} {R R':Nat->Prop} {a v d:Nat} {A:Az} {K:Value->World->Prop}
theorem Ao.lt (h:Ao R w a v d A):∀ z,R z->z<w.heap.size:=by obtain ⟨_,_,_,_,_,_,_,_,_,h,_⟩:=h; exact h
theorem Ao.hd (h:Ao R w a v d A):HdsAt A.V A.s.geo A.hs:=by obtain ⟨_,_,_,_,_,_,_,_,_,_,h⟩:=h; exact h
theorem Ao.ok (h:Ao R w a v d A):gOk A.s.geo=true:=h.hd.1
theorem Ao.at (h:Ao R w a v d A):∃ fm,AtU w a 0 [.pointer (some ⟨v,0,none⟩),.map (some fm)]:=by obtain ⟨_,fm,_,_,h,_⟩:=h; exact ⟨fm,h⟩
theorem Ao.dlt (h:Ao R w a v d A):d<=a/\a<w.heap.size/\R a:=by obtain ⟨_,fm,_,_,h,_,_,h2,h3,h4,_⟩:=h; exact ⟨h2.2.2.2.1,h4 a (h3 a (.inr (.inl rfl))),h3 a (.inr (.inl rfl))⟩
theorem Ao.pv (h:Ao R w a v d A):Ru (Instr.loadAt 31 (.pointer (some (Addr.add ⟨a,0,none⟩ 0)))) w (.pointer (some ⟨v,0,none⟩)) w:=by
 obtain ⟨fm,h⟩:=h.at
 exact h.at.fld sc_pvol rfl
theorem Ao.keep {S:Nat->Prop} (h:Ao R w a v d A) (m:Mod S w w') (hS:∀ z,R z->¬ S z) (hd:∀ z,S z->d<=z):Ao R w' a v d A:=by
 obtain ⟨Rv,fm,L,h1,h2,h3,h4,h5,h6,h7,h8⟩:=h
 exact ⟨Rv,fm,L,h1.keep m (fun z hz=>hS z (h6 z (.inl hz))) hd,h2.keep m (hS a (h6 a (.inr (.inl rfl)))),h3.keep m (hS fm (h6 fm (.inr (.inr rfl)))),h4,h5,h6,fun z hz=>Nat.lt_of_lt_of_le (h7 z hz) m.size,h8⟩
theorem Ao.nos (h:Ao R w a v d A) (m:Mod No w w'):Ao R w' a v d A:=h.keep m (fun _ _ e=>e) fun _ e=>e.elim
theorem Ao.own {q:Nat} (h:Ao R w a v d A) (m:Mod (fun x=>x=q) w w') (hq:¬ R q) (h0:d<=q):Ao R w' a v d A :=
 h.keep m (fun z hz e=>by have e:z=q:=e; rw [e] at hz; exact hq hz) fun z e=>by have e:z=q:=e; omega
theorem Ao.vol (h:Ao R w a v d A):∃ Rv,Vu Rv w v d A.s A.V A.W A.nx/\(∀ z,Rv z->R z)/\∀ (w':World) (Rv':Nat->Prop) (V':Ps) (W':List Wt) (nx':Int) (hs':List Hd),Mod Rv w w'->Sb Rv Rv' w->Vu Rv' w' v d A.s V' W' nx'->HdsAt V' A.s.geo hs' ->
  Mod R w w'/\Sb R (fun z=>R z\/Rv' z) w/\Ao (fun z=>R z\/Rv' z) w' a v d ⟨A.s,V',W',nx',hs',A.fz⟩:=by
 obtain ⟨Rv,fm,L,h1,h2,h3,h4,h5,h6,h7,h8⟩:=h
 refine ⟨Rv,h1,fun z hz=>h6 z (.inl hz),fun w' Rv' V' W' nx' hs' m sb hv hh=>⟨m.mono fun x _ e=>h6 x (.inl e),fun z hz=>?_,Rv',fm,L,hv,h2.keep m h5.1,h3.keep m h5.2.1,h4,⟨fun e=>?_,fun e=>?_,h5.2.2⟩,fun z hz=>?_,fun z hz=>?_,hh⟩⟩
 ·rcases hz with hz | hz
  ·exact .inl hz
  ·exact (sb z hz).imp (fun e=>h6 z (.inl e)) id
 ·rcases sb a e with e | e
  ·exact h5.1 e
  ·have:=h2.lt; omega
 ·rcases sb fm e with e | e
  ·exact h5.2.1 e
  ·have:=h3.lt; omega
 ·rcases hz with hz | hz
  ·exact .inr hz
  ·exact .inl (h6 z (.inr hz))
 ·rcases hz with hz | hz
  ·have:=h7 z hz; have:=m.size; omega
  ·exact hv.lt z hz
theorem aGeo_c (h:Ao R w a v d A) (hk:∀ w',Mod No w w'->K (.agg ⟨gV A.s.geo⟩) w'):Cal Tryz.prog F_vol_Vol_Geo #[.pointer (some ⟨v,0,none⟩)] w K:=by
 obtain ⟨Rv,hv,_⟩:=h.vol
 exact wGeo_c hv hk
theorem aHead_c {k:Int} (h:Ao R w a v d A)
  (hk:∀ w' R',Mod R w w'->Sb R R' w->Ao R' w' a v d A->hWf (hdOf A.s.geo A.hs k).1->K (.tuple #[.agg ⟨hV (hdOf A.s.geo A.hs k).1⟩,.int .i64 (hdOf A.s.geo A.hs k).2]) w'):Cal Tryz.prog F_vol_Vol_Head #[.pointer (some ⟨v,0,none⟩),.int .i64 k] w K:=by
 obtain ⟨Rv,hv,_,hc⟩:=h.vol
 refine wHead_c hv h.hd fun w' R' m sb hv' hw _=>?_
 obtain ⟨x1,x2,x3⟩:=hc w' R' A.V A.W A.nx A.hs m sb hv' h.hd
 exact hk w' _ x1 x2 x3 hw
def sethA (A:Az) (k:Nat) (x:Hd):Az:=⟨A.s,setHV A.V A.s.geo k x,A.W,A.nx,A.hs.set k x,A.fz⟩
theorem aSet_c {k:Int} {x:Hd} (h:Ao R w a v d A) (k0:0<=k) (k1:k<A.s.geo.gs) (hw:hWf x) (ho:hOk A.s.geo x=true) (hn:x.no=k) (hlast:A.V.last+1<=1000000)
  (hk:∀ w' R',Mod R w w'->Sb R R' w->Ao R' w' a v d (sethA A k.toNat x)->(sethA A k.toNat x).V.last=A.V.last+1->K (.tuple #[.int .i64 ((A.V.last:Int)+1),.int .i64 0]) w') :
  Cal Tryz.prog F_vol_Vol_SetHead #[.pointer (some ⟨v,0,none⟩),.int .i64 k,.agg ⟨hV x⟩,.slice none 0 0] w K:=by
 obtain ⟨Rv,hv,_,hc⟩:=h.vol
 refine wSet_c hv h.hd k0 k1 hw ho hn hlast fun w' R' m sb hv' hh hl=>?_
 obtain ⟨x1,x2,x3⟩:=hc w' R' _ A.W A.nx _ m sb hv' hh
 exact hk w' _ x1 x2 x3 hl
def spB (g:Gm) (b:Int):Int×Int×Bool:=if (gKind g b).1≠4 then (0,0,false) else ((gKind g b).2,b-(gHead g (gKind g b).2).1,true)
def spS (g:Gm) (n:Int):Int×Int×Bool:=if gOf g n<0 then (0,0,false) else (gOf g n,n % g.no,true)
def pV (x:Int×Int):List Value:=[.int .i64 x.1,.int .i64 x.2]
theorem one_pV (x:Int×Int):∀ u∈pV x,u.oneCell'=true:=by intro u hu; simp [pV] at hu; rcases hu with rfl | rfl <;> rfl
theorem agg_spot:aggN Tryz.prog 101=some 2:=by kernel_rfl
theorem zero_spot:zeroC Tryz.prog 101=some (pV (0,0)):=by kernel_rfl
theorem field_gno (g:Gm):Al (Instr.field 40 (.agg ⟨gV g⟩) 1) (.int .i64 g.no):=fun w=>by kernel_rfl
theorem field_ggs (g:Gm):Al (Instr.field 40 (.agg ⟨gV g⟩) 2) (.int .i64 g.gs):=fun w=>by kernel_rfl
theorem build_spot0:Al (Instr.build 101 #[]) (.agg ⟨pV (0,0)⟩):=fun w=>by kernel_rfl
theorem build_spot (x y:Int):Al (Instr.build 101 #[(0,.int .i64 x),(1,.int .i64 y)]) (.agg ⟨pV (x,y)⟩):=fun w=>by kernel_rfl
theorem gKind_4 {g:Gm} {b:Int} (h:(gKind g b).1=4):gOk g=true/\2<=b/\b<gSize g/\0<=(gKind g b).2/\(gKind g b).2<g.gs/\1+gTabs g<=b-(2+(gKind g b).2*g.gr)/\b-(2+(gKind g b).2*g.gr)<g.gr:=by
 unfold gKind at h |-
 split at h
 ·cases h
 rename_i h1
 split at h
 ·cases h
 rename_i h2
 split at h
 ·cases h
 rename_i h3
 split at h
 ·cases h
 rename_i h4
 rw [if_neg h1,if_neg h2,if_neg h3,if_neg h4]
 obtain ⟨hg,hb⟩:=gSize_in (g:=g) (b:=b) (by omega) (by omega)
 obtain ⟨g1,g2,g3,g4,_⟩:=gOk_iff.1 hg
 have hd:=Int.mul_ediv_add_emod (b-2) g.gr
 have hm:=Int.emod_nonneg (b-2) (show g.gr≠0 by omega)
 have hl:=Int.emod_lt_of_pos (b-2) (show 0<g.gr by omega)
 have hq:0<=(b-2) / g.gr:=Int.ediv_nonneg (by omega) (by omega)
 have hq2:(b-2) / g.gr<g.gs:=Int.ediv_lt_of_lt_mul (by omega) (by rw [Int.mul_comm] at *; omega)
 rw [Int.mul_comm] at hd
 refine ⟨hg,by omega,by omega,hq,hq2,?_,?_⟩
 ·show 1+gTabs g<=b-(2+(b-2) / g.gr*g.gr)
  omega
 ·show b-(2+(b-2) / g.gr*g.gr)<g.gr
  omega
theorem aBlk_c {b:Int} (h63:b<=9223372036854775807) (h:Ao R w a v d A) (hk:∀ w',Mod No w w'->K (.tuple #[.agg ⟨pV ((spB A.s.geo b).1,(spB A.s.geo b).2.1)⟩,.bool (spB A.s.geo b).2.2]) w') :
  Cal Tryz.prog F_alloc_Alloc_block #[.pointer (some ⟨a,0,none⟩),.int .i64 b] w K:=by
 apply C_alloc_Alloc_block
 unfold D_alloc_Alloc_block
 obtain ⟨w1,c1,c2,c3,c4⟩:=new_u (P:=Tryz.prog) (w:=w) (T:=101) zero_spot
 have h1:=h.nos c3
 refine ⟨_,w1,c1,_,rfl,_,h1.pv,aGeo_c h1 fun w2 m2=>⟨_,rfl,geoKind_c fun w3 m3=>⟨_,_,rfl,?_⟩⟩⟩
 have q3:=(c2.keep m2 id).keep m3 id
 have h3:=(h1.nos m2).nos m3
 have M3:=(c3.no m2).no m3
 rw [bneI]
 refine cond_of (fun he=>⟨_,build_spot0,?_⟩) (fun he=>⟨_,rfl,_,h3.pv,aGeo_c h3 fun w5 m5=>⟨_,rfl,geoHead_c fun w6 m6=>⟨_,_,rfl,?_⟩⟩⟩)
 ·have e:spB A.s.geo b=(0,0,false):=by unfold spB; rw [if_pos (of_decide_eq_true he)]
  rw [e] at hk
  obtain ⟨w4,y1,y2,y3,y4⟩:=q3.put (T:=101) (vs:=pV (0,0)) agg_spot rfl rfl (one_pV _)
  exact ⟨w4,y1,_,y2.at.all agg_spot rfl,hk w4 (M3.own y3 (Nat.le_refl _))⟩
 ·have he:=Classical.not_not.1 (of_decide_eq_false he)
  have e:spB A.s.geo b=((gKind A.s.geo b).2,b-(gHead A.s.geo (gKind A.s.geo b).2).1,true):=by unfold spB; rw [if_neg (by omega)]
  rw [e] at hk
  obtain ⟨_,k1,k2,_⟩:=gKind_4 he
  have hb:=gHead_b (g:=A.s.geo) (k:=(gKind A.s.geo b).2)
  have hs:=gSize_b (g:=A.s.geo)
  rw [wrap64 (x:=b-(gHead A.s.geo (gKind A.s.geo b).2).1) (by omega) (by omega)]
  obtain ⟨w7,y1,y2,y3,y4⟩:=((q3.keep m5 id).keep m6 id).put (T:=101) (vs:=pV ((gKind A.s.geo b).2,b-(gHead A.s.geo (gKind A.s.geo b).2).1)) agg_spot rfl rfl (one_pV _)
  exact ⟨_,build_spot _ _,w7,y1,_,y2.at.all agg_spot rfl,hk w7 (((M3.no m5).no m6).own y3 (Nat.le_refl _))⟩
theorem gOf_in {g:Gm} {n:Int} (h:0<=gOf g n):gOk g=true/\0<=n/\n<gSlots g/\gOf g n=n / g.no:=by
 unfold gOf at h |-
 split at h
 ·omega
 ·rename_i h1
  rw [if_neg h1]
  exact ⟨(gSlots_in (g:=g) (b:=n) (by omega) (by omega)).1,by omega,by omega,rfl⟩
theorem aSlt_c {n:Int} (h63:n<=9223372036854775807) (h:Ao R w a v d A) (hk:∀ w',Mod No w w'->K (.tuple #[.agg ⟨pV ((spS A.s.geo n).1,(spS A.s.geo n).2.1)⟩,.bool (spS A.s.geo n).2.2]) w') :
  Cal Tryz.prog F_alloc_Alloc_slot #[.pointer (some ⟨a,0,none⟩),.int .i64 n] w K:=by
 apply C_alloc_Alloc_slot
 unfold D_alloc_Alloc_slot
 obtain ⟨w1,c1,c2,c3,c4⟩:=new_u (P:=Tryz.prog) (w:=w) (T:=101) zero_spot
 have h1:=h.nos c3
 refine ⟨_,w1,c1,_,rfl,_,h1.pv,aGeo_c h1 fun w2 m2=>⟨_,rfl,geoOf_c h63 fun w3 m3=>⟨_,rfl,?_⟩⟩⟩
 have q3:=(c2.keep m2 id).keep m3 id
 have h3:=(h1.nos m2).nos m3
 have M3:=(c3.no m2).no m3
 refine cond_of (fun he=>⟨_,build_spot0,?_⟩) (fun he=>⟨_,rfl,_,h3.pv,aGeo_c h3 fun w5 m5=>⟨_,rfl,A.s.geo.no,field_gno _,?_⟩⟩)
 ·have e:spS A.s.geo n=(0,0,false):=by unfold spS; rw [if_pos (of_decide_eq_true he)]
  rw [e] at hk
  obtain ⟨w4,y1,y2,y3,y4⟩:=q3.put (T:=101) (vs:=pV (0,0)) agg_spot rfl rfl (one_pV _)
  exact ⟨w4,y1,_,y2.at.all agg_spot rfl,hk w4 (M3.own y3 (Nat.le_refl _))⟩
 ·have he:=of_decide_eq_false he
  have e:spS A.s.geo n=(gOf A.s.geo n,n % A.s.geo.no,true):=by unfold spS; rw [if_neg he]
  rw [e] at hk
  obtain ⟨hg,k1,k2,_⟩:=gOf_in (g:=A.s.geo) (n:=n) (by omega)
  obtain ⟨_,_,_,_,g5,_⟩:=gOk_iff.1 hg
  refine ⟨_,remR k1 (by omega) h63,_,build_spot _ _,?_⟩
  obtain ⟨w6,y1,y2,y3,y4⟩:=(q3.keep m5 id).put (T:=101) (vs:=pV (gOf A.s.geo n,n % A.s.geo.no)) agg_spot rfl rfl (one_pV _)
  exact ⟨w6,y1,_,y2.at.all agg_spot rfl,hk w6 ((M3.no m5).own y3 (Nat.le_refl _))⟩
def xV (kd:Bool):List Value:=if kd=true then [.func (.func F_group_FindBlock) #[] #[],.func (.func F_group_UseBlock) #[] #[]] else [.func (.func F_group_FindSlot) #[] #[],.func (.func F_group_UseSlot) #[] #[]]
def useX (kd:Bool) (g:Gm) (h:Hd) (i:Int) (on:Bool):Hd×Int:=if kd=true then useBk g h i on else useSl g h i on
def findX (kd:Bool) (g:Gm) (h:Hd) (f:Int):Int:=if kd=true then findBk g h f else findSl g h f
theorem one_xV (kd:Bool):∀ u∈xV kd,u.oneCell'=true:=by cases kd <;> (intro u hu; simp [xV] at hu; rcases hu with rfl | rfl <;> rfl)
theorem len_xV (kd:Bool):(xV kd).length=2:=by cases kd <;> rfl
theorem agg_heads:aggN Tryz.prog 109=some 2:=by kernel_rfl
theorem zero_heads:zeroC Tryz.prog 109=some [.nilFunc,.nilFunc]:=by kernel_rfl
theorem aBlocks_c (hk:∀ w',Mod No w w'->K (.agg ⟨xV true⟩) w'):Cal Tryz.prog F_alloc_blocks #[] w K:=by
 apply C_alloc_blocks
 unfold D_alloc_blocks
 obtain ⟨w1,c1,c2,c3,c4⟩:=new_u (P:=Tryz.prog) (w:=w) (T:=109) zero_heads
 obtain ⟨w2,y1,y2,y3,y4⟩:=c2.put (T:=109) (vs:=xV true) agg_heads rfl rfl (one_xV _)
 exact ⟨_,w1,c1,_,fun w=>by kernel_rfl,w2,y1,_,y2.at.all agg_heads rfl,hk w2 (c3.own y3 (Nat.le_refl _))⟩
theorem aSlots_c (hk:∀ w',Mod No w w'->K (.agg ⟨xV false⟩) w'):Cal Tryz.prog F_alloc_slots #[] w K:=by
 apply C_alloc_slots
 unfold D_alloc_slots
 obtain ⟨w1,c1,c2,c3,c4⟩:=new_u (P:=Tryz.prog) (w:=w) (T:=109) zero_heads
 obtain ⟨w2,y1,y2,y3,y4⟩:=c2.put (T:=109) (vs:=xV false) agg_heads rfl rfl (one_xV _)
 exact ⟨_,w1,c1,_,fun w=>by kernel_rfl,w2,y1,_,y2.at.all agg_heads rfl,hk w2 (c3.own y3 (Nat.le_refl _))⟩
theorem useX_c {kd:Bool} {g:Gm} {h:Hd} {i:Int} {on:Bool} (hw:hWf h) (hk:∀ w',Mod No w w'->K (.tuple #[.agg ⟨hV (useX kd g h i on).1⟩,.int .i64 (useX kd g h i on).2]) w') {f:Value} (hf:(xV kd)[1]?=some f) :
  Dyn Tryz.prog f #[.agg ⟨gV g⟩,.agg ⟨hV h⟩,.int .i64 i,.bool on] w K:=by
 cases kd with
 | true=>cases hf; exact ⟨_,_,_,rfl,useBk_c hw hk⟩
 | false=>cases hf; exact ⟨_,_,_,rfl,useSl_c hw hk⟩
theorem findX_c {kd:Bool} {g:Gm} {h:Hd} {p:Int} (hw:hWf h) (hk:∀ w',Mod No w w'->K (.int .i64 (findX kd g h p)) w') {f:Value} (hf:(xV kd)[0]?=some f) :
  Dyn Tryz.prog f #[.agg ⟨gV g⟩,.agg ⟨hV h⟩,.int .i64 p] w K:=by
 cases kd with
 | true=>cases hf; exact ⟨_,_,_,rfl,findBk_c hw hk⟩
 | false=>cases hf; exact ⟨_,_,_,rfl,findSl_c hw hk⟩
theorem useX_wf {kd:Bool} {g:Gm} {h:Hd} (hw:hWf h) (i:Int) (on:Bool):hWf (useX kd g h i on).1:=by
 cases kd
 ·exact useSl_wf hw i on
 ·exact useBk_wf hw i on
theorem useX_ok {kd:Bool} {g:Gm} {h:Hd} {i:Int} {on:Bool} (hw:hWf h) (e:(useX kd g h i on).2=0):hOk g (useX kd g h i on).1=true/\(useX kd g h i on).1.no=h.no:=by
 cases kd
 ·obtain ⟨h1,h2,_⟩:=useSl_ok (on:=on) (i:=i) hw e
  exact ⟨h1,by show (useSl g h i on).1.no=_; rw [h2]⟩
 ·obtain ⟨h1,h2,_⟩:=useBk_ok (on:=on) (i:=i) hw e
  exact ⟨h1,by show (useBk g h i on).1.no=_; rw [h2]⟩
end
end Go.Proofs.YtelhlihjihklbaaGreat
end
section
open Go Go.Den Go.Proofs
namespace Go.Proofs.YtelhlihjihklbaaGreat
def turnA (kd:Bool) (A:Az) (k:Nat) (i:Int) (on:Bool):Az×Int×Int :=
 if (useX kd A.s.geo (A.hs.getD k hZ) i on).2≠0 then (A,0,(useX kd A.s.geo (A.hs.getD k hZ) i on).2) else (sethA A k (useX kd A.s.geo (A.hs.getD k hZ) i on).1,(A.V.last:Int)+1,0)
section
variable {w w':World} {R R':Nat->Prop} {a v d:Nat} {A:Az} {K:Value->World->Prop}
theorem sc_use:scal Tryz.prog 107=true:=by kernel_rfl
theorem sc_find:scal Tryz.prog 106=true:=by kernel_rfl
theorem Ao.hdOf (h:Ao R w a v d A) {k:Nat} (hk:(k:Int)<A.s.geo.gs):∃ x,hdOf A.s.geo A.hs k=(x,0)/\A.hs.getD k hZ=x/\hOk A.s.geo x=true/\x.no=k/\hWf x:=by
 obtain ⟨x,h1,h2,h3,h4,h5⟩:=h.hd.get (k:=(k:Int)) (by omega) hk
 obtain ⟨p1,_⟩:=head_pos h.ok hk
 have e:A.hs.getD k hZ=x:=by rw [List.getD_eq_getElem?_getD,show A.hs[k]?=some x from h1]; rfl
 exact ⟨x,by unfold Go.Proofs.YtelhlihjihklbaaGreat.hdOf; rw [if_neg (by rw [p1]; exact fun e=>e rfl)]; exact congrArg (·,0) e,e,h3,h4,h5⟩
set_option maxRecDepth 4000 in
theorem turn_c {kd:Bool} {k:Nat} {i:Int} {on:Bool} (h:Ao R w a v d A) (hk0:(k:Int)<A.s.geo.gs) (hlast:A.V.last+1<=1000000)
  (hk:∀ w' R',Mod R w w'->Sb R R' w->Ao R' w' a v d (turnA kd A k i on).1->K (.tuple #[.int .i64 (turnA kd A k i on).2.1,.int .i64 (turnA kd A k i on).2.2]) w') :
  Cal Tryz.prog F_alloc_Alloc_turn #[.pointer (some ⟨a,0,none⟩),.agg ⟨pV (k,i)⟩,.agg ⟨xV kd⟩,.bool on] w K:=by
 obtain ⟨x,hx1,hx2,hx3,hx4,hx5⟩:=h.hdOf hk0
 obtain ⟨f1,hf1⟩:∃ f,(xV kd)[1]?=some f:=by cases kd <;> exact ⟨_,rfl⟩
 apply C_alloc_Alloc_turn
 unfold D_alloc_Alloc_turn
 obtain ⟨w1,a1,a2,a3,a4⟩:=box_u (P:=Tryz.prog) (w:=w) (T:=101) (cs:=pV (k,i))
 obtain ⟨w2,b1,b2,b3,b4⟩:=box_u (P:=Tryz.prog) (w:=w1) (T:=109) (cs:=xV kd)
 have m2:=(a3.no b3).drew
 have h2:=h.nos m2
 have q1:AtU (Go.Den.drew w2) w.heap.size 0 (pV (k,i)):=(a2.keep b3 id).drew
 have q2:AtU (Go.Den.drew w2) w1.heap.size 0 (xV kd):=b2.drew
 have n1:¬ R w.heap.size:=fun e=>by have:=h.lt _ e; omega
 have n2:¬ R w1.heap.size:=fun e=>by have:=h.lt _ e; omega
 have zd:(Go.Den.drew w2).heap.size=w2.heap.size:=rfl
 have hda:=h.dlt
 refine ⟨_,w1,a1,_,w2,b1,_,rfl,_,h2.pv,_,q1.at.fld (v:=.int .i64 (k:Int)) sc_int rfl,?pA,?pB⟩
 case' pA =>
  refine aHead_c h2 fun w3 R3 m3 s3 h3 _=>?_
  rw [hx1]
  have z3:=m3.size
  obtain ⟨w4,c1,c2,c3,c4⟩:=new_u (P:=Tryz.prog) (w:=w3) (T:=119) zero_head
  obtain ⟨w5,e1,e2,e3,e4⟩:=c2.put (T:=119) (vs:=hV x) agg_head rfl (hV_len hx5) (one_hV _)
  have hn:¬ R3 w3.heap.size:=fun e=>by have:=h3.lt _ e; omega
  have T1:Mod R w w5:=((m2.mono fun _ _ e=>e.elim).trans (m3.no (c3.own e3 (Nat.le_refl _))) fun x _ e=>e)
  have T2:Sb R R3 w2:=s3
  have T3:Ao R3 w5 a v d A:=(h3.nos c3).own e3 hn (by omega)
  have q14:=(q1.keep m3 n1).keep c3 id
  have T5:AtU w5 w.heap.size 0 (pV (k,i)):=q14.keep e3 (fun e=>by have e:w.heap.size=w3.heap.size:=e; omega)
  have T6:AtU w5 w1.heap.size 0 (xV kd):=((q2.keep m3 n2).keep c3 id).keep e3 (fun e=>by have e:w1.heap.size=w3.heap.size:=e; omega)
  refine ⟨_,_,rfl,_,w4,c1,(h3.nos c3).pv,q14.at.fld sc_int rfl,w5,e1,?_⟩
  have T7:w2.heap.size<=w3.heap.size/\w3.heap.size<w5.heap.size:=⟨by omega,e2.lt⟩
  generalize w3.heap.size=q at *
 case' pB =>
  obtain ⟨w4,c1,c2,c3,c4⟩:=new_u (P:=Tryz.prog) (w:=Go.Den.drew w2) (T:=119) zero_head
  refine ⟨_,w4,c1,(h2.nos c3).pv,(q1.keep c3 id).at.fld sc_int rfl,aHead_c (h2.nos c3) fun w3 R3 m3 s3 h3 _=>?_⟩
  rw [hx1]
  have z3:=m3.size
  have hnR:¬ R w2.heap.size:=fun e=>by have:=h.lt _ e; omega
  obtain ⟨w5,e1,e2,e3,e4⟩:=(c2.keep m3 hnR).put (T:=119) (vs:=hV x) agg_head rfl (hV_len hx5) (one_hV _)
  have hn:¬ R3 w2.heap.size:=fun e=>by
   rcases s3 _ e with e | e
   ·exact hnR e
   ·omega
  have T1:Mod R w w5:=(((m2.no c3).mono fun _ _ e=>e.elim).trans m3 fun x _ e=>e).trans e3 fun x hx e=>by have e:x=w2.heap.size:=e; omega
  have T2:Sb R R3 w2:=s3.up (by omega)
  have T3:Ao R3 w5 a v d A:=h3.own e3 hn (by omega)
  have T5:AtU w5 w.heap.size 0 (pV (k,i)):=((q1.keep c3 id).keep m3 n1).keep e3 (fun e=>by have e:w.heap.size=w2.heap.size:=e; omega)
  have T6:AtU w5 w1.heap.size 0 (xV kd):=((q2.keep c3 id).keep m3 n2).keep e3 (fun e=>by have e:w1.heap.size=w2.heap.size:=e; omega)
  refine ⟨_,_,rfl,w5,e1,?_⟩
  have T7:w2.heap.size<=w2.heap.size/\w2.heap.size<w5.heap.size:=⟨Nat.le_refl _,e2.lt⟩
  obtain ⟨q,hq⟩:∃ q,q=w2.heap.size:=⟨_,rfl⟩
  have e2:AtU w5 q 0 (hV x):=hq ▸ e2
  have hn:¬ R3 q:=hq ▸ hn
  have T7:w2.heap.size<=q/\q<w5.heap.size:=hq ▸ T7
  rw [zd,<- hq]
 all_goals
  have p1:w.heap.size<w2.heap.size/\w1.heap.size<w2.heap.size/\w.heap.size<w1.heap.size:=⟨by have:=b2.lt; omega,b2.lt,by omega⟩
  have hz5:=T1.size
  have r1:¬ R3 w.heap.size:=fun e=>by
   rcases T2 _ e with e | e
   ·exact n1 e
   ·omega
  have r2:¬ R3 w1.heap.size:=fun e=>by
   rcases T2 _ e with e | e
   ·exact n2 e
   ·omega
  refine Share.cut (fun z w9=>∃ e h',z=[.int .i64 e]/\Mod R w w9/\Ao R3 w9 a v d A/\AtU w9 q 0 (hV h')/\AtU w9 w.heap.size 0 (pV (k,i))/\e=(useX kd A.s.geo x i on).2/\h'=(useX kd A.s.geo x i on).1) ?_ ?_
  ·refine tt rfl ⟨f1,T6.drew.at.fld sc_use hf1,_,rfl,_,(T3.nos (Mod.refl _ _).drew).pv,_,e2.drew.at.all agg_head (hV_len hx5),_,T5.drew.at.fld (v:=.int .i64 i) sc_int rfl,aGeo_c (T3.nos (Mod.refl _ _).drew) fun w6 m6=>⟨_,rfl,(T6.keep (S:=No) ((Mod.refl _ _).drew.no m6) id).at.fld sc_use hf1,(e2.keep (S:=No) ((Mod.refl _ _).drew.no m6) id).at.all agg_head (hV_len hx5),(T5.keep (S:=No) ((Mod.refl _ _).drew.no m6) id).at.fld (v:=.int .i64 i) sc_int rfl,?_⟩⟩
   refine useX_c hx5 (fun w7 m7=>⟨_,_,rfl,?_⟩) hf1
   have M7:Mod No w5 w7:=((Mod.refl No w5).drew.no m6).no m7
   obtain ⟨w8,y1,y2,y3,y4⟩:=(e2.keep M7 id).put (T:=119) (vs:=hV (useX kd A.s.geo x i on).1) agg_head (hV_len hx5) (hV_len (useX_wf hx5 i on)) (one_hV _)
   exact ⟨w8,y1,_,_,rfl,(T1.no M7).trans y3 fun z hz e=>by have e:z=q:=e; omega,(T3.nos M7).own y3 hn (by omega),y2,(T5.keep M7 id).keep y3 (fun e=>by have e:w.heap.size=q:=e; omega),rfl,rfl⟩
  rintro z w9 ⟨e,h',rfl,U1,U2,U3,U4,rfl,rfl⟩
  refine ⟨_,rfl,?_⟩
  rw [bneI]
  have hT:=fun (y:Az×Int×Int) (hy:turnA kd A k i on=y)=>hy ▸ hk
  unfold turnA at hk
  rw [hx2] at hk
  refine cond_of (fun he=>?_) (fun he=>?_)
  ·have he:=of_decide_eq_true he
   rw [if_pos he] at hk
   exact hk w9 R3 U1 (T2.up (by omega)) U2
  ·have he':=Classical.not_not.1 (of_decide_eq_false he)
   rw [if_neg (of_decide_eq_false he)] at hk
   obtain ⟨o1,o2⟩:=useX_ok hx5 he'
   refine ⟨_,rfl,_,(U2.nos (Mod.refl _ _).drew).pv,_,U4.drew.at.fld (v:=.int .i64 (k:Int)) sc_int rfl,_,U3.drew.at.all agg_head (hV_len (useX_wf hx5 i on)),?_⟩
   refine aSet_c (U2.nos (Mod.refl _ _).drew) (by omega) hk0 (useX_wf hx5 i on) o1 (by rw [o2]; exact hx4) hlast fun w10 R10 m10 s10 h10 _=>⟨_,_,rfl,?_⟩
   rw [show ((k:Nat):Int).toNat=k by omega] at h10
   have hzU:=U1.size
   exact hk w10 R10 ((U1.drew).trans m10 fun z hz e=>(T2 z e).resolve_right (by omega)) ((T2.trans s10 (by show w2.heap.size<=w9.heap.size; have:=U3.lt; omega)).up (by omega)) h10
end
end Go.Proofs.YtelhlihjihklbaaGreat
end
section
open Go Go.Den Go.Proofs
namespace Go.Proofs.YtelhlihjihklbaaGreat
theorem sc_palloc:scal Tryz.prog 22=true:=by kernel_rfl
theorem sc_bl:scal Tryz.prog 4=true:=by kernel_rfl
section
variable {w w':World} {R R':Nat->Prop} {a v d:Nat} {A:Az} {K:Value->World->Prop}
theorem ring_c {s p : Int} {t : Bool} {q : Option Addr} (hk : ∀ w', Mod No w w' → w'.heap.size = w.heap.size + 3 → AtU w' w.heap.size 0 [.pointer q] → AtU w' (w.heap.size + 1) 0 (pV (s, p)) → AtU w' (w.heap.size + 2) 0 [.bool t] →
      K (.func (.func F_alloc_Alloc_ring_1) #[] #[.pointer (some ⟨w.heap.size, 0, none⟩), .pointer (some ⟨w.heap.size + 1, 0, none⟩), .pointer (some ⟨w.heap.size + 2, 0, none⟩)]) w') :
    Cal Tryz.prog F_alloc_Alloc_ring #[.pointer q, .agg ⟨pV (s, p)⟩, .bool t] w K := by
  apply C_alloc_Alloc_ring
  unfold D_alloc_Alloc_ring
  obtain ⟨w1, a1, a2, a3, a4⟩ := box_v (P := Tryz.prog) (w := w) (T := 22) (v := .pointer q) rfl
  obtain ⟨w2, b1, b2, b3, b4⟩ := box_u (P := Tryz.prog) (w := w1) (T := 101) (cs := pV (s, p))
  obtain ⟨w3, c1, c2, c3, c4⟩ := box_v (P := Tryz.prog) (w := w2) (T := 4) (v := .bool t) rfl
  rw [a4] at b1 b2 b4
  rw [b4] at c1 c2 c4
  exact ⟨_, w1, a1, _, w2, b1, _, w3, c1, hk w3 ((a3.no b3).no c3) c4 ((a2.keep b3 id).keep c3 id) (b2.keep c3 id) c2⟩
theorem ring1_c {l q3 q4 q5 n:Nat} {s p:Int} {t:Bool} (hn:A.s.geo.gs=n) (hg:gOk A.s.geo=true) (hs:0<=s/\s<A.s.geo.gs) (hp:0<=p/\p<=100000) (J:Nat->World->Prop) (E:World->Prop) (hJ0:J 0 w)
  (hcell:∀ i W,J i W->∃ R',Ao R' W a v d A/\AtU W q3 0 [.pointer (some ⟨a,0,none⟩)]/\AtU W q4 0 (pV (s,p))/\AtU W q5 0 [.bool t])
  (hno:∀ i W W',J i W->Mod No W W'->J i W')
  (hfz:∀ i W,i<n->J i W->A.fz (ringK A.s.geo s i)=true->J (i+1) W)
  (hst:∀ i W K,i<n->J i W->A.fz (ringK A.s.geo s i)=false->(∀ W',J (i+1) W'->K (.bool true) W')->(∀ W',E W'->K (.bool false) W')->Yld Tryz.prog l #[.int .i64 (ringK A.s.geo s i:Int),.int .i64 (ringF p t i)] W K)
  (hk:∀ W,J n W\/E W->K (.tuple #[]) W) :
  Cal Tryz.prog F_alloc_Alloc_ring_1 (#[.func (.yield l) #[] #[]]++#[.pointer (some ⟨q3,0,none⟩),.pointer (some ⟨q4,0,none⟩),.pointer (some ⟨q5,0,none⟩)]) w K:=by
 refine C_alloc_Alloc_ring_1 _ _ _ _ w K ?_
 unfold D_alloc_Alloc_ring_1
 obtain ⟨R0,h0,c3,c4,c5⟩:=hcell 0 w hJ0
 obtain ⟨_,_,g3,g4,_⟩:=gOk_iff.1 hg
 refine ⟨_,c3.at.one sc_palloc,_,rfl,_,h0.pv,aGeo_c h0 fun w1 m1=>⟨_,rfl,_,field_ggs _,?_⟩⟩
 refine ⟨fun x W=>∃ (i:Nat) (y0 y2 y3:Value),x=[y0,.int .i64 i,y2,y3]/\i<=n/\J i W,fun x _=>(n-nI x 1).toNat,⟨0,_,_,_,rfl,Nat.zero_le _,hno 0 _ _ hJ0 m1⟩,?_⟩
 rintro x W ⟨i,y0,y2,y3,rfl,hi,hJ⟩
 obtain ⟨R1,h1,d3,d4,d5⟩:=hcell i W hJ
 refine ⟨_,rfl,cond_of (fun hb=>?_) (fun hb=>hk W (.inl ?_))⟩
 ·have hb:=of_decide_eq_true hb
  have hin:i<n:=by omega
  have hrk:(s+i) % A.s.geo.gs=(ringK A.s.geo s i:Int):=by
   unfold ringK
   have:=Int.emod_nonneg (s+i) (show A.s.geo.gs≠0 by omega)
   omega
  refine ⟨_,d4.at.fld (v:=.int .i64 s) sc_int rfl,(ringK A.s.geo s i:Int),?_,?_⟩
  ·rw [wrap64 (x:=s+i) (by omega) (by omega),<- hrk]
   exact remR (by omega) (by omega) (by omega)
  refine Share.cut (fun z W'=>W'=W/\z=[.bool (decide (i=0)&&t)]) ?_ ?_
  ·rw [beqI]
   refine cond_of (fun h=>⟨_,d5.at.one sc_bl,rfl,?_⟩) (fun h=>⟨rfl,?_⟩)
   ·have h:=of_decide_eq_true h
    rw [decide_eq_true (by omega),Bool.true_and]
   ·have h:=of_decide_eq_false h
    rw [decide_eq_false (by omega),Bool.false_and]
  rintro z W' ⟨rfl,rfl⟩
  refine ⟨_,rfl,Share.cut (fun z W''=>W''=W'/\z=[.int .i64 (ringF p t i)]) (cond_of (fun h=>⟨_,d4.at.fld (v:=.int .i64 p) sc_int rfl,rfl,?_⟩) (fun h=>⟨rfl,?_⟩)) ?_⟩
  ·simp only [Bool.and_eq_true,decide_eq_true_eq] at h
   rw [wrap64 (by omega) (by omega)]; unfold ringF; rw [if_pos h]
  ·have h':¬ (i=0/\t=true):=fun e=>by rw [decide_eq_true e.1,e.2] at h; cases h
   unfold ringF; rw [if_neg h']
  rintro z W'' ⟨rfl,rfl⟩
  refine Share.cut (fun z W'=>(z=[.bool false]/\J (i+1) W')\/(z=[.bool true]/\E W')) ?_ ?_
  ·have h1':=h1
   obtain ⟨Rv,fm,L,_,k2,k3,k4,_⟩:=h1'
   have hl:=lookup_run (P:=Tryz.prog) (k:=(ringK A.s.geo s i:Int)) mapFz k3
   rw [k4] at hl
   refine ⟨_,d3.at.one sc_palloc,_,rfl,_,k2.at.fld sc_fz rfl,_,hl,cond_of (fun h=>⟨_,rfl,.yield l,#[],#[],rfl,rfl,rfl,?_⟩) (fun h=>.inl ⟨rfl,hfz i _ hin hJ (by simpa using h)⟩)⟩
   exact hst i _ _ hin hJ (by simpa using h) (fun W' hJ'=>⟨true,rfl,.inl ⟨rfl,hJ'⟩⟩) fun W' hE=>⟨false,rfl,.inr ⟨rfl,hE⟩⟩
  ·rintro z W' (⟨rfl,hJ'⟩ | ⟨rfl,hE⟩)
   ·refine ⟨_,rfl,ff rfl ?_⟩
    rw [wrap64 (x:=(i:Int)+1) (by omega) (by omega)]
    exact ⟨⟨i+1,_,_,_,rfl,by omega,hJ'⟩,by simp [nI,nth]; omega⟩
   ·exact ⟨_,rfl,tt rfl (hk W' (.inr hE))⟩
 ·have hb:=of_decide_eq_false hb
  have:i=n:=by omega
  rw [<- this]; exact hJ
def freeA (A:Az):Nat->Int×Int
 | 0=>(0,0)
 | i+1=>if A.fz (i:Int)=true then freeA A i else ((freeA A i).1+(hFree A.s.geo (A.hs.getD i hZ)).1,(freeA A i).2+(hFree A.s.geo (A.hs.getD i hZ)).2)
theorem freeA_b (A:Az):∀ i:Nat,0<=(freeA A i).1/\(freeA A i).1<=128*i/\0<=(freeA A i).2/\(freeA A i).2<=64*i
 | 0=>by simp [freeA]
 | i+1=>by
  have h:=freeA_b A i
  have hb:=hFree_b (g:=A.s.geo) (h:=A.hs.getD i hZ)
  unfold freeA
  split
  ·omega
  ·simp only; omega
theorem Mod.putObj (w:World) (k:Nat) (o:Obj):Mod (fun x=>x=k) w (w.putObj k o):=(Mod.refl (fun x=>x=k) w).put (.inr rfl) o
theorem putObj_at {w:World} {k:Nat} {o o':Obj} (h:w.heap[k]?=some o'):(w.putObj k o).heap[k]?=some o:=heap_put_same (lt_of_heap h)
theorem zero_int:zeroC Tryz.prog 3=some [.int .i64 0]:=by kernel_rfl
set_option maxRecDepth 4000 in
theorem aFree_c (h:Ao R w a v d A) (hk:∀ w' R',Mod R w w'->Sb R R' w->Ao R' w' a v d A->K (.tuple #[.int .i64 (freeA A A.s.geo.gs.toNat).1,.int .i64 (freeA A A.s.geo.gs.toNat).2]) w') :
  Cal Tryz.prog F_alloc_Alloc_Free #[.pointer (some ⟨a,0,none⟩)] w K:=by
 have hg:=h.ok
 obtain ⟨_,_,g3,g4,_⟩:=gOk_iff.1 hg
 obtain ⟨n,hn⟩:=Int.eq_ofNat_of_zero_le (show 0<=A.s.geo.gs by omega)
 rw [hn,Int.toNat_natCast] at hk
 apply C_alloc_Alloc_Free
 unfold D_alloc_Alloc_Free
 obtain ⟨w1,a1,a2,a3,a4⟩:=box_v (P:=Tryz.prog) (w:=w) (T:=22) (v:=.pointer (some ⟨a,0,none⟩)) rfl
 obtain ⟨w2,b1,b2,b3,b4⟩:=new_u (P:=Tryz.prog) (w:=w1) (T:=3) zero_int
 obtain ⟨w3,c1,c2,c3,c4⟩:=new_u (P:=Tryz.prog) (w:=w2) (T:=3) zero_int
 obtain ⟨w4,e1,e2,e3,e4⟩:=(b2.keep c3 id).put1 (P:=Tryz.prog) (T:=3) (v:=.int .i64 0) sc_int rfl
 have ne1:¬ w2.heap.size=w1.heap.size:=by have:=b2.lt; omega
 obtain ⟨w5,f1,f2,f3,f4⟩:=(c2.keep e3 ne1).put1 (P:=Tryz.prog) (T:=3) (v:=.int .i64 0) sc_int rfl
 have p4:=e2.keep f3 (fun e=>ne1 e.symm)
 have s12:=b2.lt
 have s23:=c2.lt
 have s1:=a2.lt
 have p1:AtU w5 w.heap.size 0 [.pointer (some ⟨a,0,none⟩)]:=(((a2.keep b3 id).keep c3 id).keep e3 (fun e=>by have e:w.heap.size=w1.heap.size:=e; omega)).keep f3 (fun e=>by have e:w.heap.size=w2.heap.size:=e; omega)
 have m3:Mod No w w3:=(a3.no b3).no c3
 have m5:Mod No w w5:=(m3.own e3 (by omega)).own f3 (by omega)
 have s5:w5.heap.size=w.heap.size+3:=by omega
 have h5:=h.nos m5
 refine ⟨_,w1,a1,_,w2,b1,_,w3,c1,w4,e1,w5,f1,_,p1.at.one sc_palloc,ff rfl ⟨_,p1.at.one sc_palloc,_,build_spot0,?_⟩⟩
 rw [show w1.heap.size=w.heap.size+1 by omega,show w2.heap.size=w.heap.size+2 by omega] at *
 refine ring_c (s:=0) (p:=0) (t:=false) fun w6 m6 s6 x3 x4 x5=>⟨_,rfl,?_⟩
 have h6:=h5.nos m6
 have M6:Mod No w w6:=m5.no m6
 have p16:=p1.keep m6 id
 have p46:=p4.keep m6 id
 have p56:=f2.keep m6 id
 rw [s5] at x3 x4 x5 |-
 intro r0 hs hp hy
 obtain ⟨hd0,hl0,mW,sW⟩:((w6.alloc (.deferred (some []))).alloc (.loop r0)).heap[w6.heap.size]?=some (.deferred (some []))/\((w6.alloc (.deferred (some []))).alloc (.loop r0)).heap[w6.heap.size+1]?=some (.loop r0)/\Mod No w6 ((w6.alloc (.deferred (some []))).alloc (.loop r0))/\((w6.alloc (.deferred (some []))).alloc (.loop r0)).heap.size=w6.heap.size+2:=by
  refine ⟨?_,?_,((Mod.refl No w6).alloc _).alloc _,by simp⟩
  ·rw [heap_old (by simp)]; exact heap_new _ _
  ·have:=heap_new (w6.alloc (.deferred (some []))) (.loop r0)
   rw [World.size_alloc] at this; exact this
 generalize (w6.alloc (.deferred (some []))).alloc (.loop r0)=W2 at *
 have hnR:∀ R',Sb R R' W2->∀ q,w.heap.size<=q->q<W2.heap.size->¬ R' q:=fun R' hs q h1 h2 e=>by
  rcases hs q e with e | e
  ·have:=h.lt q e; omega
  ·omega
 have hda:=h.dlt
 refine ring1_c (A:=A) (n:=n) (w:=W2) hn hg (by omega) (by omega) (fun i W=>∃ R',Ao R' W a v d A/\Sb R R' W2/\Mod R w W/\W2.heap.size<=W.heap.size/\AtU W w.heap.size 0 [.pointer (some ⟨a,0,none⟩)]/\AtU W (w.heap.size+1) 0 [.int .i64 (freeA A i).1]/\AtU W (w.heap.size+2) 0 [.int .i64 (freeA A i).2] /\
   (AtU W (w.heap.size+3) 0 [.pointer (some ⟨a,0,none⟩)]/\AtU W (w.heap.size+3+1) 0 (pV (0,0))/\AtU W (w.heap.size+3+2) 0 [.bool false])/\W.heap[w6.heap.size]?=some (.deferred (some []))/\W.heap[w6.heap.size+1]?=some (.loop r0)) (fun _=>False)
  ⟨R,h6.nos mW,Sb.refl _ _,(M6.no mW).mono (fun _ _ e=>e.elim),Nat.le_refl _,p16.keep mW id,p46.keep mW id,p56.keep mW id,⟨x3.keep mW id,x4.keep mW id,x5.keep mW id⟩,hd0,hl0⟩
  (fun i W ⟨R',j1,j2,j3,j4,j5,j6,j7,j8,j9,j10⟩=>⟨R',j1,j8.1,j8.2.1,j8.2.2⟩)
  (fun i W W' ⟨R',j1,j2,j3,j4,j5,j6,j7,j8,j9,j10⟩ m=>⟨R',j1.nos m,j2,j3.no m,Nat.le_trans j4 m.size,j5.keep m id,j6.keep m id,j7.keep m id,⟨j8.1.keep m id,j8.2.1.keep m id,j8.2.2.keep m id⟩,m.keep j9 id,m.keep j10 id⟩) ?_ ?_ ?_
 ·rintro i W hi ⟨R',j1,j2,j3,j4,j5,j6,j7,j8⟩ hf
  have e:ringK A.s.geo 0 i=i:=by
   unfold ringK
   rw [Int.zero_add,Int.emod_eq_of_lt (by omega) (by omega)]; omega
  rw [e] at hf
  have e1:freeA A (i+1)=freeA A i:=by rw [freeA,if_pos hf]
  rw [<- e1] at j6 j7
  exact ⟨R',j1,j2,j3,j4,j5,j6,j7,j8⟩
 ·rintro i W K' hi ⟨R',j1,j2,j3,j4,j5,j6,j7,⟨j8,j9,j10⟩,j11,j12⟩ hf hT _
  have e:ringK A.s.geo 0 i=i:=by
   unfold ringK
   rw [Int.zero_add,Int.emod_eq_of_lt (by omega) (by omega)]; omega
  rw [e] at hf |-
  have e1:freeA A (i+1)=((freeA A i).1+(hFree A.s.geo (A.hs.getD i hZ)).1,(freeA A i).2+(hFree A.s.geo (A.hs.getD i hZ)).2):=by rw [freeA,if_neg (by rw [hf]; decide)]
  refine hy [.int .i64 (i:Int),.int .i64 (ringF 0 false i)] W K' rfl j12 ?_
  refine ⟨_,rfl,j12,?_⟩
  have ml:=Mod.putObj W (w6.heap.size+1) (.loop { r0 with state:=.busy })
  have hlb:=putObj_at (o:=.loop { r0 with state:=.busy }) j12
  have nl:¬ R' (w6.heap.size+1):=hnR R' j2 _ (by omega) (by omega)
  have k1:=j1.own ml nl (by omega)
  have zl:=ml.size
  generalize W.putObj (w6.heap.size+1) (.loop { r0 with state:=.busy })=W3 at *
  have hi':(i:Int)<A.s.geo.gs:=by omega
  obtain ⟨x,hx1,hx2,hx3,hx4,hx5⟩:=k1.hdOf hi'
  rw [hx2] at e1
  have k5:AtU W3 w.heap.size 0 [.pointer (some ⟨a,0,none⟩)]:=j5.keep ml (fun e=>by have e:w.heap.size=w6.heap.size+1:=e; omega)
  refine ⟨_,k5.at.one sc_palloc,_,rfl,_,k1.pv,aHead_c k1 fun w9 R9 m9 s9 k9 _=>?_⟩
  rw [hx1]
  have z9:=m9.size
  obtain ⟨w10,y1,y2,y3,y4⟩:=new_u (P:=Tryz.prog) (w:=w9) (T:=119) zero_head
  obtain ⟨w11,u1,u2,u3,u4⟩:=y2.put (T:=119) (vs:=hV x) agg_head rfl (hV_len hx5) (one_hV _)
  have m11:Mod No w9 w11:=y3.own u3 (Nat.le_refl _)
  have m11d:=m11.drew
  have M11:Mod R' W3 (Go.Den.drew w11):=m9.no m11d
  have k11:=k9.nos m11d
  have k5':=k5.keep M11 (hnR R' j2 _ (by omega) (by omega))
  refine ⟨_,_,rfl,_,w10,y1,w11,u1,_,k5'.at.one sc_palloc,_,rfl,_,k11.pv,_,u2.drew.at.all agg_head (hV_len hx5),aGeo_c k11 fun w12 m12=>⟨_,rfl,(u2.drew.keep m12 id).at.all agg_head (hV_len hx5),hFree_c hx5 fun w13 m13=>⟨_,_,rfl,?_⟩⟩⟩
  have M13:Mod R' W3 (Go.Den.drew w13):=(M11.no (m12.no m13)).drew
  have k13:=k9.nos (m11d.no ((m12.no m13).drew))
  have z13:=M13.size
  have far:∀ q,w.heap.size<=q->q<W2.heap.size->¬ R' q:=fun q h1 h2=>hnR R' j2 q h1 h2
  have nel:∀ q,q<w6.heap.size+1->¬ (fun x=>x=w6.heap.size+1) q:=fun q hq e=>by have e:q=w6.heap.size+1:=e; omega
  have t6:=(j6.keep ml (nel _ (by omega))).keep M13 (far _ (by omega) (by omega))
  have t7:=(j7.keep ml (nel _ (by omega))).keep M13 (far _ (by omega) (by omega))
  obtain ⟨w14,v1,v2,v3,v4⟩:=t6.put1 (P:=Tryz.prog) (T:=3) (v:=.int .i64 (freeA A (i+1)).1) sc_int rfl
  have t7':=t7.keep v3 (fun e=>by have e:w.heap.size+2=w.heap.size+1:=e; omega)
  obtain ⟨w15,r1,r2,r3,r4⟩:=t7'.put1 (P:=Tryz.prog) (T:=3) (v:=.int .i64 (freeA A (i+1)).2) sc_int rfl
  have hfb:=freeA_b A i
  have hhb:=hFree_b (g:=A.s.geo) (h:=x)
  refine ⟨_,t6.at.one sc_int,_,t7.at.one sc_int,w14,?_,t7'.at.one sc_int,w15,?_,?_⟩
  ·rw [wrap64 (by omega) (by omega)]; rw [e1] at v1; exact v1
  ·rw [wrap64 (by omega) (by omega)]; rw [e1] at r1; exact r1
  have S9:Sb R R9 W2:=j2.trans s9 (by omega)
  have n1:¬ R9 (w.heap.size+1):=hnR R9 S9 _ (by omega) (by omega)
  have n2:¬ R9 (w.heap.size+2):=hnR R9 S9 _ (by omega) (by omega)
  have n3:¬ R9 (w6.heap.size+1):=hnR R9 S9 _ (by omega) (by omega)
  have k15:=(k13.own v3 n1 (by omega)).own r3 n2 (by omega)
  -- all other blocks
  have oth:∀ q,w.heap.size<=q->q<w6.heap.size+1->¬ q=w.heap.size+1->¬ q=w.heap.size+2->∀ {o},W.heap[q]?=some o->w15.heap[q]?=some o:=fun q h1 h2 h3 h4 o ho=>r3.keep (v3.keep (M13.keep (ml.keep ho (nel q h2)) (far q h1 (by omega))) h3) h4
  have othA:∀ q cs,w.heap.size<=q->q<w6.heap.size+1->¬ q=w.heap.size+1->¬ q=w.heap.size+2->AtU W q 0 cs->AtU w15 q 0 cs:=fun q cs h1 h2 h3 h4 ho=>(((ho.keep ml (nel q h2)).keep M13 (far q h1 (by omega))).keep v3 h3).keep r3 h4
  have hl15:w15.heap[w6.heap.size+1]?=some (.loop { r0 with state:=.busy }):=r3.keep (v3.keep (M13.keep hlb (far _ (by omega) (by omega))) (by show ¬ w6.heap.size+1=w.heap.size+1; omega)) (by show ¬ w6.heap.size+1=w.heap.size+2; omega)
  refine ⟨hl15,?_⟩
  have er:({ r0 with state:=LoopState.ready,pending:=none }:Loop)=r0:=by cases r0; simp only at hs hp; subst hs; subst hp; rfl
  show K' (.bool true) (w15.putObj (w6.heap.size+1) (.loop { r0 with state:=LoopState.ready,pending:=none }))
  rw [er]
  have mf:=Mod.putObj w15 (w6.heap.size+1) (.loop r0)
  have zf:=mf.size
  refine hT _ ⟨R9,k15.own mf n3 (by omega),S9,?_,by omega,(othA _ _ (by omega) (by omega) (by omega) (by omega) j5).keep mf (nel _ (by omega)),(v2.keep r3 (by show ¬ w.heap.size+1=w.heap.size+2; omega)).keep mf (nel _ (by omega)),r2.keep mf (nel _ (by omega)),⟨(othA _ _ (by omega) (by omega) (by omega) (by omega) j8).keep mf (nel _ (by omega)),(othA _ _ (by omega) (by omega) (by omega) (by omega) j9).keep mf (nel _ (by omega)),(othA _ _ (by omega) (by omega) (by omega) (by omega) j10).keep mf (nel _ (by omega))⟩,mf.keep (oth _ (by omega) (by omega) (by omega) (by omega) j11) (nel _ (by omega)),putObj_at hl15⟩
  have own:∀ {b c:World} {q:Nat},Mod R w b->Mod (fun x=>x=q) b c->w.heap.size<=q->Mod R w c:=fun hb hc hq=>hb.trans hc fun z hz e=>by have e:z=_:=e; omega
  have c1:Mod R w W3:=own j3 ml (by omega)
  have c2:Mod R w (Go.Den.drew w13):=c1.trans M13 fun z hz e=>(j2 z e).resolve_right (by omega)
  exact own (own (own c2 v3 (by omega)) r3 (by omega)) mf (by omega)
 ·rintro W (⟨R',j1,j2,j3,j4,j5,j6,j7,⟨j8,j9,j10⟩,j11,j12⟩ | e)
  ·refine ⟨.ready,none,?_,by simp,?_⟩
   ·have er:({ r0 with state:=LoopState.ready,pending:=none }:Loop)=r0:=by cases r0; simp only at hs hp; subst hs; subst hp; rfl
    rw [er]; exact j12
   ·have ml:=Mod.putObj W (w6.heap.size+1) (.loop { r0 with state:=.exhausted,pending:=none })
    have nl:¬ R' (w6.heap.size+1):=hnR R' j2 _ (by omega) (by omega)
    have nel:∀ q,q<w6.heap.size+1->¬ (fun x=>x=w6.heap.size+1) q:=fun q hq e=>by have e:q=w6.heap.size+1:=e; omega
    show ∃ n45:Int,_
    have k1:=j1.own ml nl (by omega)
    have k6:=j6.keep ml (nel _ (by omega))
    have k7:=j7.keep ml (nel _ (by omega))
    have k11:=ml.keep j11 (nel _ (by omega))
    have own:∀ {b c:World} {q:Nat},Mod R w b->Mod (fun x=>x=q) b c->w.heap.size<=q->Mod R w c:=fun hb hc hq=>hb.trans hc fun z hz e=>by have e:z=_:=e; omega
    have c1:=own j3 ml (by omega)
    have zl:=ml.size
    generalize W.putObj (w6.heap.size+1) (.loop { r0 with state:=.exhausted,pending:=none })=W3 at *
    refine ⟨_,k6.drew.at.one sc_int,_,k7.drew.at.one sc_int,k11,?_⟩
    have md:=Mod.putObj (Go.Den.drew W3) w6.heap.size (.deferred none)
    exact hk _ R' (own c1.drew md (by omega)) (j2.up (by omega)) ((k1.nos (Mod.refl _ _).drew).own md (hnR R' j2 _ (by omega) (by omega)) (by omega))
  ·exact e.elim
end
end Go.Proofs.YtelhlihjihklbaaGreat
end
section
open Go Go.Den Go.Proofs
namespace Go.Proofs.YtelhlihjihklbaaGreat
theorem takeTo_mono {g : Gm} {hs : List Hd} {fz : Int → Bool} {find : Hd → Int → Int} {s p : Int} {t : Bool} {i : Nat} {x : Nat × Int} (h : takeTo g hs fz find s p t i = some x) : ∀ {n : Nat}, i ≤ n → takeTo g hs fz find s p t n = some x
  | 0, hn => by have : i = 0 := by omega
                subst this; exact h
  | n + 1, hn => by
    by_cases e : i = n + 1
    · rw [← e]; exact h
    · have := takeTo_mono h (n := n) (by omega)
      show (match takeTo g hs fz find s p t n with | some x => some x | none => takeAt g hs fz find s p t n) = _
      rw [this]
def takeA (kd:Bool) (A:Az) (s p:Int) (t:Bool):Az×(Int×Int)×Int×Int :=
 match takeTo A.s.geo A.hs A.fz (findX kd A.s.geo) s p t A.s.geo.gs.toNat with
 | some x=>((turnA kd A x.1 x.2 true).1,((x.1:Int),x.2),(turnA kd A x.1 x.2 true).2.1,(turnA kd A x.1 x.2 true).2.2)
 | none=>(A,(0,0),0,26)
theorem zero_i64:zeroC Tryz.prog 2=some [.int .i64 0]:=by kernel_rfl
theorem zero_errno:zeroC Tryz.prog 24=some [.int .i64 0]:=by kernel_rfl
theorem sc_errno:scal Tryz.prog 24=true:=by kernel_rfl
section
variable {w w':World} {R R':Nat->Prop} {a v d:Nat} {A:Az} {K:Value->World->Prop}
set_option maxRecDepth 4000 in
theorem take_c {kd t:Bool} {s p:Int} (h:Ao R w a v d A) (hs:0<=s/\s<A.s.geo.gs) (hp:0<=p/\p<=100000) (hlast:A.V.last+1<=1000000)
  (hk:∀ w' R',Mod R w w'->Sb R R' w->Ao R' w' a v d (takeA kd A s p t).1->K (.tuple #[.agg ⟨pV (takeA kd A s p t).2.1⟩,.int .i64 (takeA kd A s p t).2.2.1,.int .i64 (takeA kd A s p t).2.2.2]) w') :
  Cal Tryz.prog F_alloc_Alloc_take #[.pointer (some ⟨a,0,none⟩),.agg ⟨pV (s,p)⟩,.bool t,.agg ⟨xV kd⟩] w K:=by
 have hg:=h.ok
 obtain ⟨_,_,g3,g4,_⟩:=gOk_iff.1 hg
 obtain ⟨n,hn⟩:=Int.eq_ofNat_of_zero_le (show 0<=A.s.geo.gs by omega)
 have hnn:A.s.geo.gs.toNat=n:=by omega
 obtain ⟨f0,hf0⟩:∃ f,(xV kd)[0]?=some f:=by cases kd <;> exact ⟨_,rfl⟩
 apply C_alloc_Alloc_take
 unfold D_alloc_Alloc_take
 obtain ⟨w1,a1,a2,a3,a4⟩:=box_v (P:=Tryz.prog) (w:=w) (T:=22) (v:=.pointer (some ⟨a,0,none⟩)) rfl
 obtain ⟨w2,b1,b2,b3,b4⟩:=box_u (P:=Tryz.prog) (w:=w1) (T:=101) (cs:=pV (s,p))
 obtain ⟨w3,c1,c2,c3,c4⟩:=box_u (P:=Tryz.prog) (w:=w2) (T:=109) (cs:=xV kd)
 obtain ⟨w4,d1,d2,d3,d4⟩:=new_u (P:=Tryz.prog) (w:=w3) (T:=101) zero_spot
 obtain ⟨w5,e1,e2,e3,e4⟩:=new_u (P:=Tryz.prog) (w:=w4) (T:=2) zero_i64
 obtain ⟨w6,f1,f2,f3,f4⟩:=new_u (P:=Tryz.prog) (w:=w5) (T:=24) zero_errno
 have z1:w1.heap.size=w.heap.size+1:=a4
 have z2:w2.heap.size=w.heap.size+2:=by omega
 have z3:w3.heap.size=w.heap.size+3:=by omega
 have z4:w4.heap.size=w.heap.size+4:=by omega
 have z5:w5.heap.size=w.heap.size+5:=by omega
 have z6:w6.heap.size=w.heap.size+6:=by omega
 have p1:AtU w6 w.heap.size 0 [.pointer (some ⟨a,0,none⟩)]:=((((a2.keep b3 id).keep c3 id).keep d3 id).keep e3 id).keep f3 id
 have p2:AtU w6 (w.heap.size+1) 0 (pV (s,p)):=z1 ▸ (((b2.keep c3 id).keep d3 id).keep e3 id).keep f3 id
 have p3:AtU w6 (w.heap.size+2) 0 (xV kd):=z2 ▸ ((c2.keep d3 id).keep e3 id).keep f3 id
 have p4:AtU w6 (w.heap.size+3) 0 (pV (0,0)):=z3 ▸ (d2.keep e3 id).keep f3 id
 have p5:AtU w6 (w.heap.size+4) 0 [.int .i64 0]:=z4 ▸ e2.keep f3 id
 have p6:AtU w6 (w.heap.size+5) 0 [.int .i64 0]:=z5 ▸ f2
 have m6:Mod No w w6:=((((a3.no b3).no c3).no d3).no e3).no f3
 have h6:=h.nos m6
 rw [z1] at b1
 rw [z2] at c1
 rw [z3] at d1
 rw [z4] at e1
 rw [z5] at f1
 refine ⟨_,w1,a1,_,w2,b1,_,w3,c1,_,w4,d1,_,w5,e1,_,w6,f1,_,p1.at.one sc_palloc,_,p2.at.all agg_spot rfl,?_⟩
 refine ring_c (s:=s) (p:=p) (t:=t) fun w7 m7 s7 x3 x4 x5=>⟨_,rfl,?_⟩
 have M7:Mod No w w7:=m6.no m7
 have h7:=h.nos M7
 have p1:=p1.keep m7 id
 have p3:=p3.keep m7 id
 have p4:=p4.keep m7 id
 have p5:=p5.keep m7 id
 have p6:=p6.keep m7 id
 rw [z6] at x3 x4 x5 s7 |-
 clear p2 a1 b1 c1 d1 e1 f1 a2 b2 c2 d2 e2 f2 a3 b3 c3 d3 e3 f3 a4 b4 c4 d4 e4 f4 m6 h6
 intro r0 hs0 hp0 hy
 obtain ⟨hd0,hl0,mW,sW⟩:((w7.alloc (.deferred (some []))).alloc (.loop r0)).heap[w7.heap.size]?=some (.deferred (some []))/\((w7.alloc (.deferred (some []))).alloc (.loop r0)).heap[w7.heap.size+1]?=some (.loop r0)/\Mod No w7 ((w7.alloc (.deferred (some []))).alloc (.loop r0))/\((w7.alloc (.deferred (some []))).alloc (.loop r0)).heap.size=w7.heap.size+2:=by
  refine ⟨?_,?_,((Mod.refl No w7).alloc _).alloc _,by simp⟩
  ·rw [heap_old (by simp)]; exact heap_new _ _
  ·have:=heap_new (w7.alloc (.deferred (some []))) (.loop r0)
   rw [World.size_alloc] at this; exact this
 generalize (w7.alloc (.deferred (some []))).alloc (.loop r0)=W2 at *
 have hnR:∀ R',Sb R R' W2->∀ q,w.heap.size<=q->q<W2.heap.size->¬ R' q:=fun R' hs q h1 h2 e=>by
  rcases hs q e with e | e
  ·have:=h.lt q e; omega
  ·omega
 have hda:=h.dlt
 have own:∀ {b c:World} {q:Nat},Mod R w b->Mod (fun x=>x=q) b c->w.heap.size<=q->Mod R w c:=fun hb hc hq=>hb.trans hc fun z hz e=>by have e:z=_:=e; omega
 have er:({ r0 with state:=LoopState.ready,pending:=none }:Loop)=r0:=by cases r0; simp only at hs0 hp0; subst hs0; subst hp0; rfl
 have nel:∀ q,q<w7.heap.size+1->¬ (fun x=>x=w7.heap.size+1) q:=fun q hq e=>by have e:q=w7.heap.size+1:=e; omega
 refine ring1_c (A:=A) (n:=n) (w:=W2) hn hg hs hp (fun i W=>takeTo A.s.geo A.hs A.fz (findX kd A.s.geo) s p t i=none/\∃ R',Ao R' W a v d A/\Sb R R' W2/\Mod R w W/\W2.heap.size<=W.heap.size/\(AtU W w.heap.size 0 [.pointer (some ⟨a,0,none⟩)]/\AtU W (w.heap.size+2) 0 (xV kd)/\AtU W (w.heap.size+3) 0 (pV (0,0))/\AtU W (w.heap.size+4) 0 [.int .i64 0]/\AtU W (w.heap.size+5) 0 [.int .i64 0]) /\
   (AtU W (w.heap.size+6) 0 [.pointer (some ⟨a,0,none⟩)]/\AtU W (w.heap.size+6+1) 0 (pV (s,p))/\AtU W (w.heap.size+6+2) 0 [.bool t])/\W.heap[w7.heap.size]?=some (.deferred (some []))/\W.heap[w7.heap.size+1]?=some (.loop r0))
  (fun W=>∃ k j,takeTo A.s.geo A.hs A.fz (findX kd A.s.geo) s p t n=some (k,j)/\∃ R',Ao R' W a v d (turnA kd A k j true).1/\Sb R R' W2/\Mod R w W/\W2.heap.size<=W.heap.size/\AtU W (w.heap.size+3) 0 (pV (k,j))/\AtU W (w.heap.size+4) 0 [.int .i64 (turnA kd A k j true).2.1]/\AtU W (w.heap.size+5) 0 [.int .i64 (turnA kd A k j true).2.2]/\W.heap[w7.heap.size]?=some (.deferred (some []))/\W.heap[w7.heap.size+1]?=some (.loop { r0 with state:=.done,pending:=some .ret }))
  ⟨rfl,R,h7.nos mW,Sb.refl _ _,(M7.no mW).mono (fun _ _ e=>e.elim),Nat.le_refl _,⟨p1.keep mW id,p3.keep mW id,p4.keep mW id,p5.keep mW id,p6.keep mW id⟩,⟨x3.keep mW id,x4.keep mW id,x5.keep mW id⟩,hd0,hl0⟩
  (fun i W ⟨_,R',j1,j2,j3,j4,j5,j8,j9,j10⟩=>⟨R',j1,j8.1,j8.2.1,j8.2.2⟩)
  (fun i W W' ⟨j0,R',j1,j2,j3,j4,⟨k1,k2,k3,k4,k5⟩,j8,j9,j10⟩ m=>⟨j0,R',j1.nos m,j2,j3.no m,Nat.le_trans j4 m.size,⟨k1.keep m id,k2.keep m id,k3.keep m id,k4.keep m id,k5.keep m id⟩,⟨j8.1.keep m id,j8.2.1.keep m id,j8.2.2.keep m id⟩,m.keep j9 id,m.keep j10 id⟩) ?_ ?_ ?_
 ·rintro i W hi ⟨j0,jr⟩ hf
  refine ⟨?_,jr⟩
  show (match takeTo A.s.geo A.hs A.fz (findX kd A.s.geo) s p t i with | some x=>some x | none=>takeAt A.s.geo A.hs A.fz (findX kd A.s.geo) s p t i)=none
  rw [j0]
  show takeAt A.s.geo A.hs A.fz (findX kd A.s.geo) s p t i=none
  unfold takeAt; rw [if_pos hf]
 ·rintro i W K' hi ⟨j0,R',j1,j2,j3,j4,⟨k1,k2,k3,k4,k5⟩,⟨j8,j9,j10⟩,j11,j12⟩ hf hT hF
  have hkl:=ringK_lt hg s i
  obtain ⟨x,hx1,hx2,hx3,hx4,hx5⟩:=j1.hdOf hkl
  have hxs:A.hs[ringK A.s.geo s i]?=some x:=by
   obtain ⟨y,hy1,_⟩:=j1.hd.get (k:=(ringK A.s.geo s i:Int)) (by omega) hkl
   have hy1:A.hs[ringK A.s.geo s i]?=some y:=hy1
   rw [List.getD_eq_getElem?_getD,hy1] at hx2
   rw [hy1]; exact congrArg some hx2
  have hto:takeTo A.s.geo A.hs A.fz (findX kd A.s.geo) s p t (i+1)=if 0<=findX kd A.s.geo x (ringF p t i) then some (ringK A.s.geo s i,findX kd A.s.geo x (ringF p t i)) else none:=by
   show (match takeTo A.s.geo A.hs A.fz (findX kd A.s.geo) s p t i with | some x=>some x | none=>takeAt A.s.geo A.hs A.fz (findX kd A.s.geo) s p t i)=_
   rw [j0]
   show takeAt A.s.geo A.hs A.fz (findX kd A.s.geo) s p t i=_
   unfold takeAt; rw [if_neg (by rw [hf]; decide),hxs]
  generalize ringF p t i=fr at *
  generalize ringK A.s.geo s i=k at *
  refine hy [.int .i64 (k:Int),.int .i64 fr] W K' rfl j12 ?_
  refine ⟨_,rfl,_,rfl,j12,?_⟩
  have ml:=Mod.putObj W (w7.heap.size+1) (.loop { r0 with state:=.busy })
  have hlb:=putObj_at (o:=.loop { r0 with state:=.busy }) j12
  have far:∀ R',Sb R R' W2->∀ q,w.heap.size<=q->q<W2.heap.size->¬ R' q:=hnR
  have nl:¬ R' (w7.heap.size+1):=hnR R' j2 _ (by omega) (by omega)
  have t1:=j1.own ml nl (by omega)
  have zl:=ml.size
  have c1:Mod R w _:=own j3 ml (by omega)
  have y1:=k1.keep ml (nel _ (by omega))
  have y2:=k2.keep ml (nel _ (by omega))
  have y3:=k3.keep ml (nel _ (by omega))
  have y4:=k4.keep ml (nel _ (by omega))
  have y5:=k5.keep ml (nel _ (by omega))
  have y8:=j8.keep ml (nel _ (by omega))
  have y9:=j9.keep ml (nel _ (by omega))
  have y10:=j10.keep ml (nel _ (by omega))
  have y11:=ml.keep j11 (nel _ (by omega))
  generalize W.putObj (w7.heap.size+1) (.loop { r0 with state:=.busy })=W3 at *
  refine ⟨_,y1.at.one sc_palloc,_,rfl,_,t1.pv,aHead_c t1 fun w9 R9 m9 s9 k9 _=>?_⟩
  rw [hx1]
  have z9:=m9.size
  have S9:Sb R R9 W2:=j2.trans s9 (by omega)
  obtain ⟨w10,b1,b2,b3,b4⟩:=new_u (P:=Tryz.prog) (w:=w9) (T:=119) zero_head
  obtain ⟨w11,u1,u2,u3,u4⟩:=b2.put (T:=119) (vs:=hV x) agg_head rfl (hV_len hx5) (one_hV _)
  have m11:Mod No w9 (Go.Den.drew w11):=(b3.own u3 (Nat.le_refl _)).drew
  have M11:Mod R' W3 (Go.Den.drew w11):=m9.no m11
  have k11:=k9.nos m11
  have f1:=y1.keep M11 (hnR R' j2 _ (by omega) (by omega))
  have f2:=y2.keep M11 (hnR R' j2 _ (by omega) (by omega))
  refine ⟨_,_,rfl,_,w10,b1,w11,u1,ff rfl ⟨f0,f2.at.fld sc_find hf0,_,f1.at.one sc_palloc,_,rfl,_,k11.pv,_,u2.drew.at.all agg_head (hV_len hx5),aGeo_c k11 fun w16 m16=>⟨_,rfl,(f2.keep m16 id).at.fld sc_find hf0,(u2.drew.keep m16 id).at.all agg_head (hV_len hx5),findX_c hx5 (fun w17 m17=>⟨_,rfl,?_⟩) hf0⟩⟩⟩
  have M17:Mod R' W3 w17:=(M11.no m16).no m17
  have k17:=(k11.nos m16).nos m17
  have z17:=M17.size
  have C17:Mod R w w17:=c1.trans M17 fun z hz e=>(j2 z e).resolve_right (by omega)
  have g1:=y1.keep M17 (hnR R' j2 _ (by omega) (by omega))
  have g2:=y2.keep M17 (hnR R' j2 _ (by omega) (by omega))
  have g3:=y3.keep M17 (hnR R' j2 _ (by omega) (by omega))
  have g4:=y4.keep M17 (hnR R' j2 _ (by omega) (by omega))
  have g5:=y5.keep M17 (hnR R' j2 _ (by omega) (by omega))
  have g8:=y8.keep M17 (hnR R' j2 _ (by omega) (by omega))
  have g9:=y9.keep M17 (hnR R' j2 _ (by omega) (by omega))
  have g10:=y10.keep M17 (hnR R' j2 _ (by omega) (by omega))
  have g11:=M17.keep y11 (hnR R' j2 _ (by omega) (by omega))
  have gl:=M17.keep hlb (hnR R' j2 _ (by omega) (by omega))
  refine cond_of (fun hb=>?_) (fun hb=>?_)
  ·have hb:=of_decide_eq_true hb
   rw [if_pos (by omega)] at hto
   have hto:=takeTo_mono hto (n:=n) (by omega)
   refine ⟨_,g1.at.one sc_palloc,_,build_spot _ _,_,g2.at.all agg_heads (len_xV kd),?_⟩
   refine turn_c k17 hkl hlast fun w18 R18 m18 s18 k18=>⟨_,_,rfl,_,build_spot _ _,?_⟩
   have z18:=m18.size
   have S18:Sb R R18 W2:=S9.trans s18 (by omega)
   have C18:Mod R w w18:=C17.trans m18 fun z hz e=>(S9 z e).resolve_right (by omega)
   have l3:=g3.keep m18 (hnR R9 S9 _ (by omega) (by omega))
   have l4:=g4.keep m18 (hnR R9 S9 _ (by omega) (by omega))
   have l5:=g5.keep m18 (hnR R9 S9 _ (by omega) (by omega))
   have l11:=m18.keep g11 (hnR R9 S9 _ (by omega) (by omega))
   have ll:=m18.keep gl (hnR R9 S9 _ (by omega) (by omega))
   obtain ⟨w19,v1,v2,v3,v4⟩:=l3.put (T:=101) (vs:=pV ((k:Int),findX kd A.s.geo x fr)) agg_spot rfl rfl (one_pV _)
   obtain ⟨w20,r1,r2,r3,r4⟩:=(l4.keep v3 (by show ¬ w.heap.size+4=w.heap.size+3; omega)).put1 (P:=Tryz.prog) (T:=2) (v:=.int .i64 (turnA kd A k (findX kd A.s.geo x fr) true).2.1) sc_i64 rfl
   obtain ⟨w21,o1,o2,o3,o4⟩:=((l5.keep v3 (by show ¬ w.heap.size+5=w.heap.size+3; omega)).keep r3 (by show ¬ w.heap.size+5=w.heap.size+4; omega)).put1 (P:=Tryz.prog) (T:=24) (v:=.int .i64 (turnA kd A k (findX kd A.s.geo x fr) true).2.2) sc_errno rfl
   refine ⟨w19,v1,w20,r1,w21,o1,?_,?_⟩
   ·exact o3.keep (r3.keep (v3.keep ll (by show ¬ w7.heap.size+1=w.heap.size+3; omega)) (by show ¬ w7.heap.size+1=w.heap.size+4; omega)) (by show ¬ w7.heap.size+1=w.heap.size+5; omega)
   show K' (.bool false) (w21.putObj (w7.heap.size+1) (.loop { r0 with state:=.done,pending:=some .ret }))
   have hl21:=o3.keep (r3.keep (v3.keep ll (by show ¬ w7.heap.size+1=w.heap.size+3; omega)) (by show ¬ w7.heap.size+1=w.heap.size+4; omega)) (by show ¬ w7.heap.size+1=w.heap.size+5; omega)
   have mf:=Mod.putObj w21 (w7.heap.size+1) (.loop { r0 with state:=.done,pending:=some .ret })
   have zf:=mf.size
   have nR:=fun q h1 h2=>hnR R18 S18 q h1 h2
   refine hF _ ⟨k,_,hto,R18,(((k18.own v3 (nR _ (by omega) (by omega)) (by omega)).own r3 (nR _ (by omega) (by omega)) (by omega)).own o3 (nR _ (by omega) (by omega)) (by omega)).own mf (nR _ (by omega) (by omega)) (by omega),S18,own (own (own (own C18 v3 (by omega)) r3 (by omega)) o3 (by omega)) mf (by omega),by omega,?_,?_,?_,?_,putObj_at hl21⟩
   ·exact ((v2.keep r3 (by show ¬ w.heap.size+3=w.heap.size+4; omega)).keep o3 (by show ¬ w.heap.size+3=w.heap.size+5; omega)).keep mf (nel _ (by omega))
   ·exact (r2.keep o3 (by show ¬ w.heap.size+4=w.heap.size+5; omega)).keep mf (nel _ (by omega))
   ·exact o2.keep mf (nel _ (by omega))
   ·exact mf.keep (o3.keep (r3.keep (v3.keep l11 (by show ¬ w7.heap.size=w.heap.size+3; omega)) (by show ¬ w7.heap.size=w.heap.size+4; omega)) (by show ¬ w7.heap.size=w.heap.size+5; omega)) (nel _ (by omega))
  ·have hb:=of_decide_eq_false hb
   rw [if_neg (by omega)] at hto
   refine ⟨gl,?_⟩
   show K' (.bool true) (w17.putObj (w7.heap.size+1) (.loop { r0 with state:=LoopState.ready,pending:=none }))
   rw [er]
   have mf:=Mod.putObj w17 (w7.heap.size+1) (.loop r0)
   have zf:=mf.size
   refine hT _ ⟨hto,R9,k17.own mf (hnR R9 S9 _ (by omega) (by omega)) (by omega),S9,own C17 mf (by omega),by omega,⟨g1.keep mf (nel _ (by omega)),g2.keep mf (nel _ (by omega)),g3.keep mf (nel _ (by omega)),g4.keep mf (nel _ (by omega)),g5.keep mf (nel _ (by omega))⟩,⟨g8.keep mf (nel _ (by omega)),g9.keep mf (nel _ (by omega)),g10.keep mf (nel _ (by omega))⟩,mf.keep g11 (nel _ (by omega)),putObj_at gl⟩
 ·have tk:=hk
  unfold takeA at tk
  rw [hnn] at tk
  rintro W (⟨j0,R',j1,j2,j3,j4,⟨k1,k2,k3,k4,k5⟩,_,j11,j12⟩ | ⟨k,j,j0,R',j1,j2,j3,j4,k3,k4,k5,j11,j12⟩)
  ·refine ⟨.ready,none,by rw [er]; exact j12,by simp,?_⟩
   have ml:=Mod.putObj W (w7.heap.size+1) (.loop { r0 with state:=.exhausted,pending:=none })
   have t1:=j1.own ml (hnR R' j2 _ (by omega) (by omega)) (by omega)
   have c1:=own j3 ml (by omega)
   have zl:=ml.size
   have y3:=k3.keep ml (nel _ (by omega))
   have y4:=k4.keep ml (nel _ (by omega))
   have y5:=k5.keep ml (nel _ (by omega))
   have y11:=ml.keep j11 (nel _ (by omega))
   show ∃ g63:Array Value,_
   generalize W.putObj (w7.heap.size+1) (.loop { r0 with state:=.exhausted,pending:=none })=W3 at *
   obtain ⟨w19,v1,v2,v3,v4⟩:=y3.put (T:=101) (vs:=pV (0,0)) agg_spot rfl rfl (one_pV _)
   obtain ⟨w20,r1,r2,r3,r4⟩:=(y4.keep v3 (by show ¬ w.heap.size+4=w.heap.size+3; omega)).put1 (P:=Tryz.prog) (T:=2) (v:=.int .i64 0) sc_i64 rfl
   obtain ⟨w21,o1,o2,o3,o4⟩:=((y5.keep v3 (by show ¬ w.heap.size+5=w.heap.size+3; omega)).keep r3 (by show ¬ w.heap.size+5=w.heap.size+4; omega)).put1 (P:=Tryz.prog) (T:=24) (v:=.int .i64 26) sc_errno rfl
   have mf:=Mod.putObj w21 w7.heap.size (.deferred none)
   have nd:∀ q,q<w7.heap.size->¬ (fun x=>x=w7.heap.size) q:=fun q hq e=>by have e:q=w7.heap.size:=e; omega
   refine ⟨_,build_spot0,w19,v1,w20,r1,w21,o1,?_,_,(((v2.keep r3 ?_).keep o3 ?_).keep mf (nd _ (by omega))).at.all agg_spot rfl,_,((r2.keep o3 ?_).keep mf (nd _ (by omega))).at.one sc_i64,_,(o2.keep mf (nd _ (by omega))).at.one sc_errno,?_⟩
   ·exact o3.keep (r3.keep (v3.keep y11 (by show ¬ w7.heap.size=w.heap.size+3; omega)) (by show ¬ w7.heap.size=w.heap.size+4; omega)) (by show ¬ w7.heap.size=w.heap.size+5; omega)
   ·show ¬ w.heap.size+3=w.heap.size+4; omega
   ·show ¬ w.heap.size+3=w.heap.size+5; omega
   ·show ¬ w.heap.size+4=w.heap.size+5; omega
   rw [j0] at tk
   have nR:=fun q h1 h2=>hnR R' j2 q h1 h2
   exact tk _ R' (own (own (own (own c1 v3 (by omega)) r3 (by omega)) o3 (by omega)) mf (by omega)) (j2.up (by omega)) ((((t1.own v3 (nR _ (by omega) (by omega)) (by omega)).own r3 (nR _ (by omega) (by omega)) (by omega)).own o3 (nR _ (by omega) (by omega)) (by omega)).own mf (nR _ (by omega) (by omega)) (by omega))
  ·refine ⟨.done,some .ret,j12,by simp,?_⟩
   have ml:=Mod.putObj W (w7.heap.size+1) (.loop { r0 with state:=.exhausted,pending:=some .ret })
   have t1:=j1.own ml (hnR R' j2 _ (by omega) (by omega)) (by omega)
   have c1:=own j3 ml (by omega)
   have zl:=ml.size
   have y3:=k3.keep ml (nel _ (by omega))
   have y4:=k4.keep ml (nel _ (by omega))
   have y5:=k5.keep ml (nel _ (by omega))
   have y11:=ml.keep j11 (nel _ (by omega))
   show (World.heap _)[_]?=_/\_
   generalize W.putObj (w7.heap.size+1) (.loop { r0 with state:=.exhausted,pending:=some .ret })=W3 at *
   have mf:=Mod.putObj W3 w7.heap.size (.deferred none)
   have nd:∀ q,q<w7.heap.size->¬ (fun x=>x=w7.heap.size) q:=fun q hq e=>by have e:q=w7.heap.size:=e; omega
   refine ⟨y11,_,(y3.keep mf (nd _ (by omega))).at.all agg_spot rfl,_,(y4.keep mf (nd _ (by omega))).at.one sc_i64,_,(y5.keep mf (nd _ (by omega))).at.one sc_errno,?_⟩
   rw [j0] at tk
   exact tk _ R' (own c1 mf (by omega)) (j2.up (by omega)) (t1.own mf (hnR R' j2 _ (by omega) (by omega)) (by omega))
end
end Go.Proofs.YtelhlihjihklbaaGreat
end
section
open Go Go.Den Go.Proofs
namespace Go.Proofs.YtelhlihjihklbaaGreat
theorem spB_in {g:Gm} (hg:gOk g=true) (b:Int):0<=(spB g b).1/\(spB g b).1<g.gs/\0<=(spB g b).2.1/\(spB g b).2.1<128:=by
 obtain ⟨_,g2,g3,_⟩:=gOk_iff.1 hg
 unfold spB
 by_cases h:(gKind g b).1=4
 ·rw [if_neg (by omega)]
  obtain ⟨_,_,_,h3,h4,h5,h6⟩:=gKind_4 h
  have ht:=gTabs_b (g:=g)
  have e:(gHead g (gKind g b).2).1=2+(gKind g b).2*g.gr:=by unfold gHead; rw [if_pos hg,if_pos ⟨h3,h4⟩]
  refine ⟨h3,h4,?_,?_⟩ <;> (simp only; rw [e]; omega)
 ·rw [if_pos h]; exact ⟨Int.le_refl _,by show (0:Int)<_; omega,Int.le_refl _,by decide⟩
theorem spS_in {g:Gm} (hg:gOk g=true) (n:Int):0<=(spS g n).1/\(spS g n).1<g.gs/\0<=(spS g n).2.1/\(spS g n).2.1<128:=by
 obtain ⟨_,_,g3,_,g5,g6,_⟩:=gOk_iff.1 hg
 unfold spS
 by_cases h:gOf g n<0
 ·rw [if_pos h]; exact ⟨Int.le_refl _,by show (0:Int)<_; omega,Int.le_refl _,by decide⟩
 ·rw [if_neg h]
  obtain ⟨_,h0,h1,e⟩:=gOf_in (g:=g) (n:=n) (by omega)
  have hi:=slot_in hg h0 h1
  rw [e]
  exact ⟨hi.1,hi.2.1,hi.2.2.1,by show n % g.no<128; omega⟩
section
variable {w w':World} {R R':Nat->Prop} {a v d:Nat} {A:Az} {K:Value->World->Prop}
theorem Ao.hds (h:Ao R w a v d A) {k:Nat} {x:Hd} (hx:A.hs[k]?=some x):(k:Int)<A.s.geo.gs/\A.hs.getD k hZ=x/\hOk A.s.geo x=true/\x.no=k/\hWf x:=by
 obtain ⟨_,h2,h3,h4⟩:=h.hd.2.2.2 k x hx
 exact ⟨h.hd.lt hx,by rw [List.getD_eq_getElem?_getD,hx]; rfl,h2,h3,h4⟩
theorem findX_use {kd:Bool} {g:Gm} {h:Hd} {f:Int} (hw:hWf h) (e:0<=findX kd g h f):(useX kd g h (findX kd g h f) true).2=0/\findX kd g h f<128:=by
 cases kd with
 | true =>
  obtain ⟨h1,h2⟩:=findBk_use (g:=g) hw e
  refine ⟨h1,?_⟩
  have e:0<=findBk g h f:=e
  show findBk g h f<128
  by_cases ho:hOk g h=true
  ·obtain ⟨g1,_⟩:=hOk_iff.1 ho
   obtain ⟨_,g2,_⟩:=gOk_iff.1 g1
   omega
  ·unfold findBk at e; rw [if_neg ho] at e; omega
 | false =>
  obtain ⟨h1,h2⟩:=findSl_use (g:=g) hw e
  refine ⟨h1,?_⟩
  have e:0<=findSl g h f:=e
  show findSl g h f<128
  by_cases ho:hOk g h=true
  ·obtain ⟨g1,_⟩:=hOk_iff.1 ho
   obtain ⟨_,_,_,_,_,g2,_⟩:=gOk_iff.1 g1
   omega
  ·unfold findSl at e; rw [if_neg ho] at e; omega
theorem take_in (h:Ao R w a v d A) {kd t:Bool} {s p:Int} {k:Nat} {j:Int}:∀ {n:Nat},takeTo A.s.geo A.hs A.fz (findX kd A.s.geo) s p t n=some (k,j)->(k:Int)<A.s.geo.gs/\0<=j/\j<128/\A.fz k=false/\(useX kd A.s.geo (A.hs.getD k hZ) j true).2=0
 | 0,e=>by cases e
 | n+1,e=>by
  have e:(match takeTo A.s.geo A.hs A.fz (findX kd A.s.geo) s p t n with | some x=>some x | none=>takeAt A.s.geo A.hs A.fz (findX kd A.s.geo) s p t n)=some (k,j):=e
  cases ht:takeTo A.s.geo A.hs A.fz (findX kd A.s.geo) s p t n with
  | some x =>
   rw [ht] at e
   have e:x=(k,j):=by simpa using e
   rw [e] at ht
   exact take_in h ht
  | none =>
   rw [ht] at e
   have e:takeAt A.s.geo A.hs A.fz (findX kd A.s.geo) s p t n=some (k,j):=e
   unfold takeAt at e
   by_cases hf:A.fz (ringK A.s.geo s n)=true
   ·rw [if_pos hf] at e; cases e
   ·rw [if_neg hf] at e
    cases hx:A.hs[ringK A.s.geo s n]? with
    | none=>rw [hx] at e; cases e
    | some x =>
     rw [hx] at e
     simp only at e
     obtain ⟨h1,h2,h3,h4,h5⟩:=h.hds hx
     by_cases h0:0<=findX kd A.s.geo x (ringF p t n)
     ·rw [if_pos h0] at e
      cases e
      obtain ⟨u1,u2⟩:=findX_use h5 h0
      exact ⟨h1,h0,u2,by simpa using hf,by rw [h2]; exact u1⟩
     ·rw [if_neg h0] at e; cases e
def blockA (A:Az) (b:Int):Az×Int×Int×Int :=
 match takeTo A.s.geo A.hs A.fz (findX true A.s.geo) (spB A.s.geo b).1 (spB A.s.geo b).2.1 (spB A.s.geo b).2.2 A.s.geo.gs.toNat with
 | some x=>(sethA A x.1 (useX true A.s.geo (A.hs.getD x.1 hZ) x.2 true).1,2+x.1*A.s.geo.gr+x.2,(A.V.last:Int)+1,0)
 | none=>(A,0,0,26)
def slotA (A:Az) (n:Int):Az×Int×Int×Int :=
 match takeTo A.s.geo A.hs A.fz (findX false A.s.geo) (spS A.s.geo n).1 (spS A.s.geo n).2.1 (spS A.s.geo n).2.2 A.s.geo.gs.toNat with
 | some x=>(sethA A x.1 (useX false A.s.geo (A.hs.getD x.1 hZ) x.2 true).1,x.1*A.s.geo.no+x.2,(A.V.last:Int)+1,0)
 | none=>(A,0,0,26)
theorem takeA_eq (h:Ao R w a v d A) (kd t:Bool) (s p:Int):takeA kd A s p t=match takeTo A.s.geo A.hs A.fz (findX kd A.s.geo) s p t A.s.geo.gs.toNat with
 | some x=>(sethA A x.1 (useX kd A.s.geo (A.hs.getD x.1 hZ) x.2 true).1,((x.1:Int),x.2),(A.V.last:Int)+1,0)
 | none=>(A,(0,0),0,26):=by
 unfold takeA
 cases ht:takeTo A.s.geo A.hs A.fz (findX kd A.s.geo) s p t A.s.geo.gs.toNat with
 | none=>rfl
 | some x =>
  obtain ⟨_,_,_,_,e⟩:=take_in h (k:=x.1) (j:=x.2) ht
  simp only
  unfold turnA
  rw [if_neg (by rw [e]; exact fun e=>e rfl)]
theorem aBlock_c {b:Int} (h63:b<=9223372036854775807) (h:Ao R w a v d A) (hlast:A.V.last+1<=1000000)
  (hk:∀ w' R',Mod R w w'->Sb R R' w->Ao R' w' a v d (blockA A b).1->K (.tuple #[.int .i64 (blockA A b).2.1,.int .i64 (blockA A b).2.2.1,.int .i64 (blockA A b).2.2.2]) w') :
  Cal Tryz.prog F_alloc_Alloc_Block #[.pointer (some ⟨a,0,none⟩),.int .i64 b] w K:=by
 apply C_alloc_Alloc_Block
 unfold D_alloc_Alloc_Block
 have hg:=h.ok
 obtain ⟨s1,s2,s3,s4⟩:=spB_in hg b
 have hda:=h.dlt
 refine ff rfl (aBlk_c h63 h fun w1 m1=>⟨_,_,rfl,?_⟩)
 obtain ⟨w2,b1,b2,b3,b4⟩:=new_u (P:=Tryz.prog) (w:=w1) (T:=101) zero_spot
 obtain ⟨w3,c1,c2,c3,c4⟩:=b2.put (T:=101) (vs:=pV ((spB A.s.geo b).1,(spB A.s.geo b).2.1)) agg_spot rfl rfl (one_pV _)
 have z1:=m1.size
 have M3:Mod No w (Go.Den.drew w3):=(m1.no (b3.own c3 (Nat.le_refl _))).drew
 refine ⟨_,w2,b1,w3,c1,_,c2.drew.at.all agg_spot rfl,aBlocks_c fun w4 m4=>⟨_,rfl,(c2.drew.keep m4 id).at.all agg_spot rfl,?_⟩⟩
 have M4:=M3.no m4
 have q4:=c2.drew.keep m4 id
 have zq:=c2.drew.lt
 have z4:=m4.size
 have hq:w1.heap.size<w4.heap.size:=q4.lt
 refine take_c (h.nos M4) ⟨s1,s2⟩ ⟨s3,by omega⟩ hlast fun w5 R5 m5 s5 h5=>⟨_,_,_,rfl,?_⟩
 have nR:¬ R w1.heap.size:=fun e=>by have:=h.lt _ e; omega
 have nR5:¬ R5 w1.heap.size:=fun e=>by
  rcases s5 _ e with e | e
  ·exact nR e
  ·omega
 have M5:Mod R w w5:=(M4.mono fun _ _ e=>e.elim).trans m5 fun x _ e=>e
 have S5:Sb R R5 w:=s5.up (M4.size)
 have hT:=takeA_eq h true (spB A.s.geo b).2.2 (spB A.s.geo b).1 (spB A.s.geo b).2.1
 have z5:=m5.size
 obtain ⟨w6,e1,e2,e3,e4⟩:=(q4.keep m5 nR).put (T:=101) (vs:=pV (takeA true A (spB A.s.geo b).1 (spB A.s.geo b).2.1 (spB A.s.geo b).2.2).2.1) agg_spot rfl rfl (one_pV _)
 have h6:=h5.own e3 nR5 (by omega)
 have M6:Mod R w w6:=M5.trans e3 fun z hz e=>by have e:z=w1.heap.size:=e; omega
 refine ⟨w6,e1,?_⟩
 unfold blockA at hk
 rw [hT] at h6 e2 |-
 cases ht:takeTo A.s.geo A.hs A.fz (findX true A.s.geo) (spB A.s.geo b).1 (spB A.s.geo b).2.1 (spB A.s.geo b).2.2 A.s.geo.gs.toNat with
 | none =>
  rw [ht] at hk h6
  exact tt rfl (hk w6 R5 M6 S5 h6)
 | some x =>
  rw [ht] at hk h6 e2
  obtain ⟨i1,i2,i3,_,_⟩:=take_in h (k:=x.1) (j:=x.2) ht
  obtain ⟨p1,p2,p3⟩:=head_pos hg i1
  have hsz:=gSize_b (g:=A.s.geo)
  refine ff rfl ⟨_,rfl,_,(h6.nos (Mod.refl _ _).drew).pv,_,e2.drew.at.fld (v:=.int .i64 (x.1:Int)) sc_int rfl,aGeo_c (h6.nos (Mod.refl _ _).drew) fun w7 m7=>⟨_,rfl,(e2.drew.keep m7 id).at.fld (v:=.int .i64 (x.1:Int)) sc_int rfl,geoHead_c fun w8 m8=>⟨_,_,rfl,_,((e2.drew.keep m7 id).keep m8 id).at.fld (v:=.int .i64 x.2) sc_int rfl,?_⟩⟩⟩
  have eg:gHead (sethA A x.1 (useX true A.s.geo (A.hs.getD x.1 hZ) x.2 true).1).s.geo x.1=(2+x.1*A.s.geo.gr,0):=p1
  rw [eg,wrap64 (x:=2+(x.1:Int)*A.s.geo.gr+x.2) (by omega) (by omega)]
  have m68:Mod No w6 w8:=((Mod.refl No w6).drew.no m7).no m8
  exact hk w8 R5 (M6.no m68) S5 (h6.nos m68)
theorem aSlot_c {n:Int} (h63:n<=9223372036854775807) (h:Ao R w a v d A) (hlast:A.V.last+1<=1000000)
  (hk:∀ w' R',Mod R w w'->Sb R R' w->Ao R' w' a v d (slotA A n).1->K (.tuple #[.int .i64 (slotA A n).2.1,.int .i64 (slotA A n).2.2.1,.int .i64 (slotA A n).2.2.2]) w') :
  Cal Tryz.prog F_alloc_Alloc_Slot #[.pointer (some ⟨a,0,none⟩),.int .i64 n] w K:=by
 apply C_alloc_Alloc_Slot
 unfold D_alloc_Alloc_Slot
 have hg:=h.ok
 obtain ⟨s1,s2,s3,s4⟩:=spS_in hg n
 have hda:=h.dlt
 refine ff rfl (aSlt_c h63 h fun w1 m1=>⟨_,_,rfl,?_⟩)
 obtain ⟨w2,b1,b2,b3,b4⟩:=new_u (P:=Tryz.prog) (w:=w1) (T:=101) zero_spot
 obtain ⟨w3,c1,c2,c3,c4⟩:=b2.put (T:=101) (vs:=pV ((spS A.s.geo n).1,(spS A.s.geo n).2.1)) agg_spot rfl rfl (one_pV _)
 have z1:=m1.size
 have M3:Mod No w (Go.Den.drew w3):=(m1.no (b3.own c3 (Nat.le_refl _))).drew
 refine ⟨_,w2,b1,w3,c1,_,c2.drew.at.all agg_spot rfl,aSlots_c fun w4 m4=>⟨_,rfl,(c2.drew.keep m4 id).at.all agg_spot rfl,?_⟩⟩
 have M4:=M3.no m4
 have q4:=c2.drew.keep m4 id
 have zq:=c2.drew.lt
 have z4:=m4.size
 have hq:w1.heap.size<w4.heap.size:=q4.lt
 refine take_c (h.nos M4) ⟨s1,s2⟩ ⟨s3,by omega⟩ hlast fun w5 R5 m5 s5 h5=>⟨_,_,_,rfl,?_⟩
 have nR:¬ R w1.heap.size:=fun e=>by have:=h.lt _ e; omega
 have nR5:¬ R5 w1.heap.size:=fun e=>by
  rcases s5 _ e with e | e
  ·exact nR e
  ·omega
 have M5:Mod R w w5:=(M4.mono fun _ _ e=>e.elim).trans m5 fun x _ e=>e
 have S5:Sb R R5 w:=s5.up (M4.size)
 have hT:=takeA_eq h false (spS A.s.geo n).2.2 (spS A.s.geo n).1 (spS A.s.geo n).2.1
 have z5:=m5.size
 obtain ⟨w6,e1,e2,e3,e4⟩:=(q4.keep m5 nR).put (T:=101) (vs:=pV (takeA false A (spS A.s.geo n).1 (spS A.s.geo n).2.1 (spS A.s.geo n).2.2).2.1) agg_spot rfl rfl (one_pV _)
 have h6:=h5.own e3 nR5 (by omega)
 have M6:Mod R w w6:=M5.trans e3 fun z hz e=>by have e:z=w1.heap.size:=e; omega
 refine ⟨w6,e1,?_⟩
 unfold slotA at hk
 rw [hT] at h6 e2 |-
 cases ht:takeTo A.s.geo A.hs A.fz (findX false A.s.geo) (spS A.s.geo n).1 (spS A.s.geo n).2.1 (spS A.s.geo n).2.2 A.s.geo.gs.toNat with
 | none =>
  rw [ht] at hk h6
  exact tt rfl (hk w6 R5 M6 S5 h6)
 | some x =>
  rw [ht] at hk h6 e2
  obtain ⟨i1,i2,i3,_,_⟩:=take_in h (k:=x.1) (j:=x.2) ht
  obtain ⟨_,_,g3,g4,g5,g6,_⟩:=gOk_iff.1 hg
  have hp:=prodB (a:=(x.1:Int)) (b:=A.s.geo.no) (m:=16) (n:=64) (by omega) (by omega) (by omega) (by omega)
  have q6:=e2.drew
  refine ff rfl ⟨_,q6.at.fld (v:=.int .i64 (x.1:Int)) sc_int rfl,_,rfl,_,(h6.nos (Mod.refl _ _).drew).pv,_,q6.at.fld (v:=.int .i64 x.2) sc_int rfl,aGeo_c (h6.nos (Mod.refl _ _).drew) fun w7 m7=>⟨_,rfl,(q6.keep m7 id).at.fld (v:=.int .i64 (x.1:Int)) sc_int rfl,(q6.keep m7 id).at.fld (v:=.int .i64 x.2) sc_int rfl,_,field_gno _,?_⟩⟩
  have eg:(sethA A x.1 (useX false A.s.geo (A.hs.getD x.1 hZ) x.2 true).1).s.geo.no=A.s.geo.no:=rfl
  rw [eg,wrap64 (x:=(x.1:Int)*A.s.geo.no) (by omega) (by omega),wrap64 (x:=(x.1:Int)*A.s.geo.no+x.2) (by omega) (by omega)]
  have m68:Mod No w6 w7:=(Mod.refl No w6).drew.no m7
  exact hk w7 R5 (M6.no m68) S5 (h6.nos m68)
end
end Go.Proofs.YtelhlihjihklbaaGreat
end
section
open Go Go.Den Go.Proofs
namespace Go.Proofs.YtelhlihjihklbaaGreat
theorem choose_ok {xs ys:List UInt8} {n:Int} (h:(supChoose xs ys n).2.2=0):sOk (supChoose xs ys n).1=true/\gSize (supChoose xs ys n).1.geo<=n:=by
 have pick:∀ (i:Int) (zs:List UInt8) (b:Sp),(sOk b=true/\gSize b.geo<=n)\/b=sZ->(sOk (supPick i zs n b)=true/\gSize (supPick i zs n b).geo<=n)\/supPick i zs n b=sZ:=by
  intro i zs b hb
  unfold supPick
  split
  ·rename_i h
   exact .inl ⟨(supG_ok h.1).1,h.2.2.1⟩
  ·exact hb
 have hb:=pick 1 ys _ (pick 0 xs sZ (.inr rfl))
 unfold supChoose at *
 by_cases e:supBest xs ys n=sZ
 ·rw [if_pos e] at h; cases h
 ·rw [if_neg e]
  exact hb.resolve_right e
theorem mnt_ok {D:St} (h:(mntS D).2.2=0):gOk (mntS D).1.geo=true/\gSize (mntS D).1.geo<=D.vs.length/\1<=(mntS D).1.gen:=by
 have:=choose_ok h
 exact ⟨(sOk_iff.1 this.1).2,this.2,(sOk_iff.1 this.1).1.1⟩
theorem mnt_no {D:St} (h:(mntS D).2.2=0) (h2:mntOk D (mntS D).1.geo=false):mnt D=(sZ,8):=by
 unfold mnt
 rw [if_neg (by omega),if_neg (by rw [h2]; decide)]
theorem mnt_yes {D:St} (h:(mntS D).2.2=0) (h2:mntOk D (mntS D).1.geo=true):mnt D=((mntS D).1,0):=by
 unfold mnt
 rw [if_neg (by omega),if_pos h2]
theorem build_work:Al (Instr.build 201 #[]) (.agg ⟨[.slice none 0 0]⟩):=fun w=>by kernel_rfl
theorem build_vol (s:Sp) (sp wk:Nat):Al (Instr.build 145 #[(0,.agg ⟨sV s⟩),(1,.pointer (some ⟨sp,0,none⟩)),(2,.pointer (some ⟨wk,0,none⟩)),(3,.int .i64 0)]) (.agg ⟨vV s sp wk 0⟩):=fun w=>by kernel_rfl
section
variable {w0 wb w w':World} {R R0:Nat->Prop} {N v d sb mb sc:Nat} {L:List (Int×Value)} {s:Sp} {D:St} {V:Ps} {nx:Int} {K:Value->World->Prop}
theorem ReadC_c (h:DiskIn w R d sb mb sc L D) (hs:Small D) {n:Int} (hk:∀ w' a c,Mod No w w'->Fresh w w' a (rdB D n)->(rdB D n).length<=c->K (.tuple #[.slice a (rdB D n).length c,.int .i64 (errOf D n)]) w'):Cal Tryz.prog F_disk_Disk_Read #[.pointer (some ⟨d,0,none⟩),.int .i64 n] w K:=by
 apply C_disk_Disk_Read
 unfold D_disk_Disk_Read
 refine may_c h ⟨_,rfl,?_⟩
 rcases err_cases (D:=D) n with ⟨he,_⟩ | ⟨he,i,v,rfl,hv,hver⟩
 ·have hb:rdB D n=[]:=by unfold rdB; rw [if_neg (by omega)]
  refine tt (by rw [he]; rfl) ?_
  have:=hk w none 0 (Mod.refl _ _) (.inl ⟨rfl,hb⟩) (by rw [hb]; exact Nat.le_refl _)
  rw [hb] at this; exact this
 ·have hb:rdB D i=lastV v:=by unfold rdB; rw [if_pos he,hver]
  have hll:=h.wf.lastLen hv
  refine ff (by rw [he]; rfl) (last_c h hv (hs v (List.mem_of_getElem? hv)) fun w2 m2=>⟨_,rfl,_,_,alloc_block w2,_,store_new agg_block (by rw [length_u8L,List.length_replicate]) (by simp [hll]) (one_u8L _),_,_,_,slice_block _,?_⟩)
  have:=hk (w2.alloc (.cells ⟨u8L (lastV v)⟩ 278)) (some ⟨w2.heap.size,0,none⟩) 256 (m2.alloc _) (.inr ⟨w2.heap.size,rfl,m2.size,by rw [hb]; exact AtU.new⟩) (by rw [hb,hll]; exact Nat.le_refl _)
  rw [hb,hll,he] at this; exact this
theorem diskV (h:Pz w0 R w v d V):∃ R4 sb mb sc L,DiskIn w R4 d sb mb sc L V.C.D/\Small V.C.D:=by
 obtain ⟨C,eD,eM,hw,rl,c,mo,mm,ca,oa,Lo,Lm,h⟩:=h
 obtain ⟨rl2,m,sb,mb,sc,lc,la,L,mp,hC⟩:=h.cx
 have hD:Ps.C (⟨C,V.last,V.ons⟩:Ps)=C:=rfl
 have hd:=hC.disk
 have hs:=hC.wf.small
 rw [hD,eD] at hd hs
 exact ⟨_,sb,mb,sc,L,hd,hs⟩
theorem Vg.comp {R':Nat->Prop} {w1:World} (h2:∀ x,R' x->R0 x\/wb.heap.size<=x) (hm:Mod R0 wb w1) (k:Vg w1 R' N w' v d s D nx):Vg wb R0 N w' v d s D nx:=by
 obtain ⟨R,sp,wk,k,w0,h1,hv,h3,h4,h5,h6,h7,h8,h9⟩:=k
 have hz:=hm.size
 refine ⟨R,sp,wk,k,w0,h1,hv,⟨h3.1,h3.2.1,h3.2.2.1,?_⟩,fun x hx=>⟨?_,(h4 x hx).2⟩,hm.trans h5 fun x hx e=>(h2 x e).resolve_right (by omega),h6,by omega,h8,h9⟩
 ·rcases h3.2.2.2 with e | e
  ·exact h2 v e
  ·exact .inr (by omega)
 ·rcases (h4 x hx).1 with e | e
  ·exact h2 x e
  ·exact .inr (by omega)
theorem rdB_le (h:WF D) (n:Int):(rdB D n).length<=256:=by
 rcases err_cases (D:=D) n with ⟨he,_⟩ | ⟨he,i,v,rfl,hv,hver⟩
 ·unfold rdB; rw [if_neg (by omega)]; simp
 ·unfold rdB; rw [if_pos he,hver,h.lastLen hv]; exact Nat.le_refl _
set_option maxRecDepth 8000 in
theorem vMount_c (h:DiskIn w R d sb mb sc L D) (hsm:Small D) (hlo:∀ x,R x->w0.heap.size<=x/\x<w.heap.size) (hm0:Mod No w0 w) (hrun:D.left=-1)
  (hk0:(mnt D).2≠0->∀ w',Mod R w w'->K (.tuple #[.pointer none,.int .i64 (mnt D).2]) w')
  (hk:(mnt D).2=0->∀ w' N v,Vg w R N w' v d (mnt D).1 D (nextTo D (mnt D).1.geo (gSlots (mnt D).1.geo).toNat+1)->K (.tuple #[.pointer (some ⟨v,0,none⟩),.int .i64 0]) w') :
  Cal Tryz.prog F_vol_Mount #[.pointer (some ⟨d,0,none⟩)] w K:=by
 have hlen:=h.wf.lo
 have hhi:=h.wf.hi
 have hwf:=h.wf
 apply C_vol_Mount
 unfold D_vol_Mount
 refine Len_c h ⟨_,rfl,?_⟩
 have e1:(if (1:Int) > (D.vs.length:Int) then (1:Int) else (D.vs.length:Int))=(D.vs.length:Int):=by rw [if_neg (by omega)]
 rw [e1]
 refine qNew_c h hsm hlo hm0 hrun hlen hhi (Nat.le_refl _) fun w2 sp m2 P2=>⟨_,_,rfl,ff rfl ?_⟩
 obtain ⟨R4,sb4,mb4,sc4,L4,hd2,hs2⟩:=diskV P2
 refine ReadC_c hd2 hs2 (n:=0) fun w3 a3 c3 m3 f3 hc3=>⟨_,_,_,_,rfl,?_⟩
 refine ReadC_c (hd2.nos m3) hs2 (n:=1) fun w4 a4 c4 m4 f4 hc4=>⟨_,_,_,_,rfl,?_⟩
 have M24:Mod No w2 w4:=m3.no m4
 refine Len_c (hd2.nos M24) ⟨_,rfl,?_⟩
 have l3:=rdB_le hwf 0
 have l4:=rdB_le hwf 1
 refine supChoose_c (xs:=rdB D 0) (ys:=rdB D 1) rfl hc3 (f3.nos m4).row (by show (rdB D 0).length<=_; omega) rfl hc4 f4.row (by show (rdB D 1).length<=_; omega) fun w6 m6=>⟨_,_,_,rfl,?_⟩
 have M26:=M24.no m6
 show ∃ q10:Addr,_
 obtain ⟨w7,b1,b2,b3,b4⟩:=new_u (P:=Tryz.prog) (w:=w6) (T:=143) zero_sup
 obtain ⟨w8,c1,c2,c3',c4'⟩:=b2.put (T:=143) (vs:=sV (mntS D).1) agg_sup rfl rfl (one_sV _)
 have m8:Mod No w6 w8:=b3.own c3' (Nat.le_refl _)
 refine ⟨_,w7,b1,w8,c1,?_⟩
 rw [bneI]
 refine cond_of (fun he=>?_) (fun he=>?_)
 ·have he:(mntS D).2.2≠0:=of_decide_eq_true he
  have e:mnt D=(sZ,(mntS D).2.2):=by unfold mnt; rw [if_pos he]
  have:=hk0 (by rw [e]; exact he) w8 (((m2.no M26).no m8).mono fun _ _ h=>h.elim)
  rw [e] at this
  exact this
 have he:(mntS D).2.2=0:=Classical.not_not.1 (of_decide_eq_false he)
 obtain ⟨hg,hsz,hgen⟩:=mnt_ok he
 have m8d:Mod No w6 (Go.Den.drew w8):=m8.drew
 refine ⟨_,c2.drew.at.all agg_sup rfl,?_⟩
 apply C_push_New
 unfold D_push_New
 obtain ⟨w9,p1,p2,p3,p4⟩:=box_u (P:=Tryz.prog) (w:=Go.Den.drew w8) (T:=201) (cs:=[.slice none 0 0])
 have q9:AtU w9 w6.heap.size 0 (sV (mntS D).1):=c2.drew.keep p3 id
 refine ⟨_,build_work,_,w9,p1,_,rfl,q9.at.all agg_sup rfl,_,build_vol _ _ _,?_⟩
 obtain ⟨w10,v1,v2,v3,v4⟩:=box_u (P:=Tryz.prog) (w:=w9) (T:=145) (cs:=vV (mntS D).1 sp (Go.Den.drew w8).heap.size 0)
 refine ⟨_,w10,v1,?_⟩
 have M69:Mod No w6 w9:=m8d.no p3
 have M29:Mod No w2 w9:=M26.no M69
 have M210:Mod No w2 w10:=M29.no v3
 have hz2:=m2.size
 have hz6:=M26.size
 have hz9:=M29.size
 have hz69:=M69.size
 have hz0:=hm0.size
 have hlt6:=c2.lt
 have hz8:w8.heap.size<=w9.heap.size:=p3.size
 have hG:∀ x,Gro R w w2 x->x<w2.heap.size:=fun x hx=>by
  rcases hx with hx | hx
  ·have:=(hlo x hx).2; omega
  ·omega
 have X10:Vg w9 (Gro R w w2) w10.heap.size w10 w9.heap.size d (mntS D).1 D 0 :=
  ⟨Gro R w w2,sp,_,_,w0,P2.nos M210,v2,⟨fun e=>by have:=hG _ e; omega,by omega,by omega,.inr (Nat.le_refl _)⟩,fun x hx=>⟨.inl hx,by have:=hG _ hx; omega⟩,v3.mono fun _ _ h=>h.elim,Nat.le_refl _,by omega,by omega,p2.keep v3 id,fun e=>by have:=hG _ e; have:(Go.Den.drew w8).heap.size=w8.heap.size:=rfl; omega,(by have:=p2.lt; omega),(by show _<=w8.heap.size; omega),(by have:=p2.lt; omega),(by show d<=w8.heap.size; have:=(hlo d h.rb).2; omega),(by have:=(hlo d h.rb).2; omega)⟩
 have hq:∀ {w':World} {N:Nat} {nx:Int},Vg w9 (Gro R w w2) N w' w9.heap.size d (mntS D).1 D nx->AtU w' w6.heap.size 0 (sV (mntS D).1):=fun X=>q9.keep X.mod fun e=>by have:=hG _ e; omega
 have back:∀ x,Gro R w w2 x->R x\/w.heap.size<=x:=fun x hx=>by
  rcases hx with hx | hx
  ·exact .inl hx
  ·exact .inr hx.1
 have bm:Mod R w w9:=(m2.no M29).mono fun _ _ h=>h.elim
 have hno:∀ {w':World} {N:Nat} {nx:Int},Vg w9 (Gro R w w2) N w' w9.heap.size d (mntS D).1 D nx->mntOk D (mntS D).1.geo=false->∀ w'',Mod No w' w''->K (.tuple #[.pointer none,.int .i64 8]) w'':=fun X hf w'' m=>by
  have e:=mnt_no he hf
  have:=hk0 (by rw [e]; decide) w'' ((X.comp back bm).mod.no m)
  rw [e] at this
  exact this
 obtain ⟨g1,g2,g3,g4,g5,g6,g7,g8,g9⟩:=gOk_iff.1 hg
 refine ⟨_,(hq X10).at.fld2 sc_int rfl,?_⟩
 refine ⟨fun x w11=>∃ (k N:Nat) (y:Value),(k:Int)<=(mntS D).1.geo.gs/\x=[.int .i64 k,y]/\Vg w9 (Gro R w w2) N w11 w9.heap.size d (mntS D).1 D 0/\∀ j,j<k->headOk D (mntS D).1.geo j=true,fun x _=>((mntS D).1.geo.gs-nI x 0).toNat,
  ⟨0,_,undef,by omega,rfl,X10,fun j hj=>by omega⟩,?_⟩
 rintro x w11 ⟨k,N,y,hk2,rfl,X11,hh⟩
 refine ⟨_,rfl,cond_of (fun hl=>?_) (fun hl=>?_)⟩
 ·have hl:(k:Int)<(mntS D).1.geo.gs:=of_decide_eq_true hl
  refine vHead_c X11 hsz fun w12 X12=>⟨_,_,rfl,?_⟩
  obtain ⟨w13,s1,s2,s3,s4⟩:=new_u (P:=Tryz.prog) (w:=w12) (T:=119) zero_head
  have hwd:=headAt_wf D (mntS D).1.geo k
  obtain ⟨w14,t1,t2,t3,t4⟩:=s2.put (T:=119) (vs:=hV (headAt D (mntS D).1.geo k).1) agg_head rfl (hV_len hwd) (one_hV _)
  have m14:Mod No w12 w14:=s3.own t3 (Nat.le_refl _)
  refine ⟨_,w13,s1,w14,t1,?_⟩
  refine Share.cut (fun z w15=>z=[.bool (!headOk D (mntS D).1.geo k)]/\w15=w14) ?_ ?_
  ·rw [bneI]
   refine cond_of (fun hp=>⟨?_,rfl⟩) (fun hp=>⟨_,t2.at.fld (v:=.int .i64 (headAt D (mntS D).1.geo k).1.no) sc_int rfl,?_,rfl⟩)
   ·have hp:=of_decide_eq_true hp
    have:headOk D (mntS D).1.geo k=false:=by unfold headOk; rw [decide_eq_false fun e=>hp e.1]
    rw [this]; rfl
   ·have hp:=Classical.not_not.1 (of_decide_eq_false hp)
    rw [bneI]
    congr 2
    unfold headOk
    by_cases e:(headAt D (mntS D).1.geo k).1.no=k
    ·rw [decide_eq_false (fun x=>x e),decide_eq_true ⟨hp,e⟩]; rfl
    ·rw [decide_eq_true e,decide_eq_false fun x=>e x.2]; rfl
  rintro z w15 ⟨rfl,rfl⟩
  refine ⟨_,rfl,cond_of (fun hp=>?_) (fun hp=>?_)⟩
  ·refine hno X12 ?_ w15 m14
   unfold mntOk
   rw [Bool.and_eq_false_iff]
   left
   rw [List.all_eq_false]
   exact ⟨k,List.mem_range.2 (by omega),by simpa using hp⟩
  ·have hp:headOk D (mntS D).1.geo k=true:=by simpa using hp
   rw [wrap64 (x:=(k:Int)+1) (by omega) (by omega)]
   exact ⟨⟨k+1,_,_,by omega,rfl,X12.nos m14,fun j hj=>by
    by_cases e:j=k
    ·rw [e]; exact hp
    ·exact hh j (by omega)⟩,by simp [nI,nth]; omega⟩
 have hl:(k:Int)=(mntS D).1.geo.gs:=by have:=of_decide_eq_false hl; omega
 refine vInode_c (by omega) X11 hsz fun w16 X16=>⟨_,_,rfl,?_⟩
 obtain ⟨w17,s1,s2,s3,s4⟩:=new_u (P:=Tryz.prog) (w:=w16) (T:=218) zero_ino
 have hwd:=slotAt_wf D (mntS D).1.geo 1
 obtain ⟨w18,t1,t2,t3,t4⟩:=s2.put (T:=218) (vs:=nV (slotAt D (mntS D).1.geo 1).1) agg_ino rfl (nV_len hwd) (one_nV _)
 have m18:Mod No w16 w18:=s3.own t3 (Nat.le_refl _)
 refine ⟨_,w17,s1,w18,t1,?_⟩
 refine Share.cut (fun z w19=>z=[.bool (!rootOk D (mntS D).1.geo)]/\w19=w18) ?_ ?_
 ·rw [bneI]
  refine cond_of (fun hp=>⟨?_,rfl⟩) (fun hp=>⟨_,t2.at.fld (v:=.int .i64 (slotAt D (mntS D).1.geo 1).1.kind) sc_int rfl,?_,rfl⟩)
  ·have hp:=of_decide_eq_true hp
   have:rootOk D (mntS D).1.geo=false:=by unfold rootOk; rw [decide_eq_false fun e=>hp e.1]
   rw [this]; rfl
  ·have hp:=Classical.not_not.1 (of_decide_eq_false hp)
   rw [bneI]
   congr 2
   unfold rootOk
   by_cases e:(slotAt D (mntS D).1.geo 1).1.kind=2
   ·rw [decide_eq_false (fun x=>x e),decide_eq_true ⟨hp,e⟩]; rfl
   ·rw [decide_eq_true e,decide_eq_false fun x=>e x.2]; rfl
 rintro z w19 ⟨rfl,rfl⟩
 refine ⟨_,rfl,cond_of (fun hp=>?_) (fun hp=>?_)⟩
 ·refine hno X16 ?_ w19 m18
  unfold mntOk
  rw [Bool.and_eq_false_iff]
  right
  simpa using hp
 have hp:rootOk D (mntS D).1.geo=true:=by simpa using hp
 have hok:mntOk D (mntS D).1.geo=true:=by
  unfold mntOk
  rw [hp,Bool.and_true,List.all_eq_true]
  intro j hj
  exact hh j (by have:=List.mem_range.1 hj; omega)
 have eM:=mnt_yes he hok
 have X19:=X16.nos m18
 refine ⟨_,(hq X19).at.fldA agg_geo (by show 4<=4; omega) rfl,geoSlots_c fun w20 m20=>⟨_,rfl,?_⟩⟩
 have hsl:=gSlots_b (g:=(mntS D).1.geo)
 refine ⟨fun x w21=>∃ n N:Nat,(n:Int)<=gSlots (mntS D).1.geo/\x=[.int .i64 n]/\Vg w9 (Gro R w w2) N w21 w9.heap.size d (mntS D).1 D (nextTo D (mntS D).1.geo n),fun x _=>(gSlots (mntS D).1.geo-nI x 0).toNat,
  ⟨0,_,by omega,rfl,X19.nos m20⟩,?_⟩
 rintro x w21 ⟨n,N,hn,rfl,X21⟩
 refine ⟨_,rfl,cond_of (fun hl2=>?_) (fun hl2=>?_)⟩
 ·have hl2:(n:Int)<gSlots (mntS D).1.geo:=of_decide_eq_true hl2
  refine vInode_c (by omega) X21 hsz fun w22 X22=>⟨_,_,rfl,?_⟩
  obtain ⟨w23,s1,s2,s3,s4⟩:=new_u (P:=Tryz.prog) (w:=w22) (T:=218) zero_ino
  have hwd:=slotAt_wf D (mntS D).1.geo n
  obtain ⟨w24,t1,t2,t3,t4⟩:=s2.put (T:=218) (vs:=nV (slotAt D (mntS D).1.geo n).1) agg_ino rfl (nV_len hwd) (one_nV _)
  have m24:Mod No w22 w24:=s3.own t3 (Nat.le_refl _)
  have X24:=(X22.nos m24).nos (Mod.refl No w24).drew
  obtain ⟨w25,u1,u2⟩:=X24.set (if (slotAt D (mntS D).1.geo n).1.id > nextTo D (mntS D).1.geo n then (slotAt D (mntS D).1.geo n).1.id else nextTo D (mntS D).1.geo n)
  refine ⟨_,w23,s1,w24,t1,_,rfl,_,X24.next,_,t2.drew.at.fld (v:=.int .i64 (slotAt D (mntS D).1.geo n).1.id) sc_i64 rfl,_,rfl,w25,u1,?_⟩
  rw [wrap64 (x:=(n:Int)+1) (by omega) (by omega)]
  exact ⟨⟨n+1,_,by omega,rfl,u2⟩,by simp [nI,nth]; omega⟩
 have hl2:(n:Int)=gSlots (mntS D).1.geo:=by have:=of_decide_eq_false hl2; omega
 have hnb:=nextTo_b D (mntS D).1.geo n
 have hnn:=nextTo_nn D (mntS D).1.geo n
 obtain ⟨w26,u1,u2⟩:=X21.set (nextTo D (mntS D).1.geo n+1)
 refine ⟨_,rfl,_,X21.next,_,rfl,w26,?_,?_⟩
 ·rw [wrap64 (by omega) (by omega)]; exact u1
 have:=hk (by rw [eM]) w26 N w9.heap.size
 rw [eM] at this
 refine this ?_
 show Vg w R N w26 w9.heap.size d (mntS D).1 D (nextTo D (mntS D).1.geo (gSlots (mntS D).1.geo).toNat+1)
 rw [<- hl2,Int.toNat_natCast]
 exact u2.comp back bm
end
end Go.Proofs.YtelhlihjihklbaaGreat
end
section
open Go Go.Den Go.Proofs
namespace Go.Proofs.YtelhlihjihklbaaGreat
section
variable {w0 w w':World} {R:Nat->Prop} {rl:Nat->Nat} {rp r vb vc bc lc:Nat} {hs:List (Nat×Nat)} {ba la:Option Addr} {H:List (Option Addr×Nat)} {S:Rs} {K:Value->World->Prop}
theorem rRead11C_c (h:RIn w0 R rl w rp r vb vc hs ba bc la lc H S) {n:Int} (hk0:¬ (0<=n/\n<S.base.length)->K (.tuple #[.slice none 0 0,.int .i64 3]) w)
  (hk:∀ b:Nat,n=b->b<S.base.length->∀ w' a c,Mod No w w'->Row w' a (u8L (rdR S b fun x=>decide (x.b=b)))->256<=c->K (.tuple #[.slice a 256 c,.int .i64 0]) w') :
  Cal Tryz.prog F_leveeref11_Store_Read #[.pointer (some ⟨rp,0,none⟩),.int .i64 n] w K:=by
 have hlen:=h.wf.llen
 have hlast:=h.wf.last
 apply C_leveeref11_Store_Read
 unfold D_leveeref11_Store_Read
 refine rthere_c h ⟨_,rfl,cond_of (fun hb=>?_) (fun hb=>?_)⟩
 ·exact hk0 (by simp only [Bool.not_eq_true',decide_eq_false_iff_not] at hb; exact hb)
 have hb:0<=n/\n<S.base.length:=by simp only [Bool.not_eq_false',decide_eq_true_eq] at hb; exact hb
 obtain ⟨b,rfl⟩:=Int.eq_ofNat_of_zero_le hb.1
 have hbl:b<S.base.length:=by omega
 obtain ⟨g,hg,hix,hld,hl256⟩:=h.bas hbl
 obtain ⟨cc,w2,c1,c2,c3,c4⟩:=bytes_run (P:=Tryz.prog) (w:=w) (S:=9) (T:=88) (xs:=S.base[b]) (by kernel_rfl)
 rw [hl256] at c1 c4
 refine ⟨_,rfl,_,_,_,h.lb,_,hix,_,hld,_,_,_,w2,c1,?_⟩
 refine ⟨fun x w3=>∃ (i:Nat) (a:Option Addr) (c:Nat),x=[.slice a 256 c,.int .i64 i]/\i<=S.l.length/\256<=c/\Row w3 a (u8L (withL ((S.base[b]?).getD []) ((S.l.take i).filter fun x=>decide (x.b=b))))/\Mod No w w3/\(∀ q,a=some q->w.heap.size<=q.block),fun x _=>(S.l.length-nI x 1).toNat,
  ⟨0,_,cc,rfl,by omega,c4,by rw [List.getElem?_eq_getElem hbl]; exact .inr ⟨_,_,rfl,c2.at⟩,c3,fun q hq=>by cases hq; exact Nat.le_refl _⟩,?_⟩
 rintro x w3 ⟨i,a,c,rfl,hi,hc,hr,hm,hfr⟩
 have h3:=h.nos hm
 have hz3:=hm.size
 refine ⟨_,rfl,_,rfl,_,_,_,h3.ll,cond_of (fun hb=>?_) (fun hb=>?_)⟩
 ·have hi:i<S.l.length:=by have:=of_decide_eq_true hb; omega
  obtain ⟨g,p,hg,hp,hix,hld,hagg,_⟩:=h3.at (List.getElem?_eq_getElem hi)
  have hd:=h.wf.dat _ (List.getElem_mem hi)
  refine ⟨_,rfl,_,_,_,h3.ll,_,hix,_,hld 1 _ _ (by kernel_rfl) rfl,?_⟩
  rw [wrap64 (x:=(i:Int)+1) (by omega) (by omega)]
  have ht:=rdR_take (S:=S) (b:=b) (f:=fun x=>decide (x.b=b)) hi
  refine Share.dup (cond_of (fun hb=>⟨_,_,_,rfl,_,rfl,_,_,_,h3.ll,_,hix,_,hagg,upon_c (rdR_len h.wf hbl) hd.2 hc hr fun w4 a4 c4 m4 o4=>⟨_,_,_,rfl,?_⟩⟩) (fun hb=>?_))
  ·have hb:S.l[i].b=b:=by
    have:(S.l[i].b:Int)=b:=by simpa using hb
    omega
   rw [if_pos (decide_eq_true hb)] at ht
   refine ⟨⟨i+1,a4,c4,rfl,by omega,o4.cap.1,by rw [ht]; exact o4.rowU.row,hm.no m4,fun q hq=>by have:=(o4.base hq).1; omega⟩,by simp [nI,nth]; omega⟩
  ·have hb:¬ S.l[i].b=b:=fun e=>by rw [e] at hb; simp at hb
   rw [if_neg (by simpa using hb)] at ht
   exact ⟨⟨i+1,a,c,rfl,by omega,hc,by rw [ht]; exact hr,hm,hfr⟩,by simp [nI,nth]; omega⟩
 ·have hi:i=S.l.length:=by have:=of_decide_eq_false hb; omega
  subst hi
  refine ⟨_,_,_,rfl,hk b rfl hbl w3 a c hm ?_ hc⟩
  unfold rdR
  rw [List.take_length] at hr
  exact hr
end
def rvV (s:Sp) (rp wk:Nat) (nx:Int):List Value:=[.pointer (some ⟨rp,0,none⟩),.pointer (some ⟨wk,0,none⟩),.int .i64 s.gen,.int .i64 s.geo.gr,.int .i64 s.geo.no,.int .i64 s.geo.gs,.int .i64 nx]
theorem sc_rst:scal Tryz.prog 75=true:=by kernel_rfl
theorem build_rwork:Al (Instr.build 238 #[]) (.agg ⟨[.slice none 0 0]⟩):=fun w=>by kernel_rfl
theorem build_rvol (s:Sp) (rp wk:Nat):Al (Instr.build 78 #[(0,.pointer (some ⟨rp,0,none⟩)),(1,.pointer (some ⟨wk,0,none⟩)),(2,.int .i64 s.gen),(3,.agg ⟨gV s.geo⟩)]) (.agg ⟨rvV s rp wk 0⟩):=fun w=>by kernel_rfl
def Rg (wb w:World) (v:Nat) (s:Sp) (D:St) (nx:Int):Prop :=
 ∃ w0 R rp wk r,Rx w0 R w rp r (newRs D)/\AtU w v 0 (rvV s rp wk nx)/\(¬ R v/\w0.heap.size<=v/\wb.heap.size<=v)/\Mod No wb w
theorem headAt_bad {D:St} {g:Gm} {k:Int} (h:(headAt D g k).2≠0):(headAt D g k).1=hZ:=by
 unfold headAt at *
 split
 ·rfl
 rename_i h1
 rw [if_neg h1] at h
 unfold hGet at *
 split
 ·rfl
 rename_i h2
 rw [if_neg h2] at h
 split
 ·rfl
 rename_i h3
 rw [if_neg h3] at h
 split
 ·rename_i h4
  rw [if_pos h4] at h
  exact absurd rfl h
 ·rfl
section
variable {w0 wb w w':World} {R R0:Nat->Prop} {v d vb vc:Nat} {hs:List (Nat×Nat)} {s:Sp} {D:St} {nx:Int} {K:Value->World->Prop}
theorem Rg.nos (h:Rg wb w v s D nx) (m:Mod No w w'):Rg wb w' v s D nx:=by
 obtain ⟨w0,R,rp,wk,r,h1,h2,h3,h4⟩:=h
 exact ⟨w0,R,rp,wk,r,h1.nos m,h2.keep m id,h3,h4.no m⟩
theorem Rg.mod (h:Rg wb w v s D nx):Mod No wb w:=by obtain ⟨_,_,_,_,_,_,_,_,h⟩:=h; exact h
theorem Rg.at (h:Rg wb w v s D nx):∃ rp wk,AtU w v 0 (rvV s rp wk nx):=by obtain ⟨_,_,rp,wk,_,_,h,_⟩:=h; exact ⟨rp,wk,h⟩
theorem Rg.wf (h:Rg wb w v s D nx):WF D:=by obtain ⟨_,_,_,_,_,h,_⟩:=h; exact h.wf.2.1
theorem Rg.geo (h:Rg wb w v s D nx):Ru (Instr.loadAt 40 (.pointer (some (Addr.add ⟨v,0,none⟩ 3)))) w (.agg ⟨gV s.geo⟩) w:=by
 obtain ⟨rp,wk,h⟩:=h.at
 exact h.at.fldA agg_geo (by show 6<=7; omega) rfl
theorem Rg.gs (h:Rg wb w v s D nx):Ru (Instr.loadAt 3 (.pointer (some (Addr.add (Addr.add ⟨v,0,none⟩ 3) 2)))) w (.int .i64 s.geo.gs) w:=by
 obtain ⟨rp,wk,h⟩:=h.at
 exact h.at.fld2 sc_int rfl
theorem Rg.next (h:Rg wb w v s D nx):Ru (Instr.loadAt 2 (.pointer (some (Addr.add ⟨v,0,none⟩ 6)))) w (.int .i64 nx) w:=by
 obtain ⟨rp,wk,h⟩:=h.at
 exact h.at.fld sc_i64 rfl
theorem Rg.set (h:Rg wb w v s D nx) (n:Int):∃ w',RuU (Instr.storeAt 2 (.pointer (some (Addr.add ⟨v,0,none⟩ 6))) (.int .i64 n)) w w'/\Rg wb w' v s D n/\Mod (fun x=>x=v) w w':=by
 obtain ⟨w0,R,rp,wk,r,h1,h2,h3,h4⟩:=h
 obtain ⟨w',s1,s2,s3,s4⟩:=h2.putF (P:=Tryz.prog) (T:=2) (j:=6) (v:=.int .i64 n) sc_i64 (by show 6<7; omega) rfl
 refine ⟨w',s1,⟨w0,R,rp,wk,r,h1.keep s3 (fun x hx e=>?_) (fun x hx e=>?_),s2,h3,h4.own s3 h3.2.2⟩,s3⟩
 ·have e:x=v:=e
  rw [e] at hx; exact h3.1 hx
 ·have e:x=v:=e
  have:=h3.2.1; omega
theorem Rg.rd (h:Rg wb w v s D nx) {n:Int} (h0:0<=n) (h1:n<D.vs.length)
  (hk:∀ w' a cc,Mod No w w'->Row w' a (u8L (rdB D n))->(rdB D n).length=256->256<=cc->K (.tuple #[.slice a 256 cc,.int .i64 0]) w') :
  ∃ p:Option Addr,Ru (Instr.loadAt 75 (.pointer (some (Addr.add ⟨v,0,none⟩ 0)))) w (.pointer p) w/\Cal Tryz.prog F_leveeref11_Store_Read #[.pointer p,.int .i64 n] w K:=by
 have hwf:=h.wf
 obtain ⟨w0,R,rp,wk,r,a1,a2,a3,a4⟩:=h
 refine ⟨_,a2.at.fld sc_rst rfl,?_⟩
 obtain ⟨b,rfl⟩:=Int.eq_ofNat_of_zero_le h0
 have hb:b<D.vs.length:=by omega
 obtain ⟨rl,vb,vc,hs,ba,bc,la,lc,H,a1⟩:=a1
 have hbl:(newRs D).base.length=D.vs.length:=by simp [newRs]
 refine rRead11C_c a1 (fun hn=>absurd ⟨by omega,by rw [hbl]; omega⟩ hn) fun b' hb' hlt w' a cc m hrow hcc=>?_
 have:b'=b:=by omega
 subst this
 have e1:rdB D b'=atD D b':=(rd_at D hb).2
 have e2:rdR (newRs D) b' (fun x=>decide (x.b=b'))=atD D b':=by
  unfold rdR newRs
  simp [withL,hb]
 refine hk w' a cc m ?_ ?_ hcc
 ·rw [e1,<- e2]; exact hrow
 ·rw [e1]; unfold atD; rw [ver_at hb]; exact hwf.lastLen (List.getElem?_eq_getElem hb)
theorem rHead_c {k:Int} (h:Rg wb w v s D nx) (hsz:gSize s.geo<=D.vs.length)
  (hk:∀ w' x1 x2,x1.oneCell'=true->x2.oneCell'=true->Mod No w w'->K (.tuple #[.agg ⟨[.int .i64 (headAt D s.geo k).1.no,x1,x2]⟩,.int .i64 (headAt D s.geo k).2]) w'):Cal Tryz.prog F_leveeref13_Vol_Head #[.pointer (some ⟨v,0,none⟩),.int .i64 k] w K:=by
 apply C_leveeref13_Vol_Head
 unfold D_leveeref13_Vol_Head
 obtain ⟨w1,b1,b2,b3,b4⟩:=new_u (P:=Tryz.prog) (w:=w) (T:=183) zero_rhead
 have fin:∀ (w':World) (x1 x2:Value) (n e:Int),x1.oneCell'=true->x2.oneCell'=true->Mod No w1 w'->n=(headAt D s.geo k).1.no->e=(headAt D s.geo k).2->∃ w3:World,RuU (Instr.storeAt 183 (.pointer (some ⟨w.heap.size,0,none⟩)) (.agg ⟨[.int .i64 n,x1,x2]⟩)) w' w3/\∃ gR2:Array Value,Ru (Instr.loadAt 183 (.pointer (some ⟨w.heap.size,0,none⟩))) w3 (.agg gR2) w3/\K (.tuple #[.agg gR2,.int .i64 e]) w3:=fun w' x1 x2 n e o1 o2 m hn he=>by
  obtain ⟨w3,c1,c2,c3,c4⟩:=(b2.keep m id).put (T:=183) (vs:=[.int .i64 n,x1,x2]) agg_rhead rfl rfl (by intro v hv; simp at hv; rcases hv with rfl | rfl | rfl <;> first | rfl | assumption)
  refine ⟨w3,c1,_,c2.at.all agg_rhead rfl,?_⟩
  have:=hk w3 x1 x2 o1 o2 ((b3.no m).own c3 (Nat.le_refl _))
  rw [<- hn,<- he] at this
  exact this
 have h1:=h.nos b3
 refine ⟨_,w1,b1,_,rfl,_,h1.geo,rgHead_c fun w2 m2=>⟨_,_,rfl,?_⟩⟩
 have h2:=h1.nos m2
 rw [bneI]
 refine cond_of (fun he=>⟨_,build_rhead0,?_⟩) (fun he=>?_)
 ·have he:=of_decide_eq_true he
  have e:headAt D s.geo k=(hZ,(gHead s.geo k).2):=by unfold headAt; rw [if_pos he]
  exact fin w2 _ _ 0 _ rfl rfl m2 (by rw [e]; rfl) (by rw [e])
 have he:=Classical.not_not.1 (of_decide_eq_false he)
 have hin:=gHead_in (g:=s.geo) (k:=k) (b:=(gHead s.geo k).1) (by rw [<- he])
 have eA:headAt D s.geo k=hGet s.geo (rdB D (gHead s.geo k).1):=by unfold headAt; rw [if_neg (by rw [he]; decide)]
 refine ⟨_,rfl,?_⟩
 refine h2.rd hin.1 (by omega) fun w4 a cc m4 hrow hl hcc=>⟨_,_,_,_,rfl,_,rfl,_,(h2.nos m4).geo,?_⟩
 have M4:=m2.no m4
 refine rhGet_c hl hcc hrow (by omega) (fun h0 w5 m5=>⟨_,_,rfl,?_⟩) (fun h0 w5 b e b' e' m5 r1 r2=>⟨_,_,rfl,?_⟩)
 ·refine fin w5 _ _ 0 _ rfl rfl (M4.no m5) ?_ (by rw [eA])
  rw [headAt_bad (by rw [eA]; exact h0)]; rfl
 ·exact fin w5 _ _ _ 0 rfl rfl (M4.no m5) (by rw [eA]) (by rw [eA,h0])
theorem rInode_c {k:Int} (h63:k<=9223372036854775807) (h:Rg wb w v s D nx) (hsz:gSize s.geo<=D.vs.length)
  (hk:∀ w',Mod No w w'->K (.tuple #[.agg ⟨nV (slotAt D s.geo k).1⟩,.int .i64 (slotAt D s.geo k).2]) w'):Cal Tryz.prog F_leveeref13_Vol_Inode #[.pointer (some ⟨v,0,none⟩),.int .i64 k] w K:=by
 apply C_leveeref13_Vol_Inode
 unfold D_leveeref13_Vol_Inode
 obtain ⟨w1,b1,b2,b3,b4⟩:=new_u (P:=Tryz.prog) (w:=w) (T:=218) zero_ino
 have fin:∀ (w':World) (i:Nd) (e:Int),Mod No w1 w'->(i,e)=slotAt D s.geo k->∃ w3:World,RuU (Instr.storeAt 218 (.pointer (some ⟨w.heap.size,0,none⟩)) (.agg ⟨nV i⟩)) w' w3/\∃ gR2:Array Value,Ru (Instr.loadAt 218 (.pointer (some ⟨w.heap.size,0,none⟩))) w3 (.agg gR2) w3/\K (.tuple #[.agg gR2,.int .i64 e]) w3:=fun w' i e m he=>by
  have hw:nWf i:=by have:=slotAt_wf D s.geo k; rw [<- he] at this; exact this
  obtain ⟨w3,c1,c2,c3,c4⟩:=(b2.keep m id).put (T:=218) (vs:=nV i) agg_ino rfl (nV_len hw) (one_nV _)
  refine ⟨w3,c1,_,c2.at.all agg_ino (nV_len hw),?_⟩
  have:=hk w3 ((b3.no m).own c3 (Nat.le_refl _))
  rw [<- he] at this
  exact this
 have h1:=h.nos b3
 refine ⟨_,w1,b1,_,rfl,_,h1.geo,rgPlace_c h63 fun w2 m2=>⟨_,_,_,rfl,?_⟩⟩
 have h2:=h1.nos m2
 rw [bneI]
 refine cond_of (fun he=>⟨_,build_ino0,?_⟩) (fun he=>?_)
 ·have he:=of_decide_eq_true he
  exact fin w2 nZ _ m2 (by unfold slotAt; rw [if_pos he])
 have he:=Classical.not_not.1 (of_decide_eq_false he)
 have hin:=gPlace_b (g:=s.geo) (s:=k) (b:=(gPlace s.geo k).1) (p:=(gPlace s.geo k).2.1) (by rw [<- he])
 refine ⟨_,rfl,?_⟩
 refine h2.rd (by omega) (by omega) fun w4 a cc m4 hrow hl hcc=>⟨_,_,_,_,rfl,?_⟩
 refine rinoRead_c hl hcc hrow (by omega) fun w5 m5=>⟨_,_,rfl,?_⟩
 exact fin w5 _ _ ((m2.no m4).no m5) (by unfold slotAt; rw [if_neg (by rw [he]; decide)])
theorem refReadC_c (h:RefIn w R d vb vc hs D) (hsm:Small D) {n:Int} (hk:∀ w' a c,Mod No w w'->Fresh w w' a (rdB D n)->(rdB D n).length<=c->K (.tuple #[.slice a (rdB D n).length c,.int .i64 (errOf D n)]) w'):Cal Tryz.prog F_leveeref02_Disk_Read #[.pointer (some ⟨d,0,none⟩),.int .i64 n] w K:=by
 apply C_leveeref02_Disk_Read
 unfold D_leveeref02_Disk_Read
 refine there_c h ⟨_,rfl,?_⟩
 rcases err_cases (D:=D) n with ⟨he,_⟩ | ⟨he,i,v,rfl,hv,hver⟩
 ·have hb:rdB D n=[]:=by unfold rdB; rw [if_neg (by omega)]
  refine tt (by rw [he]; rfl) ?_
  have:=hk w none 0 (Mod.refl _ _) (.inl ⟨rfl,hb⟩) (by rw [hb]; exact Nat.le_refl _)
  rw [hb,he] at this; exact this
 ·have hb:rdB D i=lastV v:=by unfold rdB; rw [if_pos he,hver]
  have hvne:=(h.wf.ver v (List.mem_of_getElem? hv)).1
  have hvp:=List.length_pos_iff.2 hvne
  have hvl:=hsm v (List.mem_of_getElem? hv)
  obtain ⟨q,c,hl,hc,hat,_⟩:=rrow h hv
  refine ff (by rw [he]; rfl) ⟨_,rfl,_,_,_,rv h,_,idx_blk (List.getElem?_eq_some_iff.1 hv).1,_,_,_,hl,?_⟩
  rw [wrap64 (x:=(v.length:Int)-1) (by omega) (by omega),show (v.length:Int)-1=((v.length-1:Nat):Int) by omega]
  refine ⟨_,idx_str (by omega),_,strV_get hat (last_get hvne),?_⟩
  obtain ⟨c2,w2,h2,at2,m2,hc2⟩:=bytes_run (P:=Tryz.prog) (w:=w) (S:=9) (T:=88) (xs:=lastV v) (by kernel_rfl)
  refine ⟨_,_,_,w2,h2,?_⟩
  have:=hk w2 (some ⟨w.heap.size,0,none⟩) c2 m2 (.inr ⟨_,rfl,Nat.le_refl _,by rw [hb]; exact at2⟩) (by rw [hb]; exact hc2)
  rw [hb,he] at this; exact this
end
end Go.Proofs.YtelhlihjihklbaaGreat
end
