/- Layer 2, the program's disk: a crash. -/
import Derived.Test.YtocjjigmpgekfaaDiskE
open Go Go.Den Go.Proofs
namespace Go.Proofs.Ytocjjigmpgekfaa
section
variable {w : World} {R : Nat → Prop} {b sb mb sc : Nat} {L : List (Int × Value)} {D : St} {K : Value → World → Prop}
/-- Which version of a block is left: of the j-th open one, of m writes. -/
def kOf (pick : List Int) (j m : Nat) : Int := if j < pick.length then (if (m : Int) < (if 0 > pick.getD j 0 then 0 else pick.getD j 0) then (m : Int) else (if 0 > pick.getD j 0 then 0 else pick.getD j 0)) else 0
theorem kOf_in (pick : List Int) (j m : Nat) : 0 ≤ kOf pick j m ∧ kOf pick j m ≤ m := by
  unfold kOf; split
  · split <;> split <;> omega
  · omega
def pickV (D : St) (pick : List Int) (i : Nat) (v : List Bk) : Bk := v.getD (kOf pick ((openN D).idxOf i) v.tail.length).toNat []
def crSt (D : St) (pick : List Int) : St := ⟨(put1 D (pickV D pick)).vs, -1⟩

theorem idxOf_get {ks : List Nat} (hn : ks.Nodup) {j : Nat} (hj : j < ks.length) : ks.idxOf ks[j] = j := List.Nodup.idxOf_getElem hn j hj
theorem pickV_one {D : St} {pick : List Int} {i : Nat} {v : List Bk} (ht : v.tail = []) : pickV D pick i v = hd v := by
  have := kOf_in pick ((openN D).idxOf i) v.tail.length
  rw [ht] at this
  simp only [List.length_nil] at this
  have e : (kOf pick ((openN D).idxOf i) v.tail.length).toNat = 0 := by rw [ht]; simp only [List.length_nil]; omega
  unfold pickV; rw [e]; cases v <;> rfl

theorem Crash_p (h : DiskIn w R b sb mb sc L D) (hs : Small D) {a1 : Option Addr} {l1 c1 : Nat} {pick : List Int} (hpl : pick.length = l1) (hpr : Row w a1 (iL pick)) (hdis : pick ≠ [] → ∀ q, a1 = some q → ¬ R q.block) (h63 : l1 ≤ 9223372036854775807)
    (hk : ∀ w', Mod (Wr b sb mb) w w' → DiskIn w' R b sb mb sc [] (crSt D pick) → K (.tuple #[]) w') : Cal Try.prog F_disk_Disk_Crash #[.pointer (some ⟨b, 0, none⟩), .slice a1 l1 c1] w K := by
  apply C_disk_Disk_Crash
  unfold D_disk_Disk_Crash
  refine ff rfl (Open_c h fun w3 a l c m3 o3 => ⟨_, _, _, rfl, ?_⟩)
  have h3 := h.nos m3
  have hl : (openN D).length = l := by have := o3.len; simpa [openS] using this
  have hlb := openN_len (D := D)
  have hhi := h.wf.hi
  refine ⟨fun x w4 => ∃ (j : Nat) (y : Value), j ≤ l ∧ x = [y, .int .i64 j] ∧ DiskIn w4 R b sb mb sc L (upd D ((openN D).take j) (pickV D pick)) ∧ Own Try.prog w4 w.heap.size 23 1 a l c (iL (openS D)) ∧ Mod (Wr b sb mb) w w4, fun x _ => (l - nI x 1).toNat,
    ⟨0, _, by omega, rfl, by rw [List.take_zero, upd_nil]; exact h3, o3, m3.mono fun _ _ h => h.elim⟩, ?_⟩
  rintro x w4 ⟨j, y, hj, rfl, h4, o4, M4⟩
  refine ⟨_, rfl, cond_of (fun hb => ?_) (fun hb => ?_)⟩
  · have hj : j < l := by have := of_decide_eq_true hb; omega
    obtain ⟨g, rfl, hg, hrow⟩ := o4.sm (by omega)
    have hjo : j < (openN D).length := by omega
    have hget : (openN D)[j]? = some (openN D)[j] := by simp [hjo]
    obtain ⟨v, hv, hvt⟩ := openN_lt (List.getElem_mem hjo)
    have hnt := not_taken (openN_nodup D) hget
    have hv4 : (upd D ((openN D).take j) (pickV D pick)).vs[(openN D)[j]]? = some v := by rw [upd_get hv, if_neg hnt]
    have hix := idxOf_get (openN_nodup D) hjo
    have hvsm := hs v (List.mem_of_getElem? hv)
    have htl : v.tail.length ≤ v.length := by simp
    have hkin := kOf_in pick j v.tail.length
    refine ⟨_, index_slice (k := 1) (by kernel_rfl) (by omega) (by omega), ?_⟩
    rw [add_none, Int.toNat_natCast, Nat.mul_one]
    refine ⟨_, hrow.at.load (by kernel_rfl) (openS_get hjo), ?_⟩
    have hopn : ∀ w5, DiskIn w5 R b sb mb sc L (upd D ((openN D).take j) (pickV D pick)) → ∃ vb c0, Ru (Instr.lookup 51 (.map (some mb)) (.int .i64 ((openN D)[j] : Nat)) false) w5 (.slice (some ⟨vb, 0, none⟩) v.tail.length c0) w5 ∧ At w5 vb 0 (u8L v.tail.flatten) := by
      intro w5 h5
      rcases h5.opn _ v hv4 with ⟨ht, _⟩ | ⟨_, vb, c0, hl, _, hat, _⟩
      · exact absurd ht hvt
      · exact ⟨vb, c0, look_some h5.map hl, hat⟩
    refine Share.cut (fun z w' => z = [.int .i64 (kOf pick j v.tail.length)] ∧ Mod No w4 w') (cond_of (fun hb => ?_) (fun hb => ?_)) ?_
    · have hjp : j < l1 := by have := of_decide_eq_true hb; omega
      have hpne : ¬ iL pick = [] := fun e => by have := congrArg List.length e; simp at this; rw [this] at hpl; simp at hpl; omega
      obtain ⟨b1, o1, rfl, hat1⟩ := hpr.resolve_left hpne
      refine ⟨_, index_slice (k := 1) (by kernel_rfl) (by omega) (by omega), ?_⟩
      rw [add_none, Int.toNat_natCast, Nat.mul_one]
      have hat1' := (hat1.keep M4 (fun e => hdis (fun e => hpne (by rw [e]; rfl)) _ rfl (h.wr e))).drew
      obtain ⟨vb, c0, hlook, _⟩ := hopn _ h4.drew
      refine ⟨_, hat1'.load (by kernel_rfl) (iL_get (show j < pick.length by omega)), _, rfl, some mb, h4.drew.lm, _, _, _, hlook, ?_, (Mod.refl No w4).drew⟩
      have e : pick.getD j 0 = pick[j] := by simp [show j < pick.length by omega]
      unfold kOf; rw [if_pos (show j < pick.length by omega), e]
    · have hjp : ¬ j < l1 := by have := of_decide_eq_false hb; omega
      refine ⟨?_, Mod.refl _ _⟩
      unfold kOf; rw [if_neg (show ¬ j < pick.length by omega)]
    rintro z w5 ⟨rfl, m5⟩
    have h5 := h4.nos m5
    refine ⟨_, rfl, Share.cut (fun _ w' => DiskIn w' R b sb mb sc L (upd D ((openN D).take (j + 1)) (pickV D pick)) ∧ Mod (fun x => x = sb) w5 w') (cond_of (fun hb => ?_) (fun hb => ?_)) ?_⟩
    · have hkp : 0 < kOf pick j v.tail.length := of_decide_eq_true hb
      obtain ⟨vb, c0, hlook, hat⟩ := hopn _ h5.drew
      have hpv : pickV D pick (openN D)[j] v = v.getD (kOf pick j v.tail.length).toNat [] := by unfold pickV; rw [hix]
      rw [wrap64 (x := kOf pick j v.tail.length - 1) (by omega) (by omega), show kOf pick j v.tail.length - 1 = (((kOf pick j v.tail.length).toNat - 1 : Nat) : Int) by omega]
      have htget : v.tail[(kOf pick j v.tail.length).toNat - 1]? = some (pickV D pick (openN D)[j] v) := by
        rw [hpv]
        cases v with
        | nil => exact absurd rfl hvt
        | cons p r =>
          simp only [List.tail_cons] at hkin hkp ⊢
          obtain ⟨q, hq⟩ : ∃ q, (kOf pick j r.length).toNat = q + 1 := ⟨(kOf pick j r.length).toNat - 1, by omega⟩
          rw [hq]
          have hlt : q < r.length := by omega
          simp [hlt]
      have hplen : (pickV D pick (openN D)[j] v).length = 256 := h.wf.tl hv _ (List.mem_of_getElem? htget)
      obtain ⟨w6, s1, s2, s3⟩ := DiskIn_store h5.drew hv4 hplen
      have hlt : (openN D)[j] < (upd D ((openN D).take j) (pickV D pick)).vs.length := (List.getElem?_eq_some_iff.1 hv4).1
      refine ⟨_, rfl, _, _, _, h5.drew.ls, _, rfl, some mb, h5.drew.lm, _, _, _, hlook, _, fun _ => idx_block (by omega) _, _, load_block hat (h.wf.tl hv) htget, _, fun _ => idx_block hlt _, w6, s1, ?_, ?_⟩
      · rw [take_snoc hjo]
        rw [upd_step (ks := (openN D).take j) (f := pickV D pick) hv] at s2
        exact s2
      · exact ((Mod.refl (fun x => x = sb) w5).drew).trans s3 fun _ _ h => h
    · have hk0 : kOf pick j v.tail.length = 0 := by have := of_decide_eq_false hb; omega
      refine ⟨?_, Mod.refl _ _⟩
      have hpv : pickV D pick (openN D)[j] v = hd v := by
        unfold pickV; rw [hix, hk0]; cases v <;> rfl
      have e : upd D ((openN D).take (j + 1)) (pickV D pick) = upd D ((openN D).take j) (pickV D pick) := by
        have hvv : v = hd v :: v.tail := by
          cases v with
          | nil => exact absurd rfl hvt
          | cons p r => rfl
        have := upd_step (ks := (openN D).take j) (f := pickV D pick) hv
        rw [hpv, ← hvv] at this
        have h2 : (upd D ((openN D).take j) (pickV D pick)).vs.set (openN D)[j] v = (upd D ((openN D).take j) (pickV D pick)).vs := by
          apply List.ext_getElem?
          intro q
          by_cases hq : (openN D)[j] = q
          · subst hq
            rw [List.getElem?_set_self (List.getElem?_eq_some_iff.1 hv4).1, hv4]
          · rw [List.getElem?_set_ne hq]
        rw [h2] at this
        rw [take_snoc hjo]
        show (⟨_, _⟩ : St) = ⟨_, _⟩
        congr 1
        exact this.symm
      rw [e]; exact h5
    · rintro z w6 ⟨h6, m6⟩
      rw [wrap64 (x := (j : Int) + 1) (by omega) (by omega)]
      refine ⟨⟨j + 1, _, by omega, rfl, h6, (o4.nos m5).keep m6 fun q hq e => ?_, (M4.no m5).trans m6 fun x _ e => .inr (.inl e)⟩, by simp [nI, nth]; omega⟩
      have := (o4.base hq).1
      have := h.lt sb h.rs
      omega
  · have hjl : j = l := by have := of_decide_eq_false hb; omega
    subst hjl
    have e1 : (openN D).take j = openN D := List.take_of_length_le (by omega)
    rw [e1] at h4
    obtain ⟨w6, s1, s2, s3⟩ := DiskIn_clear h4 (ty := 0)
    refine ⟨_, rfl, some mb, h4.lm, w6, s1, ?_⟩
    rw [clr_upd (fun i v _ ht => pickV_one ht)] at s2
    obtain ⟨w7, t1, t2, t3, t4⟩ := s2.cell.store (P := Try.prog) (T := 3) (i := 2) (v := .int .i64 (-1)) (by kernel_rfl) (by simp) rfl
    refine ⟨_, rfl, w7, by rw [add_none]; exact t1, ?_⟩
    refine hk w7 ((M4.trans s3 fun x _ e => .inr (.inr e)).trans t3 fun x _ e => .inl e) ?_
    exact { cell := by simpa [crSt] using t2
            cap := s2.cap
            safe := s2.safe.keep t3 s2.ne.symm
            map := s2.map.keep t3 s2.nbm.symm
            rb := s2.rb
            rs := s2.rs
            rm := s2.rm
            ne := s2.ne
            opn := fun i v hv => (s2.opn i v hv).keep t3 fun x _ e => .inl e
            keys := s2.keys
            wf := { ver := s2.wf.ver, lo := s2.wf.lo, hi := s2.wf.hi, l0 := by simp [crSt], l1 := by simp [crSt] }
            lt := fun x hx => Nat.lt_of_lt_of_le (s2.lt x hx) t3.size }
theorem Crash_c (h : DiskIn w R b sb mb sc L D) (hs : Small D) {a1 : Option Addr} {l1 c1 : Nat} {pick : List Int} (hpl : pick.length = l1) (hpr : Row w a1 (iL pick)) (hdis : pick ≠ [] → ∀ q, a1 = some q → ¬ R q.block) (h63 : l1 ≤ 9223372036854775807)
    (hk : ∀ w', Mod R w w' → DiskIn w' R b sb mb sc [] (crSt D pick) → K (.tuple #[]) w') : Cal Try.prog F_disk_Disk_Crash #[.pointer (some ⟨b, 0, none⟩), .slice a1 l1 c1] w K :=
  Crash_p h hs hpl hpr hdis h63 fun w' m hd => hk w' (m.mono fun _ _ e => h.wr e) hd
end
end Go.Proofs.Ytocjjigmpgekfaa
