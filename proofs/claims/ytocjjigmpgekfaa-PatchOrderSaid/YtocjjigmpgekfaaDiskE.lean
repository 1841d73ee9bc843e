/- Layer 2, the program's disk: a flush, a crash. -/
import Derived.Test.YtocjjigmpgekfaaDiskD
open Go Go.Den Go.Proofs
namespace Go.Den
def upd (D : St) (ks : List Nat) (f : Nat → List Bk → Bk) : St := ⟨D.vs.mapIdx fun i v => if i ∈ ks then f i v :: v.tail else v, D.left⟩
def clr (D : St) : St := ⟨D.vs.map fun v => [hd v], D.left⟩
def put1 (D : St) (f : Nat → List Bk → Bk) : St := ⟨D.vs.mapIdx fun i v => [f i v], D.left⟩
theorem upd_get {D : St} {ks : List Nat} {f : Nat → List Bk → Bk} {i : Nat} {v : List Bk} (hv : D.vs[i]? = some v) : (upd D ks f).vs[i]? = some (if i ∈ ks then f i v :: v.tail else v) := by
  simp [upd, List.getElem?_mapIdx, hv]
theorem upd_step {D : St} {ks : List Nat} {f : Nat → List Bk → Bk} {i : Nat} {v : List Bk} (hv : D.vs[i]? = some v) : (upd D ks f).vs.set i (f i v :: v.tail) = (upd D (ks ++ [i]) f).vs := by
  apply List.ext_getElem?
  intro j
  by_cases hj : i = j
  · subst hj
    have hlt : i < (upd D ks f).vs.length := by simp [upd]; exact (List.getElem?_eq_some_iff.1 hv).1
    rw [List.getElem?_set_self hlt, upd_get hv, if_pos (by simp)]
  · rw [List.getElem?_set_ne hj]
    cases hw : D.vs[j]? with
    | none => simp [upd, List.getElem?_mapIdx, hw]
    | some u =>
      rw [upd_get hw, upd_get hw]
      have : (j ∈ ks ++ [i]) ↔ j ∈ ks := by simp; intro e; exact absurd e.symm hj
      simp only [this]
theorem clr_upd {D : St} {f : Nat → List Bk → Bk} (hf : ∀ i v, D.vs[i]? = some v → v.tail = [] → f i v = hd v) : clr (upd D (openN D) f) = put1 D f := by
  unfold clr put1
  congr 1
  apply List.ext_getElem?
  intro j
  cases hw : D.vs[j]? with
  | none => simp [upd, List.getElem?_mapIdx, hw]
  | some u =>
    rw [List.getElem?_map, upd_get hw, List.getElem?_mapIdx, hw]
    by_cases hj : j ∈ openN D
    · rw [if_pos hj]; rfl
    · rw [if_neg hj]
      have ht : u.tail = [] := by
        unfold openN at hj
        rw [List.mem_filter] at hj
        have hlt := (List.getElem?_eq_some_iff.1 hw).1
        simp only [List.mem_range, hlt, true_and, isOpen, hw, Option.getD_some] at hj
        simpa [List.isEmpty_iff] using hj
      simp [hf j u hw ht]
theorem upd_nil (D : St) (f : Nat → List Bk → Bk) : upd D [] f = D := by
  have : (D.vs.mapIdx fun i v => if i ∈ ([] : List Nat) then f i v :: v.tail else v) = D.vs := by
    apply List.ext_getElem?
    intro i
    rw [List.getElem?_mapIdx]
    cases D.vs[i]? <;> simp
  unfold upd; rw [this]
theorem put1_const (D : St) (g : List Bk → Bk) : put1 D (fun _ v => g v) = ⟨D.vs.map fun v => [g v], D.left⟩ := by
  unfold put1; congr 1
  apply List.ext_getElem?
  intro i
  rw [List.getElem?_mapIdx, List.getElem?_map]
theorem openN_lt {D : St} {i : Nat} (h : i ∈ openN D) : ∃ v, D.vs[i]? = some v ∧ v.tail ≠ [] := by
  unfold openN at h
  obtain ⟨h1, h2⟩ := List.mem_filter.1 h
  have hlt := List.mem_range.1 h1
  refine ⟨D.vs[i], by simp [hlt], ?_⟩
  unfold isOpen at h2
  simp [hlt, List.isEmpty_iff] at h2
  exact fun e => h2 e
theorem openN_nodup (D : St) : (openN D).Nodup := List.Pairwise.imp (fun h => by omega) ((List.pairwise_lt_range (n := D.vs.length)).filter (isOpen D))
theorem not_taken {ks : List Nat} (hn : ks.Nodup) {j i : Nat} (hj : ks[j]? = some i) : i ∉ ks.take j := by
  intro hc
  obtain ⟨hlt, hi⟩ := List.getElem?_eq_some_iff.1 hj
  obtain ⟨m, hm, he⟩ := List.getElem_of_mem hc
  have hml : m < j := by simp at hm; omega
  rw [List.getElem_take] at he
  have := (List.pairwise_iff_getElem.1 hn) m j (by omega) hlt hml
  exact this (by rw [he, hi])
end Go.Den

namespace Go.Proofs.Ytocjjigmpgekfaa
section
variable {w : World} {R : Nat → Prop} {b sb mb sc : Nat} {L : List (Int × Value)} {D : St} {K : Value → World → Prop}

theorem DiskIn_upd (h : DiskIn w R b sb mb sc L D) {i : Nat} {v : List Bk} {x : Bk} {w' : World} (hv : D.vs[i]? = some v) (hx : x.length = 256) (s2 : AtU w' sb 0 (splice (u8L (D.vs.map hd).flatten) (i * 256) (u8L x))) (s3 : Mod (fun x => x = sb) w w') :
    DiskIn w' R b sb mb sc L ⟨D.vs.set i (x :: v.tail), D.left⟩ := by
  have hlt := (List.getElem?_eq_some_iff.1 hv).1
  have hvne := h.wf.ver v (List.mem_of_getElem? hv)
  exact { cell := by
            have := h.cell.keep s3 h.ne
            simpa using this
          cap := by simpa using h.cap
          safe := by
            rw [splice_u8L, hx, flat_set (D.vs.map hd) h.wf.hd i x (by simpa using hlt) hx] at s2
            rw [List.map_set]; exact s2
          map := h.map.keep s3 h.nsm.symm
          rb := h.rb
          rs := h.rs
          rm := h.rm
          ne := h.ne
          opn := fun j v' hv' => by
            by_cases hj : i = j
            · subst hj
              have e : v' = x :: v.tail := by
                rw [List.getElem?_set_self hlt] at hv'; exact (Option.some.inj hv').symm
              subst e
              have := (h.opn i v hv).keep s3 fun y _ e => .inr e
              exact this
            · rw [List.getElem?_set_ne hj] at hv'
              exact (h.opn j v' hv').keep s3 fun y _ e => .inr e
          keys := fun p hp => by
            obtain ⟨j, e, hj⟩ := h.keys p hp
            exact ⟨j, e, by simpa using hj⟩
          wf := { ver := fun y hy => by
                    rcases List.mem_or_eq_of_mem_set hy with hy | rfl
                    · exact h.wf.ver y hy
                    · refine ⟨by simp, fun z hz => ?_⟩
                      rcases List.mem_cons.1 hz with rfl | hz
                      · exact hx
                      · exact hvne.2 z (List.mem_of_mem_tail hz)
                  lo := by simpa using h.wf.lo
                  hi := by simpa using h.wf.hi
                  l0 := h.wf.l0
                  l1 := h.wf.l1 }
          lt := fun y hy => Nat.lt_of_lt_of_le (h.lt y hy) s3.size }

theorem DiskIn_store (h : DiskIn w R b sb mb sc L D) {i : Nat} {v : List Bk} {x : Bk} (hv : D.vs[i]? = some v) (hx : x.length = 256) :
    ∃ w', RuU (Instr.storeAt 80 (.pointer (some (Addr.add ⟨sb, 0, none⟩ (i * 256)))) (.agg ⟨u8L x⟩)) w w' ∧ DiskIn w' R b sb mb sc L ⟨D.vs.set i (x :: v.tail), D.left⟩ ∧ Mod (fun x => x = sb) w w' := by
  have hlt := (List.getElem?_eq_some_iff.1 hv).1
  have hfl := flat_len (D.vs.map hd) h.wf.hd
  have hfl' : (D.vs.map hd).flatten.length = D.vs.length * 256 := by rw [hfl, List.length_map]
  have hle : (i + 1) * 256 ≤ D.vs.length * 256 := Nat.mul_le_mul_right _ hlt
  obtain ⟨w', s1, s2, s3, s4⟩ := h.safe.storeAgg (P := Try.prog) (T := 80) (i := i * 256) (n := 256) (vs := u8L x) agg_block (by simp [hx]) (by rw [length_u8L, hfl']; omega) (one_u8L x)
  exact ⟨w', by rw [add_none]; exact s1, DiskIn_upd h hv hx s2 s3, s3⟩

theorem DiskIn_clear (h : DiskIn w R b sb mb sc L D) {ty : TypeId} : ∃ w', Ru (Builtin.clear_ #[51] ty #[.map (some mb)]) w (.tuple #[]) w' ∧ DiskIn w' R b sb mb sc [] (clr D) ∧ Mod (fun x => x = mb) w w' := by
  obtain ⟨w', s1, s2, s3, s4⟩ := clear_run (P := Try.prog) (ty := ty) mapDisk h.map
  refine ⟨w', s1, ?_, s3⟩
  have hh : (clr D).vs.map hd = D.vs.map hd := by
    unfold clr; rw [List.map_map]; rfl
  exact { cell := by
            have := h.cell.keep s3 h.nbm
            simpa [clr] using this
          cap := by simpa [clr] using h.cap
          safe := by rw [hh]; exact h.safe.keep s3 h.nsm
          map := s2
          rb := h.rb
          rs := h.rs
          rm := h.rm
          ne := h.ne
          opn := fun j v' hv' => by
            refine .inl ⟨?_, rfl⟩
            simp [clr] at hv'
            obtain ⟨u, _, rfl⟩ := hv'
            rfl
          keys := by simp
          wf := { ver := fun y hy => by
                    simp [clr] at hy
                    obtain ⟨u, hu, rfl⟩ := hy
                    refine ⟨by simp, fun z hz => ?_⟩
                    simp at hz; subst hz
                    exact h.wf.hd _ (List.mem_map.2 ⟨u, hu, rfl⟩)
                  lo := by simpa [clr] using h.wf.lo
                  hi := by simpa [clr] using h.wf.hi
                  l0 := h.wf.l0
                  l1 := h.wf.l1 }
          lt := fun y hy => Nat.lt_of_lt_of_le (h.lt y hy) s3.size }
theorem openS_get {D : St} {j : Nat} (hj : j < (openN D).length) : (iL (openS D))[j]? = some (.int .i64 ((openN D)[j] : Nat)) := by
  simp [iL, openS, hj, I]
theorem openS_len (D : St) : (openS D).length = (openN D).length := by simp [openS]
theorem openN_len {D : St} : (openN D).length ≤ D.vs.length := by
  unfold openN; exact Nat.le_trans (List.length_filter_le _ _) (by simp)
theorem upd_left (D : St) (ks : List Nat) (f : Nat → List Bk → Bk) : (upd D ks f).left = D.left := rfl

def flSt (D : St) : St := if D.left = 0 then D else ⟨D.vs.map fun v => [lastV v], dec D.left⟩
theorem take_snoc {ks : List Nat} {j : Nat} (hj : j < ks.length) : ks.take (j + 1) = ks.take j ++ [ks[j]] := List.take_succ_eq_append_getElem hj

theorem Flush_c (h : DiskIn w R b sb mb sc L D) (hs : Small D) (hk : ∀ w' L', Mod R w w' → DiskIn w' R b sb mb sc L' (flSt D) → K (.int .i64 0) w') : Cal Try.prog F_disk_Disk_Flush #[.pointer (some ⟨b, 0, none⟩)] w K := by
  apply C_disk_Disk_Flush
  unfold D_disk_Disk_Flush
  refine ff rfl (goes_c h (fun hz => ⟨_, rfl, tt rfl ?_⟩) fun hnz w2 h2 m2 => ⟨_, rfl, ff rfl ?_⟩)
  · have e : flSt D = D := by unfold flSt; rw [if_pos hz]
    exact hk w L (Mod.refl _ _) (by rw [e]; exact h)
  have eF : flSt D = ⟨D.vs.map fun v => [lastV v], dec D.left⟩ := by unfold flSt; rw [if_neg hnz]
  rw [eF] at hk
  have M2 : Mod R w w2 := m2.mono fun x _ e => by subst e; exact h.rb
  have hs2 : Small ⟨D.vs, dec D.left⟩ := hs
  have h2' : DiskIn w2 R b sb mb sc L ⟨D.vs, dec D.left⟩ := h2
  clear h2
  generalize hD2 : (⟨D.vs, dec D.left⟩ : St) = D2 at *
  refine Open_c h2' fun w3 a l c m3 o3 => ⟨_, _, _, rfl, ?_⟩
  have h3 := h2'.nos m3
  have hl : (openN D2).length = l := by have := o3.len; simpa [openS] using this
  have hlb := openN_len (D := D2)
  have hhi := h2'.wf.hi
  refine ⟨fun x w4 => ∃ j : Nat, j ≤ l ∧ x = [.int .i64 j] ∧ DiskIn w4 R b sb mb sc L (upd D2 ((openN D2).take j) fun _ v => lastV v) ∧ Own Try.prog w4 w2.heap.size 23 1 a l c (iL (openS D2)) ∧ Mod R w2 w4, fun x _ => (l - nI x 0).toNat,
    ⟨0, by omega, rfl, by rw [List.take_zero, upd_nil]; exact h3, o3, m3.mono fun _ _ h => h.elim⟩, ?_⟩
  rintro x w4 ⟨j, hj, rfl, h4, o4, M4⟩
  refine ⟨_, rfl, cond_of (fun hb => ?_) (fun hb => ?_)⟩
  · have hj : j < l := by have := of_decide_eq_true hb; omega
    obtain ⟨g, rfl, hg, hrow⟩ := o4.sm (by omega)
    have hjo : j < (openN D2).length := by omega
    have hget : (openN D2)[j]? = some (openN D2)[j] := by simp [hjo]
    obtain ⟨v, hv, hvt⟩ := openN_lt (List.getElem_mem hjo)
    have hnt := not_taken (openN_nodup D2) hget
    have hv4 : (upd D2 ((openN D2).take j) fun _ v => lastV v).vs[(openN D2)[j]]? = some v := by rw [upd_get hv, if_neg hnt]
    refine ⟨_, index_slice (k := 1) (by kernel_rfl) (by omega) (by omega), ?_⟩
    rw [add_none, Int.toNat_natCast, Nat.mul_one]
    refine ⟨_, hrow.at.load (by kernel_rfl) (openS_get hjo), _, rfl, _, _, _, h4.drew.ls, ?_⟩
    refine last_c h4.drew hv4 (hs2 v (List.mem_of_getElem? hv)) fun w5 m5 => ⟨_, rfl, (h4.drew.nos m5).ls, ?_⟩
    have h5 := h4.drew.nos m5
    obtain ⟨w6, s1, s2, s3⟩ := DiskIn_store h5 hv4 (h2'.wf.lastLen hv)
    have hlt : (openN D2)[j] < (upd D2 ((openN D2).take j) fun _ v => lastV v).vs.length := (List.getElem?_eq_some_iff.1 hv4).1
    refine ⟨_, fun _ => idx_block hlt _, w6, s1, ?_⟩
    rw [wrap64 (x := (j : Int) + 1) (by omega) (by omega)]
    have M45 : Mod No w4 w5 := ((Mod.refl No w4).drew).no m5
    refine ⟨⟨j + 1, by omega, rfl, ?_, (o4.nos M45).keep s3 fun q hq e => ?_, (M4.no M45).trans s3 fun x _ e => by subst e; exact h.rs⟩, by simp [nI, nth]; omega⟩
    · rw [take_snoc hjo]
      have := upd_step (ks := (openN D2).take j) (f := fun _ v => lastV v) hv
      rw [this] at s2
      exact s2
    · have := (o4.base hq).1
      have := h2'.lt sb h2'.rs
      omega
  · have hjl : j = l := by have := of_decide_eq_false hb; omega
    subst hjl
    have e1 : (openN D2).take j = openN D2 := List.take_of_length_le (by omega)
    rw [e1] at h4
    obtain ⟨w6, s1, s2, s3⟩ := DiskIn_clear h4 (ty := 0)
    refine ⟨_, rfl, some mb, h4.lm, w6, s1, ?_⟩
    refine hk w6 [] ((M2.trans M4 fun _ _ h => h).trans s3 fun x _ e => by subst e; exact h.rm) ?_
    rw [clr_upd (fun i v _ ht => last_one ht)] at s2
    rw [put1_const, ← hD2] at s2
    exact s2
end
end Go.Proofs.Ytocjjigmpgekfaa
