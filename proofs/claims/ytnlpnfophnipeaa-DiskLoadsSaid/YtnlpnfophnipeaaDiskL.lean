/- The statement DiskLoads: a disk of bytes. -/
import Derived.Test.YtnlpnfophnipeaaRefE
open Go Go.Den Go.Proofs
namespace Go.Proofs.Ytnlpnfophnipeaa
section
variable {w : World}
theorem chunks_flat (xs : List UInt8) : ∀ k, ((List.range k).map (chunk xs)).flatten = xs.take (256 * k)
  | 0 => by simp
  | k + 1 => by
    rw [List.range_succ, List.map_append, List.flatten_append, chunks_flat xs k]
    simp only [List.map_cons, List.map_nil, List.flatten_cons, List.flatten_nil, List.append_nil]
    unfold chunk
    rw [show 256 * (k + 1) = 256 * k + 256 by omega, List.take_add]
theorem allB_ld {xs : List UInt8} {k : Nat} (hl : xs.length = 256 * k) : allB (ldSt k xs) = xs := by
  have : (ldSt k xs).vs.map lastV = (List.range k).map (chunk xs) := by
    unfold ldSt; rw [List.map_map]; rfl
  unfold allB
  rw [this, chunks_flat, List.take_of_length_le (by omega)]
theorem cr_ld (k : Nat) (xs : List UInt8) : crSt (ldSt k xs) [] = ldSt k xs := by
  have : (put1 (ldSt k xs) (pickV (ldSt k xs) [])).vs = (ldSt k xs).vs := by
    unfold put1
    apply List.ext_getElem?
    intro i
    rw [List.getElem?_mapIdx]
    cases hv : (ldSt k xs).vs[i]? with
    | none => rfl
    | some v =>
      have hm := List.mem_of_getElem? hv
      obtain ⟨j, _, rfl⟩ := List.mem_map.1 hm
      rw [Option.map_some, pickV_one rfl]; rfl
  unfold crSt; rw [this]; rfl
theorem Small.ld (k : Nat) (xs : List UInt8) : Small (ldSt k xs) := by
  intro v hv
  obtain ⟨j, _, rfl⟩ := List.mem_map.1 hv
  simp

set_option maxRecDepth 100000 in
theorem DiskLoads_c {a : Option Addr} {l c : Nat} {xs : List UInt8} {n : Int} (hl : xs.length = l) (hr : Row w a (u8L xs)) (h0 : a = none → l = 0 ∧ c = 0) (hc : l ≤ c) :
    Cal Try.prog F_leveelaw02_DiskLoads #[.slice a l c, .int .i64 n] w (fun v w' => v = .bool true ∧ Mod No w w') := by
  apply C_leveelaw02_DiskLoads
  unfold D_leveelaw02_DiskLoads
  refine cond_of (fun hb => ?_) (fun hb => ?_)
  · exact known2_c fun w1 m1 => ⟨_, rfl, rfl, m1⟩
  have h10 : l ≤ 10000 := by have := of_decide_eq_false hb; omega
  refine Lent_c hl hr h0 (by omega) fun w2 g cap hg m2 hlent => ⟨_, _, _, rfl, ?_⟩
  have hcap := hlent.2.1
  have hgl : g < w2.heap.size := hlent.2.2.lt
  refine Load_c hl hlent.row (by omega) h10 (fun hbad => ⟨_, _, rfl, ?_⟩) fun k hk hk1 w3 b sb mb sc m3 hD => ⟨_, _, rfl, ?_⟩
  · refine refLoad_c hl (hr.nos m2) hc h10 (fun _ => ⟨_, _, rfl, ?_⟩) fun k hk hk1 => by omega
    refine Share.cut (fun z w' => z = [.bool false] ∧ Mod No w2 w') (ff (by simp) (ff (by simp) (Kept_c hlent rfl (hr.nos m2) (by omega) fun w5 m5 => ⟨_, rfl, rfl, m5⟩))) ?_
    rintro z w6 ⟨rfl, m6⟩
    refine ⟨_, rfl, ff rfl ?_⟩
    refine Spoil_c (hlent.keep m6 id).2.2 (by simp; omega) (by omega) fun w7 m7 => ⟨rfl, tt rfl ?_⟩
    have M7 : Mod No w w7 := (m2.no m6).trans m7 fun x hx e => by omega
    exact known2_c fun w8 m8 => ⟨_, rfl, rfl, M7.no m8⟩
  · have hm3 := m3.size
    refine refLoad_c hl (hr.nos (m2.no m3)) hc h10 (fun hbad => by omega) fun k' hk' _ w4 b2 vb vc hs m4 hR => ⟨_, _, rfl, ?_⟩
    have : k' = k := by omega
    subst this
    have hm4 := m4.size
    refine Share.cut (fun z w' => z = [.bool false] ∧ Mod No w4 w') (ff (by simp) (ff (by simp) (Kept_c ((hlent.keep m3 id).keep m4 id) rfl (hr.nos ((m2.no m3).no m4)) (by omega) fun w5 m5 => ⟨_, rfl, rfl, m5⟩))) ?_
    rintro z w6 ⟨rfl, m6⟩
    refine ⟨_, rfl, ff rfl ?_⟩
    refine Spoil_c (((hlent.keep m3 id).keep m4 id).keep m6 id).2.2 (by simp; omega) (by omega) fun w7 m7 => ⟨rfl, ff rfl ?_⟩
    have M7 : Mod No w w7 := (((m2.no m3).no m4).no m6).trans m7 fun x hx e => by omega
    have hD7 := ((hD.nos m4).nos m6).keep m7 fun x hx e => by omega
    have hR7 := (hR.nos m6).keep m7 fun x hx e => by omega
    have hsm := Small.ld k' xs
    refine Crash_c hD7 hsm (pick := []) rfl (.inl rfl) (fun h => absurd rfl h) (by omega) fun w8 m8 hD8 => ⟨rfl, ?_⟩
    rw [cr_ld] at hD8
    have hm2 := m2.size
    have M8 : Mod No w w8 := M7.trans m8 fun x hx e => by omega
    have hR8 := hR7.keep m8 fun x hx e => by omega
    have md := (Mod.refl No w8).drew
    refine Share.dup ⟨_, str_run (xs := xs) (by kernel_rfl) (hr.nos (M8.no md)) hl, ?_⟩
    refine Bytes_c' hD8.drew hsm fun w9 a9 l9 c9 m9 o9 => ⟨_, _, _, rfl, ?_⟩
    rw [allB_ld (by omega)] at o9
    have M9 := (M8.no md).no m9
    have hl9 : xs.length = l9 := by have := o9.len; simpa using this
    refine ⟨str_run (xs := xs) (by kernel_rfl) (hr.nos M9) hl, _, str_run (xs := xs) (by kernel_rfl) o9.rowU.row hl9, tt (by simp) ?_⟩
    refine same_c (hD8.drew.nos m9) (hR8.drew.nos m9) hsm fun w10 m10 => ⟨_, rfl, tt rfl ?_⟩
    exact known2_c fun w11 m11 => ⟨_, rfl, _, rfl, rfl, (M9.no m10).no m11⟩
end
end Go.Proofs.Ytnlpnfophnipeaa
