/- Layer 2: whether both disks are alike; new disks of the document's; disks of bytes. -/
import Derived.Test.YtkmkfdljnlbikaaRefB
open Go Go.Den Go.Proofs
namespace Go.Proofs.Ytkmkfdljnlbikaa
section
variable {w : World} {R R2 : Nat → Prop} {b vb vc b2 sb mb sc : Nat} {hs : List (Nat × Nat)} {L : List (Int × Value)} {D : St} {K : Value → World → Prop}
theorem Fresh.blk {w0 w : World} {a : Option Addr} {xs : List UInt8} (h : Fresh w0 w a xs) : ∀ q, a = some q → w0.heap.size ≤ q.block ∧ q.block < w.heap.size := by
  rcases h with ⟨rfl, _⟩ | ⟨q, rfl, hq, hat⟩
  · intro q e; cases e
  · intro q' e; cases e; exact ⟨hq, hat.lt⟩
theorem Fresh.keep {w0 w w' : World} {a : Option Addr} {xs : List UInt8} {S : Nat → Prop} (h : Fresh w0 w a xs) (m : Mod S w w') (hs : ∀ q, a = some q → ¬ S q.block) : Fresh w0 w' a xs := by
  rcases h with h | ⟨q, rfl, hq, hat⟩
  · exact .inl h
  · exact .inr ⟨q, rfl, hq, hat.keep m (hs _ rfl)⟩
theorem Spoil_f {w0 : World} {a : Option Addr} {c : Nat} {xs : List UInt8} (hf : Fresh w0 w a xs) (h63 : xs.length ≤ 1048576) (h : ∀ w', Mod (fun x => ∃ q, a = some q ∧ x = q.block) w w' → K (.tuple #[]) w') : Cal Try.prog F_leveeref01_Spoil #[.slice a xs.length c] w K := by
  rcases hf with ⟨rfl, rfl⟩ | ⟨q, rfl, hq, hat⟩
  · apply C_leveeref01_Spoil
    unfold D_leveeref01_Spoil
    refine ⟨fun x w' => x = [.int .i64 0] ∧ w' = w, fun _ _ => 0, ⟨rfl, rfl⟩, ?_⟩
    rintro x w' ⟨rfl, rfl⟩
    exact ⟨_, rfl, ff rfl (h w' (Mod.refl _ _))⟩
  · exact Spoil_c hat (Nat.le_refl _) h63 fun w' m => h w' (m.mono fun x _ e => ⟨_, rfl, e⟩)
theorem Ints_own {w1 w2 : World} {base base2 l l2 c c2 : Nat} {a a2 : Option Addr} (o1 : Own Try.prog w base 42 1 a l c (iL (openS D))) (o2 : Own Try.prog w base2 42 1 a2 l2 c2 (iL (openS D))) (hD : D.vs.length ≤ 4096)
    (h : ∀ w', Mod No w w' → K (.bool true) w') : Cal Try.prog F_leveeref01_Ints #[.slice a l c, .slice a2 l2 c2] w K := by
  have e1 : (openS D).length = l := by have := o1.len; simpa using this
  have e2 : (openS D).length = l2 := by have := o2.len; simpa using this
  have hlb := openN_len (D := D)
  rw [openS_len] at e1 e2
  have : l2 = l := by omega
  subst this
  exact Ints_c (by rw [openS_len]; exact e1) o1.rowU.row o2.rowU.row (by omega) h
theorem sfB_len (h : WF D) (n : Int) : (sfB D n).length ≤ 256 := by
  rcases err_cases (D := D) n with ⟨he, _⟩ | ⟨he, i, v, rfl, hv, hver⟩
  · unfold sfB; rw [if_neg (by omega)]; simp
  · unfold sfB; rw [if_pos he, hver]
    exact Nat.le_of_eq (h.hd _ (List.mem_map.2 ⟨v, List.mem_of_getElem? hv, rfl⟩))
theorem rdB_len (h : WF D) (n : Int) : (rdB D n).length ≤ 256 := by
  rcases err_cases (D := D) n with ⟨he, _⟩ | ⟨he, i, v, rfl, hv, hver⟩
  · unfold rdB; rw [if_neg (by omega)]; simp
  · unfold rdB; rw [if_pos he, hver]; exact Nat.le_of_eq (h.lastLen hv)

theorem same_c (h : DiskIn w R b sb mb sc L D) (k : RefIn w R2 b2 vb vc hs D) (hsm : Small D) {n : Int} (hk : ∀ w', Mod No w w' → K (.bool true) w') :
    Cal Try.prog F_leveelaw02_same #[.pointer (some ⟨b, 0, none⟩), .pointer (some ⟨b2, 0, none⟩), .int .i64 n] w K := by
  apply C_leveelaw02_same
  unfold D_leveelaw02_same
  have hwf := h.wf
  refine Read_c h hsm fun w1 a1 c1 m1 f1 => ⟨_, _, _, _, rfl, ?_⟩
  refine refRead_c (k.nos m1) hsm fun w2 a2 c2 m2 f2 => ⟨_, _, _, _, rfl, ?_⟩
  have M2 := m1.no m2
  refine Safe_c (h.nos M2) fun w3 a3 c3 m3 f3 => ⟨_, _, _, _, rfl, ?_⟩
  have M3 := M2.no m3
  refine refSafe_c (k.nos M3) fun w4 a4 c4 m4 f4 => ⟨_, _, _, _, rfl, ?_⟩
  have M4 := M3.no m4
  refine Share.cut (fun z w' => z = [.bool true] ∧ w' = w4) ⟨_, str_run (by kernel_rfl) (f1.nos ((m2.no m3).no m4)).row rfl, _, str_run (by kernel_rfl) (f2.nos (m3.no m4)).row rfl, tt (by simp) (tt (by simp) ⟨_, str_run (by kernel_rfl) (f3.nos m4).row rfl, _, str_run (by kernel_rfl) f4.row rfl, tt (by simp) ⟨by simp, rfl⟩⟩)⟩ ?_
  rintro z w5 ⟨rfl, rfl⟩
  have F1 : Fresh w w5 a1 (rdB D n) := f1.nos ((m2.no m3).no m4)
  refine Spoil_f F1 (by have := rdB_len hwf n; omega) fun w6 m6 => ⟨rfl, ?_⟩
  have M6 : Mod No w w6 := M4.trans m6 fun x hx ⟨q, e, hx'⟩ => by have := (f1.blk q e).1; omega
  have F3 : Fresh w2 w6 a3 (sfB D n) := (f3.nos m4).keep m6 fun q e ⟨q1, e1, hx'⟩ => by have := (f1.blk q1 e1).2; have := (f3.blk q e).1; have := m2.size; omega
  refine Spoil_f F3 (by have := sfB_len hwf n; omega) fun w7 m7 => ⟨rfl, ?_⟩
  have M7 : Mod No w w7 := M6.trans m7 fun x hx ⟨q, e, hx'⟩ => by have := (f3.blk q e).1; have := M2.size; omega
  refine Share.dup ⟨_, rfl, tt rfl ?_⟩
  refine Open_c (h.nos M7) fun w8 a8 l8 c8 m8 o8 => ⟨_, _, _, rfl, ?_⟩
  refine refOpen_c ((k.nos M7).nos m8) hsm fun w9 a9 l9 c9 m9 o9 => ⟨_, _, _, rfl, ?_⟩
  refine Ints_own (w1 := w) (w2 := w) (o8.nos m9) o9 hwf.hi fun w10 m10 => ⟨_, rfl, tt rfl ?_⟩
  have M10 := ((M7.no m8).no m9).no m10
  refine Writes_c (h.nos M10) ⟨_, rfl, refWrites_c (k.nos M10) hsm ⟨_, rfl, tt (by simp) ?_⟩⟩
  refine Stopped_c (h.nos M10) ⟨_, rfl, refStopped_c (k.nos M10) ⟨_, rfl, _, rfl, ?_⟩⟩
  have : (decide (D.left = 0) == decide (D.left = 0)) = true := by simp
  rw [this]
  exact hk w10 M10
end
end Go.Proofs.Ytkmkfdljnlbikaa
