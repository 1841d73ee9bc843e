/- Layer 2: whether both disks are alike; new disks of the document's; disks of bytes. -/
import Derived.Test.YtgcecmfjpljpcaaRefB
open Go Go.Den Go.Proofs
namespace Go.Proofs.Ytgcecmfjpljpcaa
section
variable {w : World} {R R2 : Nat → Prop} {b vb vc b2 sb mb sc : Nat} {hs : List (Nat × Nat)} {L : List (Int × Value)} {D : St} {K : Value → World → Prop}
theorem Fresh.blk {w0 w : World} {a : Option Addr} {xs : List UInt8} (h : Fresh w0 w a xs) : ∀ q, a = some q → w0.heap.size ≤ q.block ∧ q.block < w.heap.size := by
  rcases h with ⟨rfl, _⟩ | ⟨q, rfl, hq, hat⟩
  · intro q e; cases e
  · intro q' e; cases e; exact ⟨hq, hat.lt⟩
theorem Fresh.keep {w0 w w' : World} {a : Option Addr} {xs : List UInt8} {S : Nat → Prop} (h : Fresh w0 w a xs) (m : Mod S w w') (hs : ∀ q, a = some q → ¬ S q.block) : Fresh w0 w' a xs := by
  rcases h with h | ⟨q, rfl, hq, hat⟩
  · exact .inl h
  · exact .inr ⟨q, rfl, hq, hat.keep m (hs _ rfl)⟩
theorem Spoil_f {w0 : World} {a : Option Addr} {c : Nat} {xs : List UInt8} (hf : Fresh w0 w a xs) (h63 : xs.length ≤ 1048576) (h : ∀ w', Mod (fun x => ∃ q, a = some q ∧ x = q.block) w w' → K (.tuple #[]) w') : Cal Try.prog F_leveeref01_Spoil #[.slice a xs.length c] w K := by
  rcases hf with ⟨rfl, rfl⟩ | ⟨q, rfl, hq, hat⟩
  · apply C_leveeref01_Spoil
    unfold D_leveeref01_Spoil
    refine ⟨fun x w' => x = [.int .i64 0] ∧ w' = w, fun _ _ => 0, ⟨rfl, rfl⟩, ?_⟩
    rintro x w' ⟨rfl, rfl⟩
    exact ⟨_, rfl, ff rfl (h w' (Mod.refl _ _))⟩
  · exact Spoil_c hat (Nat.le_refl _) h63 fun w' m => h w' (m.mono fun x _ e => ⟨_, rfl, e⟩)
theorem Ints_own {w1 w2 : World} {base base2 l l2 c c2 : Nat} {a a2 : Option Addr} (o1 : Own Try.prog w base 31 1 a l c (iL (openS D))) (o2 : Own Try.prog w base2 31 1 a2 l2 c2 (iL (openS D))) (hD : D.vs.length ≤ 4096)
    (h : ∀ w', Mod No w w' → K (.bool true) w') : Cal Try.prog F_leveeref01_Ints #[.slice a l c, .slice a2 l2 c2] w K := by
  have e1 : (openS D).length = l := by have := o1.len; simpa using this
  have e2 : (openS D).length = l2 := by have := o2.len; simpa using this
  have hlb := openN_len (D := D)
  rw [openS_len] at e1 e2
  have : l2 = l := by omega
  subst this
  exact Ints_c (by rw [openS_len]; exact e1) o1.rowU.row o2.rowU.row (by omega) h
theorem sfB_len (h : WF D) (n : Int) : (sfB D n).length ≤ 256 := by
  rcases err_cases (D := D) n with ⟨he, _⟩ | ⟨he, i, v, rfl, hv, hver⟩
  · unfold sfB; rw [if_neg (by omega)]; simp
  · unfold sfB; rw [if_pos he, hver]
    exact Nat.le_of_eq (h.hd _ (List.mem_map.2 ⟨v, List.mem_of_getElem? hv, rfl⟩))
theorem rdB_len (h : WF D) (n : Int) : (rdB D n).length ≤ 256 := by
  rcases err_cases (D := D) n with ⟨he, _⟩ | ⟨he, i, v, rfl, hv, hver⟩
  · unfold rdB; rw [if_neg (by omega)]; simp
  · unfold rdB; rw [if_pos he, hver]; exact Nat.le_of_eq (h.lastLen hv)

end
end Go.Proofs.Ytgcecmfjpljpcaa
