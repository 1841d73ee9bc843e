/- The statement DiskSafe: behind a crash. -/
import Derived.Test.YtocjjigmpgekfaaDiskG
import Derived.Test.YtocjjigmpgekfaaTxtA
open Go Go.Den Go.Proofs
namespace Go.Den
/-- Rows of bytes in a row. -/
def Rows2 (w : World) (a : Option Addr) (xss : List (List UInt8)) : Prop :=
  xss = [] ∨ ∃ (b o : Nat) (H : List Value), a = some ⟨b, o, none⟩ ∧ At w b o H ∧ H.length = xss.length ∧ ∀ (r : Nat) (x : List UInt8), xss[r]? = some x → ∃ (ar : Option Addr) (cr : Nat), H[r]? = some (Value.slice ar x.length cr) ∧ Row w ar (u8L x) ∧ x.length ≤ 9223372036854775807
theorem Rows2.nos {w w' : World} {a : Option Addr} {xss : List (List UInt8)} (h : Rows2 w a xss) (m : Mod No w w') : Rows2 w' a xss := by
  rcases h with h | ⟨b, o, H, h1, h2, h3, h4⟩
  · exact .inl h
  · refine .inr ⟨b, o, H, h1, h2.keep m id, h3, fun r x hx => ?_⟩
    obtain ⟨ar, cr, e1, e2, e3⟩ := h4 r x hx
    exact ⟨ar, cr, e1, e2.nos m, e3⟩
end Go.Den
namespace Go.Proofs.Ytocjjigmpgekfaa
section
variable {w : World} {D : St}
theorem wr_ok {i : Nat} {v : List Bk} {ys : List UInt8} (hv : D.vs[i]? = some v) (hy : ys.length = 256) (hl : D.left ≠ 0) : wrE D i ys = 0 ∧ wrSt D i ys = ⟨D.vs.set i (v ++ [ys]), dec D.left⟩ := by
  rcases err_cases (D := D) (i : Int) with ⟨_, ho⟩ | ⟨he, j, u, hj, hu, hver⟩
  · have := (List.getElem?_eq_some_iff.1 hv).1; omega
  · have : j = i := by omega
    subst this
    have : u = v := by rw [hu] at hv; exact Option.some.inj hv
    subst this
    have hw : wrE D j ys = 0 := by unfold wrE; rw [he, if_neg (by omega), if_neg (by omega)]
    refine ⟨hw, ?_⟩
    unfold wrSt; rw [if_neg (by omega), hver]; rfl
theorem rd_ok {i : Nat} {v : List Bk} (hv : D.vs[i]? = some v) : errOf D i = 0 ∧ rdB D i = lastV v := by
  rcases err_cases (D := D) (i : Int) with ⟨_, ho⟩ | ⟨he, j, u, hj, hu, hver⟩
  · have := (List.getElem?_eq_some_iff.1 hv).1; omega
  · have : j = i := by omega
    subst this
    have : u = v := by rw [hu] at hv; exact Option.some.inj hv
    subst this
    exact ⟨he, by unfold rdB; rw [if_pos he, hver]⟩
theorem pickV_mem {pick : List Int} {i : Nat} {v : List Bk} (hv : v ≠ []) : pickV D pick i v ∈ v := by
  have h := kOf_in pick ((openN D).idxOf i) v.tail.length
  have hl : v.tail.length = v.length - 1 := List.length_tail
  have hp := List.length_pos_iff.2 hv
  have hlt : (kOf pick ((openN D).idxOf i) v.tail.length).toNat < v.length := by omega
  unfold pickV
  rw [List.getD_eq_getElem?_getD, List.getElem?_eq_getElem hlt]
  exact List.getElem_mem hlt

def S0 (F : Bk) (ws : List Bk) : St := ⟨[[F], F :: ws], -1⟩
theorem S0_small {F : Bk} {ws : List Bk} (h : ws.length ≤ 20) : ∀ v ∈ (S0 F ws).vs, v.length ≤ 999999 := by
  intro v hv
  simp [S0] at hv
  rcases hv with rfl | rfl
  · simp
  · simp; omega

end
end Go.Proofs.Ytocjjigmpgekfaa
