/- Look-ups in lists of pairs; how many versions a disk's blocks have. -/
import Derived.Test.YtocjjigmpgekfaaDiskG
open Go Go.Den Go.Proofs
namespace Go.Den
theorem look_of_mem : ∀ {L : List (Int × Value)} {k : Int} {v : Value}, (L.map (·.1)).Nodup → (k, v) ∈ L → lookupL L k = some v
  | p :: r, k, v, hn, hm => by
    rw [List.map_cons, List.nodup_cons] at hn
    simp only [lookupL]
    rcases List.mem_cons.1 hm with e | hm
    · subst e; rw [if_pos rfl]
    · have hne : p.1 ≠ k := fun e => hn.1 (by rw [e]; exact List.mem_map.2 ⟨_, hm, rfl⟩)
      rw [if_neg hne]; exact look_of_mem hn.2 hm
theorem look_none_of {L : List (Int × Value)} {k : Int} (h : ∀ p ∈ L, p.1 ≠ k) : lookupL L k = none := by
  induction L with
  | nil => rfl
  | cons p r ih =>
    simp only [lookupL]
    rw [if_neg (h p (by simp))]
    exact ih fun q hq => h q (by simp [hq])
theorem look_perm {L L' : List (Int × Value)} (hp : L'.Perm L) (hn : (L.map (·.1)).Nodup) (k : Int) : lookupL L' k = lookupL L k := by
  cases h : lookupL L k with
  | none => exact look_none_of fun p hp' => look_notin h p (hp.mem_iff.1 hp')
  | some v => exact look_of_mem ((hp.map (·.1)).nodup_iff.2 hn) (hp.mem_iff.2 (look_mem h))
theorem putL_new {L : List (Int × Value)} {k : Int} {v : Value} (h : ∀ p ∈ L, p.1 ≠ k) : putL k v L = L ++ [(k, v)] := by
  induction L with
  | nil => rfl
  | cons p r ih =>
    simp only [putL]
    rw [if_neg (h p (by simp)), ih fun q hq => h q (by simp [hq])]; rfl
theorem map_inj {α β : Type} {f : α → β} : ∀ {l : List α}, (l.map f).Nodup → ∀ {x e : α}, x ∈ l → e ∈ l → f x = f e → x = e
  | [], _, x, e, hx, _, _ => by cases hx
  | y :: r, hn, x, e, hx, he, h => by
    rw [List.map_cons, List.nodup_cons] at hn
    rcases List.mem_cons.1 hx with hx | hx
    · rcases List.mem_cons.1 he with he | he
      · rw [hx, he]
      · exact absurd (List.mem_map.2 ⟨e, he, by rw [← h, hx]⟩) hn.1
    · rcases List.mem_cons.1 he with he | he
      · exact absurd (List.mem_map.2 ⟨x, hx, by rw [h, he]⟩) hn.1
      · exact map_inj hn.2 hx he h
end Go.Den
namespace Go.Proofs.Ytocjjigmpgekfaa
section
variable {D : St}
def Bnd (D : St) (m : Nat) : Prop := ∀ v ∈ D.vs, v.length ≤ m
theorem Bnd.mono {m m' : Nat} (h : Bnd D m) (hm : m ≤ m') : Bnd D m' := fun v hv => Nat.le_trans (h v hv) hm
theorem Bnd_wr {m : Nat} (h : Bnd D m) (n : Int) (ys : List UInt8) : Bnd (wrSt D n ys) (m + 1) := by
  unfold wrSt
  split
  · exact h.mono (by omega)
  · intro v hv
    rcases List.mem_or_eq_of_mem_set hv with hv | rfl
    · have := h v hv; omega
    · have : (verOf D n).length ≤ m := by
        rcases err_cases (D := D) n with ⟨_, ho⟩ | ⟨_, i, u, rfl, hu, hver⟩
        · rw [verOf_none ho]; simp
        · rw [hver]; exact h u (List.mem_of_getElem? hu)
      simp; omega
theorem len_wr (D : St) (n : Int) (ys : List UInt8) : (wrSt D n ys).vs.length = D.vs.length := by unfold wrSt; split <;> simp
end
end Go.Proofs.Ytocjjigmpgekfaa
