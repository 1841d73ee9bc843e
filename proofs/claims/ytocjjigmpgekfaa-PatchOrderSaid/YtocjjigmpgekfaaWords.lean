/- Small laws for proofs over the denotation. -/
import Derived.Test.YtocjjigmpgekfaaIds
open Go Go.Den
namespace Go.Den
section
variable {P : Program} {w : World}

theorem Share.dup {B : (List Value → World → Prop) → Prop} {C : List Value → World → Prop} (h : B C) : Share B C := ⟨C, fun _ _ h => h, h⟩
theorem Share.cut {B : (List Value → World → Prop) → Prop} {C : List Value → World → Prop} (J : List Value → World → Prop) (hB : B J) (hC : ∀ x w, J x w → C x w) : Share B C := ⟨J, hC, hB⟩
theorem tt {b : Bool} {T F : Prop} (hb : b = true) (h : T) : cond b T F := by rw [hb]; exact h
theorem ff {b : Bool} {T F : Prop} (hb : b = false) (h : F) : cond b T F := by rw [hb]; exact h
theorem or_cond {c d : Bool} {C : List Value → World → Prop} (h : C [.bool (c || d)] w) : bif c then C [.bool true] w else C [.bool d] w := by cases c <;> simpa using h
theorem and_cond {c d : Bool} {C : List Value → World → Prop} (h : C [.bool (c && d)] w) : bif c then C [.bool d] w else C [.bool false] w := by cases c <;> simpa using h

theorem Share.or {c d : Bool} {C : List Value → World → Prop} (h : C [.bool (c || d)] w) : Share (fun k => bif c then k [.bool true] w else k [.bool d] w) C := Share.dup (by cases c <;> simpa using h)
theorem Share.and {c d : Bool} {C : List Value → World → Prop} (h : C [.bool (c && d)] w) : Share (fun k => bif c then k [.bool d] w else k [.bool false] w) C := Share.dup (by cases c <;> simpa using h)

theorem wrap_in (k : IntKind) {x : Int} (h0 : k.min ≤ x) (h1 : x ≤ k.max) : k.wrap x = x := by
  cases k <;> simp only [IntKind.min, IntKind.max, IntKind.wrap, IntKind.bits, IntKind.signed] at * <;> simp at * <;> omega
theorem wrap64 {x : Int} (h0 : -9223372036854775808 ≤ x) (h1 : x ≤ 9223372036854775807) : IntKind.i64.wrap x = x := by
  simp only [IntKind.wrap, IntKind.bits, IntKind.signed] at *; simp at *; omega
theorem wrapU64 {x : Int} (h0 : 0 ≤ x) (h1 : x ≤ 18446744073709551615) : IntKind.u64.wrap x = x := by
  simp only [IntKind.wrap, IntKind.bits, IntKind.signed] at *; simp at *; omega
theorem wrapU8 {x : Int} : IntKind.u8.wrap x = x % 256 := by
  simp only [IntKind.wrap, IntKind.bits, IntKind.signed] at *; simp at *

theorem put_new {o o' : Obj} : put (w.alloc o) w.heap.size o' = w.alloc o' := by
  unfold put World.alloc
  congr 1
  apply Array.ext_getElem?
  intro i
  by_cases hi : w.heap.size = i
  · subst hi; simp
  · rw [Array.getElem?_setIfInBounds_ne hi, Array.getElem?_push, Array.getElem?_push, if_neg (fun e => hi e.symm), if_neg (fun e => hi e.symm)]

theorem store_new {T n : Nat} {z l : List Value} {t : TypeId} (hT : aggN P T = some n) (hz : z.length = n) (hl : l.length = n) (hv : ∀ v ∈ l, v.oneCell' = true) :
    (Instr.storeAt T (.pointer (some ⟨w.heap.size, 0, none⟩)) (.agg ⟨l⟩)).run P (w.alloc (.cells ⟨z⟩ t)) = .ok () (w.alloc (.cells ⟨l⟩ t)) := by
  rw [store_agg hT (heap_new w _) hl (by omega) (fun j _ _ => by simp) hv, put_new]
  have : splice z 0 l = l := by unfold splice; simp [hz, hl]
  rw [this]
theorem load_new {T n : Nat} {l : List Value} {t : TypeId} (hT : aggN P T = some n) (hl : l.length = n) :
    (Instr.loadAt T (.pointer (some ⟨w.heap.size, 0, none⟩))).run P (w.alloc (.cells ⟨l⟩ t)) = .ok (.agg ⟨l⟩) (w.alloc (.cells ⟨l⟩ t)) := by
  rw [load_agg hT (heap_new w _) (by omega)]
  simp [List.take_of_length_le (Nat.le_of_eq hl)]
theorem box_run {T : TypeId} {v : Value} : (Instr.box T v).run P w = .ok (.pointer (some ⟨w.heap.size, 0, none⟩)) (w.alloc (.cells v.cells T)) := rfl
theorem alloc_run {T : TypeId} {i : TypeInfo} {z : Value} (hi : P.info? T = some i) (hz : i.zero = some z) :
    (Instr.alloc T true (.tuple #[])).run P w = .ok (.pointer (some ⟨w.heap.size, 0, none⟩)) (w.alloc (.cells z.cells T)) := by
  simp [Instr.alloc, zeroValue, typeInfo, hi, hz, newVar, newRow]
theorem drew_alloc (o : Obj) : (drew w).alloc o = drew (w.alloc o) := rfl
theorem drew_put (b : Nat) (o : Obj) : put (drew w) b o = drew (put w b o) := rfl
end
end Go.Den
