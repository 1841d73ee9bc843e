/- Layer 2: a disk of one's own, made since a world; the fixed calls. -/
import Derived.Test.YtocjjigmpgekfaaDiskF
import Derived.Lib.SlBytesConst
open Go Go.Den Go.Proofs
namespace Go.Proofs.Ytocjjigmpgekfaa
/-- A disk that has been made since w0, of blocks below N. -/
def Dk (w0 : World) (N : Nat) (w : World) (b : Nat) (D : St) : Prop :=
  ∃ R sb mb sc L, DiskIn w R b sb mb sc L D ∧ (∀ x, R x → w0.heap.size ≤ x ∧ x < N) ∧ Mod No w0 w ∧ N ≤ w.heap.size
section
variable {w0 w : World} {N b : Nat} {D : St} {K : Value → World → Prop}
theorem Dk.nos {w' : World} (h : Dk w0 N w b D) (m : Mod No w w') : Dk w0 N w' b D := by
  obtain ⟨R, sb, mb, sc, L, h1, h2, h3, h4⟩ := h
  exact ⟨R, sb, mb, sc, L, h1.nos m, h2, h3.no m, Nat.le_trans h4 m.size⟩
theorem Dk.mod (h : Dk w0 N w b D) : Mod No w0 w := by obtain ⟨_, _, _, _, _, _, _, h, _⟩ := h; exact h
theorem Dk.size (h : Dk w0 N w b D) : N ≤ w.heap.size := by obtain ⟨_, _, _, _, _, _, _, _, h⟩ := h; exact h
theorem Dk.wf (h : Dk w0 N w b D) : WF D := by obtain ⟨_, _, _, _, _, h, _⟩ := h; exact h.wf
theorem Dk.le (h : Dk w0 N w b D) : w0.heap.size ≤ N := by
  obtain ⟨R, _, _, _, _, h1, h2, _⟩ := h
  have := h2 _ h1.rb; omega

theorem Dk_New {n : Nat} (h0 : 1 ≤ n) (h1 : n ≤ 4096) (hk : ∀ w' b, Dk w w'.heap.size w' b (newSt n) → K (.tuple #[.pointer (some ⟨b, 0, none⟩), .int .i64 0]) w') : Cal Try.prog F_disk_New #[.int .i64 n] w K := by
  refine New_c (by omega) (by omega) (fun h => by omega) fun k hk' _ _ w' b sb mb m h => ?_
  have : k = n := by omega
  subst this
  exact hk w' b ⟨_, sb, mb, k, [], h, fun x hx => hx, m, Nat.le_refl _⟩
theorem Dk_Write (h : Dk w0 N w b D) (hs : ∀ v ∈ D.vs, v.length ≤ 999999) {n : Int} {a : Option Addr} {l c : Nat} {ys : List UInt8} (hl : ys.length = l) (hr : Row w a (u8L ys)) (hdis : ∀ q, a = some q → q.block < w0.heap.size ∨ N ≤ q.block)
    (hk : ∀ w', Dk w0 w'.heap.size w' b (wrSt D n ys) → K (.int .i64 (wrE D n ys)) w') : Cal Try.prog F_disk_Disk_Write #[.pointer (some ⟨b, 0, none⟩), .int .i64 n, .slice a l c] w K := by
  obtain ⟨R, sb, mb, sc, L, h1, h2, h3, h4⟩ := h
  refine Write_c h1 hs hl hr (fun q hq hR => ?_) fun w' L' m hd' => hk w' ⟨Gro R w w', sb, mb, sc, L', hd', fun x hx => ?_, h3.trans m fun x hx hR => ?_, Nat.le_refl _⟩
  · have := h2 _ hR
    rcases hdis q hq with h | h <;> omega
  · rcases hx with hx | hx
    · have := h2 x hx; have := m.size; omega
    · have := h3.size; omega
  · have := h2 x hR; omega
theorem Dk_Flush (h : Dk w0 N w b D) (hs : Small D) (hk : ∀ w', Dk w0 w'.heap.size w' b (flSt D) → K (.int .i64 0) w') : Cal Try.prog F_disk_Disk_Flush #[.pointer (some ⟨b, 0, none⟩)] w K := by
  obtain ⟨R, sb, mb, sc, L, h1, h2, h3, h4⟩ := h
  refine Flush_c h1 hs fun w' L' m hd' => hk w' ⟨R, sb, mb, sc, L', hd', fun x hx => ?_, h3.trans m fun x hx hR => ?_, Nat.le_refl _⟩
  · have := h2 x hx; have := m.size; omega
  · have := h2 x hR; omega
theorem Dk_Crash (h : Dk w0 N w b D) (hs : Small D) {a1 : Option Addr} {l1 c1 : Nat} {pick : List Int} (hpl : pick.length = l1) (hpr : Row w a1 (iL pick)) (hdis : pick ≠ [] → ∀ q, a1 = some q → q.block < w0.heap.size ∨ N ≤ q.block) (h63 : l1 ≤ 9223372036854775807)
    (hk : ∀ w', Dk w0 w'.heap.size w' b (crSt D pick) → K (.tuple #[]) w') : Cal Try.prog F_disk_Disk_Crash #[.pointer (some ⟨b, 0, none⟩), .slice a1 l1 c1] w K := by
  obtain ⟨R, sb, mb, sc, L, h1, h2, h3, h4⟩ := h
  refine Crash_c h1 hs hpl hpr (fun hp q hq hR => ?_) h63 fun w' m hd' => hk w' ⟨R, sb, mb, sc, [], hd', fun x hx => ?_, h3.trans m fun x hx hR => ?_, Nat.le_refl _⟩
  · have := h2 _ hR
    rcases hdis hp q hq with h | h <;> omega
  · have := h2 x hx; have := m.size; omega
  · have := h2 x hR; omega
theorem Dk_Read (h : Dk w0 N w b D) (hs : Small D) {n : Int} (hk : ∀ w' a c, Mod No w w' → Dk w0 N w' b D → Fresh w w' a (rdB D n) → K (.tuple #[.slice a (rdB D n).length c, .int .i64 (errOf D n)]) w') : Cal Try.prog F_disk_Disk_Read #[.pointer (some ⟨b, 0, none⟩), .int .i64 n] w K := by
  have h' := h
  obtain ⟨R, sb, mb, sc, L, h1, h2, h3, h4⟩ := h
  exact Read_c h1 hs fun w' a c m hf => hk w' a c m (h'.nos m) hf
theorem Dk_Len (h : Dk w0 N w b D) (hk : K (.int .i64 D.vs.length) w) : Cal Try.prog F_disk_Disk_Len #[.pointer (some ⟨b, 0, none⟩)] w K := by
  obtain ⟨R, sb, mb, sc, L, h1, h2, h3, h4⟩ := h
  exact Len_c h1 hk
theorem Small.one {D : St} (h : ∀ v ∈ D.vs, v.length ≤ 999999) : Small D := fun v hv => by have := h v hv; omega

theorem conv_lit (w : World) (v : UInt8) : (convert 32 32 (.slice (some ⟨w.heap.size, 0, none⟩) 1 1)).run Try.prog (w.alloc (.cells ⟨[.int .u8 (v.toNat : Int)]⟩ 5)) =
    .ok (.slice (some ⟨w.heap.size, 0, none⟩) 1 1) (w.alloc (.cells ⟨[.int .u8 (v.toNat : Int)]⟩ 5 (1, 2))) :=
  Go.Lib.run_convert_bytes_const (P := Try.prog) w 32 5 ⟨[.int .u8 (v.toNat : Int)]⟩ 1 1 (by kernel_rfl) (by kernel_rfl)

def D1 : St := wrSt (newSt 3) 1 (fillB [65])
def D2 : St := flSt D1
def D3 : St := wrSt D2 1 (fillB [66])
def D4 : St := wrSt D3 1 (fillB [67])
def D5 : St := crSt D4 [1]
theorem known_read : rdB D5 1 = fillB [66] := by decide +kernel
theorem known_err : errOf D5 1 = 0 := by decide +kernel
theorem known_e1 : wrE (newSt 3) 1 (fillB [65]) = 0 := by decide +kernel
theorem known_wr : (verOf D5 1).tail.length = 0 := by decide +kernel
theorem known_len : D5.vs.length = 3 := by decide +kernel
theorem sm (D : St) (h : (D.vs.all fun v => decide (v.length ≤ 999999)) = true) : ∀ v ∈ D.vs, v.length ≤ 999999 := by
  intro v hv
  have := List.all_eq_true.1 h v hv
  exact of_decide_eq_true this
end
end Go.Proofs.Ytocjjigmpgekfaa
