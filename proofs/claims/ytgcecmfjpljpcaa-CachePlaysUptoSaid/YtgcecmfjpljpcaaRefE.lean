/- Layer 2: new disks of the document's; disks of bytes, both. -/
import Derived.Test.YtgcecmfjpljpcaaRefD
open Go Go.Den Go.Proofs
namespace Go.Den
theorem Row.cut2 {w : World} {a : Option Addr} {c i m : Nat} {xs : List UInt8} (h : Row w a (u8L xs)) (him : i + m ≤ xs.length) (hc : xs.length ≤ c) : Row w (cutA a c i 1) (u8L ((xs.drop i).take m)) := by
  by_cases hm : m = 0
  · left; subst hm; simp [u8L]
  · exact Row.sub h him hc (by omega)
theorem DiskIn.widen {w : World} {R R' : Nat → Prop} {b sb mb sc : Nat} {L : List (Int × Value)} {D : St} (h : DiskIn w R b sb mb sc L D) (h1 : ∀ x, R x → R' x) (h2 : ∀ x, R' x → x < w.heap.size) : DiskIn w R' b sb mb sc L D where
  cell := h.cell
  cap := h.cap
  safe := h.safe
  map := h.map
  rb := h1 _ h.rb
  rs := h1 _ h.rs
  rm := h1 _ h.rm
  ne := h.ne
  opn := fun i v hv => by
    rcases h.opn i v hv with h | ⟨g1, vb, c, g2, g3, g4, g5, g6⟩
    · exact .inl h
    · exact .inr ⟨g1, vb, c, g2, g3, g4, h1 _ g5, g6⟩
  keys := h.keys
  wf := h.wf
  lt := h2
end Go.Den
namespace Go.Proofs.Ytgcecmfjpljpcaa
section
variable {w : World} {K : Value → World → Prop}
theorem none_c (hk : ∀ w', Mod No w w' → K (.string ⟨zeroB.toArray⟩) w') : Cal Try.prog F_leveeref02_none #[] w K := by
  apply C_leveeref02_none
  unfold D_leveeref02_none
  obtain ⟨w1, hm1, hat1, hmod1, hsz1⟩ := makeSlice_run (P := Try.prog) (w := w) (n := 256) elemZ_bytes (by omega) (by omega) (by omega)
  have hz : List.replicate (256 * 1) (Value.int .u8 0) = u8L zeroB := by unfold u8L zeroB; rw [List.map_replicate]; rfl
  rw [hz] at hat1
  exact ⟨_, _, _, w1, hm1, _, str_run (by kernel_rfl) (.inr ⟨_, _, rfl, hat1.at⟩) List.length_replicate, hk w1 hmod1⟩

theorem refNew_c {n : Int} (h0 : -9223372036854775808 ≤ n) (h1 : n ≤ 9223372036854775807) (hbad : n < 1 ∨ 4096 < n → K (.tuple #[.pointer none, .int .i64 1]) w)
    (hok : ∀ k : Nat, n = k → 1 ≤ k → k ≤ 4096 → ∀ w' b vb vc hs, Mod No w w' → RefIn w' (fun x => w.heap.size ≤ x ∧ x < w'.heap.size) b vb vc hs (newSt k) → K (.tuple #[.pointer (some ⟨b, 0, none⟩), .int .i64 0]) w') :
    Cal Try.prog F_leveeref02_New #[.int .i64 n] w K := by
  apply C_leveeref02_New
  unfold D_leveeref02_New
  refine Share.or ⟨_, rfl, cond_of (fun hb => ?_) (fun hb => ?_)⟩
  · exact hbad (by simpa using hb)
  have hn : ¬ (n < 1 ∨ 4096 < n) := by simpa using hb
  obtain ⟨k, rfl⟩ := Int.eq_ofNat_of_zero_le (show 0 ≤ n by omega)
  refine ⟨_, fun w => build_ref w, _, _, box_run, ?_⟩
  refine ⟨fun x w2 => ∃ (i : Nat) (a : Option Addr) (c : Nat) (hs : List (Nat × Nat)), i ≤ k ∧ x = [.int .i64 i] ∧ Bld w w2 w.heap.size a i c hs (List.replicate i [zeroB]), fun x _ => (k - nI x 0).toNat, ⟨0, none, 0, [], by omega, rfl, Bld.start w⟩, ?_⟩
  rintro x w2 ⟨i, a, c, hs, hi, rfl, hB⟩
  refine ⟨_, rfl, cond_of (fun hb => ?_) (fun hb => ?_)⟩
  · have hi : i < k := by have := of_decide_eq_true hb; omega
    have hBd := hB.nos (Mod.refl No w2).drew
    refine ⟨_, rfl, _, _, _, hBd.ld, none_c fun w3 m3 => ⟨_, rfl, (hBd.nos m3).ld, _, _, _, _, built_str _ _, ?_⟩⟩
    have hB3 := hBd.nos m3
    have m4 : Mod No w3 (w3.alloc (.cells ⟨[.string ⟨zeroB.toArray⟩]⟩ 9)) := (Mod.refl No w3).alloc _
    refine ⟨(hB3.nos m4).ld, _, fun w => build_blk w _ _ _, _, _, _, _, built_blk _ _ _ _, ?_⟩
    have m5 : Mod No (w3.alloc (.cells ⟨[.string ⟨zeroB.toArray⟩]⟩ 9)) ((w3.alloc (.cells ⟨[.string ⟨zeroB.toArray⟩]⟩ 9)).alloc (.cells ⟨[.slice (some ⟨w3.heap.size, 0, none⟩) 1 1]⟩ 109)) := (Mod.refl No _).alloc _
    refine ⟨((hB3.nos m4).nos m5).ld, ?_⟩
    obtain ⟨a', c', w6, w7, s1, s2, s3⟩ := hB3.step zeroB (by omega)
    refine ⟨_, _, _, w6, s1, _, rfl, w7, s2, ?_⟩
    rw [wrap64 (x := (i : Int) + 1) (by omega) (by omega)]
    refine ⟨⟨i + 1, a', c', hs ++ [(w3.heap.size, 1)], by omega, rfl, ?_⟩, by simp [nI, nth]; omega⟩
    have e : List.replicate (i + 1) [zeroB] = List.replicate i [zeroB] ++ [[zeroB]] := List.replicate_succ'
    rw [e]; exact s3
  · have hik : i = k := by have := of_decide_eq_false hb; omega
    subst hik
    obtain ⟨vb, hR⟩ := hB.done (WF.new (by omega) (by omega))
    exact hok i rfl (by omega) (by omega) w2 _ vb c hs hB.mod hR

def chunk (xs : List UInt8) (i : Nat) : Bk := (xs.drop (256 * i)).take 256
def ldSt (k : Nat) (xs : List UInt8) : St := ⟨(List.range k).map fun i => [chunk xs i], -1⟩
theorem chunk_len {xs : List UInt8} {k i : Nat} (hl : xs.length = 256 * k) (hi : i < k) : (chunk xs i).length = 256 := by
  unfold chunk; simp; omega
theorem WF.ld {xs : List UInt8} {k : Nat} (hl : xs.length = 256 * k) (h0 : 1 ≤ k) (h1 : k ≤ 4096) : WF (ldSt k xs) where
  ver := by
    intro v hv
    obtain ⟨i, hi, rfl⟩ := List.mem_map.1 hv
    refine ⟨by simp, fun x hx => ?_⟩
    simp at hx; subst hx
    exact chunk_len hl (List.mem_range.1 hi)
  lo := by simp [ldSt]; exact h0
  hi := by simp [ldSt]; exact h1
  l0 := by simp [ldSt]
  l1 := by simp [ldSt]

/-- A disk that is being loaded. -/
def ldP (k i : Nat) (xs : List UInt8) : St := ⟨(List.range k).map fun j => [if j < i then chunk xs j else zeroB], -1⟩
theorem ldP_zero (k : Nat) (xs : List UInt8) : ldP k 0 xs = newSt k := by
  unfold ldP newSt
  congr 1
  rw [List.eq_replicate_iff]
  refine ⟨by simp, fun b hb => ?_⟩
  obtain ⟨i, _, rfl⟩ := List.mem_map.1 hb
  rfl
theorem ldP_all (k : Nat) (xs : List UInt8) : ldP k k xs = ldSt k xs := by
  unfold ldP ldSt
  congr 1
  refine List.map_congr_left fun i hi => ?_
  rw [if_pos (List.mem_range.1 hi)]
theorem ldP_get {k i : Nat} {xs : List UInt8} (hi : i < k) : (ldP k i xs).vs[i]? = some [zeroB] := by
  simp [ldP, hi]
theorem ldP_step {k i : Nat} {xs : List UInt8} (hi : i < k) : (⟨(ldP k i xs).vs.set i (chunk xs i :: ([zeroB] : List Bk).tail), -1⟩ : St) = ldP k (i + 1) xs := by
  unfold ldP
  congr 1
  apply List.ext_getElem?
  intro j
  by_cases hj : i = j
  · subst hj
    rw [List.getElem?_set_self (by simpa using hi)]
    simp [hi]
  · rw [List.getElem?_set_ne hj, List.getElem?_map, List.getElem?_map]
    by_cases hjk : j < k
    · rw [List.getElem?_range hjk]
      simp only [Option.map_some]
      by_cases h1 : j < i
      · rw [if_pos h1, if_pos (by omega)]
      · rw [if_neg h1, if_neg (by omega)]
    · rw [List.getElem?_eq_none (by simp; omega)]; rfl

end
end Go.Proofs.Ytgcecmfjpljpcaa
