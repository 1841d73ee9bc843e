/- Layer 2, the document's disk: new ones, and those of bytes. -/
import Derived.Test.YtgcecmfjpljpcaaRefC
open Go Go.Den Go.Proofs
namespace Go.Den
theorem At_ne {w : World} {q g o o' : Nat} {x y : Value} {r r' : List Value} (h : At w q o (x :: r)) (k : At w g o' (y :: r')) (ho : o = o') (hne : x ≠ y) : q ≠ g := by
  rintro rfl
  subst ho
  obtain ⟨l, t, fz, h1, h2, h3⟩ := h
  obtain ⟨l', t', fz', k1, k2, k3⟩ := k
  rw [h1] at k1
  simp at k1
  obtain ⟨rfl, _⟩ := k1
  have a1 := take_drop_get h3 0 (by simp)
  have a2 := take_drop_get k3 0 (by simp)
  rw [a1] at a2
  simp at a2
  exact hne a2
theorem hdrs_snoc {hs : List (Nat × Nat)} {vs : List (List Bk)} (h : hs.length = vs.length) (q c : Nat) (v : List Bk) : hdrs (hs ++ [(q, c)]) (vs ++ [v]) = hdrs hs vs ++ [.slice (some ⟨q, 0, none⟩) v.length c] := by
  unfold hdrs; rw [List.zipWith_append h]; rfl
end Go.Den
namespace Go.Proofs.Ytgcecmfjpljpcaa
theorem elemZ_blks : elemZ Try.prog 104 1 (.slice none 0 0) 24 := by unfold elemZ; kernel_rfl
theorem elemZ_strs : elemZ Try.prog 44 1 (.string ByteArray.empty) 16 := by unfold elemZ; kernel_rfl
theorem built_str (w : World) (s : ByteArray) : (Instr.buildSlice 44 1 #[(0, .string s)]).run Try.prog w = .ok (.slice (some ⟨w.heap.size, 0, none⟩) 1 1) (w.alloc (.cells ⟨[.string s]⟩ 9)) := by kernel_rfl
theorem build_blk (w : World) (a : Option Addr) (l c : Nat) : (Instr.build 109 #[(0, .slice a l c)]).run Try.prog w = .ok (.agg ⟨[.slice a l c]⟩) w := by kernel_rfl
theorem built_blk (w : World) (a : Option Addr) (l c : Nat) : (Instr.buildSlice 104 1 #[(0, .agg ⟨[.slice a l c]⟩)]).run Try.prog w = .ok (.slice (some ⟨w.heap.size, 0, none⟩) 1 1) (w.alloc (.cells ⟨[.slice a l c]⟩ 109)) := by kernel_rfl
theorem build_ref (w : World) : (Instr.build 106 #[]).run Try.prog w = .ok (.agg ⟨[.slice none 0 0, .bool false, .int .i64 0]⟩) w := by kernel_rfl

/-- A disk that is being built. -/
structure Bld (w0 w : World) (b : Nat) (a : Option Addr) (l c : Nat) (hs : List (Nat × Nat)) (vs : List (List Bk)) : Prop where
  cell : AtU w b 0 [.slice a l c, .bool false, .int .i64 0]
  own : Own Try.prog w (b + 1) 104 1 a l c (hdrs hs vs)
  hl : hs.length = vs.length
  row : ∀ (i : Nat) (v : List Bk), vs[i]? = some v → ∃ q cc, hs[i]? = some (q, cc) ∧ v.length ≤ cc ∧ At w q 0 (v.map strV) ∧ v ≠ [] ∧ b < q
  mod : Mod No w0 w
  b0 : w0.heap.size ≤ b
section
variable {w0 w : World} {b l c : Nat} {a : Option Addr} {hs : List (Nat × Nat)} {vs : List (List Bk)} {K : Value → World → Prop}
theorem Bld.len (h : Bld w0 w b a l c hs vs) : l = vs.length := by
  have := h.own.len
  simp [hdrs, h.hl] at this; exact this.symm
theorem Bld.nos {w' : World} (h : Bld w0 w b a l c hs vs) (m : Mod No w w') : Bld w0 w' b a l c hs vs where
  cell := h.cell.keep m id
  own := h.own.nos m
  hl := h.hl
  row := fun i v hv => by
    obtain ⟨q, cc, h1, h2, h3, h4⟩ := h.row i v hv
    exact ⟨q, cc, h1, h2, h3.keep m id, h4⟩
  mod := h.mod.no m
  b0 := h.b0
theorem Bld.ld (h : Bld w0 w b a l c hs vs) : Ru (Instr.loadAt 104 (.pointer (some (Addr.add ⟨b, 0, none⟩ 0)))) w (.slice a l c) w := by
  rw [add_none]; exact h.cell.at.load (by kernel_rfl) rfl
theorem Bld.start (w : World) : Bld w (w.alloc (.cells (Value.agg ⟨[.slice none 0 0, .bool false, .int .i64 0]⟩).cells 106)) w.heap.size none 0 0 [] [] where
  cell := AtU.new
  own := Own.nil elemZ_blks
  hl := rfl
  row := fun i v hv => by simp at hv
  mod := (Mod.refl No w).alloc _
  b0 := Nat.le_refl _
theorem hdr_first {i : Nat} {v : List Bk} (hl : hs.length = vs.length) (hv : vs[i]? = some v) : ∃ q cc u r, hdrs hs vs = .slice (some ⟨q, 0, none⟩) (List.length (u : List Bk)) cc :: r := by
  cases vs with
  | nil => simp at hv
  | cons u r =>
    cases hs with
    | nil => simp at hl
    | cons p r' => exact ⟨p.1, p.2, u, _, rfl⟩

/-- One block more. -/
theorem Bld.step (h : Bld w0 w b a l c hs vs) (x : Bk) (hl : l ≤ 5000) :
    ∃ a' c' w6 w7, Ru (Builtin.append_ #[104, 104] 104 #[.slice a l c, .slice (some ⟨(w.alloc (.cells ⟨[.string ⟨x.toArray⟩]⟩ 9)).heap.size, 0, none⟩) 1 1])
        ((w.alloc (.cells ⟨[.string ⟨x.toArray⟩]⟩ 9)).alloc (.cells ⟨[.slice (some ⟨w.heap.size, 0, none⟩) 1 1]⟩ 109)) (.slice a' (l + 1) c') w6 ∧
      RuU (Instr.storeAt 104 (.pointer (some (Addr.add ⟨b, 0, none⟩ 0))) (.slice a' (l + 1) c')) w6 w7 ∧ Bld w0 w7 b a' (l + 1) c' (hs ++ [(w.heap.size, 1)]) (vs ++ [[x]]) := by
  have m1 : Mod No w (w.alloc (.cells ⟨[.string ⟨x.toArray⟩]⟩ 9)) := (Mod.refl No w).alloc _
  have atx : At (w.alloc (.cells ⟨[.string ⟨x.toArray⟩]⟩ 9)) w.heap.size 0 ([x].map strV) := AtU.new.at
  have hs1 : (w.alloc (.cells ⟨[.string ⟨x.toArray⟩]⟩ 9)).heap.size = w.heap.size + 1 := by simp
  have hb := h.cell.lt
  generalize w.alloc (.cells ⟨[.string ⟨x.toArray⟩]⟩ 9) = w4 at *
  have m2 : Mod No w4 (w4.alloc (.cells ⟨[.slice (some ⟨w.heap.size, 0, none⟩) 1 1]⟩ 109)) := (Mod.refl No w4).alloc _
  have aty : At (w4.alloc (.cells ⟨[.slice (some ⟨w.heap.size, 0, none⟩) 1 1]⟩ 109)) w4.heap.size 0 [.slice (some ⟨w.heap.size, 0, none⟩) 1 1] := AtU.new.at
  have hs2 : (w4.alloc (.cells ⟨[.slice (some ⟨w.heap.size, 0, none⟩) 1 1]⟩ 109)).heap.size = w4.heap.size + 1 := by simp
  generalize w4.alloc (.cells ⟨[.slice (some ⟨w.heap.size, 0, none⟩) 1 1]⟩ 109) = w5 at *
  have h5 := (h.nos m1).nos m2
  have atx5 := atx.keep m2 id
  obtain ⟨a', c', w6, h6, o6, m6⟩ := h5.own.append' (ty := 104) (a2 := some ⟨w4.heap.size, 0, none⟩) (m := 1) (c2 := 1) (ys := [.slice (some ⟨w.heap.size, 0, none⟩) 1 1]) elemZ_blks (by omega) (.inr ⟨_, _, rfl, aty⟩) rfl (by simp) (by simp; rfl) (by omega) (by omega) (by omega)
  have hbq : ∀ q, a = some q → b + 1 ≤ q.block := fun q hq => (h5.own.base hq).1
  have hbq2 : ∀ q, a = some q → q.block < w.heap.size := fun q hq => (h.own.base hq).2
  have c6 := h5.cell.keep m6 (fun ⟨q, hq, e⟩ => by have := hbq q hq; omega)
  obtain ⟨w7, s1, s2, s3, s4⟩ := c6.store (P := Try.prog) (T := 104) (i := 0) (v := .slice a' (l + 1) c') (by kernel_rfl) (by simp) rfl
  refine ⟨a', c', w6, w7, h6, by rw [add_none]; exact s1, ?_⟩
  exact { cell := by simpa using s2
          own := by
            rw [hdrs_snoc h.hl]
            exact o6.keep s3 fun q hq e => by have := (o6.base hq).1; omega
          hl := by simp [h.hl]
          row := fun i v hv => by
            by_cases hi : i < vs.length
            · rw [List.getElem?_append_left hi] at hv
              obtain ⟨q, cc, r1, r2, r3, r4, r5⟩ := h5.row i v hv
              refine ⟨q, cc, by rw [List.getElem?_append_left (by rw [h.hl]; exact hi)]; exact r1, r2, (r3.keep m6 fun ⟨p, hp, e⟩ => ?_).keep s3 (by omega), r4, r5⟩
              obtain ⟨q1, c1, u1, r, hf⟩ := hdr_first h.hl hv
              have hpos : 0 < l := by rw [h.len]; omega
              obtain ⟨g, hg, _, hat⟩ := h5.own.sm hpos
              rw [hf] at hat
              cases v with
              | nil => exact r4 rfl
              | cons y rr =>
                have := At_ne r3 hat.at rfl (by simp [strV])
                rw [hg] at hp; cases hp
                exact this e
            · have hi2 : i = vs.length := by
                have := (List.getElem?_eq_some_iff.1 hv).1
                simp at this; omega
              subst hi2
              rw [List.getElem?_append_right (Nat.le_refl _), Nat.sub_self] at hv
              simp at hv; subst hv
              refine ⟨w.heap.size, 1, by rw [← h.hl]; simp, by simp, (atx5.keep m6 fun ⟨p, hp, e⟩ => ?_).keep s3 (by omega), by simp, hb⟩
              have := hbq2 p hp; omega
          mod := ((h5.mod.trans m6 fun y hy ⟨q, hq, e⟩ => by have := hbq q hq; have := h.b0; omega).trans s3 fun y hy e => by have := h.b0; omega)
          b0 := h.b0 }
theorem Bld.done (h : Bld w0 w b a l c hs vs) (hwf : WF ⟨vs, -1⟩) : ∃ vb, RefIn w (fun x => w0.heap.size ≤ x ∧ x < w.heap.size) b vb c hs ⟨vs, -1⟩ := by
  have hlo := hwf.lo
  have hlen := h.len
  simp only at hlo
  obtain ⟨g, rfl, hg, hat⟩ := h.own.sm (by omega)
  have hcap := h.own.cap
  have hb0 := h.b0
  refine ⟨g, ?_⟩
  exact { cell := by have := h.cell; rw [hlen] at this; exact this
          vec := hat
          cap := by simp only; omega
          hl := h.hl
          row := fun i v hv => by
            obtain ⟨q, cc, r1, r2, r3, r4, r5⟩ := h.row i v hv
            refine ⟨q, cc, r1, r2, r3, ⟨by omega, r3.lt⟩, by omega, ?_⟩
            obtain ⟨q1, c1, u1, r, hf⟩ := hdr_first h.hl hv
            rw [hf] at hat
            cases v with
            | nil => exact absurd rfl r4
            | cons y rr => exact At_ne r3 hat.at rfl (by simp [strV])
          rb := ⟨hb0, h.cell.lt⟩
          rv := ⟨by omega, hat.lt⟩
          ne := by omega
          wf := hwf
          lt := fun x hx => hx.2 }
end
end Go.Proofs.Ytgcecmfjpljpcaa
