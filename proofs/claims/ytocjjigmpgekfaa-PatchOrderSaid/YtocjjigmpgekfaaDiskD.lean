/- Layer 2, the program's disk: a write. -/
import Derived.Test.YtocjjigmpgekfaaDiskC
open Go Go.Den Go.Proofs
namespace Go.Den
section
variable {P : Program} {w : World}
theorem At.pre {g : Nat} {e : TypeId} {fz : Nat × Nat} {arr : Array Value} {cs rest : List Value} (h : w.heap[g]? = some (.cells arr e fz)) (ha : arr.toList = cs ++ rest) : At w g 0 cs :=
  ⟨arr.toList, e, fz, h, by rw [ha]; simp, by rw [ha]; simp⟩
theorem size_drew_alloc (o : Obj) : w.heap.size < (w.drew.alloc o).heap.size := by
  show w.heap.size < (w.heap.push o).size
  simp
/-- append of one element to a row that has no room: the row anew. -/
theorem append_full {T ty : TypeId} {k bytes l q : Nat} {z : Value} {a : Option Addr} {xs ys : List Value} (hT : elemZ P T k z bytes) (hk : 0 < k) (hx : xs.length = l * k)
    (hr : (l = 0 ∧ a = none) ∨ (0 < l ∧ ∃ b, a = some ⟨b, 0, none⟩ ∧ At w b 0 xs)) (hy : ys.length = k) (hyr : At w q 0 ys) (h63 : (l + 1) * bytes ≤ 140737488355328) (hb : 0 < bytes) :
    ∃ c' w', (Builtin.append_ #[T, T] ty #[.slice a l l, .slice (some ⟨q, 0, none⟩) 1 1]).run P w = .ok (.slice (some ⟨w.heap.size, 0, none⟩) (l + 1) c') w' ∧ l + 1 ≤ c' ∧ At w' w.heap.size 0 (xs ++ ys) ∧ Mod No w w' ∧ w.heap.size < w'.heap.size := by
  obtain ⟨e, i, zv, he, hi, hsz, hz, hzc, hby⟩ := hT.is
  have hnews : ∀ j v, ys[j]? = some v → w.cell? (Addr.add ⟨q, 0, none⟩ j) = some v := fun j v hj => hyr.cell hj
  have hle : l + 1 ≤ (l + 1) * bytes := Nat.le_mul_of_pos_right _ hb
  have hm : ∀ o : Obj, Mod No w (w.drew.alloc o) := fun o => ((Mod.refl No w).drew (b := w)).alloc o
  rcases hr with ⟨rfl, rfl⟩ | ⟨hl, b, rfl, hat⟩
  · have hx0 : xs = [] := List.eq_nil_of_length_eq_zero (by omega)
    subst hx0
    refine ⟨_, _, run_append_nil w T ty e i zv he hi hz ⟨q, 0, none⟩ 1 1 ys (by rw [hsz]; omega) hnews (by omega) (by omega) (by rw [hby]; omega), ?_, ?_, hm _, size_drew_alloc _⟩
    · exact grownCap_ge w 1 0 e
    · exact At.pre (heap_new w.drew _) (by rw [Array.toList_append]; rfl)
  · have holds : ∀ j v, xs[j]? = some v → w.cell? (Addr.add ⟨b, 0, none⟩ j) = some v := fun j v hj => hat.cell hj
    refine ⟨_, _, run_append_grow w T ty e i zv he hi hz ⟨b, 0, none⟩ l l xs (by rw [hsz]; exact hx) holds ⟨q, 0, none⟩ 1 1 ys (by rw [hsz]; omega) hnews (by omega) (by omega) (growslice_fits (by omega) (by rw [hby]; exact h63)), ?_, ?_, hm _, size_drew_alloc _⟩
    · exact grownCap_ge w (l + 1) l e
    · exact At.pre (heap_new w.drew _) (by rw [Array.toList_append, Array.toList_append])
end
/-- The blocks that a call on a disk may turn. -/
def Wr (b sb mb : Nat) : Nat → Prop := fun x => x = b ∨ x = sb ∨ x = mb
theorem DiskIn.wr {w : World} {R : Nat → Prop} {b sb mb sc : Nat} {L : List (Int × Value)} {D : St} (h : DiskIn w R b sb mb sc L D) {x : Nat} (hx : Wr b sb mb x) : R x := by
  rcases hx with rfl | rfl | rfl
  · exact h.rb
  · exact h.rs
  · exact h.rm
theorem DiskIn.gro {w' : World} {R : Nat → Prop} {b sb mb sc : Nat} {L : List (Int × Value)} {D : St} (w0 : World) (h : DiskIn w' R b sb mb sc L D) : DiskIn w' (Gro R w0 w') b sb mb sc L D where
  cell := h.cell
  cap := h.cap
  safe := h.safe
  map := h.map
  rb := .inl h.rb
  rs := .inl h.rs
  rm := .inl h.rm
  ne := h.ne
  opn := fun i v hv => by
    rcases h.opn i v hv with h | ⟨h1, vb, c, h2, h3, h4, h5, h6⟩
    · exact .inl h
    · exact .inr ⟨h1, vb, c, h2, h3, h4, .inl h5, h6⟩
  keys := h.keys
  wf := h.wf
  lt := fun x hx => by
    rcases hx with hx | hx
    · exact h.lt x hx
    · exact hx.2
end Go.Den

namespace Go.Proofs.Ytocjjigmpgekfaa
section
variable {w : World} {R : Nat → Prop} {b sb mb sc : Nat} {L : List (Int × Value)} {D : St} {K : Value → World → Prop}
def wrE (D : St) (n : Int) (ys : List UInt8) : Int := if errOf D n ≠ 0 then errOf D n else if ys.length ≠ 256 then 4 else 0
def wrSt (D : St) (n : Int) (ys : List UInt8) : St := if wrE D n ys ≠ 0 ∨ D.left = 0 then D else ⟨D.vs.set n.toNat (verOf D n ++ [ys]), dec D.left⟩

theorem arrayAt_block (a : Option Addr) (c : Nat) : Al (Instr.arrayAt 80 (.slice a 256 c)) (.pointer a) := fun _ => by kernel_rfl
theorem built_block {ys : List UInt8} (hy : ys.length = 256) (w : World) : (Instr.buildSlice 50 1 #[(0, .agg ⟨u8L ys⟩)]).run Try.prog w = .ok (.slice (some ⟨w.heap.size, 0, none⟩) 1 1) (w.alloc (.cells ⟨u8L ys⟩ 80)) := by
  obtain ⟨e, i, zv, he, hi, hsz, hz, hzc, hby⟩ := elemZ_blocks.is
  have hee : e = 80 := by
    have : Try.prog.underlying 50 = some (.slice 80) := by kernel_rfl
    rw [this] at he; simpa using he.symm
  subst hee
  have hf := Go.Great.fill_whole (s := 256) (by omega) [Value.agg ⟨u8L ys⟩] ((Array.range (1 * i.size)).map (zv.cells[· % zv.cells.size]!)) (by simp [Value.cells, hy]) (by simp [hsz])
  have := run_buildSlice w 50 80 1 #[(0, .agg ⟨u8L ys⟩)] ⟨u8L ys⟩ i zv he hi hz (by rw [hsz]; decide) (by rw [hsz]; decide) (by rw [hsz] at hf ⊢; simpa [Value.cells] using hf)
  exact this

theorem tail_set {v : List Bk} (hv : v ≠ []) (y : Bk) : (v ++ [y]).tail = v.tail ++ [y] ∧ hd (v ++ [y]) = hd v := by
  cases v with
  | nil => exact absurd rfl hv
  | cons a r => exact ⟨rfl, rfl⟩

set_option maxRecDepth 100000 in
theorem Write_p (h : DiskIn w R b sb mb sc L D) (hs : ∀ v ∈ D.vs, v.length ≤ 999999) {n : Int} {a : Option Addr} {l c : Nat} {ys : List UInt8} (hl : ys.length = l) (hr : Row w a (u8L ys)) (hdis : ∀ q, a = some q → ¬ R q.block)
    (hk : ∀ w' L', Mod (Wr b sb mb) w w' → DiskIn w' (Gro R w w') b sb mb sc L' (wrSt D n ys) → K (.int .i64 (wrE D n ys)) w') : Cal Try.prog F_disk_Disk_Write #[.pointer (some ⟨b, 0, none⟩), .int .i64 n, .slice a l c] w K := by
  apply C_disk_Disk_Write
  unfold D_disk_Disk_Write
  refine may_c h ⟨_, rfl, ?_⟩
  rcases err_cases (D := D) n with ⟨he, ho⟩ | ⟨he, i, v, rfl, hv, hver⟩
  · have hw : wrE D n ys = 3 := by unfold wrE; rw [he, if_pos (by omega)]
    have hS : wrSt D n ys = D := by unfold wrSt; rw [if_pos (.inl (by omega))]
    refine tt (by rw [he]; rfl) ?_
    have := hk w L (Mod.refl _ _) (by rw [hS]; exact h.gro w)
    rw [hw] at this; rw [he]; exact this
  refine ff (by rw [he]; rfl) (cond_of (fun hb => ?_) (fun hb => ?_))
  · have hne : ys.length ≠ 256 := by simp at hb; omega
    have hw : wrE D i ys = 4 := by unfold wrE; rw [he, if_neg (by omega), if_pos hne]
    have hS : wrSt D i ys = D := by unfold wrSt; rw [if_pos (.inl (by omega))]
    have := hk w L (Mod.refl _ _) (by rw [hS]; exact h.gro w)
    rw [hw] at this; exact this
  have hl2 : l = 256 := by simp at hb; omega
  subst hl2
  have hw : wrE D i ys = 0 := by unfold wrE; rw [he, if_neg (by omega), if_neg (by omega)]
  rw [hw] at hk
  have hvlen := hs v (List.mem_of_getElem? hv)
  have hvne := (h.wf.ver v (List.mem_of_getElem? hv)).1
  have hilt : i < D.vs.length := (List.getElem?_eq_some_iff.1 hv).1
  have htl : v.tail.length ≤ v.length := by simp
  -- what stands in the map
  have hopen : ∃ a0 l0 c0, Ru (Instr.lookup 51 (.map (some mb)) (.int .i64 i) false) w (.slice a0 l0 c0) w ∧ l0 = v.tail.length ∧ l0 ≤ c0 ∧ ((l0 = 0 ∧ a0 = none) ∨ (0 < l0 ∧ ∃ vb, a0 = some ⟨vb, 0, none⟩ ∧ At w vb 0 (u8L v.tail.flatten) ∧ vb ≠ b)) := by
    rcases h.opn i v hv with ⟨ht, hl⟩ | ⟨ht, vb, c, hl, hc, hat, _, hvb, _⟩
    · exact ⟨none, 0, 0, look_none h.map hl, by rw [ht]; rfl, Nat.le_refl _, .inl ⟨rfl, rfl⟩⟩
    · exact ⟨_, _, c, look_some h.map hl, rfl, hc, .inr ⟨List.length_pos_iff.2 ht, vb, rfl, hat, hvb⟩⟩
  obtain ⟨a0, l0, c0, hlook, hl0, hc0, hrow0⟩ := hopen
  refine ⟨_, rfl, some mb, h.lm, a0, l0, c0, hlook, ?_⟩
  refine goes_c h (fun hz => ⟨_, rfl, Share.dup (ff rfl ?_)⟩) fun hnz w2 h2 m2 => ⟨_, rfl, Share.dup (tt rfl ?_)⟩
  · have hS : wrSt D i ys = D := by unfold wrSt; rw [if_pos (.inr hz)]
    exact hk w L (Mod.refl _ _) (by rw [hS]; exact h.gro w)
  have hS : wrSt D i ys = ⟨D.vs.set i (v ++ [ys]), dec D.left⟩ := by unfold wrSt; rw [if_neg (by omega), hver]; rfl
  rw [hS] at hk
  have h2d := h2.drew
  have hrne : ¬ u8L ys = [] := fun e => by have := congrArg List.length e; simp [hl] at this
  obtain ⟨b2, o2, rfl, hat2⟩ := hr.resolve_left hrne
  have hb2 : b2 ≠ b := fun e => hdis _ rfl (by rw [e]; exact h.rb)
  have hat2' : At (Go.Den.drew w2) b2 o2 (u8L ys) := (hat2.keep m2 hb2).drew
  have hload : Ru (Instr.loadAt 80 (.pointer (some ⟨b2, o2, none⟩))) (Go.Den.drew w2) (.agg ⟨u8L ys⟩) (Go.Den.drew w2) := by
    have := hat2'.loadAgg (P := Try.prog) (i := 0) agg_block (by simp; omega)
    have e : (u8L ys).take 256 = u8L ys := List.take_of_length_le (by simp; omega)
    simpa [e] using this
  have m3 : Mod No (Go.Den.drew w2) ((Go.Den.drew w2).alloc (.cells ⟨u8L ys⟩ 80)) := (Mod.refl No _).alloc _
  refine ⟨_, rfl, some mb, h2d.lm, _, _, _, slice_3 (k := 256) (by kernel_rfl) hc0, ⟨b2, o2, none⟩, arrayAt_block _ _, ⟨u8L ys⟩, hload, _, _, _, _, built_block hl _, (h2d.nos m3).lm, ?_⟩
  have hq : AtU ((Go.Den.drew w2).alloc (.cells ⟨u8L ys⟩ 80)) (Go.Den.drew w2).heap.size 0 (u8L ys) := AtU.new
  have hsz3 : w2.heap.size < ((Go.Den.drew w2).alloc (.cells ⟨u8L ys⟩ 80)).heap.size := by simp
  have h3 := h2d.nos m3
  have hqs : (Go.Den.drew w2).heap.size = w2.heap.size := rfl
  generalize (Go.Den.drew w2).alloc (.cells ⟨u8L ys⟩ 80) = w3 at *
  have htfl := flat_len v.tail (h.wf.tl hv)
  obtain ⟨c4, w4, happ, hc4, hat4, m4, hsz4⟩ := append_full (P := Try.prog) (w := w3) (T := 50) (ty := 50) (l := l0) (a := cutA a0 l0 0 256) (xs := u8L v.tail.flatten) (ys := u8L ys) (q := (Go.Den.drew w2).heap.size) elemZ_blocks (by omega) (by simp [htfl, hl0])
    (by
      rcases hrow0 with ⟨h1, h2⟩ | ⟨h1, vb, h2, h3, h4⟩
      · refine .inl ⟨h1, ?_⟩
        rw [h2]; unfold cutA; split <;> rfl
      · refine .inr ⟨h1, vb, ?_, ((h3.keep m2 h4).drew).keep m3 id⟩
        rw [h2]; unfold cutA; split
        · rfl
        · simp [add_none]) (by simp [hl]) hq.at (by omega) (by omega)
  refine ⟨_, _, _, w4, happ, (h3.nos m4).lm, ?_⟩
  have h4 := h3.nos m4
  obtain ⟨w5, hupd, hmap5, m5, hsz5⟩ := update_run (P := Try.prog) (k := (i : Int)) (v := .slice (some ⟨w3.heap.size, 0, none⟩) (l0 + 1) c4) mapDisk h4.map
  refine ⟨w5, hupd, ?_⟩
  have hb3 := h3.lt b h3.rb
  have hs3 := h3.lt sb h3.rs
  have hm3 := h3.lt mb h3.rm
  have M4 : Mod (fun x => x = b) w w4 := ((m2.drew).no m3).no m4
  have M5 : Mod (Wr b sb mb) w w5 := (M4.mono fun x _ e => .inl e).trans m5 fun x _ e => .inr (.inr e)
  have hws := M4.size
  have hw23 := m2.size
  obtain ⟨tl1, tl2⟩ := tail_set hvne ys
  refine hk w5 (putL (i : Int) (.slice (some ⟨w3.heap.size, 0, none⟩) (l0 + 1) c4) L) M5 ?_
  have hset : (D.vs.set i (v ++ [ys])).map hd = D.vs.map hd := by
    rw [List.map_set, tl2]
    apply List.ext_getElem?
    intro j
    by_cases hj : i = j
    · subst hj; rw [List.getElem?_set_self (by simpa using hilt), List.getElem?_map, hv]; rfl
    · rw [List.getElem?_set_ne hj]
  exact { cell := by
            have := h4.cell.keep m5 h4.nbm
            simpa [dec] using this
          cap := by simpa using h.cap
          safe := by
            rw [hset]; exact h4.safe.keep m5 h4.nsm
          map := hmap5
          rb := .inl h.rb
          rs := .inl h.rs
          rm := .inl h.rm
          ne := h.ne
          opn := fun j v' hv' => by
            by_cases hj : i = j
            · subst hj
              have : v' = v ++ [ys] := by
                rw [List.getElem?_set_self hilt] at hv'; exact (Option.some.inj hv').symm
              subst this
              refine .inr ⟨by rw [tl1]; simp, w3.heap.size, c4, ?_, ?_, ?_, .inr ⟨by omega, by omega⟩, by omega, by omega⟩
              · rw [look_put, if_pos rfl, tl1, List.length_append, ← hl0]; rfl
              · rw [tl1, List.length_append, ← hl0]; exact hc4
              · rw [tl1, List.flatten_append, u8L_append]
                have e : [ys].flatten = ys := by simp
                rw [e]
                exact hat4.keep m5 (by omega)
            · rw [List.getElem?_set_ne hj] at hv'
              rcases h4.opn j v' hv' with ⟨t1, t2⟩ | ⟨t1, vb, c', t2, t3, t4, t5, t6, t7⟩
              · exact .inl ⟨t1, by rw [look_put, if_neg (by omega)]; exact t2⟩
              · refine .inr ⟨t1, vb, c', by rw [look_put, if_neg (by omega)]; exact t2, t3, t4.keep m5 ?_, .inl t5, t6, t7⟩
                exact h4.map.ne_cells t4
          keys := fun p hp => by
            rcases put_keys p hp with e | hp
            · exact ⟨i, e, by simpa using hilt⟩
            · obtain ⟨j, e, hj⟩ := h.keys p hp
              exact ⟨j, e, by simpa using hj⟩
          wf := { ver := fun x hx => by
                    rcases List.mem_or_eq_of_mem_set hx with hx | rfl
                    · exact h.wf.ver x hx
                    · refine ⟨by simp, fun y hy => ?_⟩
                      rcases List.mem_append.1 hy with hy | hy
                      · exact (h.wf.ver v (List.mem_of_getElem? hv)).2 y hy
                      · simp at hy; subst hy; omega
                  lo := by simpa using h.wf.lo
                  hi := by simpa using h.wf.hi
                  l0 := h2.wf.l0
                  l1 := h2.wf.l1 }
          lt := fun x hx => by
            rcases hx with hx | hx
            · have := h.lt x hx; have := M5.size; omega
            · exact hx.2 }
theorem Write_c (h : DiskIn w R b sb mb sc L D) (hs : ∀ v ∈ D.vs, v.length ≤ 999999) {n : Int} {a : Option Addr} {l c : Nat} {ys : List UInt8} (hl : ys.length = l) (hr : Row w a (u8L ys)) (hdis : ∀ q, a = some q → ¬ R q.block)
    (hk : ∀ w' L', Mod R w w' → DiskIn w' (Gro R w w') b sb mb sc L' (wrSt D n ys) → K (.int .i64 (wrE D n ys)) w') : Cal Try.prog F_disk_Disk_Write #[.pointer (some ⟨b, 0, none⟩), .int .i64 n, .slice a l c] w K :=
  Write_p h hs hl hr hdis fun w' L' m hd => hk w' L' (m.mono fun _ _ e => h.wr e) hd
end
end Go.Proofs.Ytocjjigmpgekfaa
