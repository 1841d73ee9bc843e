/- Layer 2, the program's disk: a copy. -/
import Derived.Test.YtkmkfdljnlbikaaDiskP
open Go Go.Den Go.Proofs
namespace Go.Den
theorem look_of_mem : ∀ {L : List (Int × Value)} {k : Int} {v : Value}, (L.map (·.1)).Nodup → (k, v) ∈ L → lookupL L k = some v
  | p :: r, k, v, hn, hm => by
    rw [List.map_cons, List.nodup_cons] at hn
    simp only [lookupL]
    rcases List.mem_cons.1 hm with e | hm
    · subst e; rw [if_pos rfl]
    · have hne : p.1 ≠ k := fun e => hn.1 (by rw [e]; exact List.mem_map.2 ⟨_, hm, rfl⟩)
      rw [if_neg hne]; exact look_of_mem hn.2 hm
theorem look_none_of {L : List (Int × Value)} {k : Int} (h : ∀ p ∈ L, p.1 ≠ k) : lookupL L k = none := by
  induction L with
  | nil => rfl
  | cons p r ih =>
    simp only [lookupL]
    rw [if_neg (h p (by simp))]
    exact ih fun q hq => h q (by simp [hq])
theorem look_perm {L L' : List (Int × Value)} (hp : L'.Perm L) (hn : (L.map (·.1)).Nodup) (k : Int) : lookupL L' k = lookupL L k := by
  cases h : lookupL L k with
  | none => exact look_none_of fun p hp' => look_notin h p (hp.mem_iff.1 hp')
  | some v => exact look_of_mem ((hp.map (·.1)).nodup_iff.2 hn) (hp.mem_iff.2 (look_mem h))
theorem putL_new {L : List (Int × Value)} {k : Int} {v : Value} (h : ∀ p ∈ L, p.1 ≠ k) : putL k v L = L ++ [(k, v)] := by
  induction L with
  | nil => rfl
  | cons p r ih =>
    simp only [putL]
    rw [if_neg (h p (by simp)), ih fun q hq => h q (by simp [hq])]; rfl
theorem map_inj {α β : Type} {f : α → β} : ∀ {l : List α}, (l.map f).Nodup → ∀ {x e : α}, x ∈ l → e ∈ l → f x = f e → x = e
  | [], _, x, e, hx, _, _ => by cases hx
  | y :: r, hn, x, e, hx, he, h => by
    rw [List.map_cons, List.nodup_cons] at hn
    rcases List.mem_cons.1 hx with hx | hx
    · rcases List.mem_cons.1 he with he | he
      · rw [hx, he]
      · exact absurd (List.mem_map.2 ⟨e, he, by rw [← h, hx]⟩) hn.1
    · rcases List.mem_cons.1 he with he | he
      · exact absurd (List.mem_map.2 ⟨x, hx, by rw [h, he]⟩) hn.1
      · exact map_inj hn.2 hx he h
/-- The region of a copy: what is new, and the rows of the elder disk. -/
def Cp (R : Nat → Prop) (b sb mb : Nat) (w w' : World) : Nat → Prop := fun x => (w.heap.size ≤ x ∧ x < w'.heap.size) ∨ (R x ∧ ¬ Wr b sb mb x)
end Go.Den
namespace Go.Proofs.Ytkmkfdljnlbikaa
section
variable {w : World} {R : Nat → Prop} {b sb mb sc : Nat} {L : List (Int × Value)} {D : St} {K : Value → World → Prop}
theorem slice_some (a : Addr) (l c : Nat) : Al (eqS .eql 83 (.tmp 3) (.const (.slice none 0 0)) (.slice (some a) l c) (.slice none 0 0)) (.bool false) := fun _ => by kernel_rfl
theorem built0 (w : World) : (Instr.buildSlice 83 0 #[]).run Try.prog w = .ok (.slice (some ⟨w.heap.size, 0, none⟩) 0 0) (w.alloc (.cells #[] 89)) := by kernel_rfl
theorem Clone_c {q n c : Nat} {xs : List Bk} (hat : At w q 0 (u8L xs.flatten)) (hx : ∀ x ∈ xs, x.length = 256) (hn : xs.length = n) (h0 : 0 < n) (h1 : n ≤ 4096)
    (hk : ∀ w' g c', Mod No w w' → w.heap.size ≤ g → n ≤ c' → AtU w' g 0 (u8L xs.flatten) → K (.slice (some ⟨g, 0, none⟩) n c') w') : Cal Try.prog F_slices_Clone_disk_block #[.slice (some ⟨q, 0, none⟩) n c] w K := by
  apply C_slices_Clone_disk_block
  unfold D_slices_Clone_disk_block
  refine ⟨_, slice_some _ _ _, ff rfl ⟨_, _, _, _, built0 w, ?_⟩⟩
  have m1 : Mod No w (w.alloc (.cells #[] 89)) := (Mod.refl No w).alloc _
  have hu : Try.prog.underlying 83 = some (.slice 89) := by kernel_rfl
  have ho : Own Try.prog (w.alloc (.cells #[] 89)) w.heap.size 83 256 (some ⟨w.heap.size, 0, none⟩) 0 0 [] :=
    ⟨_, hu, by simp, .inr ⟨w.heap.size, 0, #[], rfl, Nat.le_refl _, heap_new w _, Nat.le_refl _, Nat.zero_le _, by simp, by simp⟩⟩
  have hfl := flat_len xs hx
  obtain ⟨a', c', w2, h2, o2, m2⟩ := ho.append (ty := 83) elemZ_blocks (by omega) (a2 := some ⟨q, 0, none⟩) (m := n) (c2 := c) (ys := u8L xs.flatten) (.inr ⟨_, _, rfl, hat.keep m1 id⟩) (by rw [length_u8L, hfl, hn]) (fun e => by cases e) (one_u8L _) (by omega) (by omega) (by simp)
  rw [Nat.zero_add, List.nil_append] at *
  obtain ⟨g, rfl, hg, hgat⟩ := o2.sm h0
  exact ⟨_, _, _, w2, h2, hk w2 g c' (m1.up m2 (Nat.le_refl _)) hg o2.cap.1 hgat⟩

/-- The map of a copy is filled. -/
theorem fill_c {w0 : World} {nb cb cc nm : Nat} (h : DiskIn w R b sb mb sc L D) (m0 : Mod No w0 w) (hR : ∀ x, R x → x < w0.heap.size)
    (hcell : AtU w nb 0 [.slice (some ⟨cb, 0, none⟩) D.vs.length cc, .map (some nm), .int .i64 D.left]) (hsafe : AtU w cb 0 (u8L (D.vs.map hd).flatten)) (hcap : D.vs.length ≤ cc) (hmap : MapAt w nm []) (hnb : w0.heap.size ≤ nb) (hcb : w0.heap.size ≤ cb) (hnm : w0.heap.size ≤ nm) (hne : nb ≠ cb)
    (hk : ∀ w' L', Mod No w0 w' → DiskIn w' (Cp R b sb mb w0 w') nb cb nm cc L' D → DiskIn w' R b sb mb sc L D → K (.pointer (some ⟨nb, 0, none⟩)) w') :
    ∃ q21 : Addr, (.pointer (some ⟨b, 0, none⟩) : Value) = .pointer (some q21) ∧ ∃ m23 : Option Nat, Ru (Instr.loadAt 84 (.pointer (some (Addr.add q21 1)))) w (.map m23) w ∧ ∃ q24 : Addr, ∃ w4 : World, Ru (Instr.range 84 (.map m23)) w (.pointer (some q24)) w4 ∧ LoopC (fun k x w5 =>
      ∃ v25 : Value, ∃ w6 : World, Ru (Instr.next (.pointer (some q24)) false 0) w5 v25 w6 ∧ ∃ b26 : Bool, Al (Instr.extract v25 0) (.bool b26) ∧ (bif b26 then
      ∃ v27 : Value, Ru (Instr.entry (.pointer (some q24))) w6 v27 w6 ∧ ∃ n28 : Int, Al (Instr.extract v27 0) (.int .i64 n28) ∧ ∃ (a29 : Option Addr) (l29 c29 : Nat), Al (Instr.extract v27 1) (.slice a29 l29 c29) ∧ ∃ q31 : Addr, (.pointer (some ⟨nb, 0, none⟩) : Value) = .pointer (some q31) ∧ ∃ m33 : Option Nat, Ru (Instr.loadAt 84 (.pointer (some (Addr.add q31 1)))) w6 (.map m33) w6 ∧ ∃ w7 : World, RuU (Instr.mapUpdate 84 (.map m33) (.int .i64 n28) (.slice a29 l29 c29)) w6 w7 ∧ k [] w7
      else
      K (.pointer (some ⟨nb, 0, none⟩)) w6)) [] w4 := by
  obtain ⟨Es, clock, g1, g2, g3, g4, g5⟩ := h.map
  have hu : Try.prog.underlying 84 = some (.map 3 83) := by kernel_rfl
  refine ⟨_, rfl, some mb, h.lm, _, _, range_run hu g1, ?_⟩
  have m1 : Mod No w (w.alloc (.mapIter (some mb) clock #[] clock)) := (Mod.refl No w).alloc _
  have hmb := lt_of_heap g1
  have hz0 := m0.size
  have hnmlt := hmap.lt
  have hnblt := hcell.lt
  have hcblt := hsafe.lt
  have hbm := h.nbm
  have hLn := h.map.nodup
  have hmbR := hR mb h.rm
  refine ⟨fun x w2 => ∃ vis, x = [] ∧ Ranged w2 w.heap.size mb Es clock vis ∧ MapAt w2 nm (vis.map kv) ∧ Mod (fun y => y = nm) w w2, fun _ w2 => togo mb w.heap.size w2,
    ⟨[], rfl, ⟨m1.keep g1 id, heap_new w _, by simp, by simp, g4, g5⟩, hmap.keep m1 id, m1.mono fun _ _ h => h.elim⟩, ?_⟩
  rintro x w2 ⟨vis, rfl, hRg, hM, m2⟩
  have hcell2 := hcell.keep m2 (hmap.ne_cells hcell.at)
  have hz2 := m2.size
  have h2 := h.keep m2 fun y hy e => by have := hR y hy; omega
  rcases hRg.next (P := Try.prog) (ty := 0) with ⟨hp, hrun⟩ | ⟨e, he, w3, hrun, hent, hR3, hnin, hm3, hlt⟩
  · refine ⟨_, _, hrun, false, fun _ => rfl, ff rfl ?_⟩
    have hperm : (vis.map kv).Perm L := by rw [← g2]; exact hp.map kv
    refine hk w2 (vis.map kv) (m0.trans m2 fun y hy e => by omega) ?_ h2
    have hsafe2 := hsafe.keep m2 (hmap.ne_cells hsafe.at)
    exact { cell := hcell2
            cap := hcap
            safe := hsafe2
            map := hM
            rb := .inl ⟨hnb, by omega⟩
            rs := .inl ⟨hcb, by omega⟩
            rm := .inl ⟨hnm, by omega⟩
            ne := hne
            opn := fun i v hv => by
              rcases h2.opn i v hv with ⟨t1, t2⟩ | ⟨t1, vb, c', t2, t3, t4, t5, t6, t7⟩
              · exact .inl ⟨t1, by rw [look_perm hperm hLn]; exact t2⟩
              · have := hR vb t5
                refine .inr ⟨t1, vb, c', by rw [look_perm hperm hLn]; exact t2, t3, t4, .inr ⟨t5, ?_⟩, by omega, by omega⟩
                rintro (e | e | e)
                · exact t6 e
                · exact t7 e
                · exact h2.map.ne_cells t4 e
            keys := fun p hp' => h.keys p (hperm.mem_iff.1 hp')
            wf := h.wf
            lt := fun y hy => by
              rcases hy with hy | hy
              · exact hy.2
              · have := hR y hy.1; omega }
  · have heL : kv e ∈ L := by rw [← g2]; exact List.mem_map.2 ⟨e, he, rfl⟩
    obtain ⟨i, hi, hil⟩ := h.keys _ heL
    have hlook : lookupL L e.1 = some e.2.1 := look_of_mem hLn heL
    have hsl : ∃ a l c, e.2.1 = .slice a l c := by
      have hv : D.vs[i]? = some D.vs[i] := by simp [hil]
      have hi' : e.1 = (i : Int) := hi
      rcases h.opn i _ hv with ⟨_, t2⟩ | ⟨_, vb, c', t2, _⟩
      · rw [← hi', hlook] at t2; cases t2
      · rw [← hi', hlook] at t2; exact ⟨_, _, _, Option.some.inj t2⟩
    obtain ⟨a, l, c, hsl⟩ := hsl
    rw [hsl] at hrun hent
    refine ⟨_, w3, hrun, true, fun _ => rfl, tt rfl ⟨_, hent, _, fun _ => rfl, _, _, _, fun _ => rfl, _, rfl, some nm, ?_, ?_⟩⟩
    · rw [add_none]
      exact (hcell2.keep hm3 (by omega)).at.load (by kernel_rfl) rfl
    obtain ⟨w4, s1, s2, s3, s4⟩ := update_run (P := Try.prog) (k := e.1) (v := .slice a l c) mapDisk (hM.keep hm3 (by omega))
    have hnew : putL e.1 (.slice a l c) (vis.map kv) = (vis ++ [e]).map kv := by
      rw [putL_new fun p hp' hpe => ?_, List.map_append]
      · simp [kv, hsl]
      · obtain ⟨u, hu', rfl⟩ := List.mem_map.1 hp'
        have huE := hRg.sub u hu'
        have : u = e := by
          have hk1 : lookupL L u.1 = some u.2.1 := look_of_mem hLn (by rw [← g2]; exact List.mem_map.2 ⟨u, huE, rfl⟩)
          -- keys are apart
          exact map_inj g3 huE he hpe
        exact hnin (this ▸ hu')
    rw [hnew] at s2
    have hR4 := hR3.keep s3 (by omega) (by omega)
    refine ⟨w4, s1, ⟨vis ++ [e], rfl, hR4, s2, ?_⟩, ?_⟩
    · refine (m2.trans hm3 fun y hy e => by omega).trans s3 fun _ _ h => h
    · show togo mb w.heap.size w4 < togo mb w.heap.size w2
      have : togo mb w.heap.size w4 = togo mb w.heap.size w3 := by rw [hR4.togo, hR3.togo]
      rw [this]; exact hlt
theorem build_disk2 (w : World) (a : Option Addr) (l c : Nat) (m : Option Nat) (n : Int) : (Instr.build 86 #[(0, .slice a l c), (1, .map m), (2, .int .i64 n)]).run Try.prog w = .ok (.agg ⟨[.slice a l c, .map m, .int .i64 n]⟩) w := by kernel_rfl
theorem Copy_c (h : DiskIn w R b sb mb sc L D)
    (hk : ∀ w' nb cb nm cc L', Mod No w w' → DiskIn w' (Cp R b sb mb w w') nb cb nm cc L' D → DiskIn w' R b sb mb sc L D → (w.heap.size ≤ nb ∧ w.heap.size ≤ cb ∧ w.heap.size ≤ nm) → K (.pointer (some ⟨nb, 0, none⟩)) w') : Cal Try.prog F_disk_Disk_Copy #[.pointer (some ⟨b, 0, none⟩)] w K := by
  apply C_disk_Disk_Copy
  unfold D_disk_Disk_Copy
  have hd0 := h.drew
  have md : Mod No w (drew w) := (Mod.refl No w).drew
  have hlo := h.wf.lo
  have hhi := h.wf.hi
  have hlen : (D.vs.map hd).length = D.vs.length := by simp
  refine ff rfl ⟨_, rfl, _, _, _, hd0.ls, _, rfl, _, hd0.ld, ?_, ?_⟩
  · refine Clone_c hd0.safe.at h.wf.hd hlen (by omega) hhi fun w1 g c1 m1 hg hc1 hgat => ⟨_, _, _, rfl, (hd0.nos m1).ld, _, _, makeMap_run, ?_⟩
    have m2 : Mod No w1 (w1.alloc (.map #[] 0)) := (Mod.refl No w1).alloc _
    have M2 := (md.no m1).no m2
    have hz1 := m1.size
    have hsd : (drew w).heap.size = w.heap.size := rfl
    refine ⟨(h.nos M2).ls, (h.nos M2).ld, _, fun w => build_disk2 w _ _ _ _ _, _, _, box_run, ?_⟩
    have m3 : Mod No (w1.alloc (.map #[] 0)) ((w1.alloc (.map #[] 0)).alloc (.cells (Value.agg ⟨[.slice (some ⟨g, 0, none⟩) D.vs.length c1, .map (some w1.heap.size), .int .i64 D.left]⟩).cells 86)) := (Mod.refl No _).alloc _
    have M3 := M2.no m3
    have hz2 : (w1.alloc (.map #[] 0)).heap.size = w1.heap.size + 1 := by simp
    have hgl := hgat.lt
    refine fill_c (w0 := w) (h.nos M3) M3 h.lt AtU.new ((hgat.keep m2 id).keep m3 id) hc1 (MapAt.new.keep m3 id) (by omega) (by omega) (by omega) (by omega) fun w' L' m k1 k2 => hk w' _ g _ c1 L' m k1 k2 ⟨by omega, by omega, by omega⟩
  · refine ⟨_, _, makeMap_run, ?_⟩
    have m1 : Mod No (drew w) ((drew w).alloc (.map #[] 0)) := (Mod.refl No _).alloc _
    have M1 := md.no m1
    have hsd : (drew w).heap.size = w.heap.size := rfl
    have hz1 : ((drew w).alloc (.map #[] 0)).heap.size = w.heap.size + 1 := by simp
    have hmp : MapAt ((drew w).alloc (.map #[] 0)) (drew w).heap.size [] := MapAt.new
    refine ⟨(h.nos M1).ls, (h.nos M1).ld, ?_⟩
    refine Clone_c (h.nos M1).safe.at h.wf.hd hlen (by omega) hhi fun w2 g c1 m2 hg hc1 hgat => ⟨_, _, _, rfl, ?_⟩
    have M2 := M1.no m2
    have hz2 := m2.size
    have hgl := hgat.lt
    refine ⟨(h.nos M2).ld, _, fun w => build_disk2 w _ _ _ _ _, _, _, box_run, ?_⟩
    have m3 : Mod No w2 (w2.alloc (.cells (Value.agg ⟨[.slice (some ⟨g, 0, none⟩) D.vs.length c1, .map (some (drew w).heap.size), .int .i64 D.left]⟩).cells 86)) := (Mod.refl No _).alloc _
    have M3 := M2.no m3
    refine fill_c (w0 := w) (h.nos M3) M3 h.lt AtU.new (hgat.keep m3 id) hc1 ((hmp.keep m2 id).keep m3 id) (by omega) (by omega) (by omega) (by omega) fun w' L' m k1 k2 => hk w' _ g _ c1 L' m k1 k2 ⟨by omega, by omega, by omega⟩
end
end Go.Proofs.Ytkmkfdljnlbikaa
