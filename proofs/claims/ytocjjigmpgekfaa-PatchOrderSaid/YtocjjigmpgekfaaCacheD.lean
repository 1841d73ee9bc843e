/- Layer 10, the program's cache: room for one more; a block is asked. -/
import Derived.Test.YtocjjigmpgekfaaCacheC
open Go Go.Den Go.Proofs
namespace Go.Proofs.Ytocjjigmpgekfaa
section
variable {w0 w w' : World} {R : Nat → Prop} {rl : Nat → Nat} {c d m sb mb sc lc : Nat} {la : Option Addr} {L mp : List (Int × Value)} {C : Ca} {K : Value → World → Prop}
def pI (C : Ca) (k : Int) : Bool := match findB C.l k.toNat with | some x => idleB C.D x | none => false
theorem pI_mem (h : WFC C) {x : Bf} (hx : x ∈ C.l) : pI C (x.b : Int) = idleB C.D x := by
  unfold pI; rw [Int.toNat_natCast, findB_mem h.nodup hx]
theorem tells_room {q : Nat} (h : CIn w0 R rl w c d m sb mb sc lc la L mp C) (hq : At w q 0 [.pointer (some ⟨c, 0, none⟩)]) : Tells (.func (.func F_cache_Cache_room_1) #[] #[.pointer (some ⟨q, 0, none⟩)]) w No (pI C) (nums C.l) := by
  intro w' k xk hx K hK
  unfold nums at hx
  obtain ⟨y, hy, rfl⟩ := List.mem_map.1 hx
  refine ⟨_, _, _, rfl, ?_⟩
  show Cal Try.prog F_cache_Cache_room_1 #[.int .i64 y.b, .pointer (some ⟨q, 0, none⟩)] w' K
  apply C_cache_Cache_room_1
  unfold D_cache_Cache_room_1
  have h' := h.nos k
  have hq' := (hq.keep k id).load (P := Try.prog) (T := 54) (i := 0) (v := .pointer (some ⟨c, 0, none⟩)) (by kernel_rfl) rfl
  obtain ⟨q2, g, cc, b1, b2, b3, b4, b6⟩ := h'.bufs y hy
  refine Share.cut (fun z w2 => z = [.bool (idleB C.D y)] ∧ Mod No w' w2) ⟨_, hq', _, rfl, some m, h'.lm, _, h'.look b1, _, rfl, _, lpins b4, cond_of (fun hb => ?_) (fun hb => ?_)⟩ ?_
  · have hp : y.pins = 0 := by simpa using hb
    exact ⟨_, hq', dirty_c h' hy fun w2 m2 => ⟨_, rfl, by simp [idleB, hp], m2⟩⟩
  · have hp : ¬ y.pins = 0 := by simpa using hb
    exact ⟨by simp [idleB, hp], Mod.refl _ _⟩
  · rintro z w2 ⟨rfl, m2⟩
    refine ⟨_, rfl, ?_⟩
    have := hK w2 m2
    rwa [pI_mem h.wf hy] at this
theorem nums_get {l : List Bf} {j : Nat} {k : Int} (h : (nums l)[j]? = some k) : ∃ x, l[j]? = some x ∧ k = (x.b : Int) := by
  unfold nums at h
  rw [List.getElem?_map] at h
  cases hx : l[j]? with
  | none => rw [hx] at h; cases h
  | some x => rw [hx] at h; exact ⟨x, rfl, (Option.some.inj h).symm⟩
theorem find_idx (h : WFC C) : (idxF (pI C) (nums C.l) 0 = -1 ∧ C.l.find? (idleB C.D) = none) ∨ ∃ (j : Nat) (x : Bf), idxF (pI C) (nums C.l) 0 = (j : Int) ∧ C.l[j]? = some x ∧ C.l.find? (idleB C.D) = some x := by
  rcases idxF_cases (pI C) (nums C.l) 0 with ⟨e, hno⟩ | ⟨j, k, e, hj, hp, hbef⟩
  · refine .inl ⟨e, List.find?_eq_none.2 fun x hx => ?_⟩
    have := hno (x.b : Int) (List.mem_map.2 ⟨x, hx, rfl⟩)
    rw [pI_mem h hx] at this
    rw [this]; simp
  · obtain ⟨x, hx, rfl⟩ := nums_get hj
    have hxm := List.mem_of_getElem? hx
    obtain ⟨hlt, hxe⟩ := List.getElem?_eq_some_iff.1 hx
    refine .inr ⟨j, x, by rw [e, Nat.zero_add], hx, ?_⟩
    rw [pI_mem h hxm] at hp
    refine List.find?_eq_some_iff_append.2 ⟨hp, C.l.take j, C.l.drop (j + 1), ?_, fun y hy => ?_⟩
    · conv => lhs; rw [← List.take_append_drop j C.l, List.drop_eq_getElem_cons hlt, hxe]
    · have hyl := List.mem_of_mem_take hy
      have := hbef (y.b : Int) (by unfold nums; rw [← List.map_take]; exact List.mem_map.2 ⟨y, hy, rfl⟩)
      rw [pI_mem h hyl] at this
      rw [this]; rfl
theorem room_c (h : CIn w0 R rl w c d m sb mb sc lc la L mp C)
    (hk1 : ∀ C', roomC C = some C' → ∀ w' mp', CIn w0 (Gro R w w') rl w' c d m sb mb sc lc la L mp' C' → Mod R w w' → K (.int .i64 0) w')
    (hk2 : roomC C = none → ∀ w', Mod No w w' → K (.int .i64 5) w') : Cal Try.prog F_cache_Cache_room #[.pointer (some ⟨c, 0, none⟩)] w K := by
  apply C_cache_Cache_room
  unfold D_cache_Cache_room
  have m1 : Mod No w (drew (w.alloc (.cells ⟨[.pointer (some ⟨c, 0, none⟩)]⟩ 54))) := ((Mod.refl No w).alloc _).drew
  have hq : At (drew (w.alloc (.cells ⟨[.pointer (some ⟨c, 0, none⟩)]⟩ 54))) w.heap.size 0 [.pointer (some ⟨c, 0, none⟩)] := AtU.new.at.drew
  have h1 := h.nos m1
  refine ⟨_, _, box_cache _ _, ?_⟩
  generalize hW : drew (w.alloc (.cells ⟨[.pointer (some ⟨c, 0, none⟩)]⟩ 54)) = w1 at *
  have lq : ∀ {w2 : World}, Mod No w1 w2 → Ru (Instr.loadAt 54 (.pointer (some ⟨w.heap.size, 0, none⟩))) w2 (.pointer (some ⟨c, 0, none⟩)) w2 := fun k => (hq.keep k id).load (i := 0) (by kernel_rfl) rfl
  have hl1 := h.wf.len
  have hl2 := h.wf.most1
  refine ⟨_, lq (Mod.refl _ _), _, rfl, _, _, _, lrow h1.cell, _, lq (Mod.refl _ _), _, rfl, _, h1.lmost, cond_of (fun hb => ?_) (fun hb => ?_)⟩
  · have hlt : C.l.length < C.most := by have := of_decide_eq_true hb; omega
    exact hk1 C (by unfold roomC; rw [if_pos hlt]) w1 mp (h.gro m1) m1.anys
  · have hge : ¬ C.l.length < C.most := by have := of_decide_eq_false hb; omega
    refine ⟨_, lq (Mod.refl _ _), _, rfl, _, _, _, lrow h1.cell, IndexFunc_c (S := No) (nums_len _) (by omega) h1.row.rowU.row (tells_room h1 hq) fun w2 m2 => ⟨_, rfl, ?_⟩⟩
    rcases find_idx h.wf with ⟨e, hf⟩ | ⟨j, x, e, hx, hf⟩
    · rw [e]
      refine tt rfl (hk2 ?_ w2 (m1.no m2))
      unfold roomC; rw [if_neg hge, hf]; rfl
    · rw [e]
      have hlt := (List.getElem?_eq_some_iff.1 hx).1
      have m2' := m2.drew
      have h2 := h1.nos m2'
      have hrow := h2.row.rowU.row
      obtain ⟨b2, o2, hla, hat⟩ := row_some (i := j) hrow (by rw [nums_len]; exact hlt)
      subst hla
      refine ff (by simp) ⟨_, lq m2', _, lq m2', _, rfl, _, _, _, lrow h2.cell, _, index_slice (k := 1) (by kernel_rfl) (by omega) (by omega), ?_⟩
      rw [add_none, show (j : Int).toNat * 1 = j by omega]
      have hv : (iL (nums C.l))[j]? = some (.int .i64 x.b) := by simp [iL, nums, hx, I]
      refine ⟨_, hat.load (by kernel_rfl) hv, out_c h2 fun w3 mp' h3 m3 => ⟨rfl, ?_⟩⟩
      have M : Mod No w (drew w2) := m1.no m2'
      refine hk1 _ (by unfold roomC; rw [if_neg hge, hf]; rfl) w3 mp' (h3.widen (fun y hy => ?_) fun y hy => ?_) (M.anys.trans m3 fun y hy e => e)
      · have := M.size
        rcases hy with hy | hy
        · exact .inl hy
        · exact .inr (by omega)
      · have := M.size
        have := m3.size
        have := h.mod.size
        rcases hy with hy | hy
        · have := h.lo y hy; omega
        · omega

/-- The end of asking for a block that is there. -/
theorem ask_end {S : World → Prop} {w3 : World} {z b : Nat} {x : Bf} (h : CIn w0 R rl w c d m sb mb sc lc la L mp C) (M : Mod (Of la) w w3)
    (o3 : Own Try.prog w3 w0.heap.size 23 1 la (others C.l b).length lc (iL (nums (others C.l b)))) (hz : At w3 z 0 [.int .i64 b]) (hx : x ∈ C.l) (hxb : x.b = b)
    (hk : ∀ w' rl' lc' la', CIn w0 (Gro R w w') rl' w' c d m sb mb sc lc' la' L mp { C with l := others C.l b ++ [x] } → Mod R w w' → S w') :
    ∃ (a31 : Option Addr) (l31 c31 : Nat), ∃ w4 : World, Ru (Builtin.append_ #[23, 23] 23 #[.slice la (others C.l b).length lc, .slice (some ⟨z, 0, none⟩) 1 1]) w3 (.slice a31 l31 c31) w4 ∧ ∃ q32 : Addr, (.pointer (some ⟨c, 0, none⟩) : Value) = .pointer (some q32) ∧
      ∃ w5 : World, RuU (Instr.storeAt 23 (.pointer (some (Addr.add q32 3))) (.slice a31 l31 c31)) w4 w5 ∧ S w5 := by
  have hl1 := h.wf.len
  have hl2 := h.wf.most1
  have hol := others_len C.l b
  have hzM := M.size
  have hw0 := h.mod.size
  obtain ⟨q', c', w4, s1, s2, s3, s4⟩ := o3.app (ty := 23) (m := 1) (c2 := 1) (ad := ⟨z, 0, none⟩) (ys := [.int .i64 b]) elemZ_ints (by omega) (.inr ⟨_, _, rfl, hz⟩) rfl (by omega) (by simp; rfl) (by omega) (by omega) (by omega)
  refine ⟨_, _, _, w4, s1, _, rfl, ?_⟩
  have s3' : Mod (Of la) w3 w4 := s3
  have hc4 := (h.cell.keep M fun e => by have := h.of3 e; have := h.rc; omega).keep s3' fun e => by have := h.of3 e; have := h.rc; omega
  obtain ⟨w5, t1, t2, t3, t4⟩ := hc4.store (P := Try.prog) (T := 23) (i := 3) (v := .slice (some q') ((others C.l b).length + 1) c') (by kernel_rfl) (by simp) rfl
  refine ⟨w5, by rw [add_none]; exact t1, ?_⟩
  have hzs := s3'.size
  have hzt := t3.size
  have M4 : Mod (Of la) w w4 := M.trans s3' fun _ _ e => e
  have M5 : Mod (S123 rl) w w5 := (M4.mono fun x _ e => .inr (.inr (h.of3 e))).trans t3 fun x _ e => .inl (by rw [e]; exact h.rc)
  have hnew : rl q'.block = 3 ∨ (w.heap.size ≤ q'.block ∧ q'.block < w5.heap.size ∧ rl q'.block = 0) := by
    rcases s4 with ⟨q2, hq2, e⟩ | e
    · left; rw [e]; exact h.rrow q2 hq2
    · right
      have := (s2.base (q := q') rfl).2
      exact ⟨by omega, by omega, h.out_of (by omega)⟩
  refine hk w5 (ro rl q'.block 3) c' (some q') ?_ (M5.mono fun x _ e => h.reg x (by unfold S123 at e; omega))
  have hlen : (others C.l b ++ [x]).length = (others C.l b).length + 1 := by simp
  have hnum : iL (nums (others C.l b)) ++ [.int .i64 b] = iL (nums (others C.l b ++ [x])) := by simp [nums, iL, I, hxb]
  subst hxb
  refine h.step M5 ((Ext.refl _ _ _).ro hnew (by omega) (by omega)) (fun y _ e => by unfold S123 at e; omega) ?_ (((h.map.keep M4 fun e => by have := h.of3 e; have := h.rm; omega)).keep t3 (apart h.rm h.rc (by omega))) ?_
    (fun q hq => by have := Option.some.inj hq; subst this; exact ro_same _ _ _) (fun y hy => .inl ⟨?_, rfl, fun q e => by unfold S123 at e; omega⟩) (fun p hp => ?_) (h.wf.move hx)
  · rw [hlen]; simpa using t2
  · rw [hlen, ← hnum]
    refine s2.keep t3 fun q hq e => ?_
    have := Option.some.inj hq
    subst this
    have hrc := h.rc
    rcases hnew with hn | ⟨_, _, hn⟩
    · rw [e] at hn; omega
    · rw [e] at hn; omega
  · rcases List.mem_append.1 hy with hy | hy
    · exact (mem_others.1 hy).1
    · simp at hy; subst hy; exact hx
  · obtain ⟨y, hy, e⟩ := h.keys p hp
    by_cases hyx : y.b = x.b
    · exact ⟨x, by simp, by rw [e, hyx]⟩
    · exact ⟨y, List.mem_append.2 (.inl (mem_others.2 ⟨hy, hyx⟩)), e⟩
end
end Go.Proofs.Ytocjjigmpgekfaa
