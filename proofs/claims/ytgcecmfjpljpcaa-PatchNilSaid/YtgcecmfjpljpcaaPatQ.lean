/- Layer 11, the program's store: its calls, whatever its cache holds. -/
import Derived.Test.YtgcecmfjpljpcaaPatO
open Go Go.Den Go.Proofs
namespace Go.Den
theorem len_map_run {P : Program} {w : World} {T k e ty : TypeId} {m : Nat} {L : List (Int × Value)} (ht : P.underlying T = some (.map k e)) (h : MapAt w m L) :
    (Builtin.len_ #[T] ty #[.map (some m)]).run P w = .ok (.int .i64 L.length) w := by
  obtain ⟨Es, c, g1, rfl, _⟩ := h
  have hund : (underlying T).run P w = .ok (.map k e) w := run_und ht w
  simp [Builtin.len_, hund, run_getMap g1]
  rfl
end Go.Den
namespace Go.Proofs.Ytgcecmfjpljpcaa
section
variable {w0 w w' : World} {R R' : Nat → Prop} {rl : Nat → Nat} {sp c d mo mm : Nat} {ca oa : Nat → Nat} {Lo Lm : List (Int × Value)} {P V : Ps} {K : Value → World → Prop}
theorem newX_C {C : Ca} {b f : Nat} {data : Bk} {after : List Int} : newX ⟨C, V.last, V.ons⟩ b f data after = newX V b f data after := rfl
theorem patE_C {C : Ca} {n f : Int} {data : Bk} {after : List Int} (e : C.D = V.C.D) : patE ⟨C, V.last, V.ons⟩ n f data after = patE V n f data after := by
  unfold patE
  show (if errOf C.D n ≠ 0 then (3 : Int) else _) = _
  rw [e]; rfl
theorem patS_C {C : Ca} {n f : Int} {data : Bk} {after : List Int} (e : C.D = V.C.D) : (patS ⟨C, V.last, V.ons⟩ n f data after).last = (patS V n f data after).last ∧ (patS ⟨C, V.last, V.ons⟩ n f data after).ons = (patS V n f data after).ons ∧ (patS V n f data after).C = V.C := by
  unfold patS
  rw [patE_C e, newX_C]
  by_cases h : patE V n f data after = 0
  · rw [if_pos h, if_pos h]
    refine ⟨rfl, ?_, (newO_C (V := V)).1⟩
    show (newO ⟨C, V.last, V.ons⟩ _).ons.map _ = (newO V _).ons.map _
    rw [newO_ons e]
  · rw [if_neg h, if_neg h]; exact ⟨rfl, rfl, rfl⟩
theorem patN_C {C : Ca} {n f : Int} {data : Bk} {after : List Int} (e : C.D = V.C.D) : patN ⟨C, V.last, V.ons⟩ n f data after = patN V n f data after := by unfold patN; rw [patE_C e]
theorem qPatch_c {n frm : Int} {a3 a4 : Option Addr} {l3 c3 l4 c4 : Nat} {data : Bk} {after : List Int} (hP : Pz w0 R w sp d V) (hlast : V.last + 1 ≤ 1000000) (hd : data.length = l3) (hrd : Row w a3 (u8L data)) (hdo : ∀ q, a3 = some q → ¬ R q.block) (h63 : l3 ≤ 9223372036854775807)
    (ha : after.length = l4) (ha6 : l4 ≤ 1000000) (hra : Row w a4 (iL after)) (hao : ∀ q, a4 = some q → ¬ R q.block)
    (hk : ∀ w', Mod R w w' → Pz w0 (Gro R w w') w' sp d (patS V n frm data after) → K (.tuple #[.int .i64 (patN V n frm data after), .int .i64 (patE V n frm data after)]) w') :
    Cal Try.prog F_patch_Store_Patch #[.pointer (some ⟨sp, 0, none⟩), .int .i64 n, .int .i64 frm, .slice a3 l3 c3, .slice a4 l4 c4] w K := by
  obtain ⟨C, eD, eM, hP⟩ := hP
  refine pPatch_c (n := n) (frm := frm) hP hlast hd hrd hdo h63 ha ha6 hra hao fun w' C' M h e1 e2 => ?_
  obtain ⟨p1, p2, p3⟩ := patS_C (V := V) (C := C) (n := n) (f := frm) (data := data) (after := after) eD
  rw [patN_C eD, patE_C eD]
  refine hk w' M ⟨C', ?_, ?_, ?_⟩
  · rw [p3, e1]; exact eD
  · rw [p3, e2]; exact eM
  · rw [← p1, ← p2]; exact h
theorem qImage_c {n : Int} (hP : Pz w0 R w sp d V) (hk0 : errOf V.C.D n ≠ 0 → ∀ w', Mod No w w' → K (.tuple #[.slice none 0 0, .int .i64 (errOf V.C.D n)]) w')
    (hk : ∀ b : Nat, n = b → b < V.C.D.vs.length → ∀ w1 w' g cc, Mod R w w1 → Mod No w1 w' → Pz w0 (Gro R w w1) w' sp d V → w1.heap.size ≤ g → AtU w' g 0 (u8L (imgB V b)) → K (.tuple #[.slice (some ⟨g, 0, none⟩) 256 cc, .int .i64 0]) w') :
    Cal Try.prog F_patch_Store_Image #[.pointer (some ⟨sp, 0, none⟩), .int .i64 n] w K := by
  obtain ⟨C, eD, eM, hP⟩ := hP
  refine pImage_c hP (fun he w' m => ?_) fun b hb hlt w1 w' g cc C' m1 m2 h e1 e2 hg hat => hk b hb (by rw [← eD]; exact hlt) w1 w' g cc m1 m2 ⟨C', e1.trans eD, e2.trans eM, h⟩ hg (by rw [imgB_C eD] at hat; exact hat)
  have he : errOf C.D n ≠ 0 := he
  show K (.tuple #[.slice none 0 0, .int .i64 (errOf C.D n)]) w'
  rw [eD] at he ⊢
  exact hk0 he w' m
theorem qRead_c {n : Int} (hP : Pz w0 R w sp d V) (hk0 : errOf V.C.D n ≠ 0 → ∀ w', Mod No w w' → K (.tuple #[.slice none 0 0, .int .i64 (errOf V.C.D n)]) w')
    (hk : ∀ b : Nat, n = b → b < V.C.D.vs.length → ∀ w1 w' g cc, Mod R w w1 → Mod No w1 w' → Pz w0 (Gro R w w1) w' sp d V → w1.heap.size ≤ g → AtU w' g 0 (u8L (contV V b)) → K (.tuple #[.slice (some ⟨g, 0, none⟩) 256 cc, .int .i64 0]) w') :
    Cal Try.prog F_patch_Store_Read #[.pointer (some ⟨sp, 0, none⟩), .int .i64 n] w K := by
  obtain ⟨C, eD, eM, hP⟩ := hP
  have hwf := hP.wf
  refine pRead_c hP (fun he w' m => ?_) fun b hb hlt w1 w' a cc C' m1 m2 h e1 e2 hc o => ?_
  · have he : errOf C.D n ≠ 0 := he
    show K (.tuple #[.slice none 0 0, .int .i64 (errOf C.D n)]) w'
    rw [eD] at he ⊢
    exact hk0 he w' m
  · obtain ⟨g, rfl, hg, hat⟩ := o.sm (by omega)
    rw [cont_view hwf.1 hwf.2.1 hwf.2.2.1, contV_C eD] at hat
    exact hk b hb (by rw [← eD]; exact hlt) w1 w' g cc m1 m2 ⟨C', e1.trans eD, e2.trans eM, h⟩ hg hat
theorem wrVE_C {C : Ca} {n : Int} (e : C.D = V.C.D) : wrVE ⟨C, V.last, V.ons⟩ n = wrVE V n := by
  unfold wrVE
  show (if errOf C.D n ≠ 0 then (3 : Int) else _) = _
  rw [e]; rfl
theorem wrV_C {C : Ca} {n : Int} (e : C.D = V.C.D) : (wrV ⟨C, V.last, V.ons⟩ n).last = (wrV V n).last ∧ (wrV ⟨C, V.last, V.ons⟩ n).ons = (wrV V n).ons ∧ (wrV ⟨C, V.last, V.ons⟩ n).C.D = (wrV V n).C.D ∧ (wrV V n).C.most = V.C.most := by
  unfold wrV
  rw [wrVE_C e, imgB_C e]
  by_cases h : wrVE V n = 0
  · rw [if_pos h, if_pos h]
    refine ⟨rfl, rfl, ?_, rfl⟩
    show wrSt C.D n _ = wrSt V.C.D n _
    rw [e]
  · rw [if_neg h, if_neg h]; exact ⟨rfl, rfl, e, rfl⟩
theorem qWrite_c {n : Int} (hP : Pz w0 R w sp d V) (hb9 : ∀ v ∈ V.C.D.vs, v.length ≤ 999999) (hk : ∀ w', Mod R w w' → Pz w0 (Gro R w w') w' sp d (wrV V n) → K (.int .i64 (wrVE V n)) w') :
    Cal Try.prog F_patch_Store_Write #[.pointer (some ⟨sp, 0, none⟩), .int .i64 n] w K := by
  obtain ⟨C, eD, eM, hP⟩ := hP
  refine pWrite_c (n := n) hP (by show ∀ v ∈ C.D.vs, _; rw [eD]; exact hb9) fun w' C' M h e1 e2 => ?_
  obtain ⟨p1, p2, p3, p4⟩ := wrV_C (V := V) (C := C) (n := n) eD
  rw [wrVE_C eD]
  refine hk w' M ⟨C', ?_, ?_, ?_⟩
  · rw [e1, p3]
  · rw [p4, e2]; exact eM
  · rw [← p1, ← p2]; exact h
theorem qFlush_c (hP : Pz w0 R w sp d V) (hk : ∀ w', Mod R w w' → Pz w0 (Gro R w w') w' sp d (flV V) → K (.int .i64 0) w') : Cal Try.prog F_patch_Store_Flush #[.pointer (some ⟨sp, 0, none⟩)] w K := by
  obtain ⟨C, eD, eM, hP⟩ := hP
  refine pFlush_c hP fun w' C' M h e1 e2 => hk w' M ⟨C', ?_, ?_, h⟩
  · rw [e1]; show flSt C.D = flSt V.C.D; rw [eD]
  · rw [e2]; exact eM
def safeV (V : Ps) (n : Int) : Bool := decide (1 ≤ n ∧ n ≤ (V.last : Int)) && !V.opn n
theorem qSafe_c {n : Int} (hP : Pz w0 R w sp d V) (hk : K (.bool (safeV V n)) w) : Cal Try.prog F_patch_Store_Safe #[.pointer (some ⟨sp, 0, none⟩), .int .i64 n] w K := by
  obtain ⟨C, eD, eM, hw, rl, c, mo, mm, ca, oa, Lo, Lm, h⟩ := hP
  apply C_patch_Store_Safe
  unfold D_patch_Store_Safe
  obtain ⟨p, hp, hpn, _⟩ := h.lookO n
  refine Share.cut (fun x w' => w = w' ∧ x = [.bool (safeV V n)]) (tt rfl (given_c h ⟨_, rfl, cond_of (fun hb => ?_) (fun hb => ?_)⟩)) ?_
  · refine ⟨_, rfl, _, h.lo', p, hp, rfl, ?_⟩
    unfold safeV
    rw [show decide (1 ≤ n ∧ n ≤ (V.last : Int)) = true from hb, Bool.true_and]
    have : p.isNone = !V.opn n := hpn
    rw [this]
  · refine ⟨rfl, ?_⟩
    unfold safeV
    rw [show decide (1 ≤ n ∧ n ≤ (V.last : Int)) = false from hb, Bool.false_and]
  · rintro x w' ⟨rfl, rfl⟩
    exact ⟨_, rfl, hk⟩
def openV (V : Ps) : Nat := V.all.length
theorem qOpen_c (hP : Pz w0 R w sp d V) (hk : K (.int .i64 (openV V)) w) : Cal Try.prog F_patch_Store_Open #[.pointer (some ⟨sp, 0, none⟩)] w K := by
  obtain ⟨C, eD, eM, hw, rl, c, mo, mm, ca, oa, Lo, Lm, h⟩ := hP
  apply C_patch_Store_Open
  have hu : Try.prog.underlying 118 = some (.map 2 128) := by kernel_rfl
  have hlen : Lo.length = openV V := by
    have h1 : (Lo.map (·.1)).Perm (V.all.map fun x => (x.id : Int)) := by
      refine (List.perm_ext_iff_of_nodup h.mapO.nodup ?_).2 fun k => ?_
      · have := h.wf.ids
        have e : (V.all.map fun x => (x.id : Int)) = (V.all.map (·.id)).map fun n : Nat => (n : Int) := by rw [List.map_map]; rfl
        rw [e]
        show List.Pairwise _ _
        rw [List.pairwise_map]
        exact this.imp fun hne e => hne (by omega)
      · rw [List.mem_map, List.mem_map]
        constructor
        · rintro ⟨p, hp, rfl⟩
          obtain ⟨x, hx, e⟩ := h.keysO p hp
          exact ⟨x, hx, e.symm⟩
        · rintro ⟨x, hx, rfl⟩
          exact ⟨_, look_mem (h.chs x hx).1, rfl⟩
    have := h1.length_eq
    rw [List.length_map, List.length_map] at this
    exact this
  refine ff rfl ⟨_, rfl, _, h.lo', _, len_map_run hu h.mapO, ?_⟩
  rw [hlen]; exact hk
def readyV (V : Ps) (n : Int) : Nat := match onOf V n with | some o => (o.l.filter fun x => (mayL V.opn o.l).contains (x.id : Int) && !x.out).length | none => 0
set_option maxRecDepth 100000 in
theorem qReady_c {n : Int} (hP : Pz w0 R w sp d V) (hk : ∀ w', Mod No w w' → K (.int .i64 (readyV V n)) w') : Cal Try.prog F_patch_Store_Ready #[.pointer (some ⟨sp, 0, none⟩), .int .i64 n] w K := by
  obtain ⟨C, eD, eM, hw, rl, c, mo, mm, ca, oa, Lo, Lm, h⟩ := hP
  apply C_patch_Store_Ready
  unfold D_patch_Store_Ready
  have hlk := h.lookM n
  refine Share.dup (ff rfl ⟨_, rfl, _, h.lm, _, hlk, ?_⟩)
  cases ho : onOf V n with
  | none =>
    have ho' : onOf (⟨C, V.last, V.ons⟩ : Ps) n = none := ho
    rw [ho']
    refine ⟨_, rfl, tt rfl ?_⟩
    have := hk w (Mod.refl _ _)
    unfold readyV at this
    rw [ho] at this; exact this
  | some o =>
    have ho' : onOf (⟨C, V.last, V.ons⟩ : Ps) n = some o := ho
    rw [ho'] at hlk ⊢
    obtain ⟨hom, hob⟩ := onOf_some ho
    refine ⟨_, rfl, ff rfl ⟨_, rfl, _, h.lm, _, hlk, may11_c h hom fun w2 m m2 hm hmp => ⟨_, rfl, _, rfl, ?_⟩⟩⟩
    have h2 := h.nos m2
    have hlk2 := h2.lookM n
    rw [ho'] at hlk2
    obtain ⟨la, lc, l1, l2, l3, l4⟩ := (h2.ons o hom).2.2.ldL
    refine ⟨_, h2.lm, _, hlk2, _, rfl, la, _, lc, l1, ?_⟩
    have hlast := h.wf.last
    have hlen := h.wf.llen o hom
    have hoa := fun x hx => on_all (P := ⟨C, V.last, V.ons⟩) hom (x := x) hx
    have hop : Ps.opn ⟨C, V.last, V.ons⟩ = V.opn := rfl
    rw [hop] at hmp
    refine ⟨fun x w3 => w2 = w3 ∧ ∃ (i : Nat) (y : Value), i ≤ o.l.length ∧ x = [.int .i64 (((o.l.take i).filter fun x => (mayL V.opn o.l).contains (x.id : Int) && !x.out).length : Nat), .int .i64 i, y], fun x _ => (o.l.length - nI x 1).toNat, ⟨rfl, 0, _, by omega, rfl⟩, ?_⟩
    rintro x w3 ⟨rfl, i, y, hi, rfl⟩
    refine ⟨_, rfl, cond_of (fun hb => ?_) (fun hb => ?_)⟩
    · have hi : i < o.l.length := by have := of_decide_eq_true hb; omega
      have hxm := List.getElem_mem hi
      obtain ⟨b3, o3, hla, hat3⟩ := row_someP l2 (i := i) (by simp; exact hi)
      subst hla
      have hld := hat3.load (P := Try.prog) (T := 128) (by kernel_rfl) (pL_get (i := i) (by simp; exact hi))
      rw [List.getElem_map] at hld
      refine ⟨_, index_slice (k := 1) (by kernel_rfl) (by omega) (by omega), ?_⟩
      rw [add_none, show (i : Int).toNat * 1 = i by omega]
      have hc := (h2.chs _ (hoa _ hxm)).2.2
      have hfl : ((o.l.take i).filter fun x => (mayL V.opn o.l).contains (x.id : Int) && !x.out).length ≤ i := by
        have := List.length_filter_le (fun x : Ch => (mayL V.opn o.l).contains (x.id : Int) && !x.out) (o.l.take i)
        rw [List.length_take] at this; omega
      have hsucc : ((o.l.take (i + 1)).filter fun x => (mayL V.opn o.l).contains (x.id : Int) && !x.out).length = ((o.l.take i).filter fun x => (mayL V.opn o.l).contains (x.id : Int) && !x.out).length + if ((mayL V.opn o.l).contains (o.l[i].id : Int) && !o.l[i].out) = true then 1 else 0 := by
        rw [List.take_succ_eq_append_getElem hi, List.filter_append, List.length_append]
        congr 1
        cases hf : ((mayL V.opn o.l).contains (o.l[i].id : Int) && !o.l[i].out) <;> simp only [List.filter, hf] <;> rfl
      refine ⟨_, hld, Share.cut (fun z w4 => w2 = w4 ∧ z = [.bool ((mayL V.opn o.l).contains (o.l[i].id : Int) && !o.l[i].out)]) ⟨_, rfl, _, hc.ld (j := 0) (by kernel_rfl) (fun _ _ _ _ => rfl), _, lookOk hmp _, cond_of (fun hb => ?_) (fun hb => ?_)⟩ ?_⟩
      · refine ⟨_, rfl, _, hc.ld (j := 5) (by kernel_rfl) (fun _ _ _ _ => rfl), rfl, ?_⟩
        rw [hb, Bool.true_and]
      · rw [hb, Bool.false_and]; exact ⟨rfl, rfl⟩
      rintro z w4 ⟨rfl, rfl⟩
      refine ⟨_, rfl, Share.cut (fun z w5 => w2 = w5 ∧ z = [.int .i64 (((o.l.take (i + 1)).filter fun x => (mayL V.opn o.l).contains (x.id : Int) && !x.out).length : Nat)]) (cond_of (fun hb => ?_) (fun hb => ?_)) ?_⟩
      · refine ⟨_, rfl, rfl, ?_⟩
        rw [hsucc, if_pos hb, wrap64 (by omega) (by omega)]
        rfl
      · rw [hsucc, if_neg (by rw [hb]; simp)]
        exact ⟨rfl, rfl⟩
      · rintro z w5 ⟨rfl, rfl⟩
        rw [wrap64 (x := (i : Int) + 1) (by omega) (by omega)]
        exact ⟨⟨rfl, i + 1, _, by omega, rfl⟩, by simp [nI, nth]; omega⟩
    · have hil : i = o.l.length := by have := of_decide_eq_false hb; omega
      subst hil
      refine ⟨_, rfl, ?_⟩
      rw [List.take_length]
      have := hk w2 m2
      unfold readyV at this
      rw [ho] at this; exact this
end
end Go.Proofs.Ytgcecmfjpljpcaa

/- Layer 11: a new store, the fixed calls, and a store that is not there. -/
open Go Go.Den Go.Proofs
namespace Go.Proofs.Ytgcecmfjpljpcaa
theorem build_store (w : World) (p : Option Addr) (n : Int) (m1 m2 : Option Nat) : (Instr.build 121 #[(0, .pointer p), (1, .int .i64 n), (3, .map m1), (4, .map m2)]).run Try.prog w = .ok (.agg ⟨[.pointer p, .int .i64 n, .int .i64 0, .map m1, .map m2]⟩) w := by kernel_rfl
theorem box_sto (w : World) (cs : List Value) : (Instr.box 121 (.agg ⟨cs⟩)).run Try.prog w = .ok (.pointer (some ⟨w.heap.size, 0, none⟩)) (w.alloc (.cells ⟨cs⟩ 121)) := rfl
def zeroV (k n : Nat) : Ps := ⟨⟨newSt k, n, []⟩, 0, []⟩
section
variable {w0 w w' : World} {R R' : Nat → Prop} {sp c d sb mb sc : Nat} {L : List (Int × Value)} {P V : Ps} {K : Value → World → Prop}
theorem Pz.mod (h : Pz w0 R w sp d V) : Mod No w0 w := by
  obtain ⟨C, _, _, h⟩ := h; exact h.wf.2.2.2.2.1
set_option maxRecDepth 100000 in
theorem qNew_c {D : St} {k : Nat} (hd : DiskIn w R d sb mb sc L D) (hsm : Small D) (hlo : ∀ x, R x → w0.heap.size ≤ x ∧ x < w.heap.size) (hm : Mod No w0 w) (hrun : D.left = -1) (h1 : 1 ≤ k) (h2 : k ≤ 4096) (hf : D.vs.length ≤ k)
    (hk : ∀ w' sp, Mod No w w' → Pz w0 (Gro R w w') w' sp d ⟨⟨D, k, []⟩, 0, []⟩ → K (.tuple #[.pointer (some ⟨sp, 0, none⟩), .int .i64 0]) w') : Cal Try.prog F_patch_Open #[.pointer (some ⟨d, 0, none⟩), .int .i64 k] w K := by
  classical
  apply C_patch_Open
  unfold D_patch_Open
  refine cNew_c (w0 := w0) hd hsm hlo hm (fun h => by omega) fun k' hk' _ _ w2 c m2 x2 => ⟨_, _, rfl, ff rfl ?_⟩
  have : k' = k := by omega
  subst this
  have hx2 := x2
  obtain ⟨rl, m, sb', mb', sc', lc', la', L', mp', hC⟩ := x2
  refine Len_c hC.disk ⟨_, rfl, _, _, makeMap_run, _, _, makeMap_run, _, fun w => build_store w _ _ _ _, _, _, box_sto _ _, ?_⟩
  have m3 : Mod No w2 (w2.alloc (.map #[] 0)) := (Mod.refl No w2).alloc _
  have p3 : MapAt (w2.alloc (.map #[] 0)) w2.heap.size [] := MapAt.new
  have s3 : (w2.alloc (.map #[] 0)).heap.size = w2.heap.size + 1 := by simp
  generalize w2.alloc (.map #[] 0) = w3 at *
  have m4 : Mod No w3 (w3.alloc (.map #[] 0)) := (Mod.refl No w3).alloc _
  have p4 : MapAt (w3.alloc (.map #[] 0)) w3.heap.size [] := MapAt.new
  have s4 : (w3.alloc (.map #[] 0)).heap.size = w3.heap.size + 1 := by simp
  generalize w3.alloc (.map #[] 0) = w4 at *
  have m5 : Mod No w4 (w4.alloc (.cells ⟨[.pointer (some ⟨c, 0, none⟩), .int .i64 D.vs.length, .int .i64 0, .map (some w2.heap.size), .map (some w3.heap.size)]⟩ 121)) := (Mod.refl No w4).alloc _
  have a5 : AtU (w4.alloc (.cells ⟨[.pointer (some ⟨c, 0, none⟩), .int .i64 D.vs.length, .int .i64 0, .map (some w2.heap.size), .map (some w3.heap.size)]⟩ 121)) w4.heap.size 0 [.pointer (some ⟨c, 0, none⟩), .int .i64 D.vs.length, .int .i64 0, .map (some w2.heap.size), .map (some w3.heap.size)] := AtU.new
  have s5 : (w4.alloc (.cells ⟨[.pointer (some ⟨c, 0, none⟩), .int .i64 D.vs.length, .int .i64 0, .map (some w2.heap.size), .map (some w3.heap.size)]⟩ 121)).heap.size = w4.heap.size + 1 := by simp
  generalize w4.alloc (.cells ⟨[.pointer (some ⟨c, 0, none⟩), .int .i64 D.vs.length, .int .i64 0, .map (some w2.heap.size), .map (some w3.heap.size)]⟩ 121) = w5 at *
  have M5 : Mod No w2 w5 := (m3.no m4).no m5
  have hz2 := m2.size
  have hw0 := hm.size
  have hG : ∀ x, Gro R w w2 x → w0.heap.size ≤ x ∧ x < w2.heap.size := fun x hx => by
    rcases hx with hx | hx
    · have := hlo x hx; omega
    · omega
  refine hk w5 w4.heap.size (m2.no M5) ⟨⟨D, k', []⟩, rfl, rfl, ?_, fun x => if x = w4.heap.size then 2 else if x = w2.heap.size then 3 else if x = w3.heap.size then 4 else if Gro R w w2 x then 1 else 0, c, w2.heap.size, w3.heap.size, fun _ => 0, fun _ => 0, [], [], ?_⟩
  · exact {
      lne := fun o ho => (by cases ho)
      pin := fun o ho => (by cases ho)
      unp := fun x hx => (by cases hx)
      run := hrun
      acc := fun o ho => (by cases ho)
      may := fun o ho => (by cases ho)
      cls := fun o ho => (by cases ho)
      afl := fun x hx => (by cases hx) }
  have e1 : (fun x => (if x = w4.heap.size then 2 else if x = w2.heap.size then 3 else if x = w3.heap.size then 4 else if Gro R w w2 x then 1 else 0) = 1) = Gro R w w2 := by
    funext x
    apply propext
    constructor
    · intro e
      by_cases h1 : x = w4.heap.size
      · rw [if_pos h1] at e; omega
      · rw [if_neg h1] at e
        by_cases h2 : x = w2.heap.size
        · rw [if_pos h2] at e; omega
        · rw [if_neg h2] at e
          by_cases h3 : x = w3.heap.size
          · rw [if_pos h3] at e; omega
          · rw [if_neg h3] at e
            by_cases h4 : Gro R w w2 x
            · exact h4
            · rw [if_neg h4] at e; omega
    · intro hx
      have := hG x hx
      rw [if_neg (by omega), if_neg (by omega), if_neg (by omega), if_pos hx]
  exact {
    cx := by rw [e1]; exact hx2.nos M5
    cell := a5
    mapO := (p3.keep m4 id).keep m5 id
    mapM := p4.keep m5 id
    rsp := if_pos rfl
    rmo := by rw [if_neg (by omega), if_pos rfl]
    rmm := by rw [if_neg (by omega), if_neg (by omega), if_pos rfl]
    chs := fun x hx => (by cases hx)
    ons := fun o ho => (by cases ho)
    keysO := fun p hp => (by cases hp)
    keysM := fun p hp => (by cases hp)
    wf := { full := hf, onsN := List.nodup_nil, onlt := fun o ho => (by cases ho), base := fun o ho => (by cases ho), llen := fun o ho => (by cases ho), ids := List.nodup_nil, idr := fun x hx => (by cases hx), chb := fun o ho => (by cases ho), dat := fun x hx => (by cases hx), aft := fun x hx => (by cases hx), last := Nat.zero_le _ }
    reg := fun x hx => by
      by_cases h4 : Gro R w w2 x
      · rcases h4 with h4 | h4
        · exact .inl h4
        · exact .inr (by omega)
      · right
        by_cases h1 : x = w4.heap.size
        · omega
        · by_cases h2 : x = w2.heap.size
          · omega
          · by_cases h3 : x = w3.heap.size
            · omega
            · rw [if_neg h1, if_neg h2, if_neg h3, if_neg h4] at hx; omega
    lo := fun x hx => by
      rcases hx with hx | hx
      · have := hlo x hx; omega
      · omega
    mod := ((hm.no m2).no M5) }
/-- Bytes of one's own beside a store. -/
structure Kp (R : Nat → Prop) (w : World) (g : Nat) (cs : List Value) : Prop where
  at_ : AtU w g 0 cs
  no : ¬ R g
theorem Kp.nos {g : Nat} {cs : List Value} (h : Kp R w g cs) (m : Mod No w w') : Kp R w' g cs := ⟨h.at_.keep m id, h.no⟩
theorem Kp.step {g : Nat} {cs : List Value} (h : Kp R w g cs) (m : Mod R w w') : Kp (Gro R w w') w' g cs := ⟨h.at_.keep m h.no, fun e => by
  have := h.at_.lt
  rcases e with e | e
  · exact h.no e
  · omega⟩
theorem lit (w : World) (v : UInt8) : Mod No w (w.alloc (.cells ⟨[.int .u8 (v.toNat : Int)]⟩ 5 (1, 2))) ∧ Row (w.alloc (.cells ⟨[.int .u8 (v.toNat : Int)]⟩ 5 (1, 2))) (some ⟨w.heap.size, 0, none⟩) (u8L [v]) :=
  ⟨(Mod.refl No w).alloc _, .inr ⟨_, _, rfl, _, _, _, heap_new w _, by simp [u8L], by simp [u8L, u8]⟩⟩
theorem Kp.of {w1 : World} {g : Nat} {cs : List Value} (h : Pz w0 R w sp d V) (m : Mod R w w1) (hg : w1.heap.size ≤ g) (hat : AtU w' g 0 cs) : Kp (Gro R w w1) w' g cs := ⟨hat, fun e => by
  have := m.size
  rcases e with e | e
  · have := (h.lo _ e).2; omega
  · omega⟩
def p0 : Ps := zeroV 8 8
def p1 : Ps := patS p0 5 0 [97] []
def p2 : Ps := patS p1 6 0 [98] [1]
def p3 : Ps := patS p2 5 1 [99] [2]
def p4 : Ps := wrV p3 5
def p5 : Ps := flV p4
def p6 : Ps := wrV p5 6
def p7 : Ps := flV p6
theorem p1e : patE p0 5 0 [97] [] = 0 ∧ patN p0 5 0 [97] [] = 1 ∧ p0.last = 0 := by decide +kernel
theorem p2e : patE p1 6 0 [98] [1] = 0 ∧ patN p1 6 0 [98] [1] = 2 ∧ p1.last = 1 := by decide +kernel
theorem p3e : patE p2 5 1 [99] [2] = 0 ∧ patN p2 5 1 [99] [2] = 3 ∧ p2.last = 2 := by decide +kernel
theorem p3i : errOf p3.C.D 6 = 0 ∧ errOf p3.C.D 5 = 0 := by decide +kernel
theorem p3x : (imgB p3 6)[0]? = some 0 := by decide +kernel
theorem p3y : (imgB p3 5)[0]? = some 97 ∧ (imgB p3 5)[1]? = some 0 := by decide +kernel
theorem p3z : (contV p3 5)[1]? = some 99 := by decide +kernel
theorem p4e : wrVE p3 5 = 0 := by decide +kernel
theorem p5s : safeV p5 1 = true ∧ safeV p5 2 = false ∧ safeV p5 3 = false := by decide +kernel
theorem p7s : safeV p7 2 = true ∧ readyV p7 5 = 1 ∧ openV p7 = 1 := by decide +kernel
theorem p3b : (p3.C.D.vs.all fun v => decide (v.length ≤ 999999)) = true := by decide +kernel
theorem p5b : (p5.C.D.vs.all fun v => decide (v.length ≤ 999999)) = true := by decide +kernel
theorem ldU {xs : List UInt8} {g i : Nat} {v : UInt8} {a : Addr} (h : AtU w g 0 (u8L xs)) (hv : xs[i]? = some v) (ha : a = ⟨g, i, none⟩) : Ru (Instr.loadAt 5 (.pointer (some a))) w (.int .u8 (v.toNat : Int)) w := by
  subst ha
  have := h.at.load (P := Try.prog) (T := 5) (i := i) (v := .int .u8 (v.toNat : Int)) (by kernel_rfl) (by
    unfold u8L
    rw [List.getElem?_map, hv]; rfl)
  rw [Nat.zero_add] at this; exact this
set_option maxRecDepth 100000 in
theorem known11_c (hk : ∀ w', Mod No w w' → K (.bool true) w') : Cal Try.prog F_leveelaw11_known #[] w K := by
  apply C_leveelaw11_known
  unfold D_leveelaw11_known
  refine New_c (n := 8) (by omega) (by omega) (fun h => by omega) fun k hk' _ _ w1 d sb mb m1 h1 => ⟨_, _, rfl, ?_⟩
  have : k = 8 := by omega
  subst this
  have hsm : Small (newSt 8) := Small.one (sm _ (by decide +kernel))
  refine qNew_c (w0 := w) (k := 8) h1 hsm (fun x hx => hx) m1 rfl (by omega) (by omega) (by simp [newSt]) fun w2 sp m2 z2 => ⟨_, _, rfl, Share.dup (ff rfl ⟨_, rfl, ff rfl ?_⟩)⟩
  have z2 : Pz w _ w2 sp d p0 := z2
  -- the changes
  obtain ⟨ma, ra⟩ := lit w2 97
  have lo2 := z2.lo
  refine ⟨_, _, _, _, built1 _ 97, _, _, _, _, conv_lit _ 97, qPatch_c (n := 5) (frm := 0) (data := [97]) (after := []) (z2.nos ma) (by rw [p1e.2.2]; omega) rfl ra (fun q hq hR => by cases hq; have := (lo2 _ hR).2; simp only at this; omega) (by omega) rfl (by omega) (.inl rfl) (fun q hq => by cases hq) fun w3 m3 z3 => ⟨_, _, rfl, ?_⟩⟩
  rw [p1e.1, p1e.2.1]
  have z3 : Pz w _ w3 sp d p1 := z3
  obtain ⟨mb, rb⟩ := lit w3 98
  have lo3 := z3.lo
  refine ⟨_, _, _, _, built1 _ 98, _, _, _, _, conv_lit _ 98, _, _, _, _, builtI64 _ 1, ?_⟩
  have mb2 : Mod No (w3.alloc (.cells ⟨[.int .u8 ((98 : UInt8).toNat : Int)]⟩ 5 (1, 2))) ((w3.alloc (.cells ⟨[.int .u8 ((98 : UInt8).toNat : Int)]⟩ 5 (1, 2))).alloc (.cells ⟨[.int .i64 1]⟩ 2)) := (Mod.refl No _).alloc _
  refine qPatch_c (n := 6) (frm := 0) (data := [98]) (after := [1]) ((z3.nos mb).nos mb2) (by rw [p2e.2.2]; omega) rfl (rb.nos mb2) (fun q hq hR => by cases hq; have := (lo3 _ hR).2; simp only at this; omega) (by omega) rfl (by omega) (.inr ⟨_, _, rfl, AtU.new.at⟩) (fun q hq hR => by cases hq; have := (lo3 _ hR).2; simp at this; omega) fun w4 m4 z4 => ⟨_, _, rfl, ?_⟩
  rw [p2e.1, p2e.2.1]
  have z4 : Pz w _ w4 sp d p2 := z4
  obtain ⟨mc, rc⟩ := lit w4 99
  have lo4 := z4.lo
  refine ⟨_, _, _, _, built1 _ 99, _, _, _, _, conv_lit _ 99, _, _, _, _, builtI64 _ 2, ?_⟩
  have mc2 : Mod No (w4.alloc (.cells ⟨[.int .u8 ((99 : UInt8).toNat : Int)]⟩ 5 (1, 2))) ((w4.alloc (.cells ⟨[.int .u8 ((99 : UInt8).toNat : Int)]⟩ 5 (1, 2))).alloc (.cells ⟨[.int .i64 2]⟩ 2)) := (Mod.refl No _).alloc _
  refine qPatch_c (n := 5) (frm := 1) (data := [99]) (after := [2]) ((z4.nos mc).nos mc2) (by rw [p3e.2.2]; omega) rfl (rc.nos mc2) (fun q hq hR => by cases hq; have := (lo4 _ hR).2; simp only at this; omega) (by omega) rfl (by omega) (.inr ⟨_, _, rfl, AtU.new.at⟩) (fun q hq hR => by cases hq; have := (lo4 _ hR).2; simp at this; omega) fun w5 m5 z5 => ⟨_, _, rfl, ?_⟩
  rw [p3e.1, p3e.2.1]
  have z5 : Pz w _ w5 sp d p3 := z5
  -- what is read
  refine qImage_c (n := 6) z5 (fun he => absurd p3i.1 he) fun b hb _ w6a w6 gx cx m6a m6 z6 hgx atx => ⟨_, _, _, _, rfl, ?_⟩
  have : b = 6 := by omega
  subst this
  have kx := Kp.of z5 m6a hgx atx
  refine qImage_c (n := 5) z6 (fun he => absurd p3i.2 he) fun b hb _ w7a w7 gy cy m7a m7 z7 hgy aty => ⟨_, _, _, _, rfl, ?_⟩
  have : b = 5 := by omega
  subst this
  have ky := Kp.of z6 m7a hgy aty
  have kx := (kx.step m7a).nos m7
  refine qRead_c (n := 5) z7 (fun he => absurd p3i.2 he) fun b hb _ w8a w8 gz cz m8a m8 z8 hgz atz => ⟨_, _, _, _, rfl, ?_⟩
  have : b = 5 := by omega
  subst this
  have kz := Kp.of z7 m8a hgz atz
  have kx := (kx.step m8a).nos m8
  have ky := (ky.step m8a).nos m8
  refine Share.dup (ff rfl (ff rfl ⟨_, rfl, ff rfl ?_⟩))
  -- written and flushed
  refine qWrite_c (n := 5) z8 (sm _ p3b) fun w9 m9 z9 => ⟨_, rfl, ?_⟩
  have z9 : Pz w _ w9 sp d p4 := z9
  have kx := kx.step m9
  have ky := ky.step m9
  have kz := kz.step m9
  refine qFlush_c z9 fun w10 m10 z10 => ⟨_, rfl, ?_⟩
  have z10 : Pz w _ w10 sp d p5 := z10
  have kx := kx.step m10
  have ky := ky.step m10
  have kz := kz.step m10
  refine Share.cut (fun x w' => w10 = w' ∧ x = [.bool true]) ?_ ?_
  · refine qSafe_c z10 ⟨_, rfl, tt p5s.1 (qSafe_c z10 ⟨_, rfl, tt (by rw [p5s.2.1]; rfl) (qSafe_c z10 ⟨_, rfl, rfl, ?_⟩)⟩)⟩
    rw [p5s.2.2]; rfl
  rintro x w' ⟨rfl, rfl⟩
  refine qWrite_c (n := 6) z10 (sm _ p5b) fun w11 m11 z11 => ⟨_, rfl, ?_⟩
  have z11 : Pz w _ w11 sp d p6 := z11
  have kx := kx.step m11
  have ky := ky.step m11
  have kz := kz.step m11
  refine qFlush_c z11 fun w12 m12 z12 => ⟨_, rfl, ?_⟩
  have z12 : Pz w _ w12 sp d p7 := z12
  have kx := kx.step m12
  have ky := ky.step m12
  have kz := kz.step m12
  refine Share.dup (tt rfl (tt rfl (tt rfl (tt rfl ⟨_, index_slice (k := 1) (by kernel_rfl) (by omega) (by simp), _, ldU kx.at_ p3x (by rw [add_none]; rfl), tt rfl ⟨_, index_slice (k := 1) (by kernel_rfl) (by omega) (by simp), _, ldU ky.at_ p3y.1 (by rw [add_none]; rfl), tt rfl ⟨_, index_slice (k := 1) (by kernel_rfl) (by omega) (by simp), _, ldU ky.at_ p3y.2 (by rw [add_none]; rfl), tt rfl
    ⟨_, index_slice (k := 1) (by kernel_rfl) (by omega) (by simp), _, ldU kz.at_ p3z (by rw [add_none]; rfl), tt rfl (tt (by rw [p4e]; rfl) ⟨_, rfl, tt rfl ?_⟩)⟩⟩⟩⟩))))
  refine qSafe_c z12 ⟨_, rfl, tt p7s.1 (qReady_c (n := 5) z12 fun w13 m13 => ⟨_, rfl, tt (by rw [p7s.2.1]; rfl) (qOpen_c (z12.nos m13) ⟨_, rfl, _, rfl, ?_⟩)⟩)⟩
  rw [p7s.2.2]
  exact hk w13 (z12.nos m13).mod
end
end Go.Proofs.Ytgcecmfjpljpcaa
