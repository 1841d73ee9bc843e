/- Layer 2, the program's disk: what it is in memory, and the functions that read it. -/
import Derived.Test.YtocjjigmpgekfaaMapsH
import Derived.Test.YtocjjigmpgekfaaSortC
import Derived.Test.YtocjjigmpgekfaaTxtA
open Go Go.Den Go.Proofs
namespace Go.Den
abbrev Bk := List UInt8
/-- A disk: each block's versions, the first one safe; how many writes more take place (-1: all). -/
structure St where
  vs : List (List Bk)
  left : Int
def St.n (D : St) : Nat := D.vs.length
structure WF (D : St) : Prop where
  ver : ∀ v ∈ D.vs, v ≠ [] ∧ ∀ x ∈ v, x.length = 256
  lo : 1 ≤ D.vs.length
  hi : D.vs.length ≤ 4096
  l0 : -1 ≤ D.left
  l1 : D.left ≤ 9223372036854775807
def hd (v : List Bk) : Bk := v.headD []
def lastV (v : List Bk) : Bk := v.getLastD []
theorem flat_len : ∀ (xs : List Bk), (∀ x ∈ xs, x.length = 256) → xs.flatten.length = xs.length * 256
  | [], _ => rfl
  | x :: r, h => by
    rw [List.flatten_cons, List.length_append, h x (by simp), flat_len r (fun y hy => h y (by simp [hy])), List.length_cons]; omega
theorem flat_get : ∀ (xs : List Bk), (∀ x ∈ xs, x.length = 256) → ∀ (i : Nat) (x : Bk), xs[i]? = some x → (xs.flatten.drop (i * 256)).take 256 = x
  | [], _, i, x, h => by simp at h
  | y :: r, hx, i, x, h => by
    have hy := hx y (by simp)
    cases i with
    | zero =>
      simp at h; subst h
      rw [Nat.zero_mul, List.drop_zero, List.flatten_cons, List.take_append_of_le_length (by omega), List.take_of_length_le (by omega)]
    | succ i =>
      have h' : r[i]? = some x := by simpa using h
      rw [List.flatten_cons, List.drop_append, List.drop_eq_nil_of_le (by omega), List.nil_append, show (i + 1) * 256 - y.length = i * 256 by omega]
      exact flat_get r (fun z hz => hx z (by simp [hz])) i x h'
theorem flat_set : ∀ (xs : List Bk), (∀ x ∈ xs, x.length = 256) → ∀ (i : Nat) (y : Bk), i < xs.length → y.length = 256 → xs.flatten.take (i * 256) ++ y ++ xs.flatten.drop (i * 256 + 256) = (xs.set i y).flatten
  | [], _, i, y, h, _ => by simp at h
  | x :: r, hx, i, y, h, hy => by
    have hxl := hx x (by simp)
    cases i with
    | zero =>
      simp only [List.set_cons_zero, List.flatten_cons, Nat.zero_mul, List.take_zero, List.nil_append, Nat.zero_add]
      rw [List.drop_append, List.drop_eq_nil_of_le (by omega), List.nil_append, hxl]; simp
    | succ i =>
      have ih := flat_set r (fun z hz => hx z (by simp [hz])) i y (by simpa using h) hy
      simp only [List.set_cons_succ, List.flatten_cons]
      rw [← ih, List.take_append, List.take_of_length_le (by omega), List.drop_append, List.drop_eq_nil_of_le (by omega), hxl]
      rw [show (i + 1) * 256 - 256 = i * 256 by omega, show (i + 1) * 256 + 256 - 256 = i * 256 + 256 by omega]
      simp

/-- What the map holds of a block: nothing, or its open versions. -/
def OpenIn (w : World) (R : Nat → Prop) (b sb : Nat) (L : List (Int × Value)) (i : Nat) (v : List Bk) : Prop :=
  (v.tail = [] ∧ lookupL L i = none) ∨ (v.tail ≠ [] ∧ ∃ vb c, lookupL L i = some (.slice (some ⟨vb, 0, none⟩) v.tail.length c) ∧ v.tail.length ≤ c ∧ At w vb 0 (u8L v.tail.flatten) ∧ R vb ∧ vb ≠ b ∧ vb ≠ sb)
structure DiskIn (w : World) (R : Nat → Prop) (b sb mb sc : Nat) (L : List (Int × Value)) (D : St) : Prop where
  cell : AtU w b 0 [.slice (some ⟨sb, 0, none⟩) D.vs.length sc, .map (some mb), .int .i64 D.left]
  cap : D.vs.length ≤ sc
  safe : AtU w sb 0 (u8L (D.vs.map hd).flatten)
  map : MapAt w mb L
  rb : R b
  rs : R sb
  rm : R mb
  ne : b ≠ sb
  opn : ∀ i v, D.vs[i]? = some v → OpenIn w R b sb L i v
  keys : ∀ p ∈ L, ∃ i : Nat, p.1 = i ∧ i < D.vs.length
  wf : WF D
  lt : ∀ x, R x → x < w.heap.size

section
variable {w : World} {R : Nat → Prop} {b sb mb sc : Nat} {L : List (Int × Value)} {D : St}
theorem OpenIn.keep {S : Nat → Prop} {w' : World} {i : Nat} {v : List Bk} (h : OpenIn w R b sb L i v) (m : Mod S w w') (hs : ∀ x, R x → S x → x = b ∨ x = sb) : OpenIn w' R b sb L i v := by
  rcases h with h | ⟨h1, vb, c, h2, h3, h4, h5, h6, h7⟩
  · exact .inl h
  · exact .inr ⟨h1, vb, c, h2, h3, h4.keep m (fun e => by rcases hs vb h5 e with e | e; exact h6 e; exact h7 e), h5, h6, h7⟩
theorem DiskIn.keep {S : Nat → Prop} {w' : World} (h : DiskIn w R b sb mb sc L D) (m : Mod S w w') (hs : ∀ x, R x → ¬ S x) : DiskIn w' R b sb mb sc L D where
  cell := h.cell.keep m (hs _ h.rb)
  cap := h.cap
  safe := h.safe.keep m (hs _ h.rs)
  map := h.map.keep m (hs _ h.rm)
  rb := h.rb
  rs := h.rs
  rm := h.rm
  ne := h.ne
  opn := fun i v hv => (h.opn i v hv).keep m fun x hx e => absurd e (hs x hx)
  keys := h.keys
  wf := h.wf
  lt := fun x hx => Nat.lt_of_lt_of_le (h.lt x hx) m.size
theorem DiskIn.nos {w' : World} (h : DiskIn w R b sb mb sc L D) (m : Mod No w w') : DiskIn w' R b sb mb sc L D := h.keep m fun _ _ => id
theorem DiskIn.drew (h : DiskIn w R b sb mb sc L D) : DiskIn (drew w) R b sb mb sc L D := h.nos (Mod.refl No w).drew
theorem DiskIn.nbm (h : DiskIn w R b sb mb sc L D) : b ≠ mb := h.map.ne_cells h.cell.at
theorem DiskIn.nsm (h : DiskIn w R b sb mb sc L D) : sb ≠ mb := h.map.ne_cells h.safe.at
theorem WF.hd {D : St} (h : WF D) : ∀ x ∈ D.vs.map hd, x.length = 256 := by
  intro x hx
  obtain ⟨v, hv, rfl⟩ := List.mem_map.1 hx
  obtain ⟨h1, h2⟩ := h.ver v hv
  cases v with
  | nil => exact absurd rfl h1
  | cons a r => exact h2 a (by simp)
theorem WF.tl {D : St} (h : WF D) {i : Nat} {v : List Bk} (hv : D.vs[i]? = some v) : ∀ x ∈ v.tail, x.length = 256 := fun x hx => (h.ver v (List.mem_of_getElem? hv)).2 x (List.mem_of_mem_tail hx)
theorem WF.lastLen {D : St} (h : WF D) {i : Nat} {v : List Bk} (hv : D.vs[i]? = some v) : (lastV v).length = 256 := by
  obtain ⟨h1, h2⟩ := h.ver v (List.mem_of_getElem? hv)
  refine h2 _ ?_
  unfold lastV
  rw [List.getLastD_eq_getLast?, List.getLast?_eq_some_getLast h1]
  exact List.getLast_mem h1
theorem last_tail {v : List Bk} (h : v.tail ≠ []) : v.tail[v.tail.length - 1]? = some (lastV v) := by
  cases v with
  | nil => exact absurd rfl h
  | cons a r =>
    simp only [List.tail_cons] at h ⊢
    rw [← List.getLast?_eq_getElem?]
    unfold lastV
    rw [List.getLastD_eq_getLast?, List.getLast?_cons]
    cases r with
    | nil => exact absurd rfl h
    | cons b r => simp [List.getLast?_cons]
theorem last_one {v : List Bk} (h : v.tail = []) : lastV v = hd v := by
  cases v with
  | nil => rfl
  | cons a r => simp only [List.tail_cons] at h; subst h; rfl
end
end Go.Den

namespace Go.Proofs.Ytocjjigmpgekfaa
section
variable {w : World} {R : Nat → Prop} {b sb mb sc : Nat} {L : List (Int × Value)} {D : St} {K : Value → World → Prop}
theorem mapDisk : mapZ Try.prog 51 = some (.slice none 0 0) := by kernel_rfl
theorem look_none {w : World} {m : Nat} {L : List (Int × Value)} {k : Int} (h : MapAt w m L) (hl : lookupL L k = none) : Ru (Instr.lookup 51 (.map (some m)) (.int .i64 k) false) w (.slice none 0 0) w := by
  have := lookup_run (P := Try.prog) mapDisk h (k := k)
  rwa [hl] at this
theorem look_some {w : World} {m : Nat} {L : List (Int × Value)} {k : Int} {v : Value} (h : MapAt w m L) (hl : lookupL L k = some v) : Ru (Instr.lookup 51 (.map (some m)) (.int .i64 k) false) w v w := by
  have := lookup_run (P := Try.prog) mapDisk h (k := k)
  rwa [hl] at this
theorem elemZ_blocks : elemZ Try.prog 50 256 (.int .u8 0) 256 := by unfold elemZ; kernel_rfl
theorem alloc_block (w : World) : (Instr.alloc 80 true (.tuple #[])).run Try.prog w = .ok (.pointer (some ⟨w.heap.size, 0, none⟩)) (w.alloc (.cells ⟨u8L (List.replicate 256 0)⟩ 80)) := by kernel_rfl
theorem agg_block : aggN Try.prog 80 = some 256 := by kernel_rfl
theorem slice_block (q : Addr) : Al (Instr.sliceAt 80 (.pointer (some q)) none none none) (.slice (some q) 256 256) := fun _ => by kernel_rfl

theorem _root_.Go.Den.DiskIn.ld (h : DiskIn w R b sb mb sc L D) : Ru (Instr.loadAt 3 (.pointer (some (Addr.add ⟨b, 0, none⟩ 2)))) w (.int .i64 D.left) w := by
  rw [add_none]; exact h.cell.at.load (by kernel_rfl) rfl
theorem _root_.Go.Den.DiskIn.lm (h : DiskIn w R b sb mb sc L D) : Ru (Instr.loadAt 51 (.pointer (some (Addr.add ⟨b, 0, none⟩ 1)))) w (.map (some mb)) w := by
  rw [add_none]; exact h.cell.at.load (by kernel_rfl) rfl
theorem _root_.Go.Den.DiskIn.ls (h : DiskIn w R b sb mb sc L D) : Ru (Instr.loadAt 50 (.pointer (some (Addr.add ⟨b, 0, none⟩ 0)))) w (.slice (some ⟨sb, 0, none⟩) D.vs.length sc) w := by
  rw [add_none]; exact h.cell.at.load (by kernel_rfl) rfl

def errOf (D : St) (n : Int) : Int := if n < 0 ∨ D.vs.length ≤ n then 3 else 0
theorem may_c (h : DiskIn w R b sb mb sc L D) {n : Int} (hk : K (.int .i64 (errOf D n)) w) : Cal Try.prog F_disk_Disk_may #[.pointer (some ⟨b, 0, none⟩), .int .i64 n] w K := by
  apply C_disk_Disk_may
  unfold D_disk_Disk_may
  refine ff rfl (Share.cut (fun x w' => x = [.bool (decide (n < 0 ∨ D.vs.length ≤ n))] ∧ w' = w) (cond_of (fun hb => ?_) (fun hb => ?_)) ?_)
  · have := of_decide_eq_true hb
    exact ⟨by simp [this], rfl⟩
  · have := of_decide_eq_false hb
    exact ⟨_, rfl, _, _, _, h.ls, by simp [this], rfl⟩
  · rintro x w' ⟨rfl, rfl⟩
    refine ⟨_, rfl, cond_of (fun hb => ?_) (fun hb => ?_)⟩
    · have := of_decide_eq_true hb
      rw [errOf, if_pos this] at hk; exact hk
    · have := of_decide_eq_false hb
      rw [errOf, if_neg this] at hk; exact hk

theorem goes_c (h : DiskIn w R b sb mb sc L D) (h0 : D.left = 0 → K (.bool false) w)
    (h1 : D.left ≠ 0 → ∀ w', DiskIn w' R b sb mb sc L { D with left := if -1 > D.left - 1 then -1 else D.left - 1 } → Mod (fun x => x = b) w w' → K (.bool true) w') : Cal Try.prog F_disk_Disk_goes #[.pointer (some ⟨b, 0, none⟩)] w K := by
  apply C_disk_Disk_goes
  unfold D_disk_Disk_goes
  refine ⟨_, rfl, _, h.ld, cond_of (fun hb => ?_) (fun hb => ?_)⟩
  · exact h0 (by simpa using hb)
  have hne : D.left ≠ 0 := by simpa using hb
  have hl0 := h.wf.l0
  have hl1 := h.wf.l1
  obtain ⟨w', s1, s2, s3, s4⟩ := h.cell.store (P := Try.prog) (T := 3) (i := 2) (v := .int .i64 (if -1 > D.left - 1 then -1 else D.left - 1)) (by kernel_rfl) (by simp) rfl
  refine ⟨_, rfl, _, h.ld, _, rfl, w', ?_, ?_⟩
  · rw [wrap64 (x := D.left - 1) (by omega) (by omega), add_none]; exact s1
  refine h1 hne w' ?_ s3
  exact { cell := by simpa using s2, cap := h.cap, safe := h.safe.keep s3 h.ne.symm, map := h.map.keep s3 h.nbm.symm, rb := h.rb, rs := h.rs, rm := h.rm, ne := h.ne,
          opn := fun i v hv => (h.opn i v hv).keep s3 fun x _ e => .inl e, keys := h.keys,
          wf := { ver := h.wf.ver, lo := h.wf.lo, hi := h.wf.hi, l0 := by show -1 ≤ ite _ _ _; split <;> omega, l1 := by show ite _ _ _ ≤ _; split <;> omega },
          lt := fun x hx => Nat.lt_of_lt_of_le (h.lt x hx) s3.size }

theorem idx_block {a : Addr} {n c : Nat} {i : Nat} (hi : i < n) (w : World) : (Instr.indexAt 50 (.slice (some a) n c) (.int .i64 i)).run Try.prog w = .ok (.pointer (some (a.add (i * 256)))) w := by
  have := index_slice (P := Try.prog) (T := 50) (k := 256) (a := a) (n := n) (c := c) (kk := .i64) (i := i) (by kernel_rfl) (by omega) (by omega) w
  rwa [Int.toNat_natCast] at this
theorem load_block {b : Nat} {xs : List Bk} (h : At w b 0 (u8L xs.flatten)) (hx : ∀ x ∈ xs, x.length = 256) {i : Nat} {x : Bk} (hi : xs[i]? = some x) : Ru (Instr.loadAt 80 (.pointer (some (Addr.add ⟨b, 0, none⟩ (i * 256))))) w (.agg ⟨u8L x⟩) w := by
  have hlt : i < xs.length := (List.getElem?_eq_some_iff.1 hi).1
  have hl := flat_len xs hx
  have := h.loadAgg (P := Try.prog) (i := i * 256) agg_block (by rw [length_u8L, hl]; have : (i + 1) * 256 ≤ xs.length * 256 := Nat.mul_le_mul_right _ hlt
                                                                 omega)
  rw [add_none]
  rw [u8L_sub, flat_get xs hx i x hi] at this
  exact this

theorem last_c (h : DiskIn w R b sb mb sc L D) {i : Nat} {v : List Bk} (hv : D.vs[i]? = some v) (hlen : v.length ≤ 1000000) (hk : ∀ w', Mod No w w' → K (.agg ⟨u8L (lastV v)⟩) w') : Cal Try.prog F_disk_Disk_last #[.pointer (some ⟨b, 0, none⟩), .int .i64 i] w K := by
  apply C_disk_Disk_last
  unfold D_disk_Disk_last
  refine ⟨_, _, alloc_block w, _, rfl, some mb, ?_⟩
  have m1 : Mod No w (w.alloc (.cells ⟨u8L (List.replicate 256 0)⟩ 80)) := (Mod.refl No w).alloc _
  have h' := h.nos m1
  refine ⟨h'.lm, ?_⟩
  have hll := h.wf.lastLen hv
  have fin : K (.agg ⟨u8L (lastV v)⟩) (w.alloc (.cells ⟨u8L (lastV v)⟩ 80)) := hk _ ((Mod.refl No w).alloc _)
  have st : ∃ w2, RuU (Instr.storeAt 80 (.pointer (some ⟨w.heap.size, 0, none⟩)) (.agg ⟨u8L (lastV v)⟩)) (w.alloc (.cells ⟨u8L (List.replicate 256 0)⟩ 80)) w2 ∧
      ∃ g : Array Value, Ru (Instr.loadAt 80 (.pointer (some ⟨w.heap.size, 0, none⟩))) w2 (.agg g) w2 ∧ K (.agg g) w2 :=
    ⟨_, store_new agg_block (by rw [length_u8L, List.length_replicate]) (by simp [hll]) (one_u8L _), _, load_new agg_block (by simp [hll]), fin⟩
  rcases h'.opn i v hv with ⟨ht, hl⟩ | ⟨ht, vb, c, hl, hc, hat, _⟩
  · refine ⟨_, _, _, look_none h'.map hl, ff (by simp) ⟨_, rfl, _, _, _, h'.ls, _, fun _ => idx_block (List.getElem?_eq_some_iff.1 hv).1 _, ⟨u8L (lastV v)⟩, ?_, st⟩⟩
    rw [last_one ht]
    exact load_block h'.safe.at h.wf.hd (by rw [List.getElem?_map, hv]; rfl)
  · refine ⟨_, _, _, look_some h'.map hl, ?_⟩
    have hpos : 0 < v.tail.length := List.length_pos_iff.2 ht
    have htl : v.tail.length ≤ v.length := by simp
    refine tt (decide_eq_true (by omega)) ?_
    rw [wrap64 (x := (v.tail.length : Int) - 1) (by omega) (by omega), show (v.tail.length : Int) - 1 = ((v.tail.length - 1 : Nat) : Int) by omega]
    refine ⟨_, fun _ => idx_block (by omega) _, _, load_block hat (h.wf.tl hv) (last_tail ht), st⟩
end
end Go.Proofs.Ytocjjigmpgekfaa
