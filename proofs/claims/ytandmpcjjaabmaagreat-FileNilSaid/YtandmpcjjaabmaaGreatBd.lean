/- Parts of the proof, in order: what the statement leans on. -/
import Derived.Test.YtandmpcjjaabmaaGreatBc
section
open Go Go.Den Go.Proofs
namespace Go.Den
abbrev Bk:=List UInt8
structure St where
 vs:List (List Bk)
 left:Int
structure WF (D:St):Prop where
 ver:∀ v∈D.vs,v≠[]/\∀ x∈v,x.length=256
 lo:1<=D.vs.length
 hi:D.vs.length<=4096
 l0:-1<=D.left
 l1:D.left<=9223372036854775807
def hd (v:List Bk):Bk:=v.headD []
def lastV (v:List Bk):Bk:=v.getLastD []
theorem flat_len:∀ (xs:List Bk),(∀ x∈xs,x.length=256)->xs.flatten.length=xs.length*256
 | [],_=>rfl
 | x::r,h=>by
  rw [List.flatten_cons,List.length_append,h x (by simp),flat_len r (fun y hy=>h y (by simp [hy])),List.length_cons]; omega
theorem flat_get:∀ (xs:List Bk),(∀ x∈xs,x.length=256)->∀ (i:Nat) (x:Bk),xs[i]?=some x->(xs.flatten.drop (i*256)).take 256=x
 | [],_,i,x,h=>by simp at h
 | y::r,hx,i,x,h=>by
  have hy:=hx y (by simp)
  cases i with
  | zero =>
   simp at h; subst h
   rw [Nat.zero_mul,List.drop_zero,List.flatten_cons,List.take_append_of_le_length (by omega),List.take_of_length_le (by omega)]
  | succ i =>
   have h':r[i]?=some x:=by simpa using h
   rw [List.flatten_cons,List.drop_append,List.drop_eq_nil_of_le (by omega),List.nil_append,show (i+1)*256-y.length=i*256 by omega]
   exact flat_get r (fun z hz=>hx z (by simp [hz])) i x h'
theorem flat_set:∀ (xs:List Bk),(∀ x∈xs,x.length=256)->∀ (i:Nat) (y:Bk),i<xs.length->y.length=256->xs.flatten.take (i*256)++y++xs.flatten.drop (i*256+256)=(xs.set i y).flatten
 | [],_,i,y,h,_=>by simp at h
 | x::r,hx,i,y,h,hy=>by
  have hxl:=hx x (by simp)
  cases i with
  | zero =>
   simp only [List.set_cons_zero,List.flatten_cons,Nat.zero_mul,List.take_zero,List.nil_append,Nat.zero_add]
   rw [List.drop_append,List.drop_eq_nil_of_le (by omega),List.nil_append,hxl]; simp
  | succ i =>
   have ih:=flat_set r (fun z hz=>hx z (by simp [hz])) i y (by simpa using h) hy
   simp only [List.set_cons_succ,List.flatten_cons]
   rw [<- ih,List.take_append,List.take_of_length_le (by omega),List.drop_append,List.drop_eq_nil_of_le (by omega),hxl]
   rw [show (i+1)*256-256=i*256 by omega,show (i+1)*256+256-256=i*256+256 by omega]
   simp
def OpenIn (w:World) (R:Nat->Prop) (b sb:Nat) (L:List (Int×Value)) (i:Nat) (v:List Bk):Prop :=
 (v.tail=[]/\lookupL L i=none)\/(v.tail≠[]/\∃ vb c,lookupL L i=some (.slice (some ⟨vb,0,none⟩) v.tail.length c)/\v.tail.length<=c/\At w vb 0 (u8L v.tail.flatten)/\R vb/\vb≠b/\vb≠sb)
structure DiskIn (w:World) (R:Nat->Prop) (b sb mb sc:Nat) (L:List (Int×Value)) (D:St):Prop where
 cell:AtU w b 0 [.slice (some ⟨sb,0,none⟩) D.vs.length sc,.map (some mb),.int .i64 D.left]
 cap:D.vs.length<=sc
 safe:AtU w sb 0 (u8L (D.vs.map hd).flatten)
 map:MapAt w mb L
 rb:R b
 rs:R sb
 rm:R mb
 ne:b≠sb
 opn:∀ i v,D.vs[i]?=some v->OpenIn w R b sb L i v
 keys:∀ p∈L,∃ i:Nat,p.1=i/\i<D.vs.length
 wf:WF D
 lt:∀ x,R x->x<w.heap.size
section
variable {w:World} {R:Nat->Prop} {b sb mb sc:Nat} {L:List (Int×Value)} {D:St}
theorem OpenIn.keep {S:Nat->Prop} {w':World} {i:Nat} {v:List Bk} (h:OpenIn w R b sb L i v) (m:Mod S w w') (hs:∀ x,R x->S x->x=b\/x=sb):OpenIn w' R b sb L i v:=by
 rcases h with h | ⟨h1,vb,c,h2,h3,h4,h5,h6,h7⟩
 ·exact .inl h
 ·exact .inr ⟨h1,vb,c,h2,h3,h4.keep m (fun e=>by rcases hs vb h5 e with e | e; exact h6 e; exact h7 e),h5,h6,h7⟩
theorem DiskIn.keep {S:Nat->Prop} {w':World} (h:DiskIn w R b sb mb sc L D) (m:Mod S w w') (hs:∀ x,R x->¬ S x):DiskIn w' R b sb mb sc L D where
 cell:=h.cell.keep m (hs _ h.rb)
 cap:=h.cap
 safe:=h.safe.keep m (hs _ h.rs)
 map:=h.map.keep m (hs _ h.rm)
 rb:=h.rb
 rs:=h.rs
 rm:=h.rm
 ne:=h.ne
 opn:=fun i v hv=>(h.opn i v hv).keep m fun x hx e=>absurd e (hs x hx)
 keys:=h.keys
 wf:=h.wf
 lt:=fun x hx=>Nat.lt_of_lt_of_le (h.lt x hx) m.size
theorem DiskIn.nos {w':World} (h:DiskIn w R b sb mb sc L D) (m:Mod No w w'):DiskIn w' R b sb mb sc L D:=h.keep m fun _ _=>id
theorem DiskIn.drew (h:DiskIn w R b sb mb sc L D):DiskIn (drew w) R b sb mb sc L D:=h.nos (Mod.refl No w).drew
theorem DiskIn.nbm (h:DiskIn w R b sb mb sc L D):b≠mb:=h.map.ne_cells h.cell.at
theorem DiskIn.nsm (h:DiskIn w R b sb mb sc L D):sb≠mb:=h.map.ne_cells h.safe.at
theorem WF.hd {D:St} (h:WF D):∀ x∈D.vs.map hd,x.length=256:=by
 intro x hx
 obtain ⟨v,hv,rfl⟩:=List.mem_map.1 hx
 obtain ⟨h1,h2⟩:=h.ver v hv
 cases v with
 | nil=>exact absurd rfl h1
 | cons a r=>exact h2 a (by simp)
theorem WF.tl {D:St} (h:WF D) {i:Nat} {v:List Bk} (hv:D.vs[i]?=some v):∀ x∈v.tail,x.length=256:=fun x hx=>(h.ver v (List.mem_of_getElem? hv)).2 x (List.mem_of_mem_tail hx)
theorem WF.lastLen {D:St} (h:WF D) {i:Nat} {v:List Bk} (hv:D.vs[i]?=some v):(lastV v).length=256:=by
 obtain ⟨h1,h2⟩:=h.ver v (List.mem_of_getElem? hv)
 refine h2 _ ?_
 unfold lastV
 rw [List.getLastD_eq_getLast?,List.getLast?_eq_some_getLast h1]
 exact List.getLast_mem h1
theorem last_tail {v:List Bk} (h:v.tail≠[]):v.tail[v.tail.length-1]?=some (lastV v):=by
 cases v with
 | nil=>exact absurd rfl h
 | cons a r =>
  simp only [List.tail_cons] at h |-
  rw [<- List.getLast?_eq_getElem?]
  unfold lastV
  rw [List.getLastD_eq_getLast?,List.getLast?_cons]
  cases r with
  | nil=>exact absurd rfl h
  | cons b r=>simp [List.getLast?_cons]
theorem last_one {v:List Bk} (h:v.tail=[]):lastV v=hd v:=by
 cases v with
 | nil=>rfl
 | cons a r=>simp only [List.tail_cons] at h; subst h; rfl
end
end Go.Den
namespace Go.Proofs.YtandmpcjjaabmaaGreat
section
variable {w:World} {R:Nat->Prop} {b sb mb sc:Nat} {L:List (Int×Value)} {D:St} {K:Value->World->Prop}
theorem mapDisk:mapZ Tryz.prog 149=some (.slice none 0 0):=by kernel_rfl
theorem look_none {w:World} {m:Nat} {L:List (Int×Value)} {k:Int} (h:MapAt w m L) (hl:lookupL L k=none):Ru (Instr.lookup 149 (.map (some m)) (.int .i64 k) false) w (.slice none 0 0) w:=by
 have:=lookup_run (P:=Tryz.prog) mapDisk h (k:=k)
 rwa [hl] at this
theorem look_some {w:World} {m:Nat} {L:List (Int×Value)} {k:Int} {v:Value} (h:MapAt w m L) (hl:lookupL L k=some v):Ru (Instr.lookup 149 (.map (some m)) (.int .i64 k) false) w v w:=by
 have:=lookup_run (P:=Tryz.prog) mapDisk h (k:=k)
 rwa [hl] at this
theorem elemZ_blocks:elemZ Tryz.prog 148 256 (.int .u8 0) 256:=by unfold elemZ; kernel_rfl
theorem alloc_block (w:World):(Instr.alloc 224 true (.tuple #[])).run Tryz.prog w=.ok (.pointer (some ⟨w.heap.size,0,none⟩)) (w.alloc (.cells ⟨u8L (List.replicate 256 0)⟩ 224)):=by kernel_rfl
theorem agg_block:aggN Tryz.prog 224=some 256:=by kernel_rfl
theorem slice_block (q:Addr):Al (Instr.sliceAt 224 (.pointer (some q)) none none none) (.slice (some q) 256 256):=fun _=>by kernel_rfl
theorem _root_.Go.Den.DiskIn.ld (h:DiskIn w R b sb mb sc L D):Ru (Instr.loadAt 3 (.pointer (some (Addr.add ⟨b,0,none⟩ 2)))) w (.int .i64 D.left) w:=by
 rw [add_none]; exact h.cell.at.load (by kernel_rfl) rfl
theorem _root_.Go.Den.DiskIn.lm (h:DiskIn w R b sb mb sc L D):Ru (Instr.loadAt 149 (.pointer (some (Addr.add ⟨b,0,none⟩ 1)))) w (.map (some mb)) w:=by
 rw [add_none]; exact h.cell.at.load (by kernel_rfl) rfl
theorem _root_.Go.Den.DiskIn.ls (h:DiskIn w R b sb mb sc L D):Ru (Instr.loadAt 148 (.pointer (some (Addr.add ⟨b,0,none⟩ 0)))) w (.slice (some ⟨sb,0,none⟩) D.vs.length sc) w:=by
 rw [add_none]; exact h.cell.at.load (by kernel_rfl) rfl
def errOf (D:St) (n:Int):Int:=if n<0\/D.vs.length<=n then 3 else 0
theorem may_c (h:DiskIn w R b sb mb sc L D) {n:Int} (hk:K (.int .i64 (errOf D n)) w):Cal Tryz.prog F_disk_Disk_may #[.pointer (some ⟨b,0,none⟩),.int .i64 n] w K:=by
 apply C_disk_Disk_may
 unfold D_disk_Disk_may
 refine ff rfl (Share.cut (fun x w'=>x=[.bool (decide (n<0\/D.vs.length<=n))]/\w'=w) (cond_of (fun hb=>?_) (fun hb=>?_)) ?_)
 ·have:=of_decide_eq_true hb
  exact ⟨by simp [this],rfl⟩
 ·have:=of_decide_eq_false hb
  exact ⟨_,rfl,_,_,_,h.ls,by simp [this],rfl⟩
 ·rintro x w' ⟨rfl,rfl⟩
  refine ⟨_,rfl,cond_of (fun hb=>?_) (fun hb=>?_)⟩
  ·have:=of_decide_eq_true hb
   rw [errOf,if_pos this] at hk; exact hk
  ·have:=of_decide_eq_false hb
   rw [errOf,if_neg this] at hk; exact hk
theorem goes_c (h : DiskIn w R b sb mb sc L D) (h0 : D.left = 0 → K (.bool false) w)
    (h1 : D.left ≠ 0 → ∀ w', DiskIn w' R b sb mb sc L { D with left := if -1 > D.left - 1 then -1 else D.left - 1 } → Mod (fun x => x = b) w w' → K (.bool true) w') : Cal Tryz.prog F_disk_Disk_goes #[.pointer (some ⟨b, 0, none⟩)] w K := by
  apply C_disk_Disk_goes
  unfold D_disk_Disk_goes
  refine ⟨_, rfl, _, h.ld, cond_of (fun hb => ?_) (fun hb => ?_)⟩
  · exact h0 (by simpa using hb)
  have hne : D.left ≠ 0 := by simpa using hb
  have hl0 := h.wf.l0
  have hl1 := h.wf.l1
  obtain ⟨w', s1, s2, s3, s4⟩ := h.cell.store (P := Tryz.prog) (T := 3) (i := 2) (v := .int .i64 (if -1 > D.left - 1 then -1 else D.left - 1)) (by kernel_rfl) (by simp) rfl
  refine ⟨_, rfl, _, h.ld, _, rfl, w', ?_, ?_⟩
  · rw [wrap64 (x := D.left - 1) (by omega) (by omega), add_none]; exact s1
  refine h1 hne w' ?_ s3
  exact { cell := by simpa using s2, cap := h.cap, safe := h.safe.keep s3 h.ne.symm, map := h.map.keep s3 h.nbm.symm, rb := h.rb, rs := h.rs, rm := h.rm, ne := h.ne,
          opn := fun i v hv => (h.opn i v hv).keep s3 fun x _ e => .inl e, keys := h.keys,
          wf := { ver := h.wf.ver, lo := h.wf.lo, hi := h.wf.hi, l0 := by show -1 ≤ ite _ _ _; split <;> omega, l1 := by show ite _ _ _ ≤ _; split <;> omega },
          lt := fun x hx => Nat.lt_of_lt_of_le (h.lt x hx) s3.size }
theorem idx_block {a:Addr} {n c:Nat} {i:Nat} (hi:i<n) (w:World):(Instr.indexAt 148 (.slice (some a) n c) (.int .i64 i)).run Tryz.prog w=.ok (.pointer (some (a.add (i*256)))) w:=by
 have:=index_slice (P:=Tryz.prog) (T:=148) (k:=256) (a:=a) (n:=n) (c:=c) (kk:=.i64) (i:=i) (by kernel_rfl) (by omega) (by omega) w
 rwa [Int.toNat_natCast] at this
theorem load_block {b:Nat} {xs:List Bk} (h:At w b 0 (u8L xs.flatten)) (hx:∀ x∈xs,x.length=256) {i:Nat} {x:Bk} (hi:xs[i]?=some x):Ru (Instr.loadAt 224 (.pointer (some (Addr.add ⟨b,0,none⟩ (i*256))))) w (.agg ⟨u8L x⟩) w:=by
 have hlt:i<xs.length:=(List.getElem?_eq_some_iff.1 hi).1
 have hl:=flat_len xs hx
 have:=h.loadAgg (P:=Tryz.prog) (i:=i*256) agg_block (by rw [length_u8L,hl]; (have:(i+1)*256<=xs.length*256:=Nat.mul_le_mul_right _ hlt); omega)
 rw [add_none]
 rw [u8L_sub,flat_get xs hx i x hi] at this
 exact this
theorem last_c (h:DiskIn w R b sb mb sc L D) {i:Nat} {v:List Bk} (hv:D.vs[i]?=some v) (hlen:v.length<=1000000) (hk:∀ w',Mod No w w'->K (.agg ⟨u8L (lastV v)⟩) w'):Cal Tryz.prog F_disk_Disk_last #[.pointer (some ⟨b,0,none⟩),.int .i64 i] w K:=by
 apply C_disk_Disk_last
 unfold D_disk_Disk_last
 refine ⟨_,_,alloc_block w,_,rfl,some mb,?_⟩
 have m1:Mod No w (w.alloc (.cells ⟨u8L (List.replicate 256 0)⟩ 224)):=(Mod.refl No w).alloc _
 have h':=h.nos m1
 refine ⟨h'.lm,?_⟩
 have hll:=h.wf.lastLen hv
 have fin:K (.agg ⟨u8L (lastV v)⟩) (w.alloc (.cells ⟨u8L (lastV v)⟩ 224)):=hk _ ((Mod.refl No w).alloc _)
 have st:∃ w2,RuU (Instr.storeAt 224 (.pointer (some ⟨w.heap.size,0,none⟩)) (.agg ⟨u8L (lastV v)⟩)) (w.alloc (.cells ⟨u8L (List.replicate 256 0)⟩ 224)) w2 /\
   ∃ g:Array Value,Ru (Instr.loadAt 224 (.pointer (some ⟨w.heap.size,0,none⟩))) w2 (.agg g) w2/\K (.agg g) w2 :=
  ⟨_,store_new agg_block (by rw [length_u8L,List.length_replicate]) (by simp [hll]) (one_u8L _),_,load_new agg_block (by simp [hll]),fin⟩
 rcases h'.opn i v hv with ⟨ht,hl⟩ | ⟨ht,vb,c,hl,hc,hat,_⟩
 ·refine ⟨_,_,_,look_none h'.map hl,ff (by simp) ⟨_,rfl,_,_,_,h'.ls,_,fun _=>idx_block (List.getElem?_eq_some_iff.1 hv).1 _,⟨u8L (lastV v)⟩,?_,st⟩⟩
  rw [last_one ht]
  exact load_block h'.safe.at h.wf.hd (by rw [List.getElem?_map,hv]; rfl)
 ·refine ⟨_,_,_,look_some h'.map hl,?_⟩
  have hpos:0<v.tail.length:=List.length_pos_iff.2 ht
  have htl:v.tail.length<=v.length:=by simp
  refine tt (decide_eq_true (by omega)) ?_
  rw [wrap64 (x:=(v.tail.length:Int)-1) (by omega) (by omega),show (v.tail.length:Int)-1=((v.tail.length-1:Nat):Int) by omega]
  refine ⟨_,fun _=>idx_block (by omega) _,_,load_block hat (h.wf.tl hv) (last_tail ht),st⟩
end
end Go.Proofs.YtandmpcjjaabmaaGreat
end
section
open Go Go.Den
namespace Go.Den
section
variable {P:Program} {w:World}
theorem next_run {r mb since c0:Nat} {ty:TypeId} {seen:Array Nat} {es:Array MapEntry} {clock:Nat} (hr:w.heap[r]?=some (.mapIter (some mb) since seen c0)) (hb:w.heap[mb]?=some (.map es clock))
  (hold:∀ x∈es.toList,x.born<since) (hsc:since<=c0) :
  ((leftOf es seen).size=0/\(Instr.next (.pointer (some ⟨r,0,none⟩)) false ty).run P w=.ok (.tuple #[.bool false]) w) \/
  ∃ e∈(leftOf es seen).toList,∃ w',(Instr.next (.pointer (some ⟨r,0,none⟩)) false ty).run P w=.ok (.tuple #[.bool true,e.key,e.val]) w'/\w'.heap[r]?=some (.mapIter (some mb) since (seen.push e.born) clock) /\
   Mod (fun x=>x=r) w w'/\w'.heap.size=w.heap.size:=by
 simp only [Instr.next,getObj,Sem.run_bind,Sem.run,hr,hb,Result.andThen,next_test_false seen es since c0 hold hsc,Bool.false_eq_true,if_false]
 unfold leftOf
 have hmem:∀ x∈(Array.filter (fun e=>!seen.contains e.born) es).toList,x.born<since:=fun x hx=>hold x (by simp at hx |-; exact hx.1)
 generalize Array.filter (fun e=>!seen.contains e.born) es=L at hmem |-
 have e1:L.filter (fun x=>decide (x.born<since))=L:=Array.filter_eq_self.2 (fun x hx=>by simpa using hmem x (by simpa using hx))
 have e2:L.filter (fun x=>decide (x.born >= since))=#[]:=by
  rw [Array.filter_eq_empty_iff]
  intro x hx
  have:=hmem x (by simpa using hx)
  simp
  omega
 simp only [e1,e2,Array.append_empty]
 by_cases h0:L.size=0
 ·left
  have:L=#[]:=Array.eq_empty_of_size_eq_zero h0
  subst this
  refine ⟨rfl,?_⟩
  simp [choose,Sem.run,Question.forced]
 ·right
  have hne:L.isEmpty=false:=by simp [Array.isEmpty,h0]
  simp only [hne,Bool.false_eq_true,if_false,Array.empty_append,Array.size_map]
  have hch:∃ (j:Nat) (w1:World),j<L.size/\w1.heap=w.heap/\Mod (fun x=>x=r) w w1/\(choose (Question.mapNext L.size)).run P w=.ok j w1:=by
   by_cases hf:L.size<=1
   ·exact ⟨0,w,by omega,rfl,Mod.refl _ _,by simp [choose,Sem.run,Question.forced,hf]⟩
   ·exact ⟨_,drew w,Nat.mod_lt _ (by omega),rfl,(Mod.refl _ _).drew,by
     simp only [choose,Sem.run,Question.forced,decide_eq_true_eq,hf,if_false,Question.cut]
     rfl⟩
  obtain ⟨j,w1,hj,hh,hm,hrun⟩:=hch
  have hr1:w1.heap[r]?=some (.mapIter (some mb) since seen c0):=by rw [hh]; exact hr
  refine ⟨L[j],by simp,put w1 r (.mapIter (some mb) since (seen.push L[j].born) clock),?_,heap_put_same (lt_of_heap hr1),?_,by simp [hh]⟩
  ·simp only [hrun,Array.getElem?_map,Array.getElem?_eq_getElem hj,Option.map_some,Sem.run_bind,setObj,Sem.run,hr1,Result.andThen]
   rfl
  ·exact hm.trans ((Mod.refl (fun x=>x=r) w1).put (.inr rfl) _) fun _ _ h=>h
theorem entry_run {r mb since:Nat} {seen:Array Nat} {es:Array MapEntry} {clock:Nat} {e:MapEntry} (hr:w.heap[r]?=some (.mapIter (some mb) since (seen.push e.born) clock)) (hb:w.heap[mb]?=some (.map es clock))
  (he:e∈es.toList) (hn:(es.toList.map (·.born)).Nodup):(Instr.entry (.pointer (some ⟨r,0,none⟩))).run P w=.ok (.tuple #[e.key,e.val]) w:=by
 have hf:es.find? (·.born==e.born)=some e:=by rw [<- Array.find?_toList]; exact find_born e es.toList hn he
 simp only [Instr.entry,getObj,Sem.run_bind,Sem.run,hr,hb,Result.andThen,Array.back?_push,bne_self_eq_false,Bool.false_eq_true,if_false,hf]
 rfl
theorem range_run {T k e:TypeId} {mb:Nat} {es:Array MapEntry} {clock:Nat} (ht:P.underlying T=some (.map k e)) (hb:w.heap[mb]?=some (.map es clock)) :
  (Instr.range T (.map (some mb))).run P w=.ok (.pointer (some ⟨w.heap.size,0,none⟩)) (w.alloc (.mapIter (some mb) clock #[] clock)):=run_range_map w T k e mb es clock ht hb
theorem iterSeen_of {r:Nat} {a:Option Nat} {b c:Nat} {s:Array Nat} (h:w.heap[r]?=some (.mapIter a b s c)):w.iterSeen r=s:=by
 unfold World.iterSeen; rw [h]
structure Ranged (w:World) (r mb:Nat) (Es:List Ent) (clock:Nat) (vis:List Ent):Prop where
 map:w.heap[mb]?=some (.map (Es.map toE).toArray clock)
 iter:w.heap[r]?=some (.mapIter (some mb) clock (vis.map (·.2.2)).toArray clock)
 sub:∀ e∈vis,e∈Es
 nodup:(vis.map (·.2.2)).Nodup
 born:∀ e∈Es,e.2.2<clock
 all:(Es.map (·.2.2)).Nodup
def togo (mb r:Nat) (w:World):Nat:=match w.heap[mb]? with | some (.map es _)=>(leftOf es (w.iterSeen r)).size | _=>0
theorem Ranged.keep {S:Nat->Prop} {r mb clock:Nat} {Es vis:List Ent} {w':World} (h:Ranged w r mb Es clock vis) (m:Mod S w w') (h1:¬ S r) (h2:¬ S mb):Ranged w' r mb Es clock vis :=
 ⟨m.keep h.map h2,m.keep h.iter h1,h.sub,h.nodup,h.born,h.all⟩
theorem Ranged.togo {r mb clock:Nat} {Es vis:List Ent} (h:Ranged w r mb Es clock vis):togo mb r w=(leftOf (Es.map toE).toArray (vis.map (·.2.2)).toArray).size:=by
 unfold Go.Den.togo; rw [h.map,iterSeen_of h.iter]
theorem nodup_of_map {α β:Type} {f:α->β}:∀ {l:List α},(l.map f).Nodup->l.Nodup
 | [],_=>List.nodup_nil
 | x::r,h=>by
  rw [List.map_cons,List.nodup_cons] at h
  exact List.nodup_cons.2 ⟨fun hx=>h.1 (List.mem_map.2 ⟨x,hx,rfl⟩),nodup_of_map h.2⟩
theorem born_eq {Es:List Ent} (hn:(Es.map (·.2.2)).Nodup):∀ {x e:Ent},x∈Es->e∈Es->x.2.2=e.2.2->x=e:=by
 induction Es with
 | nil=>intro x e hx; cases hx
 | cons y r ih =>
  rw [List.map_cons,List.nodup_cons] at hn
  intro x e hx he h
  rcases List.mem_cons.1 hx with rfl | hx
  ·rcases List.mem_cons.1 he with rfl | he
   ·rfl
   ·exact absurd (List.mem_map.2 ⟨e,he,h.symm⟩) hn.1
  ·rcases List.mem_cons.1 he with he | he
   ·exact absurd (List.mem_map.2 ⟨x,hx,by rw [h,he]⟩) hn.1
   ·exact ih hn.2 hx he h
theorem Ranged.next {r mb clock:Nat} {ty:TypeId} {Es vis:List Ent} (h:Ranged w r mb Es clock vis) :
  (vis.Perm Es/\(Instr.next (.pointer (some ⟨r,0,none⟩)) false ty).run P w=.ok (.tuple #[.bool false]) w) \/
  ∃ e∈Es,∃ w',(Instr.next (.pointer (some ⟨r,0,none⟩)) false ty).run P w=.ok (.tuple #[.bool true,.int .i64 e.1,e.2.1]) w'/\(Instr.entry (.pointer (some ⟨r,0,none⟩))).run P w'=.ok (.tuple #[.int .i64 e.1,e.2.1]) w' /\
   Ranged w' r mb Es clock (vis++[e])/\e ∉ vis/\Mod (fun x=>x=r) w w'/\Go.Den.togo mb r w'<Go.Den.togo mb r w:=by
 have hborn:∀ x∈((Es.map toE).toArray).toList,x.born<clock:=by
  intro x hx
  simp only [List.mem_map] at hx
  obtain ⟨e,he,rfl⟩:=hx
  exact h.born e he
 have hnd:(((Es.map toE).toArray).toList.map (·.born)).Nodup:=by
  have:=h.all
  rw [List.map_map]; exact this
 rcases next_run (P:=P) (ty:=ty) h.iter h.map hborn (Nat.le_refl _) with ⟨h0,hrun⟩ | ⟨e,he,w',hrun,hit,hm,hsz⟩
 ·refine .inl ⟨?_,hrun⟩
  refine (List.perm_ext_iff_of_nodup (nodup_of_map h.nodup) (nodup_of_map h.all)).2 fun a=>⟨h.sub a,fun ha=>?_⟩
  have:=all_seen _ _ h0 (toE a) (by simp only [List.mem_map]; exact ⟨a,ha,rfl⟩)
  have hb:a.2.2∈vis.map (·.2.2):=by simpa [toE] using this
  obtain ⟨v,hv,hve⟩:=List.mem_map.1 hb
  rw [<- born_eq h.all (h.sub v hv) ha hve]; exact hv
 ·right
  obtain ⟨hin,hns⟩:=mem_left he
  simp only [List.mem_map] at hin
  obtain ⟨x,hx,rfl⟩:=hin
  have hnx:x.2.2 ∉ vis.map (·.2.2):=by
   intro hc
   have:(vis.map (·.2.2)).toArray.contains (toE x).born=true:=by simpa [toE] using hc
   rw [this] at hns; cases hns
  have hne:mb≠r:=by
   rintro rfl
   have h1:=h.map; rw [h.iter] at h1; cases h1
  have hmap':=hm.keep h.map hne
  have hR:Ranged w' r mb Es clock (vis++[x]):=by
   refine ⟨hmap',?_,?_,?_,h.born,h.all⟩
   ·rw [hit]; simp [toE]
   ·intro e he
    rcases List.mem_append.1 he with he | he
    ·exact h.sub e he
    ·simp at he; subst he; exact hx
   ·rw [List.map_append]
    refine List.nodup_append.2 ⟨h.nodup,by simp,?_⟩
    intro a ha b hb
    simp at hb; subst hb
    exact fun e=>hnx (e ▸ ha)
  refine ⟨x,hx,w',hrun,?_,hR,fun hc=>hnx (List.mem_map.2 ⟨x,hc,rfl⟩),hm,?_⟩
  ·exact entry_run (e:=toE x) hit hmap' (by simp only [List.mem_map]; exact ⟨x,hx,rfl⟩) hnd
  ·rw [hR.togo,h.togo]
   have:=left_shrinks _ _ _ he
   simpa [toE] using this
end
end Go.Den
end
section
open Go Go.Den Go.Proofs
namespace Go.Den
theorem look_mem:∀ {L:List (Int×Value)} {k:Int} {v:Value},lookupL L k=some v->(k,v)∈L
 | p::r,k,v,h=>by
  simp only [lookupL] at h
  by_cases hp:p.1=k
  ·rw [if_pos hp] at h
   have:=Option.some.inj h
   subst hp; subst this; simp
  ·rw [if_neg hp] at h
   exact List.mem_cons_of_mem _ (look_mem h)
theorem look_notin:∀ {L:List (Int×Value)} {k:Int},lookupL L k=none->∀ p∈L,p.1≠k
 | p::r,k,h,q,hq=>by
  simp only [lookupL] at h
  by_cases hp:p.1=k
  ·rw [if_pos hp] at h; cases h
  ·rw [if_neg hp] at h
   rcases List.mem_cons.1 hq with rfl | hq
   ·exact hp
   ·exact look_notin h q hq
def isOpen (D:St) (i:Nat):Bool:=!((D.vs[i]?.getD []).tail.isEmpty)
def openN (D:St):List Nat:=(List.range D.vs.length).filter (isOpen D)
def openS (D:St):List Int:=(openN D).map fun i:Nat=>(i:Int)
theorem openS_sorted (D:St):List.Pairwise (fun a b:Int=>a<=b) (openS D):=by
 unfold openS
 rw [List.pairwise_map]
 refine List.Pairwise.imp ?_ ((List.pairwise_lt_range (n:=D.vs.length)).filter (isOpen D))
 intro a b h; omega
theorem openS_nodup (D:St):(openS D).Nodup:=by
 unfold openS
 rw [List.Nodup,List.pairwise_map]
 refine List.Pairwise.imp ?_ ((List.pairwise_lt_range (n:=D.vs.length)).filter (isOpen D))
 intro a b h; omega
theorem keys_open {w:World} {R:Nat->Prop} {b sb mb sc:Nat} {L:List (Int×Value)} {D:St} (h:DiskIn w R b sb mb sc L D) (k:Int):k∈L.map (·.1)↔k∈openS D:=by
 constructor
 ·intro hk
  obtain ⟨p,hp,rfl⟩:=List.mem_map.1 hk
  obtain ⟨i,hi,hlt⟩:=h.keys p hp
  have hv:D.vs[i]?=some (D.vs[i]):=by simp [hlt]
  rcases h.opn i _ hv with ⟨_,hl⟩ | ⟨ht,_⟩
  ·exact absurd hi (look_notin hl p hp)
  ·unfold openS openN
   refine List.mem_map.2 ⟨i,List.mem_filter.2 ⟨List.mem_range.2 hlt,?_⟩,hi.symm⟩
   unfold isOpen; rw [hv]
   simpa [List.isEmpty_iff] using ht
 ·intro hk
  unfold openS openN at hk
  obtain ⟨i,hi,rfl⟩:=List.mem_map.1 hk
  obtain ⟨hr,ho⟩:=List.mem_filter.1 hi
  have hlt:=List.mem_range.1 hr
  have hv:D.vs[i]?=some (D.vs[i]):=by simp [hlt]
  unfold isOpen at ho; rw [hv] at ho
  rcases h.opn i _ hv with ⟨ht,_⟩ | ⟨_,vb,c,hl,_⟩
  ·simp [ht] at ho
  ·exact List.mem_map.2 ⟨_,look_mem hl,rfl⟩
end Go.Den
namespace Go.Proofs.YtandmpcjjaabmaaGreat
section
variable {w:World} {R:Nat->Prop} {b sb mb sc:Nat} {L:List (Int×Value)} {D:St} {K:Value->World->Prop}
theorem sorted_open {zs:List Int} (hn:zs.Nodup) (hm:∀ k,k∈zs↔k∈openS D):sorted zs=openS D:=by
 have hp:zs.Perm (openS D):=(List.perm_ext_iff_of_nodup hn (openS_nodup D)).2 hm
 refine List.Perm.eq_of_pairwise (le:=fun a b:Int=>a<=b) (fun a b _ _ h1 h2=>by omega) ?_ (openS_sorted D) ((List.mergeSort_perm _ _).trans hp)
 have:=List.pairwise_mergeSort (le:=fun x y:Int=>decide (x<=y)) (fun a b c h1 h2=>by simp only [decide_eq_true_eq] at *; omega) (fun a b=>by simp only [Bool.or_eq_true,decide_eq_true_eq]; omega) zs
 refine List.Pairwise.imp ?_ this
 intro a b h; exact of_decide_eq_true h
theorem Open_c (h:DiskIn w R b sb mb sc L D) (hk:∀ w' a l c,Mod No w w'->Ow Tryz.prog w' w.heap.size 64 1 a l c (iL (openS D))->K (.slice a l c) w'):Cal Tryz.prog F_disk_Disk_Open #[.pointer (some ⟨b,0,none⟩)] w K:=by
 apply C_disk_Disk_Open
 unfold D_disk_Disk_Open
 obtain ⟨Es,clock,g1,g2,g3,g4,g5⟩:=h.map
 have hu:Tryz.prog.underlying 149=some (.map 3 148):=by kernel_rfl
 refine ff rfl ⟨_,rfl,some mb,h.lm,_,_,range_run hu g1,?_⟩
 have m1:Mod No w (w.alloc (.mapIter (some mb) clock #[] clock)):=(Mod.refl No w).alloc _
 have hmb:=lt_of_heap g1
 have hlenE:Es.length<=4096:=by
  have hsub:(L.map (·.1)).length<=(openS D).length:=List.Nodup.length_le_of_subset h.map.nodup fun k hk=>(keys_open h k).1 hk
  have h1:(openS D).length<=D.vs.length:=by
   unfold openS openN; rw [List.length_map]
   exact Nat.le_trans (List.length_filter_le _ _) (by simp)
  have:=h.wf.hi
  rw [<- g2] at hsub; simp at hsub; omega
 refine ⟨fun x w2=>∃ vis a l c,x=[.slice a l c]/\Ow Tryz.prog w2 (w.heap.size+1) 64 1 a l c (iL (vis.map (·.1)))/\Ranged w2 w.heap.size mb Es clock vis/\Mod No w w2/\w.heap.size+1<=w2.heap.size,
  fun _ w2=>togo mb w.heap.size w2,⟨[],none,0,0,rfl,Ow.nil elemZ_ints,⟨m1.keep g1 id,heap_new w _,by simp,by simp,g4,g5⟩,m1,by simp⟩,?_⟩
 rintro x w2 ⟨vis,a,l,c,rfl,how,hR,hm,hsz⟩
 have hvl:vis.length<=Es.length:=by
  have:=List.Nodup.length_le_of_subset (nodup_of_map hR.nodup) (fun e he=>hR.sub e he); exact this
 have hl:l=vis.length:=by have:=how.len; simpa using this.symm
 rcases hR.next (P:=Tryz.prog) (ty:=0) with ⟨hp,hrun⟩ | ⟨e,he,w3,hrun,hent,hR3,hnin,hm3,hlt⟩
 ·refine ⟨_,_,hrun,false,fun _=>rfl,ff rfl ⟨_,_,_,rfl,Sort_c how (fun w4 o4 m4=>⟨rfl,?_⟩) (by rw [List.length_map]; omega)⟩⟩
  have hs:sorted (vis.map (·.1))=openS D:=by
   refine sorted_open ?_ fun k=>?_
   ·exact (hp.map (·.1)).nodup_iff.2 g3
   ·rw [(hp.map (·.1)).mem_iff,<- keys_open h k,<- g2,List.map_map]; rfl
  rw [hs] at o4
  exact hk w4 a l c (hm.up m4 (by omega)) (o4.mono (by omega))
 ·refine ⟨_,w3,hrun,true,fun _=>rfl,tt rfl ⟨_,hent,_,fun _=>rfl,_,_,_,rfl,_,_,_,_,builtI _ _,?_⟩⟩
  have how3:=how.keep hm3 (fun q hq e=>by have:=(how.base hq).1; omega)
  obtain ⟨a4,c4,w4,h4,o4,m4⟩:=how3.snoc (ty:=64) (t:=3) (ys:=[.int .i64 e.1]) elemZ_ints (by omega) rfl (by simp; rfl) (by omega) (by omega) (by have:=hm3.size; omega)
  have hmb':mb<w.heap.size+1:=by omega
  have hR4:=hR3.keep m4 (by omega) (by omega)
  refine ⟨_,_,_,w4,h4,⟨vis++[e],a4,_,c4,rfl,?_,hR4,(hm.trans hm3 fun x hx e=>by omega).trans m4 fun x hx e=>by omega,by have:=hm3.size; have:=m4.size; omega⟩,?_⟩
  ·rw [List.map_append]; simpa [iL,I] using o4
  ·have e1:togo mb w.heap.size w4=togo mb w.heap.size w3:=by rw [hR4.togo,hR3.togo]
   show togo mb w.heap.size w4<togo mb w.heap.size w2
   rw [e1]; exact hlt
def verOf (D:St) (n:Int):List Bk:=if n<0 then [] else D.vs[n.toNat]?.getD []
def Fresh (w0 w:World) (a:Option Addr) (xs:List UInt8):Prop:=(a=none/\xs=[])\/∃ q,a=some ⟨q,0,none⟩/\w0.heap.size<=q/\AtU w q 0 (u8L xs)
theorem Fresh.row {w0 w:World} {a:Option Addr} {xs:List UInt8} (h:Fresh w0 w a xs):Row w a (u8L xs):=by
 rcases h with ⟨_,rfl⟩ | ⟨q,rfl,_,h⟩
 ·exact .inl rfl
 ·exact .inr ⟨q,0,rfl,h.at⟩
theorem Fresh.nos {w0 w w':World} {a:Option Addr} {xs:List UInt8} (h:Fresh w0 w a xs) (m:Mod No w w'):Fresh w0 w' a xs:=by
 rcases h with h | ⟨q,rfl,hq,h⟩
 ·exact .inl h
 ·exact .inr ⟨q,rfl,hq,h.keep m id⟩
theorem err_cases (n:Int):(errOf D n=3/\(n<0\/D.vs.length<=n))\/(errOf D n=0/\∃ i v,n=(i:Nat)/\D.vs[i]?=some v/\verOf D n=v):=by
 unfold errOf verOf
 by_cases h:n<0\/D.vs.length<=n
 ·rw [if_pos h]; exact .inl ⟨rfl,h⟩
 ·rw [if_neg h,if_neg (by omega)]
  refine .inr ⟨rfl,n.toNat,D.vs[n.toNat]'(by omega),by omega,by simp,?_⟩
  have:n.toNat<D.vs.length:=by omega
  simp [this]
def rdB (D:St) (n:Int):List UInt8:=if errOf D n=0 then lastV (verOf D n) else []
def Small (D:St):Prop:=∀ v∈D.vs,v.length<=1000000
theorem Read_c (h:DiskIn w R b sb mb sc L D) (hs:Small D) {n:Int} (hk:∀ w' a c,Mod No w w'->Fresh w w' a (rdB D n)->K (.tuple #[.slice a (rdB D n).length c,.int .i64 (errOf D n)]) w'):Cal Tryz.prog F_disk_Disk_Read #[.pointer (some ⟨b,0,none⟩),.int .i64 n] w K:=by
 apply C_disk_Disk_Read
 unfold D_disk_Disk_Read
 refine may_c h ⟨_,rfl,?_⟩
 rcases err_cases (D:=D) n with ⟨he,_⟩ | ⟨he,i,v,rfl,hv,hver⟩
 ·have hb:rdB D n=[]:=by unfold rdB; rw [if_neg (by omega)]
  refine tt (by rw [he]; rfl) ?_
  have:=hk w none 0 (Mod.refl _ _) (.inl ⟨rfl,hb⟩)
  rw [hb] at this; exact this
 ·have hb:rdB D i=lastV v:=by unfold rdB; rw [if_pos he,hver]
  have hll:=h.wf.lastLen hv
  refine ff (by rw [he]; rfl) (last_c h hv (hs v (List.mem_of_getElem? hv)) fun w2 m2=>⟨_,rfl,_,_,alloc_block w2,_,store_new agg_block (by rw [length_u8L,List.length_replicate]) (by simp [hll]) (one_u8L _),_,_,_,slice_block _,?_⟩)
  have:=hk (w2.alloc (.cells ⟨u8L (lastV v)⟩ 224)) (some ⟨w2.heap.size,0,none⟩) 256 (m2.alloc _) (.inr ⟨w2.heap.size,rfl,m2.size,by rw [hb]; exact AtU.new⟩)
  rw [hb,hll,he] at this; exact this
theorem Len_c (h:DiskIn w R b sb mb sc L D) (hk:K (.int .i64 D.vs.length) w):Cal Tryz.prog F_disk_Disk_Len #[.pointer (some ⟨b,0,none⟩)] w K:=by
 apply C_disk_Disk_Len
 unfold D_disk_Disk_Len
 exact ff rfl ⟨_,rfl,_,_,_,h.ls,hk⟩
theorem verOf_none {n:Int} (h:n<0\/D.vs.length<=n):verOf D n=[]:=by
 unfold verOf
 split
 ·rfl
 ·rw [List.getElem?_eq_none (by omega)]; rfl
end
end Go.Proofs.YtandmpcjjaabmaaGreat
end
section
open Go Go.Den Go.Proofs
namespace Go.Den
section
variable {P:Program} {w:World}
theorem slice_3 {T:TypeId} {k n c:Nat} {a:Option Addr} (hT:elemN P T=some k) (h2:n<=c) (w:World) :
  (Instr.sliceAt T (.slice a n c) none (some (.int .i64 n)) (some (.int .i64 n))).run P w=.ok (.slice (cutA a n 0 k) n n) w:=by
 obtain ⟨e,inf,he,hi,hk⟩:=elem_is hT
 have hb1:=fun code=>bound_ok (P:=P) (kk:=.i64) (i:=n) (y:=c) (code:=code) (by omega) (by omega) w
 have hb2:=fun code=>bound_ok (P:=P) (kk:=.i64) (i:=n) (y:=n) (code:=code) (by omega) (by omega) w
 simp only [Instr.sliceAt,Sem.run_bind,run_und he,Result.andThen_ok,Instr.slice,Instr.sliceBounds,Sem.run_pure,if_true,hb1,hb2,Int.toNat_natCast,run_sizeOf hi,hk]
 unfold cutA
 split <;> rfl
theorem look_put:∀ (L:List (Int×Value)) (k:Int) (v:Value) (k':Int),lookupL (putL k v L) k'=if k=k' then some v else lookupL L k'
 | [],k,v,k'=>by simp [putL,lookupL]
 | p::r,k,v,k'=>by
  simp only [putL]
  by_cases hp:p.1=k
  ·rw [if_pos hp]
   simp only [lookupL]
   by_cases hk:k=k'
   ·rw [if_pos hk,if_pos hk]
   ·rw [if_neg hk,if_neg hk,if_neg (by omega)]
  ·rw [if_neg hp]
   simp only [lookupL]
   by_cases hp':p.1=k'
   ·rw [if_pos hp',if_neg (by omega),if_pos hp']
   ·rw [if_neg hp',if_neg hp',look_put r k v k']
theorem put_keys {L:List (Int×Value)} {k:Int} {v:Value}:∀ p∈putL k v L,p.1=k\/p∈L:=by
 induction L with
 | nil=>intro p hp; simp [putL] at hp; exact .inl (by rw [hp])
 | cons q r ih =>
  intro p hp
  simp only [putL] at hp
  by_cases hq:q.1=k
  ·rw [if_pos hq] at hp
   rcases List.mem_cons.1 hp with rfl | hp
   ·exact .inl rfl
   ·exact .inr (List.mem_cons_of_mem _ hp)
  ·rw [if_neg hq] at hp
   rcases List.mem_cons.1 hp with rfl | hp
   ·exact .inr (by simp)
   ·rcases ih p hp with h | h
    ·exact .inl h
    ·exact .inr (List.mem_cons_of_mem _ h)
end
def zeroB:Bk:=List.replicate 256 0
def newSt (n:Nat):St:=⟨List.replicate n [zeroB],-1⟩
theorem WF.new {n:Nat} (h0:1<=n) (h1:n<=4096):WF (newSt n) where
 ver:=by
  intro v hv
  have:=List.eq_of_mem_replicate hv
  subst this
  exact ⟨by simp,by intro x hx; simp at hx; subst hx; exact List.length_replicate⟩
 lo:=by simp [newSt]; exact h0
 hi:=by simp [newSt]; exact h1
 l0:=by simp [newSt]
 l1:=by simp [newSt]
theorem flat_rep:∀ n:Nat,(List.replicate n zeroB).flatten=List.replicate (n*256) 0
 | 0=>by simp
 | n+1=>by
  rw [List.replicate_succ,List.flatten_cons,flat_rep n,zeroB,List.replicate_append_replicate]
  congr 1; omega
def Gro (R:Nat->Prop) (w w':World):Nat->Prop:=fun x=>R x\/(w.heap.size<=x/\x<w'.heap.size)
def dec (l:Int):Int:=if -1 > l-1 then -1 else l-1
end Go.Den
namespace Go.Proofs.YtandmpcjjaabmaaGreat
section
variable {w:World} {R:Nat->Prop} {b sb mb sc:Nat} {L:List (Int×Value)} {D:St} {K:Value->World->Prop}
theorem build_disk (w:World) (a:Option Addr) (l c:Nat) (m:Option Nat):(Instr.build 151 #[(0,.slice a l c),(1,.map m),(2,.int .i64 (-1))]).run Tryz.prog w=.ok (.agg ⟨[.slice a l c,.map m,.int .i64 (-1)]⟩) w:=by kernel_rfl
theorem New_c {n : Int} (h0 : -9223372036854775808 ≤ n) (h1 : n ≤ 9223372036854775807) (hbad : n < 1 ∨ 4096 < n → K (.tuple #[.pointer none, .int .i64 1]) w)
    (hok : ∀ k : Nat, n = k → 1 ≤ k → k ≤ 4096 → ∀ w' b sb mb, Mod No w w' → DiskIn w' (fun x => w.heap.size ≤ x ∧ x < w'.heap.size) b sb mb k [] (newSt k) → K (.tuple #[.pointer (some ⟨b, 0, none⟩), .int .i64 0]) w') :
    Cal Tryz.prog F_disk_New #[.int .i64 n] w K := by
  apply C_disk_New
  unfold D_disk_New
  refine Share.or ⟨_, rfl, cond_of (fun hb => ?_) (fun hb => ?_)⟩
  · exact hbad (by simpa using hb)
  have hn : ¬ (n < 1 ∨ 4096 < n) := by simpa using hb
  obtain ⟨k, rfl⟩ := Int.eq_ofNat_of_zero_le (show 0 ≤ n by omega)
  obtain ⟨w1, hm1, hat1, hmod1, hsz1⟩ := makeSlice_run (P := Tryz.prog) (w := w) (n := k) elemZ_blocks (by omega) (by omega) (by omega)
  refine ⟨_, _, _, w1, hm1, _, _, makeMap_run, _, fun w => build_disk w _ _ _ _, _, _, box_run, ?_⟩
  have m2 : Mod No w1 (w1.alloc (.map #[] 0)) := (Mod.refl No w1).alloc _
  have m3 : Mod No (w1.alloc (.map #[] 0)) ((w1.alloc (.map #[] 0)).alloc (.cells ⟨[.slice (some ⟨w.heap.size, 0, none⟩) k k, .map (some w1.heap.size), .int .i64 (-1)]⟩ 151)) := (Mod.refl No _).alloc _
  have hz : List.replicate (k * 256) (Value.int .u8 0) = u8L ((newSt k).vs.map hd).flatten := by
    have : (newSt k).vs.map hd = List.replicate k zeroB := by simp [newSt, hd]
    rw [this, flat_rep]; simp [u8L, u8]
  rw [hz] at hat1
  refine hok k rfl (by omega) (by omega) _ _ w.heap.size w1.heap.size ((hmod1.no m2).no m3) ?_
  have hs2 : (w1.alloc (.map #[] 0)).heap.size = w.heap.size + 2 := by simp [hsz1]
  have hs3 : ((w1.alloc (.map #[] 0)).alloc (.cells (Value.agg ⟨[.slice (some ⟨w.heap.size, 0, none⟩) k k, .map (some w1.heap.size), .int .i64 (-1)]⟩).cells 151)).heap.size = w.heap.size + 3 := by simp [hsz1]
  exact { cell := by
            have : (newSt k).vs.length = k := by simp [newSt]
            rw [this]; exact AtU.new
          cap := by simp [newSt]
          safe := (hat1.keep m2 id).keep m3 id
          map := MapAt.new.keep m3 id
          rb := by rw [hs3]; omega
          rs := by rw [hs3]; omega
          rm := by rw [hs3]; omega
          ne := by omega
          opn := fun i v hv => .inl ⟨by
            have := List.eq_of_mem_replicate (List.mem_of_getElem? hv)
            subst this; rfl, rfl⟩
          keys := by simp
          wf := WF.new (by omega) (by omega)
          lt := fun x hx => hx.2 }
def fillB (xs:List UInt8):Bk:=(List.range 256).map fun i=>xs.getD (i % xs.length) 0
@[simp] theorem length_fillB (xs:List UInt8):(fillB xs).length=256:=by simp [fillB]
end
end Go.Proofs.YtandmpcjjaabmaaGreat
end
section
open Go Go.Den Go.Proofs
namespace Go.Den
section
variable {P:Program} {w:World}
theorem At.pre {g:Nat} {e:TypeId} {fz:Nat×Nat} {arr:Array Value} {cs rest:List Value} (h:w.heap[g]?=some (.cells arr e fz)) (ha:arr.toList=cs++rest):At w g 0 cs :=
 ⟨arr.toList,e,fz,h,by rw [ha]; simp,by rw [ha]; simp⟩
theorem size_drew_alloc (o:Obj):w.heap.size<(w.drew.alloc o).heap.size:=by
 show w.heap.size<(w.heap.push o).size
 simp
theorem append_full {T ty:TypeId} {k bytes l q:Nat} {z:Value} {a:Option Addr} {xs ys:List Value} (hT:elemZ P T k z bytes) (hk:0<k) (hx:xs.length=l*k)
  (hr:(l=0/\a=none)\/(0<l/\∃ b,a=some ⟨b,0,none⟩/\At w b 0 xs)) (hy:ys.length=k) (hyr:At w q 0 ys) (h63:(l+1)*bytes<=140737488355328) (hb:0<bytes) :
  ∃ c' w',(Builtin.append_ #[T,T] ty #[.slice a l l,.slice (some ⟨q,0,none⟩) 1 1]).run P w=.ok (.slice (some ⟨w.heap.size,0,none⟩) (l+1) c') w'/\l+1<=c'/\At w' w.heap.size 0 (xs++ys)/\Mod No w w'/\w.heap.size<w'.heap.size:=by
 obtain ⟨e,i,zv,he,hi,hsz,hz,hzc,hby⟩:=hT.is
 have hnews:∀ j v,ys[j]?=some v->w.cell? (Addr.add ⟨q,0,none⟩ j)=some v:=fun j v hj=>hyr.cell hj
 have hle:l+1<=(l+1)*bytes:=Nat.le_mul_of_pos_right _ hb
 have hm:∀ o:Obj,Mod No w (w.drew.alloc o):=fun o=>((Mod.refl No w).drew (b:=w)).alloc o
 rcases hr with ⟨rfl,rfl⟩ | ⟨hl,b,rfl,hat⟩
 ·have hx0:xs=[]:=List.eq_nil_of_length_eq_zero (by omega)
  subst hx0
  refine ⟨_,_,run_append_nil w T ty e i zv he hi hz ⟨q,0,none⟩ 1 1 ys (by rw [hsz]; omega) hnews (by omega) (by omega) (by rw [hby]; omega),?_,?_,hm _,size_drew_alloc _⟩
  ·exact grownCap_ge w 1 0 e
  ·exact At.pre (heap_new w.drew _) (by rw [Array.toList_append]; rfl)
 ·have holds:∀ j v,xs[j]?=some v->w.cell? (Addr.add ⟨b,0,none⟩ j)=some v:=fun j v hj=>hat.cell hj
  refine ⟨_,_,run_append_grow w T ty e i zv he hi hz ⟨b,0,none⟩ l l xs (by rw [hsz]; exact hx) holds ⟨q,0,none⟩ 1 1 ys (by rw [hsz]; omega) hnews (by omega) (by omega) (growslice_fits (by omega) (by rw [hby]; exact h63)),?_,?_,hm _,size_drew_alloc _⟩
  ·exact grownCap_ge w (l+1) l e
  ·exact At.pre (heap_new w.drew _) (by rw [Array.toList_append,Array.toList_append])
end
def Wr (b sb mb:Nat):Nat->Prop:=fun x=>x=b\/x=sb\/x=mb
theorem DiskIn.wr {w:World} {R:Nat->Prop} {b sb mb sc:Nat} {L:List (Int×Value)} {D:St} (h:DiskIn w R b sb mb sc L D) {x:Nat} (hx:Wr b sb mb x):R x:=by
 rcases hx with rfl | rfl | rfl
 ·exact h.rb
 ·exact h.rs
 ·exact h.rm
theorem DiskIn.gro {w':World} {R:Nat->Prop} {b sb mb sc:Nat} {L:List (Int×Value)} {D:St} (w0:World) (h:DiskIn w' R b sb mb sc L D):DiskIn w' (Gro R w0 w') b sb mb sc L D where
 cell:=h.cell
 cap:=h.cap
 safe:=h.safe
 map:=h.map
 rb:=.inl h.rb
 rs:=.inl h.rs
 rm:=.inl h.rm
 ne:=h.ne
 opn:=fun i v hv=>by
  rcases h.opn i v hv with h | ⟨h1,vb,c,h2,h3,h4,h5,h6⟩
  ·exact .inl h
  ·exact .inr ⟨h1,vb,c,h2,h3,h4,.inl h5,h6⟩
 keys:=h.keys
 wf:=h.wf
 lt:=fun x hx=>by
  rcases hx with hx | hx
  ·exact h.lt x hx
  ·exact hx.2
end Go.Den
namespace Go.Proofs.YtandmpcjjaabmaaGreat
section
variable {w:World} {R:Nat->Prop} {b sb mb sc:Nat} {L:List (Int×Value)} {D:St} {K:Value->World->Prop}
def wrE (D:St) (n:Int) (ys:List UInt8):Int:=if errOf D n≠0 then errOf D n else if ys.length≠256 then 4 else 0
def wrSt (D:St) (n:Int) (ys:List UInt8):St:=if wrE D n ys≠0\/D.left=0 then D else ⟨D.vs.set n.toNat (verOf D n++[ys]),dec D.left⟩
theorem arrayAt_block (a:Option Addr) (c:Nat):Al (Instr.arrayAt 224 (.slice a 256 c)) (.pointer a):=fun _=>by kernel_rfl
theorem built_block {ys:List UInt8} (hy:ys.length=256) (w:World):(Instr.buildSlice 148 1 #[(0,.agg ⟨u8L ys⟩)]).run Tryz.prog w=.ok (.slice (some ⟨w.heap.size,0,none⟩) 1 1) (w.alloc (.cells ⟨u8L ys⟩ 224)):=by
 obtain ⟨e,i,zv,he,hi,hsz,hz,hzc,hby⟩:=elemZ_blocks.is
 have hee:e=224:=by
  have:Tryz.prog.underlying 148=some (.slice 224):=by kernel_rfl
  rw [this] at he; simpa using he.symm
 subst hee
 have hf:=Go.Great.fill_whole (s:=256) (by omega) [Value.agg ⟨u8L ys⟩] ((Array.range (1*i.size)).map (zv.cells[· % zv.cells.size]!)) (by simp [Value.cells,hy]) (by simp [hsz])
 have:=run_buildSlice w 148 224 1 #[(0,.agg ⟨u8L ys⟩)] ⟨u8L ys⟩ i zv he hi hz (by rw [hsz]; decide) (by rw [hsz]; decide) (by rw [hsz] at hf |-; simpa [Value.cells] using hf)
 exact this
theorem tail_set {v:List Bk} (hv:v≠[]) (y:Bk):(v++[y]).tail=v.tail++[y]/\hd (v++[y])=hd v:=by
 cases v with
 | nil=>exact absurd rfl hv
 | cons a r=>exact ⟨rfl,rfl⟩
set_option maxRecDepth 100000 in
theorem Write_p (h : DiskIn w R b sb mb sc L D) (hs : ∀ v ∈ D.vs, v.length ≤ 999999) {n : Int} {a : Option Addr} {l c : Nat} {ys : List UInt8} (hl : ys.length = l) (hr : Row w a (u8L ys)) (hdis : ∀ q, a = some q → ¬ R q.block)
    (hk : ∀ w' L', Mod (Wr b sb mb) w w' → DiskIn w' (Gro R w w') b sb mb sc L' (wrSt D n ys) → K (.int .i64 (wrE D n ys)) w') : Cal Tryz.prog F_disk_Disk_Write #[.pointer (some ⟨b, 0, none⟩), .int .i64 n, .slice a l c] w K := by
  apply C_disk_Disk_Write
  unfold D_disk_Disk_Write
  refine may_c h ⟨_, rfl, ?_⟩
  rcases err_cases (D := D) n with ⟨he, ho⟩ | ⟨he, i, v, rfl, hv, hver⟩
  · have hw : wrE D n ys = 3 := by unfold wrE; rw [he, if_pos (by omega)]
    have hS : wrSt D n ys = D := by unfold wrSt; rw [if_pos (.inl (by omega))]
    refine tt (by rw [he]; rfl) ?_
    have := hk w L (Mod.refl _ _) (by rw [hS]; exact h.gro w)
    rw [hw] at this; rw [he]; exact this
  refine ff (by rw [he]; rfl) (cond_of (fun hb => ?_) (fun hb => ?_))
  · have hne : ys.length ≠ 256 := by simp at hb; omega
    have hw : wrE D i ys = 4 := by unfold wrE; rw [he, if_neg (by omega), if_pos hne]
    have hS : wrSt D i ys = D := by unfold wrSt; rw [if_pos (.inl (by omega))]
    have := hk w L (Mod.refl _ _) (by rw [hS]; exact h.gro w)
    rw [hw] at this; exact this
  have hl2 : l = 256 := by simp at hb; omega
  subst hl2
  have hw : wrE D i ys = 0 := by unfold wrE; rw [he, if_neg (by omega), if_neg (by omega)]
  rw [hw] at hk
  have hvlen := hs v (List.mem_of_getElem? hv)
  have hvne := (h.wf.ver v (List.mem_of_getElem? hv)).1
  have hilt : i < D.vs.length := (List.getElem?_eq_some_iff.1 hv).1
  have htl : v.tail.length ≤ v.length := by simp
  -- what stands in the map
  have hopen : ∃ a0 l0 c0, Ru (Instr.lookup 149 (.map (some mb)) (.int .i64 i) false) w (.slice a0 l0 c0) w ∧ l0 = v.tail.length ∧ l0 ≤ c0 ∧ ((l0 = 0 ∧ a0 = none) ∨ (0 < l0 ∧ ∃ vb, a0 = some ⟨vb, 0, none⟩ ∧ At w vb 0 (u8L v.tail.flatten) ∧ vb ≠ b)) := by
    rcases h.opn i v hv with ⟨ht, hl⟩ | ⟨ht, vb, c, hl, hc, hat, _, hvb, _⟩
    · exact ⟨none, 0, 0, look_none h.map hl, by rw [ht]; rfl, Nat.le_refl _, .inl ⟨rfl, rfl⟩⟩
    · exact ⟨_, _, c, look_some h.map hl, rfl, hc, .inr ⟨List.length_pos_iff.2 ht, vb, rfl, hat, hvb⟩⟩
  obtain ⟨a0, l0, c0, hlook, hl0, hc0, hrow0⟩ := hopen
  refine ⟨_, rfl, some mb, h.lm, a0, l0, c0, hlook, ?_⟩
  refine goes_c h (fun hz => ⟨_, rfl, Share.dup (ff rfl ?_)⟩) fun hnz w2 h2 m2 => ⟨_, rfl, Share.dup (tt rfl ?_)⟩
  · have hS : wrSt D i ys = D := by unfold wrSt; rw [if_pos (.inr hz)]
    exact hk w L (Mod.refl _ _) (by rw [hS]; exact h.gro w)
  have hS : wrSt D i ys = ⟨D.vs.set i (v ++ [ys]), dec D.left⟩ := by unfold wrSt; rw [if_neg (by omega), hver]; rfl
  rw [hS] at hk
  have h2d := h2.drew
  have hrne : ¬ u8L ys = [] := fun e => by have := congrArg List.length e; simp [hl] at this
  obtain ⟨b2, o2, rfl, hat2⟩ := hr.resolve_left hrne
  have hb2 : b2 ≠ b := fun e => hdis _ rfl (by rw [e]; exact h.rb)
  have hat2' : At (Go.Den.drew w2) b2 o2 (u8L ys) := (hat2.keep m2 hb2).drew
  have hload : Ru (Instr.loadAt 224 (.pointer (some ⟨b2, o2, none⟩))) (Go.Den.drew w2) (.agg ⟨u8L ys⟩) (Go.Den.drew w2) := by
    have := hat2'.loadAgg (P := Tryz.prog) (i := 0) agg_block (by simp; omega)
    have e : (u8L ys).take 256 = u8L ys := List.take_of_length_le (by simp; omega)
    simpa [e] using this
  have m3 : Mod No (Go.Den.drew w2) ((Go.Den.drew w2).alloc (.cells ⟨u8L ys⟩ 224)) := (Mod.refl No _).alloc _
  refine ⟨_, rfl, some mb, h2d.lm, _, _, _, slice_3 (k := 256) (by kernel_rfl) hc0, ⟨b2, o2, none⟩, arrayAt_block _ _, ⟨u8L ys⟩, hload, _, _, _, _, built_block hl _, (h2d.nos m3).lm, ?_⟩
  have hq : AtU ((Go.Den.drew w2).alloc (.cells ⟨u8L ys⟩ 224)) (Go.Den.drew w2).heap.size 0 (u8L ys) := AtU.new
  have hsz3 : w2.heap.size < ((Go.Den.drew w2).alloc (.cells ⟨u8L ys⟩ 224)).heap.size := by simp
  have h3 := h2d.nos m3
  have hqs : (Go.Den.drew w2).heap.size = w2.heap.size := rfl
  generalize (Go.Den.drew w2).alloc (.cells ⟨u8L ys⟩ 224) = w3 at *
  have htfl := flat_len v.tail (h.wf.tl hv)
  obtain ⟨c4, w4, happ, hc4, hat4, m4, hsz4⟩ := append_full (P := Tryz.prog) (w := w3) (T := 148) (ty := 148) (l := l0) (a := cutA a0 l0 0 256) (xs := u8L v.tail.flatten) (ys := u8L ys) (q := (Go.Den.drew w2).heap.size) elemZ_blocks (by omega) (by simp [htfl, hl0])
    (by
      rcases hrow0 with ⟨h1, h2⟩ | ⟨h1, vb, h2, h3, h4⟩
      · refine .inl ⟨h1, ?_⟩
        rw [h2]; unfold cutA; split <;> rfl
      · refine .inr ⟨h1, vb, ?_, ((h3.keep m2 h4).drew).keep m3 id⟩
        rw [h2]; unfold cutA; split
        · rfl
        · simp [add_none]) (by simp [hl]) hq.at (by omega) (by omega)
  refine ⟨_, _, _, w4, happ, (h3.nos m4).lm, ?_⟩
  have h4 := h3.nos m4
  obtain ⟨w5, hupd, hmap5, m5, hsz5⟩ := update_run (P := Tryz.prog) (k := (i : Int)) (v := .slice (some ⟨w3.heap.size, 0, none⟩) (l0 + 1) c4) mapDisk h4.map
  refine ⟨w5, hupd, ?_⟩
  have hb3 := h3.lt b h3.rb
  have hs3 := h3.lt sb h3.rs
  have hm3 := h3.lt mb h3.rm
  have M4 : Mod (fun x => x = b) w w4 := ((m2.drew).no m3).no m4
  have M5 : Mod (Wr b sb mb) w w5 := (M4.mono fun x _ e => .inl e).trans m5 fun x _ e => .inr (.inr e)
  have hws := M4.size
  have hw23 := m2.size
  obtain ⟨tl1, tl2⟩ := tail_set hvne ys
  refine hk w5 (putL (i : Int) (.slice (some ⟨w3.heap.size, 0, none⟩) (l0 + 1) c4) L) M5 ?_
  have hset : (D.vs.set i (v ++ [ys])).map hd = D.vs.map hd := by
    rw [List.map_set, tl2]
    apply List.ext_getElem?
    intro j
    by_cases hj : i = j
    · subst hj; rw [List.getElem?_set_self (by simpa using hilt), List.getElem?_map, hv]; rfl
    · rw [List.getElem?_set_ne hj]
  exact { cell := by
            have := h4.cell.keep m5 h4.nbm
            simpa [dec] using this
          cap := by simpa using h.cap
          safe := by
            rw [hset]; exact h4.safe.keep m5 h4.nsm
          map := hmap5
          rb := .inl h.rb
          rs := .inl h.rs
          rm := .inl h.rm
          ne := h.ne
          opn := fun j v' hv' => by
            by_cases hj : i = j
            · subst hj
              have : v' = v ++ [ys] := by
                rw [List.getElem?_set_self hilt] at hv'; exact (Option.some.inj hv').symm
              subst this
              refine .inr ⟨by rw [tl1]; simp, w3.heap.size, c4, ?_, ?_, ?_, .inr ⟨by omega, by omega⟩, by omega, by omega⟩
              · rw [look_put, if_pos rfl, tl1, List.length_append, ← hl0]; rfl
              · rw [tl1, List.length_append, ← hl0]; exact hc4
              · rw [tl1, List.flatten_append, u8L_append]
                have e : [ys].flatten = ys := by simp
                rw [e]
                exact hat4.keep m5 (by omega)
            · rw [List.getElem?_set_ne hj] at hv'
              rcases h4.opn j v' hv' with ⟨t1, t2⟩ | ⟨t1, vb, c', t2, t3, t4, t5, t6, t7⟩
              · exact .inl ⟨t1, by rw [look_put, if_neg (by omega)]; exact t2⟩
              · refine .inr ⟨t1, vb, c', by rw [look_put, if_neg (by omega)]; exact t2, t3, t4.keep m5 ?_, .inl t5, t6, t7⟩
                exact h4.map.ne_cells t4
          keys := fun p hp => by
            rcases put_keys p hp with e | hp
            · exact ⟨i, e, by simpa using hilt⟩
            · obtain ⟨j, e, hj⟩ := h.keys p hp
              exact ⟨j, e, by simpa using hj⟩
          wf := { ver := fun x hx => by
                    rcases List.mem_or_eq_of_mem_set hx with hx | rfl
                    · exact h.wf.ver x hx
                    · refine ⟨by simp, fun y hy => ?_⟩
                      rcases List.mem_append.1 hy with hy | hy
                      · exact (h.wf.ver v (List.mem_of_getElem? hv)).2 y hy
                      · simp at hy; subst hy; omega
                  lo := by simpa using h.wf.lo
                  hi := by simpa using h.wf.hi
                  l0 := h2.wf.l0
                  l1 := h2.wf.l1 }
          lt := fun x hx => by
            rcases hx with hx | hx
            · have := h.lt x hx; have := M5.size; omega
            · exact hx.2 }
theorem Write_c (h:DiskIn w R b sb mb sc L D) (hs:∀ v∈D.vs,v.length<=999999) {n:Int} {a:Option Addr} {l c:Nat} {ys:List UInt8} (hl:ys.length=l) (hr:Row w a (u8L ys)) (hdis:∀ q,a=some q->¬ R q.block)
  (hk:∀ w' L',Mod R w w'->DiskIn w' (Gro R w w') b sb mb sc L' (wrSt D n ys)->K (.int .i64 (wrE D n ys)) w'):Cal Tryz.prog F_disk_Disk_Write #[.pointer (some ⟨b,0,none⟩),.int .i64 n,.slice a l c] w K :=
 Write_p h hs hl hr hdis fun w' L' m hd=>hk w' L' (m.mono fun _ _ e=>h.wr e) hd
end
end Go.Proofs.YtandmpcjjaabmaaGreat
end
section
open Go Go.Den Go.Proofs
namespace Go.Den
def upd (D:St) (ks:List Nat) (f:Nat->List Bk->Bk):St:=⟨D.vs.mapIdx fun i v=>if i∈ks then f i v::v.tail else v,D.left⟩
def clr (D:St):St:=⟨D.vs.map fun v=>[hd v],D.left⟩
def put1 (D:St) (f:Nat->List Bk->Bk):St:=⟨D.vs.mapIdx fun i v=>[f i v],D.left⟩
theorem upd_get {D:St} {ks:List Nat} {f:Nat->List Bk->Bk} {i:Nat} {v:List Bk} (hv:D.vs[i]?=some v):(upd D ks f).vs[i]?=some (if i∈ks then f i v::v.tail else v):=by
 simp [upd,List.getElem?_mapIdx,hv]
theorem upd_step {D:St} {ks:List Nat} {f:Nat->List Bk->Bk} {i:Nat} {v:List Bk} (hv:D.vs[i]?=some v):(upd D ks f).vs.set i (f i v::v.tail)=(upd D (ks++[i]) f).vs:=by
 apply List.ext_getElem?
 intro j
 by_cases hj:i=j
 ·subst hj
  have hlt:i<(upd D ks f).vs.length:=by simp [upd]; exact (List.getElem?_eq_some_iff.1 hv).1
  rw [List.getElem?_set_self hlt,upd_get hv,if_pos (by simp)]
 ·rw [List.getElem?_set_ne hj]
  cases hw:D.vs[j]? with
  | none=>simp [upd,List.getElem?_mapIdx,hw]
  | some u =>
   rw [upd_get hw,upd_get hw]
   have:(j∈ks++[i])↔j∈ks:=by simp; intro e; exact absurd e.symm hj
   simp only [this]
theorem clr_upd {D:St} {f:Nat->List Bk->Bk} (hf:∀ i v,D.vs[i]?=some v->v.tail=[]->f i v=hd v):clr (upd D (openN D) f)=put1 D f:=by
 unfold clr put1
 congr 1
 apply List.ext_getElem?
 intro j
 cases hw:D.vs[j]? with
 | none=>simp [upd,List.getElem?_mapIdx,hw]
 | some u =>
  rw [List.getElem?_map,upd_get hw,List.getElem?_mapIdx,hw]
  by_cases hj:j∈openN D
  ·rw [if_pos hj]; rfl
  ·rw [if_neg hj]
   have ht:u.tail=[]:=by
    unfold openN at hj
    rw [List.mem_filter] at hj
    have hlt:=(List.getElem?_eq_some_iff.1 hw).1
    simp only [List.mem_range,hlt,true_and,isOpen,hw,Option.getD_some] at hj
    simpa [List.isEmpty_iff] using hj
   simp [hf j u hw ht]
theorem upd_nil (D:St) (f:Nat->List Bk->Bk):upd D [] f=D:=by
 have:(D.vs.mapIdx fun i v=>if i∈([]:List Nat) then f i v::v.tail else v)=D.vs:=by
  apply List.ext_getElem?
  intro i
  rw [List.getElem?_mapIdx]
  cases D.vs[i]? <;> simp
 unfold upd; rw [this]
theorem put1_const (D:St) (g:List Bk->Bk):put1 D (fun _ v=>g v)=⟨D.vs.map fun v=>[g v],D.left⟩:=by
 unfold put1; congr 1
 apply List.ext_getElem?
 intro i
 rw [List.getElem?_mapIdx,List.getElem?_map]
theorem openN_lt {D:St} {i:Nat} (h:i∈openN D):∃ v,D.vs[i]?=some v/\v.tail≠[]:=by
 unfold openN at h
 obtain ⟨h1,h2⟩:=List.mem_filter.1 h
 have hlt:=List.mem_range.1 h1
 refine ⟨D.vs[i],by simp [hlt],?_⟩
 unfold isOpen at h2
 simp [hlt,List.isEmpty_iff] at h2
 exact fun e=>h2 e
theorem openN_nodup (D:St):(openN D).Nodup:=List.Pairwise.imp (fun h=>by omega) ((List.pairwise_lt_range (n:=D.vs.length)).filter (isOpen D))
theorem not_taken {ks:List Nat} (hn:ks.Nodup) {j i:Nat} (hj:ks[j]?=some i):i ∉ ks.take j:=by
 intro hc
 obtain ⟨hlt,hi⟩:=List.getElem?_eq_some_iff.1 hj
 obtain ⟨m,hm,he⟩:=List.getElem_of_mem hc
 have hml:m<j:=by simp at hm; omega
 rw [List.getElem_take] at he
 have:=(List.pairwise_iff_getElem.1 hn) m j (by omega) hlt hml
 exact this (by rw [he,hi])
end Go.Den
namespace Go.Proofs.YtandmpcjjaabmaaGreat
section
variable {w:World} {R:Nat->Prop} {b sb mb sc:Nat} {L:List (Int×Value)} {D:St} {K:Value->World->Prop}
theorem DiskIn_upd (h : DiskIn w R b sb mb sc L D) {i : Nat} {v : List Bk} {x : Bk} {w' : World} (hv : D.vs[i]? = some v) (hx : x.length = 256) (s2 : AtU w' sb 0 (splice (u8L (D.vs.map hd).flatten) (i * 256) (u8L x))) (s3 : Mod (fun x => x = sb) w w') :
    DiskIn w' R b sb mb sc L ⟨D.vs.set i (x :: v.tail), D.left⟩ := by
  have hlt := (List.getElem?_eq_some_iff.1 hv).1
  have hvne := h.wf.ver v (List.mem_of_getElem? hv)
  exact { cell := by
            have := h.cell.keep s3 h.ne
            simpa using this
          cap := by simpa using h.cap
          safe := by
            rw [splice_u8L, hx, flat_set (D.vs.map hd) h.wf.hd i x (by simpa using hlt) hx] at s2
            rw [List.map_set]; exact s2
          map := h.map.keep s3 h.nsm.symm
          rb := h.rb
          rs := h.rs
          rm := h.rm
          ne := h.ne
          opn := fun j v' hv' => by
            by_cases hj : i = j
            · subst hj
              have e : v' = x :: v.tail := by
                rw [List.getElem?_set_self hlt] at hv'; exact (Option.some.inj hv').symm
              subst e
              have := (h.opn i v hv).keep s3 fun y _ e => .inr e
              exact this
            · rw [List.getElem?_set_ne hj] at hv'
              exact (h.opn j v' hv').keep s3 fun y _ e => .inr e
          keys := fun p hp => by
            obtain ⟨j, e, hj⟩ := h.keys p hp
            exact ⟨j, e, by simpa using hj⟩
          wf := { ver := fun y hy => by
                    rcases List.mem_or_eq_of_mem_set hy with hy | rfl
                    · exact h.wf.ver y hy
                    · refine ⟨by simp, fun z hz => ?_⟩
                      rcases List.mem_cons.1 hz with rfl | hz
                      · exact hx
                      · exact hvne.2 z (List.mem_of_mem_tail hz)
                  lo := by simpa using h.wf.lo
                  hi := by simpa using h.wf.hi
                  l0 := h.wf.l0
                  l1 := h.wf.l1 }
          lt := fun y hy => Nat.lt_of_lt_of_le (h.lt y hy) s3.size }
theorem DiskIn_store (h:DiskIn w R b sb mb sc L D) {i:Nat} {v:List Bk} {x:Bk} (hv:D.vs[i]?=some v) (hx:x.length=256) :
  ∃ w',RuU (Instr.storeAt 224 (.pointer (some (Addr.add ⟨sb,0,none⟩ (i*256)))) (.agg ⟨u8L x⟩)) w w'/\DiskIn w' R b sb mb sc L ⟨D.vs.set i (x::v.tail),D.left⟩/\Mod (fun x=>x=sb) w w':=by
 have hlt:=(List.getElem?_eq_some_iff.1 hv).1
 have hfl:=flat_len (D.vs.map hd) h.wf.hd
 have hfl':(D.vs.map hd).flatten.length=D.vs.length*256:=by rw [hfl,List.length_map]
 have hle:(i+1)*256<=D.vs.length*256:=Nat.mul_le_mul_right _ hlt
 obtain ⟨w',s1,s2,s3,s4⟩:=h.safe.storeAgg (P:=Tryz.prog) (T:=224) (i:=i*256) (n:=256) (vs:=u8L x) agg_block (by simp [hx]) (by rw [length_u8L,hfl']; omega) (one_u8L x)
 exact ⟨w',by rw [add_none]; exact s1,DiskIn_upd h hv hx s2 s3,s3⟩
theorem DiskIn_clear (h : DiskIn w R b sb mb sc L D) {ty : TypeId} : ∃ w', Ru (Builtin.clear_ #[149] ty #[.map (some mb)]) w (.tuple #[]) w' ∧ DiskIn w' R b sb mb sc [] (clr D) ∧ Mod (fun x => x = mb) w w' := by
  obtain ⟨w', s1, s2, s3, s4⟩ := clear_run (P := Tryz.prog) (ty := ty) mapDisk h.map
  refine ⟨w', s1, ?_, s3⟩
  have hh : (clr D).vs.map hd = D.vs.map hd := by
    unfold clr; rw [List.map_map]; rfl
  exact { cell := by
            have := h.cell.keep s3 h.nbm
            simpa [clr] using this
          cap := by simpa [clr] using h.cap
          safe := by rw [hh]; exact h.safe.keep s3 h.nsm
          map := s2
          rb := h.rb
          rs := h.rs
          rm := h.rm
          ne := h.ne
          opn := fun j v' hv' => by
            refine .inl ⟨?_, rfl⟩
            simp [clr] at hv'
            obtain ⟨u, _, rfl⟩ := hv'
            rfl
          keys := by simp
          wf := { ver := fun y hy => by
                    simp [clr] at hy
                    obtain ⟨u, hu, rfl⟩ := hy
                    refine ⟨by simp, fun z hz => ?_⟩
                    simp at hz; subst hz
                    exact h.wf.hd _ (List.mem_map.2 ⟨u, hu, rfl⟩)
                  lo := by simpa [clr] using h.wf.lo
                  hi := by simpa [clr] using h.wf.hi
                  l0 := h.wf.l0
                  l1 := h.wf.l1 }
          lt := fun y hy => Nat.lt_of_lt_of_le (h.lt y hy) s3.size }
theorem openS_get {D:St} {j:Nat} (hj:j<(openN D).length):(iL (openS D))[j]?=some (.int .i64 ((openN D)[j]:Nat)):=by
 simp [iL,openS,hj,I]
theorem openN_len {D:St}:(openN D).length<=D.vs.length:=by
 unfold openN; exact Nat.le_trans (List.length_filter_le _ _) (by simp)
def flSt (D:St):St:=if D.left=0 then D else ⟨D.vs.map fun v=>[lastV v],dec D.left⟩
theorem take_snoc {ks:List Nat} {j:Nat} (hj:j<ks.length):ks.take (j+1)=ks.take j++[ks[j]]:=List.take_succ_eq_append_getElem hj
theorem Flush_c (h:DiskIn w R b sb mb sc L D) (hs:Small D) (hk:∀ w' L',Mod R w w'->DiskIn w' R b sb mb sc L' (flSt D)->K (.int .i64 0) w'):Cal Tryz.prog F_disk_Disk_Flush #[.pointer (some ⟨b,0,none⟩)] w K:=by
 apply C_disk_Disk_Flush
 unfold D_disk_Disk_Flush
 refine ff rfl (goes_c h (fun hz=>⟨_,rfl,tt rfl ?_⟩) fun hnz w2 h2 m2=>⟨_,rfl,ff rfl ?_⟩)
 ·have e:flSt D=D:=by unfold flSt; rw [if_pos hz]
  exact hk w L (Mod.refl _ _) (by rw [e]; exact h)
 have eF:flSt D=⟨D.vs.map fun v=>[lastV v],dec D.left⟩:=by unfold flSt; rw [if_neg hnz]
 rw [eF] at hk
 have M2:Mod R w w2:=m2.mono fun x _ e=>by subst e; exact h.rb
 have hs2:Small ⟨D.vs,dec D.left⟩:=hs
 have h2':DiskIn w2 R b sb mb sc L ⟨D.vs,dec D.left⟩:=h2
 clear h2
 generalize hD2:(⟨D.vs,dec D.left⟩:St)=D2 at *
 refine Open_c h2' fun w3 a l c m3 o3=>⟨_,_,_,rfl,?_⟩
 have h3:=h2'.nos m3
 have hl:(openN D2).length=l:=by have:=o3.len; simpa [openS] using this
 have hlb:=openN_len (D:=D2)
 have hhi:=h2'.wf.hi
 refine ⟨fun x w4=>∃ j:Nat,j<=l/\x=[.int .i64 j]/\DiskIn w4 R b sb mb sc L (upd D2 ((openN D2).take j) fun _ v=>lastV v)/\Ow Tryz.prog w4 w2.heap.size 64 1 a l c (iL (openS D2))/\Mod R w2 w4,fun x _=>(l-nI x 0).toNat,
  ⟨0,by omega,rfl,by rw [List.take_zero,upd_nil]; exact h3,o3,m3.mono fun _ _ h=>h.elim⟩,?_⟩
 rintro x w4 ⟨j,hj,rfl,h4,o4,M4⟩
 refine ⟨_,rfl,cond_of (fun hb=>?_) (fun hb=>?_)⟩
 ·have hj:j<l:=by have:=of_decide_eq_true hb; omega
  obtain ⟨g,rfl,hg,hrow⟩:=o4.sm (by omega)
  have hjo:j<(openN D2).length:=by omega
  have hget:(openN D2)[j]?=some (openN D2)[j]:=by simp [hjo]
  obtain ⟨v,hv,hvt⟩:=openN_lt (List.getElem_mem hjo)
  have hnt:=not_taken (openN_nodup D2) hget
  have hv4:(upd D2 ((openN D2).take j) fun _ v=>lastV v).vs[(openN D2)[j]]?=some v:=by rw [upd_get hv,if_neg hnt]
  refine ⟨_,index_slice (k:=1) (by kernel_rfl) (by omega) (by omega),?_⟩
  rw [add_none,Int.toNat_natCast,Nat.mul_one]
  refine ⟨_,hrow.at.load (by kernel_rfl) (openS_get hjo),_,rfl,_,_,_,h4.drew.ls,?_⟩
  refine last_c h4.drew hv4 (hs2 v (List.mem_of_getElem? hv)) fun w5 m5=>⟨_,rfl,(h4.drew.nos m5).ls,?_⟩
  have h5:=h4.drew.nos m5
  obtain ⟨w6,s1,s2,s3⟩:=DiskIn_store h5 hv4 (h2'.wf.lastLen hv)
  have hlt:(openN D2)[j]<(upd D2 ((openN D2).take j) fun _ v=>lastV v).vs.length:=(List.getElem?_eq_some_iff.1 hv4).1
  refine ⟨_,fun _=>idx_block hlt _,w6,s1,?_⟩
  rw [wrap64 (x:=(j:Int)+1) (by omega) (by omega)]
  have M45:Mod No w4 w5:=((Mod.refl No w4).drew).no m5
  refine ⟨⟨j+1,by omega,rfl,?_,(o4.nos M45).keep s3 fun q hq e=>?_,(M4.no M45).trans s3 fun x _ e=>by subst e; exact h.rs⟩,by simp [nI,nth]; omega⟩
  ·rw [take_snoc hjo]
   have:=upd_step (ks:=(openN D2).take j) (f:=fun _ v=>lastV v) hv
   rw [this] at s2
   exact s2
  ·have:=(o4.base hq).1
   have:=h2'.lt sb h2'.rs
   omega
 ·have hjl:j=l:=by have:=of_decide_eq_false hb; omega
  subst hjl
  have e1:(openN D2).take j=openN D2:=List.take_of_length_le (by omega)
  rw [e1] at h4
  obtain ⟨w6,s1,s2,s3⟩:=DiskIn_clear h4 (ty:=0)
  refine ⟨_,rfl,some mb,h4.lm,w6,s1,?_⟩
  refine hk w6 [] ((M2.trans M4 fun _ _ h=>h).trans s3 fun x _ e=>by subst e; exact h.rm) ?_
  rw [clr_upd (fun i v _ ht=>last_one ht)] at s2
  rw [put1_const,<- hD2] at s2
  exact s2
end
end Go.Proofs.YtandmpcjjaabmaaGreat
end
section
open Go Go.Den Go.Proofs
namespace Go.Proofs.YtandmpcjjaabmaaGreat
section
variable {w:World} {R:Nat->Prop} {b sb mb sc:Nat} {L:List (Int×Value)} {D:St} {K:Value->World->Prop}
def kOf (pick:List Int) (j m:Nat):Int:=if j<pick.length then (if (m:Int)<(if 0 > pick.getD j 0 then 0 else pick.getD j 0) then (m:Int) else (if 0 > pick.getD j 0 then 0 else pick.getD j 0)) else 0
def pickV (D:St) (pick:List Int) (i:Nat) (v:List Bk):Bk:=v.getD (kOf pick ((openN D).idxOf i) v.tail.length).toNat []
end
end Go.Proofs.YtandmpcjjaabmaaGreat
end
section
open Go Go.Den Go.Proofs
namespace Go.Proofs.YtandmpcjjaabmaaGreat
section
variable {w0 w:World} {N b:Nat} {D:St} {K:Value->World->Prop}
def D1:St:=wrSt (newSt 3) 1 (fillB [65])
def D2:St:=flSt D1
theorem sm (D:St) (h:(D.vs.all fun v=>decide (v.length<=999999))=true):∀ v∈D.vs,v.length<=999999:=by
 intro v hv
 have:=List.all_eq_true.1 h v hv
 exact of_decide_eq_true this
end
end Go.Proofs.YtandmpcjjaabmaaGreat
end
section
open Go Go.Den Go.Proofs
namespace Go.Den
theorem map_inj {α β:Type} {f:α->β}:∀ {l:List α},(l.map f).Nodup->∀ {x e:α},x∈l->e∈l->f x=f e->x=e
 | [],_,x,e,hx,_,_=>by cases hx
 | y::r,hn,x,e,hx,he,h=>by
  rw [List.map_cons,List.nodup_cons] at hn
  rcases List.mem_cons.1 hx with hx | hx
  ·rcases List.mem_cons.1 he with he | he
   ·rw [hx,he]
   ·exact absurd (List.mem_map.2 ⟨e,he,by rw [<- h,hx]⟩) hn.1
  ·rcases List.mem_cons.1 he with he | he
   ·exact absurd (List.mem_map.2 ⟨x,hx,by rw [h,he]⟩) hn.1
   ·exact map_inj hn.2 hx he h
end Go.Den
namespace Go.Proofs.YtandmpcjjaabmaaGreat
section
variable {D:St}
def Bnd (D:St) (m:Nat):Prop:=∀ v∈D.vs,v.length<=m
theorem Bnd.mono {m m':Nat} (h:Bnd D m) (hm:m<=m'):Bnd D m':=fun v hv=>Nat.le_trans (h v hv) hm
theorem Bnd_wr {m:Nat} (h:Bnd D m) (n:Int) (ys:List UInt8):Bnd (wrSt D n ys) (m+1):=by
 unfold wrSt
 split
 ·exact h.mono (by omega)
 ·intro v hv
  rcases List.mem_or_eq_of_mem_set hv with hv | rfl
  ·have:=h v hv; omega
  ·have:(verOf D n).length<=m:=by
    rcases err_cases (D:=D) n with ⟨_,ho⟩ | ⟨_,i,u,rfl,hu,hver⟩
    ·rw [verOf_none ho]; simp
    ·rw [hver]; exact h u (List.mem_of_getElem? hu)
   simp; omega
end
end Go.Proofs.YtandmpcjjaabmaaGreat
end
section
open Go Go.Den
namespace Go.Den
def delL (k:Int) (L:List (Int×Value)):List (Int×Value):=L.filter fun p=>!decide (p.1=k)
theorem findE_erase (k:Int):∀ (Es:List Ent) (i j:Nat) (u:Value),(Es.map (·.1)).Nodup->findE k Es i=some (j,u)->i<=j/\j-i<Es.length/\Es.eraseIdx (j-i)=Es.filter fun e=>!decide (e.1=k)
 | [],_,_,_,_,h=>by cases h
 | e::r,i,j,u,hn,h=>by
  rw [List.map_cons,List.nodup_cons] at hn
  simp only [findE] at h
  by_cases he:e.1=k
  ·rw [if_pos he] at h
   have h:=Option.some.inj h
   simp only [Prod.mk.injEq] at h
   obtain ⟨rfl,_⟩:=h
   refine ⟨Nat.le_refl _,by simp,?_⟩
   rw [Nat.sub_self,List.eraseIdx_cons_zero,List.filter_cons_of_neg (by simp [he])]
   refine (List.filter_eq_self.2 fun x hx=>?_).symm
   have:x.1≠k:=fun e'=>hn.1 (List.mem_map.2 ⟨x,hx,by rw [e',he]⟩)
   simp [this]
  ·rw [if_neg he] at h
   obtain ⟨h1,h2,h3⟩:=findE_erase k r (i+1) j u hn.2 h
   refine ⟨by omega,by simp; omega,?_⟩
   rw [show j-i=(j-(i+1))+1 by omega,List.eraseIdx_cons_succ,h3,List.filter_cons_of_pos (by simp [he])]
theorem findE_all (k:Int):∀ (Es:List Ent) (i:Nat),findE k Es i=none->(Es.filter fun e=>!decide (e.1=k))=Es
 | [],_,_=>rfl
 | e::r,i,h=>by
  simp only [findE] at h
  by_cases he:e.1=k
  ·rw [if_pos he] at h; cases h
  ·rw [if_neg he] at h
   rw [List.filter_cons_of_pos (by simp [he]),findE_all k r (i+1) h]
theorem erase_map {α β:Type} (f:α->β):∀ (l:List α) (j:Nat),(l.map f).eraseIdx j=(l.eraseIdx j).map f
 | [],_=>rfl
 | x::r,0=>rfl
 | x::r,j+1=>by simp [erase_map f r j]
theorem look_del (L:List (Int×Value)) (k k':Int):lookupL (delL k L) k'=if k'=k then none else lookupL L k':=by
 induction L with
 | nil=>simp [delL,lookupL]
 | cons p r ih =>
  unfold delL at ih |-
  by_cases hp:p.1=k
  ·rw [List.filter_cons_of_neg (by simp [hp]),ih]
   by_cases hk:k'=k
   ·rw [if_pos hk,if_pos hk]
   ·rw [if_neg hk,if_neg hk]; simp only [lookupL]; rw [if_neg (by omega)]
  ·rw [List.filter_cons_of_pos (by simp [hp])]
   simp only [lookupL]
   by_cases hk:p.1=k'
   ·rw [if_pos hk,if_pos hk,if_neg (by omega)]
   ·rw [if_neg hk,if_neg hk,ih]
theorem del_mem {L:List (Int×Value)} {k:Int} {p:Int×Value}:p∈delL k L↔p∈L/\p.1≠k:=by
 unfold delL; rw [List.mem_filter]; simp
section
variable {P:Program} {w:World}
theorem look2_run {T:TypeId} {z:Value} {m:Nat} {L:List (Int×Value)} {k:Int} (hT:mapZ P T=some z) (h:MapAt w m L) :
  (Instr.lookup T (.map (some m)) (.int .i64 k) true).run P w=.ok (.tuple #[(lookupL L k).getD z,.bool (lookupL L k).isSome]) w:=by
 obtain ⟨kt,e,i,h1,h2,h3,h4⟩:=mapZ_is hT
 obtain ⟨Es,c,g1,rfl,_⟩:=h
 have hl:=findE_look k Es 0
 have hzero:(zeroValue e).run P w=.ok z w:=by simp [zeroValue,typeInfo,h3,h4]
 simp only [Instr.lookup,Sem.run_bind,run_und h1,Result.andThen_ok,run_getMap g1,Sem.run_pure,run_checkKey h2,run_findKey h2]
 cases hf:findE k Es 0 with
 | none =>
  rw [hf] at hl
  simp only [Option.map_none] at hl
  simp [<- hl,hzero]
 | some r =>
  rw [hf] at hl
  simp only [Option.map_some] at hl
  simp [<- hl]
theorem delete_run {T T2 ty:TypeId} {z:Value} {m:Nat} {L:List (Int×Value)} {k:Int} (hT:mapZ P T=some z) (h:MapAt w m L) :
  ∃ w',(Builtin.delete_ #[T,T2] ty #[.map (some m),.int .i64 k]).run P w=.ok (.tuple #[]) w'/\MapAt w' m (delL k L)/\Mod (fun x=>x=m) w w'/\w'.heap.size=w.heap.size:=by
 obtain ⟨kt,e,i,h1,h2,h3,h4⟩:=mapZ_is hT
 obtain ⟨Es,c,g1,rfl,g3,g4,g5⟩:=h
 have hund:(underlying T).run P w=.ok (.map kt e) w:=run_und h1 w
 have hmod:∀ o,Mod (fun x=>x=m) w (put w m o):=fun o=>(Mod.refl (fun x=>x=m) w).put (.inr rfl) _
 have hkv:(Es.filter fun e=>!decide (e.1=k)).map kv=delL k (Es.map kv):=by
  unfold delL; rw [List.filter_map]; rfl
 have hsub:(Es.filter fun e=>!decide (e.1=k)).Sublist Es:=List.filter_sublist
 cases hf:findE k Es 0 with
 | none =>
  have hall:=findE_all k Es 0 hf
  refine ⟨put w m (.map (Es.map toE).toArray c),?_,⟨Es,c,heap_put_same (lt_of_heap g1),by rw [<- hkv,hall],g3,g4,g5⟩,hmod _,by simp⟩
  simp [Builtin.delete_,hund,run_getMap g1,run_checkKey h2,run_findKey h2,hf,run_setMap g1]
 | some r =>
  obtain ⟨j,u⟩:=r
  obtain ⟨_,e2,e3⟩:=findE_erase k Es 0 j u g3 hf
  rw [Nat.sub_zero] at e2 e3
  refine ⟨put w m (.map ((Es.eraseIdx j).map toE).toArray c),?_,⟨Es.eraseIdx j,c,heap_put_same (lt_of_heap g1),by rw [e3,hkv],?_,?_,?_⟩,hmod _,by simp⟩
  ·simp [Builtin.delete_,hund,run_getMap g1,run_checkKey h2,run_findKey h2,hf,run_setMap g1,erase_map]
  ·rw [e3]; exact (hsub.map _).nodup g3
  ·rw [e3]; exact fun x hx=>g4 x (hsub.subset hx)
  ·rw [e3]; exact (hsub.map _).nodup g5
end
end Go.Den
end
section
open Go Go.Den Go.Proofs
namespace Go.Proofs.YtandmpcjjaabmaaGreat
structure Bf where
 b:Nat
 data:Bk
 pins:Nat
deriving DecidableEq
structure Ca where
 D:St
 most:Nat
 l:List Bf
def nums (l:List Bf):List Int:=l.map fun x=>(x.b:Int)
def atD (D:St) (b:Nat):Bk:=lastV (verOf D b)
def clean (D:St) (x:Bf):Bool:=decide (x.data=atD D x.b)
def others (l:List Bf) (b:Nat):List Bf:=l.filter fun x=>!decide (x.b=b)
def findB (l:List Bf) (b:Nat):Option Bf:=l.find? fun x=>decide (x.b=b)
def idleB (D:St) (x:Bf):Bool:=decide (x.pins=0)&&clean D x
def roomC (C:Ca):Option Ca:=if C.l.length<C.most then some C else (C.l.find? (idleB C.D)).map fun x=>{ C with l:=others C.l x.b }
def askC (C:Ca) (b:Nat):Option Ca :=
 match findB C.l b with
 | some x=>some { C with l:=others C.l b++[x] }
 | none=>(roomC C).map fun C'=>{ C' with l:=C'.l++[⟨b,atD C.D b,0⟩] }
structure WFC (C:Ca):Prop where
 small:Small C.D
 most0:1<=C.most
 most1:C.most<=4096
 len:C.l.length<=C.most
 nodup:(C.l.map (·.b)).Nodup
 lt:∀ x∈C.l,x.b<C.D.vs.length
 data:∀ x∈C.l,x.data.length=256
 pins:∀ x∈C.l,x.pins<=1000000
theorem findB_some {l:List Bf} {b:Nat} {x:Bf} (h:findB l b=some x):x∈l/\x.b=b:=by
 unfold findB at h
 exact ⟨List.mem_of_find?_eq_some h,by simpa using List.find?_some h⟩
theorem findB_none {l:List Bf} {b:Nat} (h:findB l b=none):∀ x∈l,x.b≠b:=by
 unfold findB at h
 intro x hx
 have:=List.find?_eq_none.1 h x hx
 simpa using this
theorem findB_mem {l:List Bf} (hn:(l.map (·.b)).Nodup) {x:Bf} (hx:x∈l):findB l x.b=some x:=by
 cases h:findB l x.b with
 | none=>exact absurd rfl (findB_none h x hx)
 | some y =>
  obtain ⟨hy,e⟩:=findB_some h
  rw [map_inj hn hy hx e]
theorem mem_others {l:List Bf} {b:Nat} {x:Bf}:x∈others l b↔x∈l/\x.b≠b:=by
 unfold others; rw [List.mem_filter]; simp
theorem nums_others (l:List Bf) (b:Nat):nums (others l b)=(nums l).filter fun k=>!decide (k=(b:Int)):=by
 unfold nums others
 rw [List.filter_map]
 congr 1
 apply List.filter_congr
 intro x _
 simp only [Function.comp]
 congr 2
 rw [eq_iff_iff]; omega
theorem others_nodup {l:List Bf} (hn:(l.map (·.b)).Nodup) (b:Nat):((others l b).map (·.b)).Nodup:=(List.filter_sublist.map _).nodup hn
theorem others_len (l:List Bf) (b:Nat):(others l b).length<=l.length:=List.length_filter_le _ _
theorem others_lt {l:List Bf} {x:Bf} (hx:x∈l):(others l x.b).length<l.length:=by
 unfold others
 rw [List.length_filter_lt_length_iff_exists]
 exact ⟨x,hx,by simp⟩
theorem snoc_nodup {l:List Bf} (hn:(l.map (·.b)).Nodup) {x:Bf} (hx:∀ y∈l,y.b≠x.b):((l++[x]).map (·.b)).Nodup:=by
 rw [List.map_append]
 refine List.nodup_append.2 ⟨hn,by simp,?_⟩
 intro a ha b hb
 simp at hb; subst hb
 obtain ⟨y,hy,rfl⟩:=List.mem_map.1 ha
 exact hx y hy
theorem WFC.move {C:Ca} (h:WFC C) {x:Bf} (hx:x∈C.l):WFC { C with l:=others C.l x.b++[x] } where
 small:=h.small
 most0:=h.most0
 most1:=h.most1
 len:=by have:=others_lt hx; have:=h.len; simp; omega
 nodup:=snoc_nodup (others_nodup h.nodup _) fun y hy=>(mem_others.1 hy).2
 lt:=fun y hy=>by
  rcases List.mem_append.1 hy with hy | hy
  ·exact h.lt y (mem_others.1 hy).1
  ·simp at hy; subst hy; exact h.lt _ hx
 data:=fun y hy=>by
  rcases List.mem_append.1 hy with hy | hy
  ·exact h.data y (mem_others.1 hy).1
  ·simp at hy; subst hy; exact h.data _ hx
 pins:=fun y hy=>by
  rcases List.mem_append.1 hy with hy | hy
  ·exact h.pins y (mem_others.1 hy).1
  ·simp at hy; subst hy; exact h.pins _ hx
theorem WFC.out {C:Ca} (h:WFC C) (b:Nat):WFC { C with l:=others C.l b } where
 small:=h.small
 most0:=h.most0
 most1:=h.most1
 len:=Nat.le_trans (others_len _ _) h.len
 nodup:=others_nodup h.nodup _
 lt:=fun y hy=>h.lt y (mem_others.1 hy).1
 data:=fun y hy=>h.data y (mem_others.1 hy).1
 pins:=fun y hy=>h.pins y (mem_others.1 hy).1
theorem WFC.add {C:Ca} (h:WFC C) {x:Bf} (hr:C.l.length<C.most) (hx:∀ y∈C.l,y.b≠x.b) (h1:x.b<C.D.vs.length) (h2:x.data.length=256) (h3:x.pins<=1000000):WFC { C with l:=C.l++[x] } where
 small:=h.small
 most0:=h.most0
 most1:=h.most1
 len:=by simp; omega
 nodup:=snoc_nodup h.nodup hx
 lt:=fun y hy=>by
  rcases List.mem_append.1 hy with hy | hy
  ·exact h.lt y hy
  ·simp at hy; subst hy; exact h1
 data:=fun y hy=>by
  rcases List.mem_append.1 hy with hy | hy
  ·exact h.data y hy
  ·simp at hy; subst hy; exact h2
 pins:=fun y hy=>by
  rcases List.mem_append.1 hy with hy | hy
  ·exact h.pins y hy
  ·simp at hy; subst hy; exact h3
def turn (l:List Bf) (y:Bf):List Bf:=l.map fun x=>if x.b=y.b then y else x
theorem turn_b (l:List Bf) (y:Bf):(turn l y).map (·.b)=l.map (·.b):=by
 unfold turn
 rw [List.map_map]
 apply List.map_congr_left
 intro x _
 simp only [Function.comp]
 split
 ·rename_i h; exact h.symm
 ·rfl
theorem turn_nums (l:List Bf) (y:Bf):nums (turn l y)=nums l:=by
 have:=turn_b l y
 unfold nums
 have e:∀ l:List Bf,(l.map fun x=>(x.b:Int))=(l.map (·.b)).map fun n:Nat=>(n:Int):=fun l=>by rw [List.map_map]; rfl
 rw [e,e,this]
theorem mem_turn {l:List Bf} {y z:Bf} (h:z∈turn l y):z=y\/(z∈l/\z.b≠y.b):=by
 unfold turn at h
 obtain ⟨x,hx,e⟩:=List.mem_map.1 h
 split at e
 ·exact .inl e.symm
 ·rename_i hne; subst e; exact .inr ⟨hx,hne⟩
theorem WFC.turn {C:Ca} (h:WFC C) {y:Bf} (h1:y.b<C.D.vs.length) (h2:y.data.length=256) (h3:y.pins<=1000000):WFC { C with l:=turn C.l y } where
 small:=h.small
 most0:=h.most0
 most1:=h.most1
 len:=by have:=h.len; simpa [Go.Proofs.YtandmpcjjaabmaaGreat.turn] using this
 nodup:=by rw [turn_b]; exact h.nodup
 lt:=fun z hz=>by
  rcases mem_turn hz with rfl | ⟨hz,_⟩
  ·exact h1
  ·exact h.lt z hz
 data:=fun z hz=>by
  rcases mem_turn hz with rfl | ⟨hz,_⟩
  ·exact h2
  ·exact h.data z hz
 pins:=fun z hz=>by
  rcases mem_turn hz with rfl | ⟨hz,_⟩
  ·exact h3
  ·exact h.pins z hz
end Go.Proofs.YtandmpcjjaabmaaGreat
end
section
open Go Go.Den Go.Proofs
namespace Go.Proofs.YtandmpcjjaabmaaGreat
structure CIn (w0:World) (R:Nat->Prop) (rl:Nat->Nat) (w:World) (c d m sb mb sc lc:Nat) (la:Option Addr) (L mp:List (Int×Value)) (C:Ca):Prop where
 disk:DiskIn w (fun x=>rl x=4) d sb mb sc L C.D
 cell:AtU w c 0 [.pointer (some ⟨d,0,none⟩),.int .i64 C.most,.map (some m),.slice la C.l.length lc]
 map:MapAt w m mp
 row:Ow Tryz.prog w w0.heap.size 64 1 la C.l.length lc (iL (nums C.l))
 rc:rl c=1
 rm:rl m=2
 rrow:∀ q,la=some q->rl q.block=3
 bufs:∀ x∈C.l,∃ q g cc,lookupL mp x.b=some (.pointer (some ⟨q,0,none⟩))/\rl q=6+x.b/\rl g=5/\AtU w q 0 [.slice (some ⟨g,0,none⟩) 256 cc,.int .i64 x.pins]/\At w g 0 (u8L x.data)
 keys:∀ p∈mp,∃ x∈C.l,p.1=(x.b:Int)
 wf:WFC C
 reg:∀ x,rl x≠0->R x
 lo:∀ x,R x->w0.heap.size<=x/\x<w.heap.size
 mod:Mod No w0 w
section
variable {w0 w w':World} {R:Nat->Prop} {rl:Nat->Nat} {c d m sb mb sc lc:Nat} {la:Option Addr} {L mp:List (Int×Value)} {C:Ca}
theorem CIn.nos (h:CIn w0 R rl w c d m sb mb sc lc la L mp C) (k:Mod No w w'):CIn w0 R rl w' c d m sb mb sc lc la L mp C where
 disk:=h.disk.nos k
 cell:=h.cell.keep k id
 map:=h.map.keep k id
 row:=h.row.nos k
 rc:=h.rc
 rm:=h.rm
 rrow:=h.rrow
 bufs:=fun x hx=>by
  obtain ⟨q,g,cc,h1,h2,h3,h4,h6⟩:=h.bufs x hx
  exact ⟨q,g,cc,h1,h2,h3,h4.keep k id,h6.keep k id⟩
 keys:=h.keys
 wf:=h.wf
 reg:=h.reg
 lo:=fun x hx=>by have:=h.lo x hx; have:=k.size; omega
 mod:=h.mod.no k
theorem CIn.drew (h:CIn w0 R rl w c d m sb mb sc lc la L mp C):CIn w0 R rl (Go.Den.drew w) c d m sb mb sc lc la L mp C:=h.nos (Mod.refl No w).drew
theorem CIn.widen {R':Nat->Prop} (h:CIn w0 R rl w c d m sb mb sc lc la L mp C) (h1:∀ x,R x->R' x) (h2:∀ x,R' x->w0.heap.size<=x/\x<w.heap.size):CIn w0 R' rl w c d m sb mb sc lc la L mp C :=
 { h with reg:=fun x hx=>h1 x (h.reg x hx),lo:=h2 }
def ro (rl:Nat->Nat) (a r:Nat):Nat->Nat:=fun z=>if z=a then r else rl z
theorem ro_same (rl:Nat->Nat) (a r:Nat):ro rl a r a=r:=by unfold ro; rw [if_pos rfl]
theorem ro_ne (rl:Nat->Nat) {a r x:Nat} (h:x≠a):ro rl a r x=rl x:=by unfold ro; rw [if_neg h]
structure Ext (w w':World) (rl rl':Nat->Nat):Prop where
 old:∀ x,rl x≠0->rl' x=rl x
 new:∀ x,rl x=0->rl' x≠0->w.heap.size<=x/\x<w'.heap.size
 dsk:∀ x,rl' x=4->rl x=4
theorem Ext.refl (w w':World) (rl:Nat->Nat):Ext w w' rl rl:=⟨fun _ _=>rfl,fun _ h k=>absurd h k,fun _ h=>h⟩
theorem Ext.ro {rl':Nat->Nat} (h:Ext w w' rl rl') {a r:Nat} (ha:rl' a=r\/(w.heap.size<=a/\a<w'.heap.size/\rl' a=0)) (h4:r≠4) (h0:r≠0):Ext w w' rl (ro rl' a r) where
 old:=fun x hx=>by
  by_cases e:x=a
  ·subst e
   rw [ro_same]
   have:=h.old x hx
   rcases ha with ha | ⟨_,_,ha⟩
   ·rw [<- this,ha]
   ·omega
  ·rw [ro_ne _ e]; exact h.old x hx
 new:=fun x hx hn=>by
  by_cases e:x=a
  ·subst e
   rcases ha with ha | ⟨h1,h2,_⟩
   ·exact h.new x hx (by omega)
   ·exact ⟨h1,h2⟩
  ·rw [ro_ne _ e] at hn; exact h.new x hx hn
 dsk:=fun x hx=>by
  by_cases e:x=a
  ·subst e; rw [ro_same] at hx; exact absurd hx h4
  ·rw [ro_ne _ e] at hx; exact h.dsk x hx
theorem CIn.step {S:Nat->Prop} {rl':Nat->Nat} {lc':Nat} {la':Option Addr} {mp':List (Int×Value)} {l':List Bf} (h:CIn w0 R rl w c d m sb mb sc lc la L mp C) (k:Mod S w w') (hx:Ext w w' rl rl')
  (hS:∀ x,x<w.heap.size->S x->rl x≠0/\rl x≠4/\rl x≠5)
  (hcell:AtU w' c 0 [.pointer (some ⟨d,0,none⟩),.int .i64 C.most,.map (some m),.slice la' l'.length lc']) (hmap:MapAt w' m mp')
  (hrow:Ow Tryz.prog w' w0.heap.size 64 1 la' l'.length lc' (iL (nums l'))) (hla:∀ q,la'=some q->rl' q.block=3)
  (hl:∀ x∈l',(x∈C.l/\lookupL mp' x.b=lookupL mp x.b/\∀ q,S q->rl q≠6+x.b) \/
   ∃ q g cc,lookupL mp' x.b=some (.pointer (some ⟨q,0,none⟩))/\rl' q=6+x.b/\rl' g=5/\AtU w' q 0 [.slice (some ⟨g,0,none⟩) 256 cc,.int .i64 x.pins]/\At w' g 0 (u8L x.data))
  (hk:∀ p∈mp',∃ x∈l',p.1=(x.b:Int)) (hwf:WFC { C with l:=l' }) :
  CIn w0 (Gro R w w') rl' w' c d m sb mb sc lc' la' L mp' { C with l:=l' } where
 disk:=by
  have h4:=h.disk.keep k fun x hx e=>by
   have:=hS x (h.disk.lt x hx) e
   omega
  have e:(fun x=>rl' x=4)=fun x=>rl x=4:=by
   funext x
   exact propext ⟨hx.dsk x,fun e=>by rw [hx.old x (by omega)]; exact e⟩
  rw [e]; exact h4
 cell:=hcell
 map:=hmap
 row:=hrow
 rc:=by rw [hx.old c (by rw [h.rc]; omega)]; exact h.rc
 rm:=by rw [hx.old m (by rw [h.rm]; omega)]; exact h.rm
 rrow:=hla
 bufs:=fun x hx'=>by
  rcases hl x hx' with ⟨hx1,hx2,hx3⟩ | hn
  ·obtain ⟨q,g,cc,h1,h2,h3,h4,h6⟩:=h.bufs x hx1
   refine ⟨q,g,cc,hx2.trans h1,?_,?_,h4.keep k fun e=>hx3 q e h2,h6.keep k fun e=>?_⟩
   ·rw [hx.old q (by omega)]; exact h2
   ·rw [hx.old g (by omega)]; exact h3
   ·exact (hS g h6.lt e).2.2 h3
  ·exact hn
 keys:=hk
 wf:=hwf
 reg:=fun x hn=>by
  by_cases e:rl x=0
  ·exact .inr (hx.new x e hn)
  ·exact .inl (h.reg x e)
 lo:=fun x hx=>by
  have:=k.size
  have:=h.mod.size
  rcases hx with hx | hx
  ·have:=h.lo x hx; omega
  ·omega
 mod:=h.mod.trans k fun x hx e=>by
  have:=h.mod.size
  have:=hS x (by omega) e
  have:=h.lo x (h.reg x (by omega))
  omega
end
end Go.Proofs.YtandmpcjjaabmaaGreat
end
section
open Go Go.Den Go.Proofs
namespace Go.Den
section
variable {P:Program} {w:World}
theorem Ow.app {base k bytes l c m c2:Nat} {T ty:TypeId} {z:Value} {a:Option Addr} {ad:Addr} {xs ys:List Value} (hT:elemZ P T k z bytes) (hk:0<k) (h:Ow P w base T k a l c xs)
  (hr:Row w (some ad) ys) (hl:ys.length=m*k) (hm:0<m) (h1:∀ v∈ys,v.oneCell'=true) (h63:(l+m)*bytes<=140737488355328) (hb:0<bytes) (hbase:base<=w.heap.size) :
  ∃ q c' w',(Builtin.append_ #[T,T] ty #[.slice a l c,.slice (some ad) m c2]).run P w=.ok (.slice (some q) (l+m) c') w'/\Ow P w' base T k (some q) (l+m) c' (xs++ys)/\Mod (fun x=>∃ q,a=some q/\x=q.block) w w' /\
   ((∃ q',a=some q'/\q.block=q'.block)\/w.heap.size<=q.block):=by
 obtain ⟨a',c',w',hrun,ho,hmod⟩:=h.append' (ty:=ty) hT hk hr hl (c2:=c2) (by simp) h1 h63 hb hbase
 obtain ⟨e,i,zv,he,hi,hsz,hz,hzc,hby⟩:=hT.is
 obtain ⟨e',he',how⟩:=h
 have:e'=e:=by rw [he] at he'; simpa using he'.symm
 subst this
 have hlm:l+m<=(l+m)*bytes:=Nat.le_mul_of_pos_right _ hb
 have hmb:m*bytes<=(l+m)*bytes:=Nat.mul_le_mul_right _ (by omega)
 have hcell:∀ j u,ys[j]?=some u->w.cell? (ad.add j)=some u:=by
  intro j u hj
  rcases hr with hr | ⟨b,o,e,hat⟩
  ·subst hr; simp at hj
  ·simp at e; subst e; exact hat.cell hj
 rcases how.2 with ⟨hv,hx⟩ | ⟨g,cap,cur,hv,hbg,hg,hnc,hcm,hcs,htake⟩
 ·simp at hv
  obtain ⟨rfl,rfl,rfl⟩:=hv
  have hr2:=run_append_nil (P:=P) w T ty e' i zv he hi hz ad m c2 ys (by rw [hsz]; exact hl) hcell hm (by omega) (by rw [hby]; omega)
  have hrun':=hrun
  rw [hr2] at hrun'
  simp only [Result.ok.injEq,Value.slice.injEq] at hrun'
  obtain ⟨⟨rfl,_,_⟩,_⟩:=hrun'
  exact ⟨_,c',w',hrun,ho,hmod,.inr (Nat.le_refl _)⟩
 ·simp at hv
  obtain ⟨rfl,rfl⟩:=hv
  by_cases hroom:l+m<=c
  ·have hr2:=run_append_room (P:=P) w T ty e' i he hi g l c cur hg ad m c2 ys (by rw [hsz]; exact hl) hcell h1 hroom (by rw [hsz,hl,hcs,<- Nat.add_mul]; exact Nat.mul_le_mul_right _ hroom)
   have hrun':=hrun
   rw [hr2] at hrun'
   simp only [Result.ok.injEq,Value.slice.injEq] at hrun'
   obtain ⟨⟨rfl,_,_⟩,_⟩:=hrun'
   exact ⟨_,c',w',hrun,ho,hmod,.inl ⟨_,rfl,rfl⟩⟩
  ·have holds:∀ j u,xs[j]?=some u->w.cell? ((⟨g,0,none⟩:Addr).add j)=some u:=how.cells (g:=g) rfl
   have hr2:=run_append_grow (P:=P) w T ty e' i zv he hi hz ⟨g,0,none⟩ l c xs (by rw [hsz]; exact how.1) holds ad m c2 ys (by rw [hsz]; exact hl) hcell (by omega) (by omega) (growslice_fits (by omega) (by rw [hby]; exact h63))
   have hrun':=hrun
   rw [hr2] at hrun'
   simp only [Result.ok.injEq,Value.slice.injEq] at hrun'
   obtain ⟨⟨rfl,_,_⟩,_⟩:=hrun'
   exact ⟨_,c',w',hrun,ho,hmod,.inr (Nat.le_refl _)⟩
end
theorem gro_gro {R:Nat->Prop} {w w1 w2:World} (h1:w.heap.size<=w1.heap.size) (h2:w1.heap.size<=w2.heap.size):Gro (Gro R w w1) w1 w2=Gro R w w2:=by
 funext x
 unfold Gro
 apply propext
 constructor
 ·rintro ((h | h) | h)
  ·exact .inl h
  ·exact .inr (by omega)
  ·exact .inr (by omega)
 ·rintro (h | h)
  ·exact .inl (.inl h)
  ·by_cases hx:x<w1.heap.size
   ·exact .inl (.inr (by omega))
   ·exact .inr (by omega)
theorem Mod.anys {R:Nat->Prop} {w w1:World} (h1:Mod No w w1):Mod R w w1:=h1.mono fun _ _ h=>h.elim
end Go.Den
namespace Go.Proofs.YtandmpcjjaabmaaGreat
section
variable {w0 w w':World} {R:Nat->Prop} {rl:Nat->Nat} {c d m sb mb sc lc:Nat} {la:Option Addr} {L mp:List (Int×Value)} {C:Ca} {K:Value->World->Prop}
theorem mapCache:mapZ Tryz.prog 297=some (.pointer none):=by kernel_rfl
theorem CIn.ld (h:CIn w0 R rl w c d m sb mb sc lc la L mp C):Ru (Instr.loadAt 40 (.pointer (some (Addr.add ⟨c,0,none⟩ 0)))) w (.pointer (some ⟨d,0,none⟩)) w:=by
 rw [add_none]; exact h.cell.at.load (by kernel_rfl) rfl
theorem CIn.lmost (h:CIn w0 R rl w c d m sb mb sc lc la L mp C):Ru (Instr.loadAt 3 (.pointer (some (Addr.add ⟨c,0,none⟩ 1)))) w (.int .i64 C.most) w:=by
 rw [add_none]; exact h.cell.at.load (by kernel_rfl) rfl
theorem CIn.lm (h:CIn w0 R rl w c d m sb mb sc lc la L mp C):Ru (Instr.loadAt 297 (.pointer (some (Addr.add ⟨c,0,none⟩ 2)))) w (.map (some m)) w:=by
 rw [add_none]; exact h.cell.at.load (by kernel_rfl) rfl
theorem lrow {l0:Nat} {v0 v1 v2:Value} (h:AtU w c 0 [v0,v1,v2,.slice la l0 lc]):Ru (Instr.loadAt 64 (.pointer (some (Addr.add ⟨c,0,none⟩ 3)))) w (.slice la l0 lc) w:=by
 rw [add_none]; exact h.at.load (by kernel_rfl) rfl
theorem CIn.gro (h:CIn w0 R rl w c d m sb mb sc lc la L mp C) (k:Mod No w w'):CIn w0 (Gro R w w') rl w' c d m sb mb sc lc la L mp C :=
 (h.nos k).widen (fun x hx=>.inl hx) fun x hx=>by
  have:=k.size
  have:=h.mod.size
  rcases hx with hx | hx
  ·have:=h.lo x hx; omega
  ·omega
theorem CIn.out_of {x:Nat} (h:CIn w0 R rl w c d m sb mb sc lc la L mp C) (hx:w.heap.size<=x):rl x=0:=by
 by_cases e:rl x=0
 ·exact e
 ·have:=h.lo x (h.reg x e); omega
theorem rd_at (D:St) {b:Nat} (hb:b<D.vs.length):errOf D (b:Int)=0/\rdB D (b:Int)=atD D b:=by
 have e:errOf D (b:Int)=0:=by unfold errOf; rw [if_neg (by omega)]
 exact ⟨e,by unfold rdB atD; rw [if_pos e]⟩
theorem CIn.atLen (h:CIn w0 R rl w c d m sb mb sc lc la L mp C) {b:Nat} (hb:b<C.D.vs.length):(atD C.D b).length=256:=by
 have hv:C.D.vs[b]?=some C.D.vs[b]:=by simp [hb]
 have e:verOf C.D b=C.D.vs[b]:=by
  unfold verOf
  rw [if_neg (by omega),Int.toNat_natCast,hv]; rfl
 unfold atD
 rw [e]
 exact h.disk.wf.lastLen hv
theorem CIn.look (h:CIn w0 R rl w c d m sb mb sc lc la L mp C) {k:Int} {v:Value} (hl:lookupL mp k=some v):Ru (Instr.lookup 297 (.map (some m)) (.int .i64 k) false) w v w:=by
 have:=lookup_run (P:=Tryz.prog) mapCache h.map (k:=k)
 rwa [hl] at this
theorem lbytes {q g cc:Nat} {v:Value} (h:AtU w q 0 [.slice (some ⟨g,0,none⟩) 256 cc,v]):Ru (Instr.loadAt 55 (.pointer (some (Addr.add (Addr.add ⟨q,0,none⟩ 0) 0)))) w (.slice (some ⟨g,0,none⟩) 256 cc) w:=by
 rw [add_none,add_none]; exact h.at.load (by kernel_rfl) rfl
theorem lpins {q:Nat} {v:Value} {n:Int} (h:AtU w q 0 [v,.int .i64 n]):Ru (Instr.loadAt 3 (.pointer (some (Addr.add ⟨q,0,none⟩ 1)))) w (.int .i64 n) w:=by
 rw [add_none]; exact h.at.load (by kernel_rfl) rfl
theorem dirty_c (h:CIn w0 R rl w c d m sb mb sc lc la L mp C) {x:Bf} (hx:x∈C.l) (hk:∀ w',Mod No w w'->K (.bool (!clean C.D x)) w'):Cal Tryz.prog F_cache_Cache_dirty #[.pointer (some ⟨c,0,none⟩),.int .i64 x.b] w K:=by
 apply C_cache_Cache_dirty
 unfold D_cache_Cache_dirty
 obtain ⟨q,g,cc,b1,b2,b3,b4,b6⟩:=h.bufs x hx
 obtain ⟨r1,r2⟩:=rd_at C.D (h.wf.lt x hx)
 have hal:=h.atLen (h.wf.lt x hx)
 have hxl:=h.wf.data x hx
 refine ⟨_,rfl,_,h.ld,Read_c h.disk h.wf.small fun w1 a1 c1 m1 f1=>?_⟩
 rw [r2] at f1 |-
 rw [r1,hal]
 refine ⟨_,_,_,_,rfl,_,rfl,some m,(h.nos m1).lm,_,(h.nos m1).look b1,_,rfl,_,_,_,lbytes (b4.keep m1 id),?_⟩
 refine Diff_c hal hxl (by omega) f1.row (.inr ⟨_,_,rfl,b6.keep m1 id⟩) fun w2 f la' m2 hf=>⟨_,_,rfl,?_⟩
 have e:(decide (f >= 0))=!clean C.D x:=by
  unfold clean
  by_cases he:x.data=atD C.D x.b
  ·have:¬ 0<=f:=fun h=>(hf.1 h) he.symm
   simp [he]; omega
  ·have:0<=f:=hf.2 fun e=>he e.symm
   simp [he]; omega
 rw [e]
 exact hk w2 (m1.no m2)
theorem box_int (w:World) (n:Int):(Instr.box 3 (.int .i64 n)).run Tryz.prog w=.ok (.pointer (some ⟨w.heap.size,0,none⟩)) (w.alloc (.cells ⟨[.int .i64 n]⟩ 3)):=rfl
theorem box_cache (w:World) (p:Option Addr):(Instr.box 233 (.pointer p)).run Tryz.prog w=.ok (.pointer (some ⟨w.heap.size,0,none⟩)) (w.alloc (.cells ⟨[.pointer p]⟩ 233)):=rfl
theorem apart {rl:Nat->Nat} {a b i j:Nat} (h1:rl a=i) (h2:rl b=j) (h:i≠j):a≠b:=fun e=>h (by rw [<- h1,<- h2,e])
theorem tells_out {S:Nat->Prop} {q b:Nat} {xs:List Int} (hat:At w q 0 [.int .i64 b]) (hS:¬ S q):Tells (.func (.func F_cache_Cache_out_1) #[] #[.pointer (some ⟨q,0,none⟩)]) w S (fun k=>k==(b:Int)) xs:=by
 intro w' m x _ K hK
 refine ⟨_,_,_,rfl,?_⟩
 show Cal Tryz.prog F_cache_Cache_out_1 #[.int .i64 x,.pointer (some ⟨q,0,none⟩)] w' K
 apply C_cache_Cache_out_1
 exact ⟨_,(hat.keep m hS).load (i:=0) (by kernel_rfl) rfl,hK w' (Mod.refl _ _)⟩
theorem tells_ask {S:Nat->Prop} {q b:Nat} {xs:List Int} (hat:At w q 0 [.int .i64 b]) (hS:¬ S q):Tells (.func (.func F_cache_Cache_ask_1) #[] #[.pointer (some ⟨q,0,none⟩)]) w S (fun k=>k==(b:Int)) xs:=by
 intro w' m x _ K hK
 refine ⟨_,_,_,rfl,?_⟩
 show Cal Tryz.prog F_cache_Cache_ask_1 #[.int .i64 x,.pointer (some ⟨q,0,none⟩)] w' K
 apply C_cache_Cache_ask_1
 exact ⟨_,(hat.keep m hS).load (i:=0) (by kernel_rfl) rfl,hK w' (Mod.refl _ _)⟩
theorem filter_others (l:List Bf) (b:Nat):((nums l).filter fun x=>!(x==(b:Int)))=nums (others l b):=by
 rw [nums_others]
 apply List.filter_congr
 intro x _
 congr 1
theorem nums_len (l:List Bf):(nums l).length=l.length:=by simp [nums]
theorem row_less {q b:Nat} {f:FuncId} (h:CIn w0 R rl w c d m sb mb sc lc la L mp C)
  (ht:Tells (.func (.func f) #[] #[.pointer (some ⟨q,0,none⟩)]) w (Of la) (fun k=>k==(b:Int)) (nums C.l))
  (hk:∀ w',Ow Tryz.prog w' w0.heap.size 64 1 la (others C.l b).length lc (iL (nums (others C.l b)))->Mod (Of la) w w'->K (.slice la (others C.l b).length lc) w') :
  Cal Tryz.prog F_slices_DeleteFunc_int #[.slice la C.l.length lc,.func (.func f) #[] #[.pointer (some ⟨q,0,none⟩)]] w K:=by
 have h1:=h.wf.len
 have h2:=h.wf.most1
 refine DeleteFunc_c h.row (by omega) ht fun w' l' o hl' m'=>?_
 rw [filter_others] at o hl'
 rw [nums_len] at hl'
 subst hl'
 exact hk w' o m'
theorem CIn.of3 (h:CIn w0 R rl w c d m sb mb sc lc la L mp C) {x:Nat} (hx:Of la x):rl x=3:=by
 obtain ⟨q,hq,rfl⟩:=hx
 exact h.rrow q hq
def S123 (rl:Nat->Nat):Nat->Prop:=fun x=>rl x=1\/rl x=2\/rl x=3
set_option maxRecDepth 100000 in
theorem out_c (h:CIn w0 R rl w c d m sb mb sc lc la L mp C) {b:Nat}
  (hk:∀ w' mp',CIn w0 (Gro R w w') rl w' c d m sb mb sc lc la L mp' { C with l:=others C.l b }->Mod R w w'->K (.tuple #[]) w'):Cal Tryz.prog F_cache_Cache_out #[.pointer (some ⟨c,0,none⟩),.int .i64 b] w K:=by
 apply C_cache_Cache_out
 unfold D_cache_Cache_out
 have m1:Mod No w (w.alloc (.cells ⟨[.int .i64 b]⟩ 3)):=(Mod.refl No w).alloc _
 have h1:=(h.nos m1).drew
 have hq:At (drew (w.alloc (.cells ⟨[.int .i64 b]⟩ 3))) w.heap.size 0 [.int .i64 b]:=AtU.new.at.drew
 have hsz:(drew (w.alloc (.cells ⟨[.int .i64 b]⟩ 3))).heap.size=w.heap.size+1:=by simp
 refine ⟨_,_,box_int _ _,_,rfl,some m,h1.lm,_,hq.load (i:=0) (by kernel_rfl) rfl,?_⟩
 have m1':Mod No w (drew (w.alloc (.cells ⟨[.int .i64 b]⟩ 3))):=m1.drew
 generalize hW:drew (w.alloc (.cells ⟨[.int .i64 b]⟩ 3))=w1 at *
 have hq0:=h.out_of (x:=w.heap.size) (Nat.le_refl _)
 obtain ⟨w2,s1,s2,s3,s4⟩:=delete_run (P:=Tryz.prog) (T2:=325) (ty:=0) (k:=(b:Int)) mapCache h1.map
 have hc2:=h1.cell.keep s3 (apart h1.rc h1.rm (by omega))
 refine ⟨w2,s1,_,rfl,_,_,_,lrow hc2,?_⟩
 have hrow2:=h1.row.keep s3 fun q hq'=>apart (h1.rrow q hq') h1.rm (by omega)
 have hq2:=hq.keep s3 (apart hq0 h1.rm (by omega))
 have hl1:=h1.wf.len
 have hl2:=h1.wf.most1
 refine DeleteFunc_c hrow2 (by omega) (tells_out hq2 fun e=>by have:=h1.of3 e; omega) fun w3 l3 o3 hl3 m3=>⟨_,_,_,rfl,_,rfl,?_⟩
 rw [filter_others] at o3 hl3
 rw [nums_len] at hl3
 subst hl3
 have hc3:=hc2.keep m3 fun e=>by have:=h1.of3 e; have:=h1.rc; omega
 obtain ⟨w4,t1,t2,t3,t4⟩:=hc3.store (P:=Tryz.prog) (T:=64) (i:=3) (v:=.slice la (others C.l b).length lc) (by kernel_rfl) (by simp) rfl
 refine ⟨w4,by rw [add_none]; exact t1,?_⟩
 have M:Mod (S123 rl) w w4:=((m1'.anys.trans (S':=S123 rl) (s3.mono fun x _ e=>.inr (.inl (by rw [e]; exact h.rm))) fun _ _ e=>e).trans (m3.mono fun x _ e=>.inr (.inr (h1.of3 e))) fun _ _ e=>e).trans (t3.mono fun x _ e=>.inl (by rw [e]; exact h.rc)) fun _ _ e=>e
 refine hk w4 (delL b mp) ?_ (M.mono fun x _ e=>h.reg x (by unfold S123 at e; omega))
 refine h.step M (Ext.refl _ _ _) (fun x _ e=>by unfold S123 at e; omega) (by simpa using t2) ((s2.keep m3 fun e=>by have:=h1.of3 e; have:=h1.rm; omega).keep t3 (apart h1.rm h1.rc (by omega)))
  (o3.keep t3 fun q hq'=>apart (h1.rrow q hq') h1.rc (by omega)) h.rrow (fun x hx=>.inl ⟨(mem_others.1 hx).1,?_,fun q e=>by unfold S123 at e; omega⟩) (fun p hp=>?_) (h.wf.out b)
 ·rw [look_del,if_neg (by have:=(mem_others.1 hx).2; omega)]
 ·obtain ⟨hp1,hp2⟩:=del_mem.1 hp
  obtain ⟨x,hx,e⟩:=h.keys p hp1
  exact ⟨x,mem_others.2 ⟨hx,by omega⟩,e⟩
end
end Go.Proofs.YtandmpcjjaabmaaGreat
end
section
open Go Go.Den Go.Proofs
namespace Go.Proofs.YtandmpcjjaabmaaGreat
section
variable {w0 w w':World} {R:Nat->Prop} {rl:Nat->Nat} {c d m sb mb sc lc:Nat} {la:Option Addr} {L mp:List (Int×Value)} {C:Ca} {K:Value->World->Prop}
def pI (C:Ca) (k:Int):Bool:=match findB C.l k.toNat with | some x=>idleB C.D x | none=>false
theorem pI_mem (h:WFC C) {x:Bf} (hx:x∈C.l):pI C (x.b:Int)=idleB C.D x:=by
 unfold pI; rw [Int.toNat_natCast,findB_mem h.nodup hx]
theorem tells_room {q:Nat} (h:CIn w0 R rl w c d m sb mb sc lc la L mp C) (hq:At w q 0 [.pointer (some ⟨c,0,none⟩)]):Tells (.func (.func F_cache_Cache_room_1) #[] #[.pointer (some ⟨q,0,none⟩)]) w No (pI C) (nums C.l):=by
 intro w' k xk hx K hK
 unfold nums at hx
 obtain ⟨y,hy,rfl⟩:=List.mem_map.1 hx
 refine ⟨_,_,_,rfl,?_⟩
 show Cal Tryz.prog F_cache_Cache_room_1 #[.int .i64 y.b,.pointer (some ⟨q,0,none⟩)] w' K
 apply C_cache_Cache_room_1
 unfold D_cache_Cache_room_1
 have h':=h.nos k
 have hq':=(hq.keep k id).load (P:=Tryz.prog) (T:=233) (i:=0) (v:=.pointer (some ⟨c,0,none⟩)) (by kernel_rfl) rfl
 obtain ⟨q2,g,cc,b1,b2,b3,b4,b6⟩:=h'.bufs y hy
 refine Share.cut (fun z w2=>z=[.bool (idleB C.D y)]/\Mod No w' w2) ⟨_,hq',_,rfl,some m,h'.lm,_,h'.look b1,_,rfl,_,lpins b4,cond_of (fun hb=>?_) (fun hb=>?_)⟩ ?_
 ·have hp:y.pins=0:=by simpa using hb
  exact ⟨_,hq',dirty_c h' hy fun w2 m2=>⟨_,rfl,by simp [idleB,hp],m2⟩⟩
 ·have hp:¬ y.pins=0:=by simpa using hb
  exact ⟨by simp [idleB,hp],Mod.refl _ _⟩
 ·rintro z w2 ⟨rfl,m2⟩
  refine ⟨_,rfl,?_⟩
  have:=hK w2 m2
  rwa [pI_mem h.wf hy] at this
theorem nums_get {l:List Bf} {j:Nat} {k:Int} (h:(nums l)[j]?=some k):∃ x,l[j]?=some x/\k=(x.b:Int):=by
 unfold nums at h
 rw [List.getElem?_map] at h
 cases hx:l[j]? with
 | none=>rw [hx] at h; cases h
 | some x=>rw [hx] at h; exact ⟨x,rfl,(Option.some.inj h).symm⟩
theorem find_idx (h:WFC C):(idxF (pI C) (nums C.l) 0=-1/\C.l.find? (idleB C.D)=none)\/∃ (j:Nat) (x:Bf),idxF (pI C) (nums C.l) 0=(j:Int)/\C.l[j]?=some x/\C.l.find? (idleB C.D)=some x:=by
 rcases idxF_cases (pI C) (nums C.l) 0 with ⟨e,hno⟩ | ⟨j,k,e,hj,hp,hbef⟩
 ·refine .inl ⟨e,List.find?_eq_none.2 fun x hx=>?_⟩
  have:=hno (x.b:Int) (List.mem_map.2 ⟨x,hx,rfl⟩)
  rw [pI_mem h hx] at this
  rw [this]; simp
 ·obtain ⟨x,hx,rfl⟩:=nums_get hj
  have hxm:=List.mem_of_getElem? hx
  obtain ⟨hlt,hxe⟩:=List.getElem?_eq_some_iff.1 hx
  refine .inr ⟨j,x,by rw [e,Nat.zero_add],hx,?_⟩
  rw [pI_mem h hxm] at hp
  refine List.find?_eq_some_iff_append.2 ⟨hp,C.l.take j,C.l.drop (j+1),?_,fun y hy=>?_⟩
  ·conv=>lhs; rw [<- List.take_append_drop j C.l,List.drop_eq_getElem_cons hlt,hxe]
  ·have hyl:=List.mem_of_mem_take hy
   have:=hbef (y.b:Int) (by unfold nums; rw [<- List.map_take]; exact List.mem_map.2 ⟨y,hy,rfl⟩)
   rw [pI_mem h hyl] at this
   rw [this]; rfl
theorem room_c (h:CIn w0 R rl w c d m sb mb sc lc la L mp C)
  (hk1:∀ C',roomC C=some C'->∀ w' mp',CIn w0 (Gro R w w') rl w' c d m sb mb sc lc la L mp' C'->Mod R w w'->K (.int .i64 0) w')
  (hk2:roomC C=none->∀ w',Mod No w w'->K (.int .i64 5) w'):Cal Tryz.prog F_cache_Cache_room #[.pointer (some ⟨c,0,none⟩)] w K:=by
 apply C_cache_Cache_room
 unfold D_cache_Cache_room
 have m1:Mod No w (drew (w.alloc (.cells ⟨[.pointer (some ⟨c,0,none⟩)]⟩ 233))):=((Mod.refl No w).alloc _).drew
 have hq:At (drew (w.alloc (.cells ⟨[.pointer (some ⟨c,0,none⟩)]⟩ 233))) w.heap.size 0 [.pointer (some ⟨c,0,none⟩)]:=AtU.new.at.drew
 have h1:=h.nos m1
 refine ⟨_,_,box_cache _ _,?_⟩
 generalize hW:drew (w.alloc (.cells ⟨[.pointer (some ⟨c,0,none⟩)]⟩ 233))=w1 at *
 have lq:∀ {w2:World},Mod No w1 w2->Ru (Instr.loadAt 233 (.pointer (some ⟨w.heap.size,0,none⟩))) w2 (.pointer (some ⟨c,0,none⟩)) w2:=fun k=>(hq.keep k id).load (i:=0) (by kernel_rfl) rfl
 have hl1:=h.wf.len
 have hl2:=h.wf.most1
 refine ⟨_,lq (Mod.refl _ _),_,rfl,_,_,_,lrow h1.cell,_,lq (Mod.refl _ _),_,rfl,_,h1.lmost,cond_of (fun hb=>?_) (fun hb=>?_)⟩
 ·have hlt:C.l.length<C.most:=by have:=of_decide_eq_true hb; omega
  exact hk1 C (by unfold roomC; rw [if_pos hlt]) w1 mp (h.gro m1) m1.anys
 ·have hge:¬ C.l.length<C.most:=by have:=of_decide_eq_false hb; omega
  refine ⟨_,lq (Mod.refl _ _),_,rfl,_,_,_,lrow h1.cell,IndexFunc_c (S:=No) (nums_len _) (by omega) h1.row.rowU.row (tells_room h1 hq) fun w2 m2=>⟨_,rfl,?_⟩⟩
  rcases find_idx h.wf with ⟨e,hf⟩ | ⟨j,x,e,hx,hf⟩
  ·rw [e]
   refine tt rfl (hk2 ?_ w2 (m1.no m2))
   unfold roomC; rw [if_neg hge,hf]; rfl
  ·rw [e]
   have hlt:=(List.getElem?_eq_some_iff.1 hx).1
   have m2':=m2.drew
   have h2:=h1.nos m2'
   have hrow:=h2.row.rowU.row
   obtain ⟨b2,o2,hla,hat⟩:=row_some (i:=j) hrow (by rw [nums_len]; exact hlt)
   subst hla
   refine ff (by simp) ⟨_,lq m2',_,lq m2',_,rfl,_,_,_,lrow h2.cell,_,index_slice (k:=1) (by kernel_rfl) (by omega) (by omega),?_⟩
   rw [add_none,show (j:Int).toNat*1=j by omega]
   have hv:(iL (nums C.l))[j]?=some (.int .i64 x.b):=by simp [iL,nums,hx,I]
   refine ⟨_,hat.load (by kernel_rfl) hv,out_c h2 fun w3 mp' h3 m3=>⟨rfl,?_⟩⟩
   have M:Mod No w (drew w2):=m1.no m2'
   refine hk1 _ (by unfold roomC; rw [if_neg hge,hf]; rfl) w3 mp' (h3.widen (fun y hy=>?_) fun y hy=>?_) (M.anys.trans m3 fun y hy e=>e)
   ·have:=M.size
    rcases hy with hy | hy
    ·exact .inl hy
    ·exact .inr (by omega)
   ·have:=M.size
    have:=m3.size
    have:=h.mod.size
    rcases hy with hy | hy
    ·have:=h.lo y hy; omega
    ·omega
theorem ask_end {S:World->Prop} {w3:World} {z b:Nat} {x:Bf} (h:CIn w0 R rl w c d m sb mb sc lc la L mp C) (M:Mod (Of la) w w3)
  (o3:Ow Tryz.prog w3 w0.heap.size 64 1 la (others C.l b).length lc (iL (nums (others C.l b)))) (hz:At w3 z 0 [.int .i64 b]) (hx:x∈C.l) (hxb:x.b=b)
  (hk:∀ w' rl' lc' la',CIn w0 (Gro R w w') rl' w' c d m sb mb sc lc' la' L mp { C with l:=others C.l b++[x] }->Mod R w w'->S w') :
  ∃ (a31:Option Addr) (l31 c31:Nat),∃ w4:World,Ru (Builtin.append_ #[64,64] 64 #[.slice la (others C.l b).length lc,.slice (some ⟨z,0,none⟩) 1 1]) w3 (.slice a31 l31 c31) w4/\∃ q32:Addr,(.pointer (some ⟨c,0,none⟩):Value)=.pointer (some q32) /\
   ∃ w5:World,RuU (Instr.storeAt 64 (.pointer (some (Addr.add q32 3))) (.slice a31 l31 c31)) w4 w5/\S w5:=by
 have hl1:=h.wf.len
 have hl2:=h.wf.most1
 have hol:=others_len C.l b
 have hzM:=M.size
 have hw0:=h.mod.size
 obtain ⟨q',c',w4,s1,s2,s3,s4⟩:=o3.app (ty:=64) (m:=1) (c2:=1) (ad:=⟨z,0,none⟩) (ys:=[.int .i64 b]) elemZ_ints (by omega) (.inr ⟨_,_,rfl,hz⟩) rfl (by omega) (by simp; rfl) (by omega) (by omega) (by omega)
 refine ⟨_,_,_,w4,s1,_,rfl,?_⟩
 have s3':Mod (Of la) w3 w4:=s3
 have hc4:=(h.cell.keep M fun e=>by have:=h.of3 e; have:=h.rc; omega).keep s3' fun e=>by have:=h.of3 e; have:=h.rc; omega
 obtain ⟨w5,t1,t2,t3,t4⟩:=hc4.store (P:=Tryz.prog) (T:=64) (i:=3) (v:=.slice (some q') ((others C.l b).length+1) c') (by kernel_rfl) (by simp) rfl
 refine ⟨w5,by rw [add_none]; exact t1,?_⟩
 have hzs:=s3'.size
 have hzt:=t3.size
 have M4:Mod (Of la) w w4:=M.trans s3' fun _ _ e=>e
 have M5:Mod (S123 rl) w w5:=(M4.mono fun x _ e=>.inr (.inr (h.of3 e))).trans t3 fun x _ e=>.inl (by rw [e]; exact h.rc)
 have hnew:rl q'.block=3\/(w.heap.size<=q'.block/\q'.block<w5.heap.size/\rl q'.block=0):=by
  rcases s4 with ⟨q2,hq2,e⟩ | e
  ·left; rw [e]; exact h.rrow q2 hq2
  ·right
   have:=(s2.base (q:=q') rfl).2
   exact ⟨by omega,by omega,h.out_of (by omega)⟩
 refine hk w5 (ro rl q'.block 3) c' (some q') ?_ (M5.mono fun x _ e=>h.reg x (by unfold S123 at e; omega))
 have hlen:(others C.l b++[x]).length=(others C.l b).length+1:=by simp
 have hnum:iL (nums (others C.l b))++[.int .i64 b]=iL (nums (others C.l b++[x])):=by simp [nums,iL,I,hxb]
 subst hxb
 refine h.step M5 ((Ext.refl _ _ _).ro hnew (by omega) (by omega)) (fun y _ e=>by unfold S123 at e; omega) ?_ (((h.map.keep M4 fun e=>by have:=h.of3 e; have:=h.rm; omega)).keep t3 (apart h.rm h.rc (by omega))) ?_
  (fun q hq=>by have:=Option.some.inj hq; subst this; exact ro_same _ _ _) (fun y hy=>.inl ⟨?_,rfl,fun q e=>by unfold S123 at e; omega⟩) (fun p hp=>?_) (h.wf.move hx)
 ·rw [hlen]; simpa using t2
 ·rw [hlen,<- hnum]
  refine s2.keep t3 fun q hq e=>?_
  have:=Option.some.inj hq
  subst this
  have hrc:=h.rc
  rcases hnew with hn | ⟨_,_,hn⟩
  ·rw [e] at hn; omega
  ·rw [e] at hn; omega
 ·rcases List.mem_append.1 hy with hy | hy
  ·exact (mem_others.1 hy).1
  ·simp at hy; subst hy; exact hx
 ·obtain ⟨y,hy,e⟩:=h.keys p hp
  by_cases hyx:y.b=x.b
  ·exact ⟨x,by simp,by rw [e,hyx]⟩
  ·exact ⟨y,List.mem_append.2 (.inl (mem_others.2 ⟨hy,hyx⟩)),e⟩
end
end Go.Proofs.YtandmpcjjaabmaaGreat
end
section
open Go Go.Den Go.Proofs
namespace Go.Proofs.YtandmpcjjaabmaaGreat
section
variable {w0 w w':World} {R:Nat->Prop} {rl:Nat->Nat} {c d m sb mb sc lc:Nat} {la:Option Addr} {L mp:List (Int×Value)} {C:Ca} {K:Value->World->Prop}
def Cq (w0:World) (R:Nat->Prop) (w:World) (c d b q:Nat) (C:Ca):Prop :=
 ∃ rl m sb mb sc lc la L mp,CIn w0 R rl w c d m sb mb sc lc la L mp C/\lookupL mp (b:Int)=some (.pointer (some ⟨q,0,none⟩))
def Cx (w0:World) (R:Nat->Prop) (w:World) (c d:Nat) (C:Ca):Prop:=∃ rl m sb mb sc lc la L mp,CIn w0 R rl w c d m sb mb sc lc la L mp C
theorem build_bytes (w:World) (a:Option Addr) (l cc:Nat):(Instr.build 307 #[(0,.slice a l cc)]).run Tryz.prog w=.ok (.agg ⟨[.slice a l cc]⟩) w:=by kernel_rfl
theorem build_buffer (w:World) (a:Option Addr) (l cc:Nat):(Instr.build 309 #[(0,.agg ⟨[.slice a l cc]⟩)]).run Tryz.prog w=.ok (.agg ⟨[.slice a l cc,.int .i64 0]⟩) w:=by kernel_rfl
theorem box_buffer (w:World) (cs:List Value):(Instr.box 309 (.agg ⟨cs⟩)).run Tryz.prog w=.ok (.pointer (some ⟨w.heap.size,0,none⟩)) (w.alloc (.cells ⟨cs⟩ 309)):=rfl
theorem CIn.noKey (h:CIn w0 R rl w c d m sb mb sc lc la L mp C) {b:Nat} (hf:findB C.l b=none):lookupL mp (b:Int)=none:=by
 cases hl:lookupL mp (b:Int) with
 | none=>rfl
 | some v =>
  obtain ⟨x,hx,e⟩:=h.keys _ (look_mem hl)
  have e':(b:Int)=x.b:=e
  exact absurd (by omega) (findB_none hf x hx)
set_option maxRecDepth 100000 in
theorem ask_c (h:CIn w0 R rl w c d m sb mb sc lc la L mp C) {b:Nat} (hb:b<C.D.vs.length)
  (hk1:∀ C',askC C b=some C'->∀ w' q,Cq w0 (Gro R w w') w' c d b q C'->Mod R w w'->K (.tuple #[.pointer (some ⟨q,0,none⟩),.int .i64 0]) w')
  (hk2:askC C b=none->∀ w',Mod No w w'->K (.tuple #[.pointer none,.int .i64 5]) w'):Cal Tryz.prog F_cache_Cache_ask #[.pointer (some ⟨c,0,none⟩),.int .i64 b] w K:=by
 apply C_cache_Cache_ask
 unfold D_cache_Cache_ask
 have m1:Mod No w (drew (w.alloc (.cells ⟨[.int .i64 b]⟩ 3))):=((Mod.refl No w).alloc _).drew
 have hq:At (drew (w.alloc (.cells ⟨[.int .i64 b]⟩ 3))) w.heap.size 0 [.int .i64 b]:=AtU.new.at.drew
 have h1:=h.nos m1
 have hz0:=h.out_of (x:=w.heap.size) (Nat.le_refl _)
 refine ⟨_,_,box_int _ _,_,rfl,some m,h1.lm,_,hq.load (i:=0) (by kernel_rfl) rfl,?_⟩
 have hsz1:(drew (w.alloc (.cells ⟨[.int .i64 b]⟩ 3))).heap.size=w.heap.size+1:=by simp
 generalize hW:drew (w.alloc (.cells ⟨[.int .i64 b]⟩ 3))=w1 at *
 have hlk:=look2_run (P:=Tryz.prog) mapCache h1.map (k:=(b:Int))
 cases hf:findB C.l b with
 | some x =>
  obtain ⟨hx,hxb⟩:=findB_some hf
  obtain ⟨q,g,cc,b1,b2,b3,b4,b6⟩:=h.bufs x hx
  rw [hxb] at b1
  rw [b1] at hlk
  have hask:askC C b=some { C with l:=others C.l b++[x] }:=by unfold askC; rw [hf]
  have h2:=h1.drew
  have m2:Mod No w (drew w1):=m1.drew
  have lz:∀ {w2:World},Mod (Of la) (drew w1) w2->At w2 w.heap.size 0 [.int .i64 b]:=fun k=>hq.drew.keep k fun e=>by have:=h.of3 e; omega
  have fin:∀ w' rl' lc' la',CIn w0 (Gro R w w') rl' w' c d m sb mb sc lc' la' L mp { C with l:=others C.l b++[x] }->Mod R w w'->K (.tuple #[.pointer (some ⟨q,0,none⟩),.int .i64 0]) w' :=
   fun w' rl' lc' la' hC hM=>hk1 _ hask w' q ⟨rl',m,sb,mb,sc,lc',la',L,mp,hC,b1⟩ hM
  refine ⟨some ⟨q,0,none⟩,true,hlk,tt rfl ⟨_,rfl,_,_,_,lrow h2.cell,_,(lz (Mod.refl _ _)).load (i:=0) (by kernel_rfl) rfl,?_,?_⟩⟩
  ·refine row_less h2 (tells_ask (lz (Mod.refl _ _)) fun e=>by have:=h.of3 e; omega) fun w3 o3 m3=>⟨_,_,_,rfl,(lz m3).load (i:=0) (by kernel_rfl) rfl,_,_,_,_,builtI _ _,?_,?_⟩
   ·exact lrow ((h2.cell.keep m3 fun e=>by have:=h.of3 e; have:=h.rc; omega).keep (S:=No) ((Mod.refl No w3).alloc _) id)
   ·have m4:Mod No w3 (w3.alloc (.cells ⟨[.int .i64 b]⟩ 3)):=(Mod.refl No w3).alloc _
    exact ask_end (S:=fun w'=>K (.tuple #[.pointer (some ⟨q,0,none⟩),.int .i64 0]) w') h ((m2.anys.trans m3 fun _ _ e=>e).no m4) (o3.nos m4) AtU.new.at hx hxb fin
  ·have m3:Mod No (drew w1) ((drew w1).alloc (.cells ⟨[.int .i64 b]⟩ 3)):=(Mod.refl No _).alloc _
   have h3:=h2.nos m3
   have hz3:At ((drew w1).alloc (.cells ⟨[.int .i64 b]⟩ 3)) (drew w1).heap.size 0 [.int .i64 b]:=AtU.new.at
   have hzq:=h1.out_of (x:=(drew w1).heap.size) (Nat.le_refl _)
   refine ⟨_,_,_,_,builtI _ _,lrow h3.cell,row_less h3 (tells_ask (lz m3.anys) fun e=>by have:=h.of3 e; omega) fun w4 o4 m4=>⟨_,_,_,rfl,(lz (m3.anys.trans m4 fun _ _ e=>e)).load (i:=0) (by kernel_rfl) rfl,?_⟩⟩
   exact ask_end (S:=fun w'=>K (.tuple #[.pointer (some ⟨q,0,none⟩),.int .i64 0]) w') h ((m2.no m3).anys.trans m4 fun _ _ e=>e) o4 (hz3.keep m4 fun e=>by have:=h.of3 e; omega) hx hxb fin
 | none =>
  rw [h.noKey hf] at hlk
  refine ⟨none,false,hlk,ff rfl ?_⟩
  refine room_c h1 (fun C' hr w10 mp' h10 m10=>⟨_,rfl,ff rfl ?_⟩) fun hr w10 m10=>⟨_,rfl,tt rfl (hk2 (by unfold askC; rw [hf]; simp only [hr]; rfl) w10 (m1.no m10))⟩
  have hroom:C'.D=C.D/\(∀ x∈C'.l,x∈C.l)/\C'.l.length<C'.most:=by
   unfold roomC at hr
   split at hr
   ·rename_i hl
    have:=Option.some.inj hr
    subst this
    exact ⟨rfl,fun x hx=>hx,hl⟩
   ·cases hfi:C.l.find? (idleB C.D) with
    | none=>rw [hfi] at hr; cases hr
    | some z =>
     rw [hfi] at hr
     have:=Option.some.inj hr
     subst this
     have:=others_lt (List.mem_of_find?_eq_some hfi)
     have:=h.wf.len
     exact ⟨rfl,fun x hx=>(mem_others.1 hx).1,by show (others C.l z.b).length<C.most; omega⟩
  obtain ⟨hD,hsub,hlt⟩:=hroom
  have hask:askC C b=some { C' with l:=C'.l++[⟨b,atD C.D b,0⟩] }:=by unfold askC; rw [hf]; simp only [hr]; rfl
  have hno:∀ y∈C'.l,y.b≠b:=fun y hy=>findB_none hf y (hsub y hy)
  have hb':b<C'.D.vs.length:=by rw [hD]; exact hb
  have hl1:=h10.wf.len
  have hl2:=h10.wf.most1
  have hqR:¬ R w.heap.size:=fun e=>by have:=(h.lo _ e).2; omega
  have hq10:=hq.keep m10 hqR
  have hlq10:=hq10.lt
  obtain ⟨r1,r2⟩:=rd_at C'.D hb'
  have hal:=h10.atLen hb'
  refine ⟨_,rfl,_,h10.drew.ld,_,hq10.drew.load (i:=0) (by kernel_rfl) rfl,Read_c h10.drew.disk h10.wf.small fun w11 a cc m11 f11=>?_⟩
  rw [r2] at f11 |-
  rw [r1,hal]
  rcases f11 with ⟨_,e⟩ | ⟨g,rfl,hg,hat⟩
  ·rw [e] at hal; cases hal
  have hgl:=hat.lt
  refine ⟨_,_,_,_,rfl,ff rfl ⟨_,fun w=>build_bytes w _ _ _,_,fun w=>build_buffer w _ _ _,_,_,box_buffer _ _,_,rfl,some m,?_⟩⟩
  have m12:Mod No w11 (drew (w11.alloc (.cells ⟨[.slice (some ⟨g,0,none⟩) 256 cc,.int .i64 0]⟩ 309))):=((Mod.refl No w11).alloc _).drew
  have hbuf:AtU (drew (w11.alloc (.cells ⟨[.slice (some ⟨g,0,none⟩) 256 cc,.int .i64 0]⟩ 309))) w11.heap.size 0 [.slice (some ⟨g,0,none⟩) 256 cc,.int .i64 0]:=AtU.new.drew
  have hsz12:(drew (w11.alloc (.cells ⟨[.slice (some ⟨g,0,none⟩) 256 cc,.int .i64 0]⟩ 309))).heap.size=w11.heap.size+1:=by simp
  generalize hW12:drew (w11.alloc (.cells ⟨[.slice (some ⟨g,0,none⟩) 256 cc,.int .i64 0]⟩ 309))=w12 at *
  have M12:Mod No w10 w12:=((Mod.refl No w10).drew.no m11).no m12
  have h12:=h10.nos M12
  have hs11:=m11.size
  have hs10d:(drew w10).heap.size=w10.heap.size:=rfl
  have hq12:=hq10.keep M12 id
  have hzz:=h10.out_of (x:=w12.heap.size)
  obtain ⟨w13,s1,s2,s3,s4⟩:=update_run (P:=Tryz.prog) (k:=(b:Int)) (v:=.pointer (some ⟨w11.heap.size,0,none⟩)) mapCache h12.map
  have hrm:=h12.rm
  have hrc:=h12.rc
  have hbR:rl w11.heap.size=0:=h10.out_of (by omega)
  have hgR:rl g=0:=h10.out_of (by omega)
  have hc13:=h12.cell.keep s3 (apart hrc hrm (by omega))
  have hrlq:rl w.heap.size=0:=hz0
  have hq13:=hq12.keep s3 (apart hrlq hrm (by omega))
  refine ⟨h12.lm,_,hq12.load (i:=0) (by kernel_rfl) rfl,w13,s1,_,rfl,_,_,_,lrow hc13.drew,_,hq13.drew.load (i:=0) (by kernel_rfl) rfl,_,_,_,_,builtI _ _,?_⟩
  have m14:Mod No w13 ((drew w13).alloc (.cells ⟨[.int .i64 b]⟩ 3)):=(Mod.refl No w13).drew.no ((Mod.refl No _).alloc _)
  have hnew14:At ((drew w13).alloc (.cells ⟨[.int .i64 b]⟩ 3)) (drew w13).heap.size 0 [.int .i64 b]:=AtU.new.at
  generalize hW14:(drew w13).alloc (.cells ⟨[.int .i64 b]⟩ 3)=w14 at *
  have hrow14:=(h12.row.keep s3 fun q hq'=>apart (h12.rrow q hq') hrm (by omega)).nos m14
  have hs14:=m14.size
  have hw0:=h10.mod.size
  have hs12:=M12.size
  obtain ⟨q',c',w15,t1,t2,t3,t4⟩:=hrow14.app (ty:=64) (m:=1) (c2:=1) (ad:=⟨(drew w13).heap.size,0,none⟩) (ys:=[.int .i64 b]) elemZ_ints (by omega) (.inr ⟨_,_,rfl,hnew14⟩) rfl (by omega) (by simp; rfl) (by omega) (by omega) (by omega)
  have t3':Mod (Of la) w14 w15:=t3
  have hc15:=(hc13.keep m14 id).keep t3' fun e=>by have:=h12.of3 e; omega
  refine ⟨lrow (hc13.keep m14 id),_,_,_,w15,t1,_,rfl,?_⟩
  obtain ⟨w16,u1,u2,u3,u4⟩:=hc15.store (P:=Tryz.prog) (T:=64) (i:=3) (v:=.slice (some q') (C'.l.length+1) c') (by kernel_rfl) (by simp) rfl
  refine ⟨w16,by rw [add_none]; exact u1,?_⟩
  have M13:Mod (S123 rl) w10 w13:=M12.anys.trans (s3.mono fun x _ e=>.inr (.inl (by rw [e]; exact hrm))) fun _ _ e=>e
  have M15:Mod (S123 rl) w10 w15:=(M13.no m14).trans (t3'.mono fun x _ e=>.inr (.inr (h12.of3 e))) fun _ _ e=>e
  have M16:Mod (S123 rl) w10 w16:=M15.trans (u3.mono fun x _ e=>.inl (by rw [e]; exact hrc)) fun _ _ e=>e
  have hs15:=t3'.size
  have hs16:=u3.size
  have hs13:=s3.size
  have hq'lt:=(t2.base (q:=q') rfl).2
  have hq'new:rl q'.block=3\/(w13.heap.size<=q'.block/\rl q'.block=0):=by
   rcases t4 with ⟨q2,hq2,e⟩ | e
   ·left; rw [e]; exact h12.rrow q2 hq2
   ·right; exact ⟨by omega,h10.out_of (by omega)⟩
  have hq'g:q'.block≠g:=fun e=>by
   rcases hq'new with hn | ⟨hn,_⟩
   ·rw [e] at hn; omega
   ·omega
  have hq'b:q'.block≠w11.heap.size:=fun e=>by
   rcases hq'new with hn | ⟨hn,_⟩
   ·rw [e] at hn; omega
   ·omega
  have hgb:w11.heap.size≠g:=by omega
  have e1:ro rl g 5 w11.heap.size=0:=by rw [ro_ne _ hgb]; exact hbR
  have x1:Ext w10 w16 rl (ro rl g 5):=(Ext.refl _ _ _).ro (.inr ⟨by omega,by omega,hgR⟩) (by omega) (by omega)
  have x2:Ext w10 w16 rl (ro (ro rl g 5) w11.heap.size (6+b)):=x1.ro (.inr ⟨by omega,by omega,e1⟩) (by omega) (by omega)
  have e2:ro (ro rl g 5) w11.heap.size (6+b) q'.block=rl q'.block:=by rw [ro_ne _ hq'b,ro_ne _ hq'g]
  have x3:Ext w10 w16 rl (ro (ro (ro rl g 5) w11.heap.size (6+b)) q'.block 3):=x2.ro (by
   rw [e2]
   rcases hq'new with hn | ⟨hn,hn2⟩
   ·exact .inl hn
   ·exact .inr ⟨by omega,by omega,hn2⟩) (by omega) (by omega)
  have hlen:(C'.l++[(⟨b,atD C.D b,0⟩:Bf)]).length=C'.l.length+1:=by simp
  have hnum:iL (nums C'.l)++[.int .i64 b]=iL (nums (C'.l++[⟨b,atD C.D b,0⟩])):=by simp [nums,iL,I]
  have hS:∀ x,S123 rl x->rl x≠0/\rl x≠4/\rl x≠5/\rl x<4:=fun x e=>by unfold S123 at e; omega
  have hstep:=h10.step (l':=C'.l++[⟨b,atD C.D b,0⟩]) (la':=some q') (lc':=c') (mp':=putL (b:Int) (.pointer (some ⟨w11.heap.size,0,none⟩)) mp') M16 x3 (fun x _ e=>⟨(hS x e).1,(hS x e).2.1,(hS x e).2.2.1⟩) (by rw [hlen]; simpa using u2)
   (((s2.keep m14 id).keep t3' fun e=>by have:=h12.of3 e; omega).keep u3 (apart hrm hrc (by omega)))
   (by
    rw [hlen,<- hnum]
    refine t2.keep u3 fun q hq e=>?_
    have:=Option.some.inj hq
    subst this
    rcases hq'new with hn | ⟨_,hn⟩ <;> (rw [e] at hn; omega))
   (fun q hq=>by have:=Option.some.inj hq; subst this; exact ro_same _ _ _)
   (fun y hy=>by
    rcases List.mem_append.1 hy with hy | hy
    ·refine .inl ⟨hy,?_,fun q e e'=>by have:=hS q e; omega⟩
     rw [look_put,if_neg (by have:=hno y hy; omega)]
    ·simp only [List.mem_singleton] at hy
     subst hy
     have n1:¬ S123 rl w11.heap.size:=fun e=>by have:=hS _ e; omega
     have n2:¬ S123 rl g:=fun e=>by have:=hS _ e; omega
     refine .inr ⟨w11.heap.size,g,cc,by rw [look_put,if_pos rfl],?_,?_,?_,?_⟩
     ·rw [ro_ne _ (Ne.symm hq'b),ro_same]
     ·rw [ro_ne _ (Ne.symm hq'g),ro_ne _ (Ne.symm hgb),ro_same]
     ·refine (((hbuf.keep s3 (apart hbR hrm (by omega))).keep m14 id).keep t3' fun e=>by have:=h12.of3 e; omega).keep u3 (apart hbR hrc (by omega))
     ·rw [<- hD]
      refine ((((hat.keep m12 id).keep s3 (apart hgR hrm (by omega))).keep m14 id).keep t3' fun e=>by have:=h12.of3 e; omega).at.keep u3 (apart hgR hrc (by omega)))
   (fun p hp=>by
    rcases put_keys p hp with e | hp
    ·exact ⟨⟨b,atD C.D b,0⟩,by simp,e⟩
    ·obtain ⟨y,hy,e⟩:=h10.keys p hp
     exact ⟨y,List.mem_append.2 (.inl hy),e⟩)
   (h10.wf.add hlt hno hb' (by rw [<- hD]; exact hal) (by simp))
  have hz1:=m1.size
  have hz10:=m10.size
  have hz16:=M16.size
  have MR1:Mod R w w10:=m1.anys.trans m10 fun _ _ e=>e
  have hG:Gro (Gro R w1 w10) w10 w16=fun x=>R x\/(w1.heap.size<=x/\x<w16.heap.size):=gro_gro (by omega) (by omega)
  have hw:=h.mod.size
  refine hk1 _ hask w16 w11.heap.size ⟨_,m,sb,mb,sc,c',some q',L,_,hstep.widen (R':=Gro R w w16) (fun x hx=>?_) (fun x hx=>?_),by rw [look_put,if_pos rfl]⟩ (MR1.trans M16 fun x hx e=>?_)
  ·rw [hG] at hx
   rcases hx with hx | hx
   ·exact .inl hx
   ·exact .inr (by omega)
  ·rcases hx with hx | hx
   ·have:=h.lo x hx; omega
   ·omega
  ·have:=h10.reg x (hS x e).1
   rcases this with this | this
   ·exact this
   ·omega
end
end Go.Proofs.YtandmpcjjaabmaaGreat
end
section
open Go Go.Den Go.Proofs
namespace Go.Proofs.YtandmpcjjaabmaaGreat
structure Asked (C C':Ca) (b:Nat) (l0:List Bf) (y:Bf):Prop where
 l:C'.l=l0++[y]
 yb:y.b=b
 D:C'.D=C.D
 most:C'.most=C.most
 wf:WFC C'
 from_:∀ x∈C'.l,x∈C.l\/(x=⟨b,atD C.D b,0⟩/\findB C.l b=none)
 keep:∀ x∈C.l,idleB C.D x=false->x∈C'.l
 here:∀ x∈C.l,x.b=b->x∈C'.l
 l0:∀ x∈l0,x∈C.l/\x.b≠b
theorem atD_len {C:Ca} (h:WF C.D) {b:Nat} (hb:b<C.D.vs.length):(atD C.D b).length=256:=by
 have hv:C.D.vs[b]?=some C.D.vs[b]:=by simp [hb]
 have e:verOf C.D b=C.D.vs[b]:=by
  unfold verOf
  rw [if_neg (by omega),Int.toNat_natCast,hv]; rfl
 unfold atD
 rw [e]
 exact h.lastLen hv
theorem room_facts {C C':Ca} (h:WFC C) (ha:roomC C=some C'):C'.D=C.D/\C'.most=C.most/\WFC C'/\C'.l.length<C'.most/\(∀ x∈C'.l,x∈C.l)/\∀ x∈C.l,idleB C.D x=false->x∈C'.l:=by
 unfold roomC at ha
 split at ha
 ·rename_i hl
  have:=Option.some.inj ha
  subst this
  exact ⟨rfl,rfl,h,hl,fun x hx=>hx,fun x hx _=>hx⟩
 ·cases hf:C.l.find? (idleB C.D) with
  | none=>rw [hf] at ha; cases ha
  | some z =>
   rw [hf] at ha
   have:=Option.some.inj ha
   subst this
   have hz:=List.mem_of_find?_eq_some hf
   have hi:idleB C.D z=true:=List.find?_some hf
   refine ⟨rfl,rfl,h.out _,?_,fun x hx=>(mem_others.1 hx).1,fun x hx hn=>mem_others.2 ⟨hx,fun e=>?_⟩⟩
   ·have:=others_lt hz; have:=h.len
    show (others C.l z.b).length<C.most
    omega
   ·rw [map_inj h.nodup hx hz e,hi] at hn; cases hn
theorem ask_facts {C C':Ca} {b:Nat} (h:WFC C) (hD:WF C.D) (hb:b<C.D.vs.length) (ha:askC C b=some C'):∃ l0 y,Asked C C' b l0 y:=by
 unfold askC at ha
 split at ha
 ·rename_i x hx
  have:=Option.some.inj ha
  subst this
  obtain ⟨h1,h2⟩:=findB_some hx
  subst h2
  exact ⟨others C.l x.b,x,{
   l:=rfl,yb:=rfl,D:=rfl,most:=rfl,wf:=h.move h1
   from_:=fun z hz=>by
    rcases List.mem_append.1 hz with hz | hz
    ·exact .inl (mem_others.1 hz).1
    ·simp at hz; subst hz; exact .inl h1
   keep:=fun z hz _=>by
    by_cases e:z.b=x.b
    ·rw [map_inj h.nodup hz h1 e]; simp
    ·exact List.mem_append.2 (.inl (mem_others.2 ⟨hz,e⟩))
   here:=fun z hz e=>by rw [map_inj h.nodup hz h1 e]; simp
   l0:=fun z hz=>mem_others.1 hz }⟩
 ·rename_i hx
  cases hr:roomC C with
  | none=>rw [hr] at ha; cases ha
  | some C1 =>
   rw [hr] at ha
   have:=Option.some.inj ha
   subst this
   obtain ⟨r1,r2,r3,r4,r5,r6⟩:=room_facts h hr
   have hno:=findB_none hx
   exact ⟨C1.l,⟨b,atD C.D b,0⟩,{
    l:=rfl,yb:=rfl,D:=r1,most:=r2
    wf:=r3.add r4 (fun y hy=>hno y (r5 y hy)) (by rw [r1]; exact hb) (atD_len hD hb) (by simp)
    from_:=fun z hz=>by
     rcases List.mem_append.1 hz with hz | hz
     ·exact .inl (r5 z hz)
     ·simp at hz; subst hz; exact .inr ⟨rfl,hx⟩
    keep:=fun z hz hi=>List.mem_append.2 (.inl (r6 z hz hi))
    here:=fun z hz e=>absurd e (hno z hz)
    l0:=fun z hz=>⟨r5 z hz,hno z (r5 z hz)⟩ }⟩
def pinsOf (l:List Bf) (n:Nat):Nat:=match findB l n with | some x=>x.pins | none=>0
theorem pinsOf_mem {l:List Bf} (hn:(l.map (·.b)).Nodup) {x:Bf} (hx:x∈l):pinsOf l x.b=x.pins:=by
 unfold pinsOf; rw [findB_mem hn hx]
theorem turn_mem {l:List Bf} {y:Bf} (h:∃ x∈l,x.b=y.b):y∈turn l y:=by
 obtain ⟨x,hx,e⟩:=h
 exact List.mem_map.2 ⟨x,hx,by rw [if_pos e]⟩
theorem turn_other {l:List Bf} {y x:Bf} (hx:x∈l) (e:x.b≠y.b):x∈turn l y:=List.mem_map.2 ⟨x,hx,by rw [if_neg e]⟩
end Go.Proofs.YtandmpcjjaabmaaGreat
end
section
open Go Go.Den Go.Proofs
namespace Go.Proofs.YtandmpcjjaabmaaGreat
def lastD (l:List Bf):Bk:=match l.getLast? with | some x=>x.data | none=>[]
def rdX (C:Ca) (n:Int):Ca×Int×Bk :=
 if errOf C.D n≠0 then (C,errOf C.D n,[]) else match askC C n.toNat with | none=>(C,5,[]) | some C'=>(C',0,lastD C'.l)
def layX (C:Ca) (n:Int) (ys:Bk):Ca×Int :=
 if errOf C.D n≠0 then (C,errOf C.D n) else if ys.length≠256 then (C,4) else match askC C n.toNat with | none=>(C,5) | some C'=>({ C' with l:=turn C'.l ⟨n.toNat,ys,pinsOf C'.l n.toNat⟩ },0)
def wrX (C:Ca) (n:Int) (ys:Bk):Ca×Int :=
 if errOf C.D n≠0 then (C,errOf C.D n) else if ys.length≠0/\ys.length≠256 then (C,4) else match askC C n.toNat with
  | none=>(C,5)
  | some C'=>({ C' with D:=wrSt C'.D n (if ys.length=0 then lastD C'.l else ys) },wrE C'.D n (if ys.length=0 then lastD C'.l else ys))
def heldC (C:Ca) (n:Int):Option Bf:=if n<0 then none else findB C.l n.toNat
def pinX (C:Ca) (n:Int):Ca×Int:=match heldC C n with | none=>(C,20) | some x=>({ C with l:=turn C.l { x with pins:=x.pins+1 } },0)
theorem heldC_some {C:Ca} {n:Int} {x:Bf} (h:heldC C n=some x):x∈C.l/\n=(x.b:Int):=by
 unfold heldC at h
 split at h
 ·cases h
 ·have:=findB_some h; exact ⟨this.1,by omega⟩
section
variable {w0 w w':World} {R:Nat->Prop} {rl:Nat->Nat} {c d m sb mb sc lc:Nat} {la:Option Addr} {L mp:List (Int×Value)} {C:Ca} {K:Value->World->Prop}
theorem held_lookup (h:CIn w0 R rl w c d m sb mb sc lc la L mp C) (n:Int):(heldC C n=none/\lookupL mp n=none)\/∃ x q,heldC C n=some x/\lookupL mp n=some (.pointer (some ⟨q,0,none⟩)):=by
 unfold heldC
 by_cases hn:n<0
 ·rw [if_pos hn]
  refine .inl ⟨rfl,?_⟩
  cases hl:lookupL mp n with
  | none=>rfl
  | some v =>
   obtain ⟨x,_,e⟩:=h.keys _ (look_mem hl)
   have e':n=x.b:=e
   omega
 ·rw [if_neg hn]
  obtain ⟨b,rfl⟩:=Int.eq_ofNat_of_zero_le (show 0<=n by omega)
  rw [Int.toNat_natCast]
  cases hf:findB C.l b with
  | none=>exact .inl ⟨rfl,h.noKey hf⟩
  | some x =>
   obtain ⟨hx,e⟩:=findB_some hf
   obtain ⟨q,g,cc,b1,_⟩:=h.bufs x hx
   rw [e] at b1
   exact .inr ⟨x,q,rfl,b1⟩
def mayE (D:St) (n:Int) (l:Nat) (xs:List Int):Int:=if errOf D n≠0 then errOf D n else if xs≠[]/\(l:Int) ∉ xs then 4 else 0
theorem cmay_c {a2 a3:Option Addr} {l2 c2 l3 c3:Nat} {xs:List Int} {n:Int} (h:CIn w0 R rl w c d m sb mb sc lc la L mp C) (hl:xs.length=l3) (h63:l3<=1000) (hr:Row w a3 (iL xs))
  (hk:K (.int .i64 (mayE C.D n l2 xs)) w):Cal Tryz.prog F_cache_Cache_may #[.pointer (some ⟨c,0,none⟩),.int .i64 n,.slice a2 l2 c2,.slice a3 l3 c3] w K:=by
 apply C_cache_Cache_may
 unfold D_cache_Cache_may
 refine ff rfl (Share.cut (fun x w'=>x=[.bool (decide (n<0\/C.D.vs.length<=n))]/\w'=w) (cond_of (fun hb=>?_) (fun hb=>?_)) ?_)
 ·have:=of_decide_eq_true hb
  exact ⟨by simp [this],rfl⟩
 ·have:=of_decide_eq_false hb
  refine ⟨_,rfl,_,h.ld,Len_c h.disk ⟨_,rfl,?_,rfl⟩⟩
  congr 2; rw [Bool.eq_iff_iff]; simp only [decide_eq_true_eq]; omega
 rintro x w' ⟨rfl,rfl⟩
 refine ⟨_,rfl,cond_of (fun hb=>?_) (fun hb=>?_)⟩
 ·have:=of_decide_eq_true hb
  have e:errOf C.D n=3:=by unfold errOf; rw [if_pos this]
  unfold mayE at hk
  rw [e] at hk; exact hk
 ·have:=of_decide_eq_false hb
  have e:errOf C.D n=0:=by unfold errOf; rw [if_neg this]
  unfold mayE at hk
  rw [e,if_neg (by omega)] at hk
  refine Share.cut (fun x w2=>x=[.bool (decide (xs≠[]/\(l2:Int) ∉ xs))]/\w2=w') (cond_of (fun hb=>?_) (fun hb=>?_)) ?_
  ·have hl3:0<l3:=by have:=of_decide_eq_true hb; omega
   have hne:xs≠[]:=fun e=>by subst e; simp at hl; omega
   refine Contains_c hl (by omega) hr ⟨_,rfl,?_,rfl⟩
   simp [hne]
  ·have hl3:l3=0:=by have:=of_decide_eq_false hb; omega
   have hne:xs=[]:=List.eq_nil_of_length_eq_zero (by omega)
   exact ⟨by simp [hne],rfl⟩
  ·rintro x w2 ⟨rfl,rfl⟩
   refine ⟨_,rfl,cond_of (fun hb=>?_) (fun hb=>?_)⟩
   ·rw [if_pos (of_decide_eq_true hb)] at hk; exact hk
   ·rw [if_neg (of_decide_eq_false hb)] at hk; exact hk
theorem Cx.nos (h:Cx w0 R w c d C) (k:Mod No w w'):Cx w0 R w' c d C:=by
 obtain ⟨rl,m,sb,mb,sc,lc,la,L,mp,h⟩:=h
 exact ⟨rl,m,sb,mb,sc,lc,la,L,mp,h.nos k⟩
theorem Cx.gro (h:Cx w0 R w c d C) (k:Mod No w w'):Cx w0 (Gro R w w') w' c d C:=by
 obtain ⟨rl,m,sb,mb,sc,lc,la,L,mp,h⟩:=h
 exact ⟨rl,m,sb,mb,sc,lc,la,L,mp,h.gro k⟩
theorem Cx.wf (h:Cx w0 R w c d C):WFC C/\WF C.D/\Mod No w0 w/\(∀ x,R x->w0.heap.size<=x/\x<w.heap.size):=by
 obtain ⟨rl,m,sb,mb,sc,lc,la,L,mp,h⟩:=h
 exact ⟨h.wf,h.disk.wf,h.mod,h.lo⟩
theorem Cq.x {b q:Nat} (h:Cq w0 R w c d b q C):Cx w0 R w c d C:=by
 obtain ⟨rl,m,sb,mb,sc,lc,la,L,mp,h,_⟩:=h
 exact ⟨rl,m,sb,mb,sc,lc,la,L,mp,h⟩
theorem Cx.keep {S:Nat->Prop} (h:Cx w0 R w c d C) (k:Mod S w w') (hs:∀ x,R x->¬ S x) (hw:∀ x,x<w0.heap.size->¬ S x):Cx w0 R w' c d C:=by
 obtain ⟨rl,m,sb,mb,sc,lc,la,L,mp,h⟩:=h
 have hr:∀ {x},rl x≠0->¬ S x:=fun hx=>hs _ (h.reg _ hx)
 exact ⟨rl,m,sb,mb,sc,lc,la,L,mp,{
  disk:=h.disk.keep k fun x hx=>hr (by omega)
  cell:=h.cell.keep k (hr (by rw [h.rc]; omega))
  map:=h.map.keep k (hr (by rw [h.rm]; omega))
  row:=h.row.keep k fun q hq=>hr (by rw [h.rrow q hq]; omega)
  rc:=h.rc
  rm:=h.rm
  rrow:=h.rrow
  bufs:=fun x hx=>by
   obtain ⟨q,g,cc,h1,h2,h3,h4,h6⟩:=h.bufs x hx
   exact ⟨q,g,cc,h1,h2,h3,h4.keep k (hr (by omega)),h6.keep k (hr (by omega))⟩
  keys:=h.keys
  wf:=h.wf
  reg:=h.reg
  lo:=fun x hx=>by have:=h.lo x hx; have:=k.size; omega
  mod:=h.mod.trans k fun x hx e=>absurd e (hw x hx) }⟩
theorem lastD_ask {C':Ca} {b:Nat} (h:WFC C) (hD:WF C.D) (hb:b<C.D.vs.length) (ha:askC C b=some C'):∃ x∈C'.l,x.b=b/\lastD C'.l=x.data/\findB C'.l b=some x/\WFC C'/\C'.D=C.D:=by
 obtain ⟨l0,y,A⟩:=ask_facts h hD hb ha
 refine ⟨y,by rw [A.l]; simp,A.yb,by unfold lastD; rw [A.l]; simp,?_,A.wf,A.D⟩
 have:=findB_mem A.wf.nodup (x:=y) (by rw [A.l]; simp)
 rwa [A.yb] at this
theorem err_range {D:St} {n:Int} (h:errOf D n=0):∃ b:Nat,n=b/\b<D.vs.length:=by
 rcases err_cases (D:=D) n with ⟨e,_⟩ | ⟨_,i,v,rfl,hv,_⟩
 ·omega
 ·exact ⟨i,rfl,(List.getElem?_eq_some_iff.1 hv).1⟩
theorem cRead_c {n:Int} (hC:Cx w0 R w c d C)
  (hk:∀ w1 w' a cc,Mod R w w1->Mod No w1 w'->Cx w0 (Gro R w w1) w' c d (rdX C n).1->Ow Tryz.prog w' w1.heap.size 55 1 a (rdX C n).2.2.length cc (u8L (rdX C n).2.2)->K (.tuple #[.slice a (rdX C n).2.2.length cc,.int .i64 (rdX C n).2.1]) w') :
  Cal Tryz.prog F_cache_Cache_Read #[.pointer (some ⟨c,0,none⟩),.int .i64 n] w K:=by
 have hX:=hC
 obtain ⟨rl,m,sb,mb,sc,lc,la,L,mp,h⟩:=hC
 apply C_cache_Cache_Read
 unfold D_cache_Cache_Read
 refine cmay_c (xs:=[]) h rfl (by omega) (.inl rfl) ⟨_,rfl,?_⟩
 have hm:mayE C.D n 0 []=errOf C.D n:=by
  unfold mayE; split
  ·rfl
  ·rename_i e; simp at e |-; exact e.symm
 rw [hm]
 by_cases he:errOf C.D n=0
 ·rw [he]
  refine ff rfl ?_
  obtain ⟨b,rfl,hb⟩:=err_range he
  have hr0:rdX C b=match askC C b with | none=>(C,5,[]) | some C'=>(C',0,lastD C'.l):=by unfold rdX; rw [if_neg (by omega),Int.toNat_natCast]
  rw [hr0] at hk
  refine ask_c h hb (fun C' ha w1 q hq m1=>⟨_,_,rfl,ff rfl ⟨_,rfl,?_⟩⟩) fun ha w1 m1=>⟨_,_,rfl,tt rfl ?_⟩
  ·rw [ha] at hk
   obtain ⟨x,hx,hxb,hxd,hxf,hwf,hD⟩:=lastD_ask h.wf h.disk.wf hb ha
   have hxl:=hwf.data x hx
   have hqx:=hq.x
   obtain ⟨rl',m',sb',mb',sc',lc',la',L',mp',h',hl'⟩:=hq
   obtain ⟨q2,g,cc,b1,b2,b3,b4,b6⟩:=h'.bufs x hx
   rw [hxb,hl'] at b1
   simp only [Option.some.injEq,Value.pointer.injEq,Addr.mk.injEq,and_true] at b1
   subst b1
   refine ⟨_,_,_,lbytes b4,CloneB_c (.inr ⟨_,_,rfl,b6⟩) hxl (fun e=>by cases e) (by omega) fun w2 a2 c2 o2 m2=>⟨_,_,_,rfl,?_⟩⟩
   have:=hk w1 w2 a2 c2 m1 m2 (hqx.nos m2)
   simp only [hxd,hxl] at this
   exact this o2
  ·rw [ha] at hk
   exact hk w1 w1 none 0 m1.anys (Mod.refl _ _) (hX.gro m1) (Ow.nil elemZ_bytes)
 ·have hr0:rdX C n=(C,errOf C.D n,[]):=by unfold rdX; rw [if_pos he]
  rw [hr0] at hk
  refine tt (by simpa using he) ?_
  exact hk w w none 0 (Mod.refl _ _) (Mod.refl _ _) (hX.gro (Mod.refl _ _)) (Ow.nil elemZ_bytes)
end
end Go.Proofs.YtandmpcjjaabmaaGreat
end
section
open Go Go.Den Go.Proofs
namespace Go.Proofs.YtandmpcjjaabmaaGreat
section
variable {w0 w w':World} {R:Nat->Prop} {rl:Nat->Nat} {c d m sb mb sc lc:Nat} {la:Option Addr} {L mp:List (Int×Value)} {C:Ca} {K:Value->World->Prop}
theorem turn_len (l:List Bf) (y:Bf):(turn l y).length=l.length:=by simp [turn]
theorem CIn.turn {S:Nat->Prop} {y:Bf} {q g cc:Nat} (h:CIn w0 R rl w c d m sb mb sc lc la L mp C) (k:Mod S w w') (hS:∀ z,S z->rl z=6+y.b) (hm:∃ x∈C.l,x.b=y.b)
  (hq:lookupL mp (y.b:Int)=some (.pointer (some ⟨q,0,none⟩))) (hrq:rl q=6+y.b) (hg:rl g=5\/(w.heap.size<=g/\g<w'.heap.size)) (h4:AtU w' q 0 [.slice (some ⟨g,0,none⟩) 256 cc,.int .i64 y.pins]) (h6:At w' g 0 (u8L y.data))
  (hwf:WFC { C with l:=turn C.l y }):∃ rl',CIn w0 (Gro R w w') rl' w' c d m sb mb sc lc la L mp { C with l:=Go.Proofs.YtandmpcjjaabmaaGreat.turn C.l y }:=by
 have hrc:=h.rc
 have hrm:=h.rm
 have hg':rl g=5\/(w.heap.size<=g/\g<w'.heap.size/\rl g=0):=by
  rcases hg with hg | hg
  ·exact .inl hg
  ·exact .inr ⟨hg.1,hg.2,h.out_of hg.1⟩
 have hqg:q≠g:=fun e=>by
  rcases hg' with hg' | ⟨_,_,hg'⟩
  ·rw [<- e] at hg'; omega
  ·rw [<- e] at hg'; omega
 refine ⟨ro rl g 5,h.step k ((Ext.refl _ _ _).ro hg' (by omega) (by omega)) (fun x _ e=>by have:=hS x e; omega) ?_ (h.map.keep k fun e=>by have:=hS _ e; omega) ?_ (fun q2 hq2=>?_) (fun z hz=>?_) (fun p hp=>?_) hwf⟩
 ·rw [turn_len]; exact h.cell.keep k fun e=>by have:=hS _ e; omega
 ·rw [turn_len,turn_nums]; exact h.row.keep k fun q2 hq2 e=>by have:=hS _ e; have:=h.rrow q2 hq2; omega
 ·have hr:=h.rrow q2 hq2
  have:q2.block≠g:=fun e=>by
   rcases hg' with hg' | ⟨_,_,hg'⟩
   ·rw [<- e] at hg'; omega
   ·rw [<- e] at hg'; omega
  rw [ro_ne _ this]; exact hr
 ·rcases mem_turn hz with rfl | ⟨hz,hne⟩
  ·exact .inr ⟨q,g,cc,hq,by rw [ro_ne _ hqg]; exact hrq,ro_same _ _ _,h4,h6⟩
  ·exact .inl ⟨hz,rfl,fun q2 e e'=>by have:=hS q2 e; omega⟩
 ·obtain ⟨x,hx,e⟩:=h.keys p hp
  obtain ⟨x2,hx2,e2⟩:=hm
  by_cases hxy:x.b=y.b
  ·exact ⟨y,turn_mem ⟨x2,hx2,e2⟩,by rw [e,hxy]⟩
  ·exact ⟨x,turn_other hx hxy,e⟩
theorem Cx.up {w1:World} (h:Cx w0 (Gro R w1 w') w' c d C) (hlo:∀ x,R x->w0.heap.size<=x/\x<w.heap.size) (hw:w0.heap.size<=w.heap.size) (h1:w.heap.size<=w1.heap.size) (h2:w.heap.size<=w'.heap.size):Cx w0 (Gro R w w') w' c d C:=by
 obtain ⟨rl,m,sb,mb,sc,lc,la,L,mp,h⟩:=h
 refine ⟨rl,m,sb,mb,sc,lc,la,L,mp,h.widen (fun x hx=>?_) fun x hx=>?_⟩
 ·rcases hx with hx | hx
  ·exact .inl hx
  ·exact .inr (by omega)
 ·rcases hx with hx | hx
  ·have:=hlo x hx; omega
  ·omega
theorem _root_.Go.Den.Row.region {a:Option Addr} {xs:List Value} (h:Row w a xs) (m:Mod R w w') (hd:xs≠[]->∀ q,a=some q->¬ R q.block):Row w' a xs:=by
 by_cases e:xs=[]
 ·exact .inl e
 ·exact h.keep m (hd e)
theorem cLay_c {n:Int} {a2:Option Addr} {l2 c2:Nat} {ys:Bk} (hC:Cx w0 R w c d C) (hl:ys.length=l2) (hr:Row w a2 (u8L ys)) (hd:ys≠[]->∀ q,a2=some q->¬ R q.block)
  (hk:∀ w',Mod R w w'->Cx w0 (Gro R w w') w' c d (layX C n ys).1->K (.int .i64 (layX C n ys).2) w'):Cal Tryz.prog F_cache_Cache_Lay #[.pointer (some ⟨c,0,none⟩),.int .i64 n,.slice a2 l2 c2] w K:=by
 have hX:=hC
 obtain ⟨rl,m,sb,mb,sc,lc,la,L,mp,h⟩:=hC
 apply C_cache_Cache_Lay
 unfold D_cache_Cache_Lay
 have m1:Mod No w (w.alloc (.cells ⟨[.int .i64 256]⟩ 3)):=(Mod.refl No w).alloc _
 have hrow:Row (w.alloc (.cells ⟨[.int .i64 256]⟩ 3)) (some ⟨w.heap.size,0,none⟩) (iL [256]):=.inr ⟨_,_,rfl,AtU.new.at⟩
 refine ⟨_,_,_,_,builtI _ _,cmay_c (xs:=[256]) (h.nos m1) rfl (by omega) hrow ⟨_,rfl,?_⟩⟩
 generalize hW:w.alloc (.cells ⟨[.int .i64 256]⟩ 3)=w1 at *
 have hs1:=m1.size
 have hw0:=h.mod.size
 by_cases he:errOf C.D n=0
 ·by_cases h256:ys.length=256
  ·have hm:mayE C.D n l2 [256]=0:=by unfold mayE; rw [if_neg (by omega),if_neg (by simp; omega)]
   rw [hm]
   refine ff rfl ?_
   obtain ⟨b,rfl,hb⟩:=err_range he
   have hr0:layX C b ys=match askC C b with | none=>(C,5) | some C'=>({ C' with l:=turn C'.l ⟨b,ys,pinsOf C'.l b⟩ },0):=by unfold layX; rw [if_neg (by omega),if_neg (by omega),Int.toNat_natCast] <;> rfl
   rw [hr0] at hk
   refine ask_c (h.nos m1) hb (fun C' ha w3 q hq m3=>⟨_,_,rfl,Share.dup (tt rfl ?_)⟩) fun ha w3 m3=>⟨_,_,rfl,Share.dup (ff rfl ?_)⟩
   ·rw [ha] at hk
    obtain ⟨x,hx,hxb,hxd,hxf,hwf,hD⟩:=lastD_ask h.wf h.disk.wf hb ha
    obtain ⟨rl',m',sb',mb',sc',lc',la',L',mp',h',hl'⟩:=hq
    obtain ⟨q2,g,cc,b1,b2,b3,b4,b6⟩:=h'.bufs x hx
    rw [hxb,hl'] at b1
    simp only [Option.some.injEq,Value.pointer.injEq,Addr.mk.injEq,and_true] at b1
    subst b1
    have hune:u8L ys≠[]:=fun e=>by have:=congrArg List.length e; simp at this; rw [this] at h256; simp at h256
    have hyne:ys≠[]:=fun e=>by rw [e] at h256; simp at h256
    have hr3:=Row.region (hr.nos m1) m3 fun _=>hd hyne
    have h0:a2≠none:=fun e=>by
     rcases hr with hr | ⟨_,_,e2,_⟩
     ·exact hune hr
     ·rw [e] at e2; cases e2
    refine CloneB_c hr3 hl (fun e=>absurd e h0) (by omega) fun w4 a4 c4 o4 m4=>⟨_,_,_,rfl,_,rfl,?_⟩
    subst hl
    obtain ⟨g4,rfl,hg4,hat4⟩:=o4.sm (by omega)
    obtain ⟨w5,t1,t2,t3,t4⟩:=(b4.keep m4 id).store (P:=Tryz.prog) (T:=55) (i:=0) (v:=.slice (some ⟨g4,0,none⟩) ys.length c4) (by kernel_rfl) (by simp) rfl
    refine ⟨w5,by rw [add_none,add_none]; exact t1,?_⟩
    have hp:pinsOf C'.l b=x.pins:=by unfold pinsOf; rw [hxf]
    simp only [hp] at hk
    have hx':(⟨b,ys,x.pins⟩:Bf).b=x.b:=hxb.symm
    have hg4l:=hat4.lt
    have hs5:=t3.size
    have hs4:=m4.size
    have hs3:=m3.size
    have hgq:g4≠q:=fun e=>by have:=h'.out_of (x:=g4) (by omega); rw [e] at this; omega
    have M:Mod (fun z=>z=q) w3 w5:=(m4.anys.trans t3 fun _ _ e=>e)
    obtain ⟨rl5,h5⟩:=h'.turn (y:=⟨b,ys,x.pins⟩) (q:=q) (g:=g4) (cc:=c4) M (fun z e=>by rw [e]; rw [b2,hxb]) ⟨x,hx,hxb⟩ hl' (by rw [b2,hxb]) (.inr ⟨by omega,by omega⟩) (by simpa [h256] using t2) (hat4.at.keep t3 hgq)
     (hwf.turn (by show b<C'.D.vs.length; rw [hD]; exact hb) h256 (hwf.pins x hx))
    have hgg:=gro_gro (R:=R) (w:=w1) (w1:=w3) (w2:=w5) (by omega) (by omega)
    rw [hgg] at h5
    refine hk w5 ((m1.anys.trans m3 fun _ _ e=>e).trans M fun z hz e=>?_) (Cx.up ⟨rl5,m',sb',mb',sc',lc',la',L',mp',h5⟩ h.lo hw0 hs1 (by omega))
    have:=h'.reg z (by rw [e,b2]; omega)
    rcases this with this | this
    ·exact this
    ·omega
   ·rw [ha] at hk
    exact hk w3 (m1.no m3).anys (hX.gro (m1.no m3))
  ·have hm:mayE C.D n l2 [256]=4:=by unfold mayE; rw [if_neg (by omega),if_pos (by simp; omega)]
   have hr0:layX C n ys=(C,4):=by unfold layX; rw [if_neg (by omega),if_pos h256]
   rw [hr0] at hk
   rw [hm]
   exact tt rfl (hk w1 m1.anys (hX.gro m1))
 ·have hm:mayE C.D n l2 [256]=errOf C.D n:=by unfold mayE; rw [if_pos he]
  have hr0:layX C n ys=(C,errOf C.D n):=by unfold layX; rw [if_pos he]
  rw [hr0] at hk
  rw [hm]
  exact tt (by simpa using he) (hk w1 m1.anys (hX.gro m1))
end
end Go.Proofs.YtandmpcjjaabmaaGreat
end
section
open Go Go.Den Go.Proofs
namespace Go.Proofs.YtandmpcjjaabmaaGreat
section
variable {w0 w w':World} {R:Nat->Prop} {rl:Nat->Nat} {c d m sb mb sc lc:Nat} {la:Option Addr} {L mp:List (Int×Value)} {C:Ca} {K:Value->World->Prop}
theorem held_c {n:Int} (h:CIn w0 R rl w c d m sb mb sc lc la L mp C) (hk1:heldC C n=none->K (.tuple #[.pointer none,.int .i64 20]) w)
  (hk2:∀ x q,heldC C n=some x->lookupL mp n=some (.pointer (some ⟨q,0,none⟩))->K (.tuple #[.pointer (some ⟨q,0,none⟩),.int .i64 0]) w):Cal Tryz.prog F_cache_Cache_held #[.pointer (some ⟨c,0,none⟩),.int .i64 n] w K:=by
 apply C_cache_Cache_held
 unfold D_cache_Cache_held
 have hlk:=look2_run (P:=Tryz.prog) mapCache h.map (k:=n)
 refine ff rfl ⟨_,rfl,some m,h.lm,?_⟩
 rcases held_lookup h n with ⟨e1,e2⟩ | ⟨x,q,e1,e2⟩
 ·rw [e2] at hlk
  exact ⟨none,false,hlk,tt rfl (hk1 e1)⟩
 ·rw [e2] at hlk
  exact ⟨some ⟨q,0,none⟩,true,hlk,ff rfl (hk2 x q e1 e2)⟩
theorem pins_store {x:Bf} {q p:Nat} (h:CIn w0 R rl w c d m sb mb sc lc la L mp C) (hx:x∈C.l) (hq:lookupL mp (x.b:Int)=some (.pointer (some ⟨q,0,none⟩))) (hp:p<=1000000) :
  ∃ w',RuU (Instr.storeAt 3 (.pointer (some (Addr.add ⟨q,0,none⟩ 1))) (.int .i64 p)) w w'/\Mod R w w'/\Cx w0 (Gro R w w') w' c d { C with l:=turn C.l { x with pins:=p } }:=by
 obtain ⟨q2,g,cc,b1,b2,b3,b4,b6⟩:=h.bufs x hx
 rw [hq] at b1
 simp only [Option.some.injEq,Value.pointer.injEq,Addr.mk.injEq,and_true] at b1
 subst b1
 obtain ⟨w1,t1,t2,t3,t4⟩:=b4.store (P:=Tryz.prog) (T:=3) (i:=1) (v:=.int .i64 p) (by kernel_rfl) (by simp) rfl
 refine ⟨w1,by rw [add_none]; exact t1,t3.mono fun z _ e=>h.reg z (by rw [e,b2]; omega),?_⟩
 obtain ⟨rl',h'⟩:=h.turn (y:={ x with pins:=p }) (q:=q) (g:=g) (cc:=cc) t3 (fun z e=>by rw [e]; exact b2) ⟨x,hx,rfl⟩ hq b2 (.inl b3) (by simpa using t2) (b6.keep t3 fun e=>by rw [e] at b3; omega)
  (h.wf.turn (h.wf.lt x hx) (h.wf.data x hx) hp)
 exact ⟨rl',m,sb,mb,sc,lc,la,L,mp,h'⟩
theorem cPin_c {n:Int} (hC:Cx w0 R w c d C) (hp:∀ x∈C.l,x.pins<=999999) (hk:∀ w',Mod R w w'->Cx w0 (Gro R w w') w' c d (pinX C n).1->K (.int .i64 (pinX C n).2) w'):Cal Tryz.prog F_cache_Cache_Pin #[.pointer (some ⟨c,0,none⟩),.int .i64 n] w K:=by
 have hX:=hC
 obtain ⟨rl,m,sb,mb,sc,lc,la,L,mp,h⟩:=hC
 apply C_cache_Cache_Pin
 unfold D_cache_Cache_Pin
 unfold pinX at hk
 refine held_c h (fun e=>⟨_,_,rfl,Share.dup (ff rfl ?_)⟩) fun x q e hq=>⟨_,_,rfl,Share.dup (tt rfl ?_)⟩
 ·rw [e] at hk
  exact hk w (Mod.refl _ _) (hX.gro (Mod.refl _ _))
 ·rw [e] at hk
  obtain ⟨hx,rfl⟩:=heldC_some e
  obtain ⟨q2,g,cc,b1,b2,b3,b4,b6⟩:=h.bufs x hx
  have hpx:=hp x hx
  have hq':=hq
  rw [hq] at b1
  simp only [Option.some.injEq,Value.pointer.injEq,Addr.mk.injEq,and_true] at b1
  subst b1
  obtain ⟨w1,t1,t2,t3⟩:=pins_store (p:=x.pins+1) h hx hq' (by omega)
  refine ⟨_,rfl,_,lpins b4,_,rfl,w1,?_,hk w1 t2 t3⟩
  rw [wrap64 (x:=(x.pins:Int)+1) (by omega) (by omega)]
  exact t1
theorem build_cache (w:World) (p:Option Addr) (n:Int) (mm:Option Nat):(Instr.build 299 #[(0,.pointer p),(1,.int .i64 n),(2,.map mm)]).run Tryz.prog w=.ok (.agg ⟨[.pointer p,.int .i64 n,.map mm,.slice none 0 0]⟩) w:=by kernel_rfl
theorem cNew_c {D:St} {n:Int} (hd:DiskIn w R d sb mb sc L D) (hsm:Small D) (hlo:∀ x,R x->w0.heap.size<=x/\x<w.heap.size) (hm:Mod No w0 w)
  (hk1:n<1\/4096<n->K (.tuple #[.pointer none,.int .i64 1]) w)
  (hk2:∀ k:Nat,n=k->1<=k->k<=4096->∀ w' c,Mod No w w'->Cx w0 (Gro R w w') w' c d ⟨D,k,[]⟩->K (.tuple #[.pointer (some ⟨c,0,none⟩),.int .i64 0]) w'):Cal Tryz.prog F_cache_New #[.pointer (some ⟨d,0,none⟩),.int .i64 n] w K:=by
 classical
 apply C_cache_New
 unfold D_cache_New
 refine ff rfl (Share.or ⟨_,rfl,cond_of (fun hb=>?_) (fun hb=>?_)⟩)
 ·exact hk1 (by simpa using hb)
 have hn:¬ (n<1\/4096<n):=by simpa using hb
 obtain ⟨k,rfl⟩:=Int.eq_ofNat_of_zero_le (show 0<=n by omega)
 refine ⟨_,_,makeMap_run,_,fun w=>build_cache w _ _ _,_,_,box_run,?_⟩
 have m1:Mod No w (w.alloc (.map #[] 0)):=(Mod.refl No w).alloc _
 have m2:Mod No (w.alloc (.map #[] 0)) ((w.alloc (.map #[] 0)).alloc (.cells ⟨[.pointer (some ⟨d,0,none⟩),.int .i64 k,.map (some w.heap.size),.slice none 0 0]⟩ 299)):=(Mod.refl No _).alloc _
 have hs1:(w.alloc (.map #[] 0)).heap.size=w.heap.size+1:=by simp
 have hs2:((w.alloc (.map #[] 0)).alloc (.cells ⟨[.pointer (some ⟨d,0,none⟩),.int .i64 k,.map (some w.heap.size),.slice none 0 0]⟩ 299)).heap.size=w.heap.size+2:=by simp
 refine hk2 k rfl (by omega) (by omega) ((w.alloc (.map #[] 0)).alloc (.cells ⟨[.pointer (some ⟨d,0,none⟩),.int .i64 k,.map (some w.heap.size),.slice none 0 0]⟩ 299)) _ (m1.no m2) ?_
 have hw0:=hm.size
 have hR:∀ x,R x->x≠w.heap.size/\x≠w.heap.size+1:=fun x hx=>by have:=hlo x hx; omega
 refine ⟨fun x=>if x=w.heap.size+1 then 1 else if x=w.heap.size then 2 else if R x then 4 else 0,w.heap.size,sb,mb,sc,0,none,L,[],?_⟩
 have e4:(fun x=>(if x=w.heap.size+1 then 1 else if x=w.heap.size then 2 else if R x then 4 else 0)=4)=R:=by
  funext x
  apply propext
  constructor
  ·intro e
   split at e
   ·omega
   ·split at e
    ·omega
    ·split at e
     ·assumption
     ·omega
  ·intro hx
   rw [if_neg (hR x hx).2,if_neg (hR x hx).1,if_pos hx]
 exact {
  disk:=by rw [e4]; exact (hd.nos m1).nos m2
  cell:=by rw [hs1]; rw [<- hs1]; exact AtU.new
  map:=MapAt.new.keep m2 id
  row:=Ow.nil elemZ_ints
  rc:=by rw [hs1]; simp
  rm:=by simp
  rrow:=fun q hq=>by cases hq
  bufs:=fun x hx=>by cases hx
  keys:=fun p hp=>by cases hp
  wf:={ small:=hsm,most0:=by show 1<=k; omega,most1:=by show k<=4096; omega,len:=Nat.zero_le _,nodup:=by simp,lt:=fun x hx=>(by cases hx),data:=fun x hx=>(by cases hx),pins:=fun x hx=>(by cases hx) }
  reg:=fun x hx=>by
   by_cases hRx:R x
   ·exact .inl hRx
   ·right
    by_cases e1:x=w.heap.size+1
    ·omega
    ·by_cases e2:x=w.heap.size
     ·omega
     ·simp [e1,e2,hRx] at hx
  lo:=fun x hx=>by
   rcases hx with hx | hx
   ·have:=hlo x hx; omega
   ·omega
  mod:=(hm.no m1).no m2 }
end
end Go.Proofs.YtandmpcjjaabmaaGreat
end
section
open Go Go.Den Go.Proofs
namespace Go.Proofs.YtandmpcjjaabmaaGreat
section
variable {w0 w w':World} {R:Nat->Prop} {c d:Nat} {C:Ca} {K:Value->World->Prop}
def k0:Ca:=⟨newSt 4,2,[]⟩
def k1:Ca:=(rdX k0 1).1
def k2:Ca:=(rdX k1 2).1
def k3:Ca:=(rdX k2 1).1
def k4:Ca:=(rdX k3 3).1
def k5:Ca:=(layX k4 1 (fillB [120])).1
def k6:Ca:=(wrX k5 1 []).1
end
end Go.Proofs.YtandmpcjjaabmaaGreat
end
section
open Go Go.Den Go.Proofs
namespace Go.Den
def pV (q:Nat):Value:=.pointer (some ⟨q,0,none⟩)
def pL (qs:List Nat):List Value:=qs.map pV
@[simp] theorem length_pL (qs:List Nat):(pL qs).length=qs.length:=by simp [pL]
end Go.Den
namespace Go.Proofs.YtandmpcjjaabmaaGreat
theorem elemZ_chs:elemZ Tryz.prog 253 1 (.pointer none) 8:=by unfold elemZ; kernel_rfl
theorem elemZ_64:elemZ Tryz.prog 65 1 (.int .i64 0) 8:=by unfold elemZ; kernel_rfl
section
variable {w:World} {K:Value->World->Prop}
theorem IndexFunc64_c {a:Option Addr} {l c:Nat} {xs:List Int} {v:Value} {p:Int->Bool} {S:Nat->Prop} (hl:xs.length=l) (h63:l<=9223372036854775806) (hr:Row w a (iL xs)) (ht:Tells v w S p xs)
  (hk:∀ w',Mod No w w'->K (.int .i64 (idxF p xs 0)) w'):Cal Tryz.prog F_slices_IndexFunc_int64 #[.slice a l c,v] w K:=by
 apply C_slices_IndexFunc_int64
 unfold D_slices_IndexFunc_int64
 refine ⟨fun x w1=>∃ i:Nat,i<=l/\x=[.int .i64 i]/\Mod No w w1/\idxF p xs 0=idxF p (xs.drop i) i,fun x _=>(l-nI x 0).toNat,⟨0,by omega,rfl,Mod.refl _ _,rfl⟩,?_⟩
 rintro x w1 ⟨i,hi,rfl,hm,hidx⟩
 refine ⟨_,rfl,cond_of (fun hb=>?_) (fun hb=>?_)⟩
 ·have hi:i<l:=by have:=of_decide_eq_true hb; omega
  have hix:i<xs.length:=by omega
  obtain ⟨b,o,rfl,hat⟩:=row_some hr hix
  refine ⟨_,index_slice (k:=1) (by kernel_rfl) (by omega) (by omega),?_⟩
  rw [add_none,show (i:Int).toNat*1=i by omega]
  refine ⟨_,(hat.keep hm id).load (by kernel_rfl) (iL_get hix),ht w1 (hm.mono fun _ _ h=>h.elim) _ (List.getElem_mem hix) _ fun w2 m2=>⟨_,rfl,cond_of (fun hp=>?_) (fun hp=>?_)⟩⟩
  ·have e:idxF p xs 0=i:=by rw [hidx,drop_get hix]; simp only [idxF]; rw [if_pos hp]
   rw [<- e]; exact hk w2 (hm.no m2)
  ·rw [wrap64 (x:=(i:Int)+1) (by omega) (by omega)]
   refine ⟨⟨i+1,by omega,rfl,hm.no m2,?_⟩,by simp [nI,nth]; omega⟩
   rw [hidx,drop_get hix]; simp only [idxF]; rw [if_neg (by rw [hp]; simp)]
 ·have hil:i=l:=by have:=of_decide_eq_false hb; omega
  have e:idxF p xs 0=-1:=by rw [hidx,List.drop_eq_nil_of_le (by omega)]; rfl
  rw [<- e]; exact hk w1 hm
theorem Contains64_c {a:Option Addr} {l c:Nat} {xs:List Int} {v:Value} {p:Int->Bool} {S:Nat->Prop} (hl:xs.length=l) (h63:l<=9223372036854775806) (hr:Row w a (iL xs)) (ht:Tells v w S p xs)
  (hk:∀ w',Mod No w w'->K (.bool (xs.any p)) w'):Cal Tryz.prog F_slices_ContainsFunc_int64 #[.slice a l c,v] w K:=by
 apply C_slices_ContainsFunc_int64
 refine IndexFunc64_c hl h63 hr ht fun w' m=>⟨_,rfl,?_⟩
 have e:decide (idxF p xs 0 >= 0)=xs.any p:=by
  rcases idxF_cases p xs 0 with ⟨h1,h2⟩ | ⟨j,x,h1,h2,h3,_⟩
  ·rw [h1]
   symm
   rw [show decide ((-1:Int) >= 0)=false from rfl,List.any_eq_false]
   intro x hx; rw [h2 x hx]; simp
  ·rw [h1,decide_eq_true (by omega)]
   symm
   exact List.any_eq_true.2 ⟨x,List.mem_of_getElem? h2,h3⟩
 rw [e]; exact hk w' m
def overB (b:List UInt8) (i:Nat) (ys:List UInt8):List UInt8:=b.take i++ys++b.drop (i+ys.length)
theorem overB_len {b ys:List UInt8} {i:Nat} (h:i+ys.length<=b.length):(overB b i ys).length=b.length:=by unfold overB; simp; omega
theorem Lay_c' {a0 a2:Option Addr} {l0 c0 l2 c2 i:Nat} {b ys:List UInt8} (hb:b.length=l0) (hy:ys.length=l2) (hin:i+l2<=l0) (h63:l0<=1048576) (hl0:0<l0) (h0:Row w a0 (u8L b)) (h2:Row w a2 (u8L ys))
  (hk:∀ w',Mod No w w'->AtU w' w.heap.size 0 (u8L (overB b i ys))->K (.tuple #[.slice (some ⟨w.heap.size,0,none⟩) l0 l0,.int .i64 0]) w'):Cal Tryz.prog F_num_Lay #[.slice a0 l0 c0,.int .i64 i,.slice a2 l2 c2] w K:=by
 apply C_num_Lay
 unfold D_num_Lay
 have hwi:∀ {K:Value->World->Prop},K (.bool true) w->Cal Tryz.prog F_num_within #[.slice a0 l0 c0,.int .i64 i,.int .i64 ((l2:Nat):Int)] w K:=fun hk=>by
  apply C_num_within
  refine Share.dup (tt (decide_eq_true (by omega)) (tt (decide_eq_true (by omega)) (tt (decide_eq_true (by omega)) ⟨_,rfl,?_⟩)))
  rw [wrap64 (x:=(l0:Int)-i) (by omega) (by omega),decide_eq_true (by omega)]
  exact hk
 refine hwi ⟨_,rfl,ff rfl ?_⟩
 obtain ⟨w1,hm1,hat1,hmod1,hsz1⟩:=makeSlice_run (P:=Tryz.prog) (w:=w) (n:=l0) elemZ_bytes (by omega) (by omega) (by omega)
 obtain ⟨w2,hc1,hc2,hc3,hc4⟩:=copy_run (P:=Tryz.prog) (T:=55) (T2:=55) (ty:=3) (k:=1) (n:=l0) (c:=l0) (n2:=l0) (c2:=c0) (a2:=a0) (src:=u8L b) (by kernel_rfl) hat1 (by rw [List.length_replicate]) (h0.nos hmod1) (by rw [length_u8L,hb]; omega) (one_u8L b)
 have e1:splice (List.replicate (l0*1) (Value.int .u8 0)) 0 ((u8L b).take (Nat.min l0 l0*1))=u8L b:=by
  have:(u8L b).take (Nat.min l0 l0*1)=u8L b:=List.take_of_length_le (by rw [length_u8L,hb,Nat.mul_one]; exact Nat.le_of_eq (Nat.min_self l0).symm)
  rw [this]; exact splice_all (by rw [length_u8L,hb,List.length_replicate]; omega)
 rw [e1] at hc2
 have M2:Mod No w w2:=hmod1.trans hc3 fun x hx e=>by omega
 have h2':=h2.nos M2
 refine ⟨_,_,_,w1,hm1,_,w2,hc1,_,_,_,slice_l (k:=1) (by kernel_rfl) (by omega) (by omega),?_⟩
 rw [Int.toNat_natCast]
 by_cases hil:i=l0
 ·have hy0:ys=[]:=List.eq_nil_of_length_eq_zero (by omega)
  have hl20:l2=0:=by omega
  subst hy0
  have hcut:cutA (some ⟨w.heap.size,0,none⟩) l0 i 1=some ⟨w.heap.size,0,none⟩:=by unfold cutA; rw [if_pos hil.symm]
  rw [hcut]
  obtain ⟨w3,hd1,hd2,hd3,hd4⟩:=copy_in (P:=Tryz.prog) (T:=55) (T2:=55) (ty:=3) (k:=1) (i:=0) (n:=l0-i) (c:=l0-i) (n2:=l2) (c2:=c2) (a2:=a2) (src:=u8L []) (by kernel_rfl) hc2 (by simp; omega) h2' (by simp [hl20]) (one_u8L [])
  refine ⟨_,w3,hd1,hk w3 (M2.trans hd3 fun x hx e=>by omega) ?_⟩
  have e2:splice (u8L b) 0 ((u8L []).take (Nat.min l2 (l0-i)*1))=u8L (overB b i []):=by simp [splice,u8L,overB]
  rw [e2] at hd2; exact hd2
 ·have hcut:cutA (some ⟨w.heap.size,0,none⟩) l0 i 1=some ⟨w.heap.size,0+i,none⟩:=by
   unfold cutA; rw [if_neg (by omega)]; simp [add_none]
  rw [hcut]
  obtain ⟨w3,hd1,hd2,hd3,hd4⟩:=copy_in (P:=Tryz.prog) (T:=55) (T2:=55) (ty:=3) (k:=1) (i:=i) (n:=l0-i) (c:=l0-i) (n2:=l2) (c2:=c2) (a2:=a2) (src:=u8L ys) (by kernel_rfl) hc2 (by simp [hb]; omega) h2' (by simp [hy]) (one_u8L ys)
  refine ⟨_,w3,hd1,hk w3 (M2.trans hd3 fun x hx e=>by omega) ?_⟩
  have e2:splice (u8L b) i ((u8L ys).take (Nat.min l2 (l0-i)*1))=u8L (overB b i ys):=by
   have:(u8L ys).take (Nat.min l2 (l0-i)*1)=u8L ys:=List.take_of_length_le (by rw [length_u8L,hy,Nat.mul_one]; exact Nat.le_of_eq (Nat.min_eq_left (by omega)).symm)
   rw [this,splice_u8L]; rfl
  rw [e2] at hd2; exact hd2
end
end Go.Proofs.YtandmpcjjaabmaaGreat
open Go Go.Den Go.Proofs
namespace Go.Proofs.YtandmpcjjaabmaaGreat
structure Ch where
 id:Nat
 b:Nat
 frm:Nat
 data:List UInt8
 after:List Int
 out:Bool
structure On where
 b:Nat
 base:Bk
 l:List Ch
structure Ps where
 C:Ca
 last:Nat
 ons:List On
def Ps.all (P:Ps):List Ch:=P.ons.flatMap (·.l)
def Ps.opn (P:Ps) (id:Int):Bool:=P.all.any fun c=>(c.id:Int)==id
def meetB (c o:Ch):Bool:=decide (c.frm<o.frm+o.data.length)&&decide (o.frm<c.frm+c.data.length)
def badB (op:Int->Bool) (pre:List Ch) (ok:List Int) (c:Ch):Bool:=(c.after.any fun id=>op id&&!(ok.contains id)) || (pre.any fun x=>meetB x c&&!(ok.contains (x.id:Int)))
def mayN (op:Int->Bool) (l:List Ch):Nat->List Int
 | 0=>[]
 | n+1=>match l[n]? with
  | some c=>if badB op (l.take n) (mayN op l n) c=true then mayN op l n else mayN op l n++[(c.id:Int)]
  | none=>mayN op l n
def mayL (op:Int->Bool) (l:List Ch):List Int:=mayN op l l.length
def withL (base:Bk) (l:List Ch):Bk:=l.foldl (fun b c=>overB b c.frm c.data) base
structure WFS (P:Ps):Prop where
 full:P.C.D.vs.length<=P.C.most
 onsN:(P.ons.map (·.b)).Nodup
 onlt:∀ o∈P.ons,o.b<P.C.D.vs.length
 base:∀ o∈P.ons,o.base.length=256
 llen:∀ o∈P.ons,o.l.length<=P.last
 ids:(P.all.map (·.id)).Nodup
 idr:∀ x∈P.all,1<=x.id/\x.id<=P.last
 chb:∀ o∈P.ons,∀ x∈o.l,x.b=o.b
 dat:∀ x∈P.all,1<=x.data.length/\x.frm+x.data.length<=256
 aft:∀ x∈P.all,x.after.length<=1000000
 last:P.last<=1000000
def Cls (l:List Ch):Prop:=l.Pairwise fun x y=>y.out=true->meetB x y=true->x.out=true
structure WFP (P:Ps):Prop where
 lne:∀ o∈P.ons,o.l≠[]
 pin:∀ o∈P.ons,∃ x∈P.C.l,x.b=o.b/\x.pins=1/\x.data=withL o.base o.l
 unp:∀ x∈P.C.l,(∀ o∈P.ons,o.b≠x.b)->x.pins=0/\x.data=atD P.C.D x.b
 run:P.C.D.left=-1
 acc:∀ o∈P.ons,atD P.C.D o.b=withL o.base (o.l.filter (·.out))
 may:∀ o∈P.ons,∀ x∈o.l,x.out=true->(x.id:Int)∈mayL P.opn o.l
 cls:∀ o∈P.ons,Cls o.l
 afl:∀ x∈P.all,∀ k∈x.after,k<(x.id:Int)
theorem mem_all {P:Ps} {x:Ch}:x∈P.all↔∃ o∈P.ons,x∈o.l:=by unfold Ps.all; rw [List.mem_flatMap]
def ChAt (w:World) (rl:Nat->Nat) (q:Nat) (x:Ch):Prop :=
 ∃ gd cd aa ca,AtU w q 0 [.int .i64 x.id,.int .i64 x.b,.int .i64 x.frm,.slice (some ⟨gd,0,none⟩) x.data.length cd,.slice aa x.after.length ca,.bool x.out]/\At w gd 0 (u8L x.data)/\rl gd=5/\Row w aa (iL x.after)/\∀ q,aa=some q->rl q.block=5
def OnAt (w0 w:World) (rl:Nat->Nat) (ca:Nat->Nat) (q:Nat) (o:On):Prop :=
 ∃ g cc la lc,AtU w q 0 [.slice (some ⟨g,0,none⟩) 256 cc,.slice la o.l.length lc]/\At w g 0 (u8L o.base)/\rl g=5/\Ow Tryz.prog w w0.heap.size 253 1 la o.l.length lc (pL (o.l.map fun x=>ca x.id))/\∀ q,la=some q->rl q.block=9+3*o.b
structure PIn (w0:World) (R:Nat->Prop) (rl:Nat->Nat) (w:World) (sp c d mo mm:Nat) (ca oa:Nat->Nat) (Lo Lm:List (Int×Value)) (P:Ps):Prop where
 cx:Cx w0 (fun x=>rl x=1) w c d P.C
 cell:AtU w sp 0 [.pointer (some ⟨c,0,none⟩),.int .i64 P.C.D.vs.length,.int .i64 P.last,.map (some mo),.map (some mm)]
 mapO:MapAt w mo Lo
 mapM:MapAt w mm Lm
 rsp:rl sp=2
 rmo:rl mo=3
 rmm:rl mm=4
 chs:∀ x∈P.all,lookupL Lo x.id=some (pV (ca x.id))/\rl (ca x.id)=10+3*x.id/\ChAt w rl (ca x.id) x
 ons:∀ o∈P.ons,lookupL Lm o.b=some (pV (oa o.b))/\rl (oa o.b)=8+3*o.b/\OnAt w0 w rl ca (oa o.b) o
 keysO:∀ p∈Lo,∃ x∈P.all,p.1=(x.id:Int)
 keysM:∀ p∈Lm,∃ o∈P.ons,p.1=(o.b:Int)
 wf:WFS P
 reg:∀ x,rl x≠0->R x
 lo:∀ x,R x->w0.heap.size<=x/\x<w.heap.size
 mod:Mod No w0 w
section
variable {w0 w w':World} {R:Nat->Prop} {rl:Nat->Nat} {sp c d mo mm:Nat} {ca oa:Nat->Nat} {Lo Lm:List (Int×Value)} {P:Ps}
theorem ChAt.keep {S:Nat->Prop} {q:Nat} {x:Ch} (h:ChAt w rl q x) (k:Mod S w w') (hq:¬ S q) (h5:∀ z,rl z=5->¬ S z):ChAt w' rl q x:=by
 obtain ⟨gd,cd,aa,ca,h1,h2,h3,h4,h6⟩:=h
 exact ⟨gd,cd,aa,ca,h1.keep k hq,h2.keep k (h5 _ h3),h3,h4.keep k fun q hq=>h5 _ (h6 q hq),h6⟩
theorem ChAt.role {rl':Nat->Nat} {q:Nat} {x:Ch} (h:ChAt w rl q x) (hr:∀ z,rl z=5->rl' z=5):ChAt w rl' q x:=by
 obtain ⟨gd,cd,aa,ca,h1,h2,h3,h4,h6⟩:=h
 exact ⟨gd,cd,aa,ca,h1,h2,hr _ h3,h4,fun q hq=>hr _ (h6 q hq)⟩
theorem OnAt.keep {S:Nat->Prop} {q:Nat} {o:On} (h:OnAt w0 w rl ca q o) (k:Mod S w w') (hq:¬ S q) (h5:∀ z,rl z=5->¬ S z) (h9:∀ z,rl z=9+3*o.b->¬ S z):OnAt w0 w' rl ca q o:=by
 obtain ⟨g,cc,la,lc,h1,h2,h3,h4,h6⟩:=h
 exact ⟨g,cc,la,lc,h1.keep k hq,h2.keep k (h5 _ h3),h3,h4.keep k fun q hq=>h9 _ (h6 q hq),h6⟩
theorem OnAt.role {rl':Nat->Nat} {ca':Nat->Nat} {q:Nat} {o:On} (h:OnAt w0 w rl ca q o) (hr:∀ z,rl z≠0->rl' z=rl z) (hc:∀ x∈o.l,ca' x.id=ca x.id):OnAt w0 w rl' ca' q o:=by
 obtain ⟨g,cc,la,lc,h1,h2,h3,h4,h6⟩:=h
 refine ⟨g,cc,la,lc,h1,h2,by rw [hr g (by omega)]; exact h3,?_,fun q hq=>by rw [hr q.block (by rw [h6 q hq]; omega)]; exact h6 q hq⟩
 have e:(o.l.map fun x=>ca' x.id)=o.l.map fun x=>ca x.id:=List.map_congr_left hc
 rw [e]; exact h4
theorem PIn.keepS {S:Nat->Prop} (h:PIn w0 R rl w sp c d mo mm ca oa Lo Lm P) (k:Mod S w w') (hsr:∀ x,R x->¬ S x) (hw:∀ x,x<w0.heap.size->¬ S x):PIn w0 R rl w' sp c d mo mm ca oa Lo Lm P:=by
 have hr:∀ {x},rl x≠0->¬ S x:=fun hx=>hsr _ (h.reg _ hx)
 exact {
  cx:=h.cx.keep k (fun x hx=>hr (by have e:rl x=1:=hx; omega)) hw
  cell:=h.cell.keep k (hr (by rw [h.rsp]; omega))
  mapO:=h.mapO.keep k (hr (by rw [h.rmo]; omega))
  mapM:=h.mapM.keep k (hr (by rw [h.rmm]; omega))
  rsp:=h.rsp
  rmo:=h.rmo
  rmm:=h.rmm
  chs:=fun x hx=>by
   obtain ⟨h1,h2,h3⟩:=h.chs x hx
   exact ⟨h1,h2,h3.keep k (hr (by omega)) fun z hz=>hr (by omega)⟩
  ons:=fun o ho=>by
   obtain ⟨h1,h2,h3⟩:=h.ons o ho
   exact ⟨h1,h2,h3.keep k (hr (by omega)) (fun z hz=>hr (by omega)) fun z hz=>hr (by omega)⟩
  keysO:=h.keysO
  keysM:=h.keysM
  wf:=h.wf
  reg:=h.reg
  lo:=fun x hx=>by have:=h.lo x hx; have:=k.size; omega
  mod:=h.mod.trans k fun x hx e=>absurd e (hw x hx) }
theorem PIn.nos (h:PIn w0 R rl w sp c d mo mm ca oa Lo Lm P) (k:Mod No w w'):PIn w0 R rl w' sp c d mo mm ca oa Lo Lm P:=h.keepS k (fun _ _=>id) fun _ _=>id
theorem PIn.widen {R':Nat->Prop} (h:PIn w0 R rl w sp c d mo mm ca oa Lo Lm P) (h1:∀ x,R x->R' x) (h2:∀ x,R' x->w0.heap.size<=x/\x<w.heap.size):PIn w0 R' rl w sp c d mo mm ca oa Lo Lm P :=
 { h with reg:=fun x hx=>h1 x (h.reg x hx),lo:=h2 }
theorem PIn.gro (h:PIn w0 R rl w sp c d mo mm ca oa Lo Lm P) (k:Mod No w w'):PIn w0 (Gro R w w') rl w' sp c d mo mm ca oa Lo Lm P :=
 (h.nos k).widen (fun x hx=>.inl hx) fun x hx=>by
  have:=k.size
  have:=h.mod.size
  rcases hx with hx | hx
  ·have:=h.lo x hx; omega
  ·omega
theorem PIn.out_of {x:Nat} (h:PIn w0 R rl w sp c d mo mm ca oa Lo Lm P) (hx:w.heap.size<=x):rl x=0:=by
 by_cases e:rl x=0
 ·exact e
 ·have:=h.lo x (h.reg x e); omega
theorem PIn.cache {w1:World} {C':Ca} (h:PIn w0 R rl w sp c d mo mm ca oa Lo Lm P) (m1:Mod (fun x=>rl x=1) w w1) (m2:Mod No w1 w') (hc:Cx w0 (Gro (fun x=>rl x=1) w w1) w' c d C') (hD:C'.D.vs.length=P.C.D.vs.length) (hm:C'.most=P.C.most) :
  ∃ rl',PIn w0 (Gro R w w1) rl' w' sp c d mo mm ca oa Lo Lm { P with C:=C' }/\(∀ x,rl x≠0->rl' x=rl x):=by
 have hold:∀ x,rl x≠0->x<w.heap.size:=fun x hx=>(h.lo x (h.reg x hx)).2
 have hz1:=m1.size
 have hz2:=m2.size
 have hw0:=h.mod.size
 have hsame:∀ x,rl x≠0->(if w.heap.size<=x/\x<w1.heap.size then 1 else rl x)=rl x:=by
  intro x hx
  rw [if_neg (by have:=hold x hx; omega)]
 have k:Mod (fun x=>rl x=1) w w':=m1.no m2
 have n1:∀ {x},rl x≠0->rl x≠1->¬ (rl x=1):=fun _ h=>h
 refine ⟨fun x=>if w.heap.size<=x/\x<w1.heap.size then 1 else rl x,?_,hsame⟩
 exact {
  cx:=by
   have e:(fun x=>(if w.heap.size<=x/\x<w1.heap.size then 1 else rl x)=1)=Gro (fun x=>rl x=1) w w1:=by
    funext x
    unfold Gro
    apply propext
    constructor
    ·intro e
     split at e
     ·rename_i hn; exact .inr hn
     ·exact .inl e
    ·rintro (e | e)
     ·rw [hsame x (by omega)]; exact e
     ·rw [if_pos e]
   rw [e]; exact hc
  cell:=by
   have:=h.cell.keep k (by rw [h.rsp]; omega)
   show AtU w' sp 0 [_,.int .i64 C'.D.vs.length,_,_,_]
   rw [hD]; exact this
  mapO:=h.mapO.keep k (by rw [h.rmo]; omega)
  mapM:=h.mapM.keep k (by rw [h.rmm]; omega)
  rsp:=by show (if _ then 1 else rl sp)=2; rw [hsame sp (by rw [h.rsp]; omega)]; exact h.rsp
  rmo:=by show (if _ then 1 else rl mo)=3; rw [hsame mo (by rw [h.rmo]; omega)]; exact h.rmo
  rmm:=by show (if _ then 1 else rl mm)=4; rw [hsame mm (by rw [h.rmm]; omega)]; exact h.rmm
  chs:=fun x hx=>by
   obtain ⟨h1,h2,h3⟩:=h.chs x hx
   refine ⟨h1,?_,(h3.keep k (by omega) fun z hz=>by omega).role fun z hz=>?_⟩
   ·show (if _ then 1 else rl (ca x.id))=_; rw [hsame _ (by omega)]; exact h2
   ·show (if _ then 1 else rl z)=5; rw [hsame z (by omega)]; exact hz
  ons:=fun o ho=>by
   obtain ⟨h1,h2,h3⟩:=h.ons o ho
   refine ⟨h1,?_,(h3.keep k (by omega) (fun z hz=>by omega) fun z hz=>by omega).role hsame fun _ _=>rfl⟩
   show (if _ then 1 else rl (oa o.b))=_; rw [hsame _ (by omega)]; exact h2
  keysO:=h.keysO
  keysM:=h.keysM
  wf:={ full:=(by show C'.D.vs.length<=C'.most; rw [hD,hm]; exact h.wf.full),onsN:=h.wf.onsN,onlt:=(fun o ho=>by show o.b<C'.D.vs.length; rw [hD]; exact h.wf.onlt o ho),base:=h.wf.base,llen:=h.wf.llen,ids:=h.wf.ids,idr:=h.wf.idr,chb:=h.wf.chb,dat:=h.wf.dat,aft:=h.wf.aft,last:=h.wf.last }
  reg:=fun x hx=>by
   by_cases hn:w.heap.size<=x/\x<w1.heap.size
   ·exact .inr hn
   ·simp only [if_neg hn] at hx
    exact .inl (h.reg x hx)
  lo:=fun x hx=>by
   rcases hx with hx | hx
   ·have:=h.lo x hx; omega
   ·omega
  mod:=h.mod.trans k fun x hx e=>by
   have:=h.lo x (h.reg x (by omega))
   omega }
theorem PIn.step {S:Nat->Prop} {rl' ca' oa':Nat->Nat} {Lo' Lm':List (Int×Value)} {P':Ps} (h:PIn w0 R rl w sp c d mo mm ca oa Lo Lm P) (hC:P'.C=P.C) (k:Mod S w w') (hx:Ext w w' rl rl') (hx1:∀ x,rl' x=1->rl x=1)
  (hS:∀ x,x<w.heap.size->S x->rl x≠0/\rl x≠1/\rl x≠5)
  (hcell:AtU w' sp 0 [.pointer (some ⟨c,0,none⟩),.int .i64 P.C.D.vs.length,.int .i64 P'.last,.map (some mo),.map (some mm)]) (hO:MapAt w' mo Lo') (hM:MapAt w' mm Lm')
  (hch:∀ x∈P'.all,(x∈P.all/\lookupL Lo' x.id=lookupL Lo x.id/\ca' x.id=ca x.id/\∀ q,S q->rl q≠10+3*x.id)\/(lookupL Lo' x.id=some (pV (ca' x.id))/\rl' (ca' x.id)=10+3*x.id/\ChAt w' rl' (ca' x.id) x))
  (hon:∀ o∈P'.ons,(o∈P.ons/\lookupL Lm' o.b=lookupL Lm o.b/\oa' o.b=oa o.b/\(∀ x∈o.l,ca' x.id=ca x.id)/\∀ q,S q->rl q≠8+3*o.b/\rl q≠9+3*o.b)\/(lookupL Lm' o.b=some (pV (oa' o.b))/\rl' (oa' o.b)=8+3*o.b/\OnAt w0 w' rl' ca' (oa' o.b) o))
  (hkO:∀ p∈Lo',∃ x∈P'.all,p.1=(x.id:Int)) (hkM:∀ p∈Lm',∃ o∈P'.ons,p.1=(o.b:Int)) (hwf:WFS P') :
  PIn w0 (Gro R w w') rl' w' sp c d mo mm ca' oa' Lo' Lm' P' where
 cx:=by
  have e:(fun x=>rl' x=1)=fun x=>rl x=1:=by
   funext x
   exact propext ⟨hx1 x,fun e=>by rw [hx.old x (by omega)]; exact e⟩
  rw [e,hC]
  refine h.cx.keep k (fun x hx' e=>?_) fun x hx' e=>?_
  ·have e1:rl x=1:=hx'
   have:=hS x (h.lo x (h.reg x (by omega))).2 e
   omega
  ·have:=h.mod.size
   have:=hS x (by omega) e
   have:=h.lo x (h.reg x (by omega))
   omega
 cell:=by rw [hC]; exact hcell
 mapO:=hO
 mapM:=hM
 rsp:=by rw [hx.old sp (by rw [h.rsp]; omega)]; exact h.rsp
 rmo:=by rw [hx.old mo (by rw [h.rmo]; omega)]; exact h.rmo
 rmm:=by rw [hx.old mm (by rw [h.rmm]; omega)]; exact h.rmm
 chs:=fun x hx'=>by
  rcases hch x hx' with ⟨e1,e2,e3,e4⟩ | hn
  ·obtain ⟨h1,h2,h3⟩:=h.chs x e1
   rw [e3]
   refine ⟨e2.trans h1,by rw [hx.old _ (by omega)]; exact h2,(h3.keep k (fun e=>e4 _ e h2) fun z hz e=>?_).role fun z hz=>by rw [hx.old z (by omega)]; exact hz⟩
   have:=hS z (h.lo z (h.reg z (by omega))).2 e
   omega
  ·exact hn
 ons:=fun o ho=>by
  rcases hon o ho with ⟨e1,e2,e3,e4,e5⟩ | hn
  ·obtain ⟨h1,h2,h3⟩:=h.ons o e1
   rw [e3]
   refine ⟨e2.trans h1,by rw [hx.old _ (by omega)]; exact h2,(h3.keep k (fun e=>(e5 _ e).1 h2) (fun z hz e=>?_) fun z hz e=>(e5 _ e).2 hz).role hx.old e4⟩
   have:=hS z (h.lo z (h.reg z (by omega))).2 e
   omega
  ·exact hn
 keysO:=hkO
 keysM:=hkM
 wf:=hwf
 reg:=fun x hn=>by
  by_cases e:rl x=0
  ·exact .inr (hx.new x e hn)
  ·exact .inl (h.reg x e)
 lo:=fun x hx=>by
  have:=k.size
  have:=h.mod.size
  rcases hx with hx | hx
  ·have:=h.lo x hx; omega
  ·omega
 mod:=h.mod.trans k fun x hx e=>by
  have:=h.mod.size
  have:=hS x (by omega) e
  have:=h.lo x (h.reg x (by omega))
  omega
end
end Go.Proofs.YtandmpcjjaabmaaGreat
open Go Go.Den Go.Proofs
namespace Go.Proofs.YtandmpcjjaabmaaGreat
section
variable {w0 w w':World} {R:Nat->Prop} {rl:Nat->Nat} {sp c d mo mm:Nat} {ca oa:Nat->Nat} {Lo Lm:List (Int×Value)} {P:Ps} {K:Value->World->Prop}
theorem mapOpen:mapZ Tryz.prog 236=some (.pointer none):=by kernel_rfl
theorem mapOns:mapZ Tryz.prog 237=some (.pointer none):=by kernel_rfl
theorem PIn.lc (h:PIn w0 R rl w sp c d mo mm ca oa Lo Lm P):Ru (Instr.loadAt 233 (.pointer (some (Addr.add ⟨sp,0,none⟩ 0)))) w (.pointer (some ⟨c,0,none⟩)) w:=by
 rw [add_none]; exact h.cell.at.load (by kernel_rfl) rfl
theorem PIn.llen' (h:PIn w0 R rl w sp c d mo mm ca oa Lo Lm P):Ru (Instr.loadAt 3 (.pointer (some (Addr.add ⟨sp,0,none⟩ 1)))) w (.int .i64 P.C.D.vs.length) w:=by
 rw [add_none]; exact h.cell.at.load (by kernel_rfl) rfl
theorem PIn.llast (h:PIn w0 R rl w sp c d mo mm ca oa Lo Lm P):Ru (Instr.loadAt 2 (.pointer (some (Addr.add ⟨sp,0,none⟩ 2)))) w (.int .i64 P.last) w:=by
 rw [add_none]; exact h.cell.at.load (by kernel_rfl) rfl
theorem PIn.lo' (h:PIn w0 R rl w sp c d mo mm ca oa Lo Lm P):Ru (Instr.loadAt 236 (.pointer (some (Addr.add ⟨sp,0,none⟩ 3)))) w (.map (some mo)) w:=by
 rw [add_none]; exact h.cell.at.load (by kernel_rfl) rfl
theorem PIn.lm (h:PIn w0 R rl w sp c d mo mm ca oa Lo Lm P):Ru (Instr.loadAt 237 (.pointer (some (Addr.add ⟨sp,0,none⟩ 4)))) w (.map (some mm)) w:=by
 rw [add_none]; exact h.cell.at.load (by kernel_rfl) rfl
theorem PIn.lookO (h:PIn w0 R rl w sp c d mo mm ca oa Lo Lm P) (n:Int):∃ p:Option Addr,Ru (Instr.lookup 236 (.map (some mo)) (.int .i64 n) false) w (.pointer p) w/\p.isNone=!P.opn n/\∀ x∈P.all,(x.id:Int)=n->p=some ⟨ca x.id,0,none⟩:=by
 have hl:=lookup_run (P:=Tryz.prog) mapOpen h.mapO (k:=n)
 cases hL:lookupL Lo n with
 | none =>
  rw [hL] at hl
  have hno:∀ x∈P.all,(x.id:Int)≠n:=fun x hx e=>by
   have:=(h.chs x hx).1
   rw [e,hL] at this; cases this
  refine ⟨none,hl,?_,fun x hx e=>absurd e (hno x hx)⟩
  have:P.opn n=false:=by
   unfold Ps.opn
   rw [List.any_eq_false]
   intro x hx; simpa using hno x hx
  rw [this]; rfl
 | some v =>
  rw [hL] at hl
  obtain ⟨x,hx,e⟩:=h.keysO _ (look_mem hL)
  have e2:n=(x.id:Int):=e
  have h1:=(h.chs x hx).1
  rw [<- e2,hL] at h1
  have:=Option.some.inj h1
  subst this
  have ho:P.opn n=true:=by
   unfold Ps.opn
   rw [List.any_eq_true]
   exact ⟨x,hx,by simp [e2]⟩
  refine ⟨some ⟨ca x.id,0,none⟩,hl,by rw [ho]; rfl,fun y hy ey=>?_⟩
  have h2:=(h.chs y hy).1
  rw [ey,hL] at h2
  have:=Option.some.inj h2
  simp [pV] at this
  rw [this]
def onOf (P:Ps) (n:Int):Option On:=P.ons.find? fun o=>(o.b:Int)==n
theorem onOf_some {P:Ps} {n:Int} {o:On} (h:onOf P n=some o):o∈P.ons/\n=(o.b:Int):=by
 unfold onOf at h
 refine ⟨List.mem_of_find?_eq_some h,?_⟩
 have:=List.find?_some h
 simp at this; exact this.symm
theorem onOf_none {P:Ps} {n:Int} (h:onOf P n=none):∀ o∈P.ons,(o.b:Int)≠n:=by
 unfold onOf at h
 intro o ho
 have:=List.find?_eq_none.1 h o ho
 simpa using this
theorem PIn.lookM (h:PIn w0 R rl w sp c d mo mm ca oa Lo Lm P) (n:Int):Ru (Instr.lookup 237 (.map (some mm)) (.int .i64 n) false) w (.pointer ((onOf P n).map fun o=>⟨oa o.b,0,none⟩)) w:=by
 have hl:=lookup_run (P:=Tryz.prog) mapOns h.mapM (k:=n)
 cases ho:onOf P n with
 | none =>
  have hL:lookupL Lm n=none:=by
   cases hL:lookupL Lm n with
   | none=>rfl
   | some v =>
    obtain ⟨o,ho',e⟩:=h.keysM _ (look_mem hL)
    exact absurd (show (o.b:Int)=n from e.symm) (onOf_none ho o ho')
  rw [hL] at hl; exact hl
 | some o =>
  obtain ⟨h1,rfl⟩:=onOf_some ho
  rw [(h.ons o h1).1] at hl
  exact hl
theorem given_c (h:PIn w0 R rl w sp c d mo mm ca oa Lo Lm P) {n:Int} (hk:K (.bool (decide (1<=n/\n<=P.last))) w):Cal Tryz.prog F_patch_Store_given #[.pointer (some ⟨sp,0,none⟩),.int .i64 n] w K:=by
 apply C_patch_Store_given
 unfold D_patch_Store_given
 refine Share.cut (fun x w'=>x=[.bool (decide (1<=n/\n<=P.last))]/\w'=w) (cond_of (fun hb=>?_) (fun hb=>?_)) ?_
 ·have:=of_decide_eq_true hb
  refine ⟨_,rfl,_,h.llast,?_,rfl⟩
  congr 2; rw [Bool.eq_iff_iff]; simp only [decide_eq_true_eq]; omega
 ·have:=of_decide_eq_false hb
  refine ⟨?_,rfl⟩
  congr 2; rw [Bool.eq_iff_iff]; simp; omega
 ·rintro x w' ⟨rfl,rfl⟩
  exact ⟨_,rfl,hk⟩
end
end Go.Proofs.YtandmpcjjaabmaaGreat
open Go Go.Den Go.Proofs
namespace Go.Proofs.YtandmpcjjaabmaaGreat
theorem on_all {P:Ps} {o:On} (ho:o∈P.ons) {x:Ch} (hx:x∈o.l):x∈P.all:=mem_all.2 ⟨o,ho,hx⟩
section
variable {w0 w w':World} {R:Nat->Prop} {rl:Nat->Nat} {sp c d mo mm:Nat} {ca oa:Nat->Nat} {Lo Lm:List (Int×Value)} {P:Ps} {K:Value->World->Prop}
theorem box_store (w:World) (p:Option Addr):(Instr.box 159 (.pointer p)).run Tryz.prog w=.ok (.pointer (some ⟨w.heap.size,0,none⟩)) (w.alloc (.cells ⟨[.pointer p]⟩ 159)):=rfl
end
end Go.Proofs.YtandmpcjjaabmaaGreat
open Go Go.Den Go.Proofs
namespace Go.Proofs.YtandmpcjjaabmaaGreat
theorem withL_snoc (base:Bk) (l:List Ch) (c:Ch):withL base (l++[c])=overB (withL base l) c.frm c.data:=by unfold withL; rw [List.foldl_append]; rfl
theorem withL_len {base:Bk} (hb:base.length=256):∀ l:List Ch,(∀ x∈l,x.frm+x.data.length<=256)->(withL base l).length=256:=by
 intro l
 induction l generalizing base with
 | nil=>intro _; exact hb
 | cons c l ih =>
  intro h
  have h2:=h c (by simp)
  exact ih (base:=overB base c.frm c.data) (by rw [overB_len (by omega),hb]) fun x hx=>h x (by simp [hx])
section
variable {w0 w w':World} {R:Nat->Prop} {rl:Nat->Nat} {sp c d mo mm:Nat} {ca oa:Nat->Nat} {Lo Lm:List (Int×Value)} {P:Ps} {K:Value->World->Prop}
def Px (w0:World) (R:Nat->Prop) (w:World) (sp d:Nat) (P:Ps):Prop:=WFP P/\∃ rl c mo mm ca oa Lo Lm,PIn w0 R rl w sp c d mo mm ca oa Lo Lm P
theorem Px.nos (h:Px w0 R w sp d P) (k:Mod No w w'):Px w0 R w' sp d P:=by
 obtain ⟨hw,rl,c,mo,mm,ca,oa,Lo,Lm,h⟩:=h
 exact ⟨hw,rl,c,mo,mm,ca,oa,Lo,Lm,h.nos k⟩
theorem Px.gro (h:Px w0 R w sp d P) (k:Mod No w w'):Px w0 (Gro R w w') w' sp d P:=by
 obtain ⟨hw,rl,c,mo,mm,ca,oa,Lo,Lm,h⟩:=h
 exact ⟨hw,rl,c,mo,mm,ca,oa,Lo,Lm,h.gro k⟩
theorem Px.wf (h:Px w0 R w sp d P):WFP P/\WFS P/\WFC P.C/\WF P.C.D/\Mod No w0 w/\(∀ x,R x->w0.heap.size<=x/\x<w.heap.size):=by
 obtain ⟨hw,rl,c,mo,mm,ca,oa,Lo,Lm,h⟩:=h
 exact ⟨hw,h.wf,h.cx.wf.1,h.cx.wf.2.1,h.mod,h.lo⟩
def cont (P:Ps) (b:Nat):Bk:=match findB P.C.l b with | some x=>x.data | none=>atD P.C.D b
theorem ask_some {C:Ca} {b:Nat} (h:WFC C) (hf:C.D.vs.length<=C.most) (hb:b<C.D.vs.length):∃ C',askC C b=some C':=by
 unfold askC
 cases hx:findB C.l b with
 | some x=>exact ⟨_,rfl⟩
 | none =>
  have hlt:C.l.length<C.most:=by
   have hno:=findB_none hx
   have h1:(b::C.l.map (·.b)).Nodup:=by
    rw [List.nodup_cons]
    refine ⟨fun hm=>?_,h.nodup⟩
    obtain ⟨x,hx',e⟩:=List.mem_map.1 hm
    exact hno x hx' e
   have h2:=List.Nodup.length_le_of_subset h1 (l₂:=List.range C.D.vs.length) fun k hk=>by
    rw [List.mem_range]
    rcases List.mem_cons.1 hk with rfl | hk
    ·exact hb
    ·obtain ⟨x,hx',rfl⟩:=List.mem_map.1 hk
     exact h.lt x hx'
   simp at h2
   omega
  have:roomC C=some C:=by unfold roomC; rw [if_pos hlt]
  rw [this]
  exact ⟨_,rfl⟩
theorem WFP.ask {C':Ca} {b:Nat} {l0:List Bf} {y:Bf} (h:WFP P) (hs:WFS P) (hc:WFC P.C) (A:Asked P.C C' b l0 y):WFP { P with C:=C' } where
 lne:=h.lne
 pin:=fun o ho=>by
  obtain ⟨x,hx,h1,h2,h3⟩:=h.pin o ho
  exact ⟨x,A.keep x hx (by simp [idleB,h2]),h1,h2,h3⟩
 unp:=fun x hx hno=>by
  show x.pins=0/\x.data=atD C'.D x.b
  rw [A.D]
  rcases A.from_ x hx with hx' | ⟨rfl,_⟩
  ·exact h.unp x hx' hno
  ·exact ⟨rfl,rfl⟩
 run:=by show C'.D.left=-1; rw [A.D]; exact h.run
 acc:=fun o ho=>by show atD C'.D o.b=_; rw [A.D]; exact h.acc o ho
 may:=h.may
 cls:=h.cls
 afl:=h.afl
theorem cont_ask {C':Ca} {b:Nat} {l0:List Bf} {y:Bf} (h:WFP P) (hc:WFC P.C) (A:Asked P.C C' b l0 y) (n:Nat):cont { P with C:=C' } n=cont P n:=by
 unfold cont
 show (match findB C'.l n with | some x=>x.data | none=>atD C'.D n)=_
 rw [A.D]
 cases hf:findB C'.l n with
 | some x =>
  obtain ⟨hx,hxb⟩:=findB_some hf
  rcases A.from_ x hx with hx' | ⟨rfl,hno⟩
  ·have:=findB_mem hc.nodup hx'
   rw [hxb] at this
   rw [this]
  ·have hxb:b=n:=hxb
   subst hxb
   rw [hno]
 | none =>
  cases hf2:findB P.C.l n with
  | none=>rfl
  | some x =>
   obtain ⟨hx,hxb⟩:=findB_some hf2
   have hno:=findB_none hf
   by_cases hi:idleB P.C.D x=true
   ·have hcl:clean P.C.D x=true:=by unfold idleB at hi; simp only [Bool.and_eq_true] at hi; exact hi.2
    unfold clean at hcl
    have:=of_decide_eq_true hcl
    show atD P.C.D n=x.data
    rw [this,hxb]
   ·exact absurd hxb (hno x (A.keep x hx (by simpa using hi)))
set_option maxRecDepth 100000 in
theorem pRead_c {n:Int} (hP:Px w0 R w sp d P) (hk0:errOf P.C.D n≠0->∀ w',Mod No w w'->K (.tuple #[.slice none 0 0,.int .i64 (errOf P.C.D n)]) w')
  (hk:∀ b:Nat,n=b->b<P.C.D.vs.length->∀ w1 w' a cc C',Mod R w w1->Mod No w1 w'->Px w0 (Gro R w w1) w' sp d { P with C:=C' }->C'.D=P.C.D->C'.most=P.C.most->(∀ m,cont { P with C:=C' } m=cont P m)->Ow Tryz.prog w' w1.heap.size 55 1 a 256 cc (u8L (cont P b))->K (.tuple #[.slice a 256 cc,.int .i64 0]) w') :
  Cal Tryz.prog F_patch_Store_Read #[.pointer (some ⟨sp,0,none⟩),.int .i64 n] w K:=by
 obtain ⟨hw,rl,c,mo,mm,ca,oa,Lo,Lm,h⟩:=hP
 apply C_patch_Store_Read
 unfold D_patch_Store_Read
 have hcw:=h.cx.wf
 by_cases he:errOf P.C.D n=0
 ·obtain ⟨b,rfl,hb⟩:=err_range he
  obtain ⟨C',ha⟩:=ask_some hcw.1 h.wf.full hb
  obtain ⟨l0,y,A⟩:=ask_facts hcw.1 hcw.2.1 hb ha
  have hr0:rdX P.C b=(C',0,lastD C'.l):=by unfold rdX; rw [if_neg (by omega),Int.toNat_natCast,ha]
  have hyl:y∈C'.l:=by rw [A.l]; simp
  have hld:lastD C'.l=cont P b:=by
   have h1:lastD C'.l=y.data:=by unfold lastD; rw [A.l]; simp
   have h2:=cont_ask hw hcw.1 A b
   unfold cont at h2
   have h3:=findB_mem A.wf.nodup hyl
   rw [A.yb] at h3
   have h4:(match findB C'.l b with | some x=>x.data | none=>atD C'.D b)=cont P b:=h2
   rw [h3] at h4
   rw [h1]; exact h4
  have hlen:(lastD C'.l).length=256:=by
   have h1:lastD C'.l=y.data:=by unfold lastD; rw [A.l]; simp
   rw [h1]; exact A.wf.data y hyl
  refine ff rfl ⟨_,rfl,_,h.lc,cRead_c h.cx fun w1 w2 a2 c2 m1 m2 x2 o2=>?_⟩
  simp only [hr0,hlen] at x2 o2 |-
  obtain ⟨rl',h',_⟩:=h.cache m1 m2 x2 (by rw [A.D]) A.most
  refine ⟨_,_,_,_,rfl,?_⟩
  rw [hld] at o2
  exact hk b rfl hb w1 w2 a2 c2 C' (m1.mono fun z _ e=>h.reg z (by have e1:rl z=1:=e; omega)) m2 ⟨hw.ask h.wf hcw.1 A,rl',c,mo,mm,ca,oa,Lo,Lm,h'⟩ A.D A.most (cont_ask hw hcw.1 A) o2
 ·have hr0:rdX P.C n=(P.C,errOf P.C.D n,[]):=by unfold rdX; rw [if_pos he]
  refine ff rfl ⟨_,rfl,_,h.lc,?_⟩
  obtain ⟨rl3,m3,sb3,mb3,sc3,lc3,la3,L3,mp3,h3⟩:=h.cx
  apply C_cache_Cache_Read
  refine cmay_c (xs:=[]) h3 rfl (by omega) (.inl rfl) ⟨_,rfl,?_⟩
  have hm:mayE P.C.D n 0 []=errOf P.C.D n:=by unfold mayE; rw [if_pos he]
  rw [hm]
  exact tt (by simpa using he) ⟨_,_,_,_,rfl,hk0 he w (Mod.refl _ _)⟩
end
end Go.Proofs.YtandmpcjjaabmaaGreat
open Go Go.Den Go.Proofs
namespace Go.Proofs.YtandmpcjjaabmaaGreat
theorem badB_congr {op op':Int->Bool} {pre:List Ch} {ok:List Int} {c:Ch} (h:∀ k∈c.after,op k=op' k):badB op pre ok c=badB op' pre ok c:=by
 unfold badB
 congr 1
 rw [Bool.eq_iff_iff,List.any_eq_true,List.any_eq_true]
 constructor
 ·rintro ⟨k,hk,e⟩; exact ⟨k,hk,by rw [<- h k hk]; exact e⟩
 ·rintro ⟨k,hk,e⟩; exact ⟨k,hk,by rw [h k hk]; exact e⟩
theorem mayN_congr {op op':Int->Bool} {l:List Ch} (h:∀ x∈l,∀ k∈x.after,op k=op' k):∀ n,mayN op l n=mayN op' l n
 | 0=>rfl
 | n+1=>by
  have ih:=mayN_congr h n
  unfold mayN
  cases hx:l[n]? with
  | none=>exact ih
  | some c =>
   simp only
   rw [ih,badB_congr (h c (List.mem_of_getElem? hx))]
theorem mayL_congr {op op':Int->Bool} {l:List Ch} (h:∀ x∈l,∀ k∈x.after,op k=op' k):mayL op l=mayL op' l:=mayN_congr h _
theorem mayN_append {op:Int->Bool} {l r:List Ch}:∀ n,n<=l.length->mayN op (l++r) n=mayN op l n
 | 0,_=>rfl
 | n+1,h=>by
  have ih:=mayN_append (op:=op) (l:=l) (r:=r) n (by omega)
  unfold mayN
  rw [List.getElem?_append_left (by omega),List.take_append_of_le_length (by omega),ih]
theorem mayN_mono {op : Int → Bool} {l : List Ch} {k : Int} : ∀ {n m : Nat}, n ≤ m → k ∈ mayN op l n → k ∈ mayN op l m := by
  intro n m h hk
  induction m with
  | zero => have : n = 0 := by omega
            subst this; exact hk
  | succ m ih =>
    by_cases e : n = m + 1
    · subst e; exact hk
    · have hm := ih (by omega)
      unfold mayN
      split
      · split
        · exact hm
        · exact List.mem_append.2 (.inl hm)
      · exact hm
end Go.Proofs.YtandmpcjjaabmaaGreat
open Go Go.Den Go.Proofs
namespace Go.Proofs.YtandmpcjjaabmaaGreat
def contV (V:Ps) (b:Nat):Bk:=match onOf V b with | some o=>withL o.base o.l | none=>atD V.C.D b
def newO (V:Ps) (b:Nat):Ps:=match onOf V b with | some _=>V | none=>{ V with ons:=V.ons++[⟨b,contV V b,[]⟩] }
def appO (V:Ps) (x:Ch):Ps:={ V with last:=x.id,ons:=V.ons.map fun o=>if o.b=x.b then { o with l:=o.l++[x] } else o }
def addX (V:Ps) (x:Ch):Ps:=appO (newO V x.b) x
def newX (V:Ps) (b frm:Nat) (data:Bk) (after:List Int):Ch:=⟨V.last+1,b,frm,data,after.filter V.opn,false⟩
def badA (V:Ps) (after:List Int):Bool:=after.any fun k=>!decide (1<=k/\k<=(V.last:Int))
def patE (V:Ps) (n frm:Int) (data:Bk) (after:List Int):Int :=
 if errOf V.C.D n≠0 then 3 else if data.length=0\/frm<0\/256<frm\/256-frm<data.length then 4 else if badA V after=true then 1 else 0
def patS (V:Ps) (n frm:Int) (data:Bk) (after:List Int):Ps:=if patE V n frm data after=0 then addX V (newX V n.toNat frm.toNat data after) else V
def patN (V:Ps) (n frm:Int) (data:Bk) (after:List Int):Int:=if patE V n frm data after=0 then (V.last+1:Nat) else 0
def mayB (V:Ps) (b:Nat):List Int:=match onOf V b with | some o=>mayL V.opn o.l | none=>[]
def imgB (V:Ps) (b:Nat):Bk:=match onOf V b with | some o=>withL o.base (o.l.filter fun x=>(mayL V.opn o.l).contains (x.id:Int)) | none=>atD V.C.D b
def markF (V:Ps) (b:Nat) (x:Ch):Ch:=if x.b=b then { x with out:=x.out || (mayB V b).contains (x.id:Int) } else x
def mapX (V:Ps) (f:Ch->Ch):List On:=V.ons.map fun o=>{ o with l:=o.l.map f }
def wrVE (V:Ps) (n:Int):Int:=if errOf V.C.D n≠0 then 3 else if (onOf V n).isNone=true then 20 else 0
def wrV (V:Ps) (n:Int):Ps:=if wrVE V n=0 then { V with C:={ V.C with D:=wrSt V.C.D n (imgB V n.toNat) },ons:=mapX V (markF V n.toNat) } else V
def flOn (o:On):Option On:=if (o.l.filter fun x=>!x.out).isEmpty=true then none else some { o with base:=withL o.base (o.l.filter (·.out)),l:=o.l.filter fun x=>!x.out }
def flV (V:Ps):Ps:={ V with C:={ V.C with D:=flSt V.C.D },ons:=V.ons.filterMap flOn }
theorem on_uniq {P:Ps} (h:WFS P) {o o':On} (ho:o∈P.ons) (ho':o'∈P.ons) (e:o.b=o'.b):o=o':=map_inj h.onsN ho ho' e
theorem onOf_mem {P:Ps} (h:WFS P) {o:On} (ho:o∈P.ons):onOf P o.b=some o:=by
 cases hf:onOf P o.b with
 | none=>exact absurd rfl (onOf_none hf o ho)
 | some o' =>
  obtain ⟨h1,h2⟩:=onOf_some hf
  rw [on_uniq h ho h1 (by omega)]
theorem cont_view {P:Ps} (h:WFP P) (hs:WFS P) (hc:WFC P.C) (b:Nat):cont P b=contV P b:=by
 unfold cont contV
 cases ho:onOf P b with
 | some o =>
  obtain ⟨h1,h2⟩:=onOf_some ho
  obtain ⟨x,hx,e1,e2,e3⟩:=h.pin o h1
  have:=findB_mem hc.nodup hx
  rw [show x.b=b by omega] at this
  rw [this]; exact e3
 | none =>
  cases hf:findB P.C.l b with
  | none=>rfl
  | some x =>
   obtain ⟨hx,hb⟩:=findB_some hf
   have:=(h.unp x hx fun o ho' e=>onOf_none ho o ho' (by omega)).2
   rw [hb] at this
   exact this
theorem split_on {l:List On} (hn:(l.map (·.b)).Nodup) {o:On} (ho:o∈l) (f:On->On):∃ s t,l=s++o::t/\(l.map fun p=>if p.b=o.b then f p else p)=s++f o::t/\∀ p∈s++t,p.b≠o.b:=by
 obtain ⟨s,t,rfl⟩:=List.append_of_mem ho
 have hno:∀ p∈s++t,p.b≠o.b:=by
  intro p hp e
  rw [List.map_append,List.map_cons] at hn
  have h1:=List.nodup_append.1 hn
  have h2:=List.nodup_cons.1 h1.2.1
  rcases List.mem_append.1 hp with hp | hp
  ·exact h1.2.2 _ (List.mem_map.2 ⟨p,hp,rfl⟩) _ (by simp) e
  ·exact h2.1 (List.mem_map.2 ⟨p,hp,e⟩)
 have hid:∀ q:List On,(∀ p∈q,p.b≠o.b)->(q.map fun p=>if p.b=o.b then f p else p)=q:=by
  intro q hq
  conv=>rhs; rw [<- List.map_id q]
  apply List.map_congr_left
  intro p hp
  rw [if_neg (hq p hp)]; rfl
 refine ⟨s,t,rfl,?_,hno⟩
 rw [List.map_append,List.map_cons,if_pos rfl,hid s fun p hp=>hno p (List.mem_append.2 (.inl hp)),hid t fun p hp=>hno p (List.mem_append.2 (.inr hp))]
theorem all_newO {V:Ps} {b:Nat}:(newO V b).all=V.all:=by
 unfold newO
 split
 ·rfl
 ·unfold Ps.all; simp
theorem opn_newO {V:Ps} {b:Nat}:(newO V b).opn=V.opn:=by unfold Ps.opn; rw [all_newO]
theorem newO_C {V:Ps} {b:Nat}:(newO V b).C=V.C/\(newO V b).last=V.last:=by unfold newO; split <;> exact ⟨rfl,rfl⟩
theorem newO_on {V:Ps} {b:Nat}:∃ o∈(newO V b).ons,o.b=b:=by
 unfold newO
 split
 ·rename_i o ho
  obtain ⟨h1,h2⟩:=onOf_some ho
  exact ⟨o,h1,by omega⟩
 ·exact ⟨⟨b,contV V b,[]⟩,by simp,rfl⟩
theorem WFS.newO {V:Ps} (h:WFS V) {b:Nat} (hb:b<V.C.D.vs.length) (hl:(contV V b).length=256):WFS (newO V b):=by
 unfold Go.Proofs.YtandmpcjjaabmaaGreat.newO
 cases ho:onOf V b with
 | some o=>exact h
 | none =>
  have hno:=onOf_none ho
  have hall:Ps.all { V with ons:=V.ons++[⟨b,contV V b,[]⟩] }=V.all:=by unfold Ps.all; simp
  exact {
   full:=h.full
   onsN:=by
    rw [List.map_append]
    refine List.nodup_append.2 ⟨h.onsN,by simp,?_⟩
    intro a ha c hc
    simp at hc; subst hc
    obtain ⟨o,ho,rfl⟩:=List.mem_map.1 ha
    have:=hno o ho; omega
   onlt:=fun o ho=>by
    rcases List.mem_append.1 ho with ho | ho
    ·exact h.onlt o ho
    ·simp at ho; subst ho; exact hb
   base:=fun o ho=>by
    rcases List.mem_append.1 ho with ho | ho
    ·exact h.base o ho
    ·simp at ho; subst ho; exact hl
   llen:=fun o ho=>by
    rcases List.mem_append.1 ho with ho | ho
    ·exact h.llen o ho
    ·simp at ho; subst ho; simp
   ids:=by rw [hall]; exact h.ids
   idr:=by rw [hall]; exact h.idr
   chb:=fun o ho=>by
    rcases List.mem_append.1 ho with ho | ho
    ·exact h.chb o ho
    ·simp at ho; subst ho; intro x hx; cases hx
   dat:=by rw [hall]; exact h.dat
   aft:=by rw [hall]; exact h.aft
   last:=h.last }
theorem WFS.bump {V:Ps} (h:WFS V) (hl:V.last+1<=1000000):WFS { V with last:=V.last+1 } where
 full:=h.full
 onsN:=h.onsN
 onlt:=h.onlt
 base:=h.base
 llen:=fun o ho=>by have:=h.llen o ho; show o.l.length<=V.last+1; omega
 ids:=h.ids
 idr:=fun x hx=>by have:=h.idr x hx; show 1<=x.id/\x.id<=V.last+1; omega
 chb:=h.chb
 dat:=h.dat
 aft:=h.aft
 last:=hl
structure Fit (V:Ps) (x:Ch):Prop where
 id:x.id=V.last+1
 lt:x.b<V.C.D.vs.length
 dat:1<=x.data.length/\x.frm+x.data.length<=256
 aft:x.after.length<=1000000
 afl:∀ k∈x.after,k<(x.id:Int)
 out:x.out=false
theorem appO_all {V:Ps} (h:WFS V) {x:Ch} {o:On} (ho:o∈V.ons) (e:o.b=x.b):∃ s t,V.ons=s++o::t/\(appO V x).ons=s++{ o with l:=o.l++[x] }::t/\(∀ p∈s++t,p.b≠x.b)/\(appO V x).all.Perm (x::V.all):=by
 obtain ⟨s,t,h1,h2,h3⟩:=split_on h.onsN ho fun o=>{ o with l:=o.l++[x] }
 rw [e] at h3
 have h2':(appO V x).ons=s++{ o with l:=o.l++[x] }::t:=by
  rw [<- h2]; unfold appO; rw [<- e]
 refine ⟨s,t,h1,h2',h3,?_⟩
 unfold Ps.all
 rw [h2',h1]
 simp only [List.flatMap_append,List.flatMap_cons,List.append_assoc]
 have:=(List.perm_middle (a:=x) (l₁:=s.flatMap (·.l)++o.l) (l₂:=t.flatMap (·.l)))
 simpa using this
theorem WFS.app {V:Ps} (h:WFS V) {x:Ch} {o:On} (ho:o∈V.ons) (e:o.b=x.b) (hx:Fit V x) (hl:x.id<=1000000):WFS (appO V x):=by
 obtain ⟨s,t,h1,h2,h3,hp⟩:=appO_all h ho e
 have hid:=hx.id
 have hmem:∀ y∈(appO V x).all,y=x\/y∈V.all:=fun y hy=>by simpa using hp.mem_iff.1 hy
 have hon:∀ p∈(appO V x).ons,p∈V.ons\/p={ o with l:=o.l++[x] }:=fun p hp=>by
  rw [h2] at hp
  rw [h1]
  simp only [List.mem_append,List.mem_cons] at hp |-
  rcases hp with hp | hp | hp
  ·exact .inl (.inl hp)
  ·exact .inr hp
  ·exact .inl (.inr (.inr hp))
 exact {
  full:=h.full
  onsN:=by
   have:(appO V x).ons.map (·.b)=V.ons.map (·.b):=by rw [h2,h1]; simp
   rw [this]; exact h.onsN
  onlt:=fun p hp=>by
   rcases hon p hp with hp | rfl
   ·exact h.onlt p hp
   ·exact h.onlt o ho
  base:=fun p hp=>by
   rcases hon p hp with hp | rfl
   ·exact h.base p hp
   ·exact h.base o ho
  llen:=fun p hp=>by
   show p.l.length<=x.id
   rcases hon p hp with hp | rfl
   ·have:=h.llen p hp; omega
   ·have:=h.llen o ho; simp; omega
  ids:=by
   rw [(hp.map (·.id)).nodup_iff,List.map_cons,List.nodup_cons]
   refine ⟨fun hm=>?_,h.ids⟩
   obtain ⟨y,hy,e⟩:=List.mem_map.1 hm
   have:=h.idr y hy
   omega
  idr:=fun y hy=>by
   show 1<=y.id/\y.id<=x.id
   rcases hmem y hy with rfl | hy
   ·omega
   ·have:=h.idr y hy; omega
  chb:=fun p hp=>by
   rcases hon p hp with hp | rfl
   ·exact h.chb p hp
   ·intro y hy
    rcases List.mem_append.1 hy with hy | hy
    ·exact h.chb o ho y hy
    ·simp at hy; subst hy; exact e.symm
  dat:=fun y hy=>by
   rcases hmem y hy with rfl | hy
   ·exact hx.dat
   ·exact h.dat y hy
  aft:=fun y hy=>by
   rcases hmem y hy with rfl | hy
   ·exact hx.aft
   ·exact h.aft y hy
  last:=hl }
theorem opn_app {V:Ps} (h:WFS V) {x:Ch} {o:On} (ho:o∈V.ons) (e:o.b=x.b) (k:Int):(appO V x).opn k=(decide ((x.id:Int)=k) || V.opn k):=by
 obtain ⟨s,t,h1,h2,h3,hp⟩:=appO_all h ho e
 unfold Ps.opn
 rw [hp.any_eq,List.any_cons]
 congr 1
theorem WFP.add {P:Ps} {C3:Ca} {x:Ch} (h:WFP P) (hs:WFS P) (hx:Fit P x) (hbl:(contV P x.b).length=256) (hl:x.id<=1000000) (hD:C3.D=P.C.D) (ht:∀ y,y.b≠x.b->(y∈C3.l↔y∈P.C.l)) (hn:(C3.l.map (·.b)).Nodup)
  (hy:∃ y∈C3.l,y.b=x.b/\y.pins=1/\y.data=overB (contV P x.b) x.frm x.data):WFP { addX P x with C:=C3 }:=by
 have hs1:=hs.newO hx.lt hbl
 obtain ⟨eC,eL⟩:=newO_C (V:=P) (b:=x.b)
 -- the store behind newO,but for pins
 have g1:∀ o∈(newO P x.b).ons,(o∈P.ons)\/(o=⟨x.b,contV P x.b,[]⟩/\onOf P x.b=none):=by
  intro o ho
  unfold newO at ho
  split at ho
  ·exact .inl ho
  ·rename_i hno
   rcases List.mem_append.1 ho with ho | ho
   ·exact .inl ho
   ·simp at ho; exact .inr ⟨ho,hno⟩
 have gs:∀ o∈P.ons,o∈(newO P x.b).ons:=by
  intro o ho
  unfold newO
  split
  ·exact ho
  ·exact List.mem_append.2 (.inl ho)
 obtain ⟨o,ho,e⟩:=newO_on (V:=P) (b:=x.b)
 have hx1:Fit (newO P x.b) x:=⟨by rw [eL]; exact hx.id,by rw [eC]; exact hx.lt,hx.dat,hx.aft,hx.afl,hx.out⟩
 obtain ⟨s,t,h1,h2,h3,hp⟩:=appO_all hs1 ho e
 have hop:∀ k,(addX P x).opn k=(decide ((x.id:Int)=k) || P.opn k):=fun k=>by
  have:=opn_app hs1 ho e k
  rw [opn_newO] at this
  exact this
 have hoo:∀ k,k<(x.id:Int)->P.opn k=(addX P x).opn k:=fun k hk=>by
  rw [hop,decide_eq_false (by omega),Bool.false_or]
 have hafl:∀ y∈P.all,∀ k∈y.after,k<(x.id:Int):=fun y hy k hk=>by
  have:=h.afl y hy k hk
  have:=hs.idr y hy
  have:=hx.id
  omega
 have hon:∀ p∈(addX P x).ons,(p∈(newO P x.b).ons/\p.b≠x.b)\/p={ o with l:=o.l++[x] }:=fun p hp=>by
  have hp:p∈(appO (newO P x.b) x).ons:=hp
  rw [h2] at hp
  rw [h1]
  simp only [List.mem_append,List.mem_cons] at hp |-
  rcases hp with hp | hp | hp
  ·exact .inl ⟨.inl hp,h3 p (by simp [hp])⟩
  ·exact .inr hp
  ·exact .inl ⟨.inr (.inr hp),h3 p (by simp [hp])⟩
 have hcov:∀ p∈(newO P x.b).ons,∃ p'∈(addX P x).ons,p'.b=p.b:=fun p hp=>by
  show ∃ p'∈(appO (newO P x.b) x).ons,p'.b=p.b
  rw [h2]
  rw [h1] at hp
  simp only [List.mem_append,List.mem_cons] at hp
  rcases hp with hp | rfl | hp
  ·exact ⟨p,by simp [hp],rfl⟩
  ·exact ⟨{ p with l:=p.l++[x] },by simp,rfl⟩
  ·exact ⟨p,by simp [hp],rfl⟩
 have holdo:(newO P x.b).ons=P.ons\/o.l=[]:=by
  rcases g1 o ho with hm | ⟨rfl,_⟩
  ·left
   unfold newO
   cases hno:onOf P x.b with
   | some _=>rfl
   | none=>exact absurd (by omega) (onOf_none hno o hm)
  ·exact .inr rfl
 have hcb:withL o.base o.l=contV P x.b:=by
  rcases g1 o ho with hm | ⟨rfl,_⟩
  ·unfold contV
   have:=onOf_mem hs hm
   rw [e] at this
   rw [this]
  ·rfl
 have hom:∀ y∈o.l,y∈P.all:=fun y hy=>by
  have:y∈(newO P x.b).all:=mem_all.2 ⟨o,ho,hy⟩
  rwa [all_newO] at this
 exact {
  lne:=fun p hp=>by
   rcases hon p hp with ⟨hp,hb⟩ | rfl
   ·rcases g1 p hp with hp | ⟨rfl,_⟩
    ·exact h.lne p hp
    ·exact absurd rfl hb
   ·simp
  pin:=fun p hp=>by
   rcases hon p hp with ⟨hp,hb⟩ | rfl
   ·rcases g1 p hp with hp | ⟨rfl,_⟩
    ·obtain ⟨y,hy1,hy2,hy3,hy4⟩:=h.pin p hp
     exact ⟨y,(ht y (by rw [hy2]; exact hb)).2 hy1,hy2,hy3,hy4⟩
    ·exact absurd rfl hb
   ·obtain ⟨y,hy1,hy2,hy3,hy4⟩:=hy
    refine ⟨y,hy1,by rw [hy2]; exact e.symm,hy3,?_⟩
    show y.data=withL o.base (o.l++[x])
    rw [withL_snoc,hcb]; exact hy4
  unp:=fun y hy1 hno=>by
   show y.pins=0/\y.data=atD C3.D y.b
   rw [hD]
   have hyb:y.b≠x.b:=fun e'=>by
    obtain ⟨p',hp',e2⟩:=hcov o ho
    exact hno p' hp' (by rw [e2,e,e'])
   refine h.unp y ((ht y hyb).1 hy1) fun p hp e'=>?_
   obtain ⟨p',hp',e2⟩:=hcov p (gs p hp)
   exact hno p' hp' (by rw [e2,e'])
  run:=by show C3.D.left=-1; rw [hD]; exact h.run
  acc:=fun p hp=>by
   show atD C3.D p.b=_
   rw [hD]
   rcases hon p hp with ⟨hp,hb⟩ | rfl
   ·rcases g1 p hp with hp | ⟨rfl,_⟩
    ·exact h.acc p hp
    ·exact absurd rfl hb
   ·show atD P.C.D o.b=withL o.base ((o.l++[x]).filter (·.out))
    rw [List.filter_append,List.filter_cons_of_neg (by simp [hx.out]),List.filter_nil,List.append_nil]
    rcases g1 o ho with hm | ⟨rfl,hno⟩
    ·exact h.acc o hm
    ·show _=contV P x.b
     unfold contV; rw [hno]
  may:=fun p hp y hy1 hyo=>by
   show (y.id:Int)∈mayL (addX P x).opn p.l
   rcases hon p hp with ⟨hp,hb⟩ | rfl
   ·rcases g1 p hp with hp | ⟨rfl,_⟩
    ·rw [<- mayL_congr (op:=P.opn) fun z hz k hk=>hoo k (hafl z (mem_all.2 ⟨p,hp,hz⟩) k hk)]
     exact h.may p hp y hy1 hyo
    ·exact absurd rfl hb
   ·have hyl:y∈o.l:=by
     rcases List.mem_append.1 hy1 with hy1 | hy1
     ·exact hy1
     ·simp at hy1; subst hy1; rw [hx.out] at hyo; cases hyo
    have hm:o∈P.ons:=by
     rcases g1 o ho with hm | ⟨rfl,_⟩
     ·exact hm
     ·cases hyl
    have h5:=h.may o hm y hyl hyo
    rw [mayL_congr (op:=P.opn) (op':=(addX P x).opn) fun z hz k hk=>hoo k (hafl z (hom z hz) k hk)] at h5
    show (y.id:Int)∈mayN (addX P x).opn (o.l++[x]) (o.l++[x]).length
    refine mayN_mono (n:=o.l.length) (by simp) ?_
    rw [mayN_append _ (Nat.le_refl _)]; exact h5
  cls:=fun p hp=>by
   rcases hon p hp with ⟨hp,hb⟩ | rfl
   ·rcases g1 p hp with hp | ⟨rfl,_⟩
    ·exact h.cls p hp
    ·exact absurd rfl hb
   ·show Cls (o.l++[x])
    unfold Cls
    rw [List.pairwise_append]
    refine ⟨?_,by simp,fun a ha c hc hout=>?_⟩
    ·rcases g1 o ho with hm | ⟨rfl,_⟩
     ·exact h.cls o hm
     ·exact List.Pairwise.nil
    ·simp at hc; subst hc; rw [hx.out] at hout; cases hout
  afl:=fun y hy=>by
   have hy:y∈(appO (newO P x.b) x).all:=hy
   have:=hp.mem_iff.1 hy
   rw [all_newO] at this
   rcases List.mem_cons.1 this with rfl | hy
   ·exact hx.afl
   ·exact h.afl y hy }
end Go.Proofs.YtandmpcjjaabmaaGreat
open Go Go.Den Go.Proofs
namespace Go.Proofs.YtandmpcjjaabmaaGreat
theorem wr_is {D:St} {b:Nat} {ys:Bk} (hb:b<D.vs.length) (hy:ys.length=256) (hl:D.left=-1):wrE D b ys=0/\wrSt D b ys=⟨D.vs.set b (D.vs[b]++[ys]),-1⟩:=by
 rcases err_cases (D:=D) (b:Int) with ⟨_,ho⟩ | ⟨he,j,u,hj,hu,hver⟩
 ·omega
 ·have:j=b:=by omega
  subst this
  have hv:D.vs[j]?=some D.vs[j]:=by simp [hb]
  have:u=D.vs[j]:=by rw [hu] at hv; exact Option.some.inj hv
  subst this
  have hw:wrE D j ys=0:=by unfold wrE; rw [he,if_neg (by omega),if_neg (by omega)]
  refine ⟨hw,?_⟩
  unfold wrSt; rw [if_neg (by omega),hver,hl]; rfl
theorem ver_at {D:St} {n:Nat} (h:n<D.vs.length):verOf D n=D.vs[n]:=by
 unfold verOf
 rw [if_neg (by omega),Int.toNat_natCast,List.getElem?_eq_getElem h]; rfl
theorem atD_wrN {D:St} {b:Nat} {ys:Bk} (hb:b<D.vs.length) (hy:ys.length=256) (hl:D.left=-1) (n:Nat):atD (wrSt D b ys) n=if n=b then ys else atD D n:=by
 obtain ⟨_,e2⟩:=wr_is hb hy hl
 rw [e2]
 by_cases hn:n<D.vs.length
 ·unfold atD
  rw [ver_at (D:=⟨_,_⟩) (by simpa using hn)]
  by_cases h:n=b
  ·subst h
   rw [if_pos rfl]
   simp only [List.getElem_set_self]
   unfold lastV
   rw [List.getLastD_eq_getLast?,List.getLast?_append]; simp
  ·rw [if_neg h,ver_at hn]
   simp only
   rw [List.getElem_set_ne (Ne.symm h)]
 ·have h:∀ E:St,E.vs.length=D.vs.length->atD E n=[]:=fun E hE=>by
   unfold atD verOf
   rw [if_neg (by omega),Int.toNat_natCast,List.getElem?_eq_none (by omega)]; rfl
  rw [if_neg (by omega),h _ (by simp),h _ rfl]
theorem atD_fl {D:St} (hl:D.left=-1) (n:Nat):atD (flSt D) n=atD D n:=by
 unfold flSt
 rw [if_neg (by omega)]
 unfold atD verOf
 rw [if_neg (by omega),if_neg (by omega),Int.toNat_natCast]
 simp only [List.getElem?_map]
 cases D.vs[n]? <;> rfl
theorem cont_len {P:Ps} (hs:WFS P) (hD:WF P.C.D) {b:Nat} (hb:b<P.C.D.vs.length):(contV P b).length=256:=by
 unfold contV
 cases ho:onOf P b with
 | none =>
  show (atD P.C.D b).length=256
  unfold atD
  rw [ver_at hb]
  exact hD.lastLen (List.getElem?_eq_getElem hb)
 | some o =>
  obtain ⟨h1,_⟩:=onOf_some ho
  exact withL_len (hs.base o h1) _ fun x hx=>(hs.dat x (on_all h1 hx)).2
end Go.Proofs.YtandmpcjjaabmaaGreat
end
section
open Go Go.Den Go.Proofs
namespace Go.Proofs.YtandmpcjjaabmaaGreat
def tabE (l:Nat) (p:Int):Int:=if l≠256 then 4 else if p<0\/4<=p then 3 else 0
def inoAt (xs:List UInt8) (p:Int):Nd×Int:=if tabE xs.length p≠0 then (nZ,tabE xs.length p) else inoG ((xs.drop (64*p.toNat)).take 64)
theorem inoAt_wf (xs:List UInt8) (p:Int):nWf (inoAt xs p).1:=by unfold inoAt; split; rfl; exact inoG_wf _
section
variable {w:World} {K:Value->World->Prop}
theorem tabMay_c {a:Option Addr} {l c:Nat} {p:Int} (hk:K (.int .i64 (tabE l p)) w):Cal Tryz.prog F_inode_may #[.slice a l c,.int .i64 p] w K:=by
 apply C_inode_may
 unfold D_inode_may
 rw [bneI]
 refine cond_of (fun h=>?_) (fun h=>?_)
 ·have h:=of_decide_eq_true h
  have e:tabE l p=4:=by unfold tabE; rw [if_pos (by omega)]
  rwa [e] at hk
 have h:=of_decide_eq_false h
 refine Share.cut (fun z w4=>w4=w/\z=[.bool (decide (p<0\/4<=p))]) (cond_of (fun h1=>⟨rfl,?_⟩) (fun h1=>⟨rfl,?_⟩)) ?_
 ·have h1:=of_decide_eq_true h1
  rw [decide_eq_true (show p<0\/4<=p from .inl h1)]
 ·have h1:=of_decide_eq_false h1
  by_cases h2:p >= 4
  ·rw [decide_eq_true h2,decide_eq_true (show p<0\/4<=p from .inr h2)]
  ·rw [decide_eq_false h2,decide_eq_false (show ¬ (p<0\/4<=p) by omega)]
 rintro z w4 ⟨rfl,rfl⟩
 refine ⟨_,rfl,cond_of (fun h1=>?_) (fun h1=>?_)⟩
 ·have e:tabE l p=3:=by unfold tabE; rw [if_neg (by omega),if_pos (of_decide_eq_true h1)]
  rwa [e] at hk
 ·have e:tabE l p=0:=by unfold tabE; rw [if_neg (by omega),if_neg (of_decide_eq_false h1)]
  rwa [e] at hk
theorem tabMay_ok {l:Nat} {p:Int} (h:tabE l p=0):l=256/\0<=p/\p<4:=by
 unfold tabE at h
 split at h
 ·cases h
 split at h
 ·cases h
 exact ⟨by omega,by omega,by omega⟩
theorem inoRead_c {a:Option Addr} {l c:Nat} {p:Int} {xs:List UInt8} (hl:xs.length=l) (hc:l<=c) (hr:Row w a (u8L xs)) (h63:l<=1048576)
  (hk:∀ w',Mod No w w'->K (.tuple #[.agg ⟨nV (inoAt xs p).1⟩,.int .i64 (inoAt xs p).2]) w'):Cal Tryz.prog F_inode_Read #[.slice a l c,.int .i64 p] w K:=by
 apply C_inode_Read
 unfold D_inode_Read
 obtain ⟨w1,b1,b2,b3,b4⟩:=new_u (P:=Tryz.prog) (w:=w) (T:=51) zero_ino
 have fin:∀ (w':World) (i:Nd) (e:Int),Mod No w1 w'->(i,e)=inoAt xs p->∃ w3:World,RuU (Instr.storeAt 51 (.pointer (some ⟨w.heap.size,0,none⟩)) (.agg ⟨nV i⟩)) w' w3/\∃ gR2:Array Value,Ru (Instr.loadAt 51 (.pointer (some ⟨w.heap.size,0,none⟩))) w3 (.agg gR2) w3/\K (.tuple #[.agg gR2,.int .i64 e]) w3:=fun w' i e m he=>by
  have hw:nWf i:=by have:=inoAt_wf xs p; rw [<- he] at this; exact this
  obtain ⟨w3,c1,c2,c3,c4⟩:=(b2.keep m id).put (T:=51) (vs:=nV i) agg_ino rfl (nV_len hw) (one_nV _)
  refine ⟨w3,c1,_,c2.at.all agg_ino (nV_len hw),?_⟩
  have:=hk w3 ((b3.no m).own c3 (Nat.le_refl _))
  rw [<- he] at this
  exact this
 refine ⟨_,w1,b1,tabMay_c ⟨_,rfl,?_⟩⟩
 rw [bneI]
 refine cond_of (fun h=>⟨_,build_ino0,?_⟩) (fun h=>?_)
 ·have h:=of_decide_eq_true h
  exact fin w1 nZ _ (Mod.refl _ _) (by unfold inoAt; rw [hl,if_pos h])
 have h:=of_decide_eq_false h
 have hm:tabE l p=0:=by omega
 obtain ⟨rfl,hp0,hp4⟩:=tabMay_ok hm
 obtain ⟨k,rfl⟩:∃ k:Nat,p=k:=⟨p.toNat,by omega⟩
 have e1:IntKind.i64.wrap ((k:Int)*64)=((64*k:Nat):Int):=by rw [wrap64 (by omega) (by omega)]; omega
 have e2:IntKind.i64.wrap ((IntKind.i64.wrap ((k:Int)+1))*64)=((64*k+64:Nat):Int):=by rw [wrap64 (x:=(k:Int)+1) (by omega) (by omega),wrap64 (by omega) (by omega)]; omega
 rw [e1,e2]
 refine ⟨_,_,_,slice_lh elemN_bytes (by omega) (by omega) (by omega),?_⟩
 rw [show ((64*k:Nat):Int).toNat=64*k by omega,show ((64*k+64:Nat):Int).toNat-64*k=64 by omega]
 refine inoGet_c (xs:=(xs.drop (64*k)).take 64) (by simp; omega) (by omega) ((hr.nos b3).cut (by omega) (by omega)) (by omega) fun w4 m4=>⟨_,_,rfl,?_⟩
 exact fin w4 _ _ m4 (by unfold inoAt; rw [hl,if_neg (by omega)]; rfl)
theorem inoLay_c {a:Option Addr} {l c:Nat} {p:Int} {xs:List UInt8} {i:Nd} (hw:nWf i) (hl:xs.length=l) (hr:Row w a (u8L xs)) (h63:l<=1048576) (hm:tabE l p=0) (ho:nOk i=true)
  (hk:∀ w' q,Mod No w w'->w.heap.size<=q->AtU w' q 0 (u8L (overB xs (64*p.toNat) (inoB i)))->K (.tuple #[.slice (some ⟨q,0,none⟩) 256 256,.int .i64 0]) w'):Cal Tryz.prog F_inode_Lay #[.slice a l c,.int .i64 p,.agg ⟨nV i⟩] w K:=by
 apply C_inode_Lay
 unfold D_inode_Lay
 obtain ⟨w1,a1,a2,a3,a4⟩:=box_u (P:=Tryz.prog) (w:=w) (T:=51) (cs:=nV i)
 refine ⟨_,w1,a1,tabMay_c ⟨_,rfl,?_⟩⟩
 rw [hm]
 obtain ⟨rfl,hp0,hp4⟩:=tabMay_ok hm
 obtain ⟨k,rfl⟩:∃ k:Nat,p=k:=⟨p.toNat,by omega⟩
 refine ff rfl ⟨_,a2.at.all agg_ino (nV_len hw),inoPut_c hw (fun h=>by rw [ho] at h; cases h) fun _ w3 q m3 hq hat=>⟨_,_,_,_,rfl,ff rfl ?_⟩⟩
 have e1:IntKind.i64.wrap ((k:Int)*64)=((64*k:Nat):Int):=by rw [wrap64 (by omega) (by omega)]; omega
 rw [e1]
 have M3:=a3.no m3
 refine Lay_c' (b:=xs) (ys:=inoB i) hl (inoB_len hw) (by omega) (by omega) (by omega) (hr.nos M3) (.inr ⟨_,_,rfl,hat.at⟩) fun w4 m4 h4=>⟨_,_,_,_,rfl,?_⟩
 exact hk w4 _ (M3.no m4) M3.size h4
end
end Go.Proofs.YtandmpcjjaabmaaGreat
end
section
open Go Go.Den Go.Proofs
namespace Go.Proofs.YtandmpcjjaabmaaGreat
theorem take_split {xs:List UInt8} {m:Nat} (i:Nat):(xs.drop i).take m++xs.drop (i+m)=xs.drop i:=by
 rw [<- List.drop_drop,List.take_append_drop]
theorem nmTo8 (xs:List UInt8):nmTo xs 8=[nmAt xs 0,nmAt xs 1,nmAt xs 2,nmAt xs 3,nmAt xs 4,nmAt xs 5,nmAt xs 6,nmAt xs 7]:=rfl
theorem nmAt_le {xs:List UInt8} (k:Nat) (h:18+2*k<=xs.length):toLe 2 (nmAt xs k).toNat=(xs.drop (16+2*k)).take 2:=by
 unfold nmAt
 rw [Int.toNat_natCast]
 exact toLe_sub (by omega)
theorem iNames_read {xs:List UInt8} (hl:xs.length=64):iNames (nmTo xs 8)++xs.drop 32=xs.drop 16:=by
 rw [nmTo8]
 unfold iNames
 simp only [List.flatMap_cons,List.flatMap_nil,List.append_nil,List.append_assoc]
 rw [nmAt_le 0 (by omega),nmAt_le 1 (by omega),nmAt_le 2 (by omega),nmAt_le 3 (by omega),nmAt_le 4 (by omega),nmAt_le 5 (by omega),nmAt_le 6 (by omega),nmAt_le 7 (by omega)]
 rw [take_split (16+2*7),take_split (16+2*6),take_split (16+2*5),take_split (16+2*4),take_split (16+2*3),take_split (16+2*2),take_split (16+2*1),take_split (16+2*0)]
theorem id_wrap {n:Nat} (h:n<18446744073709551616) (h0:0<=IntKind.i64.wrap (n:Int)):(IntKind.i64.wrap (n:Int)).toNat=n:=by
 unfold IntKind.wrap at *
 simp [IntKind.signed,IntKind.bits] at *
 split at h0 <;> omega
theorem two_front {xs:List UInt8} (hl:xs.length=64):[xs.getD 0 0,xs.getD 1 0]++xs.drop 2=xs:=by
 match xs,hl with
 | a::b::r,_=>rfl
theorem iFront_read {xs:List UInt8} (hl:xs.length=64) (h:nOk (readN xs)=true):iFront (readN xs)++xs.drop 16=[xs.getD 0 0,0]++xs.drop 2:=by
 have hid:(IntKind.i64.wrap (leN ((xs.drop 8).take 8):Int)).toNat=leN ((xs.drop 8).take 8):=by
  have h0:0<=IntKind.i64.wrap (leN ((xs.drop 8).take 8):Int):=(nOk_b h).2.2.2.2.2.2.1
  refine id_wrap ?_ h0
  have:=leN_lt ((xs.drop 8).take 8)
  rw [show ((xs.drop 8).take 8).length=8 by simp; omega] at this
  omega
 unfold iFront readN
 simp only [Int.toNat_natCast,hid,UInt8.ofNat_toNat,List.append_assoc]
 rw [toLe_sub (by omega),toLe_sub (by omega),toLe_sub (by omega),take_split 8,take_split 4,take_split 2]
theorem inoB_read {xs:List UInt8} (hl:xs.length=64) (h:nOk (readN xs)=true):inoB (readN xs)=xs↔xs.getD 1 0=0/\(xs.drop 32).all (·==0)=true:=by
 have hN:(iFront (readN xs)++iNames (readN xs).p).length=32:=by
  rw [List.length_append,iFront_len,iNames_len]; rfl
 have hr:(xs.drop 32).all (·==0)=true↔xs.drop 32=List.replicate 32 0:=by
  rw [List.all_eq_true,List.eq_replicate_iff]
  constructor
  ·intro h; exact ⟨by simp; omega,fun b hb=>by simpa using h b hb⟩
  ·intro h b hb; simpa using h.2 b hb
 rw [hr]
 constructor
 ·intro e
  refine ⟨?_,?_⟩
  ·rw [<- e]; rfl
  ·have e2:(inoB (readN xs)).drop 32=xs.drop 32:=by rw [e]
   rw [<- e2]
   unfold inoB
   rw [List.drop_append_of_le_length (by omega),List.drop_eq_nil_of_le (by omega),List.nil_append]
 ·intro ⟨e1,e2⟩
  have f:=iFront_read hl h
  rw [<- iNames_read hl,e2,<- List.append_assoc] at f
  have:inoB (readN xs)=iFront (readN xs)++iNames (nmTo xs 8)++List.replicate 32 0:=rfl
  rw [this,f]
  have g:=two_front hl
  rw [e1] at g
  exact g
theorem inoG_doc {xs:List UInt8} (hl:xs.length=64):inoG xs=if nOk (readN xs)=true/\inoB (readN xs)=xs then (readN xs,0) else (nZ,8):=by
 unfold inoG
 rw [if_neg (by omega)]
 by_cases h:nOk (readN xs)=true
 ·have e:=inoB_read hl h
  by_cases hb:inoB (readN xs)=xs
  ·rw [if_pos ⟨(e.1 hb).1,(e.1 hb).2,h⟩,if_pos ⟨h,hb⟩]
  ·rw [if_neg fun x=>hb (e.2 ⟨x.1,x.2.1⟩),if_neg fun x=>hb x.2]
 ·rw [if_neg fun x=>h x.2.2,if_neg fun x=>h x.1]
end Go.Proofs.YtandmpcjjaabmaaGreat
end
section
open Go Go.Den Go.Proofs
namespace Go.Proofs.YtandmpcjjaabmaaGreat
section
variable {w0 w w':World} {R R':Nat->Prop} {rl:Nat->Nat} {sp c d mo mm:Nat} {ca oa:Nat->Nat} {Lo Lm:List (Int×Value)} {P V:Ps} {K:Value->World->Prop}
theorem Px.lo (h:Px w0 R w sp d P):∀ x,R x->w0.heap.size<=x/\x<w.heap.size:=h.wf.2.2.2.2.2
def Pz (w0:World) (R:Nat->Prop) (w:World) (sp d:Nat) (V:Ps):Prop:=∃ C,C.D=V.C.D/\C.most=V.C.most/\Px w0 R w sp d ⟨C,V.last,V.ons⟩
theorem Pz.nos (h:Pz w0 R w sp d V) (k:Mod No w w'):Pz w0 R w' sp d V:=by
 obtain ⟨C,h1,h2,h⟩:=h; exact ⟨C,h1,h2,h.nos k⟩
theorem Pz.lo (h:Pz w0 R w sp d V):∀ x,R x->w0.heap.size<=x/\x<w.heap.size:=by
 obtain ⟨C,h1,h2,h⟩:=h; exact h.lo
theorem contV_C {C:Ca} (e:C.D=V.C.D) (b:Nat):contV ⟨C,V.last,V.ons⟩ b=contV V b:=by
 unfold contV
 show (match onOf V b with | some o=>withL o.base o.l | none=>atD C.D b)=_
 rw [e]
 all_goals cases onOf V b <;> rfl
theorem WFS.cache {C:Ca} (h:WFS P) (hD:C.D.vs.length=P.C.D.vs.length) (hm:C.most=P.C.most):WFS ⟨C,P.last,P.ons⟩ where
 full:=by show C.D.vs.length<=C.most; rw [hD,hm]; exact h.full
 onsN:=h.onsN
 onlt:=fun o ho=>by show o.b<C.D.vs.length; rw [hD]; exact h.onlt o ho
 base:=h.base
 llen:=h.llen
 ids:=h.ids
 idr:=h.idr
 chb:=h.chb
 dat:=h.dat
 aft:=h.aft
 last:=h.last
end
end Go.Proofs.YtandmpcjjaabmaaGreat
open Go Go.Den Go.Proofs
namespace Go.Proofs.YtandmpcjjaabmaaGreat
theorem build_on (w:World) (a:Option Addr) (l cc:Nat):(Instr.build 255 #[(0,.slice a l cc)]).run Tryz.prog w=.ok (.agg ⟨[.slice a l cc,.slice none 0 0]⟩) w:=by kernel_rfl
theorem box_on (w:World) (cs:List Value):(Instr.box 255 (.agg ⟨cs⟩)).run Tryz.prog w=.ok (.pointer (some ⟨w.heap.size,0,none⟩)) (w.alloc (.cells ⟨cs⟩ 255)):=rfl
theorem build_ch (w:World) (i b f:Int) (a:Option Addr) (l cc:Nat):(Instr.build 260 #[(0,.int .i64 i),(1,.int .i64 b),(2,.int .i64 f),(3,.slice a l cc)]).run Tryz.prog w=.ok (.agg ⟨[.int .i64 i,.int .i64 b,.int .i64 f,.slice a l cc,.slice none 0 0,.bool false]⟩) w:=by kernel_rfl
theorem box_ch (w:World) (cs:List Value):(Instr.box 260 (.agg ⟨cs⟩)).run Tryz.prog w=.ok (.pointer (some ⟨w.heap.size,0,none⟩)) (w.alloc (.cells ⟨cs⟩ 260)):=rfl
theorem builtI64 (w:World) (v:Int):(Instr.buildSlice 65 1 #[(0,.int .i64 v)]).run Tryz.prog w=.ok (.slice (some ⟨w.heap.size,0,none⟩) 1 1) (w.alloc (.cells ⟨[.int .i64 v]⟩ 2)):=by kernel_rfl
theorem builtCh (w:World) (p:Option Addr):(Instr.buildSlice 253 1 #[(0,.pointer p)]).run Tryz.prog w=.ok (.slice (some ⟨w.heap.size,0,none⟩) 1 1) (w.alloc (.cells ⟨[.pointer p]⟩ 257)):=by kernel_rfl
section
variable {w0 w w':World} {R R':Nat->Prop} {rl:Nat->Nat} {sp c d mo mm:Nat} {ca oa:Nat->Nat} {Lo Lm:List (Int×Value)} {P V:Ps} {K:Value->World->Prop}
theorem PIn.take (h:PIn w0 R rl w sp c d mo mm ca oa Lo Lm P) {g:Nat} (hg:rl g=0) (h0:w0.heap.size<=g) (h1:g<w.heap.size):PIn w0 (fun x=>R x\/x=g) (ro rl g 5) w sp c d mo mm ca oa Lo Lm P:=by
 have hs:∀ z,rl z≠0->ro rl g 5 z=rl z:=fun z hz=>ro_ne _ fun e=>hz (by rw [e]; exact hg)
 exact {
  cx:=by
   have e:(fun x=>ro rl g 5 x=1)=fun x=>rl x=1:=by
    funext x
    apply propext
    by_cases e:x=g
    ·subst e; rw [ro_same,hg]; omega
    ·rw [ro_ne _ e]
   rw [e]; exact h.cx
  cell:=h.cell
  mapO:=h.mapO
  mapM:=h.mapM
  rsp:=by rw [hs _ (by rw [h.rsp]; omega)]; exact h.rsp
  rmo:=by rw [hs _ (by rw [h.rmo]; omega)]; exact h.rmo
  rmm:=by rw [hs _ (by rw [h.rmm]; omega)]; exact h.rmm
  chs:=fun x hx=>by
   obtain ⟨h1,h2,h3⟩:=h.chs x hx
   exact ⟨h1,by rw [hs _ (by omega)]; exact h2,h3.role fun z hz=>by rw [hs z (by omega)]; exact hz⟩
  ons:=fun o ho=>by
   obtain ⟨h1,h2,h3⟩:=h.ons o ho
   exact ⟨h1,by rw [hs _ (by omega)]; exact h2,h3.role hs fun _ _=>rfl⟩
  keysO:=h.keysO
  keysM:=h.keysM
  wf:=h.wf
  reg:=fun x hx=>by
   by_cases e:x=g
   ·exact .inr e
   ·rw [ro_ne _ e] at hx; exact .inl (h.reg x hx)
  lo:=fun x hx=>by
   rcases hx with hx | rfl
   ·exact h.lo x hx
   ·exact ⟨h0,h1⟩
  mod:=h.mod }
theorem PIn.newOn (h:PIn w0 R rl w sp c d mo mm ca oa Lo Lm P) {b g cc:Nat} (hno:onOf P b=none) (hb:b<P.C.D.vs.length) (hl:(contV P b).length=256) (hg:rl g=5) (hat:At w g 0 (u8L (contV P b))) :
  ∃ w7,RuU (Instr.mapUpdate 237 (.map (some mm)) (.int .i64 b) (.pointer (some ⟨w.heap.size,0,none⟩))) (w.alloc (.cells ⟨[.slice (some ⟨g,0,none⟩) 256 cc,.slice none 0 0]⟩ 255)) w7 /\
   PIn w0 (Gro R w w7) (ro rl w.heap.size (8+3*b)) w7 sp c d mo mm ca (fun k=>if k=b then w.heap.size else oa k) Lo (putL b (pV w.heap.size) Lm) (newO P b)/\Mod (fun z=>z=mm) w w7:=by
 have m1:Mod No w (w.alloc (.cells ⟨[.slice (some ⟨g,0,none⟩) 256 cc,.slice none 0 0]⟩ 255)):=(Mod.refl No w).alloc _
 have a1:AtU (w.alloc (.cells ⟨[.slice (some ⟨g,0,none⟩) 256 cc,.slice none 0 0]⟩ 255)) w.heap.size 0 [.slice (some ⟨g,0,none⟩) 256 cc,.slice none 0 0]:=AtU.new
 have s1:(w.alloc (.cells ⟨[.slice (some ⟨g,0,none⟩) 256 cc,.slice none 0 0]⟩ 255)).heap.size=w.heap.size+1:=by simp
 generalize w.alloc (.cells ⟨[.slice (some ⟨g,0,none⟩) 256 cc,.slice none 0 0]⟩ 255)=w1 at *
 have h1:=h.nos m1
 have hz:=h.out_of (x:=w.heap.size) (Nat.le_refl _)
 obtain ⟨w7,u1,u2,u3,u4⟩:=update_run (P:=Tryz.prog) (T:=237) (k:=(b:Int)) (v:=.pointer (some ⟨w.heap.size,0,none⟩)) mapOns h1.mapM
 have M7:Mod (fun z=>z=mm) w w7:=m1.anys.trans u3 fun _ _ e=>e
 refine ⟨w7,u1,?_,M7⟩
 have hne:∀ {z},rl z≠4->z≠mm:=fun hz e=>hz (by rw [e]; exact h.rmm)
 have hq:w.heap.size≠mm:=hne (by rw [hz]; omega)
 have hno':=onOf_none hno
 have hnO:newO P b={ P with ons:=P.ons++[⟨b,contV P b,[]⟩] }:=by unfold newO; rw [hno]
 have hx:Ext w w7 rl (ro rl w.heap.size (8+3*b)):=(Ext.refl _ _ _).ro (.inr ⟨Nat.le_refl _,by omega,hz⟩) (by omega) (by omega)
 obtain ⟨eC,eL⟩:=newO_C (V:=P) (b:=b)
 refine h.step (P':=newO P b) (Lo':=Lo) (Lm':=putL b (pV w.heap.size) Lm) (ca':=ca) eC M7 hx (fun z e=>?_) (fun z _ e=>by rw [show z=mm from e,h.rmm]; omega) ?_ (h.mapO.keep M7 (hne (by rw [h.rmo]; omega))) u2 ?_ ?_ ?_ ?_ (h.wf.newO hb hl)
 ·by_cases e1:z=w.heap.size
  ·subst e1; rw [ro_same] at e; omega
  ·rw [ro_ne _ e1] at e; exact e
 ·rw [eL]; exact h.cell.keep M7 (hne (by rw [h.rsp]; omega))
 ·intro x hx
  rw [all_newO] at hx
  exact .inl ⟨hx,rfl,rfl,fun q e hq=>by rw [show q=mm from e,h.rmm] at hq; omega⟩
 ·intro o ho
  rw [hnO] at ho
  rcases List.mem_append.1 ho with ho | ho
  ·left
   have:=hno' o ho
   refine ⟨ho,?_,?_,fun _ _=>rfl,fun q e=>by rw [show q=mm from e,h.rmm]; omega⟩
   ·rw [look_put,if_neg (by omega)]
   ·exact if_neg (by omega)
  ·simp only [List.mem_singleton] at ho
   subst ho
   right
   refine ⟨by rw [look_put,if_pos rfl]; simp,by simp [ro_same],?_⟩
   refine ⟨g,cc,none,0,?_,?_,?_,Ow.nil elemZ_chs,fun q hq=>by cases hq⟩
   ·have:=a1.keep u3 hq
    simpa using this
   ·exact (hat.keep m1 id).keep u3 (hne (by rw [hg]; omega))
   ·rw [ro_ne _ (fun e=>by rw [e,hz] at hg; omega)]; exact hg
 ·intro p hp
  obtain ⟨x,hx,e⟩:=h.keysO p hp
  exact ⟨x,by rw [all_newO]; exact hx,e⟩
 ·intro p hp
  rcases put_keys p hp with e | hp
  ·exact ⟨⟨b,contV P b,[]⟩,by rw [hnO]; simp,e⟩
  ·obtain ⟨o,ho,e⟩:=h.keysM p hp
   exact ⟨o,by rw [hnO]; exact List.mem_append.2 (.inl ho),e⟩
theorem PIn.bump (h:PIn w0 R rl w sp c d mo mm ca oa Lo Lm P) (hl:P.last+1<=1000000):∃ w',RuU (Instr.storeAt 2 (.pointer (some (Addr.add ⟨sp,0,none⟩ 2))) (.int .i64 ((P.last+1:Nat):Int))) w w' /\
  PIn w0 (Gro R w w') rl w' sp c d mo mm ca oa Lo Lm { P with last:=P.last+1 }/\Mod (fun z=>z=sp) w w':=by
 obtain ⟨w',u1,u2,u3,u4⟩:=h.cell.store (P:=Tryz.prog) (T:=2) (i:=2) (v:=.int .i64 ((P.last+1:Nat):Int)) (by kernel_rfl) (by simp) rfl
 have hne:∀ {z},rl z≠2->z≠sp:=fun hz e=>hz (by rw [e]; exact h.rsp)
 refine ⟨w',by rw [add_none]; exact u1,?_,u3⟩
 refine h.step (P':={ P with last:=P.last+1 }) rfl u3 (Ext.refl _ _ _) (fun _ e=>e) (fun z _ e=>by rw [show z=sp from e,h.rsp]; omega) (by simpa using u2) (h.mapO.keep u3 (hne (by rw [h.rmo]; omega))) (h.mapM.keep u3 (hne (by rw [h.rmm]; omega))) ?_ ?_ h.keysO h.keysM (h.wf.bump hl)
 ·intro x hx
  exact .inl ⟨hx,rfl,rfl,fun q e hq=>by rw [show q=sp from e,h.rsp] at hq; omega⟩
 ·intro o ho
  exact .inl ⟨ho,rfl,rfl,fun _ _=>rfl,fun q e=>by rw [show q=sp from e,h.rsp]; omega⟩
theorem PIn.appX {S:Nat->Prop} {x:Ch} {o:On} {q gd cd g cc:Nat} {aa la':Option Addr} {ac lc':Nat} (h:PIn w0 R rl w sp c d mo mm ca oa Lo Lm P) (ho:o∈P.ons) (hob:o.b=x.b) (hid:P.last=x.id) (hnew:∀ y∈P.all,y.id≠x.id) (hwf:WFS (appO P x))
  (k:Mod S w w') (hS:∀ z,S z->z=mo\/z=oa x.b\/rl z=9+3*x.b) (hmO:MapAt w' mo (putL x.id (pV q) Lo))
  (hq:w.heap.size<=q/\q<w'.heap.size) (hgd:w.heap.size<=gd/\gd<w'.heap.size) (haa:∀ a,aa=some a->w.heap.size<=a.block/\a.block<w'.heap.size/\a.block≠q/\a.block≠gd) (hqg:q≠gd)
  (hla:∀ a,la'=some a->rl a.block=9+3*x.b\/(w.heap.size<=a.block/\a.block<w'.heap.size/\a.block≠q/\a.block≠gd/\∀ e,aa=some e->a.block≠e.block))
  (c1:AtU w' q 0 [.int .i64 x.id,.int .i64 x.b,.int .i64 x.frm,.slice (some ⟨gd,0,none⟩) x.data.length cd,.slice aa x.after.length ac,.bool x.out]) (c2:At w' gd 0 (u8L x.data)) (c3:Row w' aa (iL x.after))
  (c4:AtU w' (oa x.b) 0 [.slice (some ⟨g,0,none⟩) 256 cc,.slice la' (o.l.length+1) lc']) (hg:rl g=5) (c5:At w' g 0 (u8L o.base)) (c6:Ow Tryz.prog w' w0.heap.size 253 1 la' (o.l.length+1) lc' (pL (o.l.map fun y=>ca y.id)++[pV q])) :
  ∃ rl' ca',PIn w0 (Gro R w w') rl' w' sp c d mo mm ca' oa (putL x.id (pV q) Lo) Lm (appO P x):=by
 classical
 have hbig:∀ {z},w.heap.size<=z->rl z=0:=fun hz=>h.out_of hz
 have hon:=h.ons o ho
 rw [hob] at hon
 have hrS:∀ {z},S z->rl z=3\/rl z=8+3*x.b\/rl z=9+3*x.b:=fun {z} e=>by
  rcases hS z e with e | e | e
  ·left; rw [e]; exact h.rmo
  ·right; left; rw [e]; exact hon.2.1
  ·exact .inr (.inr e)
 -- the roles
 have hx1:Ext w w' rl (ro rl gd 5):=(Ext.refl _ _ _).ro (.inr ⟨hgd.1,hgd.2,hbig hgd.1⟩) (by omega) (by omega)
 have e1:ro rl gd 5 q=0:=by rw [ro_ne _ hqg]; exact hbig hq.1
 have hx2:Ext w w' rl (ro (ro rl gd 5) q (10+3*x.id)):=hx1.ro (.inr ⟨hq.1,hq.2,e1⟩) (by omega) (by omega)
 have hx3:∃ r3,Ext w w' rl r3/\r3 gd=5/\r3 q=10+3*x.id/\(∀ e,aa=some e->r3 e.block=5)/\∀ z,r3 z≠rl z->z=gd\/z=q\/∃ e,aa=some e/\z=e.block:=by
  cases haa':aa with
  | none =>
   refine ⟨_,hx2,by rw [ro_ne _ (Ne.symm hqg),ro_same],ro_same _ _ _,(fun e he=>by cases he),fun z hz=>?_⟩
   by_cases a1:z=q
   ·exact .inr (.inl a1)
   ·by_cases a2:z=gd
    ·exact .inl a2
    ·rw [ro_ne _ a1,ro_ne _ a2] at hz; exact absurd rfl hz
  | some a =>
   obtain ⟨b1,b2,b3,b4⟩:=haa a haa'
   have e2:ro (ro rl gd 5) q (10+3*x.id) a.block=0:=by rw [ro_ne _ b3,ro_ne _ b4]; exact hbig b1
   refine ⟨ro (ro (ro rl gd 5) q (10+3*x.id)) a.block 5,hx2.ro (.inr ⟨b1,b2,e2⟩) (by omega) (by omega),?_,?_,?_,fun z hz=>?_⟩
   ·rw [ro_ne _ (Ne.symm b4),ro_ne _ (Ne.symm hqg),ro_same]
   ·rw [ro_ne _ (Ne.symm b3),ro_same]
   ·intro e he; cases he; exact ro_same _ _ _
   ·by_cases a0:z=a.block
    ·exact .inr (.inr ⟨a,rfl,a0⟩)
    ·by_cases a1:z=q
     ·exact .inr (.inl a1)
     ·by_cases a2:z=gd
      ·exact .inl a2
      ·rw [ro_ne _ a0,ro_ne _ a1,ro_ne _ a2] at hz; exact absurd rfl hz
 obtain ⟨r3,x3,r3g,r3q,r3a,r3o⟩:=hx3
 have hx4:∃ r4,Ext w w' rl r4/\r4 gd=5/\r4 q=10+3*x.id/\(∀ e,aa=some e->r4 e.block=5)/\(∀ e,la'=some e->r4 e.block=9+3*x.b)/\∀ z,r4 z=1->rl z=1:=by
  have h31:∀ z,r3 z=1->rl z=1:=fun z hz=>by
   by_cases e:r3 z=rl z
   ·omega
   ·rcases r3o z e with rfl | rfl | ⟨a,ha,rfl⟩
    ·omega
    ·omega
    ·have:=r3a a ha; omega
  cases hla':la' with
  | none=>exact ⟨r3,x3,r3g,r3q,r3a,(fun e he=>by cases he),h31⟩
  | some a =>
   rcases hla a hla' with hr | ⟨b1,b2,b3,b4,b5⟩
   ·have:r3 a.block=9+3*x.b:=by rw [x3.old _ (by omega)]; exact hr
    exact ⟨r3,x3,r3g,r3q,r3a,fun e he=>by cases he; exact this,h31⟩
   ·have e3:r3 a.block=0:=by
     by_cases e:r3 a.block=rl a.block
     ·rw [e]; exact hbig b1
     ·rcases r3o _ e with e | e | ⟨a2,ha2,e⟩
      ·exact absurd e b4
      ·exact absurd e b3
      ·exact absurd e (b5 a2 ha2)
    refine ⟨ro r3 a.block (9+3*x.b),x3.ro (.inr ⟨b1,b2,e3⟩) (by omega) (by omega),?_,?_,?_,?_,fun z hz=>?_⟩
    ·rw [ro_ne _ (Ne.symm b4)]; exact r3g
    ·rw [ro_ne _ (Ne.symm b3)]; exact r3q
    ·intro e he; rw [ro_ne _ (fun e'=>b5 e he e'.symm)]; exact r3a e he
    ·intro e he; cases he; exact ro_same _ _ _
    ·by_cases a0:z=a.block
     ·rw [a0,ro_same] at hz; omega
     ·rw [ro_ne _ a0] at hz; exact h31 z hz
 obtain ⟨rl',x4,r4g,r4q,r4a,r4l,r41⟩:=hx4
 obtain ⟨s,t,d1,d2,d3,d4⟩:=appO_all h.wf ho hob
 refine ⟨rl',fun n=>if n=x.id then q else ca n,?_⟩
 refine h.step (P':=appO P x) rfl k x4 r41 (fun z _ e=>by have:=hrS e; omega) ?_ hmO (h.mapM.keep k fun e=>by have:=hrS e; rw [h.rmm] at this; omega) ?_ ?_ ?_ ?_ hwf
 ·have:(appO P x).last=P.last:=hid.symm
  rw [this]; exact h.cell.keep k fun e=>by have:=hrS e; rw [h.rsp] at this; omega
 ·intro y hy
  rcases List.mem_cons.1 (d4.mem_iff.1 hy) with rfl | hy
  ·right
   refine ⟨by rw [look_put,if_pos rfl,if_pos rfl],by rw [if_pos rfl]; exact r4q,?_⟩
   rw [if_pos rfl]
   exact ⟨gd,cd,aa,ac,c1,c2,r4g,c3,r4a⟩
  ·left
   have:=hnew y hy
   refine ⟨hy,by rw [look_put,if_neg (by omega)],if_neg this,fun z e e2=>by have:=hrS e; omega⟩
 ·intro p hp
  have hp':p∈s++{ o with l:=o.l++[x] }::t:=by rw [<- d2]; exact hp
  have hca:∀ y∈P.all,(if y.id=x.id then q else ca y.id)=ca y.id:=fun y hy=>if_neg (hnew y hy)
  have hcase:(p∈P.ons/\p.b≠x.b)\/p={ o with l:=o.l++[x] }:=by
   simp only [List.mem_append,List.mem_cons] at hp'
   rcases hp' with hp' | hp' | hp'
   ·exact .inl ⟨by rw [d1]; simp [hp'],d3 p (by simp [hp'])⟩
   ·exact .inr hp'
   ·exact .inl ⟨by rw [d1]; simp [hp'],d3 p (by simp [hp'])⟩
  rcases hcase with ⟨hp1,hpb⟩ | rfl
  ·left
   exact ⟨hp1,rfl,rfl,fun y hy=>hca y (on_all hp1 hy),fun z e=>by have:=hrS e; omega⟩
  ·right
   refine ⟨by show lookupL Lm (o.b:Int)=_; rw [hob]; exact hon.1,by show rl' (oa o.b)=8+3*o.b; rw [hob,x4.old _ (by rw [hon.2.1]; omega)]; exact hon.2.1,?_⟩
   refine ⟨g,cc,la',lc',?_,c5,by rw [x4.old g (by omega)]; exact hg,?_,?_⟩
   ·show AtU w' (oa o.b) 0 [_,.slice la' (o.l++[x]).length lc']
    rw [hob,List.length_append]; exact c4
   ·show Ow Tryz.prog w' w0.heap.size _ 1 la' (o.l++[x]).length lc' (pL ((o.l++[x]).map fun y=>if y.id=x.id then q else ca y.id))
    have:pL ((o.l++[x]).map fun y=>if y.id=x.id then q else ca y.id)=pL (o.l.map fun y=>ca y.id)++[pV q]:=by
     rw [List.map_append]
     unfold pL
     rw [List.map_append]
     congr 1
     ·congr 1
      exact List.map_congr_left fun y hy=>hca y (on_all ho hy)
     ·simp
    rw [this,List.length_append]; exact c6
   ·show ∀ e,la'=some e->rl' e.block=9+3*o.b
    rw [hob]; exact r4l
 ·intro p hp
  rcases put_keys p hp with e | hp
  ·exact ⟨x,d4.mem_iff.2 (by simp),e⟩
  ·obtain ⟨y,hy,e⟩:=h.keysO p hp
   exact ⟨y,d4.mem_iff.2 (by simp [hy]),e⟩
 ·intro p hp
  obtain ⟨o',ho',e⟩:=h.keysM p hp
  rw [d1] at ho'
  simp only [List.mem_append,List.mem_cons] at ho'
  show ∃ o''∈(appO P x).ons,_
  rw [d2]
  rcases ho' with ho' | rfl | ho'
  ·exact ⟨o',by simp [ho'],e⟩
  ·exact ⟨{ o' with l:=o'.l++[x] },by simp,e⟩
  ·exact ⟨o',by simp [ho'],e⟩
theorem tells_given {q:Nat} {xs:List Int} (h:PIn w0 R rl w sp c d mo mm ca oa Lo Lm P) (hq:At w q 0 [.pointer (some ⟨sp,0,none⟩)]) :
  Tells (.func (.func F_patch_Store_Patch_1) #[] #[.pointer (some ⟨q,0,none⟩)]) w No (fun k=>!decide (1<=k/\k<=(P.last:Int))) xs:=by
 intro w' k x _ K hK
 refine ⟨_,_,_,rfl,?_⟩
 show Cal Tryz.prog F_patch_Store_Patch_1 #[.int .i64 x,.pointer (some ⟨q,0,none⟩)] w' K
 apply C_patch_Store_Patch_1
 exact ⟨_,(hq.keep k id).load (i:=0) (by kernel_rfl) rfl,given_c (h.nos k) ⟨_,rfl,hK _ (Mod.refl _ _)⟩⟩
end
end Go.Proofs.YtandmpcjjaabmaaGreat
open Go Go.Den Go.Proofs
namespace Go.Proofs.YtandmpcjjaabmaaGreat
theorem Row.keep2 {w w':World} {S:Nat->Prop} {a:Option Addr} {xs:List Value} (h:Row w a xs) (m:Mod S w w') (hs:∀ q,a=some q->q.block<w.heap.size->¬ S q.block):Row w' a xs:=by
 rcases h with h | ⟨b,o,e,hat⟩
 ·exact .inl h
 ·exact .inr ⟨b,o,e,hat.keep m (hs _ e hat.lt)⟩
theorem turn_iff {l:List Bf} {z y:Bf} (h:y.b≠z.b):y∈turn l z↔y∈l:=by
 constructor
 ·intro hy
  rcases mem_turn hy with rfl | ⟨hy,_⟩
  ·exact absurd rfl h
  ·exact hy
 ·intro hy; exact turn_other hy h
theorem lay_facts {C:Ca} {b:Nat} {y:Bf} {ys:Bk} (h:WFC C) (hD:WF C.D) (hy:y∈C.l) (hb:y.b=b) (hl:ys.length=256) :
  ∃ C',layX C b ys=(C',0)/\C'.D=C.D/\C'.most=C.most/\(∀ z,z.b≠b->(z∈C'.l↔z∈C.l))/\∃ z∈C'.l,z.b=b/\z.pins=y.pins/\z.data=ys:=by
 have hlt:b<C.D.vs.length:=by rw [<- hb]; exact h.lt y hy
 have hf:findB C.l b=some y:=by rw [<- hb]; exact findB_mem h.nodup hy
 have ha:askC C b=some { C with l:=others C.l b++[y] }:=by unfold askC; rw [hf]
 have he:errOf C.D (b:Int)=0:=(rd_at C.D hlt).1
 refine ⟨{ C with l:=turn (others C.l b++[y]) ⟨b,ys,pinsOf (others C.l b++[y]) b⟩ },?_,rfl,rfl,fun z hz=>?_,⟨b,ys,pinsOf (others C.l b++[y]) b⟩,turn_mem ⟨y,by simp,hb⟩,rfl,?_,rfl⟩
 ·unfold layX
  rw [if_neg (by rw [he]; simp),if_neg (by omega),Int.toNat_natCast,ha]
 ·show z∈turn _ _↔_
  rw [turn_iff (by exact hz),List.mem_append,mem_others]
  constructor
  ·rintro (hz1 | hz1)
   ·exact hz1.1
   ·simp at hz1; subst hz1; exact hy
  ·intro hz1; exact .inl ⟨hz1,hz⟩
 ·show pinsOf (others C.l b++[y]) b=y.pins
  have hn:((others C.l b++[y]).map (·.b)).Nodup:=snoc_nodup (others_nodup h.nodup _) fun z hz=>by rw [hb]; exact (mem_others.1 hz).2
  have:=pinsOf_mem hn (x:=y) (by simp)
  rw [hb] at this; exact this
theorem pin_facts {C:Ca} {b:Nat} {y:Bf} (h:WFC C) (hy:y∈C.l) (hb:y.b=b) :
  ∃ C',pinX C b=(C',0)/\C'.D=C.D/\C'.most=C.most/\(∀ z,z.b≠b->(z∈C'.l↔z∈C.l))/\∃ z∈C'.l,z.b=b/\z.pins=y.pins+1/\z.data=y.data:=by
 have hf:findB C.l b=some y:=by rw [<- hb]; exact findB_mem h.nodup hy
 have hh:heldC C b=some y:=by unfold heldC; rw [if_neg (by omega),Int.toNat_natCast,hf]
 refine ⟨{ C with l:=turn C.l { y with pins:=y.pins+1 } },by unfold pinX; rw [hh],rfl,rfl,fun z hz=>turn_iff (by show z.b≠y.b; rw [hb]; exact hz),{ y with pins:=y.pins+1 },turn_mem ⟨y,hy,rfl⟩,hb,rfl,rfl⟩
theorem WFP.pins {P:Ps} (h:WFP P) (hs:WFS P) (hc:WFC P.C):∀ x∈P.C.l,x.pins<=1:=by
 intro x hx
 by_cases ho:∃ o∈P.ons,o.b=x.b
 ·obtain ⟨o,ho,e⟩:=ho
  obtain ⟨y,hy,e1,e2,_⟩:=h.pin o ho
  have:y=x:=map_inj hc.nodup hy hx (by omega)
  rw [<- this,e2]; omega
 ·rw [(h.unp x hx fun o ho' e=>ho ⟨o,ho',e⟩).1]; omega
theorem newO_ons {P:Ps} {C:Ca} (e:C.D=P.C.D) (b:Nat):(newO (⟨C,P.last,P.ons⟩:Ps) b).ons=(newO P b).ons:=by
 have hc:=contV_C (V:=P) (C:=C) e b
 cases ho:onOf P b with
 | some o =>
  have ho':onOf (⟨C,P.last,P.ons⟩:Ps) b=some o:=ho
  unfold newO; rw [ho,ho']
 | none =>
  have ho':onOf (⟨C,P.last,P.ons⟩:Ps) b=none:=ho
  unfold newO; rw [ho,ho']
  show P.ons++[_]=P.ons++[_]
  rw [hc]
def Jn (w0:World) (R:Nat->Prop) (w:World) (sp c d mo mm:Nat) (ca:Nat->Nat) (Lo:List (Int×Value)) (P1:Ps) (b g:Nat) (x:List Value) (w9:World):Prop :=
 ∃ R9 rl9 C9 oa9 Lm9,PIn w0 R9 rl9 w9 sp c d mo mm ca oa9 Lo Lm9 { newO P1 b with C:=C9 }/\(∀ z,R9 z->Gro R w w9 z)/\Mod R w w9/\At w9 w.heap.size 0 [.pointer (some ⟨sp,0,none⟩)]/\¬ R9 w.heap.size /\
  At w9 g 0 (u8L (contV P1 b))/\C9.D=P1.C.D/\C9.most=P1.C.most/\(∀ z,z.b≠b->(z∈C9.l↔z∈P1.C.l))/\(∃ y∈C9.l,y.b=b/\y.pins=1/\y.data=contV P1 b)/\x=[.pointer (some ⟨oa9 b,0,none⟩)]
section
variable {w0 w w':World} {R R':Nat->Prop} {rl:Nat->Nat} {sp c d mo mm:Nat} {ca oa:Nat->Nat} {Lo Lm:List (Int×Value)} {P V:Ps} {K:Value->World->Prop}
theorem new_c {w3:World} {b g cc q5:Nat} {kk:List Value->World->Prop} {P1:Ps} {R3:Nat->Prop} {rl3:Nat->Nat}
  (hM:Mod R w w3) (hG:∀ z,R3 z->Gro R w w3 z) (hlo:∀ x,R x->w0.heap.size<=x/\x<w.heap.size) (h3:PIn w0 R3 rl3 w3 sp c d mo mm ca oa Lo Lm P1) (hq5:At w3 q5 0 [.pointer (some ⟨sp,0,none⟩)]) (hqn:¬ R3 q5) (hqe:q5=w.heap.size)
  (hat:At w3 g 0 (u8L (contV P1 b))) (hl:(contV P1 b).length=256) (hgn:¬ R3 g) (hg0:w0.heap.size<=g) (hgw:w.heap.size<g) (hb:b<P1.C.D.vs.length) (hno:onOf P1 b=none) (hw1:WFP P1) (hy:∃ y∈P1.C.l,y.b=b)
  (hk:∀ x w9,Jn w0 R w sp c d mo mm ca Lo P1 b g x w9->kk x w9) :
  ∃ g78:Array Value,Al (Instr.build 255 #[(0,.slice (some ⟨g,0,none⟩) 256 cc)]) (.agg g78)/\∃ q79:Addr,∃ w6:World,Ru (Instr.box 255 (.agg g78)) w3 (.pointer (some q79)) w6/\∃ p80:Option Addr,Ru (Instr.loadAt 159 (.pointer (some ⟨q5,0,none⟩))) w6 (.pointer p80) w6/\∃ q81:Addr,(.pointer p80:Value)=.pointer (some q81)/\∃ m83:Option Nat,Ru (Instr.loadAt 237 (.pointer (some (Addr.add q81 4)))) w6 (.map m83) w6/\∃ w7:World,RuU (Instr.mapUpdate 237 (.map m83) (.int .i64 b) (.pointer (some q79))) w6 w7/\∃ p86:Option Addr,Ru (Instr.loadAt 159 (.pointer (some ⟨q5,0,none⟩))) w7 (.pointer p86) w7/\∃ q87:Addr,(.pointer p86:Value)=.pointer (some q87)/\∃ p89:Option Addr,Ru (Instr.loadAt 233 (.pointer (some (Addr.add q87 0)))) w7 (.pointer p89) w7/\Cal Tryz.prog F_cache_Cache_Pin #[.pointer p89,.int .i64 b] w7 fun r91 w8=>∃ n91:Int,r91=.int .i64 n91/\kk [.pointer (some q79)] w8:=by
 subst hqe
 have hz0:rl3 g=0:=by
  by_cases e:rl3 g=0
  ·exact e
  ·exact absurd (h3.reg g e) hgn
 have hq0:rl3 w.heap.size=0:=by
  by_cases e:rl3 w.heap.size=0
  ·exact e
  ·exact absurd (h3.reg _ e) hqn
 have ht:=h3.take hz0 hg0 hat.lt
 have hrg:ro rl3 g 5 g=5:=ro_same _ _ _
 obtain ⟨w5,u1,h5,M5⟩:=ht.newOn (cc:=cc) hno hb hl hrg hat
 have m4:Mod No w3 (w3.alloc (.cells ⟨[.slice (some ⟨g,0,none⟩) 256 cc,.slice none 0 0]⟩ 255)):=(Mod.refl No w3).alloc _
 have h4:=ht.nos m4
 refine ⟨_,fun w=>build_on w _ _ _,_,_,box_on _ _,_,(hq5.keep m4 id).load (i:=0) (by kernel_rfl) rfl,_,rfl,_,h4.lm,w5,u1,?_⟩
 have hqmm:w.heap.size≠mm:=fun e=>by have:=h3.rmm; rw [<- e,hq0] at this; omega
 have hq5':=hq5.keep M5 hqmm
 refine ⟨_,hq5'.load (i:=0) (by kernel_rfl) rfl,_,rfl,_,h5.lc,?_⟩
 obtain ⟨y,hyl,hyb⟩:=hy
 have hc1:=h3.cx.wf.1
 obtain ⟨eC,eL⟩:=newO_C (V:=P1) (b:=b)
 obtain ⟨C9,p1,p2,p3,p4,z,z1,z2,z3,z4⟩:=pin_facts hc1 hyl hyb
 have hpins:∀ x∈P1.C.l,x.pins<=1:=hw1.pins h3.wf hc1
 refine cPin_c (n:=(b:Int)) h5.cx (by rw [eC]; exact fun x hx=>Nat.le_trans (hpins x hx) (by omega)) fun w6 m6 x6=>⟨_,rfl,?_⟩
 have x6:Cx w0 (Gro (fun x=>ro (ro rl3 g 5) w3.heap.size (8+3*b) x=1) w5 w6) w6 c d (pinX P1.C b).1:=by rw [<- eC]; exact x6
 rw [p1] at x6
 obtain ⟨rl6,h6,hr6⟩:=h5.cache m6 (Mod.refl _ _) x6 (by show C9.D.vs.length=_; rw [p2,eC]) (by show C9.most=_; rw [p3,eC])
 have hs3:=hM.size
 have hs5:=M5.size
 have hs6:=m6.size
 have hgl:=hat.lt
 have hq3:=hq5.lt
 have hsz4:w3.heap.size<w5.heap.size:=(h5.lo _ (h5.reg w3.heap.size (by rw [ro_same]; omega))).2
 refine hk _ _ ⟨_,rl6,C9,_,_,h6,fun x hx=>?_,?_,?_,fun hx=>?_,?_,by rw [p2],by rw [p3],p4,⟨z,z1,z2,?_,?_⟩,?_⟩
 ·rcases hx with ((hx | hx) | hx) | hx
  ·rcases hG x hx with hx | hx
   ·exact .inl hx
   ·exact .inr (by omega)
  ·exact .inr (by omega)
  ·exact .inr (by omega)
  ·exact .inr (by omega)
 ·have k1:Mod R w w5:=hM.trans M5 fun z hz e=>by
   have:R3 z:=by rw [show z=mm from e]; exact h3.reg mm (by rw [h3.rmm]; omega)
   rcases hG z this with e2 | e2
   ·exact e2
   ·omega
  refine k1.trans m6 fun z hz e=>?_
  have e:ro (ro rl3 g 5) w3.heap.size (8+3*b) z=1:=e
  rw [ro_ne _ (by omega),ro_ne _ (by omega)] at e
  rcases hG z (h3.reg z (by omega)) with e2 | e2
  ·exact e2
  ·omega
 ·refine hq5'.keep m6 fun e=>?_
  have e:ro (ro rl3 g 5) w3.heap.size (8+3*b) w.heap.size=1:=e
  rw [ro_ne _ (by omega),ro_ne _ (by omega)] at e
  omega
 ·rcases hx with ((hx | hx) | hx) | hx
  ·exact hqn hx
  ·omega
  ·omega
  ·omega
 ·refine (hat.keep M5 fun e=>by have:=h3.rmm; rw [<- show g=mm from e,hz0] at this; omega).keep m6 fun e=>?_
  have e:ro (ro rl3 g 5) w3.heap.size (8+3*b) g=1:=e
  rw [ro_ne _ (by omega),ro_same] at e
  omega
 ·have:y.pins=0:=by
   refine (hw1.unp y hyl fun o ho e=>?_).1
   exact onOf_none hno o ho (by omega)
  rw [z3,this]
 ·rw [z4]
  have:=cont_view hw1 h3.wf hc1 b
  rw [<- this]
  unfold cont
  have hf:=findB_mem hc1.nodup hyl
  rw [hyb] at hf
  rw [hf]
 ·simp
end
end Go.Proofs.YtandmpcjjaabmaaGreat
open Go Go.Den Go.Proofs
namespace Go.Proofs.YtandmpcjjaabmaaGreat
section
variable {w0 w w':World} {R R':Nat->Prop} {rl:Nat->Nat} {sp c d mo mm:Nat} {ca oa:Nat->Nat} {Lo Lm:List (Int×Value)} {P V:Ps} {K:Value->World->Prop}
theorem filter_take {l:List Int} {f:Int->Bool} {i:Nat} (hi:i<l.length):(l.take (i+1)).filter f=(l.take i).filter f++(if f l[i]=true then [l[i]] else []):=by
 rw [List.take_succ_eq_append_getElem hi,List.filter_append]
 congr 1
 by_cases hf:f l[i]=true
 ·rw [if_pos hf]; simp [hf]
 ·rw [if_neg hf]; simp [hf]
set_option maxRecDepth 100000 in
theorem pPatch_c {n frm:Int} {a3 a4:Option Addr} {l3 c3 l4 c4:Nat} {data:Bk} {after:List Int} (hP:Px w0 R w sp d P) (hlast:P.last+1<=1000000) (hd:data.length=l3) (hrd:Row w a3 (u8L data)) (hdo:data≠[]->∀ q,a3=some q->¬ R q.block) (h63:l3<=9223372036854775807)
  (ha:after.length=l4) (ha6:l4<=1000000) (hra:Row w a4 (iL after)) (hao:after≠[]->∀ q,a4=some q->¬ R q.block)
  (hk:∀ w' C',Mod R w w'->Px w0 (Gro R w w') w' sp d ⟨C',(patS P n frm data after).last,(patS P n frm data after).ons⟩->C'.D=P.C.D->C'.most=P.C.most->K (.tuple #[.int .i64 (patN P n frm data after),.int .i64 (patE P n frm data after)]) w') :
  Cal Tryz.prog F_patch_Store_Patch #[.pointer (some ⟨sp,0,none⟩),.int .i64 n,.int .i64 frm,.slice a3 l3 c3,.slice a4 l4 c4] w K:=by
 have hP0:=hP
 obtain ⟨hw,rl,c,mo,mm,ca,oa,Lo,Lm,h⟩:=hP
 apply C_patch_Store_Patch
 unfold D_patch_Store_Patch
 have m1:Mod No w (w.alloc (.cells ⟨[.pointer (some ⟨sp,0,none⟩)]⟩ 159)):=(Mod.refl No w).alloc _
 have a1:At (w.alloc (.cells ⟨[.pointer (some ⟨sp,0,none⟩)]⟩ 159)) w.heap.size 0 [.pointer (some ⟨sp,0,none⟩)]:=AtU.new.at
 have s1:(w.alloc (.cells ⟨[.pointer (some ⟨sp,0,none⟩)]⟩ 159)).heap.size=w.heap.size+1:=by simp
 refine ⟨_,_,box_store _ _,?_⟩
 generalize w.alloc (.cells ⟨[.pointer (some ⟨sp,0,none⟩)]⟩ 159)=w1 at *
 have h1:=h.nos m1
 have hlo:=hP0.lo
 have hw0:=h.mod.size
 -- an error: nothing has changed
 have bad:∀ w2 e,Mod No w w2->patE P n frm data after=e->e≠0->K (.tuple #[.int .i64 0,.int .i64 e]) w2:=fun w2 e m he hne=>by
  have hS:patS P n frm data after=P:=by unfold patS; rw [if_neg (by rw [he]; exact hne)]
  have hN:patN P n frm data after=0:=by unfold patN; rw [if_neg (by rw [he]; exact hne)]
  have:=hk w2 P.C m.anys (by rw [hS]; exact hP0.gro m) rfl rfl
  rw [hN,he] at this; exact this
 refine ⟨_,a1.load (i:=0) (by kernel_rfl) rfl,ff rfl (Share.cut (fun x w2=>w1=w2/\x=[.bool (decide (errOf P.C.D n≠0))]) (cond_of (fun hb=>?_) (fun hb=>?_)) ?_)⟩
 ·have hb:=of_decide_eq_true hb
  have:errOf P.C.D n≠0:=by unfold errOf; rw [if_pos (by omega)]; omega
  rw [decide_eq_true this]; exact ⟨rfl,rfl⟩
 ·have hb:=of_decide_eq_false hb
  refine ⟨_,a1.load (i:=0) (by kernel_rfl) rfl,_,rfl,_,h1.llen',rfl,?_⟩
  congr 2
  unfold errOf
  by_cases hn:(P.C.D.vs.length:Int)<=n
  ·rw [if_pos (.inr hn),decide_eq_true hn]; rfl
  ·rw [if_neg (by omega),decide_eq_false hn]; rfl
 rintro x w2 ⟨rfl,rfl⟩
 refine ⟨_,rfl,?_⟩
 by_cases he:errOf P.C.D n≠0
 ·exact tt (decide_eq_true he) (bad w1 3 m1 (by unfold patE; rw [if_pos he]) (by omega))
 refine ff (decide_eq_false he) ?_
 have he0:errOf P.C.D n=0:=Classical.not_not.1 he
 refine Share.cut (fun x w2=>w1=w2/\x=[.bool (decide (data.length=0\/frm<0\/256<frm\/256-frm<data.length))]) (cond_of (fun hb=>⟨rfl,?_⟩) (fun hb=>cond_of (fun hb2=>⟨rfl,?_⟩) (fun hb2=>cond_of (fun hb3=>⟨rfl,?_⟩) (fun hb3=>⟨rfl,?_⟩)))) ?_
 ·have:(l3:Int)=0:=by simpa using hb
  rw [decide_eq_true (.inl (by omega))]
 ·have:=of_decide_eq_true hb2
  rw [decide_eq_true (.inr (.inl this))]
 ·have:=of_decide_eq_true hb3
  rw [decide_eq_true (.inr (.inr (.inl (by omega))))]
 ·have hb:¬ (l3:Int)=0:=by simpa using hb
  have hb2:=of_decide_eq_false hb2
  have hb3:=of_decide_eq_false hb3
  rw [wrap64 (x:=256-frm) (by omega) (by omega)]
  congr 2
  rw [Bool.eq_iff_iff]
  simp only [decide_eq_true_eq]
  omega
 rintro x w2 ⟨rfl,rfl⟩
 refine ⟨_,rfl,?_⟩
 by_cases hsz:data.length=0\/frm<0\/256<frm\/256-frm<data.length
 ·exact tt (decide_eq_true hsz) (bad w1 4 m1 (by unfold patE; rw [if_neg he,if_pos hsz]) (by omega))
 refine ff (decide_eq_false hsz) ?_
 refine Contains64_c (S:=No) ha (by omega) (hra.nos m1) (tells_given h1 a1) fun w2 m2=>⟨_,rfl,?_⟩
 have M2:=m1.no m2
 by_cases hbad:badA P after=true
 ·exact tt hbad (bad w2 1 M2 (by unfold patE; rw [if_neg he,if_neg hsz,if_pos hbad]) (by omega))
 refine ff (by simpa [badA] using hbad) ?_
 have hE:patE P n frm data after=0:=by unfold patE; rw [if_neg he,if_neg hsz,if_neg hbad]
 obtain ⟨b,rfl,hblt⟩:=err_range he0
 obtain ⟨f,rfl⟩:∃ f:Nat,frm=f:=⟨frm.toNat,by omega⟩
 have h2:=h.nos M2
 have a2:=a1.keep m2 id
 have hcw:=h2.cx.wf
 -- what is read
 obtain ⟨C1,hask⟩:=ask_some hcw.1 h2.wf.full hblt
 obtain ⟨l0,y,A⟩:=ask_facts hcw.1 hcw.2.1 hblt hask
 have hr0:rdX P.C b=(C1,0,lastD C1.l):=by unfold rdX; rw [if_neg (by rw [he0]; simp),Int.toNat_natCast,hask]
 have hyl:y∈C1.l:=by rw [A.l]; simp
 have hly:lastD C1.l=y.data:=by unfold lastD; rw [A.l]; simp
 have hw1:WFP ⟨C1,P.last,P.ons⟩:=hw.ask h2.wf hcw.1 A
 have hs1:WFS ⟨C1,P.last,P.ons⟩:=WFS.cache h.wf (by rw [A.D]) A.most
 have hlen:(lastD C1.l).length=256:=by rw [hly]; exact A.wf.data y hyl
 have hold:lastD C1.l=contV ⟨C1,P.last,P.ons⟩ b:=by
  rw [<- cont_view hw1 hs1 A.wf b]
  unfold cont
  have:=findB_mem A.wf.nodup hyl
  rw [A.yb] at this
  show _=(match findB C1.l b with | some x=>x.data | none=>atD C1.D b)
  rw [this,hly]
 refine ⟨_,a2.load (i:=0) (by kernel_rfl) rfl,_,rfl,_,h2.lc,cRead_c h2.cx fun w3a w3 ag cg m3a m3 x3 o3=>⟨_,_,_,_,rfl,?_⟩⟩
 simp only [hr0,hlen] at x3 o3 |-
 obtain ⟨rl3,h3,hr3⟩:=h2.cache m3a m3 x3 (by rw [A.D]) A.most
 obtain ⟨g,rfl,hg,hat⟩:=o3.sm (by omega)
 rw [hold] at hat
 have hz2:=M2.size
 have hz3a:=m3a.size
 have hz3:=m3.size
 have hzm2:=m2.size
 have hq1:=a1.lt
 have hR1:∀ z,rl z=1->R z:=fun z hz=>h.reg z (by omega)
 have M3:Mod R w w3:=(M2.anys.trans m3a fun z _ e=>hR1 z e).no m3
 have hrq:∀ z,rl z≠0->z<w.heap.size:=fun z hz=>(hlo z (h.reg z hz)).2
 have a3':At w3 w.heap.size 0 [.pointer (some ⟨sp,0,none⟩)]:=(a2.keep m3a fun e=>by have:=hrq w.heap.size (by have e:rl w.heap.size=1:=e; omega); omega).keep m3 id
 have hlk:=h3.lookM (b:Int)
 refine ff rfl ⟨_,a3'.load (i:=0) (by kernel_rfl) rfl,_,rfl,_,h3.lm,_,hlk,?_⟩
 have hG3:∀ z,Gro R w2 w3a z->Gro R w w3 z:=fun z hz=>by
  rcases hz with hz | hz
  ·exact .inl hz
  ·exact .inr (by omega)
 have hqn:¬ Gro R w2 w3a w.heap.size:=by
  rintro (e | e)
  ·have:=(hlo _ e).2; omega
  ·omega
 have hgn:¬ Gro R w2 w3a g:=by
  rintro (e | e)
  ·have:=(hlo _ e).2; omega
  ·omega
 have hcl:(contV ⟨C1,P.last,P.ons⟩ b).length=256:=by rw [<- hold]; exact hlen
 have hblt1:b<C1.D.vs.length:=by rw [A.D]; exact hblt
 refine Share.cut (Jn w0 R w sp c d mo mm ca Lo ⟨C1,P.last,P.ons⟩ b g) ?_ ?_
 ·cases ho:onOf P b with
  | none =>
   have ho':onOf { P with C:=C1 } b=none:=ho
   rw [ho']
   exact tt rfl (new_c (P1:=⟨C1,P.last,P.ons⟩) M3 hG3 hlo h3 a3' hqn rfl hat.at hcl hgn (by omega) (by omega) hblt1 ho hw1 ⟨y,hyl,A.yb⟩ fun _ _ hj=>hj)
  | some o =>
   have ho':onOf { P with C:=C1 } b=some o:=ho
   rw [ho']
   obtain ⟨hom,hob⟩:=onOf_some ho
   have hob:o.b=b:=by omega
   refine ff rfl ?_
   have hnO:newO ⟨C1,P.last,P.ons⟩ b=⟨C1,P.last,P.ons⟩:=by unfold newO; rw [show onOf (⟨C1,P.last,P.ons⟩:Ps) b=some o from ho]
   obtain ⟨y1,k1,k2,k3,k4⟩:=hw1.pin o hom
   refine ⟨_,rl3,C1,oa,Lm,by rw [hnO]; exact h3,hG3,M3,a3',hqn,hat.at,rfl,rfl,fun _ _=>Iff.rfl,⟨y1,k1,by omega,k3,?_⟩,?_⟩
   ·have hcv:contV ⟨C1,P.last,P.ons⟩ b=withL o.base o.l:=by unfold contV; rw [show onOf (⟨C1,P.last,P.ons⟩:Ps) b=some o from ho]
    rw [hcv]; exact k4
   ·rw [<- hob]; rfl
 rintro x w9 ⟨R9,rl9,C9,oa9,Lm9,h9,hG9,M9,a9,hqn9,hat9,eD9,eM9,ht9,⟨y9,hy9,hy9b,hy9p,hy9d⟩,rfl⟩
 clear hlk
 have hz9:=M9.size
 have hq9:=a9.lt
 -- the rows of the call
 have hrow:∀ {wz:World} {a:Option Addr} {xs:List Value},Row w a xs->(xs≠[]->∀ q,a=some q->¬ R q.block)->Mod R w wz->Row wz a xs:=fun {wz a xs} hr ho hm=>by
  by_cases hx:xs=[]
  ·exact .inl hx
  ·exact Row.keep2 hr hm fun q hq _=>ho hx q hq
 have hdo:u8L data≠[]->∀ q,a3=some q->¬ R q.block:=fun hne=>hdo fun e=>hne (by rw [e]; rfl)
 have hao:iL after≠[]->∀ q,a4=some q->¬ R q.block:=fun hne=>hao fun e=>hne (by rw [e]; rfl)
 have hd1:1<=data.length:=by omega
 have hfit:f+data.length<=256:=by omega
 refine Lay_c' (b:=contV ⟨C1,P.last,P.ons⟩ b) (ys:=data) hcl hd (by omega) (by omega) (by omega) (.inr ⟨_,_,rfl,hat9⟩) (hrow hrd hdo M9) fun w10 m10 at10=>⟨_,_,_,_,rfl,?_⟩
 have h10:=h9.nos m10
 have a10:=a9.keep m10 id
 refine ⟨_,a10.load (i:=0) (by kernel_rfl) rfl,_,rfl,_,h10.lc,?_⟩
 obtain ⟨C11,e11,eD11,eM11,ht11,y11,hy11,hy11b,hy11p,hy11d⟩:=lay_facts (ys:=overB (contV ⟨C1,P.last,P.ons⟩ b) f data) h10.cx.wf.1 h10.cx.wf.2.1 hy9 hy9b (by rw [overB_len (by omega)]; exact hcl)
 have hz10:=m10.size
 have hw9:rl9 w9.heap.size=0:=h9.out_of (Nat.le_refl _)
 refine cLay_c (n:=(b:Int)) (ys:=overB (contV ⟨C1,P.last,P.ons⟩ b) f data) h10.cx (by rw [overB_len (by omega)]; exact hcl) (.inr ⟨_,_,rfl,at10.at⟩) (fun _ q hq e=>by cases hq; have e:rl9 w9.heap.size=1:=e; omega) fun w11 m11 x11=>⟨_,rfl,?_⟩
 have x11:Cx w0 (Gro (fun z=>rl9 z=1) w10 w11) w11 c d (layX C9 b (overB (contV ⟨C1,P.last,P.ons⟩ b) f data)).1:=x11
 rw [e11] at x11
 obtain ⟨rl11,h11,hr11⟩:=h10.cache m11 (Mod.refl _ _) x11 (by show C11.D.vs.length=C9.D.vs.length; rw [eD11]) (by show C11.most=C9.most; exact eM11)
 have hz11:=m11.size
 have a11:At w11 w.heap.size 0 [.pointer (some ⟨sp,0,none⟩)]:=a10.keep m11 fun e=>hqn9 (h9.reg _ (by have e:rl9 w.heap.size=1:=e; omega))
 have hqn11:¬ Gro R9 w10 w11 w.heap.size:=by
  rintro (e | e)
  ·exact hqn9 e
  ·omega
 have M11:Mod R w w11:=(M9.no m10).trans m11 fun z hz e=>by
  have e:rl9 z=1:=e
  rcases hG9 z (h9.reg z (by omega)) with e2 | e2
  ·exact e2
  ·omega
 have hG11:∀ z,Gro R9 w10 w11 z->Gro R w w11 z:=fun z hz=>by
  rcases hz with hz | hz
  ·rcases hG9 z hz with e | e
   ·exact .inl e
   ·exact .inr (by omega)
  ·exact .inr (by omega)
 -- the number
 have eL:(newO ⟨C1,P.last,P.ons⟩ b).last=P.last:=newO_C.2
 obtain ⟨w12,u12,h12,m12⟩:=h11.bump (by show (newO ⟨C1,P.last,P.ons⟩ b).last+1<=1000000; rw [eL]; exact hlast)
 have hll:=h11.llast
 have hz12:=m12.size
 have eW:(IntKind.i64.wrap (((newO ⟨C1,P.last,P.ons⟩ b).last:Nat)+1:Int))=(((newO ⟨C1,P.last,P.ons⟩ b).last+1:Nat):Int):=by
  rw [eL,wrap64 (by omega) (by omega)]; omega
 refine ⟨_,a11.load (i:=0) (by kernel_rfl) rfl,_,rfl,_,hll,_,rfl,w12,?_,?_⟩
 ·show RuU (Instr.storeAt _ _ (.int .i64 (IntKind.i64.wrap (((newO ⟨C1,P.last,P.ons⟩ b).last:Nat)+1:Int)))) w11 w12
  rw [eW]; exact u12
 -- the change
 have m12d:Mod No w12 (Go.Den.drew w12):=(Mod.refl No w12).drew
 have sz12d:(Go.Den.drew w12).heap.size=w12.heap.size:=rfl
 have hsp:rl11 sp=2:=h11.rsp
 have hrl11q:rl11 w.heap.size=0:=by
  by_cases e:rl11 w.heap.size=0
  ·exact e
  ·exact absurd (h11.reg _ e) hqn11
 have a12:At (Go.Den.drew w12) w.heap.size 0 [.pointer (some ⟨sp,0,none⟩)]:=(a11.keep m12 fun e=>by have e:w.heap.size=sp:=e; rw [e] at hrl11q; omega).keep m12d id
 have M12:Mod R w (Go.Den.drew w12):=(M11.trans m12 fun z hz e=>by
  have e:z=sp:=e
  rcases hG11 z (h11.reg z (by rw [e,hsp]; omega)) with e2 | e2
  ·exact e2
  ·omega).no m12d
 obtain ⟨Q,hQ⟩:∃ Q:Ps,Q={ ({ ({ newO ⟨C1,P.last,P.ons⟩ b with C:=C9 }:Ps) with C:=C11 }:Ps) with last:=(newO ⟨C1,P.last,P.ons⟩ b).last+1 }:=⟨_,rfl⟩
 have h12':PIn w0 (Gro (Gro R9 w10 w11) w11 w12) rl11 w12 sp c d mo mm ca oa9 Lo Lm9 Q:=by rw [hQ]; exact h12
 have hQo:Q.ons=(newO ⟨C1,P.last,P.ons⟩ b).ons:=by rw [hQ]
 have hQl:Q.last=P.last+1:=by rw [hQ]; show (newO ⟨C1,P.last,P.ons⟩ b).last+1=_; rw [eL]
 have hQC:Q.C=C11:=by rw [hQ]
 have hop:Q.opn=P.opn:=by
  have:=opn_newO (V:=⟨C1,P.last,P.ons⟩) (b:=b)
  have e:Q.opn=(newO ⟨C1,P.last,P.ons⟩ b).opn:=by unfold Ps.opn Ps.all; rw [hQo]
  rw [e,this]; rfl
 have h12d:=h12'.nos m12d
 clear h12 h12' hQ
 have hll2:=h12d.llast
 rw [hQl] at hll2
 refine ⟨_,a12.load (i:=0) (by kernel_rfl) rfl,_,rfl,_,hll2,?_⟩
 generalize Go.Den.drew w12=w12d at *
 have hrd12:=hrow hrd hdo M12
 have ha3:a3≠none:=fun e=>by
  rcases hrd with hr | ⟨_,_,e2,_⟩
  ·have:=congrArg List.length hr
   rw [length_u8L] at this
   have e0:([]:List Value).length=0:=rfl
   omega
  ·rw [e] at e2; cases e2
 refine CloneB_c hrd12 hd (fun e=>absurd e ha3) (by omega) fun w13 a13 c13 o13 m13=>?_
 have h13:=h12d.nos m13
 have hll3:=h13.llast
 rw [hQl] at hll3
 have a13':=a12.keep m13 id
 obtain ⟨gd,rfl,hgd,hgat⟩:=o13.sm (by omega)
 have hgdl:=hgat.lt
 refine ⟨_,_,_,rfl,a13'.load (i:=0) (by kernel_rfl) rfl,hll3,_,fun w=>build_ch w _ _ _ _ _ _,_,_,box_ch _ _,?_⟩
 have m14:Mod No w13 (w13.alloc (.cells ⟨[.int .i64 ((P.last+1:Nat):Int),.int .i64 b,.int .i64 f,.slice (some ⟨gd,0,none⟩) l3 c13,.slice none 0 0,.bool false]⟩ 260)):=(Mod.refl No w13).alloc _
 have q14:AtU (w13.alloc (.cells ⟨[.int .i64 ((P.last+1:Nat):Int),.int .i64 b,.int .i64 f,.slice (some ⟨gd,0,none⟩) l3 c13,.slice none 0 0,.bool false]⟩ 260)) w13.heap.size 0 [.int .i64 ((P.last+1:Nat):Int),.int .i64 b,.int .i64 f,.slice (some ⟨gd,0,none⟩) l3 c13,.slice none 0 0,.bool false]:=AtU.new
 have s14:(w13.alloc (.cells ⟨[.int .i64 ((P.last+1:Nat):Int),.int .i64 b,.int .i64 f,.slice (some ⟨gd,0,none⟩) l3 c13,.slice none 0 0,.bool false]⟩ 260)).heap.size=w13.heap.size+1:=by simp
 generalize w13.alloc (.cells ⟨[.int .i64 ((P.last+1:Nat):Int),.int .i64 b,.int .i64 f,.slice (some ⟨gd,0,none⟩) l3 c13,.slice none 0 0,.bool false]⟩ 260)=w14 at *
 have hz13:=m13.size
 refine ⟨fun x w15=>∃ (i k ac:Nat) (aa:Option Addr),i<=l4/\x=[.int .i64 i]/\k=((after.take i).filter P.opn).length/\AtU w15 w13.heap.size 0 [.int .i64 ((P.last+1:Nat):Int),.int .i64 b,.int .i64 f,.slice (some ⟨gd,0,none⟩) l3 c13,.slice aa k ac,.bool false] /\
   Ow Tryz.prog w15 w14.heap.size 65 1 aa k ac (iL ((after.take i).filter P.opn))/\Mod No w13 w15/\w14.heap.size<=w15.heap.size,
  fun x _=>(l4-nI x 0).toNat,⟨0,0,0,none,by omega,rfl,rfl,q14,Ow.nil elemZ_64,m14,Nat.le_refl _⟩,?_⟩
 rintro x w15 ⟨i,k,ac,aa,hi,rfl,hkl,q15,o15,m15,sz15⟩
 have hfl:((after.take i).filter P.opn).length<=i:=by
  have:=List.length_filter_le P.opn (after.take i)
  simp at this; omega
 refine ⟨_,rfl,cond_of (fun hb=>?_) (fun hb=>?_)⟩
 ·have hi:i<l4:=by have:=of_decide_eq_true hb; omega
  have hix:i<after.length:=by omega
  have hra15:=hrow hra hao ((M12.no m13).no m15)
  obtain ⟨b4,o4,rfl,hat4⟩:=row_some hra15 hix
  refine ⟨_,index_slice (k:=1) (by kernel_rfl) (by omega) (by omega),?_⟩
  rw [add_none,show (i:Int).toNat*1=i by omega]
  refine ⟨_,hat4.load (by kernel_rfl) (iL_get hix),_,(a13'.keep m15 id).load (i:=0) (by kernel_rfl) rfl,_,rfl,_,(h13.nos m15).lo',?_⟩
  obtain ⟨p,hp,hpn,_⟩:=(h13.nos m15).lookO after[i]
  rw [hop] at hpn
  have hsplit:=filter_take (l:=after) (f:=P.opn) hix
  refine ⟨p,hp,Share.cut (fun _ w19=>∃ (k ac:Nat) (aa:Option Addr),k=((after.take (i+1)).filter P.opn).length/\AtU w19 w13.heap.size 0 [.int .i64 ((P.last+1:Nat):Int),.int .i64 b,.int .i64 f,.slice (some ⟨gd,0,none⟩) l3 c13,.slice aa k ac,.bool false] /\
   Ow Tryz.prog w19 w14.heap.size 65 1 aa k ac (iL ((after.take (i+1)).filter P.opn))/\Mod No w13 w19/\w14.heap.size<=w19.heap.size) (cond_of (fun hb=>?_) (fun hb=>?_)) ?_⟩
  ·have hopn:P.opn after[i]=true:=by
    have:p.isNone=false:=by simpa using hb
    rw [hpn] at this; simpa using this
   rw [if_pos hopn] at hsplit
   have mA:Mod No w15 (w15.alloc (.cells ⟨[.int .i64 after[i]]⟩ 2)):=(Mod.refl No w15).alloc _
   have aA:At (w15.alloc (.cells ⟨[.int .i64 after[i]]⟩ 2)) w15.heap.size 0 [.int .i64 after[i]]:=AtU.new.at
   have sA:(w15.alloc (.cells ⟨[.int .i64 after[i]]⟩ 2)).heap.size=w15.heap.size+1:=by simp
   refine ⟨_,rfl,aa,k,ac,?_,_,_,_,_,builtI64 _ _,?_⟩
   ·rw [add_none]; exact q15.at.load (by kernel_rfl) rfl
   generalize w15.alloc (.cells ⟨[.int .i64 after[i]]⟩ 2)=w16 at *
   obtain ⟨q',c',w17,t1,t2,t3,t4⟩:=(o15.nos mA).app (ty:=65) (m:=1) (c2:=1) (ad:=⟨w15.heap.size,0,none⟩) (ys:=[.int .i64 after[i]]) elemZ_64 (by omega) (.inr ⟨_,_,rfl,aA⟩) rfl (by omega) (by simp; rfl) (by omega) (by omega) (by omega)
   have t3':Mod (Of aa) w16 w17:=t3
   have hnq:¬ Of aa w13.heap.size:=fun ⟨q,hq,e⟩=>by have:=(o15.base hq).1; omega
   have q17:=(q15.keep mA id).keep t3' hnq
   obtain ⟨w18,u1,u2,u3,u4⟩:=q17.store (P:=Tryz.prog) (T:=65) (i:=4) (v:=.slice (some q') (k+1) c') (by kernel_rfl) (by simp) rfl
   refine ⟨_,_,_,w17,t1,_,rfl,w18,by rw [add_none]; exact u1,k+1,c',some q',?_,?_,?_,?_,?_⟩
   ·rw [hsplit,List.length_append,<- hkl]; rfl
   ·simpa using u2
   ·have e:iL ((after.take i).filter P.opn)++[.int .i64 after[i]]=iL ((after.take (i+1)).filter P.opn):=by rw [hsplit]; simp [iL,I]
    rw [<- e]
    refine t2.keep u3 fun q hq e=>?_
    have:=(t2.base hq).1
    have e:q.block=w13.heap.size:=e
    omega
   ·refine ((m15.no mA).trans t3' fun z hz ⟨q,hq,e⟩=>?_).trans u3 fun z hz e=>?_
    ·have:=(o15.base hq).1
     omega
    ·have e:z=w13.heap.size:=e
     omega
   ·have:=t3'.size
    have:=u3.size
    omega
  ·have hopn:P.opn after[i]=false:=by
    have:p.isNone=true:=by simpa using hb
    rw [hpn] at this; simpa using this
   rw [if_neg (by rw [hopn]; simp),List.append_nil] at hsplit
   rw [hsplit]
   exact ⟨k,ac,aa,hkl,q15,o15,m15,sz15⟩
  ·rintro z w19 ⟨k,ac,aa,e1,e2,e3,e4,e5⟩
   rw [wrap64 (x:=(i:Int)+1) (by omega) (by omega)]
   exact ⟨⟨i+1,k,ac,aa,by omega,rfl,e1,e2,e3,e4,e5⟩,by simp [nI,nth]; omega⟩
 ·have hil:i=after.length:=by have:=of_decide_eq_false hb; omega
  subst hil
  rw [List.take_length] at hkl o15
  have md:Mod No w15 (Go.Den.drew w15):=(Mod.refl No w15).drew
  have szd:(Go.Den.drew w15).heap.size=w15.heap.size:=rfl
  have m15d:=m15.no md
  have q15d:=q15.keep md id
  have o15d:=o15.nos md
  generalize Go.Den.drew w15=w15d at *
  have h15:=h13.nos m15d
  refine ⟨_,(a13'.keep m15d id).load (i:=0) (by kernel_rfl) rfl,_,rfl,_,h15.lo',_,rfl,_,by rw [add_none]; exact q15d.at.load (by kernel_rfl) rfl,?_⟩
  obtain ⟨w20,u1,u2,u3,u4⟩:=update_run (P:=Tryz.prog) (T:=236) (k:=((P.last+1:Nat):Int)) (v:=.pointer (some ⟨w13.heap.size,0,none⟩)) mapOpen h15.mapO
  obtain ⟨o,ho,hob⟩:=newO_on (V:=⟨C1,P.last,P.ons⟩) (b:=b)
  rw [<- hQo] at ho
  obtain ⟨k1,k2,g9,cc9,la,lc,c1,c2,c3,c4,c5⟩:=h15.ons o ho
  rw [hob] at k1 k2 c1 c5
  have hrmo:rl11 mo=3:=h15.rmo
  have hnmo:∀ {z},rl11 z≠3->z≠mo:=fun hz e=>hz (by rw [e]; exact hrmo)
  have hout:∀ {z},w12d.heap.size<=z->rl11 z=0:=fun hz=>h12d.out_of hz
  have d1:=c1.keep u3 (hnmo (by rw [k2]; omega))
  refine ⟨w20,u1,_,rfl,_,rfl,la,_,lc,by rw [add_none]; exact d1.at.load (by kernel_rfl) rfl,_,_,_,_,builtCh _ _,?_⟩
  have m21:Mod No w20 (w20.alloc (.cells ⟨[.pointer (some ⟨w13.heap.size,0,none⟩)]⟩ 257)):=(Mod.refl No w20).alloc _
  have a21:At (w20.alloc (.cells ⟨[.pointer (some ⟨w13.heap.size,0,none⟩)]⟩ 257)) w20.heap.size 0 [.pointer (some ⟨w13.heap.size,0,none⟩)]:=AtU.new.at
  have s21:(w20.alloc (.cells ⟨[.pointer (some ⟨w13.heap.size,0,none⟩)]⟩ 257)).heap.size=w20.heap.size+1:=by simp
  generalize w20.alloc (.cells ⟨[.pointer (some ⟨w13.heap.size,0,none⟩)]⟩ 257)=w21 at *
  have hlaS:∀ {z},rl11 z≠9+3*b->¬ Of la z:=fun hz ⟨q,hq,e⟩=>hz (by rw [e]; exact c5 q hq)
  have hlen2:=h15.wf.llen o ho
  have hlast2:=h15.wf.last
  have hw023:=h15.mod.size
  obtain ⟨q',c',w22,t1,t2,t3,t4⟩:=((c4.keep u3 fun q hq=>hnmo (by rw [c5 q hq]; omega)).nos m21).app (ty:=253) (m:=1) (c2:=1) (ad:=⟨w20.heap.size,0,none⟩) (ys:=[.pointer (some ⟨w13.heap.size,0,none⟩)]) elemZ_chs (by omega) (.inr ⟨_,_,rfl,a21⟩) rfl (by omega) (by simp; rfl) (by omega) (by omega) (by omega)
  have t3':Mod (Of la) w21 w22:=t3
  have d2:=(d1.keep m21 id).keep t3' (hlaS (by rw [k2]; omega))
  obtain ⟨w23,v1,v2,v3,v4⟩:=d2.store (P:=Tryz.prog) (T:=253) (i:=1) (v:=.slice (some q') (o.l.length+1) c') (by kernel_rfl) (by simp) rfl
  have hrq:rl11 w13.heap.size=0:=hout (by omega)
  have hnoa:∀ {z},rl11 z≠8+3*b->z≠oa9 b:=fun hz e=>hz (by rw [e]; exact k2)
  have q23:=(((q15d.keep u3 (hnmo (by omega))).keep m21 id).keep t3' (hlaS (by omega))).keep v3 (hnoa (by omega))
  refine ⟨_,_,_,w22,t1,_,rfl,w23,by rw [add_none]; exact v1,_,rfl,_,by rw [add_none]; exact q23.at.load (by kernel_rfl) rfl,?_⟩
  -- what it is now
  have hx:newX P b f data after=⟨P.last+1,b,f,data,after.filter P.opn,false⟩:=rfl
  have hfl2:(after.filter P.opn).length<=after.length:=List.length_filter_le _ _
  have hng:∀ k∈after,1<=k/\k<=(P.last:Int):=fun k hk'=>by
   have:=List.any_eq_false.1 (by simpa [badA] using hbad:(after.any fun k=>!decide (1<=k/\k<=(P.last:Int)))=false) k hk'
   simpa using this
  have hF1:Fit (⟨C1,P.last,P.ons⟩:Ps) (newX P b f data after):=⟨rfl,hblt1,⟨hd1,hfit⟩,by show (after.filter P.opn).length<=_; omega,fun k hk'=>by
   have:=hng k (List.mem_filter.1 hk').1
   show k<((P.last+1:Nat):Int)
   omega,rfl⟩
  have hsN:=hs1.newO hblt1 hcl
  have eD11':C11.D=C1.D:=by rw [eD11]; exact eD9
  have eM11':C11.most=C1.most:=by rw [eM11]; exact eM9
  have eN:=newO_C (V:=⟨C1,P.last,P.ons⟩) (b:=b)
  have hsQ:WFS (⟨C11,(newO ⟨C1,P.last,P.ons⟩ b).last,(newO ⟨C1,P.last,P.ons⟩ b).ons⟩:Ps):=WFS.cache hsN (by rw [eD11',eN.1]) (by rw [eM11',eN.1])
  have eQ:appO Q (newX P b f data after)=appO (⟨C11,(newO ⟨C1,P.last,P.ons⟩ b).last,(newO ⟨C1,P.last,P.ons⟩ b).ons⟩:Ps) (newX P b f data after):=by
   unfold appO; rw [hQo,hQC]
  have hwfA:WFS (appO Q (newX P b f data after)):=by
   rw [eQ]
   exact hsQ.app (by rw [<- hQo]; exact ho) hob ⟨by show P.last+1=_; rw [eL],by show b<C11.D.vs.length; rw [eD11']; exact hblt1,hF1.dat,hF1.aft,hF1.afl,rfl⟩ hlast
  have hM23:Mod (fun z=>z=mo\/z=oa9 b\/rl11 z=9+3*b) w12d w23:=by
   have k0:Mod No w12d w15d:=m13.no m15d
   refine (((k0.anys.trans u3 fun z _ e=>.inl e).no m21).trans t3' fun z _ e=>?_).trans v3 fun z _ e=>.inr (.inl e)
   obtain ⟨q,hq,e⟩:=e
   exact .inr (.inr (by rw [e]; exact c5 q hq))
  have hz15:=m15d.size
  have hz20:=u3.size
  have hz22:=t3'.size
  have hz23:=v3.size
  have haaO:∀ e,aa=some e->w14.heap.size<=e.block/\e.block<w15d.heap.size:=fun e he=>o15d.base he
  obtain ⟨rl',ca',hfin⟩:=h12d.appX (S:=fun z=>z=mo\/z=oa9 b\/rl11 z=9+3*b) (x:=newX P b f data after) (o:=o) (q:=w13.heap.size) (gd:=gd) (cd:=c13) (g:=g9) (cc:=cc9) (aa:=aa) (la':=some q') (ac:=ac) (lc':=c') ho hob hQl
   (fun z hz=>by
    have:z∈P.all:=by
     have e:Q.all=(newO ⟨C1,P.last,P.ons⟩ b).all:=by unfold Ps.all; rw [hQo]
     rw [e,all_newO] at hz
     exact hz
    have:=h.wf.idr z this
    show z.id≠P.last+1
    omega) hwfA hM23 (fun z e=>e) (by
     refine ((u2.keep m21 id).keep t3' (hlaS (by rw [hrmo]; omega))).keep v3 (hnoa (by rw [hrmo]; omega))) ⟨by omega,by omega⟩ ⟨hgd,by omega⟩
   (fun e he=>by have:=haaO e he; exact ⟨by omega,by omega,by omega,by omega⟩) (by omega) (fun e he=>by
    cases he
    have hlt:=(t2.base (q:=q') rfl).2
    rcases t4 with ⟨q2,hq2,e2⟩ | e2
    ·left; rw [e2]; exact c5 q2 hq2
    ·right
     refine ⟨by omega,by omega,by omega,by omega,fun e he=>?_⟩
     have:=haaO e he
     omega)
   (by
    show AtU w23 w13.heap.size 0 [.int .i64 ((P.last+1:Nat):Int),.int .i64 b,.int .i64 f,.slice (some ⟨gd,0,none⟩) data.length c13,.slice aa (after.filter P.opn).length ac,.bool false]
    rw [hd,<- hkl]; exact q23)
   ((((((hgat.keep m15d id).keep u3 (hnmo (by rw [hout hgd]; omega))).keep m21 id).keep t3' (hlaS (by rw [hout hgd]; omega))).keep v3 (hnoa (by rw [hout hgd]; omega))).at)
   (by
    show Row w23 aa (iL (after.filter P.opn))
    have r0:=o15d.rowU.row
    have hr:∀ e,aa=some e->rl11 e.block=0:=fun e he=>hout (by have:=haaO e he; omega)
    exact (((r0.keep u3 fun e he=>hnmo (by rw [hr e he]; omega)).nos m21).keep t3' fun e he=>hlaS (by rw [hr e he]; omega)).keep v3 fun e he=>hnoa (by rw [hr e he]; omega))
   (by show AtU w23 (oa9 b) 0 _; simpa using v2) c3 ((((c2.keep u3 (hnmo (by rw [c3]; omega))).keep m21 id).keep t3' (hlaS (by rw [c3]; omega))).keep v3 (hnoa (by rw [c3]; omega)))
   (by
    refine (t2.keep v3 fun e he=>?_)
    cases he
    rcases t4 with ⟨q2,hq2,e2⟩ | e2
    ·exact hnoa (by rw [e2,c5 q2 hq2]; omega)
    ·exact hnoa (by rw [hout (by omega)]; omega))
  have hS:patS P b f data after=addX P (newX P b f data after):=by unfold patS; rw [if_pos hE]; simp
  have hN:patN P b f data after=((P.last+1:Nat):Int):=by unfold patN; rw [if_pos hE]
  have hoE:(addX (⟨C1,P.last,P.ons⟩:Ps) (newX P b f data after)).ons=(addX P (newX P b f data after)).ons:=by
   show (newO ⟨C1,P.last,P.ons⟩ b).ons.map _=(newO P b).ons.map _
   rw [newO_ons A.D]
  have hadd:=hw1.add (x:=newX P b f data after) (C3:=C11) hs1 hF1 hcl hlast eD11' (fun z hz=>(ht11 z hz).trans (ht9 z hz)) (by
   have:=h15.cx.wf.1
   rw [hQC] at this
   exact this.nodup) ⟨y11,hy11,hy11b,by rw [hy11p,hy9p],hy11d⟩
  have:=hk w23 C11 ?_ ?_ (by rw [eD11']; exact A.D) (by rw [eM11']; exact A.most)
  ·rw [hN,hE] at this; exact this
  ·refine M12.trans hM23 fun z hz e=>?_
   have hnz:rl11 z≠0:=by
    rcases e with e | e | e
    ·rw [e,hrmo]; omega
    ·rw [e,k2]; omega
    ·omega
   rcases h12d.reg z hnz with e2 | e2
   ·rcases hG11 z e2 with e3 | e3
    ·exact e3
    ·omega
   ·omega
  ·rw [hS]
   refine ⟨?_,rl',c,mo,mm,ca',oa9,putL ((newX P b f data after).id:Int) (pV w13.heap.size) Lo,Lm9,?_⟩
   ·have:(⟨C11,(addX P (newX P b f data after)).last,(addX P (newX P b f data after)).ons⟩:Ps)={ addX (⟨C1,P.last,P.ons⟩:Ps) (newX P b f data after) with C:=C11 }:=by
     rw [<- hoE]; rfl
    rw [this]; exact hadd
   ·have:(⟨C11,(addX P (newX P b f data after)).last,(addX P (newX P b f data after)).ons⟩:Ps)=appO Q (newX P b f data after):=by
     rw [<- hoE,eQ]; rfl
    rw [this]
    refine hfin.widen (fun z hz=>?_) fun z hz=>?_
    ·rcases hz with (hz | hz) | hz
     ·rcases hG11 z hz with e | e
      ·exact .inl e
      ·exact .inr (by omega)
     ·exact .inr (by omega)
     ·exact .inr (by omega)
    ·rcases hz with hz | hz
     ·have:=hlo z hz; omega
     ·omega
end
end Go.Proofs.YtandmpcjjaabmaaGreat
end
