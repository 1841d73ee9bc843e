/- Parts of the proof, in order: what the statement leans on. -/
import Derived.Test.YtandmpcjjaabmaaGreatBe
section
open Go Go.Den Go.Proofs
namespace Go.Proofs.YtandmpcjjaabmaaGreat
def Itr (f:FuncId) (lb:Array Value) (N:Nat) (C:(Nat->Prop)->World->Prop) (Mv:(Nat->Prop)->World->(Nat->Prop)->World->Prop) (Sk:Nat->Prop) (Ar:Nat->List Value->(Nat->Prop)->World->Prop):Prop :=
 ∀ (l:Nat) (w:World) (R:Nat->Prop) (K:Value->World->Prop) (J:Nat->(Nat->Prop)->World->Prop) (E:World->Prop),J 0 R w->(∀ i R W,J i R W->C R W) ->
  (∀ i R W R' W',J i R W->Mv R W R' W'->J i R' W')->(∀ i R W,i<N->Sk i->J i R W->J (i+1) R W) ->
  (∀ i xs R W K,i<N->Ar i xs R W->J i R W->(∀ R' W',J (i+1) R' W'->K (.bool true) W')->(∀ W',E W'->K (.bool false) W')->Yld Tryz.prog l ⟨xs⟩ W K) ->
  (∀ W,(∃ R,J N R W)\/E W->K (.tuple #[]) W)->Cal Tryz.prog f (#[.func (.yield l) #[] #[]]++lb) w K
theorem range_it {f:FuncId} {lb:Array Value} {N n:Nat} {C:(Nat->Prop)->World->Prop} {Mv:(Nat->Prop)->World->(Nat->Prop)->World->Prop} {Sk:Nat->Prop} {Ar:Nat->List Value->(Nat->Prop)->World->Prop} (hi:Itr f lb N C Mv Sk Ar)
  {w:World} {m:Nat} (hm:w.heap.size=m) {rnd:List Value->((World->Prop)->World->Prop)->(Option Code->World->Prop)->World->Prop} {Kn:World->Prop} {X:Nat->World->Prop} {Kr:World->Prop} (R:Nat->Prop) (I:Nat->(Nat->Prop)->World->Prop) (E:World->Prop) (h0:I 0 R w)
  (hC:∀ i R W,I i R W->m+2<=W.heap.size->C R W) (hMv:∀ i R W R' W',I i R W->m+2<=W.heap.size->Mv R W R' W'->I i R' W'/\∃ S,Mod S W W'/\¬ S m/\¬ S (m+1))
  (hst:∀ i R W W',I i R W->Mod (fun x=>x=m\/x=m+1) W W'->I i R W') (hE:∀ W W',E W->Mod (fun x=>x=m\/x=m+1) W W'->E W')
  (hs:∀ i R W,i<N->Sk i->I i R W->I (i+1) R W) (hn:∀ i xs R W,Ar i xs R W->xs.length=n)
  (hr:∀ i xs R W (bgn:(World->Prop)->World->Prop) (fin:Option Code->World->Prop) (dd lo lb:Obj),i<N->Ar i xs R W->I i R W->m+2<=W.heap.size->W.heap[m]?=some dd->W.heap[m+1]?=some lo ->
   (∀ k W1,W1.heap[m]?=some dd->W1.heap[m+1]?=some lo->(∀ W',Mod (fun x=>x=m\/x=m+1) W1 W'->W'.heap.size=W1.heap.size->W'.heap[m]?=some dd->W'.heap[m+1]?=some lb->k W')->bgn k W1) ->
   (∀ W1,W1.heap[m]?=some dd->W1.heap[m+1]?=some lb->m+2<=W1.heap.size->(∃ R',I (i+1) R' W1)->fin none W1) ->
   (∀ W1,W1.heap[m]?=some dd->W1.heap[m+1]?=some lb->m+2<=W1.heap.size->E W1->fin (some .ret) W1)->rnd xs bgn fin W)
  (hK:∀ R W,I N R W->m+2<=W.heap.size->W.heap[m]?=some (.deferred (some []))->Kn W) (hR:∀ W,E W->m+2<=W.heap.size->W.heap[m]?=some (.deferred (some []))->Kr W) :
  RangeV Tryz.prog (.func (.func f) #[] lb) n w rnd (aftR Kn X Kr):=by
 subst hm
 intro r0 hs' hp hy
 obtain ⟨hd0,hl0,mW,sW⟩:((w.alloc (.deferred (some []))).alloc (.loop r0)).heap[w.heap.size]?=some (.deferred (some []))/\((w.alloc (.deferred (some []))).alloc (.loop r0)).heap[w.heap.size+1]?=some (.loop r0)/\Mod No w ((w.alloc (.deferred (some []))).alloc (.loop r0))/\((w.alloc (.deferred (some []))).alloc (.loop r0)).heap.size=w.heap.size+2:=by
  refine ⟨?_,?_,((Mod.refl No w).alloc _).alloc _,by simp⟩
  ·rw [heap_old (by simp)]; exact heap_new _ _
  ·have:=heap_new (w.alloc (.deferred (some []))) (.loop r0)
   rw [World.size_alloc] at this; exact this
 generalize (w.alloc (.deferred (some []))).alloc (.loop r0)=W2 at *
 have er:({ r0 with state:=LoopState.ready,pending:=none }:Loop)=r0:=by cases r0; simp only at hs' hp; subst hs'; subst hp; rfl
 have up:∀ {W W':World},Mod (fun x=>x=w.heap.size+1) W W'->Mod (fun x=>x=w.heap.size\/x=w.heap.size+1) W W':=fun h=>h.mono fun _ _ e=>.inr e
 have ne:∀ {q:Nat},q=w.heap.size->¬ (fun x=>x=w.heap.size+1) q:=fun e e'=>by have e':_=w.heap.size+1:=e'; omega
 refine hi (w.heap.size+1) W2 R _ (fun i R W=>I i R W/\w.heap.size+2<=W.heap.size/\W.heap[w.heap.size]?=some (.deferred (some []))/\W.heap[w.heap.size+1]?=some (.loop r0)) (fun W=>E W/\w.heap.size+2<=W.heap.size/\W.heap[w.heap.size]?=some (.deferred (some []))/\W.heap[w.heap.size+1]?=some (.loop { r0 with state:=.done,pending:=some .ret }))
  ⟨hst _ _ _ _ h0 (mW.mono fun _ _ e=>e.elim),by omega,hd0,hl0⟩ (fun i R W h=>hC i R W h.1 h.2.1) (fun i R W R' W' ⟨j1,j2,j3,j4⟩ hm=>?_) (fun i R W hi' hs2 ⟨j1,j2,j3,j4⟩=>⟨hs i R W hi' hs2 j1,j2,j3,j4⟩) (fun i xs R W K' hi' hA ⟨j1,j2,j3,j4⟩ hT hF=>?_) (fun W hW=>?_)
 ·obtain ⟨k1,S,k2,k3,k4⟩:=hMv i R W R' W' j1 j2 hm
  exact ⟨k1,Nat.le_trans j2 k2.size,k2.keep j3 k3,k2.keep j4 k4⟩
 ·refine hy xs W K' (hn i xs R W hA) j4 (hr i xs R W _ _ _ _ (.loop { r0 with state:=.busy }) hi' hA j1 j2 j3 j4 (fun k W1 h1 h2 h3=>⟨h2,?_⟩) (fun W1 h1 h2 hz ⟨R',h3⟩=>⟨h2,?_⟩) (fun W1 h1 h2 hz h3=>⟨h2,?_⟩))
  ·exact h3 _ (up (Mod.putObj W1 _ _)) (by simp) ((Mod.putObj W1 _ _).keep h1 (ne rfl)) (putObj_at h2)
  ·show K' (.bool true) (W1.putObj (w.heap.size+1) (.loop { r0 with state:=LoopState.ready,pending:=none }))
   rw [er]
   exact hT R' _ ⟨hst _ _ _ _ h3 (up (Mod.putObj W1 _ _)),Nat.le_trans hz (Mod.putObj W1 _ _).size,(Mod.putObj W1 _ _).keep h1 (ne rfl),putObj_at h2⟩
  ·exact hF _ ⟨hE _ _ h3 (up (Mod.putObj W1 _ _)),Nat.le_trans hz (Mod.putObj W1 _ _).size,(Mod.putObj W1 _ _).keep h1 (ne rfl),putObj_at h2⟩
 ·rcases hW with ⟨R',j1,j2,j3,j4⟩ | ⟨j1,j2,j3,j4⟩
  ·refine ⟨.ready,none,by rw [er]; exact j4,by simp,?_⟩
   exact hK R' _ (hst _ _ _ _ j1 (up (Mod.putObj W _ _))) (Nat.le_trans j2 (Mod.putObj W _ _).size) ((Mod.putObj W _ _).keep j3 (ne rfl))
  ·refine ⟨.done,some .ret,j4,by simp,?_⟩
   exact hR _ (hE _ _ j1 (up (Mod.putObj W _ _))) (Nat.le_trans j2 (Mod.putObj W _ _).size) ((Mod.putObj W _ _).keep j3 (ne rfl))
theorem sc_bytesS:scal Tryz.prog 55=true:=by kernel_rfl
theorem sc_ents:scal Tryz.prog 27=true:=by kernel_rfl
theorem sc_intsS:scal Tryz.prog 64=true:=by kernel_rfl
theorem zero_ents:zeroC Tryz.prog 27=some [.slice none 0 0]:=by kernel_rfl
theorem zero_intsS:zeroC Tryz.prog 64=some [.slice none 0 0]:=by kernel_rfl
theorem elemG_ents:elemG Tryz.prog 27 3 32:=elemG_of (by kernel_rfl)
theorem built_ent (w:World) (e:Dt):(Instr.buildSlice 27 1 #[(0,.agg ⟨eV e⟩)]).run Tryz.prog w=.ok (.slice (some ⟨w.heap.size,0,none⟩) 1 1) (w.alloc (.cells ⟨eV e⟩ 82)):=by kernel_rfl
theorem Ow.appG0 {base k bytes l c:Nat} {T ty:TypeId} {a:Option Addr} {xs:List Value} {w:World} (hT:elemG Tryz.prog T k bytes) (h:Ow Tryz.prog w base T k a l c xs):(Builtin.append_ #[T,T] ty #[.slice a l c,.slice none 0 0]).run Tryz.prog w=.ok (.slice a l c) w:=by
 obtain ⟨e,i,zv,he,hi,_⟩:=hT
 obtain ⟨e',he',how⟩:=h
 exact run_append_owned_none w base T ty e' i k he' (by rw [he] at he'; cases he'; exact hi) _ l xs how
def eL (l:List (Dt×Nat)):List Value:=(l.map fun x=>eV x.1).flatten
def pL (l:List (Dt×Nat)):List Value:=l.map fun x=>.int .i64 (x.2:Int)
theorem eL_snoc (l:List (Dt×Nat)) (e:Dt) (i:Nat):eL (l++[(e,i)])=eL l++eV e:=by simp [eL]
theorem one_eL (l:List (Dt×Nat)):∀ v∈eL l,v.oneCell'=true:=by
 intro v hv
 obtain ⟨x,hx,hv⟩:=List.mem_flatten.1 hv
 obtain ⟨y,_,rfl⟩:=List.mem_map.1 hx
 exact one_eV _ v hv
theorem eL_len (l:List (Dt×Nat)):(eL l).length=l.length*3:=by
 induction l with
 | nil=>rfl
 | cons a r ih=>show (eV a.1++eL r).length=_; rw [List.length_append,ih,List.length_cons]; show 3+_=_; omega
theorem pL_snoc (l:List (Dt×Nat)) (e:Dt) (i:Nat):pL (l++[(e,i)])=pL l++[.int .i64 (i:Int)]:=by simp [pL]
theorem entsD_some {x:List UInt8} {i:Nat} {e:Dt} (h:entAt x i=some e):entsD x (i+1)=entsD x i++[(e,i)]:=by rw [entsD,h]
theorem entsD_none {x:List UInt8} {i:Nat} (h:entAt x i=none):entsD x (i+1)=entsD x i:=by rw [entsD,h]
theorem entsD_len (x:List UInt8):∀ i,(entsD x i).length<=i
 | 0=>Nat.le_refl _
 | i+1=>by
  have:=entsD_len x i
  rw [entsD]
  split
  ·simp; omega
  ·omega
section
variable {w:World} {K:Value->World->Prop}
theorem dEntries_c {a:Option Addr} {c:Nat} (hk:∀ w',Mod No w w'->w'.heap.size=w.heap.size+1->AtU w' w.heap.size 0 [.slice a 256 c]->K (.func (.func F_dirent_entries_1) #[] #[.pointer (some ⟨w.heap.size,0,none⟩)]) w'):Cal Tryz.prog F_dirent_entries #[.slice a 256 c] w K:=by
 apply C_dirent_entries
 unfold D_dirent_entries
 obtain ⟨w1,a1,a2,a3,a4⟩:=box_v (P:=Tryz.prog) (w:=w) (T:=55) (v:=.slice a 256 c) rfl
 exact ⟨_,w1,a1,hk w1 a3 a4 a2⟩
theorem ent_it {q c:Nat} {a:Option Addr} {xs:List UInt8} (hl:xs.length=256) (hc:256<=c) :
  Itr F_dirent_entries_1 #[.pointer (some ⟨q,0,none⟩)] 8 (fun _ W=>AtU W q 0 [.slice a 256 c]/\Row W a (u8L xs)) (fun R W R' W'=>R'=R/\Mod No W W') (fun i=>entAt xs i=none) (fun i ys _ _=>∃ e,entAt xs i=some e/\ys=[.int .i64 (i:Int),.agg ⟨eV e⟩]):=by
 intro l w R K J E h0 hC hMv hSk hst hk
 refine C_dirent_entries_1 _ _ w K ?_
 unfold D_dirent_entries_1
 refine ⟨fun x W=>∃ (i:Nat) (y:Value) (R':Nat->Prop),x=[.int .i64 i,y]/\i<=8/\J i R' W,fun x _=>(8-nI x 0).toNat,⟨0,_,R,rfl,Nat.zero_le _,h0⟩,?_⟩
 rintro x W ⟨i,y,R',rfl,hi,hJ⟩
 obtain ⟨hq,hr⟩:=hC _ _ _ hJ
 refine ⟨_,rfl,cond_of (fun hb=>?_) (fun hb=>hk W (.inl ⟨R',?_⟩))⟩
 ·have hb:=of_decide_eq_true hb
  have hi8:i<8:=by omega
  refine ⟨_,_,_,hq.at.one sc_bytesS,dRead_c hl hc hi8 hr fun w2 m2=>⟨_,_,rfl,?_⟩⟩
  obtain ⟨w3,b1,b2,b3,b4⟩:=new_u (P:=Tryz.prog) (w:=w2) (T:=82) zero_ent
  obtain ⟨w4,c1,c2,c3,c4⟩:=b2.put (T:=82) (vs:=eV (getE (enAt xs i)).1) agg_ent rfl rfl (one_eV _)
  have m4:Mod No W w4:=(m2.no b3).own c3 m2.size
  have hJ4:=hMv _ _ _ _ _ hJ ⟨rfl,m4⟩
  refine ⟨_,w3,b1,w4,c1,Share.cut (fun z W'=>(z=[.bool false]/\∃ R',J (i+1) R' W')\/(z=[.bool true]/\E W')) ?_ ?_⟩
  ·rw [beqI]
   refine cond_of (fun h=>⟨(getE (enAt xs i)).1.s,c2.at.fld (j:=0) (v:=.int .i64 (getE (enAt xs i)).1.s) sc_int rfl,?_⟩) (fun h=>.inl ⟨rfl,R',hSk i R' _ hi8 ?_ hJ4⟩)
   ·have h:=of_decide_eq_true h
    rw [bneI]
    refine cond_of (fun h2=>?_) (fun h2=>.inl ⟨rfl,R',hSk i R' _ hi8 ?_ hJ4⟩)
    ·have h2:=of_decide_eq_true h2
     have he:entAt xs i=some (getE (enAt xs i)).1:=by unfold entAt; rw [if_pos ⟨h,h2⟩]
     exact ⟨_,c2.at.all agg_ent rfl,.yield l,#[],#[],rfl,rfl,rfl,hst i _ R' _ _ hi8 ⟨_,he,rfl⟩ hJ4 (fun R'' W' hJ'=>⟨true,rfl,.inl ⟨rfl,R'',hJ'⟩⟩) fun W' hE=>⟨false,rfl,.inr ⟨rfl,hE⟩⟩⟩
    ·have h2:=of_decide_eq_false h2
     show entAt xs i=none
     unfold entAt; rw [if_neg fun e=>h2 e.2]
   ·have h:=of_decide_eq_false h
    show entAt xs i=none
    unfold entAt; rw [if_neg fun e=>h e.1]
  ·rintro z W' (⟨rfl,R'',hJ'⟩ | ⟨rfl,hE⟩)
   ·refine ⟨_,rfl,ff rfl ?_⟩
    rw [wrap64 (x:=(i:Int)+1) (by omega) (by omega)]
    exact ⟨⟨i+1,_,R'',rfl,by omega,hJ'⟩,by simp [nI,nth]; omega⟩
   ·exact ⟨_,rfl,tt rfl (hk W' (.inr hE))⟩
 ·have hb:=of_decide_eq_false hb
  have:i=8:=by omega
  rw [<- this]; exact hJ
set_option maxRecDepth 4000 in
theorem dList_c {a:Option Addr} {c:Nat} {xs:List UInt8} (hl:xs.length=256) (hc:256<=c) (hr:Row w a (u8L xs))
  (hk:∀ w' a1 c1 a2 l2 c2,Mod No w w'->Ow Tryz.prog w' w.heap.size 27 3 a1 (entsD xs 8).length c1 (eL (entsD xs 8))->(a1=none\/0<(entsD xs 8).length)->K (.tuple #[.slice a1 (entsD xs 8).length c1,.slice a2 l2 c2,.int .i64 0]) w'):Cal Tryz.prog F_dirent_List #[.slice a 256 c] w K:=by
 apply C_dirent_List
 unfold D_dirent_List
 obtain ⟨w1,a1,a2,a3,a4⟩:=new_u (P:=Tryz.prog) (w:=w) (T:=27) zero_ents
 obtain ⟨w2,b1,b2,b3,b4⟩:=new_u (P:=Tryz.prog) (w:=w1) (T:=64) zero_intsS
 refine ff rfl ⟨_,w1,a1,_,w2,b1,dEntries_c fun w3 m3 z3 hq=>⟨_,rfl,?_⟩⟩
 have M3:Mod No w w3:=(a3.no b3).no m3
 have mix:∀ {W W':World},Mod (fun x=>x=w3.heap.size\/x=w3.heap.size+1) W W'->∀ q,q<w3.heap.size->¬ (q=w3.heap.size\/q=w3.heap.size+1):=fun _ q h e=>by omega
 refine range_it (ent_it (a:=a) hl hc) rfl (fun _=>False) (fun i _ W=>AtU W w2.heap.size 0 [.slice a 256 c]/\Mod No w W/\∃ a1 c1 a2 l2 c2,AtU W w.heap.size 0 [.slice a1 (entsD xs i).length c1]/\AtU W w1.heap.size 0 [.slice a2 l2 c2]/\l2=(entsD xs i).length /\
   Ow Tryz.prog W (w3.heap.size+2) 27 3 a1 (entsD xs i).length c1 (eL (entsD xs i))/\Ow Tryz.prog W (w3.heap.size+2) 64 1 a2 l2 c2 (pL (entsD xs i))/\(∀ q q',a1=some q->a2=some q'->q.block≠q'.block)/\(a1=none\/0<(entsD xs i).length)) (fun _=>False)
  ⟨hq,M3,none,0,none,0,0,(a2.keep b3 id).keep m3 id,b2.keep m3 id,rfl,Ow.nilG elemG_ents,Ow.nil elemZ_ints,(fun q q' e=>by cases e),.inl rfl⟩ ?_ ?_ ?_ (fun _ _ e=>e.elim) ?_ ?_ ?_ ?_ (fun _ e=>e.elim)
 ·rintro i R W ⟨j1,j2,_⟩ _
  exact ⟨j1,hr.nos j2⟩
 ·rintro i R W R' W' ⟨j1,j2,r1,c1,r2,l2,c2,j3,j4,j5,j6,j7,j8,j9⟩ hz ⟨rfl,m⟩
  exact ⟨⟨j1.keep m id,j2.no m,r1,c1,r2,l2,c2,j3.keep m id,j4.keep m id,j5,j6.nos m,j7.nos m,j8,j9⟩,No,m,id,id⟩
 ·rintro i R W W' ⟨j1,j2,r1,c1,r2,l2,c2,j3,j4,j5,j6,j7,j8,j9⟩ m
  refine ⟨j1.keep m (mix m _ (by omega)),j2.trans m fun x hx e=>by have:=M3.size; omega,r1,c1,r2,l2,c2,j3.keep m (mix m _ (by omega)),j4.keep m (mix m _ (by omega)),j5,j6.keep m fun q e r=>?_,j7.keep m fun q e r=>?_,j8,j9⟩
  ·have:=(j6.base e).1; omega
  ·have:=(j7.base e).1; omega
 ·rintro i R W hi hs ⟨j1,j2,r1,c1,r2,l2,c2,j3,j4,j5,j6,j7,j8,j9⟩
  rw [entsD_none hs]
  exact ⟨j1,j2,r1,c1,r2,l2,c2,j3,j4,j5,j6,j7,j8,j9⟩
 ·rintro i ys R W ⟨e,_,rfl⟩
  rfl
 ·rintro i ys R W bgn fin dd lo lb hi ⟨e,he,rfl⟩ ⟨j1,j2,r1,c1,r2,l2,c2,j3,j4,j5,j6,j7,j8,j9⟩ hz hd hlo hbg hfn _
  obtain ⟨w5,d1,d2,d3,d4⟩:=new_u (P:=Tryz.prog) (w:=W) (T:=82) zero_ent
  obtain ⟨w6,e1,e2,e3,e4⟩:=d2.put (T:=82) (vs:=eV e) agg_ent rfl rfl (one_eV _)
  have m6:Mod No W w6:=d3.own e3 (Nat.le_refl _)
  refine ⟨_,rfl,_,w5,d1,_,rfl,w6,e1,hbg _ w6 (m6.keep hd id) (m6.keep hlo id) fun w7 m7 z7 hd7 hl7=>?_⟩
  have le:=entsD_len xs i
  have k3:=(j3.keep m6 id).keep m7 (mix m7 _ (by omega))
  have k4:=(j4.keep m6 id).keep m7 (mix m7 _ (by omega))
  have k1:=(j1.keep m6 id).keep m7 (mix m7 _ (by omega))
  have k6:=(j6.nos m6).keep m7 fun q e r=>by have:=(j6.base e).1; omega
  have k7:=(j7.nos m6).keep m7 fun q e r=>by have:=(j7.base e).1; omega
  have k8:=e2.keep m7 fun r=>by have r:W.heap.size=_\/W.heap.size=_:=r; omega
  have z6:=m6.size
  have mb:Mod No w7 (w7.alloc (.cells ⟨eV e⟩ 82)):=(Mod.refl No w7).alloc _
  have zb:(w7.alloc (.cells ⟨eV e⟩ 82)).heap.size=w7.heap.size+1:=by simp
  have pb:AtU (w7.alloc (.cells ⟨eV e⟩ 82)) w7.heap.size 0 (eV e):=AtU.new
  refine ⟨_,_,_,k3.at.one sc_ents,_,k8.at.all agg_ent rfl,_,_,_,_,built_ent w7 e,?_⟩
  generalize w7.alloc (.cells ⟨eV e⟩ 82)=w8 at *
  obtain ⟨q9,c9,w9,f1,f2,f3,f4⟩:=(k6.nos mb).appG (ty:=27) (m:=1) (c2:=1) (ad:=⟨w7.heap.size,0,none⟩) (ys:=eV e) elemG_ents (by omega) (.inr ⟨_,_,rfl,pb.at⟩) rfl (by omega) (one_eV e) (by omega) (by omega) (by omega)
  have S9:∀ q,q<w3.heap.size+2->¬ (fun x=>∃ q',r1=some q'/\x=q'.block) q:=fun q h ⟨q',e',e2⟩=>by have:=(j6.base e').1; omega
  obtain ⟨w10,g1,g2,g3,g4⟩:=((k3.keep mb id).keep f3 (S9 _ (by omega))).put1 (P:=Tryz.prog) (T:=27) (v:=.slice (some q9) ((entsD xs i).length+1) c9) sc_ents rfl
  have k4':=((k4.keep mb id).keep f3 (S9 _ (by omega))).keep g3 (by show ¬ w1.heap.size=w.heap.size; omega)
  have k7':=((k7.nos mb).keep f3 fun q e ⟨q',e',e2⟩=>j8 q' q e' e e2.symm).keep g3 fun q e r=>by have:=(j7.base e).1; have r:q.block=w.heap.size:=r; omega
  have mc:Mod No w10 (w10.alloc (.cells ⟨[.int .i64 (i:Int)]⟩ 3)):=(Mod.refl No w10).alloc _
  have zc:(w10.alloc (.cells ⟨[.int .i64 (i:Int)]⟩ 3)).heap.size=w10.heap.size+1:=by simp
  have pc:AtU (w10.alloc (.cells ⟨[.int .i64 (i:Int)]⟩ 3)) w10.heap.size 0 [.int .i64 (i:Int)]:=AtU.new
  refine ⟨_,_,_,w9,f1,w10,g1,_,_,_,k4'.at.one sc_intsS,_,_,_,_,builtI w10 _,?_⟩
  generalize w10.alloc (.cells ⟨[.int .i64 (i:Int)]⟩ 3)=w11 at *
  have z9:=f3.size
  obtain ⟨q12,c12,w12,p1,p2,p3,p4⟩:=(k7'.nos mc).app (ty:=64) (m:=1) (c2:=1) (ad:=⟨w10.heap.size,0,none⟩) (ys:=[.int .i64 (i:Int)]) elemZ_ints (by omega) (.inr ⟨_,_,rfl,pc.at⟩) rfl (by omega) (by simp; rfl) (by omega) (by omega) (by omega)
  have S12:∀ q,q<w3.heap.size+2->¬ (fun x=>∃ q',r2=some q'/\x=q'.block) q:=fun q h ⟨q',e',e2⟩=>by have:=(j7.base e').1; omega
  obtain ⟨w13,s1,s2,s3,s4⟩:=((k4'.keep mc id).keep p3 (S12 _ (by omega))).put1 (P:=Tryz.prog) (T:=64) (v:=.slice (some q12) (l2+1) c12) sc_intsS rfl
  -- from w7 to the end
  have lo9:q9.block≠w1.heap.size/\w3.heap.size+2<=q9.block/\q9.block<w9.heap.size:=by have:=f2.base rfl; exact ⟨by omega,this.1,this.2⟩
  have z12:=p3.size
  have far:∀ x,x<w3.heap.size+2->x≠w.heap.size->x≠w1.heap.size->∀ {o:Obj},w7.heap[x]?=some o->w13.heap[x]?=some o:=fun x h h1 h2 o ho=>s3.keep (p3.keep (mc.keep (g3.keep (f3.keep (mb.keep ho id) (S9 x h)) h1) id) (S12 x h)) h2
  have d9:∀ q',r2=some q'->q9.block≠q'.block:=fun q' e'=>by
   have:=(k7.base e').2
   rcases f4 with ⟨q,e1,e2⟩ | f4
   ·rw [e2]; exact j8 q q' e1 e'
   ·omega
  have hsn:=entsD_some he
  have hln:(entsD xs (i+1)).length=(entsD xs i).length+1:=by rw [hsn]; simp
  have hM7:Mod No w w7:=(j2.no m6).trans m7 fun x hx e=>by have:=M3.size; omega
  refine ⟨_,_,_,w12,p1,w13,s1,hfn w13 (far _ (by omega) (by omega) (by omega) hd7) (far _ (by omega) (by omega) (by omega) hl7) (by omega) ⟨R,?_,?_,some q9,c9,some q12,l2+1,c12,?_,?_,?_,?_,?_,?_,.inr (by omega)⟩⟩
  ·refine (((((k1.keep mb id).keep f3 (S9 _ (by omega))).keep g3 (by show ¬ w2.heap.size=w.heap.size; omega)).keep mc id).keep p3 (S12 _ (by omega))).keep s3 (by show ¬ w2.heap.size=w1.heap.size; omega)
  ·refine ((((((hM7.no mb).trans f3 fun x hx ⟨q',e',e2⟩=>by have:=(j6.base e').1; have:=M3.size; omega).trans g3 fun x hx e=>by have e:x=w.heap.size:=e; omega).no mc).trans p3 fun x hx ⟨q',e',e2⟩=>by have:=(j7.base e').1; have:=M3.size; omega).trans s3 fun x hx e=>by have e:x=w1.heap.size:=e; omega)
  ·rw [hln]
   exact ((g2.keep mc id).keep p3 (S12 _ (by omega))).keep s3 (by show ¬ w.heap.size=w1.heap.size; omega)
  ·exact s2
  ·omega
  ·rw [hln,hsn,eL_snoc]
   refine (((f2.keep g3 fun q e r=>?_).nos mc).keep p3 fun q e ⟨q',e',e2⟩=>?_).keep s3 fun q e r=>?_
   ·cases e; have r:q9.block=w.heap.size:=r; omega
   ·cases e; exact d9 q' e' e2
   ·cases e; exact lo9.1 r
  ·rw [hsn,pL_snoc]
   refine p2.keep s3 fun q e r=>?_
   cases e; have:=(p2.base rfl).1; have r:q12.block=w1.heap.size:=r; omega
  ·intro q q' e e'
   cases e; cases e'
   rcases p4 with ⟨q,e1,e2⟩ | p4
   ·rw [e2]; exact d9 q e1
   ·omega
 ·rintro R W ⟨j1,j2,r1,c1,r2,l2,c2,j3,j4,j5,j6,j7,j8,j9⟩ hz hd
  have md:=Mod.putObj (Go.Den.drew W) w3.heap.size (.deferred none)
  refine ⟨_,_,_,j3.drew.at.one sc_ents,_,_,_,j4.drew.at.one sc_intsS,hd,hk _ r1 c1 r2 l2 c2 (j2.drew.trans md fun x hx e=>by have e:x=w3.heap.size:=e; have:=M3.size; omega) ?_ j9⟩
  refine ((j6.nos ((Mod.refl No W).drew)).keep md fun q e r=>?_).mono (by have:=M3.size; omega)
  have:=(j6.base e).1; have r:q.block=w3.heap.size:=r; omega
set_option maxRecDepth 4000 in
theorem dFind_c {a:Option Addr} {c:Nat} {xs nm:List UInt8} (hl:xs.length=256) (hc:256<=c) (hr:Row w a (u8L xs))
  (hk:∀ w',Mod No w w'->K (.int .i64 (match findD xs nm 8 with | some i=>(i:Int) | none=>-1)) w'):Cal Tryz.prog F_dirent_Find #[.slice a 256 c,.string (sB nm)] w K:=by
 apply C_dirent_Find
 unfold D_dirent_Find
 have st:∀ n j,findD xs nm n=some j->∀ m,n<=m->findD xs nm m=some j:=fun n j h m hm=>by
  induction m with
  | zero=>rw [show n=0 by omega] at h; exact h
  | succ m ih =>
   by_cases e:n=m+1
   ·rw [<- e]; exact h
   ·unfold findD; rw [ih (by omega)]
 obtain ⟨w1,a1,a2,a3,a4⟩:=box_v (P:=Tryz.prog) (w:=w) (T:=9) (v:=.string (sB nm)) rfl
 obtain ⟨w2,b1,b2,b3,b4⟩:=new_u (P:=Tryz.prog) (w:=w1) (T:=3) zero_int
 refine ⟨_,w1,a1,_,w2,b1,dEntries_c fun w3 m3 z3 hq=>⟨_,rfl,?_⟩⟩
 have M3:Mod No w w3:=(a3.no b3).no m3
 have mix:∀ {W W':World},Mod (fun x=>x=w3.heap.size\/x=w3.heap.size+1) W W'->∀ q,q<w3.heap.size->¬ (q=w3.heap.size\/q=w3.heap.size+1):=fun _ q h e=>by omega
 refine range_it (ent_it (a:=a) hl hc) rfl (fun _=>False) (fun i _ W=>AtU W w2.heap.size 0 [.slice a 256 c]/\Mod No w W/\AtU W w.heap.size 0 [.string (sB nm)]/\AtU W w1.heap.size 0 [.int .i64 0]/\findD xs nm i=none)
  (fun W=>Mod No w W/\∃ i:Nat,AtU W w1.heap.size 0 [.int .i64 (i:Int)]/\findD xs nm 8=some i)
  ⟨hq,M3,(a2.keep b3 id).keep m3 id,b2.keep m3 id,rfl⟩ ?_ ?_ ?_ ?_ ?_ ?_ ?_ ?_ ?_
 ·rintro i R W ⟨j1,j2,_⟩ _
  exact ⟨j1,hr.nos j2⟩
 ·rintro i R W R' W' ⟨j1,j2,j3,j4,j5⟩ hz ⟨rfl,m⟩
  exact ⟨⟨j1.keep m id,j2.no m,j3.keep m id,j4.keep m id,j5⟩,No,m,id,id⟩
 ·rintro i R W W' ⟨j1,j2,j3,j4,j5⟩ m
  exact ⟨j1.keep m (mix m _ (by omega)),j2.trans m fun x hx e=>by have:=M3.size; omega,j3.keep m (mix m _ (by omega)),j4.keep m (mix m _ (by omega)),j5⟩
 ·rintro W W' ⟨j2,i,j4,j5⟩ m
  exact ⟨j2.trans m fun x hx e=>by have:=M3.size; omega,i,j4.keep m (mix m _ (by omega)),j5⟩
 ·rintro i R W hi hs ⟨j1,j2,j3,j4,j5⟩
  exact ⟨j1,j2,j3,j4,by unfold findD; rw [j5,hs]⟩
 ·rintro i ys R W ⟨e,_,rfl⟩
  rfl
 ·rintro i ys R W bgn fin dd lo lb hi ⟨e,he,rfl⟩ ⟨j1,j2,j3,j4,j5⟩ hz hd hlo hbg hfn hrt
  obtain ⟨w5,d1,d2,d3,d4⟩:=new_u (P:=Tryz.prog) (w:=W) (T:=82) zero_ent
  obtain ⟨w6,e1,e2,e3,e4⟩:=d2.put (T:=82) (vs:=eV e) agg_ent rfl rfl (one_eV _)
  have m6:Mod No W w6:=d3.own e3 (Nat.le_refl _)
  refine ⟨_,rfl,_,w5,d1,_,rfl,w6,e1,hbg _ w6 (m6.keep hd id) (m6.keep hlo id) fun w7 m7 z7 hd7 hl7=>?_⟩
  have z6:=m6.size
  have k1:=(j1.keep m6 id).keep m7 (mix m7 _ (by omega))
  have k3:=(j3.keep m6 id).keep m7 (mix m7 _ (by omega))
  have k4:=(j4.keep m6 id).keep m7 (mix m7 _ (by omega))
  have k8:=e2.keep m7 fun r=>by have r:W.heap.size=_\/W.heap.size=_:=r; omega
  have hM7:Mod No w w7:=(j2.no m6).trans m7 fun x hx e=>by have:=M3.size; omega
  refine ⟨_,k8.at.fld (j:=2) (v:=.string (sB e.nm)) sc_strE rfl,_,k3.at.one sc_strE,?_⟩
  rw [beq_sB]
  refine cond_of (fun h=>?_) (fun h=>hfn w7 hd7 hl7 (by omega) ⟨R,k1,hM7,k3,k4,?_⟩)
  ·have h:=of_decide_eq_true h
   obtain ⟨w8,g1,g2,g3,g4⟩:=k4.put1 (P:=Tryz.prog) (T:=3) (v:=.int .i64 (i:Int)) sc_int rfl
   refine ⟨w8,g1,hrt w8 (g3.keep hd7 (by show ¬ w3.heap.size=w1.heap.size; omega)) (g3.keep hl7 (by show ¬ w3.heap.size+1=w1.heap.size; omega)) (by omega) ⟨hM7.trans g3 fun x hx e=>by have e:x=w1.heap.size:=e; omega,i,g2,st (i+1) i ?_ 8 (by omega)⟩⟩
   unfold findD; rw [j5,he]; show (if e.nm=nm then some i else none)=_; rw [if_pos h]
  ·have h:=of_decide_eq_false h
   unfold findD; rw [j5,he]; show (if e.nm=nm then some i else none)=_; rw [if_neg h]
 ·rintro R W ⟨j1,j2,j3,j4,j5⟩ hz hd
  obtain ⟨w8,g1,g2,g3,g4⟩:=j4.put1 (P:=Tryz.prog) (T:=3) (v:=.int .i64 (-1)) sc_int rfl
  have md:=Mod.putObj w8 w3.heap.size (.deferred none)
  rw [j5] at hk
  exact ⟨w8,g1,g3.keep hd (by show ¬ w3.heap.size=w1.heap.size; omega),_,(g2.keep md (by show ¬ w1.heap.size=w3.heap.size; omega)).at.one sc_int,hk _ ((j2.trans g3 fun x hx e=>by have e:x=w1.heap.size:=e; omega).trans md fun x hx e=>by have e:x=w3.heap.size:=e; have:=M3.size; omega)⟩
 ·rintro W ⟨j2,i,j4,j5⟩ hz hd
  have md:=Mod.putObj W w3.heap.size (.deferred none)
  rw [j5] at hk
  exact ⟨hd,_,(j4.keep md (by show ¬ w1.heap.size=w3.heap.size; omega)).at.one sc_int,hk _ (j2.trans md fun x hx e=>by have e:x=w3.heap.size:=e; have:=M3.size; omega)⟩
end
end Go.Proofs.YtandmpcjjaabmaaGreat
end
section
open Go Go.Den Go.Proofs
namespace Go.Proofs.YtandmpcjjaabmaaGreat
theorem drop_app {α:Type} {a b:List α} {n:Nat} (h:a.length=n):(a++b).drop n=b:=by
 rw [List.drop_append,List.drop_eq_nil_of_le (by omega),List.nil_append,h,Nat.sub_self,List.drop_zero]
theorem take_app {α:Type} {a b:List α} {n:Nat} (h:a.length=n):(a++b).take n=a:=by
 rw [List.take_append_of_le_length (by omega),List.take_of_length_le (by omega)]
theorem nm_at {p:List Int} (hp:∀ a∈p,0<=a/\a<65536):∀ {k:Nat} {a:Int} {r:List UInt8},p[k]?=some a->(leN (((iNames p++r).drop (2*k)).take 2):Int)=a:=by
 induction p with
 | nil=>intro k a r h; simp at h
 | cons b q ih =>
  intro k a r h
  have e:iNames (b::q)++r=toLe 2 b.toNat++(iNames q++r):=by
   show (toLe 2 b.toNat++iNames q)++r=_
   rw [List.append_assoc]
  have hb:=hp b (by simp)
  rw [e]
  cases k with
  | zero =>
   have:b=a:=by simpa using h
   subst this
   rw [Nat.mul_zero,List.drop_zero,take_app (length_toLe _ _),leN_toLe _ _ (by omega)]
   omega
  | succ k =>
   have h:q[k]?=some a:=by simpa using h
   rw [show 2*(k+1)=2+2*k by omega,<- List.drop_drop,drop_app (length_toLe _ _)]
   exact ih (fun a ha=>hp a (by simp [ha])) h
theorem readN_inoB {i:Nd} (hw:nWf i) (ho:nOk i=true):readN (inoB i)=i:=by
 obtain ⟨b1,b2,b3,b4,b5,b6,b7,b8,hp⟩:=nOk_b ho
 have hall:∀ a∈i.p,0<=a/\a<65536:=fun a ha=>by have:=hp a ha; omega
 have l2:(toLe 2 i.links.toNat).length=2:=length_toLe _ _
 have l4:(toLe 4 i.size.toNat).length=4:=length_toLe _ _
 have l8:(toLe 8 i.id.toNat).length=8:=length_toLe _ _
 have e:inoB i=[UInt8.ofNat i.kind.toNat,0]++(toLe 2 i.links.toNat++(toLe 4 i.size.toNat++(toLe 8 i.id.toNat++(iNames i.p++List.replicate 32 0)))):=by
  unfold inoB iFront
  simp only [List.append_assoc]
 have d2:(inoB i).drop 2=toLe 2 i.links.toNat++(toLe 4 i.size.toNat++(toLe 8 i.id.toNat++(iNames i.p++List.replicate 32 0))):=by rw [e]; rfl
 have d4:(inoB i).drop 4=toLe 4 i.size.toNat++(toLe 8 i.id.toNat++(iNames i.p++List.replicate 32 0)):=by
  rw [show 4=2+2 by rfl,<- List.drop_drop,d2,drop_app l2]
 have d8:(inoB i).drop 8=toLe 8 i.id.toNat++(iNames i.p++List.replicate 32 0):=by
  rw [show 8=4+4 by rfl,<- List.drop_drop,d4,drop_app l4]
 have d16:(inoB i).drop 16=iNames i.p++List.replicate 32 0:=by
  rw [show 16=8+8 by rfl,<- List.drop_drop,d8,drop_app l8]
 have nm:∀ (k:Nat) (a:Int),i.p[k]?=some a->nmAt (inoB i) k=a:=fun k a h=>by
  have:=nm_at hall (r:=List.replicate 32 0) h
  unfold nmAt
  rw [<- d16,List.drop_drop] at this
  exact this
 have h0:((inoB i).getD 0 0).toNat=i.kind.toNat:=by
  rw [e]
  show (UInt8.ofNat i.kind.toNat).toNat=_
  rw [UInt8.toNat_ofNat']; omega
 have hw8:i.p.length=8:=hw
 cases i with
 | mk kind links size id p =>
  simp only at *
  match p,hw8 with
  | [a0,a1,a2,a3,a4,a5,a6,a7],_ =>
   unfold readN
   rw [h0,d2,d4,d8,take_app l2,take_app l4,take_app l8,leN_toLe _ _ (by omega),leN_toLe _ _ (by omega),leN_toLe _ _ (by omega),nmTo8,
    nm 0 a0 rfl,nm 1 a1 rfl,nm 2 a2 rfl,nm 3 a3 rfl,nm 4 a4 rfl,nm 5 a5 rfl,nm 6 a6 rfl,nm 7 a7 rfl,wrap64 (by omega) (by omega)]
   simp only [Nd.mk.injEq,and_true]
   omega
theorem inoG_inoB {i:Nd} (hw:nWf i) (ho:nOk i=true):inoG (inoB i)=(i,0):=by
 have hr:=readN_inoB hw ho
 have hl:=inoB_len hw
 rw [inoG_doc hl,hr,if_pos ⟨ho,rfl⟩]
theorem over_here {xs d:Bk} {f:Nat} (h:f+d.length<=xs.length):((overB xs f d).drop f).take d.length=d:=by
 unfold overB
 rw [List.append_assoc,drop_app (by simp; omega),take_app rfl]
theorem over_there {xs d:Bk} {f f' n:Nat} (h:f+d.length<=xs.length) (hd:f'+n<=f\/f+d.length<=f'):((overB xs f d).drop f').take n=(xs.drop f').take n:=by
 have hl:(xs.take f).length=f:=by simp; omega
 unfold overB
 rcases hd with hd | hd
 ·rw [List.append_assoc,List.drop_append,List.take_append_of_le_length (by simp; omega),List.drop_take,List.take_take,Nat.min_eq_left (by omega)]
 ·rw [List.drop_append,List.drop_eq_nil_of_le (by rw [List.length_append,hl]; exact hd),List.nil_append,List.drop_drop,List.length_append,hl,show f+d.length+(f'-(f+d.length))=f' by omega]
theorem inoAt_over {xs:Bk} (hl:xs.length=256) {p:Int} (h0:0<=p) (h4:p<4) {i:Nd} (hw:nWf i) (ho:nOk i=true) {q:Int} (q0:0<=q) (q4:q<4) :
  inoAt (overB xs (64*p.toNat) (inoB i)) q=if q=p then (i,0) else inoAt xs q:=by
 have hb:=inoB_len hw
 have hl':(overB xs (64*p.toNat) (inoB i)).length=256:=by unfold overB; simp; omega
 have ht:tabE 256 q=0:=by unfold tabE; rw [if_neg (by decide),if_neg (by omega)]
 unfold inoAt
 rw [hl',hl,ht,if_neg (show ¬ (0:Int)≠0 from fun e=>e rfl),if_neg (show ¬ (0:Int)≠0 from fun e=>e rfl)]
 by_cases e:q=p
 ·subst e
  rw [if_pos rfl]
  have:=over_here (xs:=xs) (d:=inoB i) (f:=64*q.toNat) (by omega)
  rw [hb] at this
  rw [this]; exact inoG_inoB hw ho
 ·rw [if_neg e,over_there (by omega) (by omega)]
def slotV (V:Ps) (g:Gm) (s:Int):Nd×Int:=if (gPlace g s).2.2≠0 then (nZ,(gPlace g s).2.2) else inoAt (contV V (gPlace g s).1.toNat) (gPlace g s).2.1
theorem gPlace_in {g:Gm} (hg:gOk g=true) {s:Int} (h0:0<=s) (h1:s<gSlots g):∃ k j p:Nat,gPlace g s=(2+k*g.gr+1+j,(p:Int),0)/\(k:Int)<g.gs/\(j:Int)<gTabs g/\p<4/\s=k*g.no+(4*j+p)/\(4*j+p:Int)<g.no:=by
 obtain ⟨s1,s2,s3,s4⟩:=slot_in hg h0 h1
 obtain ⟨_,_,_,_,g5,_,g7,_⟩:=gOk_iff.1 hg
 have hT:=gTabs_eq hg
 obtain ⟨k,hk⟩:=Int.eq_ofNat_of_zero_le s1
 obtain ⟨r,hr⟩:=Int.eq_ofNat_of_zero_le s3
 refine ⟨k,r / 4,r % 4,?_,by omega,by omega,by omega,?_,by omega⟩
 ·unfold gPlace
  rw [if_pos hg,if_pos ⟨h0,h1⟩,hk,hr]
  congr 1
 ·have:=Int.mul_ediv_add_emod s g.no
  rw [hk,hr] at this
  have e:g.no*(k:Int)=k*g.no:=Int.mul_comm _ _
  omega
theorem gPlace_out {g:Gm} (hg:gOk g=true) {s:Int} (h:¬ (0<=s/\s<gSlots g)):gPlace g s=(0,0,3):=by unfold gPlace; rw [if_pos hg,if_neg h]
theorem tab_head {g:Gm} (hg:gOk g=true) {k k' j:Nat} (hj:(j:Int)<gTabs g):(2+(k:Int)*g.gr+1+j).toNat≠(2+(k':Int)*g.gr).toNat:=by
 intro e
 obtain ⟨g1,_,_,_,_,_,_,g8,_⟩:=gOk_iff.1 hg
 have hT:=gTabs_eq hg
 have p1:0<=(k:Int)*g.gr:=Int.mul_nonneg (by omega) (by omega)
 have p2:0<=(k':Int)*g.gr:=Int.mul_nonneg (by omega) (by omega)
 have e:(k':Int)*g.gr=(1+j)+k*g.gr:=by omega
 have e2:((k':Int)*g.gr) % g.gr=((1+j:Int)+k*g.gr) % g.gr:=by rw [e]
 rw [Int.mul_emod_left,Int.add_mul_emod_self_right,Int.emod_eq_of_lt (by omega) (by omega)] at e2
 omega
theorem tab_inj {g:Gm} (hg:gOk g=true) {k k' j j':Nat} (hj:(j:Int)<gTabs g) (hj':(j':Int)<gTabs g) (e:(2+(k:Int)*g.gr+1+j).toNat=(2+(k':Int)*g.gr+1+j').toNat):k=k'/\j=j':=by
 obtain ⟨g1,_,_,_,_,_,_,g8,_⟩:=gOk_iff.1 hg
 have hT:=gTabs_eq hg
 have p1:0<=(k:Int)*g.gr:=Int.mul_nonneg (by omega) (by omega)
 have p2:0<=(k':Int)*g.gr:=Int.mul_nonneg (by omega) (by omega)
 have e:(j:Int)+k*g.gr=j'+k'*g.gr:=by omega
 have e2:((j:Int)+k*g.gr) % g.gr=((j':Int)+k'*g.gr) % g.gr:=by rw [e]
 rw [Int.add_mul_emod_self_right,Int.add_mul_emod_self_right,Int.emod_eq_of_lt (by omega) (by omega),Int.emod_eq_of_lt (by omega) (by omega)] at e2
 have e3:(k:Int)*g.gr=k'*g.gr:=by omega
 have:=Int.eq_of_mul_eq_mul_right (by omega) e3
 omega
theorem slotV_same {V V':Ps} {g:Gm} (hg:gOk g=true) (h:∀ k j:Nat,(j:Int)<gTabs g->contV V' (2+(k:Int)*g.gr+1+j).toNat=contV V (2+(k:Int)*g.gr+1+j).toNat) (s:Int):slotV V' g s=slotV V g s:=by
 unfold slotV
 by_cases hs:0<=s/\s<gSlots g
 ·obtain ⟨k,j,p,e,_,hj,_⟩:=gPlace_in hg hs.1 hs.2
  rw [e]
  simp only
  rw [h k j hj]
 ·rw [gPlace_out hg hs,if_pos (by decide),if_pos (by decide)]
theorem slotV_set {V:Ps} {g:Gm} (hg:gOk g=true) {n b p:Int} (hn:gPlace g n=(b,p,0)) (hl:(contV V b.toNat).length=256) {i:Nd} (hw:nWf i) (ho:nOk i=true) {after:List Int} (hE:patE V b (64*p) (inoB i) after=0) (s:Int) :
  slotV (patS V b (64*p) (inoB i) after) g s=if s=n then (i,0) else slotV V g s:=by
 obtain ⟨_,n0,n1,_,_,p0,p4⟩:=gPlace_b hn
 obtain ⟨k,j,q,e,hk,hj,hq,hs,hs2⟩:=gPlace_in hg n0 n1
 rw [hn] at e
 cases e
 have hp:(64*(q:Int)).toNat=64*((q:Int)).toNat:=by omega
 unfold slotV
 by_cases hr:0<=s/\s<gSlots g
 ·obtain ⟨k',j',q',e',hk',hj',hq',hs',hs2'⟩:=gPlace_in hg hr.1 hr.2
  rw [e']
  simp only
  rw [if_neg (show ¬ (0:Int)≠0 from fun e=>e rfl),if_neg (show ¬ (0:Int)≠0 from fun e=>e rfl),contV_pat hE,hp]
  by_cases c:(2+(k':Int)*g.gr+1+j').toNat=(2+(k:Int)*g.gr+1+j).toNat
  ·obtain ⟨rfl,rfl⟩:=tab_inj hg hj' hj c
   rw [if_pos rfl,inoAt_over hl (by omega) (by omega) hw ho (by omega) (by omega)]
   by_cases d:(q':Int)=q
   ·rw [if_pos d,if_pos (by omega)]
   ·rw [if_neg d,if_neg (by omega)]
  ·rw [if_neg c,if_neg]
   intro d
   subst d
   rw [hn] at e'
   injection e' with e1 e2
   exact c (by rw [e1])
 ·have d:¬ s=n:=fun d=>by subst d; exact hr ⟨n0,n1⟩
  rw [gPlace_out hg hr,if_neg d]; rfl
end Go.Proofs.YtandmpcjjaabmaaGreat
end
section
open Go Go.Den Go.Proofs
namespace Go.Proofs.YtandmpcjjaabmaaGreat
theorem takeTo_mono {g : Gm} {hs : List Hd} {fz : Int → Bool} {find : Hd → Int → Int} {s p : Int} {t : Bool} {i : Nat} {x : Nat × Int} (h : takeTo g hs fz find s p t i = some x) : ∀ {n : Nat}, i ≤ n → takeTo g hs fz find s p t n = some x
  | 0, hn => by have : i = 0 := by omega
                subst this; exact h
  | n + 1, hn => by
    by_cases e : i = n + 1
    · rw [← e]; exact h
    · have := takeTo_mono h (n := n) (by omega)
      show (match takeTo g hs fz find s p t n with | some x => some x | none => takeAt g hs fz find s p t n) = _
      rw [this]
def takeA (kd:Bool) (A:Az) (s p:Int) (t:Bool):Az×(Int×Int)×Int×Int :=
 match takeTo A.s.geo A.hs A.fz (findX kd A.s.geo) s p t A.s.geo.gs.toNat with
 | some x=>((turnA kd A x.1 x.2 true).1,((x.1:Int),x.2),(turnA kd A x.1 x.2 true).2.1,(turnA kd A x.1 x.2 true).2.2)
 | none=>(A,(0,0),0,26)
theorem zero_i64:zeroC Tryz.prog 2=some [.int .i64 0]:=by kernel_rfl
theorem zero_errno:zeroC Tryz.prog 24=some [.int .i64 0]:=by kernel_rfl
theorem sc_errno:scal Tryz.prog 24=true:=by kernel_rfl
section
variable {w w':World} {R R':Nat->Prop} {a v d:Nat} {A:Az} {K:Value->World->Prop}
set_option maxRecDepth 4000 in
theorem take_c {kd t:Bool} {s p:Int} (h:Ao R w a v d A) (hs:0<=s/\s<A.s.geo.gs) (hp:0<=p/\p<=100000) (hlast:A.V.last+1<=1000000)
  (hk:∀ w' R',Mod R w w'->Sb R R' w->Ao R' w' a v d (takeA kd A s p t).1->K (.tuple #[.agg ⟨pV (takeA kd A s p t).2.1⟩,.int .i64 (takeA kd A s p t).2.2.1,.int .i64 (takeA kd A s p t).2.2.2]) w') :
  Cal Tryz.prog F_alloc_Alloc_take #[.pointer (some ⟨a,0,none⟩),.agg ⟨pV (s,p)⟩,.bool t,.agg ⟨xV kd⟩] w K:=by
 have hg:=h.ok
 obtain ⟨_,_,g3,g4,_⟩:=gOk_iff.1 hg
 obtain ⟨n,hn⟩:=Int.eq_ofNat_of_zero_le (show 0<=A.s.geo.gs by omega)
 have hnn:A.s.geo.gs.toNat=n:=by omega
 obtain ⟨f0,hf0⟩:∃ f,(xV kd)[0]?=some f:=by cases kd <;> exact ⟨_,rfl⟩
 apply C_alloc_Alloc_take
 unfold D_alloc_Alloc_take
 obtain ⟨w1,a1,a2,a3,a4⟩:=box_v (P:=Tryz.prog) (w:=w) (T:=73) (v:=.pointer (some ⟨a,0,none⟩)) rfl
 obtain ⟨w2,b1,b2,b3,b4⟩:=box_u (P:=Tryz.prog) (w:=w1) (T:=195) (cs:=pV (s,p))
 obtain ⟨w3,c1,c2,c3,c4⟩:=box_u (P:=Tryz.prog) (w:=w2) (T:=271) (cs:=xV kd)
 obtain ⟨w4,d1,d2,d3,d4⟩:=new_u (P:=Tryz.prog) (w:=w3) (T:=195) zero_spot
 obtain ⟨w5,e1,e2,e3,e4⟩:=new_u (P:=Tryz.prog) (w:=w4) (T:=2) zero_i64
 obtain ⟨w6,f1,f2,f3,f4⟩:=new_u (P:=Tryz.prog) (w:=w5) (T:=24) zero_errno
 have z1:w1.heap.size=w.heap.size+1:=a4
 have z2:w2.heap.size=w.heap.size+2:=by omega
 have z3:w3.heap.size=w.heap.size+3:=by omega
 have z4:w4.heap.size=w.heap.size+4:=by omega
 have z5:w5.heap.size=w.heap.size+5:=by omega
 have z6:w6.heap.size=w.heap.size+6:=by omega
 have p1:AtU w6 w.heap.size 0 [.pointer (some ⟨a,0,none⟩)]:=((((a2.keep b3 id).keep c3 id).keep d3 id).keep e3 id).keep f3 id
 have p2:AtU w6 (w.heap.size+1) 0 (pV (s,p)):=z1 ▸ (((b2.keep c3 id).keep d3 id).keep e3 id).keep f3 id
 have p3:AtU w6 (w.heap.size+2) 0 (xV kd):=z2 ▸ ((c2.keep d3 id).keep e3 id).keep f3 id
 have p4:AtU w6 (w.heap.size+3) 0 (pV (0,0)):=z3 ▸ (d2.keep e3 id).keep f3 id
 have p5:AtU w6 (w.heap.size+4) 0 [.int .i64 0]:=z4 ▸ e2.keep f3 id
 have p6:AtU w6 (w.heap.size+5) 0 [.int .i64 0]:=z5 ▸ f2
 have m6:Mod No w w6:=((((a3.no b3).no c3).no d3).no e3).no f3
 have h6:=h.nos m6
 rw [z1] at b1
 rw [z2] at c1
 rw [z3] at d1
 rw [z4] at e1
 rw [z5] at f1
 refine ⟨_,w1,a1,_,w2,b1,_,w3,c1,_,w4,d1,_,w5,e1,_,w6,f1,_,p1.at.one sc_palloc,_,p2.at.all agg_spot rfl,?_⟩
 refine ring_c (s:=s) (p:=p) (t:=t) fun w7 m7 s7 x3 x4 x5=>⟨_,rfl,?_⟩
 have M7:Mod No w w7:=m6.no m7
 have h7:=h.nos M7
 have p1:=p1.keep m7 id
 have p3:=p3.keep m7 id
 have p4:=p4.keep m7 id
 have p5:=p5.keep m7 id
 have p6:=p6.keep m7 id
 rw [z6] at x3 x4 x5 s7 |-
 clear p2 a1 b1 c1 d1 e1 f1 a2 b2 c2 d2 e2 f2 a3 b3 c3 d3 e3 f3 a4 b4 c4 d4 e4 f4 m6 h6
 intro r0 hs0 hp0 hy
 obtain ⟨hd0,hl0,mW,sW⟩:((w7.alloc (.deferred (some []))).alloc (.loop r0)).heap[w7.heap.size]?=some (.deferred (some []))/\((w7.alloc (.deferred (some []))).alloc (.loop r0)).heap[w7.heap.size+1]?=some (.loop r0)/\Mod No w7 ((w7.alloc (.deferred (some []))).alloc (.loop r0))/\((w7.alloc (.deferred (some []))).alloc (.loop r0)).heap.size=w7.heap.size+2:=by
  refine ⟨?_,?_,((Mod.refl No w7).alloc _).alloc _,by simp⟩
  ·rw [heap_old (by simp)]; exact heap_new _ _
  ·have:=heap_new (w7.alloc (.deferred (some []))) (.loop r0)
   rw [World.size_alloc] at this; exact this
 generalize (w7.alloc (.deferred (some []))).alloc (.loop r0)=W2 at *
 have hnR:∀ R',Sb R R' W2->∀ q,w.heap.size<=q->q<W2.heap.size->¬ R' q:=fun R' hs q h1 h2 e=>by
  rcases hs q e with e | e
  ·have:=h.lt q e; omega
  ·omega
 have hda:=h.dlt
 have own:∀ {b c:World} {q:Nat},Mod R w b->Mod (fun x=>x=q) b c->w.heap.size<=q->Mod R w c:=fun hb hc hq=>hb.trans hc fun z hz e=>by have e:z=_:=e; omega
 have er:({ r0 with state:=LoopState.ready,pending:=none }:Loop)=r0:=by cases r0; simp only at hs0 hp0; subst hs0; subst hp0; rfl
 have nel:∀ q,q<w7.heap.size+1->¬ (fun x=>x=w7.heap.size+1) q:=fun q hq e=>by have e:q=w7.heap.size+1:=e; omega
 refine ring1_c (A:=A) (n:=n) (w:=W2) hn hg hs hp (fun i W=>takeTo A.s.geo A.hs A.fz (findX kd A.s.geo) s p t i=none/\∃ R',Ao R' W a v d A/\Sb R R' W2/\Mod R w W/\W2.heap.size<=W.heap.size/\(AtU W w.heap.size 0 [.pointer (some ⟨a,0,none⟩)]/\AtU W (w.heap.size+2) 0 (xV kd)/\AtU W (w.heap.size+3) 0 (pV (0,0))/\AtU W (w.heap.size+4) 0 [.int .i64 0]/\AtU W (w.heap.size+5) 0 [.int .i64 0]) /\
   (AtU W (w.heap.size+6) 0 [.pointer (some ⟨a,0,none⟩)]/\AtU W (w.heap.size+6+1) 0 (pV (s,p))/\AtU W (w.heap.size+6+2) 0 [.bool t])/\W.heap[w7.heap.size]?=some (.deferred (some []))/\W.heap[w7.heap.size+1]?=some (.loop r0))
  (fun W=>∃ k j,takeTo A.s.geo A.hs A.fz (findX kd A.s.geo) s p t n=some (k,j)/\∃ R',Ao R' W a v d (turnA kd A k j true).1/\Sb R R' W2/\Mod R w W/\W2.heap.size<=W.heap.size/\AtU W (w.heap.size+3) 0 (pV (k,j))/\AtU W (w.heap.size+4) 0 [.int .i64 (turnA kd A k j true).2.1]/\AtU W (w.heap.size+5) 0 [.int .i64 (turnA kd A k j true).2.2]/\W.heap[w7.heap.size]?=some (.deferred (some []))/\W.heap[w7.heap.size+1]?=some (.loop { r0 with state:=.done,pending:=some .ret }))
  ⟨rfl,R,h7.nos mW,Sb.refl _ _,(M7.no mW).mono (fun _ _ e=>e.elim),Nat.le_refl _,⟨p1.keep mW id,p3.keep mW id,p4.keep mW id,p5.keep mW id,p6.keep mW id⟩,⟨x3.keep mW id,x4.keep mW id,x5.keep mW id⟩,hd0,hl0⟩
  (fun i W ⟨_,R',j1,j2,j3,j4,j5,j8,j9,j10⟩=>⟨R',j1,j8.1,j8.2.1,j8.2.2⟩)
  (fun i W W' ⟨j0,R',j1,j2,j3,j4,⟨k1,k2,k3,k4,k5⟩,j8,j9,j10⟩ m=>⟨j0,R',j1.nos m,j2,j3.no m,Nat.le_trans j4 m.size,⟨k1.keep m id,k2.keep m id,k3.keep m id,k4.keep m id,k5.keep m id⟩,⟨j8.1.keep m id,j8.2.1.keep m id,j8.2.2.keep m id⟩,m.keep j9 id,m.keep j10 id⟩) ?_ ?_ ?_
 ·rintro i W hi ⟨j0,jr⟩ hf
  refine ⟨?_,jr⟩
  show (match takeTo A.s.geo A.hs A.fz (findX kd A.s.geo) s p t i with | some x=>some x | none=>takeAt A.s.geo A.hs A.fz (findX kd A.s.geo) s p t i)=none
  rw [j0]
  show takeAt A.s.geo A.hs A.fz (findX kd A.s.geo) s p t i=none
  unfold takeAt; rw [if_pos hf]
 ·rintro i W K' hi ⟨j0,R',j1,j2,j3,j4,⟨k1,k2,k3,k4,k5⟩,⟨j8,j9,j10⟩,j11,j12⟩ hf hT hF
  have hkl:=ringK_lt hg s i
  obtain ⟨x,hx1,hx2,hx3,hx4,hx5⟩:=j1.hdOf hkl
  have hxs:A.hs[ringK A.s.geo s i]?=some x:=by
   obtain ⟨y,hy1,_⟩:=j1.hd.get (k:=(ringK A.s.geo s i:Int)) (by omega) hkl
   have hy1:A.hs[ringK A.s.geo s i]?=some y:=hy1
   rw [List.getD_eq_getElem?_getD,hy1] at hx2
   rw [hy1]; exact congrArg some hx2
  have hto:takeTo A.s.geo A.hs A.fz (findX kd A.s.geo) s p t (i+1)=if 0<=findX kd A.s.geo x (ringF p t i) then some (ringK A.s.geo s i,findX kd A.s.geo x (ringF p t i)) else none:=by
   show (match takeTo A.s.geo A.hs A.fz (findX kd A.s.geo) s p t i with | some x=>some x | none=>takeAt A.s.geo A.hs A.fz (findX kd A.s.geo) s p t i)=_
   rw [j0]
   show takeAt A.s.geo A.hs A.fz (findX kd A.s.geo) s p t i=_
   unfold takeAt; rw [if_neg (by rw [hf]; decide),hxs]
  generalize ringF p t i=fr at *
  generalize ringK A.s.geo s i=k at *
  refine hy [.int .i64 (k:Int),.int .i64 fr] W K' rfl j12 ?_
  refine ⟨_,rfl,_,rfl,j12,?_⟩
  have ml:=Mod.putObj W (w7.heap.size+1) (.loop { r0 with state:=.busy })
  have hlb:=putObj_at (o:=.loop { r0 with state:=.busy }) j12
  have far:∀ R',Sb R R' W2->∀ q,w.heap.size<=q->q<W2.heap.size->¬ R' q:=hnR
  have nl:¬ R' (w7.heap.size+1):=hnR R' j2 _ (by omega) (by omega)
  have t1:=j1.own ml nl (by omega)
  have zl:=ml.size
  have c1:Mod R w _:=own j3 ml (by omega)
  have y1:=k1.keep ml (nel _ (by omega))
  have y2:=k2.keep ml (nel _ (by omega))
  have y3:=k3.keep ml (nel _ (by omega))
  have y4:=k4.keep ml (nel _ (by omega))
  have y5:=k5.keep ml (nel _ (by omega))
  have y8:=j8.keep ml (nel _ (by omega))
  have y9:=j9.keep ml (nel _ (by omega))
  have y10:=j10.keep ml (nel _ (by omega))
  have y11:=ml.keep j11 (nel _ (by omega))
  generalize W.putObj (w7.heap.size+1) (.loop { r0 with state:=.busy })=W3 at *
  refine ⟨_,y1.at.one sc_palloc,_,rfl,_,t1.pv,aHead_c t1 fun w9 R9 m9 s9 k9 _=>?_⟩
  rw [hx1]
  have z9:=m9.size
  have S9:Sb R R9 W2:=j2.trans s9 (by omega)
  obtain ⟨w10,b1,b2,b3,b4⟩:=new_u (P:=Tryz.prog) (w:=w9) (T:=171) zero_head
  obtain ⟨w11,u1,u2,u3,u4⟩:=b2.put (T:=171) (vs:=hV x) agg_head rfl (hV_len hx5) (one_hV _)
  have m11:Mod No w9 (Go.Den.drew w11):=(b3.own u3 (Nat.le_refl _)).drew
  have M11:Mod R' W3 (Go.Den.drew w11):=m9.no m11
  have k11:=k9.nos m11
  have f1:=y1.keep M11 (hnR R' j2 _ (by omega) (by omega))
  have f2:=y2.keep M11 (hnR R' j2 _ (by omega) (by omega))
  refine ⟨_,_,rfl,_,w10,b1,w11,u1,ff rfl ⟨f0,f2.at.fld sc_find hf0,_,f1.at.one sc_palloc,_,rfl,_,k11.pv,_,u2.drew.at.all agg_head (hV_len hx5),aGeo_c k11 fun w16 m16=>⟨_,rfl,(f2.keep m16 id).at.fld sc_find hf0,(u2.drew.keep m16 id).at.all agg_head (hV_len hx5),findX_c hx5 (fun w17 m17=>⟨_,rfl,?_⟩) hf0⟩⟩⟩
  have M17:Mod R' W3 w17:=(M11.no m16).no m17
  have k17:=(k11.nos m16).nos m17
  have z17:=M17.size
  have C17:Mod R w w17:=c1.trans M17 fun z hz e=>(j2 z e).resolve_right (by omega)
  have g1:=y1.keep M17 (hnR R' j2 _ (by omega) (by omega))
  have g2:=y2.keep M17 (hnR R' j2 _ (by omega) (by omega))
  have g3:=y3.keep M17 (hnR R' j2 _ (by omega) (by omega))
  have g4:=y4.keep M17 (hnR R' j2 _ (by omega) (by omega))
  have g5:=y5.keep M17 (hnR R' j2 _ (by omega) (by omega))
  have g8:=y8.keep M17 (hnR R' j2 _ (by omega) (by omega))
  have g9:=y9.keep M17 (hnR R' j2 _ (by omega) (by omega))
  have g10:=y10.keep M17 (hnR R' j2 _ (by omega) (by omega))
  have g11:=M17.keep y11 (hnR R' j2 _ (by omega) (by omega))
  have gl:=M17.keep hlb (hnR R' j2 _ (by omega) (by omega))
  refine cond_of (fun hb=>?_) (fun hb=>?_)
  ·have hb:=of_decide_eq_true hb
   rw [if_pos (by omega)] at hto
   have hto:=takeTo_mono hto (n:=n) (by omega)
   refine ⟨_,g1.at.one sc_palloc,_,build_spot _ _,_,g2.at.all agg_heads (len_xV kd),?_⟩
   refine turn_c k17 hkl hlast fun w18 R18 m18 s18 k18=>⟨_,_,rfl,_,build_spot _ _,?_⟩
   have z18:=m18.size
   have S18:Sb R R18 W2:=S9.trans s18 (by omega)
   have C18:Mod R w w18:=C17.trans m18 fun z hz e=>(S9 z e).resolve_right (by omega)
   have l3:=g3.keep m18 (hnR R9 S9 _ (by omega) (by omega))
   have l4:=g4.keep m18 (hnR R9 S9 _ (by omega) (by omega))
   have l5:=g5.keep m18 (hnR R9 S9 _ (by omega) (by omega))
   have l11:=m18.keep g11 (hnR R9 S9 _ (by omega) (by omega))
   have ll:=m18.keep gl (hnR R9 S9 _ (by omega) (by omega))
   obtain ⟨w19,v1,v2,v3,v4⟩:=l3.put (T:=195) (vs:=pV ((k:Int),findX kd A.s.geo x fr)) agg_spot rfl rfl (one_pV _)
   obtain ⟨w20,r1,r2,r3,r4⟩:=(l4.keep v3 (by show ¬ w.heap.size+4=w.heap.size+3; omega)).put1 (P:=Tryz.prog) (T:=2) (v:=.int .i64 (turnA kd A k (findX kd A.s.geo x fr) true).2.1) sc_i64 rfl
   obtain ⟨w21,o1,o2,o3,o4⟩:=((l5.keep v3 (by show ¬ w.heap.size+5=w.heap.size+3; omega)).keep r3 (by show ¬ w.heap.size+5=w.heap.size+4; omega)).put1 (P:=Tryz.prog) (T:=24) (v:=.int .i64 (turnA kd A k (findX kd A.s.geo x fr) true).2.2) sc_errno rfl
   refine ⟨w19,v1,w20,r1,w21,o1,?_,?_⟩
   ·exact o3.keep (r3.keep (v3.keep ll (by show ¬ w7.heap.size+1=w.heap.size+3; omega)) (by show ¬ w7.heap.size+1=w.heap.size+4; omega)) (by show ¬ w7.heap.size+1=w.heap.size+5; omega)
   show K' (.bool false) (w21.putObj (w7.heap.size+1) (.loop { r0 with state:=.done,pending:=some .ret }))
   have hl21:=o3.keep (r3.keep (v3.keep ll (by show ¬ w7.heap.size+1=w.heap.size+3; omega)) (by show ¬ w7.heap.size+1=w.heap.size+4; omega)) (by show ¬ w7.heap.size+1=w.heap.size+5; omega)
   have mf:=Mod.putObj w21 (w7.heap.size+1) (.loop { r0 with state:=.done,pending:=some .ret })
   have zf:=mf.size
   have nR:=fun q h1 h2=>hnR R18 S18 q h1 h2
   refine hF _ ⟨k,_,hto,R18,(((k18.own v3 (nR _ (by omega) (by omega)) (by omega)).own r3 (nR _ (by omega) (by omega)) (by omega)).own o3 (nR _ (by omega) (by omega)) (by omega)).own mf (nR _ (by omega) (by omega)) (by omega),S18,own (own (own (own C18 v3 (by omega)) r3 (by omega)) o3 (by omega)) mf (by omega),by omega,?_,?_,?_,?_,putObj_at hl21⟩
   ·exact ((v2.keep r3 (by show ¬ w.heap.size+3=w.heap.size+4; omega)).keep o3 (by show ¬ w.heap.size+3=w.heap.size+5; omega)).keep mf (nel _ (by omega))
   ·exact (r2.keep o3 (by show ¬ w.heap.size+4=w.heap.size+5; omega)).keep mf (nel _ (by omega))
   ·exact o2.keep mf (nel _ (by omega))
   ·exact mf.keep (o3.keep (r3.keep (v3.keep l11 (by show ¬ w7.heap.size=w.heap.size+3; omega)) (by show ¬ w7.heap.size=w.heap.size+4; omega)) (by show ¬ w7.heap.size=w.heap.size+5; omega)) (nel _ (by omega))
  ·have hb:=of_decide_eq_false hb
   rw [if_neg (by omega)] at hto
   refine ⟨gl,?_⟩
   show K' (.bool true) (w17.putObj (w7.heap.size+1) (.loop { r0 with state:=LoopState.ready,pending:=none }))
   rw [er]
   have mf:=Mod.putObj w17 (w7.heap.size+1) (.loop r0)
   have zf:=mf.size
   refine hT _ ⟨hto,R9,k17.own mf (hnR R9 S9 _ (by omega) (by omega)) (by omega),S9,own C17 mf (by omega),by omega,⟨g1.keep mf (nel _ (by omega)),g2.keep mf (nel _ (by omega)),g3.keep mf (nel _ (by omega)),g4.keep mf (nel _ (by omega)),g5.keep mf (nel _ (by omega))⟩,⟨g8.keep mf (nel _ (by omega)),g9.keep mf (nel _ (by omega)),g10.keep mf (nel _ (by omega))⟩,mf.keep g11 (nel _ (by omega)),putObj_at gl⟩
 ·have tk:=hk
  unfold takeA at tk
  rw [hnn] at tk
  rintro W (⟨j0,R',j1,j2,j3,j4,⟨k1,k2,k3,k4,k5⟩,_,j11,j12⟩ | ⟨k,j,j0,R',j1,j2,j3,j4,k3,k4,k5,j11,j12⟩)
  ·refine ⟨.ready,none,by rw [er]; exact j12,by simp,?_⟩
   have ml:=Mod.putObj W (w7.heap.size+1) (.loop { r0 with state:=.exhausted,pending:=none })
   have t1:=j1.own ml (hnR R' j2 _ (by omega) (by omega)) (by omega)
   have c1:=own j3 ml (by omega)
   have zl:=ml.size
   have y3:=k3.keep ml (nel _ (by omega))
   have y4:=k4.keep ml (nel _ (by omega))
   have y5:=k5.keep ml (nel _ (by omega))
   have y11:=ml.keep j11 (nel _ (by omega))
   show ∃ g63:Array Value,_
   generalize W.putObj (w7.heap.size+1) (.loop { r0 with state:=.exhausted,pending:=none })=W3 at *
   obtain ⟨w19,v1,v2,v3,v4⟩:=y3.put (T:=195) (vs:=pV (0,0)) agg_spot rfl rfl (one_pV _)
   obtain ⟨w20,r1,r2,r3,r4⟩:=(y4.keep v3 (by show ¬ w.heap.size+4=w.heap.size+3; omega)).put1 (P:=Tryz.prog) (T:=2) (v:=.int .i64 0) sc_i64 rfl
   obtain ⟨w21,o1,o2,o3,o4⟩:=((y5.keep v3 (by show ¬ w.heap.size+5=w.heap.size+3; omega)).keep r3 (by show ¬ w.heap.size+5=w.heap.size+4; omega)).put1 (P:=Tryz.prog) (T:=24) (v:=.int .i64 26) sc_errno rfl
   have mf:=Mod.putObj w21 w7.heap.size (.deferred none)
   have nd:∀ q,q<w7.heap.size->¬ (fun x=>x=w7.heap.size) q:=fun q hq e=>by have e:q=w7.heap.size:=e; omega
   refine ⟨_,build_spot0,w19,v1,w20,r1,w21,o1,?_,_,(((v2.keep r3 ?_).keep o3 ?_).keep mf (nd _ (by omega))).at.all agg_spot rfl,_,((r2.keep o3 ?_).keep mf (nd _ (by omega))).at.one sc_i64,_,(o2.keep mf (nd _ (by omega))).at.one sc_errno,?_⟩
   ·exact o3.keep (r3.keep (v3.keep y11 (by show ¬ w7.heap.size=w.heap.size+3; omega)) (by show ¬ w7.heap.size=w.heap.size+4; omega)) (by show ¬ w7.heap.size=w.heap.size+5; omega)
   ·show ¬ w.heap.size+3=w.heap.size+4; omega
   ·show ¬ w.heap.size+3=w.heap.size+5; omega
   ·show ¬ w.heap.size+4=w.heap.size+5; omega
   rw [j0] at tk
   have nR:=fun q h1 h2=>hnR R' j2 q h1 h2
   exact tk _ R' (own (own (own (own c1 v3 (by omega)) r3 (by omega)) o3 (by omega)) mf (by omega)) (j2.up (by omega)) ((((t1.own v3 (nR _ (by omega) (by omega)) (by omega)).own r3 (nR _ (by omega) (by omega)) (by omega)).own o3 (nR _ (by omega) (by omega)) (by omega)).own mf (nR _ (by omega) (by omega)) (by omega))
  ·refine ⟨.done,some .ret,j12,by simp,?_⟩
   have ml:=Mod.putObj W (w7.heap.size+1) (.loop { r0 with state:=.exhausted,pending:=some .ret })
   have t1:=j1.own ml (hnR R' j2 _ (by omega) (by omega)) (by omega)
   have c1:=own j3 ml (by omega)
   have zl:=ml.size
   have y3:=k3.keep ml (nel _ (by omega))
   have y4:=k4.keep ml (nel _ (by omega))
   have y5:=k5.keep ml (nel _ (by omega))
   have y11:=ml.keep j11 (nel _ (by omega))
   show (World.heap _)[_]?=_/\_
   generalize W.putObj (w7.heap.size+1) (.loop { r0 with state:=.exhausted,pending:=some .ret })=W3 at *
   have mf:=Mod.putObj W3 w7.heap.size (.deferred none)
   have nd:∀ q,q<w7.heap.size->¬ (fun x=>x=w7.heap.size) q:=fun q hq e=>by have e:q=w7.heap.size:=e; omega
   refine ⟨y11,_,(y3.keep mf (nd _ (by omega))).at.all agg_spot rfl,_,(y4.keep mf (nd _ (by omega))).at.one sc_i64,_,(y5.keep mf (nd _ (by omega))).at.one sc_errno,?_⟩
   rw [j0] at tk
   exact tk _ R' (own c1 mf (by omega)) (j2.up (by omega)) (t1.own mf (hnR R' j2 _ (by omega) (by omega)) (by omega))
end
end Go.Proofs.YtandmpcjjaabmaaGreat
end
section
open Go Go.Den Go.Proofs
namespace Go.Proofs.YtandmpcjjaabmaaGreat
theorem spB_in {g:Gm} (hg:gOk g=true) (b:Int):0<=(spB g b).1/\(spB g b).1<g.gs/\0<=(spB g b).2.1/\(spB g b).2.1<128:=by
 obtain ⟨_,g2,g3,_⟩:=gOk_iff.1 hg
 unfold spB
 by_cases h:(gKind g b).1=4
 ·rw [if_neg (by omega)]
  obtain ⟨_,_,_,h3,h4,h5,h6⟩:=gKind_4 h
  have ht:=gTabs_b (g:=g)
  have e:(gHead g (gKind g b).2).1=2+(gKind g b).2*g.gr:=by unfold gHead; rw [if_pos hg,if_pos ⟨h3,h4⟩]
  refine ⟨h3,h4,?_,?_⟩ <;> (simp only; rw [e]; omega)
 ·rw [if_pos h]; exact ⟨Int.le_refl _,by show (0:Int)<_; omega,Int.le_refl _,by decide⟩
section
variable {w w':World} {R R':Nat->Prop} {a v d:Nat} {A:Az} {K:Value->World->Prop}
theorem Ao.hds (h:Ao R w a v d A) {k:Nat} {x:Hd} (hx:A.hs[k]?=some x):(k:Int)<A.s.geo.gs/\A.hs.getD k hZ=x/\hOk A.s.geo x=true/\x.no=k/\hWf x:=by
 obtain ⟨_,h2,h3,h4⟩:=h.hd.2.2.2 k x hx
 exact ⟨h.hd.lt hx,by rw [List.getD_eq_getElem?_getD,hx]; rfl,h2,h3,h4⟩
theorem findX_use {kd:Bool} {g:Gm} {h:Hd} {f:Int} (hw:hWf h) (e:0<=findX kd g h f):(useX kd g h (findX kd g h f) true).2=0/\findX kd g h f<128:=by
 cases kd with
 | true =>
  obtain ⟨h1,h2⟩:=findBk_use (g:=g) hw e
  refine ⟨h1,?_⟩
  have e:0<=findBk g h f:=e
  show findBk g h f<128
  by_cases ho:hOk g h=true
  ·obtain ⟨g1,_⟩:=hOk_iff.1 ho
   obtain ⟨_,g2,_⟩:=gOk_iff.1 g1
   omega
  ·unfold findBk at e; rw [if_neg ho] at e; omega
 | false =>
  obtain ⟨h1,h2⟩:=findSl_use (g:=g) hw e
  refine ⟨h1,?_⟩
  have e:0<=findSl g h f:=e
  show findSl g h f<128
  by_cases ho:hOk g h=true
  ·obtain ⟨g1,_⟩:=hOk_iff.1 ho
   obtain ⟨_,_,_,_,_,g2,_⟩:=gOk_iff.1 g1
   omega
  ·unfold findSl at e; rw [if_neg ho] at e; omega
theorem take_in (h:Ao R w a v d A) {kd t:Bool} {s p:Int} {k:Nat} {j:Int}:∀ {n:Nat},takeTo A.s.geo A.hs A.fz (findX kd A.s.geo) s p t n=some (k,j)->(k:Int)<A.s.geo.gs/\0<=j/\j<128/\A.fz k=false/\(useX kd A.s.geo (A.hs.getD k hZ) j true).2=0
 | 0,e=>by cases e
 | n+1,e=>by
  have e:(match takeTo A.s.geo A.hs A.fz (findX kd A.s.geo) s p t n with | some x=>some x | none=>takeAt A.s.geo A.hs A.fz (findX kd A.s.geo) s p t n)=some (k,j):=e
  cases ht:takeTo A.s.geo A.hs A.fz (findX kd A.s.geo) s p t n with
  | some x =>
   rw [ht] at e
   have e:x=(k,j):=by simpa using e
   rw [e] at ht
   exact take_in h ht
  | none =>
   rw [ht] at e
   have e:takeAt A.s.geo A.hs A.fz (findX kd A.s.geo) s p t n=some (k,j):=e
   unfold takeAt at e
   by_cases hf:A.fz (ringK A.s.geo s n)=true
   ·rw [if_pos hf] at e; cases e
   ·rw [if_neg hf] at e
    cases hx:A.hs[ringK A.s.geo s n]? with
    | none=>rw [hx] at e; cases e
    | some x =>
     rw [hx] at e
     simp only at e
     obtain ⟨h1,h2,h3,h4,h5⟩:=h.hds hx
     by_cases h0:0<=findX kd A.s.geo x (ringF p t n)
     ·rw [if_pos h0] at e
      cases e
      obtain ⟨u1,u2⟩:=findX_use h5 h0
      exact ⟨h1,h0,u2,by simpa using hf,by rw [h2]; exact u1⟩
     ·rw [if_neg h0] at e; cases e
def blockA (A:Az) (b:Int):Az×Int×Int×Int :=
 match takeTo A.s.geo A.hs A.fz (findX true A.s.geo) (spB A.s.geo b).1 (spB A.s.geo b).2.1 (spB A.s.geo b).2.2 A.s.geo.gs.toNat with
 | some x=>(sethA A x.1 (useX true A.s.geo (A.hs.getD x.1 hZ) x.2 true).1,2+x.1*A.s.geo.gr+x.2,(A.V.last:Int)+1,0)
 | none=>(A,0,0,26)
theorem takeA_eq (h:Ao R w a v d A) (kd t:Bool) (s p:Int):takeA kd A s p t=match takeTo A.s.geo A.hs A.fz (findX kd A.s.geo) s p t A.s.geo.gs.toNat with
 | some x=>(sethA A x.1 (useX kd A.s.geo (A.hs.getD x.1 hZ) x.2 true).1,((x.1:Int),x.2),(A.V.last:Int)+1,0)
 | none=>(A,(0,0),0,26):=by
 unfold takeA
 cases ht:takeTo A.s.geo A.hs A.fz (findX kd A.s.geo) s p t A.s.geo.gs.toNat with
 | none=>rfl
 | some x =>
  obtain ⟨_,_,_,_,e⟩:=take_in h (k:=x.1) (j:=x.2) ht
  simp only
  unfold turnA
  rw [if_neg (by rw [e]; exact fun e=>e rfl)]
theorem aBlock_c {b:Int} (h63:b<=9223372036854775807) (h:Ao R w a v d A) (hlast:A.V.last+1<=1000000)
  (hk:∀ w' R',Mod R w w'->Sb R R' w->Ao R' w' a v d (blockA A b).1->K (.tuple #[.int .i64 (blockA A b).2.1,.int .i64 (blockA A b).2.2.1,.int .i64 (blockA A b).2.2.2]) w') :
  Cal Tryz.prog F_alloc_Alloc_Block #[.pointer (some ⟨a,0,none⟩),.int .i64 b] w K:=by
 apply C_alloc_Alloc_Block
 unfold D_alloc_Alloc_Block
 have hg:=h.ok
 obtain ⟨s1,s2,s3,s4⟩:=spB_in hg b
 have hda:=h.dlt
 refine ff rfl (aBlk_c h63 h fun w1 m1=>⟨_,_,rfl,?_⟩)
 obtain ⟨w2,b1,b2,b3,b4⟩:=new_u (P:=Tryz.prog) (w:=w1) (T:=195) zero_spot
 obtain ⟨w3,c1,c2,c3,c4⟩:=b2.put (T:=195) (vs:=pV ((spB A.s.geo b).1,(spB A.s.geo b).2.1)) agg_spot rfl rfl (one_pV _)
 have z1:=m1.size
 have M3:Mod No w (Go.Den.drew w3):=(m1.no (b3.own c3 (Nat.le_refl _))).drew
 refine ⟨_,w2,b1,w3,c1,_,c2.drew.at.all agg_spot rfl,aBlocks_c fun w4 m4=>⟨_,rfl,(c2.drew.keep m4 id).at.all agg_spot rfl,?_⟩⟩
 have M4:=M3.no m4
 have q4:=c2.drew.keep m4 id
 have zq:=c2.drew.lt
 have z4:=m4.size
 have hq:w1.heap.size<w4.heap.size:=q4.lt
 refine take_c (h.nos M4) ⟨s1,s2⟩ ⟨s3,by omega⟩ hlast fun w5 R5 m5 s5 h5=>⟨_,_,_,rfl,?_⟩
 have nR:¬ R w1.heap.size:=fun e=>by have:=h.lt _ e; omega
 have nR5:¬ R5 w1.heap.size:=fun e=>by
  rcases s5 _ e with e | e
  ·exact nR e
  ·omega
 have M5:Mod R w w5:=(M4.mono fun _ _ e=>e.elim).trans m5 fun x _ e=>e
 have S5:Sb R R5 w:=s5.up (M4.size)
 have hT:=takeA_eq h true (spB A.s.geo b).2.2 (spB A.s.geo b).1 (spB A.s.geo b).2.1
 have z5:=m5.size
 obtain ⟨w6,e1,e2,e3,e4⟩:=(q4.keep m5 nR).put (T:=195) (vs:=pV (takeA true A (spB A.s.geo b).1 (spB A.s.geo b).2.1 (spB A.s.geo b).2.2).2.1) agg_spot rfl rfl (one_pV _)
 have h6:=h5.own e3 nR5 (by omega)
 have M6:Mod R w w6:=M5.trans e3 fun z hz e=>by have e:z=w1.heap.size:=e; omega
 refine ⟨w6,e1,?_⟩
 unfold blockA at hk
 rw [hT] at h6 e2 |-
 cases ht:takeTo A.s.geo A.hs A.fz (findX true A.s.geo) (spB A.s.geo b).1 (spB A.s.geo b).2.1 (spB A.s.geo b).2.2 A.s.geo.gs.toNat with
 | none =>
  rw [ht] at hk h6
  exact tt rfl (hk w6 R5 M6 S5 h6)
 | some x =>
  rw [ht] at hk h6 e2
  obtain ⟨i1,i2,i3,_,_⟩:=take_in h (k:=x.1) (j:=x.2) ht
  obtain ⟨p1,p2,p3⟩:=head_pos hg i1
  have hsz:=gSize_b (g:=A.s.geo)
  refine ff rfl ⟨_,rfl,_,(h6.nos (Mod.refl _ _).drew).pv,_,e2.drew.at.fld (v:=.int .i64 (x.1:Int)) sc_int rfl,aGeo_c (h6.nos (Mod.refl _ _).drew) fun w7 m7=>⟨_,rfl,(e2.drew.keep m7 id).at.fld (v:=.int .i64 (x.1:Int)) sc_int rfl,geoHead_c fun w8 m8=>⟨_,_,rfl,_,((e2.drew.keep m7 id).keep m8 id).at.fld (v:=.int .i64 x.2) sc_int rfl,?_⟩⟩⟩
  have eg:gHead (sethA A x.1 (useX true A.s.geo (A.hs.getD x.1 hZ) x.2 true).1).s.geo x.1=(2+x.1*A.s.geo.gr,0):=p1
  rw [eg,wrap64 (x:=2+(x.1:Int)*A.s.geo.gr+x.2) (by omega) (by omega)]
  have m68:Mod No w6 w8:=((Mod.refl No w6).drew.no m7).no m8
  exact hk w8 R5 (M6.no m68) S5 (h6.nos m68)
end
end Go.Proofs.YtandmpcjjaabmaaGreat
end
section
open Go Go.Den Go.Proofs
namespace Go.Proofs.YtandmpcjjaabmaaGreat
theorem choose_ok {xs ys:List UInt8} {n:Int} (h:(supChoose xs ys n).2.2=0):sOk (supChoose xs ys n).1=true/\gSize (supChoose xs ys n).1.geo<=n:=by
 have pick:∀ (i:Int) (zs:List UInt8) (b:Sp),(sOk b=true/\gSize b.geo<=n)\/b=sZ->(sOk (supPick i zs n b)=true/\gSize (supPick i zs n b).geo<=n)\/supPick i zs n b=sZ:=by
  intro i zs b hb
  unfold supPick
  split
  ·rename_i h
   exact .inl ⟨(supG_ok h.1).1,h.2.2.1⟩
  ·exact hb
 have hb:=pick 1 ys _ (pick 0 xs sZ (.inr rfl))
 unfold supChoose at *
 by_cases e:supBest xs ys n=sZ
 ·rw [if_pos e] at h; cases h
 ·rw [if_neg e]
  exact hb.resolve_right e
theorem mnt_ok {D:St} (h:(mntS D).2.2=0):gOk (mntS D).1.geo=true/\gSize (mntS D).1.geo<=D.vs.length/\1<=(mntS D).1.gen:=by
 have:=choose_ok h
 exact ⟨(sOk_iff.1 this.1).2,this.2,(sOk_iff.1 this.1).1.1⟩
theorem mnt_no {D:St} (h:(mntS D).2.2=0) (h2:mntOk D (mntS D).1.geo=false):mnt D=(sZ,8):=by
 unfold mnt
 rw [if_neg (by omega),if_neg (by rw [h2]; decide)]
theorem mnt_yes {D:St} (h:(mntS D).2.2=0) (h2:mntOk D (mntS D).1.geo=true):mnt D=((mntS D).1,0):=by
 unfold mnt
 rw [if_neg (by omega),if_pos h2]
theorem build_work:Al (Instr.build 245 #[]) (.agg ⟨[.slice none 0 0]⟩):=fun w=>by kernel_rfl
theorem build_vol (s:Sp) (sp wk:Nat):Al (Instr.build 167 #[(0,.agg ⟨sV s⟩),(1,.pointer (some ⟨sp,0,none⟩)),(2,.pointer (some ⟨wk,0,none⟩)),(3,.int .i64 0)]) (.agg ⟨vV s sp wk 0⟩):=fun w=>by kernel_rfl
section
variable {w0 wb w w':World} {R R0:Nat->Prop} {N v d sb mb sc:Nat} {L:List (Int×Value)} {s:Sp} {D:St} {V:Ps} {nx:Int} {K:Value->World->Prop}
theorem ReadC_c (h:DiskIn w R d sb mb sc L D) (hs:Small D) {n:Int} (hk:∀ w' a c,Mod No w w'->Fresh w w' a (rdB D n)->(rdB D n).length<=c->K (.tuple #[.slice a (rdB D n).length c,.int .i64 (errOf D n)]) w'):Cal Tryz.prog F_disk_Disk_Read #[.pointer (some ⟨d,0,none⟩),.int .i64 n] w K:=by
 apply C_disk_Disk_Read
 unfold D_disk_Disk_Read
 refine may_c h ⟨_,rfl,?_⟩
 rcases err_cases (D:=D) n with ⟨he,_⟩ | ⟨he,i,v,rfl,hv,hver⟩
 ·have hb:rdB D n=[]:=by unfold rdB; rw [if_neg (by omega)]
  refine tt (by rw [he]; rfl) ?_
  have:=hk w none 0 (Mod.refl _ _) (.inl ⟨rfl,hb⟩) (by rw [hb]; exact Nat.le_refl _)
  rw [hb] at this; exact this
 ·have hb:rdB D i=lastV v:=by unfold rdB; rw [if_pos he,hver]
  have hll:=h.wf.lastLen hv
  refine ff (by rw [he]; rfl) (last_c h hv (hs v (List.mem_of_getElem? hv)) fun w2 m2=>⟨_,rfl,_,_,alloc_block w2,_,store_new agg_block (by rw [length_u8L,List.length_replicate]) (by simp [hll]) (one_u8L _),_,_,_,slice_block _,?_⟩)
  have:=hk (w2.alloc (.cells ⟨u8L (lastV v)⟩ 224)) (some ⟨w2.heap.size,0,none⟩) 256 (m2.alloc _) (.inr ⟨w2.heap.size,rfl,m2.size,by rw [hb]; exact AtU.new⟩) (by rw [hb,hll]; exact Nat.le_refl _)
  rw [hb,hll,he] at this; exact this
theorem diskV (h:Pz w0 R w v d V):∃ R4 sb mb sc L,DiskIn w R4 d sb mb sc L V.C.D/\Small V.C.D:=by
 obtain ⟨C,eD,eM,hw,rl,c,mo,mm,ca,oa,Lo,Lm,h⟩:=h
 obtain ⟨rl2,m,sb,mb,sc,lc,la,L,mp,hC⟩:=h.cx
 have hD:Ps.C (⟨C,V.last,V.ons⟩:Ps)=C:=rfl
 have hd:=hC.disk
 have hs:=hC.wf.small
 rw [hD,eD] at hd hs
 exact ⟨_,sb,mb,sc,L,hd,hs⟩
theorem Vg.comp {R':Nat->Prop} {w1:World} (h2:∀ x,R' x->R0 x\/wb.heap.size<=x) (hm:Mod R0 wb w1) (k:Vg w1 R' N w' v d s D nx):Vg wb R0 N w' v d s D nx:=by
 obtain ⟨R,sp,wk,k,w0,h1,hv,h3,h4,h5,h6,h7,h8,h9⟩:=k
 have hz:=hm.size
 refine ⟨R,sp,wk,k,w0,h1,hv,⟨h3.1,h3.2.1,h3.2.2.1,?_⟩,fun x hx=>⟨?_,(h4 x hx).2⟩,hm.trans h5 fun x hx e=>(h2 x e).resolve_right (by omega),h6,by omega,h8,h9⟩
 ·rcases h3.2.2.2 with e | e
  ·exact h2 v e
  ·exact .inr (by omega)
 ·rcases (h4 x hx).1 with e | e
  ·exact h2 x e
  ·exact .inr (by omega)
theorem rdB_le (h:WF D) (n:Int):(rdB D n).length<=256:=by
 rcases err_cases (D:=D) n with ⟨he,_⟩ | ⟨he,i,v,rfl,hv,hver⟩
 ·unfold rdB; rw [if_neg (by omega)]; simp
 ·unfold rdB; rw [if_pos he,hver,h.lastLen hv]; exact Nat.le_refl _
set_option maxRecDepth 8000 in
theorem vMount_c (h:DiskIn w R d sb mb sc L D) (hsm:Small D) (hlo:∀ x,R x->w0.heap.size<=x/\x<w.heap.size) (hm0:Mod No w0 w) (hrun:D.left=-1)
  (hk0:(mnt D).2≠0->∀ w',Mod R w w'->K (.tuple #[.pointer none,.int .i64 (mnt D).2]) w')
  (hk:(mnt D).2=0->∀ w' N v,Vg w R N w' v d (mnt D).1 D (nextTo D (mnt D).1.geo (gSlots (mnt D).1.geo).toNat+1)->K (.tuple #[.pointer (some ⟨v,0,none⟩),.int .i64 0]) w') :
  Cal Tryz.prog F_vol_Mount #[.pointer (some ⟨d,0,none⟩)] w K:=by
 have hlen:=h.wf.lo
 have hhi:=h.wf.hi
 have hwf:=h.wf
 apply C_vol_Mount
 unfold D_vol_Mount
 refine Len_c h ⟨_,rfl,?_⟩
 have e1:(if (1:Int) > (D.vs.length:Int) then (1:Int) else (D.vs.length:Int))=(D.vs.length:Int):=by rw [if_neg (by omega)]
 rw [e1]
 refine qNew_c h hsm hlo hm0 hrun hlen hhi (Nat.le_refl _) fun w2 sp m2 P2=>⟨_,_,rfl,ff rfl ?_⟩
 obtain ⟨R4,sb4,mb4,sc4,L4,hd2,hs2⟩:=diskV P2
 refine ReadC_c hd2 hs2 (n:=0) fun w3 a3 c3 m3 f3 hc3=>⟨_,_,_,_,rfl,?_⟩
 refine ReadC_c (hd2.nos m3) hs2 (n:=1) fun w4 a4 c4 m4 f4 hc4=>⟨_,_,_,_,rfl,?_⟩
 have M24:Mod No w2 w4:=m3.no m4
 refine Len_c (hd2.nos M24) ⟨_,rfl,?_⟩
 have l3:=rdB_le hwf 0
 have l4:=rdB_le hwf 1
 refine supChoose_c (xs:=rdB D 0) (ys:=rdB D 1) rfl hc3 (f3.nos m4).row (by show (rdB D 0).length<=_; omega) rfl hc4 f4.row (by show (rdB D 1).length<=_; omega) fun w6 m6=>⟨_,_,_,rfl,?_⟩
 have M26:=M24.no m6
 show ∃ q10:Addr,_
 obtain ⟨w7,b1,b2,b3,b4⟩:=new_u (P:=Tryz.prog) (w:=w6) (T:=158) zero_sup
 obtain ⟨w8,c1,c2,c3',c4'⟩:=b2.put (T:=158) (vs:=sV (mntS D).1) agg_sup rfl rfl (one_sV _)
 have m8:Mod No w6 w8:=b3.own c3' (Nat.le_refl _)
 refine ⟨_,w7,b1,w8,c1,?_⟩
 rw [bneI]
 refine cond_of (fun he=>?_) (fun he=>?_)
 ·have he:(mntS D).2.2≠0:=of_decide_eq_true he
  have e:mnt D=(sZ,(mntS D).2.2):=by unfold mnt; rw [if_pos he]
  have:=hk0 (by rw [e]; exact he) w8 (((m2.no M26).no m8).mono fun _ _ h=>h.elim)
  rw [e] at this
  exact this
 have he:(mntS D).2.2=0:=Classical.not_not.1 (of_decide_eq_false he)
 obtain ⟨hg,hsz,hgen⟩:=mnt_ok he
 have m8d:Mod No w6 (Go.Den.drew w8):=m8.drew
 refine ⟨_,c2.drew.at.all agg_sup rfl,?_⟩
 apply C_push_New
 unfold D_push_New
 obtain ⟨w9,p1,p2,p3,p4⟩:=box_u (P:=Tryz.prog) (w:=Go.Den.drew w8) (T:=245) (cs:=[.slice none 0 0])
 have q9:AtU w9 w6.heap.size 0 (sV (mntS D).1):=c2.drew.keep p3 id
 refine ⟨_,build_work,_,w9,p1,_,rfl,q9.at.all agg_sup rfl,_,build_vol _ _ _,?_⟩
 obtain ⟨w10,v1,v2,v3,v4⟩:=box_u (P:=Tryz.prog) (w:=w9) (T:=167) (cs:=vV (mntS D).1 sp (Go.Den.drew w8).heap.size 0)
 refine ⟨_,w10,v1,?_⟩
 have M69:Mod No w6 w9:=m8d.no p3
 have M29:Mod No w2 w9:=M26.no M69
 have M210:Mod No w2 w10:=M29.no v3
 have hz2:=m2.size
 have hz6:=M26.size
 have hz9:=M29.size
 have hz69:=M69.size
 have hz0:=hm0.size
 have hlt6:=c2.lt
 have hz8:w8.heap.size<=w9.heap.size:=p3.size
 have hG:∀ x,Gro R w w2 x->x<w2.heap.size:=fun x hx=>by
  rcases hx with hx | hx
  ·have:=(hlo x hx).2; omega
  ·omega
 have X10:Vg w9 (Gro R w w2) w10.heap.size w10 w9.heap.size d (mntS D).1 D 0 :=
  ⟨Gro R w w2,sp,_,_,w0,P2.nos M210,v2,⟨fun e=>by have:=hG _ e; omega,by omega,by omega,.inr (Nat.le_refl _)⟩,fun x hx=>⟨.inl hx,by have:=hG _ hx; omega⟩,v3.mono fun _ _ h=>h.elim,Nat.le_refl _,by omega,by omega,p2.keep v3 id,fun e=>by have:=hG _ e; have:(Go.Den.drew w8).heap.size=w8.heap.size:=rfl; omega,(by have:=p2.lt; omega),(by show _<=w8.heap.size; omega),(by have:=p2.lt; omega),(by show d<=w8.heap.size; have:=(hlo d h.rb).2; omega),(by have:=(hlo d h.rb).2; omega)⟩
 have hq:∀ {w':World} {N:Nat} {nx:Int},Vg w9 (Gro R w w2) N w' w9.heap.size d (mntS D).1 D nx->AtU w' w6.heap.size 0 (sV (mntS D).1):=fun X=>q9.keep X.mod fun e=>by have:=hG _ e; omega
 have back:∀ x,Gro R w w2 x->R x\/w.heap.size<=x:=fun x hx=>by
  rcases hx with hx | hx
  ·exact .inl hx
  ·exact .inr hx.1
 have bm:Mod R w w9:=(m2.no M29).mono fun _ _ h=>h.elim
 have hno:∀ {w':World} {N:Nat} {nx:Int},Vg w9 (Gro R w w2) N w' w9.heap.size d (mntS D).1 D nx->mntOk D (mntS D).1.geo=false->∀ w'',Mod No w' w''->K (.tuple #[.pointer none,.int .i64 8]) w'':=fun X hf w'' m=>by
  have e:=mnt_no he hf
  have:=hk0 (by rw [e]; decide) w'' ((X.comp back bm).mod.no m)
  rw [e] at this
  exact this
 obtain ⟨g1,g2,g3,g4,g5,g6,g7,g8,g9⟩:=gOk_iff.1 hg
 refine ⟨_,(hq X10).at.fld2 sc_int rfl,?_⟩
 refine ⟨fun x w11=>∃ (k N:Nat) (y:Value),(k:Int)<=(mntS D).1.geo.gs/\x=[.int .i64 k,y]/\Vg w9 (Gro R w w2) N w11 w9.heap.size d (mntS D).1 D 0/\∀ j,j<k->headOk D (mntS D).1.geo j=true,fun x _=>((mntS D).1.geo.gs-nI x 0).toNat,
  ⟨0,_,undef,by omega,rfl,X10,fun j hj=>by omega⟩,?_⟩
 rintro x w11 ⟨k,N,y,hk2,rfl,X11,hh⟩
 refine ⟨_,rfl,cond_of (fun hl=>?_) (fun hl=>?_)⟩
 ·have hl:(k:Int)<(mntS D).1.geo.gs:=of_decide_eq_true hl
  refine vHead_c X11 hsz fun w12 X12=>⟨_,_,rfl,?_⟩
  obtain ⟨w13,s1,s2,s3,s4⟩:=new_u (P:=Tryz.prog) (w:=w12) (T:=171) zero_head
  have hwd:=headAt_wf D (mntS D).1.geo k
  obtain ⟨w14,t1,t2,t3,t4⟩:=s2.put (T:=171) (vs:=hV (headAt D (mntS D).1.geo k).1) agg_head rfl (hV_len hwd) (one_hV _)
  have m14:Mod No w12 w14:=s3.own t3 (Nat.le_refl _)
  refine ⟨_,w13,s1,w14,t1,?_⟩
  refine Share.cut (fun z w15=>z=[.bool (!headOk D (mntS D).1.geo k)]/\w15=w14) ?_ ?_
  ·rw [bneI]
   refine cond_of (fun hp=>⟨?_,rfl⟩) (fun hp=>⟨_,t2.at.fld (v:=.int .i64 (headAt D (mntS D).1.geo k).1.no) sc_int rfl,?_,rfl⟩)
   ·have hp:=of_decide_eq_true hp
    have:headOk D (mntS D).1.geo k=false:=by unfold headOk; rw [decide_eq_false fun e=>hp e.1]
    rw [this]; rfl
   ·have hp:=Classical.not_not.1 (of_decide_eq_false hp)
    rw [bneI]
    congr 2
    unfold headOk
    by_cases e:(headAt D (mntS D).1.geo k).1.no=k
    ·rw [decide_eq_false (fun x=>x e),decide_eq_true ⟨hp,e⟩]; rfl
    ·rw [decide_eq_true e,decide_eq_false fun x=>e x.2]; rfl
  rintro z w15 ⟨rfl,rfl⟩
  refine ⟨_,rfl,cond_of (fun hp=>?_) (fun hp=>?_)⟩
  ·refine hno X12 ?_ w15 m14
   unfold mntOk
   rw [Bool.and_eq_false_iff]
   left
   rw [List.all_eq_false]
   exact ⟨k,List.mem_range.2 (by omega),by simpa using hp⟩
  ·have hp:headOk D (mntS D).1.geo k=true:=by simpa using hp
   rw [wrap64 (x:=(k:Int)+1) (by omega) (by omega)]
   exact ⟨⟨k+1,_,_,by omega,rfl,X12.nos m14,fun j hj=>by
    by_cases e:j=k
    ·rw [e]; exact hp
    ·exact hh j (by omega)⟩,by simp [nI,nth]; omega⟩
 have hl:(k:Int)=(mntS D).1.geo.gs:=by have:=of_decide_eq_false hl; omega
 refine vInode_c (by omega) X11 hsz fun w16 X16=>⟨_,_,rfl,?_⟩
 obtain ⟨w17,s1,s2,s3,s4⟩:=new_u (P:=Tryz.prog) (w:=w16) (T:=51) zero_ino
 have hwd:=slotAt_wf D (mntS D).1.geo 1
 obtain ⟨w18,t1,t2,t3,t4⟩:=s2.put (T:=51) (vs:=nV (slotAt D (mntS D).1.geo 1).1) agg_ino rfl (nV_len hwd) (one_nV _)
 have m18:Mod No w16 w18:=s3.own t3 (Nat.le_refl _)
 refine ⟨_,w17,s1,w18,t1,?_⟩
 refine Share.cut (fun z w19=>z=[.bool (!rootOk D (mntS D).1.geo)]/\w19=w18) ?_ ?_
 ·rw [bneI]
  refine cond_of (fun hp=>⟨?_,rfl⟩) (fun hp=>⟨_,t2.at.fld (v:=.int .i64 (slotAt D (mntS D).1.geo 1).1.kind) sc_int rfl,?_,rfl⟩)
  ·have hp:=of_decide_eq_true hp
   have:rootOk D (mntS D).1.geo=false:=by unfold rootOk; rw [decide_eq_false fun e=>hp e.1]
   rw [this]; rfl
  ·have hp:=Classical.not_not.1 (of_decide_eq_false hp)
   rw [bneI]
   congr 2
   unfold rootOk
   by_cases e:(slotAt D (mntS D).1.geo 1).1.kind=2
   ·rw [decide_eq_false (fun x=>x e),decide_eq_true ⟨hp,e⟩]; rfl
   ·rw [decide_eq_true e,decide_eq_false fun x=>e x.2]; rfl
 rintro z w19 ⟨rfl,rfl⟩
 refine ⟨_,rfl,cond_of (fun hp=>?_) (fun hp=>?_)⟩
 ·refine hno X16 ?_ w19 m18
  unfold mntOk
  rw [Bool.and_eq_false_iff]
  right
  simpa using hp
 have hp:rootOk D (mntS D).1.geo=true:=by simpa using hp
 have hok:mntOk D (mntS D).1.geo=true:=by
  unfold mntOk
  rw [hp,Bool.and_true,List.all_eq_true]
  intro j hj
  exact hh j (by have:=List.mem_range.1 hj; omega)
 have eM:=mnt_yes he hok
 have X19:=X16.nos m18
 refine ⟨_,(hq X19).at.fldA agg_geo (by show 4<=4; omega) rfl,geoSlots_c fun w20 m20=>⟨_,rfl,?_⟩⟩
 have hsl:=gSlots_b (g:=(mntS D).1.geo)
 refine ⟨fun x w21=>∃ n N:Nat,(n:Int)<=gSlots (mntS D).1.geo/\x=[.int .i64 n]/\Vg w9 (Gro R w w2) N w21 w9.heap.size d (mntS D).1 D (nextTo D (mntS D).1.geo n),fun x _=>(gSlots (mntS D).1.geo-nI x 0).toNat,
  ⟨0,_,by omega,rfl,X19.nos m20⟩,?_⟩
 rintro x w21 ⟨n,N,hn,rfl,X21⟩
 refine ⟨_,rfl,cond_of (fun hl2=>?_) (fun hl2=>?_)⟩
 ·have hl2:(n:Int)<gSlots (mntS D).1.geo:=of_decide_eq_true hl2
  refine vInode_c (by omega) X21 hsz fun w22 X22=>⟨_,_,rfl,?_⟩
  obtain ⟨w23,s1,s2,s3,s4⟩:=new_u (P:=Tryz.prog) (w:=w22) (T:=51) zero_ino
  have hwd:=slotAt_wf D (mntS D).1.geo n
  obtain ⟨w24,t1,t2,t3,t4⟩:=s2.put (T:=51) (vs:=nV (slotAt D (mntS D).1.geo n).1) agg_ino rfl (nV_len hwd) (one_nV _)
  have m24:Mod No w22 w24:=s3.own t3 (Nat.le_refl _)
  have X24:=(X22.nos m24).nos (Mod.refl No w24).drew
  obtain ⟨w25,u1,u2⟩:=X24.set (if (slotAt D (mntS D).1.geo n).1.id > nextTo D (mntS D).1.geo n then (slotAt D (mntS D).1.geo n).1.id else nextTo D (mntS D).1.geo n)
  refine ⟨_,w23,s1,w24,t1,_,rfl,_,X24.next,_,t2.drew.at.fld (v:=.int .i64 (slotAt D (mntS D).1.geo n).1.id) sc_i64 rfl,_,rfl,w25,u1,?_⟩
  rw [wrap64 (x:=(n:Int)+1) (by omega) (by omega)]
  exact ⟨⟨n+1,_,by omega,rfl,u2⟩,by simp [nI,nth]; omega⟩
 have hl2:(n:Int)=gSlots (mntS D).1.geo:=by have:=of_decide_eq_false hl2; omega
 have hnb:=nextTo_b D (mntS D).1.geo n
 have hnn:=nextTo_nn D (mntS D).1.geo n
 obtain ⟨w26,u1,u2⟩:=X21.set (nextTo D (mntS D).1.geo n+1)
 refine ⟨_,rfl,_,X21.next,_,rfl,w26,?_,?_⟩
 ·rw [wrap64 (by omega) (by omega)]; exact u1
 have:=hk (by rw [eM]) w26 N w9.heap.size
 rw [eM] at this
 refine this ?_
 show Vg w R N w26 w9.heap.size d (mntS D).1 D (nextTo D (mntS D).1.geo (gSlots (mntS D).1.geo).toNat+1)
 rw [<- hl2,Int.toNat_natCast]
 exact u2.comp back bm
end
end Go.Proofs.YtandmpcjjaabmaaGreat
end
section
open Go Go.Den Go.Proofs
namespace Go.Proofs.YtandmpcjjaabmaaGreat
def gKn:Gm:=⟨16,8,2⟩
end Go.Proofs.YtandmpcjjaabmaaGreat
end
section
open Go Go.Den Go.Proofs
namespace Go.Proofs.YtandmpcjjaabmaaGreat
theorem build_alloc (w:World) (p:Option Addr) (m:Option Nat):(Instr.build 176 #[(0,.pointer p),(1,.map m)]).run Tryz.prog w=.ok (.agg ⟨[.pointer p,.map m]⟩) w:=by kernel_rfl
section
variable {w wb w':World} {R R0 R':Nat->Prop} {N a v d:Nat} {A:Az} {s:Sp} {D:St} {V:Ps} {W:List Wt} {nx:Int} {hs:List Hd} {K:Value->World->Prop}
theorem Vg.vu (h:Vg wb R0 N w v d s D nx):∃ R k,Vu R w v d s ⟨⟨D,k,[]⟩,0,[]⟩ [] nx/\∀ z,R z->R0 z\/wb.heap.size<=z\/d<=z:=by
 obtain ⟨R1,sp,wk,k,w0,h1,h2,h3,h4,h5,h6,h7,h8,c1,c2,c3,c4,c5,c6,c7⟩:=h
 have z2:=h2.lt
 refine ⟨fun z=>R1 z\/z=wk\/z=v,k,⟨w0,R1,fun z=>z=wk,sp,wk,⟨h1,h2,⟨none,0,⟨c1,Ow.nilG elemG_waits,(fun _ e=>by cases e),fun e=>e.2 rfl⟩⟩,fun z hz e=>c2 (e ▸ hz),⟨h3.1,fun e=>c3 e.symm⟩,fun z hz=>?_⟩,fun z hz=>hz,fun z hz=>?_⟩,fun z hz=>?_⟩
 ·rcases hz with rfl | rfl
  ·exact ⟨c6,by omega⟩
  ·exact ⟨c7,z2⟩
 ·rcases hz with hz | rfl | rfl
  ·have:=(h4 z hz).2; omega
  ·omega
  ·exact z2
 ·rcases hz with hz | rfl | rfl
  ·exact (h4 z hz).1.imp id .inl
  ·exact .inr (.inr c6)
  ·exact .inr (.inr c7)
theorem aNew_c (h:Vu R w v d s V W nx) (hH:HdsAt V s.geo hs) (hk:∀ w' R' a,Mod No w w'->Sb R R' w->Ao R' w' a v d ⟨s,V,W,nx,hs,fun _=>false⟩->w.heap.size<=a->K (.pointer (some ⟨a,0,none⟩)) w') :
  Cal Tryz.prog F_alloc_New #[.pointer (some ⟨v,0,none⟩)] w K:=by
 apply C_alloc_New
 unfold D_alloc_New
 have hdl:=h.dlo
 have hvl:=h.lt v h.vIn
 have m1:Mod No w (w.alloc (.map #[] 0)):=(Mod.refl No w).alloc _
 have p1:MapAt (w.alloc (.map #[] 0)) w.heap.size []:=MapAt.new
 have s1:(w.alloc (.map #[] 0)).heap.size=w.heap.size+1:=by simp
 refine ff rfl ⟨_,_,makeMap_run,_,fun w=>build_alloc w _ _,?_⟩
 generalize w.alloc (.map #[] 0)=w1 at *
 obtain ⟨w2,c1,c2,c3,c4⟩:=box_u (P:=Tryz.prog) (w:=w1) (T:=176) (cs:=[.pointer (some ⟨v,0,none⟩),.map (some w.heap.size)])
 refine ⟨_,w2,c1,hk w2 (fun z=>R z\/z=w1.heap.size\/z=w.heap.size) _ (m1.no c3) (fun z hz=>?_) ⟨R,w.heap.size,[],h.nos (m1.no c3),c2,p1.keep c3 id,fun k=>rfl,⟨fun e=>?_,fun e=>?_,by omega,by omega,by omega⟩,fun z hz=>hz,fun z hz=>?_,hH⟩ (by omega)⟩
 ·rcases hz with hz | rfl | rfl
  ·exact .inl hz
  ·exact .inr (by omega)
  ·exact .inr (Nat.le_refl _)
 ·have:=h.lt _ e; omega
 ·have:=h.lt _ e; omega
 ·rcases hz with hz | rfl | rfl
  ·have:=h.lt _ hz; omega
  ·omega
  ·omega
theorem aVol_c (h:Ao R w a v d A) (hk:K (.pointer (some ⟨v,0,none⟩)) w):Cal Tryz.prog F_alloc_Alloc_Vol #[.pointer (some ⟨a,0,none⟩)] w K:=by
 apply C_alloc_Alloc_Vol
 unfold D_alloc_Alloc_Vol
 exact ff rfl ⟨_,rfl,_,h.pv,hk⟩
-- of none
end
end Go.Proofs.YtandmpcjjaabmaaGreat
end
section
open Go Go.Den Go.Proofs
namespace Go.Proofs.YtandmpcjjaabmaaGreat
section
variable {w w':World} {R R':Nat->Prop} {a v d:Nat} {A:Az} {K:Value->World->Prop}
theorem aStore_c {sp wk:Nat} (h:AtU w v 0 (vV A.s sp wk A.nx)) (hk:K (.pointer (some ⟨sp,0,none⟩)) w):Cal Tryz.prog F_vol_Vol_Store #[.pointer (some ⟨v,0,none⟩)] w K:=by
 apply C_vol_Vol_Store
 unfold D_vol_Vol_Store
 exact ff rfl ⟨_,rfl,_,h.at.fld sc_store rfl,hk⟩
end
end Go.Proofs.YtandmpcjjaabmaaGreat
end
section
open Go Go.Den Go.Proofs
namespace Go.Proofs.YtandmpcjjaabmaaGreat
theorem slotV_wf (V:Ps) (g:Gm) (s:Int):nWf (slotV V g s).1:=by unfold slotV; split; exact nZ_wf; exact inoAt_wf _ _
section
variable {w w':World} {R R':Nat->Prop} {a v d:Nat} {A:Az} {s:Sp} {V:Ps} {W:List Wt} {nx:Int} {K:Value->World->Prop}
theorem wPlace_c {k:Int} (h63:k<=9223372036854775807) (h:Vu R w v d s V W nx) (hk:∀ w',Mod No w w'->K (.tuple #[.int .i64 (gPlace s.geo k).1,.int .i64 (gPlace s.geo k).2.1,.int .i64 (gPlace s.geo k).2.2]) w'):Cal Tryz.prog F_vol_Vol_place #[.pointer (some ⟨v,0,none⟩),.int .i64 k] w K:=by
 apply C_vol_Vol_place
 unfold D_vol_Vol_place
 exact ff rfl ⟨_,rfl,_,h.geo,geoPlace_c h63 fun w' m=>⟨_,_,_,rfl,hk w' m⟩⟩
theorem wInode_c {k:Int} (h63:k<=9223372036854775807) (h:Vu R w v d s V W nx) (hsz:gSize s.geo<=V.C.D.vs.length)
  (hk:∀ w' R',Mod R w w'->Sb R R' w->Vu R' w' v d s V W nx->K (.tuple #[.agg ⟨nV (slotV V s.geo k).1⟩,.int .i64 (slotV V s.geo k).2]) w'):Cal Tryz.prog F_vol_Vol_Inode #[.pointer (some ⟨v,0,none⟩),.int .i64 k] w K:=by
 apply C_vol_Vol_Inode
 unfold D_vol_Vol_Inode
 obtain ⟨w1,b1,b2,b3,b4⟩:=new_u (P:=Tryz.prog) (w:=w) (T:=51) zero_ino
 have hlt:=h.lt
 have hdv:=h.dlo
 have hvl:=hlt v h.vIn
 have n1:¬ R w.heap.size:=fun e=>by have:=hlt _ e; omega
 have fin:∀ (w':World) (R':Nat->Prop) (i:Nd) (e:Int),AtU w' w.heap.size 0 (nV nZ)->Mod R w w'->Sb R R' w->¬ R' w.heap.size->Vu R' w' v d s V W nx->(i,e)=slotV V s.geo k->∃ w3:World,RuU (Instr.storeAt 51 (.pointer (some ⟨w.heap.size,0,none⟩)) (.agg ⟨nV i⟩)) w' w3/\∃ gR2:Array Value,Ru (Instr.loadAt 51 (.pointer (some ⟨w.heap.size,0,none⟩))) w3 (.agg gR2) w3/\K (.tuple #[.agg gR2,.int .i64 e]) w3:=fun w' R' i e hat m s' nr hv he=>by
  have hw:nWf i:=by have:=slotV_wf V s.geo k; rw [<- he] at this; exact this
  obtain ⟨w3,c1,c2,c3,c4⟩:=hat.put (T:=51) (vs:=nV i) agg_ino rfl (nV_len hw) (one_nV _)
  refine ⟨w3,c1,_,c2.at.all agg_ino (nV_len hw),?_⟩
  have:=hk w3 R' (m.trans c3 fun x hx e=>by have e:x=w.heap.size:=e; omega) s' (hv.keep c3 (fun z hz e=>by have e:z=w.heap.size:=e; rw [e] at hz; exact nr hz) fun z e=>by have e:z=w.heap.size:=e; omega)
  rw [<- he] at this
  exact this
 have h1:=h.nos b3
 refine ⟨_,w1,b1,wPlace_c h63 h1 fun w2 m2=>⟨_,_,_,rfl,?_⟩⟩
 have h2:=h1.nos m2
 have m02:=b3.no m2
 rw [bneI]
 refine cond_of (fun he=>⟨_,build_ino0,?_⟩) (fun he=>?_)
 ·have he:=of_decide_eq_true he
  exact fin w2 R nZ _ (b2.keep m2 id) (m02.mono fun _ _ e=>e.elim) (Sb.refl _ _) n1 h2 (by unfold slotV; rw [if_pos he])
 have he:=Classical.not_not.1 (of_decide_eq_false he)
 have hin:=gPlace_b (g:=s.geo) (s:=k) (b:=(gPlace s.geo k).1) (p:=(gPlace s.geo k).2.1) (by rw [<- he])
 have z2:=m02.size
 have zl:=(b2.keep m2 id).lt
 refine ⟨_,rfl,?_⟩
 refine h2.rd (by omega) (by omega) fun w4 R4 g cc m4 s4 h4 hg1 hg2 hat hl hcc=>⟨_,_,_,_,rfl,ff rfl ?_⟩
 refine inoRead_c hl hcc (.inr ⟨_,_,rfl,hat.at⟩) (by omega) fun w6 m6=>⟨_,_,rfl,?_⟩
 refine fin w6 R4 _ _ (((b2.keep m2 id).keep m4 n1).keep m6 id) (((m02.mono fun _ _ e=>e.elim).trans m4 fun x _ e=>e).no m6) (s4.up z2) (fun e=>?_) (h4.nos m6) (by unfold slotV; rw [if_neg (by rw [he]; decide)])
 rcases s4 _ e with e | e
 ·exact n1 e
 ·omega
theorem aInode_c {k:Int} (h63:k<=9223372036854775807) (h:Ao R w a v d A) (hk:∀ w' R',Mod R w w'->Sb R R' w->Ao R' w' a v d A->K (.tuple #[.agg ⟨nV (slotV A.V A.s.geo k).1⟩,.int .i64 (slotV A.V A.s.geo k).2]) w'):Cal Tryz.prog F_vol_Vol_Inode #[.pointer (some ⟨v,0,none⟩),.int .i64 k] w K:=by
 have hd:=h.hd
 obtain ⟨Rv,hv,_,hc⟩:=h.vol
 refine wInode_c h63 hv hd.2.1 fun w' R' m s hv'=>?_
 obtain ⟨c1,c2,c3⟩:=hc w' R' A.V A.W A.nx A.hs m s hv' hd
 exact hk w' _ c1 c2 c3
end
end Go.Proofs.YtandmpcjjaabmaaGreat
end
section
open Go Go.Den Go.Proofs
namespace Go.Proofs.YtandmpcjjaabmaaGreat
-- the document's
abbrev Fr:=Int×Bool×Bool
end Go.Proofs.YtandmpcjjaabmaaGreat
end
section
open Go Go.Den Go.Proofs
namespace Go.Proofs.YtandmpcjjaabmaaGreat
theorem pat_all {V:Ps} {n f:Int} {data:Bk} {after:List Int} (h:patE V n f data after=0) {y:Ch}:y∈(patS V n f data after).all↔y=newX V n.toNat f.toNat data after\/y∈V.all:=by
 have e:patS V n f data after=addX V (newX V n.toNat f.toNat data after):=by unfold patS; rw [if_pos h]
 rw [e]
 generalize hx:newX V n.toNat f.toNat data after=x
 have hall:(newO V x.b).all=V.all:=all_newO
 obtain ⟨o,ho,hob⟩:=newO_on (V:=V) (b:=x.b)
 rw [<- hall]
 show y∈((newO V x.b).ons.map fun o=>if o.b=x.b then { o with l:=o.l++[x] } else o).flatMap (·.l)↔_
 unfold Ps.all
 simp only [List.mem_flatMap,List.mem_map]
 constructor
 ·rintro ⟨_,⟨p,hp,rfl⟩,hy⟩
  by_cases c:p.b=x.b
  ·rw [if_pos c] at hy
   rcases List.mem_append.1 hy with hy | hy
   ·exact .inr ⟨p,hp,hy⟩
   ·exact .inl (by simpa using hy)
  ·rw [if_neg c] at hy
   exact .inr ⟨p,hp,hy⟩
 ·rintro (rfl | ⟨p,hp,hy⟩)
  ·exact ⟨_,⟨o,ho,rfl⟩,by rw [if_pos hob]; simp⟩
  ·refine ⟨_,⟨p,hp,rfl⟩,?_⟩
   split
   ·exact List.mem_append_left _ hy
   ·exact hy
theorem HdsAt.same {V V':Ps} {g:Gm} {hs:List Hd} (h:HdsAt V g hs) (hl:V'.C.D.vs.length=V.C.D.vs.length) (hc:∀ k:Nat,(k:Int)<g.gs->contV V' (2+k*g.gr).toNat=contV V (2+k*g.gr).toNat):HdsAt V' g hs :=
 ⟨h.1,by rw [hl]; exact h.2.1,h.2.2.1,fun k x hx=>by
  rw [hc k (h.lt hx)]; exact h.2.2.2 k x hx⟩
end Go.Proofs.YtandmpcjjaabmaaGreat
end
section
open Go Go.Den Go.Proofs
namespace Go.Proofs.YtandmpcjjaabmaaGreat
def vA (A:Az) (V:Ps):Az:=⟨A.s,V,A.W,A.nx,A.hs,A.fz⟩
theorem data_at {g:Gm} {b:Int} (h:(gKind g b).1=4):∃ (k:Nat) (j:Int),b=2+k*g.gr+j/\(k:Int)<g.gs/\1+gTabs g<=j/\j<g.gr:=by
 obtain ⟨_,_,_,h3,h4,h5,h6⟩:=gKind_4 h
 obtain ⟨k,hk⟩:=Int.eq_ofNat_of_zero_le h3
 rw [hk] at h4 h5 h6
 exact ⟨k,_,by omega,h4,h5,h6⟩
theorem head_ne {g:Gm} (hg:gOk g=true) {k k':Nat} {j:Int} (h1:1+gTabs g<=j) (h2:j<g.gr):(2+(k':Int)*g.gr).toNat≠(2+k*g.gr+j).toNat:=by
 intro e
 obtain ⟨g1,_⟩:=gOk_iff.1 hg
 have ht:=gTabs_b (g:=g)
 have p1:0<=(k:Int)*g.gr:=Int.mul_nonneg (by omega) (by omega)
 have p2:0<=(k':Int)*g.gr:=Int.mul_nonneg (by omega) (by omega)
 have e:(k':Int)*g.gr=j+k*g.gr:=by omega
 have e2:((k':Int)*g.gr) % g.gr=(j+k*g.gr) % g.gr:=by rw [e]
 rw [Int.mul_emod_left,Int.add_mul_emod_self_right,Int.emod_eq_of_lt (by omega) h2] at e2
 omega
section
variable {w w':World} {R R':Nat->Prop} {a v d:Nat} {A:Az} {K:Value->World->Prop}
theorem Ao.sto (h:Ao R w a v d A):∃ (w0:World) (Rs:Nat->Prop) (sp wk:Nat),Pz w0 Rs w sp d A.V/\AtU w v 0 (vV A.s sp wk A.nx)/\(∀ z,Rs z->R z) /\
  ∀ w' V',Mod Rs w w'->Pz w0 (Gro Rs w w') w' sp d V'->HdsAt V' A.s.geo A.hs->Mod R w w'/\∃ R',Sb R R' w/\Ao R' w' a v d (vA A V'):=by
 obtain ⟨Rv,hv,hRv,hc⟩:=h.vol
 obtain ⟨w0,Rs,Z,sp,wk,a1,a2,a3,a4,a5,a6,a7⟩:=hv.op
 refine ⟨w0,Rs,sp,wk,a1,a4,fun z hz=>hRv z (a5 z hz),fun w' V' m hP hH=>?_⟩
 obtain ⟨M,hV⟩:=a6 w' w' V' m (Mod.refl _ _) hP
 obtain ⟨c1,c2,c3⟩:=hc w' _ V' A.W A.nx A.hs M Sb.gro hV hH
 exact ⟨c1,_,c2,c3⟩
theorem aData_c {b:Int} (h:Ao R w a v d A) (hb:(gKind A.s.geo b).1=4) (hk:∀ w',Mod No w w'->K (.int .i64 0) w'):Cal Tryz.prog F_vol_Vol_data #[.pointer (some ⟨v,0,none⟩),.int .i64 b] w K:=by
 apply C_vol_Vol_data
 unfold D_vol_Vol_data
 obtain ⟨Rv,hv,_⟩:=h.vol
 refine ff rfl ⟨_,rfl,_,hv.geo,geoKind_c fun w1 m1=>⟨_,_,rfl,ff ?_ (hk w1 m1)⟩⟩
 rw [bneI,hb]; rfl
end
end Go.Proofs.YtandmpcjjaabmaaGreat
end
section
open Go Go.Den Go.Proofs
namespace Go.Proofs.YtandmpcjjaabmaaGreat
def setIA (A:Az) (k:Int) (i:Nd) (after:List Int):Az:=vA A (patS A.V (gPlace A.s.geo k).1 (64*(gPlace A.s.geo k).2.1) (inoB i) after)
def setDA (A:Az) (b from':Int) (data:Bk) (after:List Int):Az:=vA A (patS A.V b from' data after)
theorem opn_pat {V:Ps} (n f:Int) (data:Bk) (after:List Int) {x:Int} (h:V.opn x=true):(patS V n f data after).opn x=true:=by
 by_cases e:patE V n f data after=0
 ·obtain ⟨c,hc,hx⟩:=opn_iff.1 h
  exact opn_iff.2 ⟨c,(pat_all e).2 (.inr hc),hx⟩
 ·unfold patS; rw [if_neg e]; exact h
theorem opn_new {V:Ps} {n f:Int} {data:Bk} {after:List Int} (e:patE V n f data after=0):(patS V n f data after).opn ((V.last:Int)+1)=true :=
 opn_iff.2 ⟨newX V n.toNat f.toNat data after,(pat_all e).2 (.inl rfl),by show ((V.last+1:Nat):Int)=_; omega⟩
theorem opn_safe {V:Ps} {x:Int} (h:V.opn x=true):safeV V x=false:=by unfold safeV; rw [h]; simp
theorem patE_fit {V:Ps} {b f:Int} {data:Bk} {after:List Int} (h0:0<=b) (h1:b<V.C.D.vs.length) (hd:data.length≠0) (f0:0<=f) (f1:f+data.length<=256) (ha:badA V after=false):patE V b f data after=0:=by
 have e:errOf V.C.D b=0:=by unfold errOf; rw [if_neg (by omega)]
 unfold patE
 rw [e,if_neg (by decide),if_neg (by omega),ha]; rfl
section
variable {w w':World} {R R':Nat->Prop} {a v d:Nat} {A:Az} {K:Value->World->Prop}
theorem setI_E (h:HdsAt A.V A.s.geo A.hs) {k:Int} {i:Nd} {after:List Int} (hw:nWf i) (hp:(gPlace A.s.geo k).2.2=0) (hb:badA A.V after=false):patE A.V (gPlace A.s.geo k).1 (64*(gPlace A.s.geo k).2.1) (inoB i) after=0:=by
 obtain ⟨_,_,_,b1,b2,p1,p2⟩:=gPlace_b (g:=A.s.geo) (s:=k) (b:=(gPlace A.s.geo k).1) (p:=(gPlace A.s.geo k).2.1) (by rw [<- hp])
 have hl:=inoB_len hw
 exact patE_fit (by omega) (by have:=h.2.1; omega) (by omega) (by omega) (by omega) hb
theorem setI_H (h:HdsAt A.V A.s.geo A.hs) {k:Int} {i:Nd} {after:List Int} (hw:nWf i) (hp:(gPlace A.s.geo k).2.2=0) (hb:badA A.V after=false):HdsAt (setIA A k i after).V A.s.geo A.hs:=by
 have hE:=setI_E (k:=k) (i:=i) h hw hp hb
 obtain ⟨_,n0,n1,_⟩:=gPlace_b (g:=A.s.geo) (s:=k) (b:=(gPlace A.s.geo k).1) (p:=(gPlace A.s.geo k).2.1) (by rw [<- hp])
 obtain ⟨k',j,q,e,hk,hj,_⟩:=gPlace_in h.1 n0 n1
 refine h.same (by show (patS _ _ _ _ _).C.D.vs.length=_; rw [patS_C0]) fun x _=>?_
 show contV (patS _ _ _ _ _) _=_
 rw [contV_pat hE,if_neg]
 rw [e]
 exact fun z=>tab_head h.1 hj z.symm
theorem setI_slot (h:HdsAt A.V A.s.geo A.hs) (hwf:WFS A.V/\WF A.V.C.D) {k:Int} {i:Nd} {after:List Int} (hw:nWf i) (ho:nOk i=true) (hp:(gPlace A.s.geo k).2.2=0) (hb:badA A.V after=false) (s:Int) :
  slotV (setIA A k i after).V A.s.geo s=if s=k then (i,0) else slotV A.V A.s.geo s:=by
 have hE:=setI_E (k:=k) (i:=i) h hw hp hb
 obtain ⟨_,n0,n1,b1,b2,_⟩:=gPlace_b (g:=A.s.geo) (s:=k) (b:=(gPlace A.s.geo k).1) (p:=(gPlace A.s.geo k).2.1) (by rw [<- hp])
 exact slotV_set h.1 (by rw [<- hp]) (cont_len hwf.1 hwf.2 (by have:=h.2.1; omega)) hw ho hE s
theorem setD_E (h:HdsAt A.V A.s.geo A.hs) {b f:Int} {data:Bk} {after:List Int} (hb:(gKind A.s.geo b).1=4) (hd:data.length≠0) (f0:0<=f) (f1:f+data.length<=256) (ha:badA A.V after=false):patE A.V b f data after=0:=by
 obtain ⟨_,b1,b2,_⟩:=gKind_4 hb
 exact patE_fit (by omega) (by have:=h.2.1; omega) hd f0 f1 ha
theorem setD_H (h:HdsAt A.V A.s.geo A.hs) {b f:Int} {data:Bk} {after:List Int} (hb:(gKind A.s.geo b).1=4) (hE:patE A.V b f data after=0):HdsAt (setDA A b f data after).V A.s.geo A.hs:=by
 obtain ⟨k,j,hbb,hk,h1,h2⟩:=data_at hb
 refine h.same (by show (patS _ _ _ _ _).C.D.vs.length=_; rw [patS_C0]) fun x _=>?_
 show contV (patS _ _ _ _ _) _=_
 rw [contV_pat hE,if_neg]
 rw [hbb]
 exact head_ne h.1 h1 h2
theorem tab_data {g:Gm} (hg:gOk g=true) {k k' j:Nat} {x:Int} (hj:(j:Int)<gTabs g) (h1:1+gTabs g<=x) (h2:x<g.gr):(2+(k:Int)*g.gr+1+j).toNat≠(2+(k':Int)*g.gr+x).toNat:=by
 intro e
 obtain ⟨g1,_⟩:=gOk_iff.1 hg
 have ht:=gTabs_b (g:=g)
 have p1:0<=(k:Int)*g.gr:=Int.mul_nonneg (by omega) (by omega)
 have p2:0<=(k':Int)*g.gr:=Int.mul_nonneg (by omega) (by omega)
 have e:x+(k':Int)*g.gr=(1+j:Int)+k*g.gr:=by omega
 have e2:(x+(k':Int)*g.gr) % g.gr=((1+j:Int)+k*g.gr) % g.gr:=by rw [e]
 rw [Int.add_mul_emod_self_right,Int.add_mul_emod_self_right,Int.emod_eq_of_lt (by omega) h2,Int.emod_eq_of_lt (by omega) (by omega)] at e2
 omega
theorem setD_slot (h:HdsAt A.V A.s.geo A.hs) {b f:Int} {data:Bk} {after:List Int} (hb:(gKind A.s.geo b).1=4) (hE:patE A.V b f data after=0) (s:Int) :
  slotV (setDA A b f data after).V A.s.geo s=slotV A.V A.s.geo s:=by
 obtain ⟨k,j,hbb,hk,h1,h2⟩:=data_at hb
 refine slotV_same h.1 (fun k' j' hj=>?_) s
 show contV (patS _ _ _ _ _) _=_
 rw [contV_pat hE,if_neg]
 rw [hbb]
 exact tab_data h.1 hj h1 h2
theorem aSetIno_c {k:Int} {i:Nd} {a4:Option Addr} {l4 c4:Nat} {after:List Int} (h63:k<=9223372036854775807) (h:Ao R w a v d A) (hw:nWf i) (ho:nOk i=true) (hp:(gPlace A.s.geo k).2.2=0) (hlast:A.V.last+1<=1000000)
  (hal:after.length=l4) (ha6:l4<=1000000) (hb:badA A.V after=false) (hra:Row w a4 (iL after)) (hao:after≠[]->∀ q,a4=some q->¬ R q.block)
  (hk:∀ w' R',Mod R w w'->Sb R R' w->Ao R' w' a v d (setIA A k i after)->K (.tuple #[.int .i64 ((A.V.last:Int)+1),.int .i64 0]) w') :
  Cal Tryz.prog F_vol_Vol_SetInode #[.pointer (some ⟨v,0,none⟩),.int .i64 k,.agg ⟨nV i⟩,.slice a4 l4 c4] w K:=by
 apply C_vol_Vol_SetInode
 unfold D_vol_Vol_SetInode
 obtain ⟨w1,b1,b2,b3,b4⟩:=box_u (P:=Tryz.prog) (w:=w) (T:=51) (cs:=nV i)
 have h1:=h.nos b3
 obtain ⟨Rv,hv,_⟩:=h1.vol
 have hE:=setI_E (k:=k) (i:=i) h.hd hw hp hb
 obtain ⟨_,n0,n1,_,_,p1,p2⟩:=gPlace_b (g:=A.s.geo) (s:=k) (b:=(gPlace A.s.geo k).1) (p:=(gPlace A.s.geo k).2.1) (by rw [<- hp])
 refine ⟨_,w1,b1,wPlace_c h63 hv fun w2 m2=>⟨_,_,_,rfl,?_⟩⟩
 rw [hp]
 refine ff rfl ⟨_,(b2.keep m2 id).at.all agg_ino (nV_len hw),inoPut_c hw (fun e=>by rw [ho] at e; cases e) fun _ w3 q m3 hq hat=>⟨_,_,_,_,rfl,ff rfl ?_⟩⟩
 have h3:=(h1.nos m2).nos m3
 have M3:=(b3.no m2).no m3
 have z1:=b3.size
 have z2:=m2.size
 obtain ⟨w0,Rs,sp,wk,a1,a2,a3,a4'⟩:=h3.sto
 have hlt:=h.lt
 rw [wrap64 (x:=(gPlace A.s.geo k).2.1*64) (by omega) (by omega),Int.mul_comm]
 have hN:patN A.V (gPlace A.s.geo k).1 (64*(gPlace A.s.geo k).2.1) (inoB i) after=(A.V.last:Int)+1:=by unfold patN; rw [if_pos hE]; omega
 refine ⟨_,rfl,_,a2.at.fld sc_store rfl,qPatch_c (data:=inoB i) (after:=after) a1 hlast (inoB_len hw) (.inr ⟨q,0,rfl,hat.at⟩) (fun _ q' e=>by cases e; exact fun e=>by have:=hlt q (a3 q e); omega) (by omega) hal ha6 (hra.nos M3) (fun e q e' r=>hao e q e' (a3 _ r)) fun w4 m4 hP=>⟨_,_,rfl,?_⟩⟩
 rw [hE,hN]
 obtain ⟨M,R',s,hA⟩:=a4' w4 _ m4 hP (setI_H h.hd hw hp hb)
 exact hk w4 R' ((M3.mono fun _ _ e=>e.elim).trans M fun x _ e=>e) (s.up M3.size) hA
theorem aSetDat_c {b f:Int} {data:Bk} {a3 a4:Option Addr} {l3 c3 l4 c4:Nat} {after:List Int} (h:Ao R w a v d A) (hb:(gKind A.s.geo b).1=4) (hlast:A.V.last+1<=1000000)
  (hd:data.length=l3) (hl0:l3≠0) (f0:0<=f) (f1:f+l3<=256) (hrd:Row w a3 (u8L data)) (hdo:∀ q,a3=some q->¬ R q.block)
  (hal:after.length=l4) (ha6:l4<=1000000) (ha:badA A.V after=false) (hra:Row w a4 (iL after)) (hao:after≠[]->∀ q,a4=some q->¬ R q.block)
  (hk:∀ w' R',Mod R w w'->Sb R R' w->Ao R' w' a v d (setDA A b f data after)->K (.tuple #[.int .i64 ((A.V.last:Int)+1),.int .i64 0]) w') :
  Cal Tryz.prog F_vol_Vol_SetData #[.pointer (some ⟨v,0,none⟩),.int .i64 b,.int .i64 f,.slice a3 l3 c3,.slice a4 l4 c4] w K:=by
 apply C_vol_Vol_SetData
 unfold D_vol_Vol_SetData
 refine aData_c h hb fun w1 m1=>⟨_,rfl,ff rfl ?_⟩
 have h1:=h.nos m1
 have hE:=setD_E (f:=f) (data:=data) h.hd hb (by omega) f0 (by omega) ha
 have hN:patN A.V b f data after=(A.V.last:Int)+1:=by unfold patN; rw [if_pos hE]; omega
 obtain ⟨w0,Rs,sp,wk,a1,a2,a3,a4'⟩:=h1.sto
 refine ⟨_,rfl,_,a2.at.fld sc_store rfl,qPatch_c (data:=data) (after:=after) a1 hlast hd (hrd.nos m1) (fun _ q e r=>hdo q e (a3 _ r)) (by omega) hal ha6 (hra.nos m1) (fun e q e' r=>hao e q e' (a3 _ r)) fun w2 m2 hP=>⟨_,_,rfl,?_⟩⟩
 rw [hE,hN]
 obtain ⟨M,R',s,hA⟩:=a4' w2 _ m2 hP (setD_H h.hd hb hE)
 exact hk w2 R' ((m1.mono fun _ _ e=>e.elim).trans M fun x _ e=>e) (s.up m1.size) hA
theorem aGetDat_c {b:Int} (h:Ao R w a v d A) (hb:(gKind A.s.geo b).1=4)
  (hk:∀ w' R' g cc,Mod R w w'->Sb R R' w->Ao R' w' a v d A->w.heap.size<=g->¬ R' g->AtU w' g 0 (u8L (contV A.V b.toNat))->(contV A.V b.toNat).length=256->256<=cc->K (.tuple #[.slice (some ⟨g,0,none⟩) 256 cc,.int .i64 0]) w') :
  Cal Tryz.prog F_vol_Vol_Data #[.pointer (some ⟨v,0,none⟩),.int .i64 b] w K:=by
 apply C_vol_Vol_Data
 unfold D_vol_Vol_Data
 obtain ⟨_,b1,b2,_⟩:=gKind_4 hb
 refine aData_c h hb fun w1 m1=>⟨_,rfl,ff rfl ⟨_,rfl,?_⟩⟩
 have h1:=h.nos m1
 have hh:=h.hd
 have hlt:=h.lt
 have z1:=m1.size
 obtain ⟨Rv,hv,hRv,hc⟩:=h1.vol
 refine hv.rd (by omega) (by have:=hh.2.1; omega) fun w2 R2 g cc m2 s2 h2 hg hg2 hat hl hcc=>⟨_,_,_,_,rfl,?_⟩
 obtain ⟨c1,c2,c3⟩:=hc w2 R2 A.V A.W A.nx A.hs m2 s2 h2 hh
 refine hk w2 _ g cc ((m1.mono fun _ _ e=>e.elim).trans c1 fun x _ e=>e) (c2.up z1) c3 (by omega) (fun e=>?_) hat hl hcc
 rcases e with e | e
 ·have:=hlt g e; omega
 ·exact hg2 e
end
end Go.Proofs.YtandmpcjjaabmaaGreat
end
section
open Go Go.Den Go.Proofs
namespace Go.Proofs.YtandmpcjjaabmaaGreat
structure Fy where
 A:Az
 la:Int->Int
 mi:Int->List Int
def FiB (rb:Int->Option Addr) (f fl fm z:Nat):Prop:=z=f\/z=fl\/z=fm\/∃ k q,rb k=some q/\z=q.block
structure FoI (R:Nat->Prop) (w:World) (f a v d:Nat) (F:Fy) (Ra:Nat->Prop) (fl fm:Nat) (Ll Lm:List (Int×Value)) (rb:Int->Option Addr) (rc:Int->Nat):Prop where
 ao:Ao Ra w a v d F.A
 cl:AtU w f 0 [.pointer (some ⟨a,0,none⟩),.pointer (some ⟨v,0,none⟩),.map (some fl),.map (some fm)]
 ml:MapAt w fl Ll
 hl:∀ k,(lookupL Ll k).getD (.int .i64 0)=.int .i64 (F.la k)
 mm:MapAt w fm Lm
 hm:∀ k,(lookupL Lm k).getD (.slice none 0 0)=.slice (rb k) (F.mi k).length (rc k)
 ow:∀ k,Ow Tryz.prog w d 65 1 (rb k) (F.mi k).length (rc k) (iL (F.mi k))
 inj:∀ k k' q q',rb k=some q->rb k'=some q'->q.block=q'.block->k=k'
 ob:∀ z,FiB rb f fl fm z->¬ Ra z/\d<=z
 df:f≠fl/\f≠fm/\fl≠fm/\∀ k q,rb k=some q->q.block≠f/\q.block≠fl/\q.block≠fm
 rg:∀ z,Ra z\/FiB rb f fl fm z->R z
 lt:∀ z,R z->z<w.heap.size
def Fo (R:Nat->Prop) (w:World) (f a v d:Nat) (F:Fy):Prop:=∃ Ra fl fm Ll Lm rb rc,FoI R w f a v d F Ra fl fm Ll Lm rb rc
theorem mapLa:mapZ Tryz.prog 108=some (.int .i64 0):=by kernel_rfl
theorem mapMi:mapZ Tryz.prog 109=some (.slice none 0 0):=by kernel_rfl
theorem sc_la:scal Tryz.prog 108=true:=by kernel_rfl
theorem sc_mi:scal Tryz.prog 109=true:=by kernel_rfl
theorem nil_64s:Al (eqS .eql 65 (.tmp 3) (.const (.slice none 0 0)) (.slice none 0 0) (.slice none 0 0)) (.bool true):=fun _=>by kernel_rfl
theorem some_64s (a:Addr) (l c:Nat):Al (eqS .eql 65 (.tmp 3) (.const (.slice none 0 0)) (.slice (some a) l c) (.slice none 0 0)) (.bool false):=fun _=>by kernel_rfl
theorem built640 (w:World):(Instr.buildSlice 65 0 #[]).run Tryz.prog w=.ok (.slice (some ⟨w.heap.size,0,none⟩) 0 0) (w.alloc (.cells #[] 2)):=by kernel_rfl
section
variable {w w':World} {R R' Ra:Nat->Prop} {f a v d fl fm:Nat} {F:Fy} {Ll Lm:List (Int×Value)} {rb:Int->Option Addr} {rc:Int->Nat} {K:Value->World->Prop}
theorem FoI.keep {S:Nat->Prop} (h:FoI R w f a v d F Ra fl fm Ll Lm rb rc) (m:Mod S w w') (hS:∀ z,R z->¬ S z) (hd:∀ z,S z->d<=z):FoI R w' f a v d F Ra fl fm Ll Lm rb rc where
 ao:=h.ao.keep m (fun z hz=>hS z (h.rg z (.inl hz))) hd
 cl:=h.cl.keep m (hS f (h.rg f (.inr (.inl rfl))))
 ml:=h.ml.keep m (hS fl (h.rg fl (.inr (.inr (.inl rfl)))))
 hl:=h.hl
 mm:=h.mm.keep m (hS fm (h.rg fm (.inr (.inr (.inr (.inl rfl))))))
 hm:=h.hm
 ow:=fun k=>(h.ow k).keep m fun q e=>hS _ (h.rg _ (.inr (.inr (.inr (.inr ⟨k,q,e,rfl⟩)))))
 inj:=h.inj
 ob:=h.ob
 df:=h.df
 rg:=h.rg
 lt:=fun z hz=>Nat.lt_of_lt_of_le (h.lt z hz) m.size
theorem Fo.keep {S:Nat->Prop} (h:Fo R w f a v d F) (m:Mod S w w') (hS:∀ z,R z->¬ S z) (hd:∀ z,S z->d<=z):Fo R w' f a v d F:=by
 obtain ⟨Ra,fl,fm,Ll,Lm,rb,rc,h⟩:=h
 exact ⟨Ra,fl,fm,Ll,Lm,rb,rc,h.keep m hS hd⟩
theorem FoI.nos (h:FoI R w f a v d F Ra fl fm Ll Lm rb rc) (m:Mod No w w'):FoI R w' f a v d F Ra fl fm Ll Lm rb rc:=h.keep m (fun _ _ e=>e) fun _ e=>e.elim
theorem Fo.nos (h:Fo R w f a v d F) (m:Mod No w w'):Fo R w' f a v d F:=h.keep m (fun _ _ e=>e) fun _ e=>e.elim
theorem Fo.lt (h:Fo R w f a v d F):∀ z,R z->z<w.heap.size:=by obtain ⟨_,_,_,_,_,_,_,h⟩:=h; exact h.lt
theorem Fo.dlt (h:Fo R w f a v d F):d<=f/\f<w.heap.size/\R f:=by
 obtain ⟨_,_,_,_,_,_,_,h⟩:=h
 exact ⟨(h.ob f (.inl rfl)).2,h.cl.lt,h.rg f (.inr (.inl rfl))⟩
theorem Fo.own {q:Nat} (h:Fo R w f a v d F) (m:Mod (fun x=>x=q) w w') (hq:¬ R q) (h0:d<=q):Fo R w' f a v d F :=
 h.keep m (fun z hz e=>by have e:z=q:=e; rw [e] at hz; exact hq hz) fun z e=>by have e:z=q:=e; omega
theorem Fo.pv (h:Fo R w f a v d F):Ru (Instr.loadAt 41 (.pointer (some (Addr.add ⟨f,0,none⟩ 1)))) w (.pointer (some ⟨v,0,none⟩)) w:=by
 obtain ⟨_,_,_,_,_,_,_,h⟩:=h
 exact h.cl.at.fld sc_pvol rfl
theorem Fo.pa (h:Fo R w f a v d F):Ru (Instr.loadAt 73 (.pointer (some (Addr.add ⟨f,0,none⟩ 0)))) w (.pointer (some ⟨a,0,none⟩)) w:=by
 obtain ⟨_,_,_,_,_,_,_,h⟩:=h
 exact h.cl.at.fld sc_palloc rfl
theorem FoI.alc (h:FoI R w f a v d F Ra fl fm Ll Lm rb rc) {Ra':Nat->Prop} {A':Az} (m:Mod Ra w w') (s:Sb Ra Ra' w) (hA:Ao Ra' w' a v d A') :
  Mod R w w'/\Sb R (fun z=>R z\/Ra' z) w/\FoI (fun z=>R z\/Ra' z) w' f a v d ⟨A',F.la,F.mi⟩ Ra' fl fm Ll Lm rb rc:=by
 have no:∀ z,FiB rb f fl fm z->z<w.heap.size/\¬ Ra z:=fun z hz=>⟨h.lt z (h.rg z (.inr hz)),(h.ob z hz).1⟩
 refine ⟨m.mono fun x _ e=>h.rg x (.inl e),fun z hz=>hz.elim .inl fun e=>(s z e).imp (fun e=>h.rg z (.inl e)) id,?_⟩
 exact {
  ao:=hA
  cl:=h.cl.keep m (no f (.inl rfl)).2
  ml:=h.ml.keep m (no fl (.inr (.inl rfl))).2
  hl:=h.hl
  mm:=h.mm.keep m (no fm (.inr (.inr (.inl rfl)))).2
  hm:=h.hm
  ow:=fun k=>(h.ow k).keep m fun q e=>(no _ (.inr (.inr (.inr ⟨k,q,e,rfl⟩)))).2
  inj:=h.inj
  ob:=fun z hz=>⟨fun e=>(s z e).elim (no z hz).2 fun e=>by have:=(no z hz).1; omega,(h.ob z hz).2⟩
  df:=h.df
  rg:=fun z hz=>hz.elim .inr fun e=>.inl (h.rg z (.inr e))
  lt:=fun z hz=>hz.elim (fun e=>Nat.lt_of_lt_of_le (h.lt z e) m.size) fun e=>hA.lt z e }
theorem Fo.alc (h:Fo R w f a v d F):∃ Ra,Ao Ra w a v d F.A/\(∀ z,Ra z->R z)/\∀ (w':World) (Ra':Nat->Prop) (A':Az),Mod Ra w w'->Sb Ra Ra' w->Ao Ra' w' a v d A' ->
  Mod R w w'/\Sb R (fun z=>R z\/Ra' z) w/\Fo (fun z=>R z\/Ra' z) w' f a v d ⟨A',F.la,F.mi⟩:=by
 obtain ⟨Ra,fl,fm,Ll,Lm,rb,rc,h⟩:=h
 refine ⟨Ra,h.ao,fun z hz=>h.rg z (.inl hz),fun w' Ra' A' m s hA=>?_⟩
 obtain ⟨c1,c2,c3⟩:=h.alc m s hA
 exact ⟨c1,c2,_,_,_,_,_,_,_,c3⟩
def miF (F:Fy) (k:Int) (xs:List Int):Fy:=⟨F.A,F.la,fun n=>if n=k then xs else F.mi n⟩
theorem FoI.row {k:Int} {b:Option Addr} {c':Nat} {xs:List Int} (h:FoI R w f a v d F Ra fl fm Ll Lm rb rc) (m:Mod (fun x=>∃ q,rb k=some q/\x=q.block) w w') (o:Ow Tryz.prog w' d 65 1 b xs.length c' (iL xs))
  (hq:∀ q,b=some q->(∃ q',rb k=some q'/\q.block=q'.block)\/w.heap.size<=q.block) :
  ∃ w4,RuU (Instr.mapUpdate 109 (.map (some fm)) (.int .i64 k) (.slice b xs.length c')) w' w4/\Mod R w w4/\Sb R (fun z=>R z\/∃ q,b=some q/\z=q.block) w/\Fo (fun z=>R z\/∃ q,b=some q/\z=q.block) w4 f a v d (miF F k xs):=by
 have hR:∀ z,FiB rb f fl fm z->R z:=fun z hz=>h.rg z (.inr hz)
 have ok:∀ z,(z=f\/z=fl\/z=fm)->¬ ∃ q,rb k=some q/\z=q.block:=by
  rintro z hz ⟨q,e,rfl⟩
  obtain ⟨d1,d2,d3⟩:=h.df.2.2.2 k q e
  rcases hz with hz | hz | hz
  ·exact d1 hz
  ·exact d2 hz
  ·exact d3 hz
 obtain ⟨w4,u1,u2,u3,u4⟩:=update_run (P:=Tryz.prog) (k:=k) (v:=.slice b xs.length c') mapMi (h.mm.keep m (ok fm (.inr (.inr rfl))))
 have M:Mod R w w4:=(m.mono fun x _ e=>by obtain ⟨q,e,rfl⟩:=e; exact hR _ (.inr (.inr (.inr ⟨k,q,e,rfl⟩)))).trans u3 fun x _ e=>by have e:x=fm:=e; rw [e]; exact hR fm (.inr (.inr (.inl rfl)))
 have nq:∀ q,b=some q->q.block≠f/\q.block≠fl/\q.block≠fm/\¬ Ra q.block/\d<=q.block:=by
  intro q e
  rcases hq q e with ⟨q',e',e2⟩ | e2
  ·rw [e2]
   obtain ⟨d1,d2,d3⟩:=h.df.2.2.2 k q' e'
   have:=h.ob q'.block (.inr (.inr (.inr ⟨k,q',e',rfl⟩)))
   exact ⟨d1,d2,d3,this⟩
  ·have hl:=fun z hz=>h.lt z (hR z hz)
   have x1:=hl f (.inl rfl)
   have x2:=hl fl (.inr (.inl rfl))
   have x3:=hl fm (.inr (.inr (.inl rfl)))
   have x4:=(h.ob f (.inl rfl)).2
   exact ⟨by omega,by omega,by omega,fun r=>by have:=h.lt _ (h.rg _ (.inl r)); omega,by omega⟩
 have nm:∀ q,b=some q->q.block≠fm:=fun q e=>(nq q e).2.2.1
 have other:∀ n q,n≠k->rb n=some q->∀ q',b=some q'->q.block≠q'.block:=by
  intro n q hn e q' e' hb
  rcases hq q' e' with ⟨q2,e2,e3⟩ | e2
  ·exact hn (h.inj n k q q2 e e2 (by omega))
  ·have:=h.lt _ (hR _ (.inr (.inr (.inr ⟨n,q,e,rfl⟩)))); omega
 have ao:=h.ao
 refine ⟨w4,u1,M,fun z hz=>?_,Ra,fl,fm,Ll,putL k (.slice b xs.length c') Lm,fun n=>if n=k then b else rb n,fun n=>if n=k then c' else rc n,?_⟩
 ·rcases hz with hz | ⟨q,e,rfl⟩
  ·exact .inl hz
  ·rcases hq q e with ⟨q',e',e2⟩ | e2
   ·rw [e2]; exact .inl (hR q'.block (.inr (.inr (.inr ⟨k,q',e',rfl⟩))))
   ·exact .inr e2
 have nR:∀ z,Ra z->¬ (∃ q,rb k=some q/\z=q.block)/\z≠fm:=fun z hz=>by
  refine ⟨?_,fun e=>(h.ob fm (.inr (.inr (.inl rfl)))).1 (e ▸ hz)⟩
  rintro ⟨q,e,rfl⟩
  exact (h.ob _ (.inr (.inr (.inr ⟨k,q,e,rfl⟩)))).1 hz
 have fib:∀ z,FiB (fun n=>if n=k then b else rb n) f fl fm z->FiB rb f fl fm z\/∃ q,b=some q/\z=q.block:=by
  rintro z (e | e | e | ⟨n,q,e,rfl⟩)
  ·exact .inl (.inl e)
  ·exact .inl (.inr (.inl e))
  ·exact .inl (.inr (.inr (.inl e)))
  ·have e:(if n=k then b else rb n)=some q:=e
   split at e
   ·exact .inr ⟨q,e,rfl⟩
   ·exact .inl (.inr (.inr (.inr ⟨n,q,e,rfl⟩)))
 exact {
  ao:=(ao.keep m (fun z hz=>(nR z hz).1) fun z e=>by obtain ⟨q,e,rfl⟩:=e; exact (h.ob _ (.inr (.inr (.inr ⟨k,q,e,rfl⟩)))).2).keep u3 (fun z hz=>(nR z hz).2) fun z e=>by have e:z=fm:=e; rw [e]; exact (h.ob fm (.inr (.inr (.inl rfl)))).2
  cl:=(h.cl.keep m (ok f (.inl rfl))).keep u3 h.df.2.1
  ml:=(h.ml.keep m (ok fl (.inr (.inl rfl)))).keep u3 h.df.2.2.1
  hl:=h.hl
  mm:=u2
  hm:=fun n=>by
   rw [look_put]
   show (if k=n then some (Value.slice b xs.length c') else lookupL Lm n).getD (.slice none 0 0)=Value.slice (if n=k then b else rb n) (if n=k then xs else F.mi n).length (if n=k then c' else rc n)
   by_cases e:n=k
   ·rw [if_pos e.symm,if_pos e,if_pos e,if_pos e]; rfl
   ·rw [if_neg (Ne.symm e),if_neg e,if_neg e,if_neg e]; exact h.hm n
  ow:=fun n=>by
   show Ow Tryz.prog w4 d _ 1 (if n=k then b else rb n) (if n=k then xs else F.mi n).length (if n=k then c' else rc n) (iL (if n=k then xs else F.mi n))
   by_cases e:n=k
   ·rw [if_pos e,if_pos e,if_pos e]; exact o.keep u3 nm
   ·rw [if_neg e,if_neg e,if_neg e]
    refine ((h.ow n).keep m fun q eq=>?_).keep u3 fun q eq=>(h.df.2.2.2 n q eq).2.2
    rintro ⟨q',e',hb⟩
    exact e (h.inj n k q q' eq e' hb)
  inj:=fun n n' q q' e e' hb=>by
   have e:(if n=k then b else rb n)=some q:=e
   have e':(if n'=k then b else rb n')=some q':=e'
   by_cases hn:n=k
   ·by_cases hn':n'=k
    ·rw [hn,hn']
    ·rw [if_pos hn] at e
     rw [if_neg hn'] at e'
     exact absurd hb.symm (other n' q' hn' e' q e)
   ·by_cases hn':n'=k
    ·rw [if_neg hn] at e
     rw [if_pos hn'] at e'
     exact absurd hb (other n q hn e q' e')
    ·rw [if_neg hn] at e
     rw [if_neg hn'] at e'
     exact h.inj n n' q q' e e' hb
  ob:=fun z hz=>by
   rcases fib z hz with e | ⟨q,e,rfl⟩
   ·exact h.ob z e
   ·exact (nq q e).2.2.2
  df:=⟨h.df.1,h.df.2.1,h.df.2.2.1,fun n q e=>by
   have e:(if n=k then b else rb n)=some q:=e
   split at e
   ·exact ⟨(nq q e).1,(nq q e).2.1,(nq q e).2.2.1⟩
   ·exact h.df.2.2.2 n q e⟩
  rg:=fun z hz=>by
   rcases hz with hz | hz
   ·exact .inl (h.rg z (.inl hz))
   ·exact (fib z hz).imp (hR z) id
  lt:=fun z hz=>by
   have z1:=m.size
   rcases hz with hz | ⟨q,e,rfl⟩
   ·have:=h.lt z hz; omega
   ·have:=(o.base e).2; omega }
end
end Go.Proofs.YtandmpcjjaabmaaGreat
end
section
open Go Go.Den Go.Proofs
namespace Go.Proofs.YtandmpcjjaabmaaGreat
def MuF (F:Fy):Prop:=∀ k,∀ x∈F.mi k,F.A.V.opn x=true/\1<=x/\x<=(F.A.V.last:Int)
section
variable {w w':World} {R R' Ra:Nat->Prop} {f a v d fl fm:Nat} {F:Fy} {Ll Lm:List (Int×Value)} {rb:Int->Option Addr} {rc:Int->Nat} {K:Value->World->Prop}
theorem Del0_c {a:Option Addr} {l c:Nat} {xs:List Int} {v:Value} {p:Int->Bool} (hl:xs.length=l) (h63:l<=1000000000) (hr:Row w a (iL xs)) (ht:Tells v w No p xs) (hp:∀ x∈xs,p x=false)
  (hk:∀ w',Mod No w w'->K (.slice a l c) w'):Cal Tryz.prog F_slices_DeleteFunc_int64 #[.slice a l c,v] w K:=by
 apply C_slices_DeleteFunc_int64
 unfold D_slices_DeleteFunc_int64
 refine IndexFunc64_c hl (by omega) hr ht fun w1 m1=>⟨_,rfl,?_⟩
 rcases idxF_cases p xs 0 with ⟨e,_⟩ | ⟨i0,x0,_,hx0,hp0,_⟩
 ·rw [e]; exact tt rfl (hk w1 m1)
 ·have:=hp x0 (List.mem_of_getElem? hx0)
  rw [hp0] at this; cases this
theorem Clone64_c {a:Option Addr} {l c:Nat} {xs:List Int} (hr:Row w a (iL xs)) (hl:xs.length=l) (h0:a=none->l=0/\c=0) (h63:l<=1000000000)
  (hk:∀ w' a' c',Ow Tryz.prog w' w.heap.size 65 1 a' l c' (iL xs)->Mod No w w'->K (.slice a' l c') w'):Cal Tryz.prog F_slices_Clone_int64 #[.slice a l c] w K:=by
 apply C_slices_Clone_int64
 unfold D_slices_Clone_int64
 cases a with
 | none =>
  obtain ⟨rfl,rfl⟩:=h0 rfl
  have hx:xs=[]:=List.eq_nil_of_length_eq_zero hl
  subst hx
  exact ⟨_,nil_64s,tt rfl (hk w none 0 (Ow.nil elemZ_64) (Mod.refl _ _))⟩
 | some q =>
  refine ⟨_,some_64s _ _ _,ff rfl ⟨_,_,_,_,built640 w,?_⟩⟩
  have m1:Mod No w (w.alloc (.cells #[] 2)):=(Mod.refl No w).alloc _
  have hu:Tryz.prog.underlying 65=some (.slice 2):=by kernel_rfl
  obtain ⟨a',c',w2,h2,o2,m2⟩:=(own_empty (w:=w) (k:=1) hu).append (ty:=65) elemZ_64 (by omega) (a2:=some q) (m:=l) (c2:=c) (ys:=iL xs) (hr.nos m1) (by simp [hl]) (fun e=>by cases e) (one_iL xs) (by omega) (by omega) (by simp)
  rw [Nat.zero_add,List.nil_append] at *
  exact ⟨_,_,_,w2,h2,hk w2 a' c' o2 (m1.up m2 (Nat.le_refl _))⟩
theorem fReal_c {a:Option Addr} {l c:Nat} {xs:List Int} (hr:Row w a (iL xs)) (hl:xs.length=l) (h0:a=none->l=0/\c=0) (h63:l<=1000000) (hx:∀ x∈xs,1<=x)
  (hk:∀ w' a' c',Ow Tryz.prog w' w.heap.size 65 1 a' l c' (iL xs)->Mod No w w'->K (.slice a' l c') w'):Cal Tryz.prog F_file_real #[.slice a l c] w K:=by
 apply C_file_real
 unfold D_file_real
 refine Clone64_c hr hl h0 (by omega) fun w1 a1 c1 o1 m1=>⟨_,_,_,rfl,Del0_c (p:=fun x=>x==0) hl (by omega) o1.rowU.row (fun w2 m2 x hx K hK=>⟨_,_,_,rfl,C_file_real_1 _ _ _ (hK w2 (Mod.refl _ _))⟩) (fun x h=>?_) fun w2 m2=>⟨_,_,_,rfl,hk w2 a1 c1 (o1.nos m2) (m1.no m2)⟩⟩
 have:=hx x h
 simp; omega
theorem FoI.open' {k:Int} (h:FoI R w f a v d F Ra fl fm Ll Lm rb rc) (hm:∀ x∈F.mi k,F.A.V.opn x=true) (hl:(F.mi k).length<=1000000) (hk:∀ w',Mod No w w'->K (.slice (rb k) (F.mi k).length (rc k)) w') :
  Cal Tryz.prog F_file_Files_open #[.pointer (some ⟨f,0,none⟩),.int .i64 k] w K:=by
 apply C_file_Files_open
 unfold D_file_Files_open
 have M:Mod No w (Go.Den.drew w):=(Mod.refl _ _).drew
 have h1:=h.nos M
 obtain ⟨w0,Rs,sp,wk,a1,a2,_⟩:=h1.ao.sto
 have lk:∀ {u:World},MapAt u fm Lm->Ru (Instr.lookup 109 (.map (some fm)) (.int .i64 k) false) u (.slice (rb k) (F.mi k).length (rc k)) u:=fun hu=>by
  have:=lookup_run (P:=Tryz.prog) (k:=k) mapMi hu
  rw [h.hm k] at this
  exact this
 refine ⟨_,rfl,_,h1.cl.at.fld sc_mi rfl,_,_,_,lk h1.mm,_,rfl,_,h1.cl.at.fld sc_pvol rfl,aStore_c a2 ⟨_,rfl,h1.cl.at.fld sc_mi rfl,lk h1.mm,?_⟩⟩
 refine Del0_c (p:=safeV F.A.V) rfl (by omega) (h1.ow k).rowU.row (fun w2 m2 x hx K hK=>⟨_,_,_,rfl,qSafe_c (a1.nos m2) (hK w2 (Mod.refl _ _))⟩) (fun x hx=>opn_safe (hm x hx)) fun w2 m2=>⟨_,_,_,rfl,hk w2 (M.no m2)⟩
theorem fNote_c {k x0:Int} (h:Fo R w f a v d F) (hm:∀ x∈F.mi k,F.A.V.opn x=true) (hl:(F.mi k).length<=1000000) (hk:∀ w' R',Mod R w w'->Sb R R' w->Fo R' w' f a v d (miF F k (F.mi k++[x0]))->K (.tuple #[]) w') :
  Cal Tryz.prog F_file_Files_note #[.pointer (some ⟨f,0,none⟩),.int .i64 k,.int .i64 x0] w K:=by
 apply C_file_Files_note
 unfold D_file_Files_note
 obtain ⟨Ra,fl,fm,Ll,Lm,rb,rc,h⟩:=h
 have M:Mod No w (Go.Den.drew w):=(Mod.refl _ _).drew
 have h1:=h.nos M
 have hd:∀ {u:World},Mod No w u->d<=u.heap.size:=fun m=>by have:=(h.ob f (.inl rfl)).2; have:=h.cl.lt; have:=m.size; omega
 have step:∀ (u:World),Mod No w u->∀ g:Nat,AtU u g 0 [.int .i64 x0]->g<u.heap.size->∃ (a16:Option Addr) (l16 c16:Nat),∃ w3:World,Ru (Builtin.append_ #[65,65] 65 #[.slice (rb k) (F.mi k).length (rc k),.slice (some ⟨g,0,none⟩) 1 1]) u (.slice a16 l16 c16) w3/\Ru (Instr.loadAt 109 (.pointer (some (Addr.add ⟨f,0,none⟩ 3)))) w3 (.map (some fm)) w3/\∃ w4:World,RuU (Instr.mapUpdate 109 (.map (some fm)) (.int .i64 k) (.slice a16 l16 c16)) w3 w4/\K (.tuple #[]) w4:=by
  intro u mu g hg hgl
  have hu:=h.nos mu
  obtain ⟨q,c',w3,r1,r2,r3,r4⟩:=(hu.ow k).app (ty:=65) (m:=1) (c2:=1) (ad:=⟨g,0,none⟩) (ys:=[.int .i64 x0]) elemZ_64 (by omega) (.inr ⟨_,_,rfl,hg.at⟩) rfl (by omega) (by simp; rfl) (by omega) (by omega) (hd mu)
  have e:iL (F.mi k)++[Value.int .i64 x0]=iL (F.mi k++[x0]):=by simp [iL]; rfl
  have e2:(F.mi k).length+1=(F.mi k++[x0]).length:=by simp
  rw [e,e2] at r2
  rw [e2] at r1
  obtain ⟨w4,u1,u2,u3,u4⟩:=hu.row (k:=k) r3 r2 fun q' e=>by cases e; exact r4
  refine ⟨_,_,_,w3,r1,(hu.cl.keep r3 (fun ⟨q',e,e2⟩=>(h.df.2.2.2 k q' e).1 e2.symm)).at.fld sc_mi rfl,w4,u1,hk w4 _ ?_ (u3.up mu.size) u4⟩
  exact (mu.mono fun _ _ e=>e.elim).trans u2 fun _ _ e=>e
 refine ⟨_,rfl,_,h1.cl.at.fld sc_mi rfl,?_,?_⟩
 ·refine h1.open' hm hl fun w1 m1=>⟨_,_,_,rfl,(h1.nos m1).cl.at.fld sc_mi rfl,?_⟩
  have ma:Mod No w1 (w1.alloc (.cells ⟨[.int .i64 x0]⟩ 2)):=(Mod.refl No w1).alloc _
  exact ⟨_,_,_,_,builtI64 w1 x0,((h1.nos m1).nos ma).cl.at.fld sc_mi rfl,step _ ((M.no m1).no ma) _ AtU.new (by simp)⟩
 ·have ma:Mod No (Go.Den.drew w) ((Go.Den.drew w).alloc (.cells ⟨[.int .i64 x0]⟩ 2)):=(Mod.refl No _).alloc _
  have h2:=h1.nos ma
  refine ⟨_,_,_,_,builtI64 _ x0,h2.cl.at.fld sc_mi rfl,h2.open' hm hl fun w1 m1=>⟨_,_,_,rfl,(h2.nos m1).cl.at.fld sc_mi rfl,step _ ((M.no ma).no m1) _ (AtU.new.keep m1 id) ?_⟩⟩
  exact ((AtU.new (w:=Go.Den.drew w)).keep m1 id).lt
theorem fChanges_c {k:Int} (h:Fo R w f a v d F) (hm:∀ x∈F.mi k,F.A.V.opn x=true) (hl:(F.mi k).length<=1000000)
  (hk:∀ w' R' a' c',Mod R w w'->Sb R R' w->Fo R' w' f a v d F->Ow Tryz.prog w' w.heap.size 65 1 a' (F.mi k).length c' (iL (F.mi k))->(∀ q,a'=some q->¬ R' q.block)->K (.slice a' (F.mi k).length c') w') :
  Cal Tryz.prog F_file_Files_Changes #[.pointer (some ⟨f,0,none⟩),.int .i64 k] w K:=by
 apply C_file_Files_Changes
 unfold D_file_Files_Changes
 have hF:=h
 have hlt:=h.lt
 obtain ⟨Ra,fl,fm,Ll,Lm,rb,rc,h⟩:=h
 have M:Mod No w (Go.Den.drew w):=(Mod.refl _ _).drew
 have h1:=h.nos M
 refine ff rfl ⟨_,rfl,_,h1.cl.at.fld sc_mi rfl,h1.open' hm hl fun w1 m1=>⟨_,_,_,rfl,?_⟩⟩
 have h2:=h1.nos m1
 obtain ⟨w2,u1,u2,u3,u4⟩:=h2.row (k:=k) (w':=w1) (b:=rb k) (c':=rc k) (xs:=F.mi k) (Mod.refl _ _) (h2.ow k) fun q e=>.inl ⟨q,e,rfl⟩
 have eF:miF F k (F.mi k)=F:=by
  show (⟨F.A,F.la,fun n=>if n=k then F.mi k else F.mi n⟩:Fy)=F
  have:(fun n=>if n=k then F.mi k else F.mi n)=F.mi:=funext fun n=>by split; rename_i e; rw [e]; rfl
  rw [this]
 rw [eF] at u4
 have M2:Mod No w w1:=M.no m1
 have z2:=M2.size
 have u4':=u4
 obtain ⟨Ra',fl',fm',Ll',Lm',rb',rc',h3⟩:=u4
 have lk:Ru (Instr.lookup 109 (.map (some fm')) (.int .i64 k) false) w2 (.slice (rb' k) (F.mi k).length (rc' k)) w2:=by
  have:=lookup_run (P:=Tryz.prog) (k:=k) mapMi h3.mm
  rw [h3.hm k] at this
  exact this
 refine ⟨h2.cl.at.fld sc_mi rfl,w2,u1,_,rfl,_,h3.cl.at.fld sc_mi rfl,_,_,_,lk,Clone64_c (h3.ow k).rowU.row rfl (fun e=>by have:=h3.ow k; rw [e] at this; exact this.zero) (by omega) fun w3 a' c' o m3=>⟨_,_,_,rfl,?_⟩⟩
 have z3:=u2.size
 refine hk w3 _ a' c' (((M2.mono fun _ _ e=>e.elim).trans u2 fun _ _ e=>e).no m3) (u3.up z2) (u4'.nos m3) (o.mono (by omega)) fun q e r=>?_
 have:=(o.base e).1
 have:=u4'.lt _ r
 omega
end
end Go.Proofs.YtandmpcjjaabmaaGreat
end
section
open Go Go.Den Go.Proofs
namespace Go.Proofs.YtandmpcjjaabmaaGreat
def putF (F:Fy) (k:Int) (i:Nd) (after:List Int):Fy:=⟨setIA F.A k i after,fun n=>if n=k then (F.A.V.last:Int)+1 else F.la n,fun n=>if n=k then F.mi k++[(F.A.V.last:Int)+1] else F.mi n⟩
def setF (F:Fy) (k b f:Int) (data:Bk) (after:List Int):Fy:=⟨setDA F.A b f data after,F.la,fun n=>if n=k then F.mi k++[(F.A.V.last:Int)+1] else F.mi n⟩
theorem badA_of {V:Ps} {xs:List Int} (h:∀ x∈xs,1<=x/\x<=(V.last:Int)):badA V xs=false:=by
 unfold badA
 rw [List.any_eq_false]
 intro x hx
 have:=h x hx
 rw [decide_eq_true this]; decide
section
variable {w w':World} {R R' Ra:Nat->Prop} {f a v d fl fm:Nat} {F:Fy} {Ll Lm:List (Int×Value)} {rb:Int->Option Addr} {rc:Int->Nat} {K:Value->World->Prop}
theorem Fo.la1 {k x:Int} (h:Fo R w f a v d F):∃ fl,Ru (Instr.loadAt 108 (.pointer (some (Addr.add ⟨f,0,none⟩ 2)))) w (.map (some fl)) w/\∃ w4,RuU (Instr.mapUpdate 108 (.map (some fl)) (.int .i64 k) (.int .i64 x)) w w4/\Mod R w w4/\Fo R w4 f a v d ⟨F.A,fun n=>if n=k then x else F.la n,F.mi⟩:=by
 obtain ⟨Ra,fl,fm,Ll,Lm,rb,rc,h⟩:=h
 obtain ⟨w4,u1,u2,u3,u4⟩:=update_run (P:=Tryz.prog) (k:=k) (v:=.int .i64 x) mapLa h.ml
 have hfl:=h.ob fl (.inr (.inl rfl))
 refine ⟨fl,h.cl.at.fld sc_la rfl,w4,u1,u3.mono fun z _ e=>by have e:z=fl:=e; rw [e]; exact h.rg fl (.inr (.inr (.inl rfl))),Ra,fl,fm,putL k (.int .i64 x) Ll,Lm,rb,rc,?_⟩
 exact {
  ao:=h.ao.keep u3 (fun z hz e=>by have e:z=fl:=e; rw [e] at hz; exact hfl.1 hz) fun z e=>by have e:z=fl:=e; rw [e]; exact hfl.2
  cl:=h.cl.keep u3 h.df.1
  ml:=u2
  hl:=fun n=>by
   rw [look_put]
   show (if k=n then some (Value.int .i64 x) else lookupL Ll n).getD (.int .i64 0)=.int .i64 (if n=k then x else F.la n)
   by_cases e:n=k
   ·rw [if_pos e.symm,if_pos e]; rfl
   ·rw [if_neg (Ne.symm e),if_neg e]; exact h.hl n
  mm:=h.mm.keep u3 fun e=>h.df.2.2.1 e.symm
  hm:=h.hm
  ow:=fun n=>(h.ow n).keep u3 fun q e=>(h.df.2.2.2 n q e).2.1
  inj:=h.inj
  ob:=h.ob
  df:=h.df
  rg:=h.rg
  lt:=fun z hz=>by rw [u4]; exact h.lt z hz }
theorem fPut_c {k:Int} {i:Nd} {a4:Option Addr} {l4 c4:Nat} {after:List Int} (h63:k<=9223372036854775807) (h:Fo R w f a v d F) (hM:MuF F) (hw:nWf i) (ho:nOk i=true) (hp:(gPlace F.A.s.geo k).2.2=0) (hlast:F.A.V.last+1<=1000000) (hml:(F.mi k).length<=1000000)
  (hal:after.length=l4) (h0:a4=none->l4=0/\c4=0) (ha6:l4<=1000000) (hb:∀ x∈after,1<=x/\x<=(F.A.V.last:Int)) (hra:Row w a4 (iL after))
  (hk:∀ w' R',Mod R w w'->Sb R R' w->Fo R' w' f a v d (putF F k i after)->K (.tuple #[.int .i64 ((F.A.V.last:Int)+1),.int .i64 0]) w') :
  Cal Tryz.prog F_file_Files_Put #[.pointer (some ⟨f,0,none⟩),.int .i64 k,.agg ⟨nV i⟩,.slice a4 l4 c4] w K:=by
 apply C_file_Files_Put
 unfold D_file_Files_Put
 obtain ⟨w1,b1,b2,b3,b4⟩:=box_u (P:=Tryz.prog) (w:=w) (T:=51) (cs:=nV i)
 have M1:Mod No w (Go.Den.drew w1):=b3.drew
 have h1:=h.nos M1
 have q1:=b2.drew
 refine ⟨_,w1,b1,ff rfl ⟨_,rfl,_,h1.pv,_,q1.at.all agg_ino (nV_len hw),fReal_c (hra.nos M1) hal h0 ha6 (fun x hx=>(hb x hx).1) fun w2 a' c' o2 m2=>⟨_,_,_,rfl,(h1.nos m2).pv,(q1.keep m2 id).at.all agg_ino (nV_len hw),?_⟩⟩⟩
 have h2:=h1.nos m2
 obtain ⟨Ra,hA,hRa,hc⟩:=h2.alc
 have hlt:=h1.lt
 have hbad:=badA_of (V:=F.A.V) (xs:=after) hb
 have M2:=M1.no m2
 refine aSetIno_c h63 hA hw ho hp hlast hal ha6 hbad o2.rowU.row (fun _ q e r=>by have:=(o2.base e).1; have:=hlt _ (hRa _ r); omega) fun w3 R3 m3 s3 h3=>⟨_,_,rfl,?_⟩
 obtain ⟨c1,c2,c3⟩:=hc w3 R3 _ m3 s3 h3
 have S3:=c2.up M2.size
 have MM:Mod R w w3:=(M2.mono fun _ _ e=>e.elim).trans c1 fun _ _ e=>e
 have hE:=setI_E (k:=k) (i:=i) hA.hd hw hp hbad
 refine Share.dup (tt rfl ?_)
 obtain ⟨fl,l1,w4,l2,l3,l4⟩:=c3.la1 (k:=k) (x:=(F.A.V.last:Int)+1)
 refine ⟨_,rfl,_,l1,w4,l2,fNote_c l4 (fun x hx=>opn_pat _ _ _ _ ((hM k x hx).1)) hml fun w5 R5 m5 s5 h5=>⟨rfl,hk w5 R5 ?_ ?_ h5⟩⟩
 ·exact Mod.sb (Mod.sb MM S3 l3) S3 (Mod.sb (Mod.refl _ _) (Sb.refl _ _) m5)
 ·have:=MM.size
  have:=l3.size
  exact S3.trans (s5.up (Nat.le_refl _)) (by omega)
theorem fSet_c {k b f0:Int} {data:Bk} {a3 a4:Option Addr} {l3 c3 l4 c4:Nat} {after:List Int} (h:Fo R w f a v d F) (hM:MuF F) (hb:(gKind F.A.s.geo b).1=4) (hlast:F.A.V.last+1<=1000000) (hml:(F.mi k).length<=1000000)
  (hd:data.length=l3) (hl0:l3≠0) (f00:0<=f0) (f1:f0+l3<=256) (hrd:Row w a3 (u8L data)) (hdo:∀ q,a3=some q->¬ R q.block)
  (hal:after.length=l4) (ha6:l4<=1000000) (ha:∀ x∈after,1<=x/\x<=(F.A.V.last:Int)) (hra:Row w a4 (iL after)) (hao:after≠[]->∀ q,a4=some q->¬ R q.block)
  (hk:∀ w' R',Mod R w w'->Sb R R' w->Fo R' w' f a v d (setF F k b f0 data after)->K (.tuple #[.int .i64 ((F.A.V.last:Int)+1),.int .i64 0]) w') :
  Cal Tryz.prog F_file_Files_set #[.pointer (some ⟨f,0,none⟩),.int .i64 k,.int .i64 b,.int .i64 f0,.slice a3 l3 c3,.slice a4 l4 c4] w K:=by
 apply C_file_Files_set
 unfold D_file_Files_set
 obtain ⟨Ra,hA,hRa,hc⟩:=h.alc
 refine ⟨_,rfl,_,h.pv,aSetDat_c hA hb hlast hd hl0 f00 f1 hrd (fun q e r=>hdo q e (hRa _ r)) hal ha6 (badA_of ha) hra (fun e q e' r=>hao e q e' (hRa _ r)) fun w3 R3 m3 s3 h3=>⟨_,_,rfl,Share.dup (tt rfl ?_)⟩⟩
 obtain ⟨c1,c2,c3⟩:=hc w3 R3 _ m3 s3 h3
 refine fNote_c c3 (fun x hx=>opn_pat _ _ _ _ ((hM k x hx).1)) hml fun w5 R5 m5 s5 h5=>⟨rfl,hk w5 R5 (Mod.sb c1 c2 m5) (c2.trans s5 c1.size) h5⟩
theorem fGet_c {k:Int} (h63:k<=9223372036854775807) (h:Fo R w f a v d F) (hk:∀ w' R',Mod R w w'->Sb R R' w->Fo R' w' f a v d F->K (.tuple #[.agg ⟨nV (slotV F.A.V F.A.s.geo k).1⟩,.int .i64 (slotV F.A.V F.A.s.geo k).2]) w') :
  Cal Tryz.prog F_file_Files_Get #[.pointer (some ⟨f,0,none⟩),.int .i64 k] w K:=by
 apply C_file_Files_Get
 unfold D_file_Files_Get
 obtain ⟨w1,b1,b2,b3,b4⟩:=new_u (P:=Tryz.prog) (w:=w) (T:=51) zero_ino
 have h1:=h.nos b3
 have hlt:=h.lt
 have hd:=h.dlt
 obtain ⟨Ra,hA,hRa,hc⟩:=h1.alc
 refine ⟨_,w1,b1,ff rfl ⟨_,rfl,_,h1.pv,aInode_c h63 hA fun w2 R2 m2 s2 h2=>⟨_,_,rfl,?_⟩⟩⟩
 obtain ⟨c1,c2,c3⟩:=hc w2 R2 _ m2 s2 h2
 have n1:¬ R w.heap.size:=fun e=>by have:=hlt _ e; omega
 have n2:¬ (R w.heap.size\/R2 w.heap.size):=fun e=>by
  rcases c2 _ e with e | e
  ·exact n1 e
  ·omega
 obtain ⟨w3,d1,d2,d3,d4⟩:=(b2.keep c1 n1).put (T:=51) (vs:=nV (slotV F.A.V F.A.s.geo k).1) agg_ino rfl (nV_len (slotV_wf _ _ _)) (one_nV _)
 refine ⟨w3,d1,_,d2.at.all agg_ino (nV_len (slotV_wf _ _ _)),hk w3 _ ?_ (c2.up b3.size) (c3.own d3 n2 (by omega))⟩
 exact ((b3.mono fun _ _ e=>e.elim).trans c1 fun _ _ e=>e).trans d3 fun x hx e=>by have e:x=w.heap.size:=e; omega
def thF (F:Fy) (k:Int):Int:=if (slotV F.A.V F.A.s.geo k).2≠0 then (slotV F.A.V F.A.s.geo k).2 else if (slotV F.A.V F.A.s.geo k).1.kind=0 then 20 else 0
theorem fThing_c {k:Int} (h63:k<=9223372036854775807) (h:Fo R w f a v d F) (hk:∀ w' R',Mod R w w'->Sb R R' w->Fo R' w' f a v d F->K (.tuple #[.agg ⟨nV (slotV F.A.V F.A.s.geo k).1⟩,.int .i64 (thF F k)]) w') :
  Cal Tryz.prog F_file_Files_thing #[.pointer (some ⟨f,0,none⟩),.int .i64 k] w K:=by
 apply C_file_Files_thing
 unfold D_file_Files_thing
 obtain ⟨w1,b1,b2,b3,b4⟩:=new_u (P:=Tryz.prog) (w:=w) (T:=51) zero_ino
 have h1:=h.nos b3
 have hlt:=h.lt
 have hd:=h.dlt
 have hwf:=slotV_wf F.A.V F.A.s.geo k
 have hln:=nV_len hwf
 refine ⟨_,w1,b1,fGet_c h63 h1 fun w2 R2 m2 s2 h2=>⟨_,_,rfl,?_⟩⟩
 have n1:¬ R w.heap.size:=fun e=>by have:=hlt _ e; omega
 have n2:¬ R2 w.heap.size:=fun e=>by
  rcases s2 _ e with e | e
  ·exact n1 e
  ·omega
 have z2:=m2.size
 obtain ⟨w3,d1,d2,d3,d4⟩:=new_u (P:=Tryz.prog) (w:=w2) (T:=51) zero_ino
 obtain ⟨w4,e1,e2,e3,e4⟩:=d2.put (T:=51) (vs:=nV (slotV F.A.V F.A.s.geo k).1) agg_ino rfl hln (one_nV _)
 have M4:Mod No w2 w4:=d3.own e3 (Nat.le_refl _)
 have h4:=h2.nos M4
 have q4:=((b2.keep m2 n1).keep M4 id)
 have MM:Mod R w w4:=((b3.mono fun _ _ e=>e.elim).trans m2 fun _ _ e=>e).no M4
 have S4:=s2.up b3.size
 refine ⟨_,w3,d1,w4,e1,Share.cut (fun z w5=>w4=w5/\z=[.bool (decide ((slotV F.A.V F.A.s.geo k).2=0/\(slotV F.A.V F.A.s.geo k).1.kind=0))]) ?_ ?_⟩
 ·rw [beqI]
  refine cond_of (fun he=>⟨_,e2.at.fld (v:=.int .i64 (slotV F.A.V F.A.s.geo k).1.kind) sc_int rfl,rfl,?_⟩) (fun he=>⟨rfl,?_⟩)
  ·have he:=of_decide_eq_true he
   rw [beqI]
   exact bcell ⟨fun e=>⟨he,e⟩,And.right⟩
  ·have he:=of_decide_eq_false he
   exact bcellF fun e=>he e.1
 rintro z w5 ⟨rfl,rfl⟩
 have fin:∀ e:Int,e=thF F k->∃ g21:Array Value,Ru (Instr.loadAt 51 (.pointer (some ⟨w2.heap.size,0,none⟩))) w4 (.agg g21) w4/\∃ n7:Int,nth [Value.int .i64 e] 0=.int .i64 n7/\∃ w7:World,RuU (Instr.storeAt 51 (.pointer (some ⟨w.heap.size,0,none⟩)) (.agg g21)) w4 w7/\∃ gR4:Array Value,Ru (Instr.loadAt 51 (.pointer (some ⟨w.heap.size,0,none⟩))) w7 (.agg gR4) w7/\K (.tuple #[.agg gR4,.int .i64 n7]) w7:=fun e he=>by
  obtain ⟨w7,g1,g2,g3,g4⟩:=q4.put (T:=51) (vs:=nV (slotV F.A.V F.A.s.geo k).1) agg_ino rfl hln (one_nV _)
  refine ⟨_,e2.at.all agg_ino hln,_,rfl,w7,g1,_,g2.at.all agg_ino hln,?_⟩
  rw [he]
  exact hk w7 R2 (MM.trans g3 fun x hx e=>by have e:x=w.heap.size:=e; omega) S4 (h4.own g3 n2 (by omega))
 refine ⟨_,rfl,Share.dup (cond_of (fun hb=>fin _ ?_) (fun hb=>fin _ ?_))⟩
 ·have hb:=of_decide_eq_true hb
  unfold thF; rw [if_neg (by rw [hb.1]; decide),if_pos hb.2]
 ·have hb:=of_decide_eq_false hb
  unfold thF
  split
  ·rfl
  ·rename_i x
   have x:(slotV F.A.V F.A.s.geo k).2=0:=Classical.not_not.1 x
   rw [if_neg fun y=>hb ⟨x,y⟩,x]
end
end Go.Proofs.YtandmpcjjaabmaaGreat
end
section
open Go Go.Den Go.Proofs
namespace Go.Proofs.YtandmpcjjaabmaaGreat
theorem arr6i:arrN Tryz.prog 49=some (6,1):=by kernel_rfl
theorem sc_pfiles:scal Tryz.prog 46=true:=by kernel_rfl
theorem sc_64s:scal Tryz.prog 65=true:=by kernel_rfl
theorem agg_way:aggN Tryz.prog 116=some 4:=by kernel_rfl
theorem zero_way:zeroC Tryz.prog 116=some (Wy.l ⟨0,0,0,0⟩):=by kernel_rfl
theorem built642 (w:World) (x y:Int):(Instr.buildSlice 65 2 #[(0,.int .i64 x),(1,.int .i64 y)]).run Tryz.prog w=.ok (.slice (some ⟨w.heap.size,0,none⟩) 2 2) (w.alloc (.cells ⟨[.int .i64 x,.int .i64 y]⟩ 2)):=by kernel_rfl
theorem ofS6 {n:Nat} (h:n<6):ofS (n:Int)=(⟨0,n,0,0⟩,0):=by unfold ofS; rw [if_neg (by omega),if_pos (by omega)]
theorem nV_p {i:Nd} (hw:nWf i) {n:Nat} (hn:n<8):(nV i)[4+n]?=some (.int .i64 (i.p.getD n 0)):=by
 have hl:i.p.length=8:=hw
 show (iL (i.kind::i.links::i.size::i.id::i.p))[4+n]?=_
 rw [show 4+n=n+1+1+1+1 by omega]
 show (iL i.p)[n]?=_
 rw [iL_get (by omega),List.getD_eq_getElem?_getD,List.getElem?_eq_getElem (by omega)]; rfl
def wV (f:Nat) (k:Int) (i:Nd) (a:Option Addr) (l c:Nat) (near:Int):List Value:=.pointer (some ⟨f,0,none⟩)::.int .i64 k::(nV i++[.slice a l c,.int .i64 near])
theorem wV_len {f:Nat} {k:Int} {i:Nd} {a:Option Addr} {l c:Nat} {near:Int} (hw:nWf i):(wV f k i a l c near).length=16:=by unfold wV; simp [nV_len hw]
theorem wV_ino {f:Nat} {k:Int} {i:Nd} {a:Option Addr} {l c:Nat} {near:Int} (hw:nWf i):((wV f k i a l c near).drop 2).take 12=nV i:=by
 show (nV i++_).take 12=_
 exact take_app (nV_len hw)
theorem wV_p {f:Nat} {k:Int} {i:Nd} {a:Option Addr} {l c:Nat} {near:Int} (hw:nWf i) {n:Nat} (hn:n<8):(wV f k i a l c near)[6+n]?=some (.int .i64 (i.p.getD n 0)):=by
 rw [show 6+n=(4+n)+1+1 by omega]
 show (nV i++_)[4+n]?=_
 rw [List.getElem?_append_left (by rw [nV_len hw]; omega),nV_p hw hn]
theorem wV_end {f:Nat} {k:Int} {i:Nd} {a:Option Addr} {l c:Nat} {near:Int} (hw:nWf i):(wV f k i a l c near)[14]?=some (.slice a l c)/\(wV f k i a l c near)[15]?=some (.int .i64 near):=by
 constructor
 ·show (nV i++_)[12]?=_
  rw [List.getElem?_append_right (by rw [nV_len hw]; omega),nV_len hw]; rfl
 ·show (nV i++_)[13]?=_
  rw [List.getElem?_append_right (by rw [nV_len hw]; omega),nV_len hw]; rfl
def setP (i:Nd) (n:Nat) (b:Int):Nd:=⟨i.kind,i.links,i.size,i.id,i.p.set n b⟩
theorem setP_wf {i:Nd} (hw:nWf i) (n:Nat) (b:Int):nWf (setP i n b):=by unfold nWf setP; rw [List.length_set]; exact hw
theorem wV_setP {f:Nat} {k:Int} {i:Nd} {a:Option Addr} {l c:Nat} {near:Int} (hw:nWf i) {n:Nat} (hn:n<8) (b:Int):(wV f k i a l c near).set (6+n) (.int .i64 b)=wV f k (setP i n b) a l c near:=by
 have hl:i.p.length=8:=hw
 rw [show 6+n=(4+n)+1+1 by omega]
 show _::_::(nV i++_).set (4+n) _=_::_::(nV (setP i n b)++_)
 rw [List.set_append_left _ _ (by rw [nV_len hw]; omega),show 4+n=n+1+1+1+1 by omega]
 show _::_::((_::_::_::_::(iL i.p).set n _)++_)=_::_::((_::_::_::_::iL (i.p.set n b))++_)
 have:(iL i.p).set n (.int .i64 b)=iL (i.p.set n b):=by unfold iL; rw [List.map_set]; rfl
 rw [this]; rfl
theorem wV_setA {f:Nat} {k:Int} {i:Nd} {a a':Option Addr} {l c l' c':Nat} {near:Int} (hw:nWf i):(wV f k i a l c near).set 14 (.slice a' l' c')=wV f k i a' l' c' near:=by
 show _::_::(nV i++_).set 12 _=_
 rw [List.set_append_right _ _ (by rw [nV_len hw]; omega),nV_len hw]; rfl
theorem wV_setN {f:Nat} {k:Int} {i:Nd} {a:Option Addr} {l c:Nat} {near near':Int} (hw:nWf i):(wV f k i a l c near).set 15 (.int .i64 near')=wV f k i a l c near':=by
 show _::_::(nV i++_).set 13 _=_
 rw [List.set_append_right _ _ (by rw [nV_len hw]; omega),nV_len hw]; rfl
section
variable {w w':World} {R R' Ra:Nat->Prop} {f a v d fl fm:Nat} {F:Fy} {K:Value->World->Prop}
theorem fWhere0_c {i:Nd} {n:Nat} {p0:Option Addr} (hw:nWf i) (hn:n<6) (hk:∀ w',Mod No w w'->K (.int .i64 (i.p.getD n 0)) w'):Cal Tryz.prog F_file_Files_where #[.pointer p0,.agg ⟨nV i⟩,.agg ⟨Wy.l ⟨0,n,0,0⟩⟩] w K:=by
 apply C_file_Files_where
 unfold D_file_Files_where
 obtain ⟨w1,b1,b2,b3,b4⟩:=box_u (P:=Tryz.prog) (w:=w) (T:=51) (cs:=nV i)
 obtain ⟨w2,c1,c2,c3,c4⟩:=box_u (P:=Tryz.prog) (w:=w1) (T:=116) (cs:=Wy.l ⟨0,n,0,0⟩)
 have q2:=b2.keep c3 id
 exact ⟨_,w1,b1,_,w2,c1,_,c2.at.fld (v:=.int .i64 0) sc_int rfl,tt rfl ⟨_,c2.at.fld (v:=.int .i64 n) sc_int rfl,_,index_arr arr6i (by omega) (by omega),_,q2.at.fld2 (j:=4) (i:=(n:Int).toNat*1) sc_int (by rw [show (n:Int).toNat*1=n by omega]; exact nV_p hw (by omega)),hk w2 (b3.no c3)⟩⟩
theorem fWhere_c {k:Int} {n:Nat} (h63:k<=9223372036854775807) (h:Fo R w f a v d F) (ht:thF F k=0) (hn:n<6) (hk:∀ w' R',Mod R w w'->Sb R R' w->Fo R' w' f a v d F->K (.tuple #[.int .i64 ((slotV F.A.V F.A.s.geo k).1.p.getD n 0),.int .i64 0]) w') :
  Cal Tryz.prog F_file_Files_Where #[.pointer (some ⟨f,0,none⟩),.int .i64 k,.int .i64 n] w K:=by
 apply C_file_Files_Where
 unfold D_file_Files_Where
 have hwf:=slotV_wf F.A.V F.A.s.geo k
 refine fThing_c h63 h fun w1 R1 m1 s1 h1=>⟨_,_,rfl,?_⟩
 obtain ⟨w2,b1,b2,b3,b4⟩:=new_u (P:=Tryz.prog) (w:=w1) (T:=51) zero_ino
 obtain ⟨w3,c1,c2,c3,c4⟩:=b2.put (T:=51) (vs:=nV (slotV F.A.V F.A.s.geo k).1) agg_ino rfl (nV_len hwf) (one_nV _)
 have M3:Mod No w1 w3:=b3.own c3 (Nat.le_refl _)
 refine ⟨_,w2,b1,w3,c1,ff (by rw [ht]; rfl) (Of_c (by omega) (by omega) fun w4 m4=>⟨_,_,rfl,?_⟩)⟩
 rw [ofS6 hn]
 obtain ⟨w5,d1,d2,d3,d4⟩:=new_u (P:=Tryz.prog) (w:=w4) (T:=116) zero_way
 obtain ⟨w6,e1,e2,e3,e4⟩:=d2.put (T:=116) (vs:=Wy.l ⟨0,n,0,0⟩) agg_way rfl rfl (one_Wy _)
 have M6:Mod No w4 w6:=d3.own e3 (Nat.le_refl _)
 refine ⟨_,w5,d1,w6,e1,ff rfl ⟨_,((c2.keep m4 id).keep M6 id).at.all agg_ino (nV_len hwf),_,e2.at.all agg_way rfl,fWhere0_c hwf hn fun w7 m7=>⟨_,rfl,?_⟩⟩⟩
 have M:=((M3.no m4).no M6).no m7
 exact hk w7 R1 (m1.no M) s1 (h1.nos M)
def frF (F:Fy) (k near:Int) (data:Bk):Fy:=setF ⟨(blockA F.A near).1,F.la,F.mi⟩ k (blockA F.A near).2.1 0 data []
def okB (F:Fy) (near:Int):Prop:=(blockA F.A near).2.2.2=0/\(gKind F.A.s.geo (blockA F.A near).2.1).1=4
theorem pat_last (V:Ps) (n f:Int) (data:Bk) (after:List Int):V.last<=(patS V n f data after).last/\(patS V n f data after).last<=V.last+1:=by
 by_cases e:patE V n f data after=0
 ·rw [patS_last e]; omega
 ·unfold patS; rw [if_neg e]; omega
theorem blkA_up (A:Az) (b:Int):(blockA A b).1.s=A.s/\A.V.last<=(blockA A b).1.V.last/\(blockA A b).1.V.last<=A.V.last+1/\∀ x,A.V.opn x=true->(blockA A b).1.V.opn x=true:=by
 unfold blockA
 split
 ·exact ⟨rfl,(pat_last _ _ _ _ _).1,(pat_last _ _ _ _ _).2,fun x hx=>opn_pat _ _ _ _ hx⟩
 ·exact ⟨rfl,by simp only; omega,by simp only; omega,fun _ h=>h⟩
theorem MuF.set (h:MuF F) {k b f0:Int} {data:Bk} {after:List Int} (hE:patE F.A.V b f0 data after=0):MuF (setF F k b f0 data after):=by
 intro n x hx
 have hl:((setF F k b f0 data after).A.V.last:Int)=F.A.V.last+1:=by show ((patS F.A.V b f0 data after).last:Int)=_; rw [patS_last hE]; omega
 have old:∀ x,(F.A.V.opn x=true/\1<=x/\x<=(F.A.V.last:Int))->(setF F k b f0 data after).A.V.opn x=true/\1<=x/\x<=((setF F k b f0 data after).A.V.last:Int):=fun x ⟨o1,o2,o3⟩=>⟨opn_pat _ _ _ _ o1,o2,by omega⟩
 have hx:x∈(if n=k then F.mi k++[(F.A.V.last:Int)+1] else F.mi n):=hx
 split at hx
 ·rcases List.mem_append.1 hx with hx | hx
  ·exact old x (h k x hx)
  ·have:x=(F.A.V.last:Int)+1:=by simpa using hx
   rw [this]; exact ⟨opn_new hE,by omega,by omega⟩
 ·exact old x (h n x hx)
theorem MuF.blk (h:MuF F) (near:Int):MuF ⟨(blockA F.A near).1,F.la,F.mi⟩:=by
 obtain ⟨_,b1,b2,b3⟩:=blkA_up F.A near
 intro n x hx
 obtain ⟨o1,o2,o3⟩:=h n x hx
 exact ⟨b3 x o1,o2,by show x<=((blockA F.A near).1.V.last:Int); omega⟩
theorem fFresh_c {k near:Int} {i:Nd} {q:Nat} {aa a1:Option Addr} {la lc c1:Nat} {data:Bk} (hnear:near<=9223372036854775807) (h:Fo R w f a v d F) (hM:MuF F) (hat:AtU w q 0 (wV f k i aa la lc near)) (hq:¬ R q) (hdq:d<=q) (hw:nWf i) (hok:okB F near)
  (hlast:F.A.V.last+2<=1000000) (hml:(F.mi k).length<=1000000) (hd:data.length=256) (hrd:Row w a1 (u8L data)) (hdo:∀ q',a1=some q'->¬ R q'.block/\q'.block≠q/\q'.block<w.heap.size)
  (hk:∀ w' R' g,Mod (fun z=>R z\/z=q) w w'->Sb R R' w->Fo R' w' f a v d (frF F k near data)->MuF (frF F k near data)->(frF F k near data).A.V.last=(blockA F.A near).1.V.last+1->AtU w' q 0 (wV f k i aa la lc (blockA F.A near).2.1)->w.heap.size<=g->¬ R' g->g≠q->AtU w' g 0 (iL [(blockA F.A near).2.2.1,((blockA F.A near).1.V.last:Int)+1]) ->
   K (.tuple #[.int .i64 (blockA F.A near).2.1,.slice (some ⟨g,0,none⟩) 2 2,.int .i64 0]) w') :
  Cal Tryz.prog F_file_writer_fresh #[.pointer (some ⟨q,0,none⟩),.slice a1 256 c1,.slice none 0 0] w K:=by
 apply C_file_writer_fresh
 unfold D_file_writer_fresh
 have M1:Mod No w (Go.Den.drew w):=(Mod.refl _ _).drew
 have h1:=h.nos M1
 have q1:=hat.drew
 have hlt:=h.lt
 have hql:=hat.lt
 obtain ⟨Ra,hA,hRa,hc⟩:=h1.alc
 obtain ⟨bs,bl0,bl,bo⟩:=blkA_up F.A near
 refine ⟨_,rfl,_,q1.at.fld (v:=.pointer (some ⟨f,0,none⟩)) sc_pfiles rfl,_,rfl,_,h1.pa,_,rfl,near,q1.at.fld sc_int (wV_end hw).2,aBlock_c hnear hA (by omega) fun w2 R2 m2 s2 h2=>⟨_,_,_,rfl,?_⟩⟩
 rw [hok.1]
 have hE:patE (blockA F.A near).1.V (blockA F.A near).2.1 0 data []=0:=setD_E h2.hd (by rw [bs]; exact hok.2) (by omega) (by omega) (by omega) rfl
 obtain ⟨c1',c2,c3⟩:=hc w2 R2 _ m2 s2 h2
 have nq2:¬ (R q\/R2 q):=fun e=>by
  rcases c2 _ e with e | e
  ·exact hq e
  ·have:(Go.Den.drew w).heap.size=w.heap.size:=rfl
   omega
 have q2:=q1.keep c1' hq
 obtain ⟨w3,p1,p2,p3,p4⟩:=q2.putF (T:=3) (j:=15) (v:=.int .i64 (blockA F.A near).2.1) sc_int (by rw [wV_len hw]; omega) rfl
 rw [wV_setN hw] at p2
 have M3d:Mod No w3 (Go.Den.drew w3):=(Mod.refl _ _).drew
 have h3:=(c3.own p3 nq2 hdq).nos M3d
 have z2:=c1'.size
 have z0:(Go.Den.drew w).heap.size=w.heap.size:=rfl
 have z3:(Go.Den.drew w3).heap.size=w2.heap.size:=p4
 refine ff rfl ⟨_,rfl,w3,p1,_,rfl,_,p2.drew.at.fld (v:=.pointer (some ⟨f,0,none⟩)) sc_pfiles rfl,_,rfl,k,p2.drew.at.fld sc_int rfl,?_⟩
 refine fSet_c (data:=data) (after:=[]) h3 (hM.blk near) (by rw [show (⟨(blockA F.A near).1,F.la,F.mi⟩:Fy).A.s=F.A.s from bs]; exact hok.2) (by show (blockA F.A near).1.V.last+1<=_; omega) hml hd (by omega) (by omega) (by omega) ?_ (fun q' e r=>?_) rfl (by omega) (fun _ e=>by cases e) (.inl rfl) (fun e=>absurd rfl e) fun w4 R4 m4 s4 h4=>⟨_,_,rfl,?_⟩
 ·refine Row.keep (Row.keep (Row.keep (hrd.nos M1) c1' fun q' e=>(hdo q' e).1) p3 fun q' e=>(hdo q' e).2.1) M3d fun _ _=>id
 ·rcases c2 _ r with r | r
  ·exact (hdo q' e).1 r
  ·have:=(hdo q' e).2.2; omega
 ·have ma:Mod No w4 (w4.alloc (.cells ⟨iL [(blockA F.A near).2.2.1,((blockA F.A near).1.V.last:Int)+1]⟩ 2)):=(Mod.refl No w4).alloc _
  have z4:=m4.size
  refine ⟨_,_,_,_,built642 w4 _ _,hk _ R4 _ ?_ ?_ (h4.nos ma) ((hM.blk near).set hE) (patS_last hE) ?_ ?_ ?_ ?_ AtU.new⟩
  ·have T2:Mod (fun z=>R z\/z=q) w w2:=(M1.mono fun _ _ e=>e.elim).trans c1' fun x _ e=>.inl e
   have T3:Mod (fun z=>R z\/z=q) w (Go.Den.drew w3):=(T2.trans p3 fun x _ e=>.inr e).drew
   refine (T3.trans m4 fun x hx e=>?_).no ma
   rcases c2 x e with e | e
   ·exact .inl e
   ·omega
  ·intro z hz
   rcases s4 z hz with e | e
   ·exact (c2 z e).imp id fun e=>by omega
   ·exact .inr (by omega)
  ·exact (p2.drew.keep m4 nq2).keep ma id
  ·omega
  ·intro e; have:=h4.lt _ e; omega
  ·omega
end
end Go.Proofs.YtandmpcjjaabmaaGreat
end
section
open Go Go.Den Go.Proofs
namespace Go.Proofs.YtandmpcjjaabmaaGreat
section
variable {w w':World} {R R' Ra:Nat->Prop} {f a v d fl fm:Nat} {F:Fy} {K:Value->World->Prop}
theorem fBlock_c {k near:Int} {n base:Nat} {i:Nd} {q:Nat} {aa a1:Option Addr} {lc c1:Nat} {xs:List Int} {data:Bk} (hnear:near<=9223372036854775807) (h:Fo R w f a v d F) (hM:MuF F) (hat:AtU w q 0 (wV f k i aa xs.length lc near)) (hq:¬ R q) (hdq:d<=q) (hw:nWf i) (hn:n<6) (hz:i.p.getD n 0=0) (hok:okB F near)
  (hlast:F.A.V.last+2<=1000000) (hml:(F.mi k).length<=1000000) (hd:data.length=256) (hrd:Row w a1 (u8L data)) (hdo:∀ q',a1=some q'->¬ R q'.block/\q'.block≠q/\q'.block<w.heap.size)
  (ho:Ow Tryz.prog w base 65 1 aa xs.length lc (iL xs)) (hbase:base<=w.heap.size) (hdb:d<=base) (hxl:xs.length<=1000) (hoo:∀ q',aa=some q'->¬ R q'.block/\q'.block≠q)
  (hk:∀ w' R' aa' lc',Mod (fun z=>R z\/z=q\/∃ q',aa=some q'/\z=q'.block) w w'->Sb R R' w->Fo R' w' f a v d (frF F k near data)->MuF (frF F k near data)->(frF F k near data).A.V.last=(blockA F.A near).1.V.last+1 ->
   AtU w' q 0 (wV f k (setP i n (blockA F.A near).2.1) aa' (xs++[(blockA F.A near).2.2.1,((blockA F.A near).1.V.last:Int)+1]).length lc' (blockA F.A near).2.1) ->
   Ow Tryz.prog w' base 65 1 aa' (xs++[(blockA F.A near).2.2.1,((blockA F.A near).1.V.last:Int)+1]).length lc' (iL (xs++[(blockA F.A near).2.2.1,((blockA F.A near).1.V.last:Int)+1]))->(∀ q',aa'=some q'->¬ R' q'.block/\q'.block≠q) ->
   K (.tuple #[.int .i64 (blockA F.A near).2.1,.bool true,.int .i64 0]) w') :
  Cal Tryz.prog F_file_writer_block #[.pointer (some ⟨q,0,none⟩),.int .i64 n,.slice a1 256 c1] w K:=by
 apply C_file_writer_block
 unfold D_file_writer_block
 have hlt:=h.lt
 have hql:=hat.lt
 refine Of_c (by omega) (by omega) fun w1 m1=>⟨_,_,rfl,?_⟩
 rw [ofS6 hn]
 obtain ⟨w2,b1,b2,b3,b4⟩:=new_u (P:=Tryz.prog) (w:=w1) (T:=116) zero_way
 obtain ⟨w3,c1',c2,c3,c4⟩:=b2.put (T:=116) (vs:=Wy.l ⟨0,n,0,0⟩) agg_way rfl rfl (one_Wy _)
 have M3:Mod No w w3:=m1.no (b3.own c3 (Nat.le_refl _))
 have M3d:=M3.drew
 have z3:=M3d.size
 have z1:=m1.size
 have z2:=b3.size
 have h3:=h.nos M3d
 have q3:=hat.keep M3d id
 have idx:∀ o,o+n<16->Al (Instr.indexAt 49 (.pointer (some ⟨q,o,none⟩)) (.int .i64 n)) (.pointer (some ⟨q,o+n,none⟩)):=fun o _ w=>by
  have:=index_arr (P:=Tryz.prog) (a:=⟨q,o,none⟩) (kk:=.i64) (i:=(n:Int)) arr6i (by omega) (by omega) w
  rw [add_none,show o+(n:Int).toNat*1=o+n by omega] at this
  exact this
 have ad:Addr.add (Addr.add ⟨q,0,none⟩ 2) 4=⟨q,6,none⟩:=by rw [add_none,add_none]
 have ad0:∀ o,(⟨q,o,none⟩:Addr)=Addr.add ⟨q,0,none⟩ o:=fun o=>by rw [add_none,Nat.zero_add]
 refine ⟨_,w2,b1,w3,c1',ff rfl ⟨_,c2.at.fld (v:=.int .i64 0) sc_int rfl,tt rfl ⟨_,c2.drew.at.fld (v:=.int .i64 n) sc_int rfl,_,rfl,_,by rw [ad]; exact idx 6 (by omega),0,?_,ff rfl ?_⟩⟩⟩
 ·rw [ad0]
  exact q3.at.fld sc_int (by rw [wV_p hw (by omega),hz])
 have c2d:=c2.drew
 have hwl:=c2d.lt
 refine fFresh_c hnear h3 hM q3 hq hdq hw hok hlast hml hd (hrd.nos M3d) (fun q' e=>by obtain ⟨d1,d2,d3⟩:=hdo q' e; exact ⟨d1,d2,by omega⟩) fun w4 R4 g m4 s4 h4 hM4 hL q4 hg hg2 hg3 hgat=>⟨_,_,_,_,_,rfl,Share.dup (tt rfl ?_)⟩
 have z4:=m4.size
 have q4d:=q4.drew
 have M4d:Mod No w4 (Go.Den.drew w4):=(Mod.refl _ _).drew
 have nw1:¬ (R w1.heap.size\/w1.heap.size=q):=fun e=>by
  rcases e with e | e
  ·have:=hlt _ e; omega
  ·omega
 obtain ⟨w5,d1,d2,d3,d4⟩:=q4d.putF (T:=3) (j:=6+n) (v:=.int .i64 (blockA F.A near).2.1) sc_int (by rw [wV_len hw]; omega) rfl
 rw [wV_setP hw (by omega)] at d2
 have hw':=setP_wf hw n (blockA F.A near).2.1
 have z5:w5.heap.size=w4.heap.size:=d4
 have nR4:∀ z,¬ R z->z<w.heap.size->¬ R4 z:=fun z h1 h2 e=>by
  rcases s4 z e with e | e
  ·exact h1 e
  ·omega
 have aal:∀ q',aa=some q'->q'.block<w.heap.size:=fun q' e=>(ho.base e).2
 have o5:Ow Tryz.prog w5 base 65 1 aa xs.length lc (iL xs):=(((ho.nos M3d).keep m4 fun q' e=>fun r=>by
  obtain ⟨x1,x2⟩:=hoo q' e
  exact r.elim x1 x2).nos M4d).keep d3 fun q' e=>(hoo q' e).2
 have g5:AtU w5 g 0 (iL [(blockA F.A near).2.2.1,((blockA F.A near).1.V.last:Int)+1]):=hgat.drew.keep d3 hg3
 obtain ⟨qa,c',w6,r1,r2,r3,r4⟩:=o5.app (ty:=65) (m:=2) (c2:=2) (ad:=⟨g,0,none⟩) (ys:=iL [(blockA F.A near).2.2.1,((blockA F.A near).1.V.last:Int)+1]) elemZ_64 (by omega) (.inr ⟨_,_,rfl,g5.at⟩) rfl (by omega) (one_iL _) (by omega) (by omega) (by omega)
 have e1:xs.length+2=(xs++[(blockA F.A near).2.2.1,((blockA F.A near).1.V.last:Int)+1]).length:=by simp
 have e2:iL xs++iL [(blockA F.A near).2.2.1,((blockA F.A near).1.V.last:Int)+1]=iL (xs++[(blockA F.A near).2.2.1,((blockA F.A near).1.V.last:Int)+1]):=by simp [iL]
 rw [e1,e2] at r2
 rw [e1] at r1
 have q6:AtU w6 q 0 _:=d2.keep r3 (fun ⟨q',e,e'⟩=>(hoo q' e).2 e'.symm)
 obtain ⟨w7,u1,u2,u3,u4⟩:=q6.putF (T:=65) (j:=14) (v:=.slice (some qa) (xs++[(blockA F.A near).2.2.1,((blockA F.A near).1.V.last:Int)+1]).length c') sc_64s (by rw [wV_len hw']; omega) rfl
 rw [wV_setA hw'] at u2
 have qaq:qa.block≠q/\¬ R4 qa.block:=by
  rcases r4 with ⟨q',e,e'⟩ | e'
  ·rw [e']; exact ⟨(hoo q' e).2,nR4 _ (hoo q' e).1 (aal q' e)⟩
  ·exact ⟨by omega,fun r=>by have:=h4.lt _ r; omega⟩
 refine ⟨_,(c2d.keep m4 nw1).drew.at.fld (v:=.int .i64 n) sc_int rfl,_,rfl,_,by rw [ad]; exact idx 6 (by omega),w5,by rw [ad0]; exact d1,_,rfl,_,_,_,d2.at.fld sc_64s (wV_end hw').1,_,_,_,w6,r1,_,rfl,w7,u1,?_⟩
 refine hk w7 R4 (some qa) c' ?_ (fun z hz=>(s4 z hz).imp id fun e=>by omega) ?_ hM4 hL u2 (r2.keep u3 fun q' e=>by cases e; exact qaq.1) fun q' e=>by cases e; exact ⟨qaq.2,qaq.1⟩
 ·have T4:Mod (fun z=>R z\/z=q\/∃ q',aa=some q'/\z=q'.block) w (Go.Den.drew w4):=((M3d.mono fun _ _ e=>e.elim).trans m4 fun x _ e=>e.imp id .inl).no M4d
  exact ((T4.trans d3 fun x _ e=>.inr (.inl e)).trans r3 fun x _ e=>.inr (.inr e)).trans u3 fun x _ e=>.inr (.inl e)
 ·have nq4:¬ R4 q:=nR4 q hq hql
  have hF5:Fo R4 w5 f a v d (frF F k near data):=(h4.nos M4d).own d3 nq4 hdq
  have hF6:=hF5.keep r3 (fun z hz ⟨q',e,e'⟩=>by rw [e'] at hz; exact nR4 _ (hoo q' e).1 (aal q' e) hz) fun z ⟨q',e,e'⟩=>by have:=(ho.base e).1; omega
  exact hF6.own u3 nq4 hdq
end
end Go.Proofs.YtandmpcjjaabmaaGreat
end
section
open Go Go.Den Go.Proofs
namespace Go.Proofs.YtandmpcjjaabmaaGreat
def pcB (xs:Bk) (j:Nat):Bk:=(xs.drop (256*j)).take 256++List.replicate (256-((xs.drop (256*j)).take 256).length) 0
theorem pcB_len (xs:Bk) (j:Nat):(pcB xs j).length=256:=by
 unfold pcB
 have:((xs.drop (256*j)).take 256).length<=256:=by simp; omega
 rw [List.length_append,List.length_replicate]; omega
structure Wst where
 F:Fy
 i:Nd
 af:List Int
 near:Int
def stepW (s:Wst) (k:Int) (data:Bk) (j:Nat):Wst:=⟨frF s.F k s.near data,setP s.i j (blockA s.F.A s.near).2.1,s.af++[(blockA s.F.A s.near).2.2.1,((blockA s.F.A s.near).1.V.last:Int)+1],(blockA s.F.A s.near).2.1⟩
def wrS (F:Fy) (k:Int) (i:Nd) (xs:Bk):Nat->Wst
 | 0=>⟨F,i,[],0⟩
 | j+1=>stepW (wrS F k i xs j) k (pcB xs j) j
def endI (i:Nd) (l:Int):Nd:=⟨i.kind,i.links,if i.kind=2 then (l+255) / 256*256 else l,i.id,i.p⟩
def wrF (F:Fy) (k:Int) (i:Nd) (xs:Bk):Fy:=let s:=wrS F k i xs ((xs.length+255) / 256); putF s.F k (endI s.i xs.length) s.af
theorem setP_p {i:Nd} {j m:Nat} {b:Int} (h:m≠j):(setP i j b).p.getD m 0=i.p.getD m 0:=by
 show (i.p.set j b).getD m 0=_
 rw [List.getD_eq_getElem?_getD,List.getElem?_set_ne (fun e=>h e.symm),<- List.getD_eq_getElem?_getD]
theorem wrS_in (F:Fy) (k:Int) {i:Nd} (hw:nWf i) (xs:Bk):∀ j,nWf (wrS F k i xs j).i/\(wrS F k i xs j).F.A.s=F.A.s/\(wrS F k i xs j).i.kind=i.kind/\(wrS F k i xs j).i.links=i.links/\(wrS F k i xs j).i.size=i.size/\(wrS F k i xs j).i.id=i.id/\(wrS F k i xs j).af.length=2*j/\((wrS F k i xs j).F.mi k).length=(F.mi k).length+j/\(wrS F k i xs j).F.A.V.last<=F.A.V.last+2*j/\∀ m,j<=m->(wrS F k i xs j).i.p.getD m 0=i.p.getD m 0
 | 0=>⟨hw,rfl,rfl,rfl,rfl,rfl,rfl,rfl,Nat.le_refl _,fun _ _=>rfl⟩
 | j+1=>by
  obtain ⟨h1,h2,h3,h4,h5,h6,h7,h8,h9,h10⟩:=wrS_in F k hw xs j
  obtain ⟨b1,_,b2,_⟩:=blkA_up (wrS F k i xs j).F.A (wrS F k i xs j).near
  refine ⟨setP_wf h1 _ _,b1.trans h2,h3,h4,h5,h6,?_,?_,?_,fun m hm=>?_⟩
  ·show ((wrS F k i xs j).af++_).length=_
   rw [List.length_append,h7]; simp; omega
  ·show (if k=k then (wrS F k i xs j).F.mi k++_ else _).length=_
   rw [if_pos rfl,List.length_append,h8]; simp; omega
  ·have:=(pat_last (blockA (wrS F k i xs j).F.A (wrS F k i xs j).near).1.V (blockA (wrS F k i xs j).F.A (wrS F k i xs j).near).2.1 0 (pcB xs j) []).2
   refine Nat.le_trans this ?_
   omega
  ·show (setP _ _ _).p.getD m 0=_
   rw [setP_p (by omega)]; exact h10 m (by omega)
theorem pc_splice {ys:Bk} {n:Nat} (h:ys.length=n) (hn:n<=256):splice (List.replicate (256*1) (Value.int .u8 0)) 0 ((u8L ys).take (Nat.min n 256*1))=u8L (ys++List.replicate (256-n) 0):=by
 have e:(List.replicate (256*1) (Value.int .u8 0))=u8L (List.replicate 256 0):=by unfold u8L; rw [List.map_replicate]; rfl
 have e2:Nat.min n 256=n:=Nat.min_eq_left hn
 rw [e,e2,List.take_of_length_le (by rw [length_u8L]; omega),splice_u8L,List.drop_replicate,List.take_zero,List.nil_append,Nat.zero_add,h]
theorem blkA_id {A:Az} {b:Int} (h:(blockA A b).2.2.2=0):(blockA A b).2.2.1=(A.V.last:Int)+1:=by
 unfold blockA at h |-
 split
 ·rfl
 ·rename_i e
  rw [e] at h; cases h
def setS (i:Nd) (s:Int):Nd:=⟨i.kind,i.links,s,i.id,i.p⟩
theorem wV_setS {f:Nat} {k:Int} {i:Nd} {a:Option Addr} {l c:Nat} {near:Int} (s:Int):(wV f k i a l c near).set 4 (.int .i64 s)=wV f k (setS i s) a l c near:=rfl
section
variable {w w':World} {R R' Ra:Nat->Prop} {f a v d fl fm:Nat} {F:Fy} {K:Value->World->Prop}
theorem Fo.hd (h:Fo R w f a v d F):HdsAt F.A.V F.A.s.geo F.A.hs/\WFS F.A.V/\WF F.A.V.C.D:=by
 obtain ⟨Ra,hA,_⟩:=h.alc
 exact ⟨hA.hd,hA.wf⟩
theorem fNear0_c {i:Nd} {p0:Option Addr} (hk:∀ w',Mod No w w'->K (.int .i64 0) w'):Cal Tryz.prog F_file_Files_near #[.pointer p0,.agg ⟨nV i⟩,.int .i64 (IntKind.i64.wrap (Int.tdiv 0 256))] w K:=by
 apply C_file_Files_near
 unfold D_file_Files_near
 obtain ⟨w1,b1,b2,b3,b4⟩:=box_u (P:=Tryz.prog) (w:=w) (T:=51) (cs:=nV i)
 exact ⟨_,w1,b1,tt rfl (hk w1 b3)⟩
theorem build_wr8 (f:Nat) (k a b c e x0 x1 x2 x3 x4 x5 x6 x7 n:Int):Al (Instr.build 127 #[(0,.pointer (some ⟨f,0,none⟩)),(1,.int .i64 k),(2,.agg ⟨nV ⟨a,b,c,e,[x0,x1,x2,x3,x4,x5,x6,x7]⟩⟩),(4,.int .i64 n)]) (.agg ⟨wV f k ⟨a,b,c,e,[x0,x1,x2,x3,x4,x5,x6,x7]⟩ none 0 0 n⟩):=fun w=>by kernel_rfl
theorem build_wr {i:Nd} (hw:nWf i) {f:Nat} {k n:Int}:Al (Instr.build 127 #[(0,.pointer (some ⟨f,0,none⟩)),(1,.int .i64 k),(2,.agg ⟨nV i⟩),(4,.int .i64 n)]) (.agg ⟨wV f k i none 0 0 n⟩):=by
 have hl:i.p.length=8:=hw
 cases i with
 | mk a b c e p =>
  match p,hl with
  | [x0,x1,x2,x3,x4,x5,x6,x7],_=>exact build_wr8 f k a b c e x0 x1 x2 x3 x4 x5 x6 x7 n
set_option maxHeartbeats 1000000 in
theorem fWrite_c {k:Int} {i:Nd} {xs:Bk} {a3:Option Addr} {l3 c3:Nat} (h63:k<=9223372036854775807) (h:Fo R w f a v d F) (hM:MuF F) (hi:slotV F.A.V F.A.s.geo k=(i,0)) (hkd:i.kind=1\/i.kind=2) (hl:xs.length=l3) (l0:0<l3) (l1:l3<=1536) (hc3:l3<=c3)
  (hrd:Row w a3 (u8L xs)) (hdo:∀ q',a3=some q'->¬ R q'.block/\q'.block<w.heap.size) (hz:∀ m,m<(l3+255) / 256->i.p.getD m 0=0) (hs0:i.size<l3) (hs1:0<=i.size)
  (hfree:needS 0 l3<=(freeA F.A F.A.s.geo.gs.toNat).1) (hok:∀ j,j<(l3+255) / 256->okB (wrS F k i xs j).F (wrS F k i xs j).near/\(wrS F k i xs j).near<=9223372036854775807) (ho:nOk (endI (wrS F k i xs ((l3+255) / 256)).i l3)=true)
  (hlast:F.A.V.last+20<=1000000) (hml:(F.mi k).length+20<=1000000) (hp:(gPlace F.A.s.geo k).2.2=0)
  (hk:∀ w' R',Mod R w w'->Sb R R' w->Fo R' w' f a v d (wrF F k i xs)->MuF (wrS F k i xs ((l3+255) / 256)).F->(∀ x∈(wrS F k i xs ((l3+255) / 256)).af,1<=x/\x<=((wrS F k i xs ((l3+255) / 256)).F.A.V.last:Int))->(HdsAt (wrS F k i xs ((l3+255) / 256)).F.A.V (wrS F k i xs ((l3+255) / 256)).F.A.s.geo (wrS F k i xs ((l3+255) / 256)).F.A.hs/\WFS (wrS F k i xs ((l3+255) / 256)).F.A.V/\WF (wrS F k i xs ((l3+255) / 256)).F.A.V.C.D)->K (.int .i64 0) w') :
  Cal Tryz.prog F_file_Files_Write #[.pointer (some ⟨f,0,none⟩),.int .i64 k,.int .i64 0,.slice a3 l3 c3] w K:=by
 apply C_file_Files_Write
 unfold D_file_Files_Write
 have hlt:=h.lt
 have hd:=h.dlt
 have hwf:nWf i:=by have:=slotV_wf F.A.V F.A.s.geo k; rw [hi] at this; exact this
 have ht:thF F k=0:=by unfold thF; rw [hi,if_neg (fun e=>e rfl),if_neg (by simp only; omega)]
 refine fThing_c h63 h fun w1 R1 m1 s1 h1=>⟨_,_,rfl,?_⟩
 rw [hi]
 obtain ⟨w2,b1,b2,b3,b4⟩:=new_u (P:=Tryz.prog) (w:=w1) (T:=51) zero_ino
 obtain ⟨w3,c1,c2,c3',c4⟩:=b2.put (T:=51) (vs:=nV i) agg_ino rfl (nV_len hwf) (one_nV _)
 have M3:Mod No w1 w3:=b3.own c3' (Nat.le_refl _)
 have z1:=m1.size
 refine ⟨_,w2,b1,w3,c1,ff (by rw [ht]; rfl) (Share.dup (ff rfl ⟨_,rfl,ff (decide_eq_false (by omega)) (Share.dup (ff rfl ⟨_,rfl,ff (decide_eq_false (by rw [wrap64 (by omega) (by omega)]; omega)) ?_⟩))⟩))⟩
 refine Share.dup ⟨i.kind,c2.at.fld sc_int rfl,ff (by rw [beqI]; exact decide_eq_false (by omega)) ⟨_,rfl,ff rfl (ff (by rw [beqI]; exact decide_eq_false (by omega)) ?_)⟩⟩
 have h3:=h1.nos M3
 obtain ⟨Ra,hA,hRa,hc⟩:=h3.alc
 refine ⟨_,rfl,_,h3.pa,aFree_c hA fun w4 R4 m4 s4 h4=>⟨_,_,rfl,Need_c ⟨_,rfl,ff (decide_eq_false (by show ¬ (freeA F.A _).1<_; omega)) ?_⟩⟩⟩
 obtain ⟨k1,k2,k3⟩:=hc w4 R4 _ m4 s4 h4
 have n9:¬ Ra w1.heap.size/\¬ (R1 w1.heap.size\/R4 w1.heap.size):=by
  have n1:¬ R1 w1.heap.size:=fun e=>by have:=h1.lt _ e; omega
  have:=b3.size
  have:=c3'.size
  refine ⟨fun e=>by have:=hRa _ e; exact n1 this,fun e=>?_⟩
  rcases k2 _ e with e | e
  ·exact n1 e
  ·omega
 have q4:AtU w4 w1.heap.size 0 (nV i):=c2.keep k1 (fun e=>n9.2 (.inl e))
 have M4d:Mod No w4 (Go.Den.drew w4):=(Mod.refl _ _).drew
 have q4d:=q4.drew
 refine ⟨_,q4d.at.all agg_ino (nV_len hwf),_,q4d.at.all agg_ino (nV_len hwf),fNear0_c fun w5 m5=>⟨_,rfl,?_⟩⟩
 obtain ⟨w6,d1,d2,d3,d4⟩:=box_u (P:=Tryz.prog) (w:=w5) (T:=127) (cs:=wV f k i none 0 0 0)
 refine ⟨(q4d.keep m5 id).at.all agg_ino (nV_len hwf),_,build_wr hwf,_,w6,d1,?_⟩
 have M6:Mod No w4 w6:=(M4d.no m5).no d3
 have h6:=k3.nos M6
 have q6:AtU w6 w1.heap.size 0 (nV i):=(q4d.keep m5 id).keep d3 id
 have z4:=k1.size
 have z6:=M6.size
 have z3:=M3.size
 have T6:Mod R w w6:=((m1.no M3).trans k1 fun x hx e=>(s1 x e).resolve_right (by omega)).no M6
 have S6:Sb R (fun z=>R1 z\/R4 z) w:=fun z hz=>by
  rcases k2 z hz with e | e
  ·exact s1 z e
  ·exact .inr (by omega)
 have wl:w5.heap.size+1=w6.heap.size:=d4.symm
 have z5:=(M4d.no m5).size
 have hd3:∀ q',a3=some q'->q'.block<w.heap.size/\∀ R',Sb R R' w->¬ R' q'.block:=fun q' e=>⟨(hdo q' e).2,fun R' s r=>(s _ r).elim (hdo q' e).1 fun x=>by have:=(hdo q' e).2; omega⟩
 have w9:w1.heap.size<w5.heap.size:=by have:=(c2.keep k1 (fun e=>n9.2 (.inl e))).lt; omega
 refine ⟨fun x wj=>∃ (j:Nat) (Rj:Nat->Prop) (aa:Option Addr) (lc:Nat) (u1 u2:Value),j<=(l3+255) / 256/\x=[.int .i64 ((min (256*j) l3:Nat):Int),u1,u2]/\Mod R w wj/\Sb R Rj w/\Fo Rj wj f a v d (wrS F k i xs j).F/\MuF (wrS F k i xs j).F/\(∀ x∈(wrS F k i xs j).af,1<=x/\x<=((wrS F k i xs j).F.A.V.last:Int)) /\
   AtU wj w5.heap.size 0 (wV f k (wrS F k i xs j).i aa (wrS F k i xs j).af.length lc (wrS F k i xs j).near)/\Ow Tryz.prog wj w6.heap.size 65 1 aa (wrS F k i xs j).af.length lc (iL (wrS F k i xs j).af)/\(∀ q',aa=some q'->¬ Rj q'.block)/\(∀ z,Rj z->z≠w5.heap.size/\z≠w1.heap.size)/\AtU wj w1.heap.size 0 (nV i)/\w6.heap.size<=wj.heap.size/\Row wj a3 (u8L xs),
  fun x _=>(l3-nI x 0).toNat,⟨0,_,none,0,_,_,by omega,rfl,T6,S6,h6,hM,(fun _ e=>by cases e),d2,Ow.nil elemZ_64,(fun _ e=>by cases e),(fun z hz=>⟨fun e=>?_,fun e=>?_⟩),q6,Nat.le_refl _,?_⟩,?_⟩
 ·have:=k3.lt z hz
  omega
 ·exact n9.2 (e ▸ hz)
 ·exact hrd.keep T6 fun q' e=>(hdo q' e).1
 rintro x wj ⟨j,Rj,aa,lc,u1,u2,hj,rfl,Tj,Sj,hF,hMj,haf,qj,oj,nja,njq,q9,zj,hrj⟩
 obtain ⟨i1,i2,i3,i4,i5,i6,i7,i8,i9,i10⟩:=wrS_in F k hwf xs j
 have ew:IntKind.i64.wrap (0+(l3:Int))=l3:=by rw [wrap64 (by omega) (by omega)]; omega
 refine ⟨_,rfl,?_⟩
 rw [ew]
 refine cond_of (fun hb=>?_) (fun hb=>?_)
 ·have hb:=of_decide_eq_true hb
  have hj2:j<(l3+255) / 256:=by omega
  have hm:(min (256*j) l3:Nat)=256*j:=by omega
  have hjl:256*j<l3:=by omega
  rw [hm]
  have e1:IntKind.i64.wrap (((256*j:Nat):Int)-0)=((256*j:Nat):Int):=by rw [wrap64 (by omega) (by omega)]; omega
  have e2:Int.tmod ((256*j:Nat):Int) 256=0:=by rw [Int.tmod_eq_emod_of_nonneg (by omega)]; omega
  have e3:IntKind.i64.wrap (256-0)=256:=rfl
  have e4:IntKind.i64.wrap (((256*j:Nat):Int)+256)=((256*j+256:Nat):Int):=by rw [wrap64 (by omega) (by omega)]; omega
  have e5:IntKind.i64.wrap ((l3:Int)-0)=l3:=by rw [wrap64 (by omega) (by omega)]; omega
  have e6:IntKind.i64.wrap (Int.tdiv ((256*j:Nat):Int) 256)=j:=by rw [Int.tdiv_eq_ediv_of_nonneg (by omega),wrap64 (by omega) (by omega)]; omega
  have e7:(if ((256*j+256:Nat):Int)<(l3:Int) then ((256*j+256:Nat):Int) else (l3:Int))=((min (256*j+256) l3:Nat):Int):=by split <;> omega
  rw [e1,e2,e3,e4,e5,e6,e7]
  refine ⟨_,_,_,slice_lh elemN_bytes (by omega) (by omega) (by omega),?_⟩
  rw [Int.toNat_natCast,Int.toNat_natCast]
  obtain ⟨w12,g1,g2,g3,g4⟩:=makeSlice_run (P:=Tryz.prog) (w:=wj) (n:=256) elemZ_bytes (by omega) (by omega) (by omega)
  refine ⟨_,_,_,w12,g1,_,_,_,slice_l elemN_bytes (by omega) (by omega),?_⟩
  have c0:cutA (some (⟨wj.heap.size,0,none⟩:Addr)) 256 (0:Int).toNat 1=some ⟨wj.heap.size,0,none⟩:=by unfold cutA; rw [if_neg (by decide)]; rfl
  rw [c0]
  have hrow:Row w12 (cutA a3 c3 (256*j) 1) (u8L ((xs.drop (256*j)).take (min (256*j+256) l3-256*j))):=(hrj.nos g3).cut (by omega) (by omega)
  have hys:(xs.drop (256*j)).take (min (256*j+256) l3-256*j)=(xs.drop (256*j)).take 256:=List.take_eq_take_iff.2 (by rw [List.length_drop]; omega)
  have hyl:((xs.drop (256*j)).take 256).length=min (256*j+256) l3-256*j:=by rw [List.length_take,List.length_drop]; omega
  rw [hys] at hrow
  obtain ⟨w13,p1,p2,p3,p4⟩:=copy_in (P:=Tryz.prog) (T:=55) (T2:=55) (ty:=3) (i:=0) (n:=256) (c:=256) (n2:=min (256*j+256) l3-256*j) (c2:=c3-256*j) (a2:=cutA a3 c3 (256*j) 1) (src:=u8L ((xs.drop (256*j)).take 256)) elemN_bytes g2 (by rw [List.length_replicate]; omega) hrow (by rw [length_u8L,hyl]; omega) (one_u8L _)
  rw [pc_splice hyl (by omega)] at p2
  have p2':AtU w13 wj.heap.size 0 (u8L (pcB xs j)):=by unfold pcB; rw [hyl]; exact p2
  refine ⟨_,w13,p1,?_⟩
  have M13:Mod No wj w13:=g3.own p3 (Nat.le_refl _)
  have z13:=M13.size
  obtain ⟨okb,nearb⟩:=hok j hj2
  have q5:w5.heap.size<w6.heap.size:=by omega
  have naa:∀ q',aa=some q'->w6.heap.size<=q'.block:=fun q' e=>(oj.base e).1
  refine fBlock_c (base:=w6.heap.size) (n:=j) (data:=pcB xs j) nearb (hF.nos M13) hMj (qj.keep M13 id) (fun e=>(njq _ e).1 rfl) (by omega) i1 (by omega) (by rw [i10 j (Nat.le_refl _)]; exact hz j hj2) okb (by omega) (by omega) (pcB_len _ _) (.inr ⟨_,_,rfl,p2'.at⟩) (fun q' e=>?_) (oj.nos M13) (by omega) (by omega) (by omega) (fun q' e=>⟨nja q' e,by have:=naa q' e; omega⟩) fun w14 R14 aa' lc' m14 s14 h14 hM14 hL14 q14 o14 n14=>⟨_,_,_,rfl,Share.dup (tt rfl ⟨_,rfl,Share.dup (ff rfl ⟨_,rfl,ff rfl ⟨⟨j+1,R14,aa',lc',.int .i64 0,.bool (!true),by omega,?_,?_,?_,h14,hM14,?_,q14,o14,fun q' e=>(n14 q' e).1,?_,?_,?_,?_⟩,?_⟩⟩)⟩)⟩
  ·cases e
   exact ⟨fun e=>by have:=hF.lt _ e; simp at this,by simp only; omega,p2'.lt⟩
  ·have:IntKind.i64.wrap (((256*j:Nat):Int)+((min (256*j+256) l3-256*j:Nat):Int))=((min (256*(j+1)) l3:Nat):Int):=by rw [wrap64 (by omega) (by omega)]; omega
   rw [this]
  ·refine (Tj.no M13).trans m14 fun x hx e=>?_
   rcases e with e | e | ⟨q',e,e'⟩
   ·exact (Sj x e).resolve_right (by omega)
   ·omega
   ·have:=naa q' e; omega
  ·intro z hz
   rcases s14 z hz with e | e
   ·exact Sj z e
   ·exact .inr (by have:=Tj.size; omega)
  ·intro x hx
   have hx:x∈(wrS F k i xs j).af++[(blockA (wrS F k i xs j).F.A (wrS F k i xs j).near).2.2.1,((blockA (wrS F k i xs j).F.A (wrS F k i xs j).near).1.V.last:Int)+1]:=hx
   show 1<=x/\x<=((frF (wrS F k i xs j).F k (wrS F k i xs j).near (pcB xs j)).A.V.last:Int)
   rw [hL14]
   obtain ⟨_,u1,u2,_⟩:=blkA_up (wrS F k i xs j).F.A (wrS F k i xs j).near
   rw [blkA_id okb.1] at hx
   rcases List.mem_append.1 hx with hx | hx
   ·have:=haf x hx; omega
   ·rcases List.mem_cons.1 hx with e | hx
    ·omega
    ·have:=List.mem_singleton.1 hx
     omega
  ·intro z hz
   rcases s14 z hz with e | e
   ·exact njq z e
   ·omega
  ·refine (q9.keep M13 id).keep m14 fun e=>?_
   rcases e with e | e | ⟨q',e,e'⟩
   ·exact (njq _ e).2 rfl
   ·omega
   ·have:=naa q' e; omega
  ·have:=m14.size; omega
  ·refine (hrj.nos M13).keep m14 fun q' e r=>?_
   have:=(hdo q' e).2
   rcases r with r | r | ⟨q2,e2,r⟩
   ·exact (hd3 q' e).2 Rj Sj r
   ·omega
   ·have:=naa q2 e2; omega
  ·have n1:∀ n u1 u2,nI [.int .i64 n,u1,u2] 0=n:=fun _ _ _=>rfl
   show ((l3:Int)-nI _ 0).toNat<((l3:Int)-nI _ 0).toNat
   rw [n1,n1,wrap64 (by omega) (by omega)]
   omega
 ·have hb:=of_decide_eq_false hb
  have hj2:j=(l3+255) / 256:=by omega
  have hno:¬ Rj w5.heap.size:=fun e=>(njq _ e).1 rfl
  have wl:w5.heap.size<wj.heap.size:=qj.lt
  refine ⟨i.size,q9.at.fld (j:=2) (v:=.int .i64 i.size) sc_i64 rfl,_,rfl,?_⟩
  rw [if_pos (show (l3:Int) > i.size by omega)]
  have ad4:Addr.add (Addr.add ⟨w5.heap.size,0,none⟩ 2) 2=Addr.add ⟨w5.heap.size,0,none⟩ 4:=by rw [add_none,add_none,add_none]
  rw [ad4]
  obtain ⟨wa,a1,a2,a3',a4⟩:=qj.putF (T:=2) (j:=4) (v:=.int .i64 (l3:Int)) sc_i64 (by rw [wV_len i1]; omega) rfl
  rw [wV_setS] at a2
  have q9a:AtU wa w1.heap.size 0 (nV i):=q9.keep a3' (fun e=>by omega)
  refine ⟨wa,a1,i.kind,q9a.at.fld (j:=0) (v:=.int .i64 i.kind) sc_int rfl,?_⟩
  have hFa:=hF.own a3' hno (by omega)
  have fin:∀ wz,Mod (fun z=>z=w5.heap.size) wj wz->AtU wz w5.heap.size 0 (wV f k (endI (wrS F k i xs j).i l3) aa (wrS F k i xs j).af.length lc (wrS F k i xs j).near) ->
    ∃ q194:Addr,(.pointer (some ⟨w5.heap.size,0,none⟩):Value)=.pointer (some q194)/\∃ g196:Array Value,Ru (Instr.loadAt 51 (.pointer (some (Addr.add q194 2)))) (Go.Den.drew wz) (.agg g196) (Go.Den.drew wz)/\∃ g197:Array Value,Ru (Instr.loadAt 51 (.pointer (some ⟨w1.heap.size,0,none⟩))) (Go.Den.drew wz) (.agg g197) (Go.Den.drew wz)/\∃ b198:Bool,Al (eqS .eql 51 (.tmp 196) (.tmp 197) (.agg g196) (.agg g197)) (.bool b198)/\(bif b198 then
     K (.int .i64 0) (Go.Den.drew wz)
     else
     ∃ q203:Addr,(.pointer (some ⟨w5.heap.size,0,none⟩):Value)=.pointer (some q203)/\∃ g205:Array Value,Ru (Instr.loadAt 51 (.pointer (some (Addr.add q203 2)))) (Go.Den.drew (Go.Den.drew wz)) (.agg g205) (Go.Den.drew (Go.Den.drew wz))/\∃ q207:Addr,(.pointer (some ⟨w5.heap.size,0,none⟩):Value)=.pointer (some q207)/\∃ (a209:Option Addr) (l209 c209:Nat),Ru (Instr.loadAt 65 (.pointer (some (Addr.add q207 14)))) (Go.Den.drew (Go.Den.drew wz)) (.slice a209 l209 c209) (Go.Den.drew (Go.Den.drew wz))/\Cal Tryz.prog F_file_Files_Put #[.pointer (some ⟨f,0,none⟩),.int .i64 k,.agg g205,.slice a209 l209 c209] (Go.Den.drew (Go.Den.drew wz)) fun r210 w25=>∃ n210a:Int,∃ n210b:Int,r210=.tuple #[.int .i64 n210a,.int .i64 n210b]/\K (.int .i64 n210b) w25):=by
   intro wz mz qz
   have hwe:nWf (endI (wrS F k i xs j).i l3):=i1
   have M1:Mod No wz (Go.Den.drew wz):=(Mod.refl _ _).drew
   have M2:Mod No wz (Go.Den.drew (Go.Den.drew wz)):=M1.drew
   have q1:=qz.keep M1 id
   have q2:=qz.keep M2 id
   have q9z:AtU (Go.Den.drew wz) w1.heap.size 0 (nV i):=(q9.keep mz (fun e=>by omega)).keep M1 id
   have hne:¬ endI (wrS F k i xs j).i l3=i:=fun e=>by
    have e:=congrArg Nd.size e
    have:(endI (wrS F k i xs j).i l3).size=if (wrS F k i xs j).i.kind=2 then ((l3:Int)+255) / 256*256 else l3:=rfl
    rw [this] at e
    split at e <;> omega
   have hFz:=(hF.own mz hno (by omega)).nos M2
   have oz:Ow Tryz.prog (Go.Den.drew (Go.Den.drew wz)) w6.heap.size 65 1 aa (wrS F k i xs j).af.length lc (iL (wrS F k i xs j).af):=(oj.keep mz fun q' e r=>by have:=(oj.base e).1; omega).nos M2
   have eC:∀ o:Nat,o<16->True:=fun _ _=>trivial
   refine ⟨_,rfl,_,q1.at.fldA (n:=12) agg_ino (by rw [wV_len hwe]; omega) (wV_ino hwe),_,q9z.at.all agg_ino (nV_len hwf),_,ieq _ _ hwe hwf,ff (decide_eq_false hne) ⟨_,rfl,_,q2.at.fldA (n:=12) agg_ino (by rw [wV_len hwe]; omega) (wV_ino hwe),_,rfl,_,_,_,q2.at.fld sc_64s (wV_end hwe).1,?_⟩⟩
   refine fPut_c (after:=(wrS F k i xs j).af) h63 hFz hMj hwe (by rw [hj2]; exact ho) (by rw [i2]; exact hp) (by omega) (by omega) rfl (fun e=>by rw [e] at oz; exact oz.zero) (by omega) haf oz.rowU.row fun w25 R25 m25 s25 h25=>⟨_,_,rfl,hk w25 R25 ?_ ?_ ?_ (by rw [<- hj2]; exact hMj) (by rw [<- hj2]; exact haf) (by rw [<- hj2]; exact hFz.hd)⟩
   ·exact (((Tj.trans mz fun x hx e=>by omega).no M2).trans m25 fun x hx e=>(Sj x e).resolve_right (by omega))
   ·intro z hz
    rcases s25 z hz with e | e
    ·exact Sj z e
    ·have:=mz.size
     have:=M2.size
     have:=Tj.size
     exact .inr (by omega)
   ·unfold wrF
    rw [hl,<- hj2]; exact h25
  rw [beqI]
  refine Share.dup (cond_of (fun hb2=>?_) (fun hb2=>?_))
  ·have hb2:=of_decide_eq_true hb2
   refine ⟨_,rfl,(l3:Int),by rw [ad4]; exact a2.at.fld (j:=4) sc_i64 rfl,_,rfl,?_⟩
   rw [ad4]
   have er:IntKind.i64.wrap ((IntKind.i64.wrap (Int.tdiv (IntKind.i64.wrap ((IntKind.i64.wrap ((l3:Int)+256))-1)) 256))*256)=((l3:Int)+255) / 256*256:=by
    rw [wrap64 (x:=(l3:Int)+256) (by omega) (by omega),wrap64 (x:=(l3:Int)+256-1) (by omega) (by omega),Int.tdiv_eq_ediv_of_nonneg (by omega),wrap64 (x:=((l3:Int)+256-1) / 256) (by omega) (by omega),wrap64 (by omega) (by omega)]
    omega
   rw [er]
   have i1s:nWf (setS (wrS F k i xs j).i l3):=i1
   obtain ⟨wb,b1',b2',b3',b4'⟩:=a2.putF (T:=2) (j:=4) (v:=.int .i64 (((l3:Int)+255) / 256*256)) sc_i64 (by rw [wV_len i1s]; omega) rfl
   rw [wV_setS] at b2'
   have eI:setS (setS (wrS F k i xs j).i l3) (((l3:Int)+255) / 256*256)=endI (wrS F k i xs j).i l3:=by unfold endI setS; rw [if_pos (i3.trans hb2)]
   rw [eI] at b2'
   exact ⟨wb,b1',fin wb (a3'.trans b3' fun _ _ e=>e) b2'⟩
  ·have hb2:=of_decide_eq_false hb2
   have eI:setS (wrS F k i xs j).i l3=endI (wrS F k i xs j).i l3:=by unfold endI setS; rw [if_neg (fun e=>hb2 (i3.symm.trans e))]
   rw [eI] at a2
   exact fin wa a3' a2
end
end Go.Proofs.YtandmpcjjaabmaaGreat
end
section
open Go Go.Den Go.Proofs
namespace Go.Proofs.YtandmpcjjaabmaaGreat
def newF (A:Az):Fy:=⟨A,fun _=>0,fun _=>[]⟩
theorem newF_mu (A:Az):MuF (newF A):=fun _ _ h=>by cases h
theorem build_files (w:World) (p q:Option Addr) (m n:Option Nat):(Instr.build 111 #[(0,.pointer p),(1,.pointer q),(2,.map m),(3,.map n)]).run Tryz.prog w=.ok (.agg ⟨[.pointer p,.pointer q,.map m,.map n]⟩) w:=by kernel_rfl
theorem MuF.put {A0:Az} {F:Fy} (h:MuF F) (hA:F.A=A0) (hH:HdsAt A0.V A0.s.geo A0.hs) {k:Int} {i:Nd} {after:List Int} (hw:nWf i) (hp:(gPlace A0.s.geo k).2.2=0) (hb:badA A0.V after=false):MuF (putF F k i after):=by
 subst hA
 have hE:=setI_E (k:=k) (i:=i) hH hw hp hb
 intro n x hx
 have hl:((putF F k i after).A.V.last:Int)=F.A.V.last+1:=by show ((patS _ _ _ _ _).last:Int)=_; rw [patS_last hE]; omega
 have old:∀ x,(F.A.V.opn x=true/\1<=x/\x<=(F.A.V.last:Int))->(putF F k i after).A.V.opn x=true/\1<=x/\x<=((putF F k i after).A.V.last:Int):=fun x ⟨o1,o2,o3⟩=>⟨opn_pat _ _ _ _ o1,o2,by omega⟩
 have hx:x∈(if n=k then F.mi k++[(F.A.V.last:Int)+1] else F.mi n):=hx
 split at hx
 ·rcases List.mem_append.1 hx with hx | hx
  ·exact old x (h k x hx)
  ·have:=List.mem_singleton.1 hx
   rw [this]; exact ⟨opn_new hE,by omega,by omega⟩
 ·exact old x (h n x hx)
section
variable {w w':World} {R R' Ra:Nat->Prop} {f a v d fl fm:Nat} {F:Fy} {A:Az} {K:Value->World->Prop}
theorem fNew_c (h:Ao R w a v d A) (hk:∀ w' R' f,Mod No w w'->Sb R R' w->Fo R' w' f a v d (newF A)->w.heap.size<=f->K (.pointer (some ⟨f,0,none⟩)) w'):Cal Tryz.prog F_file_New #[.pointer (some ⟨a,0,none⟩)] w K:=by
 apply C_file_New
 unfold D_file_New
 have hdl:=h.dlt
 have m1:Mod No w (w.alloc (.map #[] 0)):=(Mod.refl No w).alloc _
 have s1:(w.alloc (.map #[] 0)).heap.size=w.heap.size+1:=by simp
 have p1:MapAt (w.alloc (.map #[] 0)) w.heap.size []:=MapAt.new
 refine ff rfl (aVol_c h ⟨_,rfl,_,_,makeMap_run,?_⟩)
 generalize w.alloc (.map #[] 0)=w1 at *
 have m2:Mod No w1 (w1.alloc (.map #[] 0)):=(Mod.refl No w1).alloc _
 have s2:(w1.alloc (.map #[] 0)).heap.size=w1.heap.size+1:=by simp
 have p2:MapAt (w1.alloc (.map #[] 0)) w1.heap.size []:=MapAt.new
 refine ⟨_,_,makeMap_run,_,fun w=>build_files w _ _ _ _,?_⟩
 generalize w1.alloc (.map #[] 0)=w2 at *
 obtain ⟨w3,c1,c2,c3,c4⟩:=box_u (P:=Tryz.prog) (w:=w2) (T:=111) (cs:=[.pointer (some ⟨a,0,none⟩),.pointer (some ⟨v,0,none⟩),.map (some w.heap.size),.map (some w1.heap.size)])
 have M:Mod No w w3:=(m1.no m2).no c3
 refine ⟨_,w3,c1,hk w3 (fun z=>R z\/z=w2.heap.size\/z=w1.heap.size\/z=w.heap.size) _ M (fun z hz=>?_) ⟨R,w.heap.size,w1.heap.size,[],[],fun _=>none,fun _=>0,?_⟩ (by omega)⟩
 ·rcases hz with hz | hz | hz | hz
  ·exact .inl hz
  all_goals exact .inr (by omega)
 have fb:∀ z,FiB (fun _=>none) w2.heap.size w.heap.size w1.heap.size z->z=w2.heap.size\/z=w1.heap.size\/z=w.heap.size:=by
  rintro z (e | e | e | ⟨k,q,e,_⟩)
  ·exact .inl e
  ·exact .inr (.inr e)
  ·exact .inr (.inl e)
  ·cases e
 exact {
  ao:=h.nos M
  cl:=c2
  ml:=(p1.keep m2 id).keep c3 id
  hl:=fun _=>rfl
  mm:=p2.keep c3 id
  hm:=fun _=>rfl
  ow:=fun _=>Ow.nil elemZ_64
  inj:=fun _ _ _ _ e=>by cases e
  ob:=fun z hz=>by
   have:=fb z hz
   exact ⟨fun r=>by have:=h.lt z r; omega,by omega⟩
  df:=⟨by omega,by omega,by omega,fun _ _ e=>by cases e⟩
  rg:=fun z hz=>hz.imp id (fb z)
  lt:=fun z hz=>by
   rcases hz with hz | hz
   ·have:=h.lt z hz
    have:=M.size
    omega
   ·omega }
theorem fAlloc_c (h:Fo R w f a v d F) (hk:K (.pointer (some ⟨a,0,none⟩)) w):Cal Tryz.prog F_file_Files_Alloc #[.pointer (some ⟨f,0,none⟩)] w K:=by
 apply C_file_Files_Alloc
 unfold D_file_Files_Alloc
 exact ff rfl ⟨_,rfl,_,h.pa,hk⟩
theorem fPatch_c {k f0 b:Int} {n:Nat} {data:Bk} {a3 a4:Option Addr} {l3 c3 l4 c4:Nat} {after:List Int} (h63:k<=9223372036854775807) (h:Fo R w f a v d F) (hM:MuF F) (ht:thF F k=0) (hn:n<6) (hp:(slotV F.A.V F.A.s.geo k).1.p.getD n 0=b) (hb:(gKind F.A.s.geo b).1=4) (hlast:F.A.V.last+1<=1000000) (hml:(F.mi k).length<=1000000)
  (hd:data.length=l3) (hl0:l3≠0) (f00:0<=f0) (f1:f0+l3<=256) (hrd:Row w a3 (u8L data)) (hdo:∀ q,a3=some q->¬ R q.block/\q.block<w.heap.size)
  (hal:after.length=l4) (h0:a4=none->l4=0/\c4=0) (ha6:l4<=1000000) (ha:∀ x∈after,1<=x/\x<=(F.A.V.last:Int)) (hra:Row w a4 (iL after)) (hao:∀ q,a4=some q->¬ R q.block)
  (hk:∀ w' R',Mod R w w'->Sb R R' w->Fo R' w' f a v d (setF F k b f0 data after)->K (.tuple #[.int .i64 ((F.A.V.last:Int)+1),.int .i64 0]) w') :
  Cal Tryz.prog F_file_Files_Patch #[.pointer (some ⟨f,0,none⟩),.int .i64 k,.int .i64 n,.int .i64 f0,.slice a3 l3 c3,.slice a4 l4 c4] w K:=by
 apply C_file_Files_Patch
 unfold D_file_Files_Patch
 obtain ⟨_,b1,_⟩:=gKind_4 hb
 refine fWhere_c h63 h ht hn fun w1 R1 m1 s1 h1=>⟨_,_,rfl,ff rfl ?_⟩
 rw [hp]
 refine ff (by rw [beqI]; exact decide_eq_false (by omega)) (fReal_c (hra.keep m1 hao) hal h0 ha6 (fun x hx=>(ha x hx).1) fun w2 a' c' o2 m2=>⟨_,_,_,rfl,?_⟩)
 have h2:=h1.nos m2
 refine fSet_c (data:=data) (after:=after) h2 hM hb hlast hml hd hl0 f00 f1 ((hrd.keep m1 fun q e=>(hdo q e).1).nos m2) (fun q e r=>?_) hal ha6 ha o2.rowU.row (fun _ q e r=>?_) fun w3 R3 m3 s3 h3=>⟨_,_,rfl,hk w3 R3 (Mod.sb (m1.no m2) s1 m3) ?_ h3⟩
 ·rcases s1 _ r with r | r
  ·exact (hdo q e).1 r
  ·have:=(hdo q e).2; omega
 ·have:=(o2.base e).1
  have:=h1.lt _ r
  omega
 ·have:=m1.size
  have:=m2.size
  exact s1.trans (s3.up (by omega)) (by omega)
end
end Go.Proofs.YtandmpcjjaabmaaGreat
end
section
open Go Go.Den Go.Proofs
namespace Go.Proofs.YtandmpcjjaabmaaGreat
def dirE (F:Fy) (k:Int):Int:=if (slotV F.A.V F.A.s.geo k).2≠0 then (slotV F.A.V F.A.s.geo k).2 else if (slotV F.A.V F.A.s.geo k).1.kind=0 then 20 else if (slotV F.A.V F.A.s.geo k).1.kind≠2 then 23 else 0
def pB (i:Nd) (n:Nat):Int:=i.p.getD n 0
def blkF (F:Fy) (i:Nd) (n:Nat):Bk:=contV F.A.V (pB i n).toNat
def nBk (i:Nd):Nat:=((i.size+255) / 256).toNat
def listD (F:Fy) (i:Nd):Nat->List (Dt×Nat)
 | 0=>[]
 | n+1=>if pB i n=0 then listD F i n else listD F i n++entsD (blkF F i n) 8
def seekD (F:Fy) (i:Nd) (nm:Bs):Nat->Option (Dt×Nat)
 | 0=>none
 | n+1=>match seekD F i nm n with | some x=>some x | none=>if pB i n=0 then none else match findD (blkF F i n) nm 8 with | some j=>some ((getE (enAt (blkF F i n) j)).1,n*8+j) | none=>none
def freeD (F:Fy) (i:Nd):Nat->Option Nat
 | 0=>none
 | n+1=>match freeD F i n with | some x=>some x | none=>if pB i n=0 then none else match roomD (blkF F i n) 8 with | some j=>some (n*8+j) | none=>none
def okD (F:Fy) (i:Nd):Prop:=nBk i<=6/\0<=i.size/\i.size<=1066496/\∀ n,n<nBk i->pB i n≠0->(gKind F.A.s.geo (pB i n)).1=4
theorem findD_lt {x nm:Bs} {j:Nat}:∀ {n:Nat},findD x nm n=some j->j<n
 | n+1,h=>by
  unfold findD at h
  split at h
  ·rename_i e
   have:=findD_lt e
   cases h; omega
  ·split at h
   ·split at h
    ·cases h; omega
    ·cases h
   ·cases h
theorem roomD_lt {x:Bs} {j:Nat}:∀ {n:Nat},roomD x n=some j->j<n
 | n+1,h=>by
  unfold roomD at h
  split at h
  ·rename_i e
   have:=roomD_lt e
   cases h; omega
  ·split at h
   ·cases h; omega
   ·cases h
theorem listD_some {F:Fy} {i:Nd} {n:Nat} (h:pB i n≠0):listD F i (n+1)=listD F i n++entsD (blkF F i n) 8:=by rw [listD,if_neg h]
theorem listD_none {F:Fy} {i:Nd} {n:Nat} (h:pB i n=0):listD F i (n+1)=listD F i n:=by rw [listD,if_pos h]
theorem listD_len (F:Fy) (i:Nd):∀ n,(listD F i n).length<=8*n
 | 0=>Nat.le_refl _
 | n+1=>by
  have:=listD_len F i n
  have h8:=entsD_len (blkF F i n) 8
  rw [listD]
  split
  ·omega
  ·rw [List.length_append]; omega
theorem eL_app (l r:List (Dt×Nat)):eL (l++r)=eL l++eL r:=by simp [eL]
theorem sc_pdirs:scal Tryz.prog 22=true:=by kernel_rfl
structure Dg (R0 R:Nat->Prop) (w0:World) (m f a v d:Nat) (F:Fy) (R':Nat->Prop) (W:World):Prop where
 fo:Fo R' W f a v d F
 md:Mod R0 w0 W
 sb:∀ z,R' z->R z\/m+2<=z
section
variable {w w0 w' W W':World} {R R' R'' Ra:Nat->Prop} {m f a v d D:Nat} {F:Fy} {K:Value->World->Prop}
theorem Dg.mv {R0:Nat->Prop} (h:Dg R0 R w0 m f a v d F R' W) (hz:m+2<=W.heap.size) (h0:w0.heap.size<=m) (s1:Sb R0 R w0) (mm:Mod R' W W') (s:Sb R' R'' W) (fo:Fo R'' W' f a v d F):Dg R0 R w0 m f a v d F R'' W' where
 fo:=fo
 md:=h.md.trans mm fun x hx e=>(s1 x ((h.sb x e).resolve_right (by omega))).resolve_right (by omega)
 sb:=fun z hz'=>by
  rcases s z hz' with e | e
  ·exact h.sb z e
  ·exact .inr (by omega)
theorem Dg.st {R0 S:Nat->Prop} (h:Dg R0 R w0 m f a v d F R' W) (mm:Mod S W W') (hS:∀ z,S z->¬ R' z/\w0.heap.size<=z) (hd:d<=w0.heap.size):Dg R0 R w0 m f a v d F R' W' where
 fo:=h.fo.keep mm (fun z hz e=>(hS z e).1 hz) fun z hz=>by have:=(hS z hz).2; omega
 md:=h.md.trans mm fun x hx e=>by have:=(hS x e).2; omega
 sb:=h.sb
theorem Dg.nos {R0:Nat->Prop} (h:Dg R0 R w0 m f a v d F R' W) (mm:Mod No W W'):Dg R0 R w0 m f a v d F R' W':=⟨h.fo.nos mm,h.md.no mm,h.sb⟩
theorem Dg.no {R0:Nat->Prop} (h:Dg R0 R w0 m f a v d F R' W) {q:Nat} (h1:¬ R q) (h2:q<m+2):¬ R' q:=fun e=>by
 rcases h.sb q e with r | r
 ·exact h1 r
 ·omega
theorem Dg.up {R0:Nat->Prop} (h:Dg R0 R w0 m f a v d F R' W) (h0:w0.heap.size<=m) (s1:Sb R0 R w0):Sb R0 R' w0:=fun z hz=>by
 rcases h.sb z hz with e | e
 ·exact s1 z e
 ·exact .inr (by omega)
theorem Blocks_c {i:Nd} (h0:0<=i.size) (h1:i.size<=1066496) (hk:∀ w',Mod No w w'->K (.int .i64 ((nBk i:Nat):Int)) w'):Cal Tryz.prog F_inode_Blocks #[.agg ⟨nV i⟩] w K:=by
 apply C_inode_Blocks
 unfold D_inode_Blocks
 obtain ⟨w1,a1,a2,a3,a4⟩:=box_u (P:=Tryz.prog) (w:=w) (T:=51) (cs:=nV i)
 have e:((nBk i:Nat):Int)=(i.size+255) / 256:=by unfold nBk; omega
 rw [e] at hk
 refine ⟨_,w1,a1,i.size,a2.at.fld (j:=2) (v:=.int .i64 i.size) sc_i64 rfl,?_⟩
 rw [if_neg (show ¬ 0 > i.size by omega),Int.tmod_eq_emod_of_nonneg h0,Int.tdiv_eq_ediv_of_nonneg h0]
 refine Share.dup (cond_of (fun h=>⟨_,rfl,?_⟩) (fun h=>⟨_,rfl,?_⟩))
 ·have h:=of_decide_eq_true h
  rw [wrap64 (x:=i.size / 256) (by omega) (by omega),wrap64 (by omega) (by omega),show i.size / 256+1=(i.size+255) / 256 by omega]
  exact hk _ a3
 ·have h:=of_decide_eq_false h
  rw [wrap64 (by omega) (by omega),show i.size / 256=(i.size+255) / 256 by omega]
  exact hk _ a3
theorem dDir_c {k:Int} (h63:k<=9223372036854775807) (hD:AtU w D 0 [.pointer (some ⟨f,0,none⟩)]) (h:Fo R w f a v d F)
  (hk:∀ w' R',Mod R w w'->Sb R R' w->Fo R' w' f a v d F->K (.tuple #[.agg ⟨nV (slotV F.A.V F.A.s.geo k).1⟩,.int .i64 (dirE F k)]) w'):Cal Tryz.prog F_dir_Dirs_dir #[.pointer (some ⟨D,0,none⟩),.int .i64 k] w K:=by
 apply C_dir_Dirs_dir
 unfold D_dir_Dirs_dir
 obtain ⟨w1,b1,b2,b3,b4⟩:=new_u (P:=Tryz.prog) (w:=w) (T:=51) zero_ino
 have h1:=h.nos b3
 have hlt:=h.lt
 have hd:=h.dlt
 have hwf:=slotV_wf F.A.V F.A.s.geo k
 have hln:=nV_len hwf
 refine ⟨_,w1,b1,ff rfl ⟨_,rfl,_,(hD.keep b3 id).at.fld (j:=0) (v:=.pointer (some ⟨f,0,none⟩)) sc_pfiles rfl,fGet_c h63 h1 fun w2 R2 m2 s2 h2=>⟨_,_,rfl,?_⟩⟩⟩
 have n1:¬ R w.heap.size:=fun e=>by have:=hlt _ e; omega
 have n2:¬ R2 w.heap.size:=fun e=>by
  rcases s2 _ e with e | e
  ·exact n1 e
  ·omega
 obtain ⟨w3,d1,d2,d3,d4⟩:=new_u (P:=Tryz.prog) (w:=w2) (T:=51) zero_ino
 obtain ⟨w4,e1,e2,e3,e4⟩:=d2.put (T:=51) (vs:=nV (slotV F.A.V F.A.s.geo k).1) agg_ino rfl hln (one_nV _)
 have M4:Mod No w2 w4:=d3.own e3 (Nat.le_refl _)
 have h4:=h2.nos M4
 have q4:=((b2.keep m2 n1).keep M4 id)
 have MM:Mod R w w4:=((b3.mono fun _ _ e=>e.elim).trans m2 fun _ _ e=>e).no M4
 have S4:=s2.up b3.size
 have lk:Ru (Instr.loadAt 3 (.pointer (some (Addr.add ⟨w2.heap.size,0,none⟩ 0)))) w4 (.int .i64 (slotV F.A.V F.A.s.geo k).1.kind) w4:=e2.at.fld (v:=.int .i64 (slotV F.A.V F.A.s.geo k).1.kind) sc_int rfl
 have fin:∀ e:Int,e=dirE F k->∃ g21:Array Value,Ru (Instr.loadAt 51 (.pointer (some ⟨w2.heap.size,0,none⟩))) w4 (.agg g21) w4/\∃ w7:World,RuU (Instr.storeAt 51 (.pointer (some ⟨w.heap.size,0,none⟩)) (.agg g21)) w4 w7/\∃ gR4:Array Value,Ru (Instr.loadAt 51 (.pointer (some ⟨w.heap.size,0,none⟩))) w7 (.agg gR4) w7/\K (.tuple #[.agg gR4,.int .i64 e]) w7:=fun e he=>by
  obtain ⟨w7,g1,g2,g3,g4⟩:=q4.put (T:=51) (vs:=nV (slotV F.A.V F.A.s.geo k).1) agg_ino rfl hln (one_nV _)
  refine ⟨_,e2.at.all agg_ino hln,w7,g1,_,g2.at.all agg_ino hln,?_⟩
  rw [he]
  exact hk w7 R2 (MM.trans g3 fun x hx e=>by have e:x=w.heap.size:=e; omega) S4 (h4.own g3 n2 (by omega))
 refine ⟨_,w3,d1,w4,e1,?_⟩
 rw [bneI]
 refine cond_of (fun he=>fin _ ?_) (fun he=>⟨_,lk,?_⟩)
 ·have he:=of_decide_eq_true he
  unfold dirE; rw [if_pos he]
 have he:=Classical.not_not.1 (of_decide_eq_false he)
 rw [beqI]
 refine cond_of (fun hb=>fin _ ?_) (fun hb=>⟨_,lk,?_⟩)
 ·have hb:=of_decide_eq_true hb
  unfold dirE; rw [if_neg (by rw [he]; decide),if_pos hb]
 have hb:=of_decide_eq_false hb
 rw [bneI]
 refine cond_of (fun hc=>fin _ ?_) (fun hc=>fin _ ?_)
 ·have hc:=of_decide_eq_true hc
  unfold dirE; rw [if_neg (by rw [he]; decide),if_neg hb,if_pos hc]
 ·have hc:=Classical.not_not.1 (of_decide_eq_false hc)
  unfold dirE; rw [if_neg (by rw [he]; decide),if_neg hb,if_neg (by rw [hc]; decide)]
theorem dBlocks_c {k : Int} {p0 : Option Addr} {i : Nd} (hk : ∀ w', Mod No w w' → w'.heap.size = w.heap.size + 3 → AtU w' w.heap.size 0 [.pointer p0] → AtU w' (w.heap.size + 1) 0 [.int .i64 k] → AtU w' (w.heap.size + 2) 0 (nV i) →
      K (.func (.func F_dir_Dirs_blocks_1) #[] #[.pointer (some ⟨w.heap.size + 2, 0, none⟩), .pointer (some ⟨w.heap.size, 0, none⟩), .pointer (some ⟨w.heap.size + 1, 0, none⟩)]) w') : Cal Tryz.prog F_dir_Dirs_blocks #[.pointer p0, .int .i64 k, .agg ⟨nV i⟩] w K := by
  apply C_dir_Dirs_blocks
  unfold D_dir_Dirs_blocks
  obtain ⟨w1, a1, a2, a3, a4⟩ := box_v (P := Tryz.prog) (w := w) (T := 22) (v := .pointer p0) rfl
  obtain ⟨w2, b1, b2, b3, b4⟩ := box_v (P := Tryz.prog) (w := w1) (T := 3) (v := .int .i64 k) rfl
  obtain ⟨w3, c1, c2, c3, c4⟩ := box_u (P := Tryz.prog) (w := w2) (T := 51) (cs := nV i)
  rw [a4] at b1 b2 b4
  rw [b4] at c1 c2 c4
  exact ⟨_, w1, a1, _, w2, b1, _, w3, c1, hk w3 ((a3.no b3).no c3) c4 ((a2.keep b3 id).keep c3 id) (b2.keep c3 id) c2⟩
theorem fGetD_c {b:Int} (h:Fo R w f a v d F) (hb:(gKind F.A.s.geo b).1=4)
  (hk:∀ w' R' g cc,Mod R w w'->Sb R R' w->Fo R' w' f a v d F->w.heap.size<=g->¬ R' g->AtU w' g 0 (u8L (contV F.A.V b.toNat))->(contV F.A.V b.toNat).length=256->256<=cc->K (.tuple #[.slice (some ⟨g,0,none⟩) 256 cc,.int .i64 0]) w') :
  Cal Tryz.prog F_vol_Vol_Data #[.pointer (some ⟨v,0,none⟩),.int .i64 b] w K:=by
 have hlt:=h.lt
 obtain ⟨Ra,hA,hRa,hc⟩:=h.alc
 refine aGetDat_c hA hb fun w' R' g cc m s hA' hg hn hat hl hcc=>?_
 obtain ⟨c1,c2,c3⟩:=hc w' R' _ m s hA'
 exact hk w' _ g cc c1 c2 c3 hg (fun e=>e.elim (fun e=>by have:=hlt g e; omega) hn) hat hl hcc
set_option maxRecDepth 4000 in
theorem blk_it {q3 q4 q5 lo:Nat} {k:Int} {i:Nd} (h63:k<=9223372036854775807) (ht:thF F k=0) (hi:(slotV F.A.V F.A.s.geo k).1=i) (hw:nWf i) (ok:okD F i) :
  Itr F_dir_Dirs_blocks_1 #[.pointer (some ⟨q5,0,none⟩),.pointer (some ⟨q3,0,none⟩),.pointer (some ⟨q4,0,none⟩)] (nBk i)
   (fun R W=>lo<=W.heap.size/\Fo R W f a v d F/\AtU W q3 0 [.pointer (some ⟨D,0,none⟩)]/\AtU W D 0 [.pointer (some ⟨f,0,none⟩)]/\AtU W q4 0 [.int .i64 k]/\AtU W q5 0 (nV i)) (fun R W R' W'=>Mod R W W'/\Sb R R' W/\Fo R' W' f a v d F) (fun n=>pB i n=0)
   (fun n ys R W=>pB i n≠0/\∃ g cc,ys=[.int .i64 (n:Int),.slice (some ⟨g,0,none⟩) 256 cc]/\AtU W g 0 (u8L (blkF F i n))/\(blkF F i n).length=256/\256<=cc/\¬ R g/\lo<=g):=by
 intro l w R K J E h0 hC hMv hSk hst hk
 obtain ⟨ok1,ok2,ok3,ok4⟩:=ok
 refine C_dir_Dirs_blocks_1 _ _ _ _ w K ?_
 unfold D_dir_Dirs_blocks_1
 obtain ⟨_,hF0,_,_,_,c5⟩:=hC _ _ _ h0
 refine ⟨_,c5.at.all agg_ino (nV_len hw),Blocks_c ok2 ok3 fun w1 m1=>⟨_,rfl,?_⟩⟩
 have hJ1:=hMv _ _ _ _ _ h0 ⟨m1.mono fun _ _ e=>e.elim,Sb.refl _ _,hF0.nos m1⟩
 refine ⟨fun x W=>∃ (n:Nat) (y z:Value) (R':Nat->Prop),x=[.int .i64 n,y,z]/\n<=nBk i/\J n R' W,fun x _=>(nBk i-nI x 0).toNat,⟨0,_,_,R,rfl,Nat.zero_le _,hJ1⟩,?_⟩
 rintro x W ⟨n,y,z,R',rfl,hn,hJ⟩
 refine ⟨_,rfl,cond_of (fun hb=>?_) (fun hb=>hk W (.inl ⟨R',?_⟩))⟩
 ·have hb:=of_decide_eq_true hb
  have hnN:n<nBk i:=by omega
  refine Share.cut (fun z W'=>∃ y1 y2,z=[y1,y2]/\∃ R',J (n+1) R' W') ?_ ?_
  ·have M:Mod No W (Go.Den.drew W):=(Mod.refl _ _).drew
   obtain ⟨lo1,hF,p3,pD,p4,p5⟩:=hC _ _ _ hJ
   refine ⟨_,p3.drew.at.one sc_pdirs,_,rfl,_,pD.drew.at.fld (j:=0) (v:=.pointer (some ⟨f,0,none⟩)) sc_pfiles rfl,k,p4.drew.at.one sc_int,fWhere_c h63 (hF.nos M) ht (by omega) fun w3 R3 m3 s3 h3=>⟨_,_,rfl,?_⟩⟩
   have hJ3:=hMv _ _ _ _ _ hJ ⟨(M.mono fun _ _ e=>e.elim).trans m3 fun _ _ e=>e,s3,h3⟩
   rw [hi]
   refine Share.dup (ff rfl ⟨_,rfl,?_⟩)
   rw [beqI]
   refine cond_of (fun h=>⟨_,_,rfl,R3,hSk n R3 w3 hnN (of_decide_eq_true h) hJ3⟩) (fun h=>?_)
   have hp:pB i n≠0:=of_decide_eq_false h
   obtain ⟨lo3,_,p3,pD,p4,p5⟩:=hC _ _ _ hJ3
   refine ⟨_,p3.at.one sc_pdirs,_,rfl,_,pD.at.fld (j:=0) (v:=.pointer (some ⟨f,0,none⟩)) sc_pfiles rfl,fAlloc_c h3 ⟨_,rfl,?_⟩⟩
   obtain ⟨Ra,hA,_,_⟩:=h3.alc
   refine aVol_c hA ⟨_,rfl,fGetD_c h3 (ok4 n hnN hp) fun w7 R7 g cc m7 s7 h7 hg hg2 hat hl hcc=>⟨_,_,_,_,rfl,?_⟩⟩
   have hJ7:=hMv _ _ _ _ _ hJ3 ⟨m7,s7,h7⟩
   refine Share.cut (fun z W'=>(z=[.bool false]/\∃ R',J (n+1) R' W')\/(z=[.bool true]/\E W')) (tt rfl ?_) ?_
   ·exact ⟨.yield l,#[],#[],rfl,rfl,rfl,hst n _ R7 _ _ hnN ⟨hp,g,cc,rfl,hat,hl,hcc,hg2,by omega⟩ hJ7 (fun R'' W' hJ'=>⟨true,rfl,.inl ⟨rfl,R'',hJ'⟩⟩) fun W' hE=>⟨false,rfl,.inr ⟨rfl,hE⟩⟩⟩
   ·rintro z W' (⟨rfl,R'',hJ'⟩ | ⟨rfl,hE⟩)
    ·exact ⟨_,rfl,ff rfl ⟨_,_,rfl,R'',hJ'⟩⟩
    ·exact ⟨_,rfl,tt rfl (hk W' (.inr hE))⟩
  ·rintro z W' ⟨y1,y2,rfl,R'',hJ'⟩
   rw [wrap64 (x:=(n:Int)+1) (by omega) (by omega)]
   exact ⟨⟨n+1,_,_,R'',rfl,by omega,hJ'⟩,by simp [nI,nth]; omega⟩
 ·have hb:=of_decide_eq_false hb
  have:n=nBk i:=by omega
  rw [<- this]; exact hJ
end
end Go.Proofs.YtandmpcjjaabmaaGreat
end
section
open Go Go.Den Go.Proofs
namespace Go.Proofs.YtandmpcjjaabmaaGreat
def seekV:Option (Dt×Nat)->Value
 | some (e,n)=>.tuple #[.agg ⟨eV e⟩,.int .i64 (n:Int),.int .i64 0]
 | none=>.tuple #[.agg ⟨eV dtZ⟩,.int .i64 0,.int .i64 20]
theorem up_to {α:Type} {g:Nat->Option α} (hg:∀ n x,g n=some x->g (n+1)=some x) {n:Nat} {x:α} (h:g n=some x):∀ {m:Nat},n<=m->g m=some x
 | 0,hm=>by rw [show n=0 by omega] at h; exact h
 | m+1,hm=>by
  by_cases e:n=m+1
  ·rw [<- e]; exact h
  ·exact hg m x (up_to hg h (by omega))
section
variable {w w0 w' W W':World} {R R' R'' Ra:Nat->Prop} {m f a v d D:Nat} {F:Fy} {K:Value->World->Prop}
theorem appE {base base2 c c2:Nat} {a a2:Option Addr} {xs ys:List (Dt×Nat)} (h:Ow Tryz.prog w base 27 3 a xs.length c (eL xs)) (o:Ow Tryz.prog w base2 27 3 a2 ys.length c2 (eL ys)) (he:a2=none\/0<ys.length) (h63:xs.length+ys.length<=1000) (hb:base<=w.heap.size) :
  ∃ a' c' w',(Builtin.append_ #[27,27] 27 #[.slice a xs.length c,.slice a2 ys.length c2]).run Tryz.prog w=.ok (.slice a' (xs++ys).length c') w'/\Ow Tryz.prog w' base 27 3 a' (xs++ys).length c' (eL (xs++ys))/\Mod (fun x=>∃ q,a=some q/\x=q.block) w w' /\
   ∀ q',a'=some q'->(∃ q,a=some q/\q'.block=q.block)\/w.heap.size<=q'.block:=by
 cases a2 with
 | none =>
  obtain ⟨h0,rfl⟩:=o.zero
  have hy:ys=[]:=List.eq_nil_of_length_eq_zero h0
  subst hy
  rw [List.append_nil]
  exact ⟨a,c,w,Ow.appG0 elemG_ents h,h,Mod.refl _ _,fun q' e=>.inl ⟨q',e,rfl⟩⟩
 | some q =>
  have hp:0<ys.length:=he.resolve_left fun e=>by cases e
  obtain ⟨q',c',w',h1,h2,h3,h4⟩:=h.appG (ty:=27) elemG_ents (by omega) o.rowU.row (eL_len ys) hp (one_eL ys) (by omega) (by omega) hb
  rw [List.length_append,eL_app]
  exact ⟨some q',c',w',h1,h2,h3,fun q2 e=>by cases e; exact h4⟩
set_option maxRecDepth 4000 in
theorem dirList_c {k:Int} {i:Nd} (h63:k<=9223372036854775807) (hD:AtU w D 0 [.pointer (some ⟨f,0,none⟩)]) (hnD:¬ R D) (h:Fo R w f a v d F) (hE:dirE F k=0) (hi:(slotV F.A.V F.A.s.geo k).1=i) (ok:okD F i)
  (hk:∀ w' R' a1 c1,Mod R w w'->Sb R R' w->Fo R' w' f a v d F->Ow Tryz.prog w' w.heap.size 27 3 a1 (listD F i (nBk i)).length c1 (eL (listD F i (nBk i)))->K (.tuple #[.slice a1 (listD F i (nBk i)).length c1,.int .i64 0]) w') :
  Cal Tryz.prog F_dir_Dirs_List #[.pointer (some ⟨D,0,none⟩),.int .i64 k] w K:=by
 apply C_dir_Dirs_List
 unfold D_dir_Dirs_List
 have hlt:=h.lt
 have hd:=h.dlt
 have hDl:=hD.lt
 have hw:nWf i:=by rw [<- hi]; exact slotV_wf _ _ _
 have ht:thF F k=0:=by
  unfold dirE at hE
  unfold thF
  split at hE
  ·rename_i e; rw [if_pos e]; exact hE
  ·rename_i e
   rw [if_neg e]
   split at hE
   ·cases hE
   ·rename_i e2; rw [if_neg e2]
 refine dDir_c h63 hD h fun w1 R1 m1 s1 h1=>⟨_,_,rfl,?_⟩
 rw [hi]
 have z1:=m1.size
 have hlt1:=h1.lt
 obtain ⟨w2,b1,b2,b3,b4⟩:=new_u (P:=Tryz.prog) (w:=w1) (T:=51) zero_ino
 obtain ⟨w3,c1,c2,c3,c4⟩:=b2.put (T:=51) (vs:=nV i) agg_ino rfl (nV_len hw) (one_nV _)
 obtain ⟨w4,d1,d2,d3,d4⟩:=new_u (P:=Tryz.prog) (w:=w3) (T:=27) zero_ents
 have M3:Mod No w1 w3:=b3.own c3 (Nat.le_refl _)
 have M4:=M3.no d3
 refine ⟨_,w2,b1,w3,c1,ff (by rw [hE]; rfl) ⟨_,w4,d1,_,(c2.keep d3 id).at.all agg_ino (nV_len hw),dBlocks_c fun w5 m5 z5 p3 p4 p5=>⟨_,rfl,?_⟩⟩⟩
 have M5:=M4.no m5
 have nD1:¬ R1 D:=fun e=>(s1 D e).elim hnD fun e=>by omega
 have pD5:AtU w5 D 0 [.pointer (some ⟨f,0,none⟩)]:=(hD.keep m1 hnD).keep M5 id
 have nw:∀ {q:Nat},w1.heap.size<=q->¬ R1 q:=fun h e=>by have:=hlt1 _ e; omega
 refine range_it (blk_it (q3:=w4.heap.size) (q4:=w4.heap.size+1) (q5:=w4.heap.size+2) (lo:=w5.heap.size+2) (D:=D) (f:=f) (a:=a) (v:=v) (d:=d) h63 ht hi hw ok) rfl R1
  (fun n R' W=>Dg R R1 w w5.heap.size f a v d F R' W/\AtU W D 0 [.pointer (some ⟨f,0,none⟩)]/\AtU W w4.heap.size 0 [.pointer (some ⟨D,0,none⟩)]/\AtU W (w4.heap.size+1) 0 [.int .i64 k]/\AtU W (w4.heap.size+2) 0 (nV i) /\
   ∃ r c,AtU W w3.heap.size 0 [.slice r (listD F i n).length c]/\Ow Tryz.prog W (w5.heap.size+2) 27 3 r (listD F i n).length c (eL (listD F i n))/\∀ q,r=some q->¬ R' q.block) (fun _=>False)
  ⟨⟨h1.nos M5,m1.no M5,fun _ e=>.inl e⟩,pD5,p3,p4,p5,none,0,d2.keep m5 id,Ow.nilG elemG_ents,fun q e=>by cases e⟩ ?_ ?_ ?_ (fun _ _ e=>e.elim) ?_ ?_ ?_ ?_ (fun _ e=>e.elim)
 ·rintro n R' W ⟨g,pD,p3,p4,p5,_⟩ hz
  exact ⟨hz,g.fo,p3,pD,p4,p5⟩
 ·rintro n R' W R2 W2 ⟨g,pD,p3,p4,p5,r,c,j3,j4,j5⟩ hz ⟨mm,s,fo⟩
  refine ⟨⟨g.mv hz (by omega) s1 mm s fo,pD.keep mm (g.no nD1 (by omega)),p3.keep mm (g.no (nw (by omega)) (by omega)),p4.keep mm (g.no (nw (by omega)) (by omega)),p5.keep mm (g.no (nw (by omega)) (by omega)),r,c,j3.keep mm (g.no (nw (by omega)) (by omega)),j4.keep mm j5,fun q e x=>?_⟩,R',mm,g.no (nw (by omega)) (by omega),g.no (nw (by omega)) (by omega)⟩
  rcases s _ x with y | y
  ·exact j5 q e y
  ·have:=(j4.base e).2; omega
 ·rintro n R' W W2 ⟨g,pD,p3,p4,p5,r,c,j3,j4,j5⟩ mm
  have lo:∀ q,q<w5.heap.size->¬ (q=w5.heap.size\/q=w5.heap.size+1):=fun q h e=>by omega
  refine ⟨g.st mm (fun z e=>⟨?_,by omega⟩) (by omega),pD.keep mm (lo _ (by omega)),p3.keep mm (lo _ (by omega)),p4.keep mm (lo _ (by omega)),p5.keep mm (lo _ (by omega)),r,c,j3.keep mm (lo _ (by omega)),j4.keep mm fun q e x=>?_,j5⟩
  ·rcases e with e | e <;> exact g.no (nw (by omega)) (by omega)
  ·have:=(j4.base e).1; omega
 ·rintro n R' W hn hs ⟨g,pD,p3,p4,p5,r,c,j3,j4,j5⟩
  rw [listD_none hs]
  exact ⟨g,pD,p3,p4,p5,r,c,j3,j4,j5⟩
 ·rintro n ys R' W ⟨_,gb,cc,rfl,_⟩
  rfl
 ·rintro n ys R' W bgn fin dd lo' lb hn ⟨hp,gb,cc,rfl,hat,hl,hcc,hng,hlo⟩ ⟨g,pD,p3,p4,p5,r,c,j3,j4,j5⟩ hz hd' hl' hbg hfn _
  refine ⟨_,_,_,rfl,hbg _ W hd' hl' fun w7 m7 z7 hd7 hl7=>?_⟩
  have lo:∀ q,q<w5.heap.size->¬ (q=w5.heap.size\/q=w5.heap.size+1):=fun q h e=>by omega
  have g7:=g.st m7 (fun z e=>⟨by rcases e with e | e <;> exact g.no (nw (by omega)) (by omega),by omega⟩) (by omega)
  have j4':=j4.keep m7 fun q e x=>by have:=(j4.base e).1; omega
  refine dList_c hl hcc (.inr ⟨_,_,rfl,(hat.keep m7 (show ¬ (gb=_\/gb=_) by omega)).at⟩) fun w8 a1 c1 a2 l2 c2 m8 o8 e8=>⟨_,_,_,_,_,_,_,rfl,?_⟩
  have k3:=(j3.keep m7 (lo _ (by omega))).keep m8 id
  have z8:=m8.size
  have ll:=listD_len F i n
  have l8:=entsD_len (blkF F i n) 8
  obtain ⟨ok1,_⟩:=ok
  obtain ⟨r9,c9,w9,f1,f2,f3,f4⟩:=appE (j4'.nos m8) o8 e8 (by omega) (by omega)
  rw [<- listD_some hp] at f1 f2
  have S9:∀ q,q<w5.heap.size+2->¬ (fun x=>∃ q',r=some q'/\x=q'.block) q:=fun q h ⟨q',e',e2⟩=>by have:=(j4.base e').1; omega
  obtain ⟨w10,u1,u2,u3,u4⟩:=(k3.keep f3 (S9 _ (by omega))).put1 (P:=Tryz.prog) (T:=27) (v:=.slice r9 (listD F i (n+1)).length c9) sc_ents rfl
  have g10:Dg R R1 w w5.heap.size f a v d F R' w10:=by
   refine ((g7.nos m8).st f3 (fun z ⟨q',e',e2⟩=>⟨by rw [e2]; exact j5 q' e',?_⟩) (by omega)).st u3 (fun z e=>⟨?_,?_⟩) (by omega)
   ·have:=(j4.base e').1; omega
   ·have e:z=w3.heap.size:=e
    rw [e]; exact g.no (nw (by omega)) (by omega)
   ·have e:z=w3.heap.size:=e
    omega
  have far:∀ {q:Nat} {cs:List Value},q<w5.heap.size->q≠w3.heap.size->AtU W q 0 cs->AtU w10 q 0 cs:=fun h1 h2 ha=>(((ha.keep m7 (lo _ h1)).keep m8 id).keep f3 (S9 _ (by omega))).keep u3 h2
  have farO:∀ x,x<w5.heap.size+2->x≠w3.heap.size->∀ {o:Obj},w7.heap[x]?=some o->w10.heap[x]?=some o:=fun x h h1 o ho=>u3.keep (f3.keep (m8.keep ho id) (S9 x h)) h1
  have z9:=f3.size
  refine ⟨_,_,_,k3.at.one sc_ents,r9,(listD F i (n+1)).length,c9,w9,f1,w10,u1,hfn w10 (farO _ (by omega) (by omega) hd7) (farO _ (by omega) (by omega) hl7) (by omega) ⟨R',g10,far (by omega) (by omega) pD,far (by omega) (by omega) p3,far (by omega) (by omega) p4,far (by omega) (by omega) p5,r9,c9,u2,f2.keep u3 fun q e x=>?_,fun q e x=>?_⟩⟩
  ·have:=(f2.base e).1; have x:q.block=w3.heap.size:=x; omega
  ·rcases f4 q e with ⟨q2,e2,e3⟩ | e2
   ·rw [e3] at x; exact j5 q2 e2 x
   ·have:=g.fo.lt _ x; omega
 ·rintro R' W ⟨g,pD,p3,p4,p5,r,c,j3,j4,j5⟩ hz hd'
  have md:=Mod.putObj W w5.heap.size (.deferred none)
  have gE:=g.st md (fun z e=>⟨by have e:z=w5.heap.size:=e; exact g.no (nw (by omega)) (by omega),by have e:z=w5.heap.size:=e; omega⟩) (by omega)
  refine ⟨_,_,_,j3.at.one sc_ents,hd',hk _ R' r c gE.md (gE.up (by omega) s1) gE.fo ((j4.keep md fun q e x=>?_).mono (by omega))⟩
  have:=(j4.base e).1; have x:q.block=w5.heap.size:=x; omega
theorem dirListE_c {k:Int} (h63:k<=9223372036854775807) (hD:AtU w D 0 [.pointer (some ⟨f,0,none⟩)]) (h:Fo R w f a v d F) (hE:dirE F k≠0)
  (hk:∀ w' R',Mod R w w'->Sb R R' w->Fo R' w' f a v d F->K (.tuple #[.slice none 0 0,.int .i64 (dirE F k)]) w') :
  Cal Tryz.prog F_dir_Dirs_List #[.pointer (some ⟨D,0,none⟩),.int .i64 k] w K:=by
 apply C_dir_Dirs_List
 unfold D_dir_Dirs_List
 refine dDir_c h63 hD h fun w1 R1 m1 s1 h1=>⟨_,_,rfl,?_⟩
 have hw:=slotV_wf F.A.V F.A.s.geo k
 obtain ⟨w2,b1,b2,b3,b4⟩:=new_u (P:=Tryz.prog) (w:=w1) (T:=51) zero_ino
 obtain ⟨w3,c1,c2,c3,c4⟩:=b2.put (T:=51) (vs:=nV (slotV F.A.V F.A.s.geo k).1) agg_ino rfl (nV_len hw) (one_nV _)
 have M3:Mod No w1 w3:=b3.own c3 (Nat.le_refl _)
 exact ⟨_,w2,b1,w3,c1,tt (by rw [bneI]; exact decide_eq_true hE) (hk w3 R1 (m1.no M3) s1 (h1.nos M3))⟩
end
end Go.Proofs.YtandmpcjjaabmaaGreat
end
section
open Go Go.Den Go.Proofs
namespace Go.Proofs.YtandmpcjjaabmaaGreat
theorem seekD_step (F:Fy) (i:Nd) (nm:Bs) (n:Nat) (x:Dt×Nat) (h:seekD F i nm n=some x):seekD F i nm (n+1)=some x:=by rw [seekD,h]
theorem freeD_step (F:Fy) (i:Nd) (n:Nat) (x:Nat) (h:freeD F i n=some x):freeD F i (n+1)=some x:=by rw [freeD,h]
theorem thF_dir {F:Fy} {k:Int} (hE:dirE F k=0):thF F k=0:=by
 unfold dirE at hE
 unfold thF
 split at hE
 ·rename_i e; rw [if_pos e]; exact hE
 ·rename_i e
  rw [if_neg e]
  split at hE
  ·cases hE
  ·rename_i e2; rw [if_neg e2]
section
variable {w w0 w' W W':World} {R R' R'' Ra:Nat->Prop} {m f a v d D:Nat} {F:Fy} {K:Value->World->Prop}
set_option maxRecDepth 4000 in
theorem find0_c {k:Int} {i:Nd} {nm:Bs} (h63:k<=9223372036854775807) (hD:AtU w D 0 [.pointer (some ⟨f,0,none⟩)]) (hnD:¬ R D) (h:Fo R w f a v d F) (hi:(slotV F.A.V F.A.s.geo k).1=i)
  (hk:dirE F k≠0->∀ w' R',Mod R w w'->Sb R R' w->Fo R' w' f a v d F->K (.tuple #[.agg ⟨eV dtZ⟩,.int .i64 0,.int .i64 (dirE F k)]) w') (ok:dirE F k=0->okD F i)
  (hk0:dirE F k=0->∀ w' R',Mod R w w'->Sb R R' w->Fo R' w' f a v d F->K (seekV (seekD F i nm (nBk i))) w') :
  Cal Tryz.prog F_dir_Dirs_find #[.pointer (some ⟨D,0,none⟩),.int .i64 k,.string (sB nm)] w K:=by
 apply C_dir_Dirs_find
 unfold D_dir_Dirs_find
 have hlt:=h.lt
 have hd:=h.dlt
 have hDl:=hD.lt
 have hw:nWf i:=by rw [<- hi]; exact slotV_wf _ _ _
 obtain ⟨w1,a1,a2,a3,a4⟩:=box_v (P:=Tryz.prog) (w:=w) (T:=9) (v:=.string (sB nm)) rfl
 obtain ⟨w2,b1,b2,b3,b4⟩:=new_u (P:=Tryz.prog) (w:=w1) (T:=82) zero_ent
 obtain ⟨w3,c1,c2,c3,c4⟩:=new_u (P:=Tryz.prog) (w:=w2) (T:=3) zero_int
 obtain ⟨w4,d1,d2,d3,d4⟩:=new_u (P:=Tryz.prog) (w:=w3) (T:=24) zero_errno
 have M4:Mod No w w4:=((a3.no b3).no c3).no d3
 have p5:AtU w4 w.heap.size 0 [.string (sB nm)]:=((a2.keep b3 id).keep c3 id).keep d3 id
 have p6:AtU w4 w1.heap.size 0 (eV dtZ):=(b2.keep c3 id).keep d3 id
 have p7:AtU w4 w2.heap.size 0 [.int .i64 0]:=c2.keep d3 id
 refine ⟨_,w1,a1,_,w2,b1,_,w3,c1,_,w4,d1,dDir_c h63 (hD.keep M4 id) (h.nos M4) fun w5 R5 m5 s5 h5=>⟨_,_,rfl,?_⟩⟩
 rw [hi]
 have nq:∀ {q:Nat},w.heap.size<=q->q<w4.heap.size->¬ R5 q:=fun h1 h2 e=>by
  rcases s5 _ e with e | e
  ·have:=hlt _ e; omega
  ·omega
 have nQ:∀ {q:Nat},w.heap.size<=q->¬ R q:=fun h1 e=>by have:=hlt _ e; omega
 have z5:=m5.size
 obtain ⟨w6,e1,e2,e3,e4⟩:=new_u (P:=Tryz.prog) (w:=w5) (T:=51) zero_ino
 obtain ⟨w7,g1,g2,g3,g4⟩:=e2.put (T:=51) (vs:=nV i) agg_ino rfl (nV_len hw) (one_nV _)
 have M7:Mod No w5 w7:=e3.own g3 (Nat.le_refl _)
 have p5:=(p5.keep m5 (nQ (by omega))).keep M7 id
 have p6:=(p6.keep m5 (nQ (by omega))).keep M7 id
 have p7:=(p7.keep m5 (nQ (by omega))).keep M7 id
 have p8:=(d2.keep m5 (nQ (by omega))).keep M7 id
 have S5:Sb R R5 w:=s5.up (by omega)
 have M57:Mod R w w7:=((M4.mono fun _ _ e=>e.elim).trans m5 fun _ _ e=>e).no M7
 have h7:=h5.nos M7
 refine ⟨_,w6,e1,w7,g1,?_⟩
 rw [bneI]
 refine cond_of (fun hE=>?_) (fun hE=>?_)
 ·have hE:=of_decide_eq_true hE
  obtain ⟨w8,u1,u2,u3,u4⟩:=p6.put (T:=82) (vs:=eV dtZ) agg_ent rfl rfl (one_eV _)
  obtain ⟨w9,v1,v2,v3,v4⟩:=(p7.keep u3 (by show ¬ w2.heap.size=w1.heap.size; omega)).put1 (P:=Tryz.prog) (T:=3) (v:=.int .i64 0) sc_int rfl
  obtain ⟨w10,x1,x2,x3,x4⟩:=((p8.keep u3 (by show ¬ w3.heap.size=w1.heap.size; omega)).keep v3 (by show ¬ w3.heap.size=w2.heap.size; omega)).put1 (P:=Tryz.prog) (T:=24) (v:=.int .i64 (dirE F k)) sc_errno rfl
  refine ⟨_,build_ent0,w8,u1,w9,v1,w10,x1,_,((u2.keep v3 (by show ¬ w1.heap.size=w2.heap.size; omega)).keep x3 (by show ¬ w1.heap.size=w3.heap.size; omega)).at.all agg_ent rfl,_,(v2.keep x3 (by show ¬ w2.heap.size=w3.heap.size; omega)).at.one sc_int,_,x2.at.one sc_errno,hk hE w10 R5 ?_ S5 ?_⟩
  ·exact ((M57.trans u3 fun x hx e=>by have e:x=w1.heap.size:=e; omega).trans v3 fun x hx e=>by have e:x=w2.heap.size:=e; omega).trans x3 fun x hx e=>by have e:x=w3.heap.size:=e; omega
  ·exact ((h7.own u3 (nq (by omega) (by omega)) (by omega)).own v3 (nq (by omega) (by omega)) (by omega)).own x3 (nq (by omega) (by omega)) (by omega)
 have hE:=Classical.not_not.1 (of_decide_eq_false hE)
 have ok:=ok hE
 have hk:=hk0 hE
 refine ⟨_,g2.at.all agg_ino (nV_len hw),dBlocks_c fun w11 m11 z11 r3 r4 r5=>⟨_,rfl,?_⟩⟩
 have pD:AtU w11 D 0 [.pointer (some ⟨f,0,none⟩)]:=(((hD.keep M4 id).keep m5 hnD).keep M7 id).keep m11 id
 have nD5:¬ R5 D:=fun e=>(s5 D e).elim hnD fun e=>by omega
 have z7:=M7.size
 have n5:∀ {q:Nat},w5.heap.size<=q->¬ R5 q:=fun h e=>by have:=h5.lt _ e; omega
 have p5:=p5.keep m11 id
 have p6:=p6.keep m11 id
 have p7:=p7.keep m11 id
 have p8:=p8.keep m11 id
 refine range_it (blk_it (q3:=w7.heap.size) (q4:=w7.heap.size+1) (q5:=w7.heap.size+2) (lo:=w11.heap.size+2) (D:=D) (f:=f) (a:=a) (v:=v) (d:=d) h63 (thF_dir hE) hi hw ok) rfl R5
  (fun n R' W=>Dg R R5 w w11.heap.size f a v d F R' W/\AtU W D 0 [.pointer (some ⟨f,0,none⟩)]/\AtU W w7.heap.size 0 [.pointer (some ⟨D,0,none⟩)]/\AtU W (w7.heap.size+1) 0 [.int .i64 k]/\AtU W (w7.heap.size+2) 0 (nV i) /\
   AtU W w.heap.size 0 [.string (sB nm)]/\AtU W w1.heap.size 0 (eV dtZ)/\AtU W w2.heap.size 0 [.int .i64 0]/\AtU W w3.heap.size 0 [.int .i64 0]/\seekD F i nm n=none)
  (fun W=>∃ (R':Nat->Prop) (e:Dt) (j:Nat),Dg R R5 w w11.heap.size f a v d F R' W/\AtU W w1.heap.size 0 (eV e)/\AtU W w2.heap.size 0 [.int .i64 (j:Int)]/\AtU W w3.heap.size 0 [.int .i64 0]/\seekD F i nm (nBk i)=some (e,j))
  ⟨⟨h7.nos m11,M57.no m11,fun _ e=>.inl e⟩,pD,r3,r4,r5,p5,p6,p7,p8,rfl⟩ ?_ ?_ ?_ ?_ ?_ ?_ ?_ ?_ ?_
 ·rintro n R' W ⟨g,pD,p3,p4,p5,_⟩ hz
  exact ⟨hz,g.fo,p3,pD,p4,p5⟩
 ·rintro n R' W R2 W2 ⟨g,pD,p3,p4,p5,j5,j6,j7,j8,j9⟩ hz ⟨mm,s,fo⟩
  exact ⟨⟨g.mv hz (by omega) S5 mm s fo,pD.keep mm (g.no nD5 (by omega)),p3.keep mm (g.no (n5 (by omega)) (by omega)),p4.keep mm (g.no (n5 (by omega)) (by omega)),p5.keep mm (g.no (n5 (by omega)) (by omega)),j5.keep mm (g.no (nq (by omega) (by omega)) (by omega)),j6.keep mm (g.no (nq (by omega) (by omega)) (by omega)),j7.keep mm (g.no (nq (by omega) (by omega)) (by omega)),j8.keep mm (g.no (nq (by omega) (by omega)) (by omega)),j9⟩,R',mm,g.no (n5 (by omega)) (by omega),g.no (n5 (by omega)) (by omega)⟩
 ·rintro n R' W W2 ⟨g,pD,p3,p4,p5,j5,j6,j7,j8,j9⟩ mm
  have lo:∀ q,q<w11.heap.size->¬ (q=w11.heap.size\/q=w11.heap.size+1):=fun q h e=>by omega
  refine ⟨g.st mm (fun z e=>⟨?_,by omega⟩) (by omega),pD.keep mm (lo _ (by omega)),p3.keep mm (lo _ (by omega)),p4.keep mm (lo _ (by omega)),p5.keep mm (lo _ (by omega)),j5.keep mm (lo _ (by omega)),j6.keep mm (lo _ (by omega)),j7.keep mm (lo _ (by omega)),j8.keep mm (lo _ (by omega)),j9⟩
  rcases e with e | e <;> exact g.no (n5 (by omega)) (by omega)
 ·rintro W W2 ⟨R',e,j,g,j6,j7,j8,j9⟩ mm
  have lo:∀ q,q<w11.heap.size->¬ (q=w11.heap.size\/q=w11.heap.size+1):=fun q h e=>by omega
  refine ⟨R',e,j,g.st mm (fun z e=>⟨?_,by omega⟩) (by omega),j6.keep mm (lo _ (by omega)),j7.keep mm (lo _ (by omega)),j8.keep mm (lo _ (by omega)),j9⟩
  rcases e with e | e <;> exact g.no (n5 (by omega)) (by omega)
 ·rintro n R' W hn hs ⟨g,pD,p3,p4,p5,j5,j6,j7,j8,j9⟩
  exact ⟨g,pD,p3,p4,p5,j5,j6,j7,j8,by rw [seekD,j9]; show (if pB i n=0 then none else _)=none; rw [if_pos hs]⟩
 ·rintro n ys R' W ⟨_,gb,cc,rfl,_⟩
  rfl
 ·rintro n ys R' W bgn fin dd lo' lb hn ⟨hp,gb,cc,rfl,hat,hl,hcc,hng,hlo⟩ ⟨g,pD,p3,p4,p5,j5,j6,j7,j8,j9⟩ hz hd' hl' hbg hfn hrt
  refine ⟨_,rfl,_,_,_,rfl,hbg _ W hd' hl' fun w13 m13 z13 hd13 hl13=>?_⟩
  have lo:∀ q,q<w11.heap.size->¬ (q=w11.heap.size\/q=w11.heap.size+1):=fun q h e=>by omega
  have g13:=g.st m13 (fun z e=>⟨by rcases e with e | e <;> exact g.no (n5 (by omega)) (by omega),by omega⟩) (by omega)
  have hat13:=hat.keep m13 (show ¬ (gb=_\/gb=_) by omega)
  have seekN:∀ o,findD (blkF F i n) nm 8=o->seekD F i nm (n+1)=match o with | some j=>some ((getE (enAt (blkF F i n) j)).1,n*8+j) | none=>none:=fun o ho=>by
   rw [seekD,j9]; show (if pB i n=0 then none else _)=_; rw [if_neg hp,ho]; all_goals (cases o <;> rfl)
  refine ⟨_,(j5.keep m13 (lo _ (by omega))).at.one sc_strE,dFind_c hl hcc (.inr ⟨_,_,rfl,hat13.at⟩) fun w14 m14=>⟨_,rfl,?_⟩⟩
  have z14:=m14.size
  have far:∀ {q:Nat} {cs:List Value},q<w11.heap.size->AtU W q 0 cs->AtU w14 q 0 cs:=fun h1 ha=>(ha.keep m13 (lo _ h1)).keep m14 id
  have g14:=g13.nos m14
  cases ho:findD (blkF F i n) nm 8 with
  | none =>
   refine ff rfl (hfn w14 (m14.keep hd13 id) (m14.keep hl13 id) (by omega) ⟨R',g14,far (by omega) pD,far (by omega) p3,far (by omega) p4,far (by omega) p5,far (by omega) j5,far (by omega) j6,far (by omega) j7,far (by omega) j8,seekN _ ho⟩)
  | some j =>
   have hj:=findD_lt ho
   have hn6:=ok.1
   refine tt (decide_eq_true (by show (j:Int) >= 0; omega)) (dRead_c hl hcc hj (.inr ⟨_,_,rfl,(hat13.keep m14 id).at⟩) fun w15 m15=>⟨_,_,rfl,?_⟩)
   generalize he:(getE (enAt (blkF F i n) j)).1=e at *
   obtain ⟨w16,u1,u2,u3,u4⟩:=new_u (P:=Tryz.prog) (w:=w15) (T:=82) zero_ent
   obtain ⟨w17,v1,v2,v3,v4⟩:=u2.put (T:=82) (vs:=eV e) agg_ent rfl rfl (one_eV _)
   have M17:Mod No w14 w17:=(m15.no u3).own v3 m15.size
   have z17:=M17.size
   obtain ⟨w18,x1,x2,x3,x4⟩:=((far (by omega) j6).keep M17 id).put (T:=82) (vs:=eV e) agg_ent rfl rfl (one_eV _)
   obtain ⟨w19,y1,y2,y3,y4⟩:=(((far (by omega) j7).keep M17 id).keep x3 (by show ¬ w2.heap.size=w1.heap.size; omega)).put1 (P:=Tryz.prog) (T:=3) (v:=.int .i64 ((n*8+j:Nat):Int)) sc_int rfl
   obtain ⟨w20,t1,t2,t3,t4⟩:=((((far (by omega) j8).keep M17 id).keep x3 (by show ¬ w3.heap.size=w1.heap.size; omega)).keep y3 (by show ¬ w3.heap.size=w2.heap.size; omega)).put1 (P:=Tryz.prog) (T:=24) (v:=.int .i64 0) sc_errno rfl
   have ew:IntKind.i64.wrap (IntKind.i64.wrap ((n:Int)*8)+(j:Int))=((n*8+j:Nat):Int):=by rw [wrap64 (x:=(n:Int)*8) (by omega) (by omega),wrap64 (by omega) (by omega)]; omega
   have farO:∀ x,x=w11.heap.size\/x=w11.heap.size+1->∀ {o:Obj},w13.heap[x]?=some o->w20.heap[x]?=some o:=fun x h o ho=>t3.keep (y3.keep (x3.keep (M17.keep (m14.keep ho id) id) (by show ¬ x=w1.heap.size; omega)) (by show ¬ x=w2.heap.size; omega)) (by show ¬ x=w3.heap.size; omega)
   refine ⟨_,w16,u1,w17,v1,_,v2.at.all agg_ent rfl,w18,x1,w19,by show RuU (Instr.storeAt _ _ (.int .i64 (IntKind.i64.wrap (IntKind.i64.wrap ((n:Int)*8)+(j:Int))))) _ _; rw [ew]; exact y1,w20,t1,hrt w20 (farO _ (.inl rfl) hd13) (farO _ (.inr rfl) hl13) (by omega) ⟨R',e,n*8+j,?_,(x2.keep y3 (by show ¬ w1.heap.size=w2.heap.size; omega)).keep t3 (by show ¬ w1.heap.size=w3.heap.size; omega),y2.keep t3 (by show ¬ w2.heap.size=w3.heap.size; omega),t2,up_to (seekD_step F i nm) ((seekN _ ho).trans (congrArg (fun e=>some (e,n*8+j)) he)) (by omega)⟩⟩
   refine (((g14.nos M17).st x3 (fun z e=>⟨?_,?_⟩) (by omega)).st y3 (fun z e=>⟨?_,?_⟩) (by omega)).st t3 (fun z e=>⟨?_,?_⟩) (by omega)
   ·have e:z=w1.heap.size:=e
    rw [e]; exact g.no (nq (by omega) (by omega)) (by omega)
   ·have e:z=w1.heap.size:=e
    omega
   ·have e:z=w2.heap.size:=e
    rw [e]; exact g.no (nq (by omega) (by omega)) (by omega)
   ·have e:z=w2.heap.size:=e
    omega
   ·have e:z=w3.heap.size:=e
    rw [e]; exact g.no (nq (by omega) (by omega)) (by omega)
   ·have e:z=w3.heap.size:=e
    omega
 ·rintro R' W ⟨g,pD,p3,p4,p5,j5,j6,j7,j8,j9⟩ hz hd'
  obtain ⟨w18,x1,x2,x3,x4⟩:=j6.put (T:=82) (vs:=eV dtZ) agg_ent rfl rfl (one_eV _)
  obtain ⟨w19,y1,y2,y3,y4⟩:=(j7.keep x3 (by show ¬ w2.heap.size=w1.heap.size; omega)).put1 (P:=Tryz.prog) (T:=3) (v:=.int .i64 0) sc_int rfl
  obtain ⟨w20,t1,t2,t3,t4⟩:=((j8.keep x3 (by show ¬ w3.heap.size=w1.heap.size; omega)).keep y3 (by show ¬ w3.heap.size=w2.heap.size; omega)).put1 (P:=Tryz.prog) (T:=24) (v:=.int .i64 20) sc_errno rfl
  have md:=Mod.putObj w20 w11.heap.size (.deferred none)
  have k6:=((x2.keep y3 (by show ¬ w1.heap.size=w2.heap.size; omega)).keep t3 (by show ¬ w1.heap.size=w3.heap.size; omega)).keep md (by show ¬ w1.heap.size=w11.heap.size; omega)
  have k7:=(y2.keep t3 (by show ¬ w2.heap.size=w3.heap.size; omega)).keep md (by show ¬ w2.heap.size=w11.heap.size; omega)
  have k8:=t2.keep md (by show ¬ w3.heap.size=w11.heap.size; omega)
  have gE:Dg R R5 w w11.heap.size f a v d F R' (w20.putObj w11.heap.size (.deferred none)):=by
   refine (((g.st x3 (fun z e=>⟨?_,?_⟩) (by omega)).st y3 (fun z e=>⟨?_,?_⟩) (by omega)).st t3 (fun z e=>⟨?_,?_⟩) (by omega)).st md (fun z e=>⟨?_,?_⟩) (by omega)
   ·have e:z=w1.heap.size:=e
    rw [e]; exact g.no (nq (by omega) (by omega)) (by omega)
   ·have e:z=w1.heap.size:=e
    omega
   ·have e:z=w2.heap.size:=e
    rw [e]; exact g.no (nq (by omega) (by omega)) (by omega)
   ·have e:z=w2.heap.size:=e
    omega
   ·have e:z=w3.heap.size:=e
    rw [e]; exact g.no (nq (by omega) (by omega)) (by omega)
   ·have e:z=w3.heap.size:=e
    omega
   ·have e:z=w11.heap.size:=e
    rw [e]; exact g.no (n5 (by omega)) (by omega)
   ·have e:z=w11.heap.size:=e
    omega
  rw [j9] at hk
  exact ⟨_,build_ent0,w18,x1,w19,y1,w20,t1,t3.keep (y3.keep (x3.keep hd' (by show ¬ w11.heap.size=w1.heap.size; omega)) (by show ¬ w11.heap.size=w2.heap.size; omega)) (by show ¬ w11.heap.size=w3.heap.size; omega),_,k6.at.all agg_ent rfl,_,k7.at.one sc_int,_,k8.at.one sc_errno,hk _ R' gE.md (gE.up (by omega) S5) gE.fo⟩
 ·rintro W ⟨R',e,j,g,j6,j7,j8,j9⟩ hz hd'
  have md:=Mod.putObj W w11.heap.size (.deferred none)
  have gE:=g.st md (fun z e=>⟨by have e:z=w11.heap.size:=e; rw [e]; exact g.no (n5 (by omega)) (by omega),by have e:z=w11.heap.size:=e; omega⟩) (by omega)
  rw [j9] at hk
  exact ⟨hd',_,(j6.keep md (by show ¬ w1.heap.size=w11.heap.size; omega)).at.all agg_ent rfl,_,(j7.keep md (by show ¬ w2.heap.size=w11.heap.size; omega)).at.one sc_int,_,(j8.keep md (by show ¬ w3.heap.size=w11.heap.size; omega)).at.one sc_errno,hk _ R' gE.md (gE.up (by omega) S5) gE.fo⟩
set_option maxRecDepth 4000 in
theorem dirRoom_c {k:Int} {i:Nd} (h63:k<=9223372036854775807) (hD:AtU w D 0 [.pointer (some ⟨f,0,none⟩)]) (hnD:¬ R D) (h:Fo R w f a v d F) (hE:dirE F k=0) (hi:(slotV F.A.V F.A.s.geo k).1=i) (ok:okD F i)
  (hk:∀ w' R',Mod R w w'->Sb R R' w->Fo R' w' f a v d F->K (.int .i64 (match freeD F i (nBk i) with | some j=>(j:Int) | none=>-1)) w') :
  Cal Tryz.prog F_dir_Dirs_room #[.pointer (some ⟨D,0,none⟩),.int .i64 k,.agg ⟨nV i⟩] w K:=by
 apply C_dir_Dirs_room
 unfold D_dir_Dirs_room
 have hlt:=h.lt
 have hd:=h.dlt
 have hDl:=hD.lt
 have hw:nWf i:=by rw [<- hi]; exact slotV_wf _ _ _
 obtain ⟨w1,a1,a2,a3,a4⟩:=box_u (P:=Tryz.prog) (w:=w) (T:=51) (cs:=nV i)
 obtain ⟨w2,b1,b2,b3,b4⟩:=new_u (P:=Tryz.prog) (w:=w1) (T:=3) zero_int
 have M2:Mod No w w2:=a3.no b3
 refine ⟨_,w1,a1,_,w2,b1,_,(a2.keep b3 id).at.all agg_ino (nV_len hw),dBlocks_c fun w3 m3 z3 r3 r4 r5=>⟨_,rfl,?_⟩⟩
 have M3:=M2.no m3
 have n0:∀ {q:Nat},w.heap.size<=q->¬ R q:=fun h e=>by have:=hlt _ e; omega
 refine range_it (blk_it (q3:=w2.heap.size) (q4:=w2.heap.size+1) (q5:=w2.heap.size+2) (lo:=w3.heap.size+2) (D:=D) (f:=f) (a:=a) (v:=v) (d:=d) h63 (thF_dir hE) hi hw ok) rfl R
  (fun n R' W=>Dg R R w w3.heap.size f a v d F R' W/\AtU W D 0 [.pointer (some ⟨f,0,none⟩)]/\AtU W w2.heap.size 0 [.pointer (some ⟨D,0,none⟩)]/\AtU W (w2.heap.size+1) 0 [.int .i64 k]/\AtU W (w2.heap.size+2) 0 (nV i)/\AtU W w1.heap.size 0 [.int .i64 0]/\freeD F i n=none)
  (fun W=>∃ (R':Nat->Prop) (j:Nat),Dg R R w w3.heap.size f a v d F R' W/\AtU W w1.heap.size 0 [.int .i64 (j:Int)]/\freeD F i (nBk i)=some j)
  ⟨⟨h.nos M3,M3.mono fun _ _ e=>e.elim,fun _ e=>.inl e⟩,hD.keep M3 id,r3,r4,r5,b2.keep m3 id,rfl⟩ ?_ ?_ ?_ ?_ ?_ ?_ ?_ ?_ ?_
 ·rintro n R' W ⟨g,pD,p3,p4,p5,_⟩ hz
  exact ⟨hz,g.fo,p3,pD,p4,p5⟩
 ·rintro n R' W R2 W2 ⟨g,pD,p3,p4,p5,j7,j9⟩ hz ⟨mm,s,fo⟩
  exact ⟨⟨g.mv hz (by omega) (Sb.refl _ _) mm s fo,pD.keep mm (g.no hnD (by omega)),p3.keep mm (g.no (n0 (by omega)) (by omega)),p4.keep mm (g.no (n0 (by omega)) (by omega)),p5.keep mm (g.no (n0 (by omega)) (by omega)),j7.keep mm (g.no (n0 (by omega)) (by omega)),j9⟩,R',mm,g.no (n0 (by omega)) (by omega),g.no (n0 (by omega)) (by omega)⟩
 ·rintro n R' W W2 ⟨g,pD,p3,p4,p5,j7,j9⟩ mm
  have lo:∀ q,q<w3.heap.size->¬ (q=w3.heap.size\/q=w3.heap.size+1):=fun q h e=>by omega
  refine ⟨g.st mm (fun z e=>⟨?_,by omega⟩) (by omega),pD.keep mm (lo _ (by omega)),p3.keep mm (lo _ (by omega)),p4.keep mm (lo _ (by omega)),p5.keep mm (lo _ (by omega)),j7.keep mm (lo _ (by omega)),j9⟩
  rcases e with e | e <;> exact g.no (n0 (by omega)) (by omega)
 ·rintro W W2 ⟨R',j,g,j7,j9⟩ mm
  refine ⟨R',j,g.st mm (fun z e=>⟨?_,by omega⟩) (by omega),j7.keep mm (show ¬ (_\/_) by omega),j9⟩
  rcases e with e | e <;> exact g.no (n0 (by omega)) (by omega)
 ·rintro n R' W hn hs ⟨g,pD,p3,p4,p5,j7,j9⟩
  exact ⟨g,pD,p3,p4,p5,j7,by rw [freeD,j9]; show (if pB i n=0 then none else _)=none; rw [if_pos hs]⟩
 ·rintro n ys R' W ⟨_,gb,cc,rfl,_⟩
  rfl
 ·rintro n ys R' W bgn fin dd lo' lb hn ⟨hp,gb,cc,rfl,hat,hl,hcc,hng,hlo⟩ ⟨g,pD,p3,p4,p5,j7,j9⟩ hz hd' hl' hbg hfn hrt
  refine ⟨_,rfl,_,_,_,rfl,hbg _ W hd' hl' fun w13 m13 z13 hd13 hl13=>?_⟩
  have lo:∀ q,q<w3.heap.size->¬ (q=w3.heap.size\/q=w3.heap.size+1):=fun q h e=>by omega
  have g13:=g.st m13 (fun z e=>⟨by rcases e with e | e <;> exact g.no (n0 (by omega)) (by omega),by omega⟩) (by omega)
  have hat13:=hat.keep m13 (show ¬ (gb=_\/gb=_) by omega)
  have freeN:∀ o,roomD (blkF F i n) 8=o->freeD F i (n+1)=match o with | some j=>some (n*8+j) | none=>none:=fun o ho=>by
   rw [freeD,j9]; show (if pB i n=0 then none else _)=_; rw [if_neg hp,ho]; all_goals (cases o <;> rfl)
  refine dRoom_c hl hcc (.inr ⟨_,_,rfl,hat13.at⟩) ⟨_,rfl,?_⟩
  have far:∀ {q:Nat} {cs:List Value},q<w3.heap.size->AtU W q 0 cs->AtU w13 q 0 cs:=fun h1 ha=>ha.keep m13 (lo _ h1)
  cases ho:roomD (blkF F i n) 8 with
  | none =>
   exact ff rfl (hfn w13 hd13 hl13 (by omega) ⟨R',g13,far (by omega) pD,far (by omega) p3,far (by omega) p4,far (by omega) p5,far (by omega) j7,freeN _ ho⟩)
  | some j =>
   have hj:=roomD_lt ho
   have hn6:=ok.1
   have ew:IntKind.i64.wrap (IntKind.i64.wrap ((n:Int)*8)+(j:Int))=((n*8+j:Nat):Int):=by rw [wrap64 (x:=(n:Int)*8) (by omega) (by omega),wrap64 (by omega) (by omega)]; omega
   obtain ⟨w19,y1,y2,y3,y4⟩:=(far (by omega) j7).put1 (P:=Tryz.prog) (T:=3) (v:=.int .i64 ((n*8+j:Nat):Int)) sc_int rfl
   refine tt (decide_eq_true (by show (j:Int) >= 0; omega)) ⟨w19,by show RuU (Instr.storeAt _ _ (.int .i64 (IntKind.i64.wrap (IntKind.i64.wrap ((n:Int)*8)+(j:Int))))) _ _; rw [ew]; exact y1,hrt w19 (y3.keep hd13 (by show ¬ w3.heap.size=w1.heap.size; omega)) (y3.keep hl13 (by show ¬ w3.heap.size+1=w1.heap.size; omega)) (by omega) ⟨R',n*8+j,g13.st y3 (fun z e=>⟨?_,?_⟩) (by omega),y2,up_to (freeD_step F i) (freeN _ ho) (by omega)⟩⟩
   ·have e:z=w1.heap.size:=e
    rw [e]; exact g.no (n0 (by omega)) (by omega)
   ·have e:z=w1.heap.size:=e
    omega
 ·rintro R' W ⟨g,pD,p3,p4,p5,j7,j9⟩ hz hd'
  obtain ⟨w19,y1,y2,y3,y4⟩:=j7.put1 (P:=Tryz.prog) (T:=3) (v:=.int .i64 (-1)) sc_int rfl
  have md:=Mod.putObj w19 w3.heap.size (.deferred none)
  have gE:Dg R R w w3.heap.size f a v d F R' (w19.putObj w3.heap.size (.deferred none)):=by
   refine (g.st y3 (fun z e=>⟨?_,?_⟩) (by omega)).st md (fun z e=>⟨?_,?_⟩) (by omega)
   ·have e:z=w1.heap.size:=e
    rw [e]; exact g.no (n0 (by omega)) (by omega)
   ·have e:z=w1.heap.size:=e
    omega
   ·have e:z=w3.heap.size:=e
    rw [e]; exact g.no (n0 (by omega)) (by omega)
   ·have e:z=w3.heap.size:=e
    omega
  rw [j9] at hk
  exact ⟨w19,y1,y3.keep hd' (by show ¬ w3.heap.size=w1.heap.size; omega),_,(y2.keep md (by show ¬ w1.heap.size=w3.heap.size; omega)).at.one sc_int,hk _ R' gE.md (gE.up (by omega) (Sb.refl _ _)) gE.fo⟩
 ·rintro W ⟨R',j,g,j7,j9⟩ hz hd'
  have md:=Mod.putObj W w3.heap.size (.deferred none)
  have gE:=g.st md (fun z e=>⟨by have e:z=w3.heap.size:=e; rw [e]; exact g.no (n0 (by omega)) (by omega),by have e:z=w3.heap.size:=e; omega⟩) (by omega)
  rw [j9] at hk
  exact ⟨hd',_,(j7.keep md (by show ¬ w1.heap.size=w3.heap.size; omega)).at.one sc_int,hk _ R' gE.md (gE.up (by omega) (Sb.refl _ _)) gE.fo⟩
end
end Go.Proofs.YtandmpcjjaabmaaGreat
end
section
open Go Go.Den Go.Proofs
namespace Go.Proofs.YtandmpcjjaabmaaGreat
structure Dir1 (F:Fy) (k:Int) (i:Nd) (b:Int) (x:Bk):Prop where
 sl:slotV F.A.V F.A.s.geo k=(i,0)
 kd:i.kind=2
 sz:i.size=256
 pb:pB i 0=b
 gk:(gKind F.A.s.geo b).1=4
 ct:contV F.A.V b.toNat=x
 mu:MuF F
structure Dir0 (F:Fy) (k:Int) (i:Nd):Prop where
 sl:slotV F.A.V F.A.s.geo k=(i,0)
 kd:i.kind=2
 sz:i.size=0
 pb:pB i 0=0
 mu:MuF F
def layF (F:Fy) (k b:Int) (j:Nat) (e:Dt):Fy:=setF F k b ((j*32:Nat):Int) (enB e) (F.mi k)
def z256:Bk:=List.replicate 256 0
def addF (F:Fy) (k:Int) (i:Nd):Fy:=wrF F k i z256
def addI (F:Fy) (i:Nd):Nd:=endI (setP i 0 (blockA F.A 0).2.1) 256
theorem elemG_64s:elemG Tryz.prog 65 1 8:=elemG_of (by kernel_rfl)
theorem build_ent02 (s:Int) (x:Bs):Al (Instr.build 82 #[(0,.int .i64 s),(2,.string (sB x))]) (.agg ⟨eV ⟨s,false,x⟩⟩):=fun w=>by kernel_rfl
section
variable {w w':World} {R R':Nat->Prop} {f a v d D:Nat} {F:Fy} {K:Value->World->Prop} {k b:Int} {i:Nd} {x:Bk}
theorem Dir1.dir (q:Dir1 F k i b x):dirE F k=0:=by
 unfold dirE
 rw [q.sl,if_neg (fun e=>e rfl),if_neg (by rw [q.kd]; decide),if_neg (by rw [q.kd]; decide)]
theorem Dir0.dir (q:Dir0 F k i):dirE F k=0:=by
 unfold dirE
 rw [q.sl,if_neg (fun e=>e rfl),if_neg (by rw [q.kd]; decide),if_neg (by rw [q.kd]; decide)]
theorem Dir1.nb (q:Dir1 F k i b x):nBk i=1:=by unfold nBk; rw [q.sz]; rfl
theorem Dir0.nb (q:Dir0 F k i):nBk i=0:=by unfold nBk; rw [q.sz]; rfl
theorem Dir1.b0 (q:Dir1 F k i b x):b≠0:=by obtain ⟨_,h,_⟩:=gKind_4 q.gk; omega
theorem Dir1.ok (q:Dir1 F k i b x):okD F i:=⟨by rw [q.nb]; omega,by rw [q.sz]; omega,by rw [q.sz]; omega,fun n hn _=>by
 rw [q.nb] at hn
 have:n=0:=by omega
 rw [this,q.pb]; exact q.gk⟩
theorem Dir0.ok (q:Dir0 F k i):okD F i:=⟨by rw [q.nb]; omega,by rw [q.sz]; omega,by rw [q.sz]; omega,fun n hn _=>by rw [q.nb] at hn; omega⟩
theorem Dir1.blk (q:Dir1 F k i b x):blkF F i 0=x:=by unfold blkF; rw [q.pb,q.ct]
theorem Dir1.list (q:Dir1 F k i b x):listD F i (nBk i)=entsD x 8:=by rw [q.nb,listD_some (by rw [q.pb]; exact q.b0),q.blk]; rfl
theorem Dir1.seek (q:Dir1 F k i b x) (nm:Bs):seekD F i nm (nBk i)=match findD x nm 8 with | some j=>some ((getE (enAt x j)).1,j) | none=>none:=by
 rw [q.nb,seekD]
 show (if pB i 0=0 then none else match findD (blkF F i 0) nm 8 with | some j=>some ((getE (enAt (blkF F i 0) j)).1,0*8+j) | none=>none)=_
 rw [if_neg (by rw [q.pb]; exact q.b0),q.blk]
 cases findD x nm 8 <;> simp
theorem Dir0.seek (q:Dir0 F k i) (nm:Bs):seekD F i nm (nBk i)=none:=by rw [q.nb]; rfl
theorem Dir1.free (q:Dir1 F k i b x):freeD F i (nBk i)=roomD x 8:=by
 rw [q.nb,freeD]
 show (if pB i 0=0 then none else match roomD (blkF F i 0) 8 with | some j=>some (0*8+j) | none=>none)=_
 rw [if_neg (by rw [q.pb]; exact q.b0),q.blk]
 cases roomD x 8 <;> simp
theorem Dir0.free (q:Dir0 F k i):freeD F i (nBk i)=none:=by rw [q.nb]; rfl
theorem Dir1.lay (q:Dir1 F k i b x) (hH:HdsAt F.A.V F.A.s.geo F.A.hs) {j:Nat} (hj:j<8) {e:Dt} (he:enOk e=true):Dir1 (layF F k b j e) k i b (overB x (j*32) (enB e)):=by
 have hl:=enB_len he
 have hE:patE F.A.V b ((j*32:Nat):Int) (enB e) (F.mi k)=0:=setD_E hH q.gk (by omega) (by omega) (by omega) (badA_of fun x hx=>(q.mu k x hx).2)
 refine ⟨?_,q.kd,q.sz,q.pb,q.gk,?_,q.mu.set hE⟩
 ·exact (setD_slot hH q.gk hE k).trans q.sl
 ·show contV (patS F.A.V b ((j*32:Nat):Int) (enB e) (F.mi k)) b.toNat=_
  rw [contV_pat hE,if_pos rfl,q.ct,Int.toNat_natCast]
set_option maxRecDepth 4000 in
theorem lay_c {e:Dt} {j:Nat} (h63:k<=9223372036854775807) (hD:AtU w D 0 [.pointer (some ⟨f,0,none⟩)]) (hnD:¬ R D) (h:Fo R w f a v d F) (q:Dir1 F k i b x) (hj:j<8) (he:enOk e=true) (hlast:F.A.V.last+1<=1000000) (hml:(F.mi k).length<=1000000)
  (hk:∀ w' R',Mod R w w'->Sb R R' w->Fo R' w' f a v d (layF F k b j e)->K (.tuple #[.int .i64 ((F.A.V.last:Int)+1),.int .i64 0]) w') :
  Cal Tryz.prog F_dir_Dirs_lay #[.pointer (some ⟨D,0,none⟩),.int .i64 k,.int .i64 (j:Int),.agg ⟨eV e⟩,.slice none 0 0] w K:=by
 apply C_dir_Dirs_lay
 unfold D_dir_Dirs_lay
 have hlt:=h.lt
 have hd:=h.dlt
 obtain ⟨_,_,hnm⟩:=enOk_b he
 obtain ⟨w1,a1,a2,a3,a4⟩:=box_u (P:=Tryz.prog) (w:=w) (T:=82) (cs:=eV e)
 refine ⟨_,w1,a1,_,a2.at.all agg_ent rfl,dPut_c (by omega) (fun e=>by rw [he] at e; cases e) fun _ w2 qb m2 hqb hat=>⟨_,_,_,_,rfl,ff rfl ?_⟩⟩
 have M2:Mod No w (Go.Den.drew w2):=(a3.no m2).drew
 have h2:=h.nos M2
 have D2:=hD.keep M2 id
 have hl:=enB_len he
 refine ⟨_,rfl,_,D2.at.fld (j:=0) (v:=.pointer (some ⟨f,0,none⟩)) sc_pfiles rfl,_,rfl,_,D2.at.fld (j:=0) (v:=.pointer (some ⟨f,0,none⟩)) sc_pfiles rfl,fChanges_c h2 (fun y hy=>(q.mu k y hy).1) hml fun w3 R3 a' c' m3 s3 h3 o3 n3=>⟨_,_,_,rfl,?_⟩⟩
 have D3:=D2.keep m3 hnD
 have L3:=D3.at.fld (P:=Tryz.prog) (T:=46) (j:=0) (v:=.pointer (some ⟨f,0,none⟩)) sc_pfiles rfl
 have ap:=Ow.appG0 (ty:=65) elemG_64s o3
 refine ⟨L3,_,_,_,w3,ap,L3,?_⟩
 have e1:IntKind.i64.wrap (Int.tdiv (j:Int) 8)=((0:Nat):Int):=by
  rw [Int.tdiv_eq_ediv_of_nonneg (by omega),wrap64 (by omega) (by omega)]; omega
 have e2:IntKind.i64.wrap (Int.tmod (j:Int) 8*32)=((j*32:Nat):Int):=by
  rw [Int.tmod_eq_emod_of_nonneg (by omega),wrap64 (by omega) (by omega)]; omega
 rw [e1,e2]
 have z1:=a3.size
 have z2:=M2.size
 refine fPatch_c (data:=enB e) (after:=F.mi k) (b:=b) (f0:=((j*32:Nat):Int)) h63 h3 q.mu (thF_dir q.dir) (by omega) ((congrArg (fun y=>Nd.p (Prod.fst y) |>.getD 0 0) q.sl).trans q.pb) q.gk hlast hml hl (by omega) (by omega) (by omega) (.inr ⟨qb,0,rfl,(hat.drew.keep m3 fun r=>by have:=hlt _ r; omega).at⟩) (fun q' e'=>?_) rfl (fun e'=>by rw [e'] at o3; exact o3.zero) (by omega) (fun y hy=>(q.mu k y hy).2) o3.rowU.row n3 fun w5 R5 m5 s5 h5=>⟨_,_,rfl,hk w5 R5 ?_ ?_ h5⟩
 ·cases e'
  have zb:qb<(Go.Den.drew w2).heap.size:=hat.drew.lt
  have z3:=m3.size
  refine ⟨fun r=>?_,by show qb<_; omega⟩
  rcases s3 _ r with r | r
  ·have:=hlt _ r; have r:qb<w.heap.size:=this; omega
  ·have r:(Go.Den.drew w2).heap.size<=qb:=r; omega
 ·exact Mod.sb ((M2.mono fun _ _ e=>e.elim).trans m3 fun _ _ e=>e) (s3.up z2) m5
 ·exact (s3.up z2).trans (s5.up (Nat.le_refl _)) (by have:=m3.size; omega)
set_option maxRecDepth 4000 in
theorem remove_c {nm:Bs} {j:Nat} (h63:k<=9223372036854775807) (hD:AtU w D 0 [.pointer (some ⟨f,0,none⟩)]) (hnD:¬ R D) (h:Fo R w f a v d F) (q:Dir1 F k i b x) (hf:findD x nm 8=some j) (hlast:F.A.V.last+1<=1000000) (hml:(F.mi k).length<=1000000)
  (hk:∀ w' R',Mod R w w'->Sb R R' w->Fo R' w' f a v d (layF F k b j dtZ)->K (.tuple #[.int .i64 ((F.A.V.last:Int)+1),.int .i64 0]) w') :
  Cal Tryz.prog F_dir_Dirs_Remove #[.pointer (some ⟨D,0,none⟩),.int .i64 k,.string (sB nm),.slice none 0 0] w K:=by
 apply C_dir_Dirs_Remove
 unfold D_dir_Dirs_Remove
 apply C_dir_Dirs_turn
 unfold D_dir_Dirs_turn
 refine find0_c h63 hD hnD h (by rw [q.sl]) (fun e=>absurd q.dir e) (fun _=>q.ok) fun _ w1 R1 m1 s1 h1=>?_
 have eS:seekD F i nm (nBk i)=some ((getE (enAt x j)).1,j):=by rw [q.seek,hf]
 rw [eS]
 generalize (getE (enAt x j)).1=e
 refine ⟨_,_,_,rfl,?_⟩
 obtain ⟨w2,b1,b2,b3,b4⟩:=new_u (P:=Tryz.prog) (w:=w1) (T:=82) zero_ent
 obtain ⟨w3,c1,c2,c3,c4⟩:=b2.put (T:=82) (vs:=eV e) agg_ent rfl rfl (one_eV _)
 have M3:Mod No w1 w3:=b3.own c3 (Nat.le_refl _)
 refine ⟨_,w2,b1,w3,c1,ff rfl ⟨_,c2.at.all agg_ent rfl,.func _,#[],#[],rfl,?_⟩⟩
 apply C_dir_Dirs_Remove_1
 unfold D_dir_Dirs_Remove_1
 obtain ⟨w4,d1,d2,d3,d4⟩:=box_u (P:=Tryz.prog) (w:=w3) (T:=82) (cs:=eV e)
 obtain ⟨w5,e1,e2,e3,e4⟩:=new_u (P:=Tryz.prog) (w:=w4) (T:=82) zero_ent
 obtain ⟨w6,f1,f2,f3,f4⟩:=e2.put (T:=82) (vs:=eV dtZ) agg_ent rfl rfl (one_eV _)
 have M6:Mod No w1 w6:=(M3.no d3).no (e3.own f3 (Nat.le_refl _))
 refine ⟨_,w4,d1,_,w5,e1,_,build_ent0,w6,f1,_,f2.at.all agg_ent rfl,_,rfl,?_⟩
 have hDl:=hD.lt
 refine lay_c (e:=dtZ) (j:=j) h63 ((hD.keep m1 hnD).keep M6 id) (fun r=>(s1 _ r).elim hnD fun e=>by omega) (h1.nos M6) q (findD_lt hf) (by decide) hlast hml fun w7 R7 m7 s7 h7=>⟨_,_,rfl,_,_,rfl,hk w7 R7 ?_ ?_ h7⟩
 ·exact Mod.sb (m1.no M6) s1 m7
 ·have:=m1.size
  exact s1.trans (s7.up M6.size) (by omega)
set_option maxRecDepth 4000 in
theorem add1_c {nm:Bs} {s:Int} {j:Nat} (h63:k<=9223372036854775807) (hD:AtU w D 0 [.pointer (some ⟨f,0,none⟩)]) (hnD:¬ R D) (h:Fo R w f a v d F) (q:Dir1 F k i b x) (hnm:nameB nm=true) (hf:findD x nm 8=none) (hs:s≠0) (he:enOk ⟨s,false,nm⟩=true) (hr:roomD x 8=some j) (hlast:F.A.V.last+1<=1000000) (hml:(F.mi k).length<=1000000)
  (hk:∀ w' R',Mod R w w'->Sb R R' w->Fo R' w' f a v d (layF F k b j ⟨s,false,nm⟩)->K (.tuple #[.int .i64 ((F.A.V.last:Int)+1),.int .i64 0]) w') :
  Cal Tryz.prog F_dir_Dirs_Add #[.pointer (some ⟨D,0,none⟩),.int .i64 k,.string (sB nm),.int .i64 s,.slice none 0 0] w K:=by
 apply C_dir_Dirs_Add
 unfold D_dir_Dirs_Add
 have hDl:=hD.lt
 have hlt:=h.lt
 have hnl:=(nameB_len hnm).2
 have hw:nWf i:=by have:=slotV_wf F.A.V F.A.s.geo k; rw [q.sl] at this; exact this
 refine dDir_c h63 hD h fun w1 R1 m1 s1 h1=>⟨_,_,rfl,?_⟩
 rw [q.sl,q.dir]
 obtain ⟨w2,b1,b2,b3,b4⟩:=new_u (P:=Tryz.prog) (w:=w1) (T:=51) zero_ino
 obtain ⟨w3,c1,c2,c3,c4⟩:=b2.put (T:=51) (vs:=nV i) agg_ino rfl (nV_len hw) (one_nV _)
 have M3:Mod No w1 w3:=b3.own c3 (Nat.le_refl _)
 refine ⟨_,w2,b1,w3,c1,ff rfl (dName_c (by omega) fun w4 m4=>⟨_,rfl,ff (by rw [hnm]; rfl) ?_⟩)⟩
 have M4:=M3.no m4
 have nD1:¬ R1 D:=fun r=>(s1 _ r).elim hnD fun e=>by omega
 have D4:=(hD.keep m1 hnD).keep M4 id
 have h4:=h1.nos M4
 refine find0_c h63 D4 nD1 h4 (by rw [q.sl]) (fun e=>absurd q.dir e) (fun _=>q.ok) fun _ w5 R5 m5 s5 h5=>?_
 rw [q.seek,hf]
 refine ⟨_,_,_,rfl,?_⟩
 obtain ⟨w6,d1,d2,d3,d4⟩:=new_u (P:=Tryz.prog) (w:=w5) (T:=82) zero_ent
 obtain ⟨w7,e1,e2,e3,e4⟩:=d2.put (T:=82) (vs:=eV dtZ) agg_ent rfl rfl (one_eV _)
 obtain ⟨w8,f1,f2,f3,f4⟩:=new_u (P:=Tryz.prog) (w:=w7) (T:=82) zero_ent
 obtain ⟨w9,g1,g2,g3,g4⟩:=f2.put (T:=82) (vs:=eV ⟨s,false,nm⟩) agg_ent rfl rfl (one_eV _)
 have M9:Mod No w5 w9:=(d3.own e3 (Nat.le_refl _)).no (f3.own g3 (Nat.le_refl _))
 refine ⟨_,w6,d1,w7,e1,ff rfl ⟨_,build_ent02 s nm,_,w8,f1,w9,g1,_,g2.at.all agg_ent rfl,dPut_c (e:=⟨s,false,nm⟩) (by show nm.length<=_; omega) (fun e=>by rw [he] at e; cases e) fun _ w10 qb m10 _ _=>⟨_,_,_,_,rfl,Share.dup (ff rfl ⟨_,rfl,?_⟩)⟩⟩⟩
 have M10:=M9.no m10
 have nD5:¬ R5 D:=fun r=>(s5 _ r).elim nD1 fun e=>by have:=D4.lt; omega
 have D10:=(D4.keep m5 nD1).keep M10 id
 have z1:=m1.size
 have z4:=M4.size
 have z5:=m5.size
 have z7:w5.heap.size<=w7.heap.size:=(d3.own e3 (Nat.le_refl _)).size
 have n1:¬ R1 w1.heap.size:=fun e=>by have:=h1.lt _ e; omega
 have q10:AtU w10 w1.heap.size 0 (nV i):=((c2.keep m4 id).keep m5 n1).keep M10 id
 have g10:=g2.keep m10 id
 refine ff (by rw [beqI]; exact decide_eq_false hs) ⟨_,q10.at.all agg_ino (nV_len hw),dirRoom_c h63 D10 nD5 (h5.nos M10) q.dir (by rw [q.sl]) q.ok fun w12 R12 m12 s12 h12=>⟨_,rfl,?_⟩⟩
 rw [q.free,hr]
 have n7:¬ R5 w7.heap.size:=fun e=>by have:=h5.lt _ e; omega
 refine Share.dup (ff (decide_eq_false (by show ¬ (j:Int)<0; omega)) ⟨_,rfl,_,(g10.keep m12 n7).at.all agg_ent rfl,?_⟩)
 refine lay_c (e:=⟨s,false,nm⟩) h63 (D10.keep m12 nD5) (fun r=>(s12 _ r).elim nD5 fun e=>by have:=D10.lt; omega) h12 q (roomD_lt hr) he hlast hml fun w13 R13 m13 s13 h13=>⟨_,_,rfl,hk w13 R13 ?_ ?_ h13⟩
 ·exact Mod.sb (Mod.sb (Mod.sb (m1.no M4) s1 (m5.no M10)) (s1.trans (s5.up z4) z1) m12) (s1.trans ((s5.up z4).trans (s12.up M10.size) (by omega)) z1) m13
 ·have z12:=m12.size
  have z10:=M10.size
  exact s1.trans (((s5.up z4).trans (s12.up z10) (by omega)).trans (s13.up (Nat.le_refl _)) (by omega)) z1
end
end Go.Proofs.YtandmpcjjaabmaaGreat
end
section
open Go Go.Den Go.Proofs
namespace Go.Proofs.YtandmpcjjaabmaaGreat
section
variable {w w':World} {R R':Nat->Prop} {f a v d D:Nat} {F:Fy} {K:Value->World->Prop} {k b:Int} {i:Nd} {x:Bk}
structure AddOk (F:Fy) (k:Int) (i:Nd):Prop where
 fr:needS 0 256<=(freeA F.A F.A.s.geo.gs.toNat).1
 bl:okB F 0
 no:nOk (addI F i)=true
 gp:(gPlace F.A.s.geo k).2.2=0
 la:F.A.V.last+20<=1000000
 ml:(F.mi k).length+20<=1000000
theorem z256_len:z256.length=256:=List.length_replicate
theorem pcB_z:pcB z256 0=z256:=by
 unfold pcB
 rw [Nat.mul_zero,List.drop_zero,List.take_of_length_le (by rw [z256_len]; omega),z256_len,Nat.sub_self,List.replicate_zero,List.append_nil]
theorem addF_eq (F:Fy) (k:Int) (i:Nd):addF F k i=putF (wrS F k i z256 1).F k (addI F i) (wrS F k i z256 1).af:=by
 unfold addF wrF
 rw [z256_len]; rfl
theorem Dir0.add (q:Dir0 F k i) (ok:AddOk F k i) (hM:MuF (wrS F k i z256 1).F) (haf:∀ y∈(wrS F k i z256 1).af,1<=y/\y<=((wrS F k i z256 1).F.A.V.last:Int))
  (hd:HdsAt (wrS F k i z256 1).F.A.V (wrS F k i z256 1).F.A.s.geo (wrS F k i z256 1).F.A.hs/\WFS (wrS F k i z256 1).F.A.V/\WF (wrS F k i z256 1).F.A.V.C.D):Dir1 (addF F k i) k (addI F i) (blockA F.A 0).2.1 z256/\(addF F k i).A.V.last<=F.A.V.last+3/\((addF F k i).mi k).length<=(F.mi k).length+2/\(addF F k i).A.s=F.A.s:=by
 have hw:nWf i:=by have:=slotV_wf F.A.V F.A.s.geo k; rw [q.sl] at this; exact this
 obtain ⟨h1,h2,h3,_,_,_,h7,h8,h9,_⟩:=wrS_in F k hw z256 1
 have hwI:nWf (addI F i):=setP_wf hw _ _
 have gp:(gPlace (wrS F k i z256 1).F.A.s.geo k).2.2=0:=by rw [h2]; exact ok.gp
 have hbd:=badA_of haf
 have hbg:=ok.bl.2
 obtain ⟨_,g1,g2,_⟩:=gKind_4 hbg
 have hA:(addF F k i).A=setIA (wrS F k i z256 1).F.A k (addI F i) (wrS F k i z256 1).af:=by rw [addF_eq]; rfl
 have hE:=setI_E (k:=k) (i:=addI F i) hd.1 hwI gp hbd
 have hE':patE (blockA F.A 0).1.V (blockA F.A 0).2.1 0 (pcB z256 0) []=0:=by
  refine patE_fit (by omega) ?_ (by rw [pcB_len]; omega) (by omega) (by rw [pcB_len]; omega) rfl
  have e:(wrS F k i z256 1).F.A.V.C.D.vs.length=(blockA F.A 0).1.V.C.D.vs.length:=by
   show (patS _ _ _ _ _).C.D.vs.length=_; rw [patS_C0]; rfl
  have:=hd.1.2.1
  rw [h2,e] at this
  omega
 have hcl:(contV (wrS F k i z256 1).F.A.V (blockA F.A 0).2.1.toNat).length=256:=cont_len hd.2.1 hd.2.2 (by have:=hd.1.2.1; rw [h2] at this; omega)
 have hct:contV (wrS F k i z256 1).F.A.V (blockA F.A 0).2.1.toNat=z256:=by
  have e:contV (wrS F k i z256 1).F.A.V (blockA F.A 0).2.1.toNat=overB (contV (blockA F.A 0).1.V (blockA F.A 0).2.1.toNat) 0 (pcB z256 0):=by
   show contV (patS (blockA F.A 0).1.V (blockA F.A 0).2.1 0 (pcB z256 0) []) _=_
   rw [contV_pat hE',if_pos rfl]; rfl
  rw [e] at hcl |-
  unfold overB at hcl |-
  rw [List.length_append,List.length_append,pcB_len,List.length_drop] at hcl
  rw [pcB_len,List.take_zero,List.nil_append,List.drop_eq_nil_of_le (by omega),List.append_nil,pcB_z]
 rw [addF_eq] at hA |-
 have hs0:(putF (wrS F k i z256 1).F k (addI F i) (wrS F k i z256 1).af).A.s=F.A.s:=h2
 refine ⟨⟨?_,?_,?_,?_,?_,?_,?_⟩,?_,?_,hs0⟩
 ·have:=setI_slot hd.1 hd.2 hwI ok.no gp hbd k
  rw [if_pos rfl] at this
  exact this
 ·show i.kind=2
  exact q.kd
 ·show (if (setP i 0 (blockA F.A 0).2.1).kind=2 then ((256:Int)+255) / 256*256 else 256)=256
  split <;> rfl
 ·show (i.p.set 0 (blockA F.A 0).2.1).getD 0 0=_
  have hl:i.p.length=8:=hw
  rw [List.getD_eq_getElem?_getD,List.getElem?_set_self (by omega)]; rfl
 ·show (gKind (wrS F k i z256 1).F.A.s.geo _).1=4
  rw [h2]; exact hbg
 ·rw [hA]
  show contV (patS _ _ _ _ _) _=_
  rw [contV_pat hE,if_neg,hct]
  have hg:=hd.1.1
  obtain ⟨_,n0,n1,_⟩:=gPlace_b (g:=(wrS F k i z256 1).F.A.s.geo) (s:=k) (b:=(gPlace (wrS F k i z256 1).F.A.s.geo k).1) (p:=(gPlace (wrS F k i z256 1).F.A.s.geo k).2.1) (by rw [<- gp])
  obtain ⟨k',j',q',e1,hk',hj',_⟩:=gPlace_in hg n0 n1
  obtain ⟨k2,j2,e2,hk2,hj2,hj3⟩:=data_at (g:=(wrS F k i z256 1).F.A.s.geo) (b:=(blockA F.A 0).2.1) (by rw [h2]; exact hbg)
  rw [e1]
  intro e
  rw [e2] at e
  exact tab_data hg hj' hj2 hj3 e.symm
 ·exact hM.put (A0:=(wrS F k i z256 1).F.A) rfl hd.1 hwI gp hbd
 ·have:=(pat_last (wrS F k i z256 1).F.A.V (gPlace (wrS F k i z256 1).F.A.s.geo k).1 (64*(gPlace (wrS F k i z256 1).F.A.s.geo k).2.1) (inoB (addI F i)) (wrS F k i z256 1).af).2
  refine Nat.le_trans this ?_
  omega
 ·show (if k=k then (wrS F k i z256 1).F.mi k++_ else _).length<=_
  rw [if_pos rfl,List.length_append,h8]; simp
set_option maxRecDepth 4000 in
theorem add0_c {nm:Bs} {s:Int} (h63:k<=9223372036854775807) (hD:AtU w D 0 [.pointer (some ⟨f,0,none⟩)]) (hnD:¬ R D) (h:Fo R w f a v d F) (q:Dir0 F k i) (ok:AddOk F k i) (hnm:nameB nm=true) (hs:s≠0) (he:enOk ⟨s,false,nm⟩=true)
  (hk:∀ w' R' y,Mod R w w'->Sb R R' w->Fo R' w' f a v d (layF (addF F k i) k (blockA F.A 0).2.1 0 ⟨s,false,nm⟩)->Dir1 (addF F k i) k (addI F i) (blockA F.A 0).2.1 z256->HdsAt (addF F k i).A.V (addF F k i).A.s.geo (addF F k i).A.hs->K (.tuple #[.int .i64 y,.int .i64 0]) w') :
  Cal Tryz.prog F_dir_Dirs_Add #[.pointer (some ⟨D,0,none⟩),.int .i64 k,.string (sB nm),.int .i64 s,.slice none 0 0] w K:=by
 apply C_dir_Dirs_Add
 unfold D_dir_Dirs_Add
 have hDl:=hD.lt
 have hlt:=h.lt
 have hnl:=(nameB_len hnm).2
 have hw:nWf i:=by have:=slotV_wf F.A.V F.A.s.geo k; rw [q.sl] at this; exact this
 refine dDir_c h63 hD h fun w1 R1 m1 s1 h1=>⟨_,_,rfl,?_⟩
 rw [q.sl,q.dir]
 obtain ⟨w2,b1,b2,b3,b4⟩:=new_u (P:=Tryz.prog) (w:=w1) (T:=51) zero_ino
 obtain ⟨w3,c1,c2,c3,c4⟩:=b2.put (T:=51) (vs:=nV i) agg_ino rfl (nV_len hw) (one_nV _)
 have M3:Mod No w1 w3:=b3.own c3 (Nat.le_refl _)
 refine ⟨_,w2,b1,w3,c1,ff rfl (dName_c (by omega) fun w4 m4=>⟨_,rfl,ff (by rw [hnm]; rfl) ?_⟩)⟩
 have M4:=M3.no m4
 have nD1:¬ R1 D:=fun r=>(s1 _ r).elim hnD fun e=>by omega
 have D4:=(hD.keep m1 hnD).keep M4 id
 have h4:=h1.nos M4
 refine find0_c h63 D4 nD1 h4 (by rw [q.sl]) (fun e=>absurd q.dir e) (fun _=>q.ok) fun _ w5 R5 m5 s5 h5=>?_
 rw [q.seek]
 refine ⟨_,_,_,rfl,?_⟩
 obtain ⟨w6,d1,d2,d3,d4⟩:=new_u (P:=Tryz.prog) (w:=w5) (T:=82) zero_ent
 obtain ⟨w7,e1,e2,e3,e4⟩:=d2.put (T:=82) (vs:=eV dtZ) agg_ent rfl rfl (one_eV _)
 obtain ⟨w8,f1,f2,f3,f4⟩:=new_u (P:=Tryz.prog) (w:=w7) (T:=82) zero_ent
 obtain ⟨w9,g1,g2,g3,g4⟩:=f2.put (T:=82) (vs:=eV ⟨s,false,nm⟩) agg_ent rfl rfl (one_eV _)
 have M9:Mod No w5 w9:=(d3.own e3 (Nat.le_refl _)).no (f3.own g3 (Nat.le_refl _))
 refine ⟨_,w6,d1,w7,e1,ff rfl ⟨_,build_ent02 s nm,_,w8,f1,w9,g1,_,g2.at.all agg_ent rfl,dPut_c (e:=⟨s,false,nm⟩) (by show nm.length<=_; omega) (fun e=>by rw [he] at e; cases e) fun _ w10 qb m10 _ _=>⟨_,_,_,_,rfl,Share.dup (ff rfl ⟨_,rfl,?_⟩)⟩⟩⟩
 have M10:=M9.no m10
 have nD5:¬ R5 D:=fun r=>(s5 _ r).elim nD1 fun e=>by have:=D4.lt; omega
 have D10:=(D4.keep m5 nD1).keep M10 id
 have z1:=m1.size
 have z4:=M4.size
 have z5:=m5.size
 have z7:w5.heap.size<=w7.heap.size:=(d3.own e3 (Nat.le_refl _)).size
 have n1:¬ R1 w1.heap.size:=fun e=>by have:=h1.lt _ e; omega
 have q10:AtU w10 w1.heap.size 0 (nV i):=((c2.keep m4 id).keep m5 n1).keep M10 id
 have g10:=g2.keep m10 id
 refine ff (by rw [beqI]; exact decide_eq_false hs) ⟨_,q10.at.all agg_ino (nV_len hw),dirRoom_c h63 D10 nD5 (h5.nos M10) q.dir (by rw [q.sl]) q.ok fun w12 R12 m12 s12 h12=>⟨_,rfl,?_⟩⟩
 rw [q.free]
 have n7:¬ R5 w7.heap.size:=fun e=>by have:=h5.lt _ e; omega
 have n15:¬ R5 w1.heap.size:=fun e=>(s5 _ e).elim n1 fun e=>by have:=(c2.keep m4 id).lt; omega
 have q12:=q10.keep m12 n15
 have nD12:¬ R12 D:=fun r=>(s12 _ r).elim nD5 fun e=>by have:=D10.lt; omega
 have D12:=D10.keep m12 nD5
 refine Share.dup (tt (by decide) ⟨_,q12.at.all agg_ino (nV_len hw),Blocks_c (by rw [q.sz]; omega) (by rw [q.sz]; omega) fun w13 m13=>⟨_,rfl,_,rfl,_,(D12.keep m13 id).drew.at.fld (j:=0) (v:=.pointer (some ⟨f,0,none⟩)) sc_pfiles rfl,0,?_,?_⟩⟩)
 ·have:=(q12.keep m13 id).drew.at.fld (P:=Tryz.prog) (T:=2) (j:=2) (v:=.int .i64 i.size) sc_i64 rfl
  rw [q.sz] at this
  exact this
 obtain ⟨w14,u1,u2,u3,u4⟩:=make_z (w:=Go.Den.drew w13) (n:=256) (by omega)
 have M14:Mod No w12 w14:=m13.drew.no u3
 have q14:=q12.keep M14 id
 have h14:=h12.nos M14
 refine ⟨_,_,_,w14,u1,(D12.keep M14 id).at.fld (j:=0) (v:=.pointer (some ⟨f,0,none⟩)) sc_pfiles rfl,?_,?_⟩
 ·have:=q14.at.fld (P:=Tryz.prog) (T:=2) (j:=2) (v:=.int .i64 i.size) sc_i64 rfl
  rw [q.sz] at this
  exact this
 have zz:w12.heap.size<=(Go.Den.drew w13).heap.size:=m13.size
 refine fWrite_c (i:=i) (xs:=z256) h63 h14 q.mu q.sl (.inr q.kd) rfl (by omega) (by omega) (by omega) (.inr ⟨_,0,rfl,u2.at⟩) (fun q' e=>?_) (fun m hm=>?_) (by rw [q.sz]; omega) (by rw [q.sz]; omega) ok.fr (fun j hj=>?_) ok.no ok.la ok.ml ok.gp fun w15 R15 m15 s15 h15 hM haf hd=>⟨_,rfl,ff rfl ?_⟩
 ·cases e
  exact ⟨fun r=>by have r:R12 (Go.Den.drew w13).heap.size:=r; have:=h12.lt _ r; omega,by show (Go.Den.drew w13).heap.size<_; have:=u2.lt; exact this⟩
 ·have hm:m<1:=hm
  rw [show m=0 by omega]; exact q.pb
 ·have hj:j<1:=hj
  rw [show j=0 by omega]
  exact ⟨ok.bl,by show (0:Int)<=_; omega⟩
 obtain ⟨d1',l1,l2,_⟩:=q.add ok hM haf hd
 have h15:Fo R15 w15 f a v d (addF F k i):=h15
 rw [q.nb]
 refine ⟨((0:Nat):Int),rfl,?_⟩
 have n12:¬ R12 w7.heap.size:=fun e=>(s12 _ e).elim n7 fun e=>by have:=g10.lt; omega
 have n14:¬ R15 D:=fun r=>(s15 _ r).elim nD12 fun e=>by have:=(D12.keep M14 id).lt; omega
 have hl0:=ok.la
 have hm0:=ok.ml
 refine ⟨_,(((g10.keep m12 n7).keep M14 id).keep m15 n12).at.all agg_ent rfl,lay_c (e:=⟨s,false,nm⟩) h63 ((D12.keep M14 id).keep m15 nD12) n14 h15 d1' (by omega) he (by omega) (by omega) fun w16 R16 m16 s16 h16=>⟨_,_,rfl,hk w16 R16 _ ?_ ?_ h16 d1' h15.hd.1⟩⟩
 ·exact Mod.sb (Mod.sb (Mod.sb (Mod.sb (m1.no M4) s1 (m5.no M10)) (s1.trans (s5.up z4) z1) (m12.no M14)) (s1.trans ((s5.up z4).trans (s12.up M10.size) (by omega)) z1) m15) (s1.trans (((s5.up z4).trans (s12.up M10.size) (by omega)).trans (s15.up M14.size) (by have:=m12.size; have:=M10.size; omega)) z1) m16
 ·have z12:=m12.size
  have z10:=M10.size
  have z14:=M14.size
  have z15:=m15.size
  exact s1.trans ((((s5.up z4).trans (s12.up z10) (by omega)).trans (s15.up z14) (by omega)).trans (s16.up (Nat.le_refl _)) (by omega)) z1
theorem addE_c {nm:Bs} {s:Int} (h63:k<=9223372036854775807) (hD:AtU w D 0 [.pointer (some ⟨f,0,none⟩)]) (h:Fo R w f a v d F) (hE:dirE F k≠0)
  (hk:∀ w' R',Mod R w w'->Sb R R' w->Fo R' w' f a v d F->K (.tuple #[.int .i64 0,.int .i64 (dirE F k)]) w') :
  Cal Tryz.prog F_dir_Dirs_Add #[.pointer (some ⟨D,0,none⟩),.int .i64 k,.string (sB nm),.int .i64 s,.slice none 0 0] w K:=by
 apply C_dir_Dirs_Add
 unfold D_dir_Dirs_Add
 refine dDir_c h63 hD h fun w1 R1 m1 s1 h1=>⟨_,_,rfl,?_⟩
 have hw:=slotV_wf F.A.V F.A.s.geo k
 obtain ⟨w2,b1,b2,b3,b4⟩:=new_u (P:=Tryz.prog) (w:=w1) (T:=51) zero_ino
 obtain ⟨w3,c1,c2,c3,c4⟩:=b2.put (T:=51) (vs:=nV (slotV F.A.V F.A.s.geo k).1) agg_ino rfl (nV_len hw) (one_nV _)
 have M3:Mod No w1 w3:=b3.own c3 (Nat.le_refl _)
 exact ⟨_,w2,b1,w3,c1,tt (by rw [bneI]; exact decide_eq_true hE) (hk w3 R1 (m1.no M3) s1 (h1.nos M3))⟩
end
end Go.Proofs.YtandmpcjjaabmaaGreat
end
section
open Go Go.Den Go.Proofs
namespace Go.Proofs.YtandmpcjjaabmaaGreat
end Go.Proofs.YtandmpcjjaabmaaGreat
namespace Go.Den
end Go.Den
namespace Go.Proofs.YtandmpcjjaabmaaGreat
def gE (g:Gm):Gm:=if gOk g=true/\gSize g<=200 then g else gKn
def dE (g:Gm):St:=fmtSt (newSt (gSize (gE g)).toNat) (gE g)
def nE (g:Gm):Int:=nextTo (dE g) (gE g) (gSlots (gE g)).toNat+1
def aE (g:Gm) (hs:List Hd) (k:Nat):Az:=⟨⟨1,gE g⟩,⟨⟨dE g,k,[]⟩,0,[]⟩,[],nE g,hs,fun _=>false⟩
theorem gE_ok (g:Gm):gOk (gE g)=true/\gSize (gE g)<=200:=by
 unfold gE
 split
 ·rename_i h; exact h
 ·exact ⟨by decide,by decide⟩
theorem gE_sz (g:Gm):gSize (gE g)=2+(gE g).gs*(gE g).gr/\18<=gSize (gE g):=by
 have h:=(gE_ok g).1
 have e:gSize (gE g)=2+(gE g).gs*(gE g).gr:=by unfold gSize; rw [if_pos h]
 obtain ⟨h1,_,h3,_⟩:=gOk_iff.1 h
 have:1*16<=(gE g).gs*(gE g).gr:=Int.mul_le_mul h3 h1 (by omega) (by omega)
 exact ⟨e,by omega⟩
theorem bndN (k:Nat):Bnd (newSt k) 1:=fun v hv=>by
 have:=List.eq_of_mem_replicate hv
 subst this; simp
section
variable {w wb w':World} {R R0 R':Nat->Prop} {N a v d:Nat} {A:Az} {hs:List Hd} {K:Value->World->Prop}
end
end Go.Proofs.YtandmpcjjaabmaaGreat
end
section
open Go Go.Den Go.Proofs
namespace Go.Proofs.YtandmpcjjaabmaaGreat
section
variable {D:St} {l:List (Int×Bk)} {b:Nat} {ys:Bk} {g:Gm} {n:Nat}
def InD (D:St) (l:List (Int×Bk)):Prop:=∀ x∈l,∃ j:Nat,x.1=j/\j<D.vs.length/\x.2.length=256
theorem wrAll_no (hl:D.left=-1) (hin:InD D l) (hno:∀ x∈l,x.1≠(b:Int)):atD (wrAll D l) b=atD D b:=by
 induction l generalizing D with
 | nil=>rfl
 | cons x l ih =>
  obtain ⟨j,h1,h2,h3⟩:=hin x List.mem_cons_self
  show atD (wrAll (wrSt D x.1 x.2) l) b=_
  have hi:InD (wrSt D x.1 x.2) l:=fun y hy=>by
   obtain ⟨j,k1,k2,k3⟩:=hin y (List.mem_cons_of_mem _ hy)
   exact ⟨j,k1,by rw [wrSt_len]; exact k2,k3⟩
  rw [ih (wrSt_run hl _ _) hi (fun y hy=>hno y (List.mem_cons_of_mem _ hy)),h1,atD_wrN h2 h3 hl,if_neg (fun e=>hno x List.mem_cons_self (by rw [h1,e]))]
theorem wrAll_yes (hl:D.left=-1) (hin:InD D l) (hx:∃ x∈l,x.1=(b:Int)) (hu:∀ x∈l,x.1=(b:Int)->x.2=ys):atD (wrAll D l) b=ys:=by
 induction l generalizing D with
 | nil=>obtain ⟨x,h,_⟩:=hx; cases h
 | cons x l ih =>
  obtain ⟨j,h1,h2,h3⟩:=hin x List.mem_cons_self
  show atD (wrAll (wrSt D x.1 x.2) l) b=_
  have hi:InD (wrSt D x.1 x.2) l:=fun y hy=>by
   obtain ⟨j,k1,k2,k3⟩:=hin y (List.mem_cons_of_mem _ hy)
   exact ⟨j,k1,by rw [wrSt_len]; exact k2,k3⟩
  by_cases h:∃ y∈l,y.1=(b:Int)
  ·exact ih (wrSt_run hl _ _) hi h fun y hy=>hu y (List.mem_cons_of_mem _ hy)
  ·have hxb:x.1=(b:Int):=by
    obtain ⟨y,hy,e⟩:=hx
    rcases List.mem_cons.1 hy with rfl | hy
    ·exact e
    ·exact absurd ⟨y,hy,e⟩ h
   rw [wrAll_no (wrSt_run hl _ _) hi (fun y hy e=>h ⟨y,hy,e⟩),h1,atD_wrN h2 h3 hl,if_pos (by omega)]
   exact hu x List.mem_cons_self hxb
theorem mem_volL {x:Int×Bk} {m:Nat}:x∈volL g m↔∃ k,k<m/\∃ i,i<volN g/\x=volX g k i:=by
 unfold volL volG
 simp only [List.mem_flatMap,List.mem_range,List.mem_map]
 constructor
 ·rintro ⟨k,hk,i,hi,e⟩; exact ⟨k,hk,i,hi,e.symm⟩
 ·rintro ⟨k,hk,i,hi,e⟩; exact ⟨k,hk,i,hi,e.symm⟩
theorem vol_inj (hg:gOk g=true) {k k' i i':Nat} (hi:i<volN g) (hi':i'<volN g) (e:2+(k:Int)*g.gr+i=2+(k':Int)*g.gr+i'):k=k'/\i=i':=by
 have hv:=(volN_b hg).1
 obtain ⟨h1,_,_,_,h5,h6,h7,h8,_⟩:=gOk_iff.1 hg
 have key:∀ {a c:Nat},a<c->(a:Int)*g.gr+g.gr<=(c:Int)*g.gr:=fun {a c} h=>by
  have:=Int.mul_le_mul_of_nonneg_right (show (a:Int)+1<=c by omega) (show 0<=g.gr by omega)
  rw [Int.add_mul,Int.one_mul] at this; exact this
 rcases Nat.lt_trichotomy k k' with h | h | h
 ·have:=key h; omega
 ·subst h; omega
 ·have:=key h; omega
theorem inD_vol (hg:gOk g=true) (hn:gSize g<=n):InD (fmt0 (newSt n)) (volL g g.gs.toNat):=fun x hx=>by
 obtain ⟨k,hk,i,hi,rfl⟩:=mem_volL.1 hx
 obtain ⟨h1,h2⟩:=volX_in hg (k:=k) (n:=n) (by omega) hi hn
 exact ⟨(volX g k i).1.toNat,by omega,by rw [fmt0_len]; simp [newSt]; omega,volB_len g k i⟩
theorem newRun:(newSt n).left=-1:=rfl
theorem at_new (hg:gOk g=true) (hn:gSize g<=n) {k i:Nat} (hk:(k:Int)<g.gs) (hi:i<volN g):atD (fmtSt (newSt n) g) (2+(k:Int)*g.gr+i).toNat=volB g k i:=by
 obtain ⟨h1,h2⟩:=volX_in hg (n:=n) hk hi hn
 have h1:2<=2+(k:Int)*g.gr+i:=h1
 have h2:2+(k:Int)*g.gr+i<n:=h2
 have hb:(((2+(k:Int)*g.gr+i).toNat:Nat):Int)=2+(k:Int)*g.gr+i:=by omega
 generalize (2+(k:Int)*g.gr+i).toNat=b at hb
 have h1r:=fmt1_run (newRun (n:=n)) g
 have hl1:1<(fmt1 (newSt n) g).vs.length:=by rw [fmt1_len]; simp [newSt]; omega
 unfold fmtSt
 rw [atD_fl (wrSt_run h1r _ _),show (1:Int)=((1:Nat):Int) from rfl,atD_wrN hl1 (supB_len _) h1r,if_neg (by omega)]
 unfold fmt1
 rw [atD_fl (wrAll_run (fmt0_run newRun) _)]
 refine wrAll_yes (fmt0_run newRun) (inD_vol hg hn) ⟨volX g k i,mem_volL.2 ⟨k,by omega,i,hi,rfl⟩,hb.symm⟩ fun x hx e=>?_
 obtain ⟨k',_,i',hi',rfl⟩:=mem_volL.1 hx
 have e:2+(k':Int)*g.gr+i'=b:=e
 have e2:2+(k':Int)*g.gr+i'=2+(k:Int)*g.gr+i:=e.trans hb
 obtain ⟨rfl,rfl⟩:=vol_inj hg hi' hi e2
 rfl
theorem at_sup (hn:18<=n):atD (fmtSt (newSt n) g) 1=supB ⟨1,g⟩:=by
 have h1r:=fmt1_run (newRun (n:=n)) g
 have hl1:1<(fmt1 (newSt n) g).vs.length:=by rw [fmt1_len]; simp [newSt]; omega
 unfold fmtSt
 rw [atD_fl (wrSt_run h1r _ _),show (1:Int)=((1:Nat):Int) from rfl,atD_wrN hl1 (supB_len _) h1r,if_pos rfl]
theorem at_zero (hg:gOk g=true) (hn:gSize g<=n) (h18:18<=n):atD (fmtSt (newSt n) g) 0=zeroB:=by
 have h1r:=fmt1_run (newRun (n:=n)) g
 have hl1:1<(fmt1 (newSt n) g).vs.length:=by rw [fmt1_len]; simp [newSt]; omega
 unfold fmtSt
 rw [atD_fl (wrSt_run h1r _ _),show (1:Int)=((1:Nat):Int) from rfl,atD_wrN hl1 (supB_len _) h1r,if_neg (by decide)]
 unfold fmt1
 rw [atD_fl (wrAll_run (fmt0_run newRun) _),wrAll_no (fmt0_run newRun) (inD_vol hg hn) fun x hx e=>by
  obtain ⟨k,hk,i,hi,rfl⟩:=mem_volL.1 hx
  have:=(volX_in hg (k:=k) (n:=n) (by omega) hi hn).1
  have e:(volX g k i).1=((0:Nat):Int):=e
  omega]
 unfold fmt0
 have hz:(wrSt (newSt n) 0 zeroB).left=-1:=wrSt_run newRun _ _
 have hl:1<(wrSt (newSt n) 0 zeroB).vs.length:=by rw [wrSt_len]; simp [newSt]; omega
 rw [atD_fl (wrSt_run hz _ _),show (1:Int)=((1:Nat):Int) from rfl,atD_wrN hl zeroB_len hz,if_neg (by decide),show (0:Int)=((0:Nat):Int) from rfl,atD_wrN (by simp [newSt]; omega) zeroB_len newRun,if_pos rfl]
theorem sFront_get {s:Sp}:(supB s).take 4=sMark/\(supB s).drop 4=toLe 8 s.gen.toNat++((supB s).drop 12)/\(supB s).drop 12=toLe 2 s.geo.gr.toNat++((supB s).drop 14)/\(supB s).drop 14=toLe 2 s.geo.no.toNat++((supB s).drop 16)/\(supB s).drop 16=toLe 2 s.geo.gs.toNat++((supB s).drop 18):=by
 have cut:∀ {a c:List UInt8} {m:Nat},a.length=m->(a++c).drop m=c:=fun {a c m} h=>by rw [List.drop_append,List.drop_eq_nil_of_le (by omega),List.nil_append,h,Nat.sub_self]; rfl
 have e:supB s=sMark++(toLe 8 s.gen.toNat++(toLe 2 s.geo.gr.toNat++(toLe 2 s.geo.no.toNat++(toLe 2 s.geo.gs.toNat++(List.replicate 234 0++toLe 4 (crc (sHead s))))))):=by
  unfold supB; rw [sHead,sFront]; simp only [List.append_assoc]
 have d4:(supB s).drop 4=toLe 8 s.gen.toNat++(toLe 2 s.geo.gr.toNat++(toLe 2 s.geo.no.toNat++(toLe 2 s.geo.gs.toNat++(List.replicate 234 0++toLe 4 (crc (sHead s)))))):=by rw [e]; exact cut rfl
 have d12:(supB s).drop 12=toLe 2 s.geo.gr.toNat++(toLe 2 s.geo.no.toNat++(toLe 2 s.geo.gs.toNat++(List.replicate 234 0++toLe 4 (crc (sHead s))))):=by rw [show 12=4+8 from rfl,<- List.drop_drop,d4]; exact cut (length_toLe _ _)
 have d14:(supB s).drop 14=toLe 2 s.geo.no.toNat++(toLe 2 s.geo.gs.toNat++(List.replicate 234 0++toLe 4 (crc (sHead s)))):=by rw [show 14=12+2 from rfl,<- List.drop_drop,d12]; exact cut (length_toLe _ _)
 have d16:(supB s).drop 16=toLe 2 s.geo.gs.toNat++(List.replicate 234 0++toLe 4 (crc (sHead s))):=by rw [show 16=14+2 from rfl,<- List.drop_drop,d14]; exact cut (length_toLe _ _)
 have d18:(supB s).drop 18=List.replicate 234 0++toLe 4 (crc (sHead s)):=by rw [show 18=16+2 from rfl,<- List.drop_drop,d16]; exact cut (length_toLe _ _)
 refine ⟨by rw [e]; rfl,by rw [d4,d12],by rw [d12,d14],by rw [d14,d16],by rw [d16,d18]⟩
theorem supG_supB {s:Sp} (hs:sOk s=true):supG (supB s)=(s,0):=by
 obtain ⟨⟨g1,g2⟩,hg⟩:=sOk_iff.1 hs
 obtain ⟨r1,r2,r3,r4,r5,r6,_⟩:=gOk_iff.1 hg
 obtain ⟨e1,e2,e3,e4,e5⟩:=sFront_get (s:=s)
 have tk:∀ {k m:Nat} {c:List UInt8},m<256 ^ k->leN ((toLe k m++c).take k)=m:=fun {k m c} h=>by
  rw [List.take_append_of_le_length (by rw [length_toLe]; exact Nat.le_refl _),List.take_of_length_le (by rw [length_toLe]; exact Nat.le_refl _)]
  exact leN_toLe _ _ h
 have hr:readS (supB s)=s:=by
  unfold readS
  rw [e2,tk (by omega),e3,tk (by omega),e4,tk (by omega),e5,tk (by omega),wrap64 (by omega) (by omega)]
  cases s with
  | mk a b =>
   cases b
   simp only at *
   simp only [Sp.mk.injEq,Gm.mk.injEq]
   omega
 have h252:(supB s).take 252=sHead s:=by unfold supB; rw [List.take_append_of_le_length (by rw [sHead_len]; exact Nat.le_refl _),List.take_of_length_le (by rw [sHead_len]; exact Nat.le_refl _)]
 have hc:leN ((supB s).drop 252)=crc ((supB s).take 252):=by
  rw [h252]
  unfold supB
  rw [List.drop_append,List.drop_eq_nil_of_le (by rw [sHead_len]; exact Nat.le_refl _),List.nil_append,sHead_len]
  exact leN_toLe _ _ (crc_lt _)
 have hz:=(sup_back (supB_len s) e1 hc (by rw [hr]; exact hs)).1 (by rw [hr])
 unfold supG
 rw [if_neg (by rw [supB_len]; exact fun e=>e rfl),if_neg (by rw [e1]; exact fun e=>e rfl),if_neg (by rw [hc]; exact fun e=>e rfl),hr,if_neg (by rw [hs]; decide),if_neg (by rw [hz]; decide)]
theorem supG_zero:(supG zeroB).2≠0:=by decide +kernel
theorem choose_new (hg:gOk g=true) (hn:gSize g<=n):supChoose zeroB (supB ⟨1,g⟩) n=(⟨1,g⟩,1,0):=by
 have hs:sOk (⟨1,g⟩:Sp)=true:=sOk_iff.2 ⟨⟨Int.le_refl 1,by show (1:Int)<=4611686018427387904; decide⟩,hg⟩
 have e0:supPick 0 zeroB n sZ=sZ:=by unfold supPick; rw [if_neg fun h=>supG_zero h.1]
 have eB:supBest zeroB (supB ⟨1,g⟩) n=⟨1,g⟩:=by
  unfold supBest
  rw [e0]
  unfold supPick
  rw [supG_supB hs,if_pos ⟨rfl,rfl,hn,by show (1:Int) > 0; decide⟩]
 have hne:(⟨1,g⟩:Sp)≠sZ:=fun e=>by
  have:(1:Int)=0:=congrArg Sp.gen e
  omega
 unfold supChoose
 rw [eB,if_neg hne]; rfl
theorem root_back:inoAt (overB zeroB 64 (inoB rootN)) 1=(rootN,0):=by decide +kernel
theorem hds_new (hg:gOk g=true) (hn:gSize g<=n) (k:Nat):HdsAt ⟨⟨fmtSt (newSt n) g,k,[]⟩,0,[]⟩ g ((List.range g.gs.toNat).map fun j:Nat=>hBase g (j:Int)):=by
 obtain ⟨_,_,g3,_⟩:=gOk_iff.1 hg
 have hv:0<volN g:=by unfold volN; omega
 refine ⟨hg,?_,by rw [List.length_map,List.length_range]; omega,fun j h hj=>?_⟩
 ·show gSize g<=((fmtSt (newSt n) g).vs.length:Int)
  rw [fmtSt_len]; simp [newSt]; omega
 ·rw [List.getElem?_map] at hj
  by_cases hjl:j<g.gs.toNat
  ·rw [List.getElem?_range hjl] at hj
   cases hj
   refine ⟨?_,hOk_base hg (by omega) (by omega),rfl,hBase_wf _ _⟩
   have:=at_new hg hn (k:=j) (i:=0) (by omega) hv
   rw [Int.natCast_zero,Int.add_zero] at this
   exact this
  ·rw [List.getElem?_eq_none (by simp; omega)] at hj; cases hj
theorem mnt_new (hg:gOk g=true) (hn:gSize g<=n) (h18:18<=n):mnt (fmtSt (newSt n) g)=(⟨1,g⟩,0):=by
 obtain ⟨q1,q2,g3,g4,g5,g6,g7,_⟩:=gOk_iff.1 hg
 have hlen:(fmtSt (newSt n) g).vs.length=n:=by rw [fmtSt_len]; simp [newSt]
 have rd:∀ {b:Nat},b<n->rdB (fmtSt (newSt n) g) (b:Int)=atD (fmtSt (newSt n) g) b:=fun {b} h=>(rd_at _ (by rw [hlen]; exact h)).2
 have hS:mntS (fmtSt (newSt n) g)=(⟨1,g⟩,1,0):=by
  unfold mntS
  rw [show (0:Int)=((0:Nat):Int) from rfl,show (1:Int)=((1:Nat):Int) from rfl,rd (by omega),rd (by omega),at_zero hg hn h18,at_sup h18,hlen]
  exact choose_new hg hn
 have hv:=(volN_b hg).1
 have hO:mntOk (fmtSt (newSt n) g) g=true:=by
  unfold mntOk
  rw [Bool.and_eq_true,List.all_eq_true]
  refine ⟨fun k hk=>?_,?_⟩
  ·have hk:=List.mem_range.1 hk
   obtain ⟨p1,p2,p3⟩:=head_pos hg (k:=k) (by omega)
   have e:headAt (fmtSt (newSt n) g) g k=(hBase g k,0):=by
    unfold headAt
    rw [p1,if_neg (fun e=>e rfl)]
    have:=at_new hg hn (k:=k) (i:=0) (by omega) (by omega)
    rw [Int.natCast_zero,Int.add_zero] at this
    have r:=rd (b:=(2+(k:Int)*g.gr).toNat) (by omega)
    rw [show (((2+(k:Int)*g.gr).toNat:Nat):Int)=2+(k:Int)*g.gr by omega,this] at r
    rw [r]
    exact hGet_grpB (hBase_wf _ _) (hOk_base hg (by omega) (by omega))
   unfold headOk
   rw [e]; exact decide_eq_true ⟨rfl,rfl⟩
  ·have hsl:gSlots g=g.gs*g.no:=by unfold gSlots; rw [if_pos hg]
   have hs4:1*4<=g.gs*g.no:=Int.mul_le_mul g3 g5 (by omega) (by omega)
   have e0:(1:Int) / g.no=0:=Int.ediv_eq_zero_of_lt (by omega) (by omega)
   have e1:(1:Int) % g.no=1:=Int.emod_eq_of_lt (by omega) (by omega)
   have ep:gPlace g 1=(3,1,0):=by
    unfold gPlace
    rw [if_pos hg,if_pos ⟨by decide,by omega⟩,e0,e1]
    have:(2:Int)+0*g.gr+1+1 / 4=3:=by rw [Int.zero_mul]; rfl
    rw [this]; rfl
   have:=at_new hg hn (k:=0) (i:=1) (by omega) (by omega)
   rw [show ((0:Nat):Int)*g.gr=0 from Int.zero_mul _] at this
   have this:atD (fmtSt (newSt n) g) 3=volB g 0 1:=this
   have r:=rd (b:=3) (by omega)
   rw [this] at r
   have e:slotAt (fmtSt (newSt n) g) g 1=(rootN,0):=by
    unfold slotAt
    rw [ep,if_neg (fun e=>e rfl)]
    show inoAt (rdB _ ((3:Nat):Int)) 1=_
    rw [r]
    exact root_back
   unfold rootOk
   rw [e]; exact decide_eq_true ⟨rfl,rfl⟩
 unfold mnt
 rw [hS,if_neg (fun e=>e rfl)]
 show (if mntOk (fmtSt (newSt n) g) g=true then _ else _)=_
 rw [if_pos hO]
end
def hsE (g:Gm):List Hd:=(List.range (gE g).gs.toNat).map fun j:Nat=>hBase (gE g) (j:Int)
theorem mnt_E (g:Gm):mnt (dE g)=(⟨1,gE g⟩,0):=by
 obtain ⟨h1,h2⟩:=gE_ok g
 obtain ⟨h3,h4⟩:=gE_sz g
 exact mnt_new h1 (by omega) (by omega)
theorem hds_E (g:Gm) (k:Nat):HdsAt ⟨⟨dE g,k,[]⟩,0,[]⟩ (gE g) (hsE g):=by
 obtain ⟨h1,h2⟩:=gE_ok g
 obtain ⟨h3,h4⟩:=gE_sz g
 exact hds_new h1 (by omega) k
end Go.Proofs.YtandmpcjjaabmaaGreat
end
section
open Go Go.Den Go.Proofs
namespace Go.Proofs.YtandmpcjjaabmaaGreat
section
variable {w w':World} {R R':Nat->Prop} {f a v d D:Nat} {F:Fy} {K:Value->World->Prop}
set_option maxRecDepth 8000 in
theorem start_c {q1 : Nat} {g : Gm} {X : Option Addr → Option Addr → Option Addr → World → Prop} (hat : AtU w q1 0 (gV (gE g)))
    (hk : ∀ w' R f a v d k, Mod No w w' → Fo R w' f a v d (newF (aE g (hsE g) k)) → (∀ z, R z → w.heap.size ≤ z) → X (some ⟨d, 0, none⟩) (some ⟨v, 0, none⟩) (some ⟨f, 0, none⟩) w') :
    Cal Tryz.prog F_leveeref03_Size #[.agg ⟨gV (gE g)⟩] w fun r12 w4 => ∃ n12 : Int, r12 = .int .i64 n12 ∧ Cal Tryz.prog F_disk_New #[.int .i64 n12] w4 fun r13 w5 => ∃ p13a : Option Addr, ∃ n13b : Int, r13 = .tuple #[.pointer p13a, .int .i64 n13b] ∧ ∃ g17 : Array Value, Ru (Instr.loadAt 39 (.pointer (some ⟨q1, 0, none⟩))) w5 (.agg g17) w5 ∧ Cal Tryz.prog F_vol_Format #[.pointer p13a, .agg g17] w5 fun r18 w6 => ∃ n18 : Int, r18 = .int .i64 n18 ∧ Cal Tryz.prog F_vol_Mount #[.pointer p13a] w6 fun r21 w7 => ∃ p21a : Option Addr, ∃ n21b : Int, r21 = .tuple #[.pointer p21a, .int .i64 n21b] ∧ Share (fun k => (bif n21b != 0 then k [.bool true] w7 else k [.bool (Option.isNone p21a)] w7)) fun x w8 =>
     ∃ b29 : Bool, nth x 0 = .bool b29 ∧ (bif b29 then
     K (.pointer none) w8
     else
     Cal Tryz.prog F_alloc_New #[.pointer p21a] w8 fun r31 w9 => ∃ p31 : Option Addr, r31 = .pointer p31 ∧ Cal Tryz.prog F_file_New #[.pointer p31] w9 fun r32 w10 => ∃ p32 : Option Addr, r32 = .pointer p32 ∧ X p13a p21a p32 w10) := by
  obtain ⟨hok, h200⟩ := gE_ok g
  obtain ⟨hsz, h18⟩ := gE_sz g
  refine rgSize_c fun w7 m7 => ⟨_, rfl, ?_⟩
  have hz7 := m7.size
  have hql := hat.lt
  refine New_c (by omega) (by omega) (fun h => by omega) fun k hk' _ _ w8 d sb mb m8 hD => ⟨_, _, rfl, _, ((hat.keep m7 id).keep m8 id).at.all agg_geo rfl, ?_⟩
  have hkn : (gSize (gE g)).toNat = k := by omega
  have hz8 := m8.size
  have hfE : fmtE (newSt k) (gE g) = 0 := by
    unfold fmtE
    rw [if_neg (by rw [hok]; decide), if_neg (by simp [newSt]; omega)]
  have eD : dE g = fmtSt (newSt k) (gE g) := by unfold dE; rw [hkn]
  have hrun : (dE g).left = -1 := by rw [eD]; exact fmtSt_run rfl _
  have hbnd : Bnd (dE g) 1 := by rw [eD]; exact fmtSt_bnd rfl _
  refine vFormat_c (g := gE g) hD rfl (bndN k) (fun h => absurd hfE h) fun _ wa Na w11 ma Xa => ⟨_, rfl, ?_⟩
  rw [← eD] at Xa
  have hza := ma.size
  have hXs := Xa.mod.size
  obtain ⟨Ra, sba, mba, sca, La, a1', a2', a3', a4'⟩ := Xa
  have hRa : ∀ x, Ra x → w7.heap.size ≤ x ∧ x < w11.heap.size := fun x hx => by
    have := (a2' x hx).2
    rcases (a2' x hx).1 with e | e
    · have e : w7.heap.size ≤ x ∧ x < w8.heap.size := e
      omega
    · omega
  have M8 : Mod No w w8 := m7.no m8
  have M11 : Mod No w w11 := (M8.no ma).trans a3' fun x hx e => by have e : w7.heap.size ≤ x ∧ x < w8.heap.size := e; omega
  have hsm : Small (dE g) := BndS hbnd (by omega)
  have hdR := a1'.rb
  have hm := mnt_E g
  refine vMount_c (w0 := w) a1' hsm (fun x hx => ⟨by have := hRa x hx; omega, a1'.lt x hx⟩) M11 hrun (fun h => absurd (by rw [hm]) h) fun _ w13 N13 v X13 => ⟨_, _, rfl, ?_⟩
  rw [hm] at X13
  have X13 : Vg w11 Ra N13 w13 v d ⟨1, gE g⟩ (dE g) (nE g) := X13
  have hz13 := X13.mod.size
  have M13 : Mod No w w13 := M11.trans X13.mod fun x hx e => by have := hRa x e; omega
  refine Share.dup (ff rfl ⟨_, rfl, ff rfl ?_⟩)
  obtain ⟨Rv, kc, hV, hlo⟩ := X13.vu
  refine aNew_c hV (hds_E g kc) fun w16 R16 a m16 s16 h16 ha => ⟨_, rfl, ?_⟩
  have hlo16 : ∀ z, R16 z → w.heap.size ≤ z := fun z hz => by
    have hda := hRa d hdR
    rcases s16 z hz with e | e
    · rcases hlo z e with e | e | e
      · have := hRa z e; omega
      · omega
      · omega
    · omega
  have M16 := M13.no m16
  have z16 := M16.size
  refine fNew_c h16 fun w17 R17 f m17 s17 h17 hf => ⟨_, rfl, hk w17 R17 f a v d kc (M16.no m17) h17 fun z hz => ?_⟩
  rcases s17 z hz with e | e
  · exact hlo16 z e
  · omega
end
theorem slot_new {g:Gm} (hg:gE g=g) {k:Nat} {s p:Int} {b:Nat} (hp:gPlace g s=(3,p,0)) (h1:1<volN g) (h0:(0:Int)<g.gs):slotV (aE g (hsE g) k).V g s=inoAt (overB zeroB 64 (inoB rootN)) p:=by
 obtain ⟨hok,_⟩:=gE_ok g
 rw [hg] at hok
 unfold slotV
 rw [hp,if_neg (by simp)]
 show inoAt (atD (dE g) 3) p=_
 have hsz:=(gE_sz g).2
 rw [hg] at hsz
 have:=at_new (n:=(gSize g).toNat) hok (by omega) (k:=0) (i:=1) h0 h1
 have e3:(2+((0:Nat):Int)*g.gr+((1:Nat):Int)).toNat=3:=by simp
 rw [e3] at this
 unfold dE
 rw [hg,this]; rfl
theorem slot_none:inoAt (overB zeroB 64 (inoB rootN)) 3=(nZ,0):=by decide +kernel
end Go.Proofs.YtandmpcjjaabmaaGreat
end
