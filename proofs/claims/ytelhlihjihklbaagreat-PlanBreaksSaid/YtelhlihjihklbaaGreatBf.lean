/- Parts of the proof, in order: what the statement leans on. -/
import Derived.Test.YtelhlihjihklbaaGreatBe
section
open Go Go.Den Go.Proofs
namespace Go.Proofs.YtelhlihjihklbaaGreat
def wrkA (A:Az) (W:List Wt):Az:=⟨A.s,A.V,W,A.nx,A.hs,A.fz⟩
def fzA (A:Az) (k:Int) (on:Bool):Az:=⟨A.s,A.V,A.W,A.nx,A.hs,fun n=>if n=k then on else A.fz n⟩
def freezeA (A:Az) (k:Int) (on:Bool):Az×Int:=if k<0\/A.s.geo.gs<=k then (A,3) else (fzA A k on,0)
def laterA (A:Az) (x:Int×Int) (th tk:Bool) (n:Int):Az×Int :=
 if th=false then (A,3) else if (!tk || A.W.any fun y=>sameA y.2 x)=true then (A,6) else (wrkA A (laterL A.W (n,x)),laterE A.W x.1)
def giveA (A:Az) (b n:Int):Az×Int:=laterA A (1,b) (spB A.s.geo b).2.2 (takenA A b) n
def actA (A:Az) (x:Int×Int):Az:=if x.1=1 then (turnA true A (spB A.s.geo x.2).1.toNat (spB A.s.geo x.2).2.1 false).1 else if x.1=2 then (turnA false A (spS A.s.geo x.2).1.toNat (spS A.s.geo x.2).2.1 false).1 else A
def settleTo (l:List (Int×Int)) (A:Az):Nat->Az
 | 0=>A
 | i+1=>actA (settleTo l A i) (l.getD i (0,0))
def ripeA (A:Az):List (Int×Int):=(A.W.filter (ripeP A.V)).map (·.2)
def settleA (A:Az):Az:=settleTo (ripeA A) (wrkA A (A.W.filter fun x=>!ripeP A.V x)) (ripeA A).length
theorem setHV_last (V:Ps) (g:Gm) (k:Nat) (h:Hd):(setHV V g k h).last<=V.last+1:=by
 unfold setHV patS
 split
 ·exact Nat.le_refl _
 ·omega
theorem turnA_s (kd:Bool) (A:Az) (k:Nat) (i:Int) (on:Bool):(turnA kd A k i on).1.s=A.s/\(turnA kd A k i on).1.V.last<=A.V.last+1/\(turnA kd A k i on).1.W=A.W/\(turnA kd A k i on).1.fz=A.fz:=by
 unfold turnA
 split
 ·exact ⟨rfl,by simp only; omega,rfl,rfl⟩
 ·exact ⟨rfl,setHV_last _ _ _ _,rfl,rfl⟩
theorem actA_s (A:Az) (x:Int×Int):(actA A x).s=A.s/\(actA A x).V.last<=A.V.last+1/\(actA A x).W=A.W/\(actA A x).fz=A.fz:=by
 unfold actA
 split
 ·exact turnA_s _ _ _ _ _
 split
 ·exact turnA_s _ _ _ _ _
 ·exact ⟨rfl,by omega,rfl,rfl⟩
theorem settleTo_s (l:List (Int×Int)) (A:Az):∀ i,(settleTo l A i).s=A.s/\(settleTo l A i).V.last<=A.V.last+i/\(settleTo l A i).W=A.W/\(settleTo l A i).fz=A.fz
 | 0=>⟨rfl,Nat.le_refl _,rfl,rfl⟩
 | i+1=>by
  obtain ⟨h1,h2,h3,h4⟩:=settleTo_s l A i
  obtain ⟨k1,k2,k3,k4⟩:=actA_s (settleTo l A i) (l.getD i (0,0))
  exact ⟨k1.trans h1,by show (actA (settleTo l A i) (l.getD i (0,0))).V.last<=_; omega,k3.trans h3,k4.trans h4⟩
section
variable {w w':World} {R R':Nat->Prop} {a v d:Nat} {A:Az} {K:Value->World->Prop}
theorem sc_work:scal Tryz.prog 129=true:=by kernel_rfl
theorem Ao.wk (h:Ao R w a v d A):∃ (w0:World) (Rs Z:Nat->Prop) (sp wk:Nat),Pz w0 Rs w sp d A.V/\Wk 199 Z w wk A.W/\(∀ x,Z x->x<w.heap.size)/\AtU w v 0 (vV A.s sp wk A.nx) /\
  ∀ (w':World) (Z':Nat->Prop) (W':List Wt),Mod (fun z=>z=wk) w w'->(∀ x,Z x->Z' x)->Wk 199 Z' w' wk W'->Mod R w w'/\∃ R',Sb R R' w/\Ao R' w' a v d (wrkA A W')/\∀ z,w.heap.size<=z->Z' z->¬ R' z:=by
 have hlt:=h.lt
 have hhd:=h.hd
 obtain ⟨Rv,hv,hRv,hc⟩:=h.vol
 have hvl:=hv.lt
 obtain ⟨w0,Rs,Z,sp,wk,a1,a2,a3,a4,a5,a6,a7⟩:=hv.op
 refine ⟨w0,Rs,Z,sp,wk,a1,a2,a3,a4,fun w' Z' W' m hZ hW=>?_⟩
 obtain ⟨M,hV⟩:=a7 w' Z' W' m hZ hW
 obtain ⟨c1,c2,c3⟩:=hc w' _ A.V W' A.nx A.hs M (fun z hz=>hz.imp id (·.1)) hV hhd
 refine ⟨c1,_,c2,c3,fun z hz hZz e=>?_⟩
 rcases e with e | e | e
 ·have:=hlt z e; omega
 ·have:=hvl z e; omega
 ·exact e.2.2 hZz
theorem aWork_c {sp wk:Nat} (h:AtU w v 0 (vV A.s sp wk A.nx)) (hk:K (.pointer (some ⟨wk,0,none⟩)) w):Cal Tryz.prog F_vol_Vol_Work #[.pointer (some ⟨v,0,none⟩)] w K:=by
 apply C_vol_Vol_Work
 unfold D_vol_Vol_Work
 exact ff rfl ⟨_,rfl,_,h.at.fld sc_work rfl,hk⟩
theorem aStore_c {sp wk:Nat} (h:AtU w v 0 (vV A.s sp wk A.nx)) (hk:K (.pointer (some ⟨sp,0,none⟩)) w):Cal Tryz.prog F_vol_Vol_Store #[.pointer (some ⟨v,0,none⟩)] w K:=by
 apply C_vol_Vol_Store
 unfold D_vol_Vol_Store
 exact ff rfl ⟨_,rfl,_,h.at.fld sc_store rfl,hk⟩
theorem aFreeze_c {k:Int} {on:Bool} (h:Ao R w a v d A) (hk:∀ w' R',Mod R w w'->Sb R R' w->Ao R' w' a v d (freezeA A k on).1->K (.int .i64 (freezeA A k on).2) w'):Cal Tryz.prog F_alloc_Alloc_Freeze #[.pointer (some ⟨a,0,none⟩),.int .i64 k,.bool on] w K:=by
 apply C_alloc_Alloc_Freeze
 unfold D_alloc_Alloc_Freeze
 refine ff rfl (Share.cut (fun z w2=>z=[.bool (decide (k<0\/A.s.geo.gs<=k))]/\Mod No w w2) (cond_of (fun h0=>⟨?_,Mod.refl _ _⟩) (fun h0=>⟨_,rfl,_,h.pv,aGeo_c h fun w1 m1=>⟨_,rfl,A.s.geo.gs,field_ggs _,?_,m1⟩⟩)) ?_)
 ·rw [decide_eq_true (Or.inl (of_decide_eq_true h0))]
 ·have h0:=of_decide_eq_false h0
  exact bcell (by omega)
 rintro z w2 ⟨rfl,m2⟩
 have h2:=h.nos m2
 have hda:=h.dlt
 refine ⟨_,rfl,cond_of (fun hb=>?_) (fun hb=>?_)⟩
 ·have e:freezeA A k on=(A,3):=by unfold freezeA; rw [if_pos (of_decide_eq_true hb)]
  rw [e] at hk
  exact hk w2 R (m2.mono fun _ _ e=>e.elim) (Sb.refl _ _) h2
 ·have e:freezeA A k on=(fzA A k on,0):=by unfold freezeA; rw [if_neg (of_decide_eq_false hb)]
  rw [e] at hk
  obtain ⟨Rv,fm,L,k1,k2,k3,k4,k5,k6,k7,k8⟩:=h2
  obtain ⟨w3,u1,u2,u3,u4⟩:=update_run (P:=Tryz.prog) (k:=k) (v:=.bool on) mapFz k3
  refine ⟨_,rfl,_,k2.at.fld sc_fz rfl,w3,u1,hk w3 R ?_ (Sb.refl _ _) ⟨Rv,fm,_,k1.keep u3 (fun z hz e=>by have e:z=fm:=e; rw [e] at hz; exact k5.2.1 hz) (fun z e=>by have e:z=fm:=e; rw [e]; exact k5.2.2.2.2),k2.keep u3 (fun e=>k5.2.2.1 e),u2,fun n=>?_,k5,k6,fun z hz=>by rw [u4]; exact k7 z hz,k8⟩⟩
  ·exact (m2.mono fun _ _ e=>e.elim).trans u3 fun x hx e=>by have e:x=fm:=e; rw [e]; exact k6 fm (.inr (.inr rfl))
  ·show (lookupL (putL k (.bool on) L) n).getD (.bool false)=.bool (if n=k then on else A.fz n)
   rw [look_put]
   by_cases e:n=k
   ·rw [if_pos e.symm,if_pos e]; rfl
   ·rw [if_neg fun x=>e x.symm,if_neg e]; exact k4 n
theorem aLater_c {x:Int×Int} {th tk:Bool} {n:Int} (h:Ao R w a v d A) (hn:A.W.length<=4999) (hk:∀ w' R',Mod R w w'->Sb R R' w->Ao R' w' a v d (laterA A x th tk n).1->K (.int .i64 (laterA A x th tk n).2) w') :
  Cal Tryz.prog F_alloc_Alloc_later #[.pointer (some ⟨a,0,none⟩),.agg ⟨acV x⟩,.bool th,.bool tk,.int .i64 n] w K:=by
 apply C_alloc_Alloc_later
 unfold D_alloc_Alloc_later
 obtain ⟨w1,b1,b2,b3,b4⟩:=box_u (P:=Tryz.prog) (w:=w) (T:=126) (cs:=acV x)
 refine ⟨_,w1,b1,cond_of (fun h0=>?_) (fun h0=>?_)⟩
 ·have e:laterA A x th tk n=(A,3):=by unfold laterA; rw [if_pos (by simpa using h0)]
  rw [e] at hk
  exact hk w1 R (b3.mono fun _ _ e=>e.elim) (Sb.refl _ _) (h.nos b3)
 have h0:¬ th=false:=by simpa using h0
 have md:Mod No w (Go.Den.drew w1):=b3.drew
 have h1:=h.nos md
 have q1:=b2.drew
 obtain ⟨w0,Rs,Z,sp,wk,a1,a2,a3,a4,a5⟩:=h1.wk
 refine Share.cut (fun z w4=>z=[.bool (!tk || A.W.any fun y=>sameA y.2 x)]/\Mod No (Go.Den.drew w1) w4) (cond_of (fun ht=>⟨?_,Mod.refl _ _⟩) (fun ht=>⟨_,rfl,_,h1.pv,_,q1.at.all agg_pact rfl,aWork_c a4 ⟨_,rfl,q1.at.all agg_pact rfl,kWaits_c a2 (by omega) fun w3 m3=>⟨_,rfl,?_,m3⟩⟩⟩)) ?_
 ·rw [ht]; rfl
 ·rw [ht]; rfl
 rintro z w4 ⟨rfl,m4⟩
 have m14:Mod No w (Go.Den.drew w4):=(md.no m4).drew
 refine ⟨_,rfl,cond_of (fun hb=>?_) (fun hb=>?_)⟩
 ·have e:laterA A x th tk n=(A,6):=by unfold laterA; rw [if_neg h0,if_pos hb]
  rw [e] at hk
  exact hk w4 R ((md.no m4).mono fun _ _ e=>e.elim) (Sb.refl _ _) (h1.nos m4)
 ·have e:laterA A x th tk n=(wrkA A (laterL A.W (n,x)),laterE A.W x.1):=by unfold laterA; rw [if_neg h0,if_neg (by rw [hb]; decide)]
  rw [e] at hk
  have h4:=h.nos m14
  have q4:=(q1.keep m4 id).drew
  obtain ⟨w0,Rs,Z,sp,wk,a1,a2,a3,a4,a5⟩:=h4.wk
  refine ⟨_,rfl,_,h4.pv,_,q4.at.all agg_pact rfl,aWork_c a4 ⟨_,rfl,q4.at.all agg_pact rfl,kLater_c (n:=n) (k:=x.1) (m:=x.2) a2 (by omega) a3 fun w6 m6 hW=>⟨_,rfl,?_⟩⟩⟩
  obtain ⟨M,R',s,hA,_⟩:=a5 w6 Z _ m6 (fun _ e=>e) hW
  exact hk w6 R' ((m14.mono fun _ _ e=>e.elim).trans M fun x _ e=>e) (s.up m14.size) hA
theorem build_act (x y:Int):Al (Instr.build 126 #[(0,.int .i64 x),(1,.int .i64 y)]) (.agg ⟨acV (x,y)⟩):=fun w=>by kernel_rfl
theorem zero_pact:zeroC Tryz.prog 126=some (acV (0,0)):=by kernel_rfl
theorem aFreeB_c {b n:Int} (h63:b<=9223372036854775807) (h:Ao R w a v d A) (hn:A.W.length<=4999) (hk:∀ w' R',Mod R w w'->Sb R R' w->Ao R' w' a v d (giveA A b n).1->K (.int .i64 (giveA A b n).2) w') :
  Cal Tryz.prog F_alloc_Alloc_FreeBlock #[.pointer (some ⟨a,0,none⟩),.int .i64 b,.int .i64 n] w K:=by
 apply C_alloc_Alloc_FreeBlock
 unfold D_alloc_Alloc_FreeBlock
 refine ff rfl (aBlk_c h63 h fun w1 m1=>⟨_,_,rfl,?_⟩)
 obtain ⟨w2,b1,b2,b3,b4⟩:=new_u (P:=Tryz.prog) (w:=w1) (T:=101) zero_spot
 obtain ⟨w3,c1,c2,c3,c4⟩:=b2.put (T:=101) (vs:=pV ((spB A.s.geo b).1,(spB A.s.geo b).2.1)) agg_spot rfl rfl (one_pV _)
 have M3:Mod No w w3:=m1.no (b3.own c3 (Nat.le_refl _))
 have z3:=M3.size
 refine ⟨_,w2,b1,w3,c1,_,build_act _ _,aTaken_c h63 (h.nos M3) fun w4 R4 m4 s4 h4=>⟨_,rfl,aLater_c h4 hn fun w5 R5 m5 s5 h5=>⟨_,rfl,?_⟩⟩⟩
 have z4:=m4.size
 refine hk w5 R5 ?_ ((s4.trans s5 z4).up z3) h5
 exact (M3.mono fun _ _ e=>e.elim).trans (Mod.sb m4 s4 m5) fun x _ e=>e
set_option maxRecDepth 8000 in
theorem aSettle_c (h:Ao R w a v d A) (hn:A.W.length<=4999) (hW:∀ x∈A.W,x.2.2<=9223372036854775807) (hlast:A.V.last+A.W.length<=1000000) (hk:∀ w' R',Mod R w w'->Sb R R' w->Ao R' w' a v d (settleA A)->K (.int .i64 (ripeA A).length) w') :
  Cal Tryz.prog F_alloc_Alloc_Settle #[.pointer (some ⟨a,0,none⟩)] w K:=by
 apply C_alloc_Alloc_Settle
 unfold D_alloc_Alloc_Settle
 have md:Mod No w (Go.Den.drew w):=(Mod.refl _ _).drew
 have h1:=h.nos md
 obtain ⟨w0,Rs,Z,sp,wk,a1,a2,a3,a4,a5⟩:=h1.wk
 refine ff rfl ⟨_,rfl,_,h1.pv,_,rfl,_,h1.pv,aWork_c a4 ⟨_,rfl,h1.pv,aStore_c a4 ⟨_,rfl,kRipeZ_c a1 a2 (by omega) a3 fun w3 p c m3 hW3 o3=>⟨_,_,_,rfl,?_⟩⟩⟩⟩
 obtain ⟨M3,R3,s3,h3,nz3⟩:=a5 w3 _ _ m3 (fun _ e=>.inl e) hW3
 have np:∀ q,p=some q->¬ R3 q.block:=fun q hq=>nz3 _ (o3.base hq).1 (.inr ⟨q,hq,rfl⟩)
 have hlen:(A.W.filter (ripeP A.V)).length=(ripeA A).length:=by unfold ripeA; rw [List.length_map]
 have hll:(ripeA A).length<=A.W.length:=by rw [<- hlen]; exact List.length_filter_le _ _
 have hb63:∀ x∈ripeA A,x.2<=9223372036854775807:=fun x hx=>by
  obtain ⟨y,hy,rfl⟩:=List.mem_map.1 hx
  exact hW y ((List.mem_filter.1 hy).1)
 have eS:settleA A=settleTo (ripeA A) (wrkA A (A.W.filter fun x=>!ripeP A.V x)) (ripeA A).length:=rfl
 rw [eS] at hk
 have hl3:(wrkA A (A.W.filter fun x=>!ripeP A.V x)).V.last+(ripeA A).length<=1000000:=by show A.V.last+_<=_; omega
 rw [hlen]
 rw [hlen,show (A.W.filter (ripeP A.V)).map (·.2)=ripeA A from rfl] at o3
 generalize wrkA A (A.W.filter fun x=>!ripeP A.V x)=A3 at *
 generalize ripeA A=l at *
 have zd:(Go.Den.drew w).heap.size=w.heap.size:=rfl
 have hdl:=h.dlt
 have M03:Mod R w w3:=(md.mono fun _ _ e=>e.elim).trans M3 fun x _ e=>e
 refine ⟨fun x W=>∃ (i:Nat) (R':Nat->Prop),x=[.int .i64 i]/\i<=l.length/\Ao R' W a v d (settleTo l A3 i)/\Sb R R' w/\Mod R w W/\Ow Tryz.prog W w.heap.size 128 2 p l.length c (rowC l)/\(∀ q,p=some q->¬ R' q.block),fun x _=>(l.length-nI x 0).toNat,
  ⟨0,R3,rfl,Nat.zero_le _,h3,s3,M03,o3,np⟩,?_⟩
 rintro x W ⟨i,R',rfl,hi,h4,s4,m4,o4,n4⟩
 refine ⟨_,rfl,cond_of (fun hlt=>?_) (fun hlt=>?_)⟩
 ·have hlt:i<l.length:=by have:=of_decide_eq_true hlt; omega
  have hx:l[i]?=some (l.getD i (0,0)):=by rw [List.getD_eq_getElem?_getD,List.getElem?_eq_getElem hlt]; rfl
  have hx63:=hb63 _ (List.mem_of_getElem? hx)
  have eT:settleTo l A3 (i+1)=actA (settleTo l A3 i) (l.getD i (0,0)):=rfl
  obtain ⟨g,rfl,hg,ix,ld,_⟩:=actAt (T:=128) (Te:=126) o4 rfl elemN_acts agg_pact (by omega) hx
  generalize l.getD i (0,0)=y at *
  obtain ⟨_,t2,t3,t4⟩:=settleTo_s l A3 i
  generalize settleTo l A3 i=A4 at *
  have zW:=m4.size
  obtain ⟨w5,d1,d2,d3,d4⟩:=new_u (P:=Tryz.prog) (w:=W) (T:=126) zero_pact
  obtain ⟨w6,e1,e2,e3,e4⟩:=d2.put (T:=126) (vs:=acV y) agg_pact rfl rfl (acV_one _)
  have m6:Mod No W w6:=d3.own e3 (Nat.le_refl _)
  have h6:=h4.nos m6
  have z6:=m6.size
  refine ⟨_,ix,_,ld W (Mod.refl _ _),_,w5,d1,w6,e1,_,e2.at.fld (v:=.int .i64 y.1) sc_int rfl,?_⟩
  -- what is to be shown of each way
  have done:∀ (A5:Az),actA A4 y=A5->∀ w11 R11,Mod R' w6 w11->Sb R' R11 w6->Ao R11 w11 a v d A5->∃ R'',Ao R'' w11 a v d (settleTo l A3 (i+1))/\Sb R R'' w/\Mod R w w11/\Ow Tryz.prog w11 w.heap.size 128 2 (some ⟨g,0,none⟩) l.length c (rowC l)/\∀ q,(some ⟨g,0,none⟩:Option Addr)=some q->¬ R'' q.block:=fun A5 hA5 w11 R11 m11 s11 h11=>by
   refine ⟨R11,by rw [eT,hA5]; exact h11,s4.trans (s11.up z6) zW,Mod.sb (m4.no m6) s4 m11,(o4.nos m6).keep m11 (fun q hq=>n4 q hq),fun q hq e=>?_⟩
   rcases s11 _ e with e | e
   ·exact n4 q hq e
   ·have:=(o4.base hq).2; omega
  refine Share.cut (fun z w18=>z=[]/\∃ R'',Ao R'' w18 a v d (settleTo l A3 (i+1))/\Sb R R'' w/\Mod R w w18/\Ow Tryz.prog w18 w.heap.size 128 2 (some ⟨g,0,none⟩) l.length c (rowC l)/\∀ q,(some ⟨g,0,none⟩:Option Addr)=some q->¬ R'' q.block) (cond_of (fun hk1=>?_) (fun hk1=>?_)) ?_
  ·have hk1:y.1=1:=by simpa using hk1
   have eA:actA A4 y=(turnA true A4 (spB A4.s.geo y.2).1.toNat (spB A4.s.geo y.2).2.1 false).1:=by unfold actA; rw [if_pos hk1]
   obtain ⟨g1,g2,g3,g4⟩:=spB_in h6.ok y.2
   refine ⟨_,e2.at.fld (v:=.int .i64 y.2) sc_int rfl,aBlk_c hx63 h6 fun w7 m7=>⟨_,_,rfl,?_⟩⟩
   obtain ⟨k,hk'⟩:=Int.eq_ofNat_of_zero_le g1
   rw [hk',Int.toNat_natCast] at eA
   rw [hk'] at g2 |-
   obtain ⟨w8,f1,f2,f3,f4⟩:=new_u (P:=Tryz.prog) (w:=w7) (T:=101) zero_spot
   obtain ⟨w9,y1,y2,y3,y4⟩:=f2.put (T:=101) (vs:=pV ((k:Int),(spB A4.s.geo y.2).2.1)) agg_spot rfl rfl (one_pV _)
   have m9:Mod No w6 (Go.Den.drew w9):=(m7.no (f3.own y3 (Nat.le_refl _))).drew
   refine ⟨_,w8,f1,w9,y1,_,y2.drew.at.all agg_spot rfl,aBlocks_c fun w10 m10=>⟨_,rfl,(y2.drew.keep m10 id).at.all agg_spot rfl,?_⟩⟩
   have M10:=m9.no m10
   refine turn_c (h6.nos M10) g2 (by omega) fun w11 R11 m11 s11 h11=>⟨_,_,rfl,rfl,done _ eA w11 R11 ((M10.mono fun _ _ e=>e.elim).trans m11 fun x _ e=>e) (s11.up M10.size) h11⟩
  ·have hk1:¬ y.1=1:=by simpa using hk1
   refine Share.cut (fun z w18=>z=[]/\∃ R'',Ao R'' w18 a v d (settleTo l A3 (i+1))/\Sb R R'' w/\Mod R w w18/\Ow Tryz.prog w18 w.heap.size 128 2 (some ⟨g,0,none⟩) l.length c (rowC l)/\∀ q,(some ⟨g,0,none⟩:Option Addr)=some q->¬ R'' q.block) (cond_of (fun hk2=>?_) (fun hk2=>?_)) ?_
   ·have hk2:y.1=2:=by simpa using hk2
    have eA:actA A4 y=(turnA false A4 (spS A4.s.geo y.2).1.toNat (spS A4.s.geo y.2).2.1 false).1:=by unfold actA; rw [if_neg hk1,if_pos hk2]
    obtain ⟨g1,g2,g3,g4⟩:=spS_in h6.ok y.2
    refine ⟨_,e2.at.fld (v:=.int .i64 y.2) sc_int rfl,aSlt_c hx63 h6 fun w7 m7=>⟨_,_,rfl,?_⟩⟩
    obtain ⟨k,hk'⟩:=Int.eq_ofNat_of_zero_le g1
    rw [hk',Int.toNat_natCast] at eA
    rw [hk'] at g2 |-
    obtain ⟨w8,f1,f2,f3,f4⟩:=new_u (P:=Tryz.prog) (w:=w7) (T:=101) zero_spot
    obtain ⟨w9,y1,y2,y3,y4⟩:=f2.put (T:=101) (vs:=pV ((k:Int),(spS A4.s.geo y.2).2.1)) agg_spot rfl rfl (one_pV _)
    have m9:Mod No w6 (Go.Den.drew w9):=(m7.no (f3.own y3 (Nat.le_refl _))).drew
    refine ⟨_,w8,f1,w9,y1,_,y2.drew.at.all agg_spot rfl,aSlots_c fun w10 m10=>⟨_,rfl,(y2.drew.keep m10 id).at.all agg_spot rfl,?_⟩⟩
    have M10:=m9.no m10
    refine turn_c (h6.nos M10) g2 (by omega) fun w11 R11 m11 s11 h11=>⟨_,_,rfl,rfl,done _ eA w11 R11 ((M10.mono fun _ _ e=>e.elim).trans m11 fun x _ e=>e) (s11.up M10.size) h11⟩
   ·have hk2:¬ y.1=2:=by simpa using hk2
    have eA:actA A4 y=A4:=by unfold actA; rw [if_neg hk1,if_neg hk2]
    exact ⟨rfl,done _ eA w6 R' (Mod.refl _ _) (Sb.refl _ _) h6⟩
   ·rintro z w18 ⟨rfl,hz⟩
    exact ⟨rfl,hz⟩
  ·rintro z w18 ⟨rfl,R'',k1,k2,k3,k4,k5⟩
   rw [wrap64 (x:=(i:Int)+1) (by omega) (by omega)]
   exact ⟨⟨i+1,R'',rfl,by omega,k1,k2,k3,k4,k5⟩,by simp [nI,nth]; omega⟩
 ·have hlt:=of_decide_eq_false hlt
  have:i=l.length:=by omega
  subst this
  exact hk W R' m4 s4 h4
end
end Go.Proofs.YtelhlihjihklbaaGreat
end
section
open Go Go.Den Go.Proofs
namespace Go.Proofs.YtelhlihjihklbaaGreat
end Go.Proofs.YtelhlihjihklbaaGreat
namespace Go.Den
end Go.Den
namespace Go.Proofs.YtelhlihjihklbaaGreat
def gE (g:Gm):Gm:=if gOk g=true/\gSize g<=200 then g else gKn
def dE (g:Gm):St:=fmtSt (newSt (gSize (gE g)).toNat) (gE g)
def nE (g:Gm):Int:=nextTo (dE g) (gE g) (gSlots (gE g)).toNat+1
def aE (g:Gm) (hs:List Hd) (k:Nat):Az:=⟨⟨1,gE g⟩,⟨⟨dE g,k,[]⟩,0,[]⟩,[],nE g,hs,fun _=>false⟩
theorem gE_ok (g:Gm):gOk (gE g)=true/\gSize (gE g)<=200:=by
 unfold gE
 split
 ·rename_i h; exact h
 ·exact ⟨by decide,by decide⟩
theorem gE_sz (g:Gm):gSize (gE g)=2+(gE g).gs*(gE g).gr/\18<=gSize (gE g):=by
 have h:=(gE_ok g).1
 have e:gSize (gE g)=2+(gE g).gs*(gE g).gr:=by unfold gSize; rw [if_pos h]
 obtain ⟨h1,_,h3,_⟩:=gOk_iff.1 h
 have:1*16<=(gE g).gs*(gE g).gr:=Int.mul_le_mul h3 h1 (by omega) (by omega)
 exact ⟨e,by omega⟩
theorem bndN (k:Nat):Bnd (newSt k) 1:=fun v hv=>by
 have:=List.eq_of_mem_replicate hv
 subst this; simp
theorem build_g16 (w:World):(Instr.build 40 #[(0,.int .i64 16),(1,.int .i64 8),(2,.int .i64 2)]).run Tryz.prog w=.ok (.agg ⟨gV gKn⟩) w:=by kernel_rfl
section
variable {w wb w':World} {R R0 R':Nat->Prop} {N a v d:Nat} {A:Az} {hs:List Hd} {K:Value->World->Prop}
end
end Go.Proofs.YtelhlihjihklbaaGreat
end
section
open Go Go.Den Go.Proofs
namespace Go.Proofs.YtelhlihjihklbaaGreat
section
variable {D:St} {l:List (Int×Bk)} {b:Nat} {ys:Bk} {g:Gm} {n:Nat}
def InD (D:St) (l:List (Int×Bk)):Prop:=∀ x∈l,∃ j:Nat,x.1=j/\j<D.vs.length/\x.2.length=256
theorem wrAll_no (hl:D.left=-1) (hin:InD D l) (hno:∀ x∈l,x.1≠(b:Int)):atD (wrAll D l) b=atD D b:=by
 induction l generalizing D with
 | nil=>rfl
 | cons x l ih =>
  obtain ⟨j,h1,h2,h3⟩:=hin x List.mem_cons_self
  show atD (wrAll (wrSt D x.1 x.2) l) b=_
  have hi:InD (wrSt D x.1 x.2) l:=fun y hy=>by
   obtain ⟨j,k1,k2,k3⟩:=hin y (List.mem_cons_of_mem _ hy)
   exact ⟨j,k1,by rw [wrSt_len]; exact k2,k3⟩
  rw [ih (wrSt_run hl _ _) hi (fun y hy=>hno y (List.mem_cons_of_mem _ hy)),h1,atD_wrN h2 h3 hl,if_neg (fun e=>hno x List.mem_cons_self (by rw [h1,e]))]
theorem wrAll_yes (hl:D.left=-1) (hin:InD D l) (hx:∃ x∈l,x.1=(b:Int)) (hu:∀ x∈l,x.1=(b:Int)->x.2=ys):atD (wrAll D l) b=ys:=by
 induction l generalizing D with
 | nil=>obtain ⟨x,h,_⟩:=hx; cases h
 | cons x l ih =>
  obtain ⟨j,h1,h2,h3⟩:=hin x List.mem_cons_self
  show atD (wrAll (wrSt D x.1 x.2) l) b=_
  have hi:InD (wrSt D x.1 x.2) l:=fun y hy=>by
   obtain ⟨j,k1,k2,k3⟩:=hin y (List.mem_cons_of_mem _ hy)
   exact ⟨j,k1,by rw [wrSt_len]; exact k2,k3⟩
  by_cases h:∃ y∈l,y.1=(b:Int)
  ·exact ih (wrSt_run hl _ _) hi h fun y hy=>hu y (List.mem_cons_of_mem _ hy)
  ·have hxb:x.1=(b:Int):=by
    obtain ⟨y,hy,e⟩:=hx
    rcases List.mem_cons.1 hy with rfl | hy
    ·exact e
    ·exact absurd ⟨y,hy,e⟩ h
   rw [wrAll_no (wrSt_run hl _ _) hi (fun y hy e=>h ⟨y,hy,e⟩),h1,atD_wrN h2 h3 hl,if_pos (by omega)]
   exact hu x List.mem_cons_self hxb
theorem mem_volL {x:Int×Bk} {m:Nat}:x∈volL g m↔∃ k,k<m/\∃ i,i<volN g/\x=volX g k i:=by
 unfold volL volG
 simp only [List.mem_flatMap,List.mem_range,List.mem_map]
 constructor
 ·rintro ⟨k,hk,i,hi,e⟩; exact ⟨k,hk,i,hi,e.symm⟩
 ·rintro ⟨k,hk,i,hi,e⟩; exact ⟨k,hk,i,hi,e.symm⟩
theorem vol_inj (hg:gOk g=true) {k k' i i':Nat} (hi:i<volN g) (hi':i'<volN g) (e:2+(k:Int)*g.gr+i=2+(k':Int)*g.gr+i'):k=k'/\i=i':=by
 have hv:=(volN_b hg).1
 obtain ⟨h1,_,_,_,h5,h6,h7,h8,_⟩:=gOk_iff.1 hg
 have key:∀ {a c:Nat},a<c->(a:Int)*g.gr+g.gr<=(c:Int)*g.gr:=fun {a c} h=>by
  have:=Int.mul_le_mul_of_nonneg_right (show (a:Int)+1<=c by omega) (show 0<=g.gr by omega)
  rw [Int.add_mul,Int.one_mul] at this; exact this
 rcases Nat.lt_trichotomy k k' with h | h | h
 ·have:=key h; omega
 ·subst h; omega
 ·have:=key h; omega
theorem inD_vol (hg:gOk g=true) (hn:gSize g<=n):InD (fmt0 (newSt n)) (volL g g.gs.toNat):=fun x hx=>by
 obtain ⟨k,hk,i,hi,rfl⟩:=mem_volL.1 hx
 obtain ⟨h1,h2⟩:=volX_in hg (k:=k) (n:=n) (by omega) hi hn
 exact ⟨(volX g k i).1.toNat,by omega,by rw [fmt0_len]; simp [newSt]; omega,volB_len g k i⟩
theorem newRun:(newSt n).left=-1:=rfl
theorem at_new (hg:gOk g=true) (hn:gSize g<=n) {k i:Nat} (hk:(k:Int)<g.gs) (hi:i<volN g):atD (fmtSt (newSt n) g) (2+(k:Int)*g.gr+i).toNat=volB g k i:=by
 obtain ⟨h1,h2⟩:=volX_in hg (n:=n) hk hi hn
 have h1:2<=2+(k:Int)*g.gr+i:=h1
 have h2:2+(k:Int)*g.gr+i<n:=h2
 have hb:(((2+(k:Int)*g.gr+i).toNat:Nat):Int)=2+(k:Int)*g.gr+i:=by omega
 generalize (2+(k:Int)*g.gr+i).toNat=b at hb
 have h1r:=fmt1_run (newRun (n:=n)) g
 have hl1:1<(fmt1 (newSt n) g).vs.length:=by rw [fmt1_len]; simp [newSt]; omega
 unfold fmtSt
 rw [atD_fl (wrSt_run h1r _ _),show (1:Int)=((1:Nat):Int) from rfl,atD_wrN hl1 (supB_len _) h1r,if_neg (by omega)]
 unfold fmt1
 rw [atD_fl (wrAll_run (fmt0_run newRun) _)]
 refine wrAll_yes (fmt0_run newRun) (inD_vol hg hn) ⟨volX g k i,mem_volL.2 ⟨k,by omega,i,hi,rfl⟩,hb.symm⟩ fun x hx e=>?_
 obtain ⟨k',_,i',hi',rfl⟩:=mem_volL.1 hx
 have e:2+(k':Int)*g.gr+i'=b:=e
 have e2:2+(k':Int)*g.gr+i'=2+(k:Int)*g.gr+i:=e.trans hb
 obtain ⟨rfl,rfl⟩:=vol_inj hg hi' hi e2
 rfl
theorem at_sup (hn:18<=n):atD (fmtSt (newSt n) g) 1=supB ⟨1,g⟩:=by
 have h1r:=fmt1_run (newRun (n:=n)) g
 have hl1:1<(fmt1 (newSt n) g).vs.length:=by rw [fmt1_len]; simp [newSt]; omega
 unfold fmtSt
 rw [atD_fl (wrSt_run h1r _ _),show (1:Int)=((1:Nat):Int) from rfl,atD_wrN hl1 (supB_len _) h1r,if_pos rfl]
theorem at_zero (hg:gOk g=true) (hn:gSize g<=n) (h18:18<=n):atD (fmtSt (newSt n) g) 0=zeroB:=by
 have h1r:=fmt1_run (newRun (n:=n)) g
 have hl1:1<(fmt1 (newSt n) g).vs.length:=by rw [fmt1_len]; simp [newSt]; omega
 unfold fmtSt
 rw [atD_fl (wrSt_run h1r _ _),show (1:Int)=((1:Nat):Int) from rfl,atD_wrN hl1 (supB_len _) h1r,if_neg (by decide)]
 unfold fmt1
 rw [atD_fl (wrAll_run (fmt0_run newRun) _),wrAll_no (fmt0_run newRun) (inD_vol hg hn) fun x hx e=>by
  obtain ⟨k,hk,i,hi,rfl⟩:=mem_volL.1 hx
  have:=(volX_in hg (k:=k) (n:=n) (by omega) hi hn).1
  have e:(volX g k i).1=((0:Nat):Int):=e
  omega]
 unfold fmt0
 have hz:(wrSt (newSt n) 0 zeroB).left=-1:=wrSt_run newRun _ _
 have hl:1<(wrSt (newSt n) 0 zeroB).vs.length:=by rw [wrSt_len]; simp [newSt]; omega
 rw [atD_fl (wrSt_run hz _ _),show (1:Int)=((1:Nat):Int) from rfl,atD_wrN hl zeroB_len hz,if_neg (by decide),show (0:Int)=((0:Nat):Int) from rfl,atD_wrN (by simp [newSt]; omega) zeroB_len newRun,if_pos rfl]
theorem sFront_get {s:Sp}:(supB s).take 4=sMark/\(supB s).drop 4=toLe 8 s.gen.toNat++((supB s).drop 12)/\(supB s).drop 12=toLe 2 s.geo.gr.toNat++((supB s).drop 14)/\(supB s).drop 14=toLe 2 s.geo.no.toNat++((supB s).drop 16)/\(supB s).drop 16=toLe 2 s.geo.gs.toNat++((supB s).drop 18):=by
 have cut:∀ {a c:List UInt8} {m:Nat},a.length=m->(a++c).drop m=c:=fun {a c m} h=>by rw [List.drop_append,List.drop_eq_nil_of_le (by omega),List.nil_append,h,Nat.sub_self]; rfl
 have e:supB s=sMark++(toLe 8 s.gen.toNat++(toLe 2 s.geo.gr.toNat++(toLe 2 s.geo.no.toNat++(toLe 2 s.geo.gs.toNat++(List.replicate 234 0++toLe 4 (crc (sHead s))))))):=by
  unfold supB; rw [sHead,sFront]; simp only [List.append_assoc]
 have d4:(supB s).drop 4=toLe 8 s.gen.toNat++(toLe 2 s.geo.gr.toNat++(toLe 2 s.geo.no.toNat++(toLe 2 s.geo.gs.toNat++(List.replicate 234 0++toLe 4 (crc (sHead s)))))):=by rw [e]; exact cut rfl
 have d12:(supB s).drop 12=toLe 2 s.geo.gr.toNat++(toLe 2 s.geo.no.toNat++(toLe 2 s.geo.gs.toNat++(List.replicate 234 0++toLe 4 (crc (sHead s))))):=by rw [show 12=4+8 from rfl,<- List.drop_drop,d4]; exact cut (length_toLe _ _)
 have d14:(supB s).drop 14=toLe 2 s.geo.no.toNat++(toLe 2 s.geo.gs.toNat++(List.replicate 234 0++toLe 4 (crc (sHead s)))):=by rw [show 14=12+2 from rfl,<- List.drop_drop,d12]; exact cut (length_toLe _ _)
 have d16:(supB s).drop 16=toLe 2 s.geo.gs.toNat++(List.replicate 234 0++toLe 4 (crc (sHead s))):=by rw [show 16=14+2 from rfl,<- List.drop_drop,d14]; exact cut (length_toLe _ _)
 have d18:(supB s).drop 18=List.replicate 234 0++toLe 4 (crc (sHead s)):=by rw [show 18=16+2 from rfl,<- List.drop_drop,d16]; exact cut (length_toLe _ _)
 refine ⟨by rw [e]; rfl,by rw [d4,d12],by rw [d12,d14],by rw [d14,d16],by rw [d16,d18]⟩
theorem supG_supB {s:Sp} (hs:sOk s=true):supG (supB s)=(s,0):=by
 obtain ⟨⟨g1,g2⟩,hg⟩:=sOk_iff.1 hs
 obtain ⟨r1,r2,r3,r4,r5,r6,_⟩:=gOk_iff.1 hg
 obtain ⟨e1,e2,e3,e4,e5⟩:=sFront_get (s:=s)
 have tk:∀ {k m:Nat} {c:List UInt8},m<256 ^ k->leN ((toLe k m++c).take k)=m:=fun {k m c} h=>by
  rw [List.take_append_of_le_length (by rw [length_toLe]; exact Nat.le_refl _),List.take_of_length_le (by rw [length_toLe]; exact Nat.le_refl _)]
  exact leN_toLe _ _ h
 have hr:readS (supB s)=s:=by
  unfold readS
  rw [e2,tk (by omega),e3,tk (by omega),e4,tk (by omega),e5,tk (by omega),wrap64 (by omega) (by omega)]
  cases s with
  | mk a b =>
   cases b
   simp only at *
   simp only [Sp.mk.injEq,Gm.mk.injEq]
   omega
 have h252:(supB s).take 252=sHead s:=by unfold supB; rw [List.take_append_of_le_length (by rw [sHead_len]; exact Nat.le_refl _),List.take_of_length_le (by rw [sHead_len]; exact Nat.le_refl _)]
 have hc:leN ((supB s).drop 252)=crc ((supB s).take 252):=by
  rw [h252]
  unfold supB
  rw [List.drop_append,List.drop_eq_nil_of_le (by rw [sHead_len]; exact Nat.le_refl _),List.nil_append,sHead_len]
  exact leN_toLe _ _ (crc_lt _)
 have hz:=(sup_back (supB_len s) e1 hc (by rw [hr]; exact hs)).1 (by rw [hr])
 unfold supG
 rw [if_neg (by rw [supB_len]; exact fun e=>e rfl),if_neg (by rw [e1]; exact fun e=>e rfl),if_neg (by rw [hc]; exact fun e=>e rfl),hr,if_neg (by rw [hs]; decide),if_neg (by rw [hz]; decide)]
theorem supG_zero:(supG zeroB).2≠0:=by decide +kernel
theorem choose_new (hg:gOk g=true) (hn:gSize g<=n):supChoose zeroB (supB ⟨1,g⟩) n=(⟨1,g⟩,1,0):=by
 have hs:sOk (⟨1,g⟩:Sp)=true:=sOk_iff.2 ⟨⟨Int.le_refl 1,by show (1:Int)<=4611686018427387904; decide⟩,hg⟩
 have e0:supPick 0 zeroB n sZ=sZ:=by unfold supPick; rw [if_neg fun h=>supG_zero h.1]
 have eB:supBest zeroB (supB ⟨1,g⟩) n=⟨1,g⟩:=by
  unfold supBest
  rw [e0]
  unfold supPick
  rw [supG_supB hs,if_pos ⟨rfl,rfl,hn,by show (1:Int) > 0; decide⟩]
 have hne:(⟨1,g⟩:Sp)≠sZ:=fun e=>by
  have:(1:Int)=0:=congrArg Sp.gen e
  omega
 unfold supChoose
 rw [eB,if_neg hne]; rfl
theorem root_back:inoAt (overB zeroB 64 (inoB rootN)) 1=(rootN,0):=by decide +kernel
theorem hds_new (hg:gOk g=true) (hn:gSize g<=n) (k:Nat):HdsAt ⟨⟨fmtSt (newSt n) g,k,[]⟩,0,[]⟩ g ((List.range g.gs.toNat).map fun j:Nat=>hBase g (j:Int)):=by
 obtain ⟨_,_,g3,_⟩:=gOk_iff.1 hg
 have hv:0<volN g:=by unfold volN; omega
 refine ⟨hg,?_,by rw [List.length_map,List.length_range]; omega,fun j h hj=>?_⟩
 ·show gSize g<=((fmtSt (newSt n) g).vs.length:Int)
  rw [fmtSt_len]; simp [newSt]; omega
 ·rw [List.getElem?_map] at hj
  by_cases hjl:j<g.gs.toNat
  ·rw [List.getElem?_range hjl] at hj
   cases hj
   refine ⟨?_,hOk_base hg (by omega) (by omega),rfl,hBase_wf _ _⟩
   have:=at_new hg hn (k:=j) (i:=0) (by omega) hv
   rw [Int.natCast_zero,Int.add_zero] at this
   exact this
  ·rw [List.getElem?_eq_none (by simp; omega)] at hj; cases hj
theorem mnt_new (hg:gOk g=true) (hn:gSize g<=n) (h18:18<=n):mnt (fmtSt (newSt n) g)=(⟨1,g⟩,0):=by
 obtain ⟨q1,q2,g3,g4,g5,g6,g7,_⟩:=gOk_iff.1 hg
 have hlen:(fmtSt (newSt n) g).vs.length=n:=by rw [fmtSt_len]; simp [newSt]
 have rd:∀ {b:Nat},b<n->rdB (fmtSt (newSt n) g) (b:Int)=atD (fmtSt (newSt n) g) b:=fun {b} h=>(rd_at _ (by rw [hlen]; exact h)).2
 have hS:mntS (fmtSt (newSt n) g)=(⟨1,g⟩,1,0):=by
  unfold mntS
  rw [show (0:Int)=((0:Nat):Int) from rfl,show (1:Int)=((1:Nat):Int) from rfl,rd (by omega),rd (by omega),at_zero hg hn h18,at_sup h18,hlen]
  exact choose_new hg hn
 have hv:=(volN_b hg).1
 have hO:mntOk (fmtSt (newSt n) g) g=true:=by
  unfold mntOk
  rw [Bool.and_eq_true,List.all_eq_true]
  refine ⟨fun k hk=>?_,?_⟩
  ·have hk:=List.mem_range.1 hk
   obtain ⟨p1,p2,p3⟩:=head_pos hg (k:=k) (by omega)
   have e:headAt (fmtSt (newSt n) g) g k=(hBase g k,0):=by
    unfold headAt
    rw [p1,if_neg (fun e=>e rfl)]
    have:=at_new hg hn (k:=k) (i:=0) (by omega) (by omega)
    rw [Int.natCast_zero,Int.add_zero] at this
    have r:=rd (b:=(2+(k:Int)*g.gr).toNat) (by omega)
    rw [show (((2+(k:Int)*g.gr).toNat:Nat):Int)=2+(k:Int)*g.gr by omega,this] at r
    rw [r]
    exact hGet_grpB (hBase_wf _ _) (hOk_base hg (by omega) (by omega))
   unfold headOk
   rw [e]; exact decide_eq_true ⟨rfl,rfl⟩
  ·have hsl:gSlots g=g.gs*g.no:=by unfold gSlots; rw [if_pos hg]
   have hs4:1*4<=g.gs*g.no:=Int.mul_le_mul g3 g5 (by omega) (by omega)
   have e0:(1:Int) / g.no=0:=Int.ediv_eq_zero_of_lt (by omega) (by omega)
   have e1:(1:Int) % g.no=1:=Int.emod_eq_of_lt (by omega) (by omega)
   have ep:gPlace g 1=(3,1,0):=by
    unfold gPlace
    rw [if_pos hg,if_pos ⟨by decide,by omega⟩,e0,e1]
    have:(2:Int)+0*g.gr+1+1 / 4=3:=by rw [Int.zero_mul]; rfl
    rw [this]; rfl
   have:=at_new hg hn (k:=0) (i:=1) (by omega) (by omega)
   rw [show ((0:Nat):Int)*g.gr=0 from Int.zero_mul _] at this
   have this:atD (fmtSt (newSt n) g) 3=volB g 0 1:=this
   have r:=rd (b:=3) (by omega)
   rw [this] at r
   have e:slotAt (fmtSt (newSt n) g) g 1=(rootN,0):=by
    unfold slotAt
    rw [ep,if_neg (fun e=>e rfl)]
    show inoAt (rdB _ ((3:Nat):Int)) 1=_
    rw [r]
    exact root_back
   unfold rootOk
   rw [e]; exact decide_eq_true ⟨rfl,rfl⟩
 unfold mnt
 rw [hS,if_neg (fun e=>e rfl)]
 show (if mntOk (fmtSt (newSt n) g) g=true then _ else _)=_
 rw [if_pos hO]
end
def hsE (g:Gm):List Hd:=(List.range (gE g).gs.toNat).map fun j:Nat=>hBase (gE g) (j:Int)
theorem mnt_E (g:Gm):mnt (dE g)=(⟨1,gE g⟩,0):=by
 obtain ⟨h1,h2⟩:=gE_ok g
 obtain ⟨h3,h4⟩:=gE_sz g
 exact mnt_new h1 (by omega) (by omega)
theorem hds_E (g:Gm) (k:Nat):HdsAt ⟨⟨dE g,k,[]⟩,0,[]⟩ (gE g) (hsE g):=by
 obtain ⟨h1,h2⟩:=gE_ok g
 obtain ⟨h3,h4⟩:=gE_sz g
 exact hds_new h1 (by omega) k
end Go.Proofs.YtelhlihjihklbaaGreat
end
section
open Go Go.Den Go.Proofs
namespace Go.Proofs.YtelhlihjihklbaaGreat
abbrev Ab:=Int×Int×Bool
def abV (x:Ab):List Value:=[.int .i64 x.1,.int .i64 x.2.1,.bool x.2.2]
def rowB (L:List Ab):List Value:=(L.map abV).flatten
theorem abV_len (x:Ab):(abV x).length=3:=rfl
def abAt (L:List Ab) (i:Nat):Ab:=L.getD i (0,0,false)
def stepAb (A:Az) (x:Ab):Az:=if 0<=x.1/\x.1<=3 then (blockA A x.2.1).1 else if x.1=4\/x.1=5 then settleA (giveA A x.2.1 0).1 else if x.1=6 then (freezeA A x.2.1 x.2.2).1 else A
def openTo (A:Az) (acts:List Ab):Nat->Az
 | 0=>A
 | i+1=>stepAb (openTo A acts i) (abAt acts i)
def openA (g:Gm) (acts:List Ab) (k:Nat):Az:=openTo (aE g (hsE g) k) acts (min acts.length 80)
theorem blockA_s (A:Az) (b:Int):(blockA A b).1.s=A.s/\(blockA A b).1.V.last<=A.V.last+1/\(blockA A b).1.W=A.W/\(blockA A b).1.fz=A.fz:=by
 unfold blockA
 split
 ·exact ⟨rfl,setHV_last _ _ _ _,rfl,rfl⟩
 ·exact ⟨rfl,by simp only; omega,rfl,rfl⟩
theorem freezeA_s (A:Az) (k:Int) (on:Bool):(freezeA A k on).1.s=A.s/\(freezeA A k on).1.V=A.V/\(freezeA A k on).1.W=A.W:=by
 unfold freezeA
 split <;> exact ⟨rfl,rfl,rfl⟩
theorem giveA_W {A:Az} (h:A.W=[]) (b:Int):((giveA A b 0).1=A/\(giveA A b 0).2≠0)\/((giveA A b 0).1=wrkA A [(0,1,b)]/\(giveA A b 0).2=0/\(spB A.s.geo b).2.2=true/\takenA A b=true):=by
 unfold giveA laterA
 by_cases h1:(spB A.s.geo b).2.2=false
 ·rw [if_pos h1]; exact .inl ⟨rfl,by show (3:Int)≠0; decide⟩
 rw [if_neg h1,h]
 by_cases h2:takenA A b=true
 ·rw [h2]
  exact .inr ⟨rfl,rfl,by simpa using h1,rfl⟩
 ·have h2:takenA A b=false:=by simpa using h2
  rw [h2]; exact .inl ⟨rfl,by show (6:Int)≠0; decide⟩
theorem settle_give {A:Az} (h:A.W=[]) (b:Int):(settleA (giveA A b 0).1=A/\¬ ((spB A.s.geo b).2.2=true/\takenA A b=true))\/(settleA (giveA A b 0).1=actA (wrkA A []) (1,b)/\(spB A.s.geo b).2.2=true/\takenA A b=true):=by
 rcases giveA_W h b with ⟨e1,e2⟩ | ⟨e1,_,e3,e4⟩
 ·refine .inl ⟨?_,fun e=>e2 ?_⟩
  ·rw [e1]
   unfold settleA ripeA
   rw [h]
   show wrkA A []=A
   rw [<- h]; rfl
  ·unfold giveA laterA
   rw [if_neg (by rw [e.1]; decide),h,e.2]; rfl
 ·refine .inr ⟨?_,e3,e4⟩
  rw [e1]; rfl
theorem settle_s {A:Az} (h:A.W=[]) (b:Int):(settleA (giveA A b 0).1).s=A.s/\(settleA (giveA A b 0).1).V.last<=A.V.last+1/\(settleA (giveA A b 0).1).W=[]/\(settleA (giveA A b 0).1).fz=A.fz:=by
 rcases settle_give h b with ⟨e,_⟩ | ⟨e,_⟩
 ·rw [e]; exact ⟨rfl,by omega,h,rfl⟩
 ·rw [e]
  obtain ⟨h1,h2,h3,h4⟩:=actA_s (wrkA A []) (1,b)
  exact ⟨h1,h2,h3,h4⟩
theorem stepAb_s {A:Az} (h:A.W=[]) (x:Ab):(stepAb A x).s=A.s/\(stepAb A x).V.last<=A.V.last+1/\(stepAb A x).W=[]:=by
 unfold stepAb
 split
 ·obtain ⟨h1,h2,h3,_⟩:=blockA_s A x.2.1
  exact ⟨h1,h2,h3.trans h⟩
 split
 ·obtain ⟨h1,h2,h3,_⟩:=settle_s h x.2.1
  exact ⟨h1,h2,h3⟩
 split
 ·obtain ⟨h1,h2,h3⟩:=freezeA_s A x.2.1 x.2.2
  exact ⟨h1,by rw [h2]; omega,h3.trans h⟩
 ·exact ⟨rfl,by omega,h⟩
theorem openTo_s {A:Az} (h:A.W=[]) (acts:List Ab):∀ i,(openTo A acts i).s=A.s/\(openTo A acts i).V.last<=A.V.last+i/\(openTo A acts i).W=[]
 | 0=>⟨rfl,Nat.le_refl _,h⟩
 | i+1=>by
  obtain ⟨h1,h2,h3⟩:=openTo_s h acts i
  obtain ⟨k1,k2,k3⟩:=stepAb_s h3 (abAt acts i)
  exact ⟨k1.trans h1,by show (stepAb (openTo A acts i) (abAt acts i)).V.last<=_; omega,k3⟩
theorem openA_s (g:Gm) (acts:List Ab) (k:Nat):(openA g acts k).s.geo=gE g/\(openA g acts k).V.last<=80/\(openA g acts k).W=[]:=by
 obtain ⟨h1,h2,h3⟩:=openTo_s (A:=aE g (hsE g) k) rfl acts (min acts.length 80)
 refine ⟨by unfold openA; rw [h1]; rfl,?_,h3⟩
 have:(aE g (hsE g) k).V.last=0:=rfl
 unfold openA; omega
theorem elemN_abs:elemN Tryz.prog 41=some 3:=by kernel_rfl
section
variable {w w':World} {R R':Nat->Prop} {a v d:Nat} {A:Az} {K:Value->World->Prop}
theorem abRow {a1:Option Addr} {l1 c1 i:Nat} {acts:List Ab} (hr:Row w a1 (rowB acts)) (hl:acts.length=l1) (hi:i<l1) (h63:i<=1000):∃ q o,Al (Instr.indexAt 41 (.slice a1 l1 c1) (.int .i64 i)) (.pointer (some ⟨q,o,none⟩)) /\
  ∀ w',Mod No w w'->Ru (Instr.loadAt 3 (.pointer (some (Addr.add ⟨q,o,none⟩ 0)))) w' (.int .i64 (abAt acts i).1) w'/\Ru (Instr.loadAt 3 (.pointer (some (Addr.add ⟨q,o,none⟩ 1)))) w' (.int .i64 (abAt acts i).2.1) w'/\Ru (Instr.loadAt 4 (.pointer (some (Addr.add ⟨q,o,none⟩ 2)))) w' (.bool (abAt acts i).2.2) w':=by
 have hx:acts[i]?=some (abAt acts i):=by unfold abAt; rw [List.getD_eq_getElem?_getD,List.getElem?_eq_getElem (by omega)]; rfl
 have hlen:(rowB acts).length=acts.length*3:=flat_len' abV_len acts
 rcases hr with hr | ⟨b,o,rfl,hat⟩
 ·rw [hr] at hlen
  have hlen:0=acts.length*3:=hlen
  omega
 refine ⟨b,o+i*3,fun w'=>?_,fun w' m=>?_⟩
 ·have:=index_slice (P:=Tryz.prog) (T:=41) (k:=3) (a:=⟨b,o,none⟩) (n:=l1) (c:=c1) (kk:=.i64) (i:=i) elemN_abs (by omega) (by omega) w'
  rw [add_none,show o+(i:Int).toNat*3=o+i*3 by omega] at this
  exact this
 ·have hk:=hat.keep m id
  refine ⟨?_,?_,?_⟩
  ·rw [add_none,Nat.add_assoc]; exact hk.load (P:=Tryz.prog) (T:=3) (i:=i*3+0) sc_int (flat_cell abV_len hx rfl)
  ·rw [add_none,Nat.add_assoc]; exact hk.load (P:=Tryz.prog) (T:=3) (i:=i*3+1) sc_int (flat_cell abV_len hx rfl)
  ·rw [add_none,Nat.add_assoc]; exact hk.load (P:=Tryz.prog) (T:=4) (i:=i*3+2) sc_bl (flat_cell abV_len hx rfl)
set_option maxRecDepth 8000 in
set_option maxHeartbeats 1000000 in
theorem open31_c {g:Gm} {a1:Option Addr} {l1 c1:Nat} {acts:List Ab} (hr:Row w a1 (rowB acts)) (hl:acts.length=l1) (h63:∀ x∈acts,x.2.1<=9223372036854775807)
  (hk:∀ w' R a v d k,Mod No w w'->Ao R w' a v d (openA g acts k)->(∀ z,R z->w.heap.size<=z)->K (.pointer (some ⟨a,0,none⟩)) w') :
  Cal Tryz.prog F_leveelaw31_open #[.agg ⟨gV g⟩,.slice a1 l1 c1] w K:=by
 apply C_leveelaw31_open
 unfold D_leveelaw31_open
 obtain ⟨w1,b1,b2,b3,b4⟩:=box_u (P:=Tryz.prog) (w:=w) (T:=40) (cs:=gV g)
 obtain ⟨hok,h200⟩:=gE_ok g
 obtain ⟨hsz,h18⟩:=gE_sz g
 refine ⟨_,w1,b1,Share.cut (fun z w4=>Mod No w1 w4/\z=[.bool (decide (¬ (gOk g=true/\gSize g<=200)))]) ⟨_,b2.at.all agg_geo rfl,rgRight_c fun w2 m2=>⟨_,rfl,cond_of (fun h=>⟨m2,?_⟩) (fun h=>⟨_,(b2.keep m2 id).at.all agg_geo rfl,rgSize_c fun w3 m3=>⟨_,rfl,m2.no m3,?_⟩⟩)⟩⟩ ?_⟩
 ·rw [decide_eq_true (show ¬ (gOk g=true/\gSize g<=200) from fun e=>by rw [e.1] at h; cases h)]
 ·have h:gOk g=true:=by simpa using h
  congr 2
  exact decide_eq_decide.2 ⟨fun e x=>by omega,fun e=>by
   have:¬ gSize g<=200:=fun x=>e ⟨h,x⟩
   omega⟩
 rintro z w4 ⟨m4,rfl⟩
 refine ⟨_,rfl,Share.cut (fun z w6=>Mod No w w6/\AtU w6 w.heap.size 0 (gV (gE g))) ?_ ?_⟩
 ·refine cond_of (fun h=>⟨_,build_g16,?_⟩) (fun h=>?_)
  ·have h:=of_decide_eq_true h
   have e:gE g=gKn:=by unfold gE; rw [if_neg h]
   obtain ⟨w5,c1,c2,c3,c4⟩:=(b2.keep m4 id).put (T:=40) (vs:=gV gKn) agg_geo rfl rfl (one_gV _)
   rw [e]
   exact ⟨w5,c1,(b3.no m4).own c3 (Nat.le_refl _),c2⟩
  ·have h:=Classical.not_not.1 (of_decide_eq_false h)
   have e:gE g=g:=by unfold gE; rw [if_pos h]
   rw [e]
   exact ⟨b3.no m4,b2.keep m4 id⟩
 rintro z w6 ⟨m6,q6⟩
 refine ⟨_,q6.at.all agg_geo rfl,rgSize_c fun w7 m7=>⟨_,rfl,?_⟩⟩
 have hz6:=m6.size
 have hz7:=m7.size
 have hql:=q6.lt
 refine New_c (by omega) (by omega) (fun h=>by omega) fun k hk' _ _ w8 d sb mb m8 hD=>⟨_,_,rfl,_,((q6.keep m7 id).keep m8 id).at.all agg_geo rfl,?_⟩
 have hkn:(gSize (gE g)).toNat=k:=by omega
 have hz8:=m8.size
 have q8:=(q6.keep m7 id).keep m8 id
 have hfE:fmtE (newSt k) (gE g)=0:=by
  unfold fmtE
  rw [if_neg (by rw [hok]; decide),if_neg (by simp [newSt]; omega)]
 have eD:dE g=fmtSt (newSt k) (gE g):=by unfold dE; rw [hkn]
 have hlen:(dE g).vs.length=k:=by rw [eD,fmtSt_len]; simp [newSt]
 have hrun:(dE g).left=-1:=by rw [eD]; exact fmtSt_run rfl _
 have hbnd:Bnd (dE g) 1:=by rw [eD]; exact fmtSt_bnd rfl _
 refine vFormat_c (g:=gE g) hD rfl (bndN k) (fun h=>absurd hfE h) fun _ wa Na w11 ma Xa=>⟨_,rfl,?_⟩
 rw [<- eD] at Xa
 have hza:=ma.size
 have hXs:=Xa.mod.size
 obtain ⟨Ra,sba,mba,sca,La,a1',a2',a3',a4'⟩:=Xa
 have hRa:∀ x,Ra x->w7.heap.size<=x/\x<w11.heap.size:=fun x hx=>by
  have:=(a2' x hx).2
  rcases (a2' x hx).1 with e | e
  ·have e:w7.heap.size<=x/\x<w8.heap.size:=e
   omega
  ·omega
 have M8:Mod No w w8:=(m6.no m7).no m8
 have M11:Mod No w w11:=(M8.no ma).trans a3' fun x hx e=>by have e:w7.heap.size<=x/\x<w8.heap.size:=e; omega
 have hsm:Small (dE g):=BndS hbnd (by omega)
 have hdR:=a1'.rb
 have hm:=mnt_E g
 refine vMount_c (w0:=w) a1' hsm (fun x hx=>⟨by have:=hRa x hx; omega,a1'.lt x hx⟩) M11 hrun (fun h=>absurd (by rw [hm]) h) fun _ w13 N13 v X13=>⟨_,_,rfl,?_⟩
 rw [hm] at X13
 have X13:Vg w11 Ra N13 w13 v d ⟨1,gE g⟩ (dE g) (nE g):=X13
 have hz13:=X13.mod.size
 have M13:Mod No w w13:=M11.trans X13.mod fun x hx e=>by have:=hRa x e; omega
 refine ff rfl ?_
 obtain ⟨Rv,kc,hV,hlo⟩:=X13.vu
 refine aNew_c hV (hds_E g kc) fun w16 R16 a m16 s16 h16 ha=>⟨_,rfl,?_⟩
 have hlo16:∀ z,R16 z->w.heap.size<=z:=fun z hz=>by
  have hda:=hRa d hdR
  rcases s16 z hz with e | e
  ·rcases hlo z e with e | e | e
   ·have:=hRa z e; omega
   ·omega
   ·omega
  ·omega
 have M16:=M13.no m16
 have h16:Ao R16 w16 a v d (openTo (aE g (hsE g) kc) acts 0):=h16
 refine ⟨fun x W=>∃ (i:Nat) (y1 y2 y3:Value) (R':Nat->Prop),x=[.int .i64 i,y1,y2,y3]/\i<=min acts.length 80/\Ao R' W a v d (openTo (aE g (hsE g) kc) acts i)/\(∀ z,R' z->w.heap.size<=z)/\Mod No w W,fun x _=>(80-nI x 0).toNat,
  ⟨0,_,_,_,R16,rfl,Nat.zero_le _,h16,hlo16,M16⟩,?_⟩
 rintro x W ⟨i,y1,y2,y3,R',rfl,hi,h1,lo1,m1⟩
 refine Share.cut (fun z w13=>w13=W/\z=[.bool (decide (i<min acts.length 80))]) ⟨_,rfl,cond_of (fun hb=>⟨rfl,?_⟩) (fun hb=>⟨rfl,?_⟩)⟩ ?_
 ·have hb:=of_decide_eq_true hb
  congr 2
  exact decide_eq_decide.2 ⟨fun e=>by omega,fun e=>by omega⟩
 ·have hb:=of_decide_eq_false hb
  rw [decide_eq_false (show ¬ i<min acts.length 80 by omega)]
 rintro z w13 ⟨rfl,rfl⟩
 refine ⟨_,rfl,cond_of (fun hlt=>?_) (fun hlt=>?_)⟩
 ·have hlt:=of_decide_eq_true hlt
  obtain ⟨q,o,ix,ld⟩:=abRow (i:=i) (c1:=c1) hr hl (by omega) (by omega)
  have hin:abAt acts i∈acts:=by
   have:acts[i]?=some (abAt acts i):=by unfold abAt; rw [List.getD_eq_getElem?_getD,List.getElem?_eq_getElem (by omega)]; rfl
   exact List.mem_of_getElem? this
  have hb63:=h63 _ hin
  obtain ⟨s1,s2,s3⟩:=openTo_s (A:=aE g (hsE g) kc) rfl acts i
  have s2:(openTo (aE g (hsE g) kc) acts i).V.last<=0+i:=s2
  have eT:openTo (aE g (hsE g) kc) acts (i+1)=stepAb (openTo (aE g (hsE g) kc) acts i) (abAt acts i):=rfl
  generalize abAt acts i=y at *
  generalize openTo (aE g (hsE g) kc) acts i=A1 at *
  refine ⟨_,rfl,_,ix,_,(ld _ m1).1,Share.cut (fun z w16=>w16=w13/\z=[.bool (decide (0<=y.1/\y.1<=3))]) ?_ ?_⟩
  ·refine cond_of (fun e=>⟨rfl,?_⟩) (fun e=>Share.cut (fun z w16=>w16=w13/\z=[.bool (decide (0<=y.1/\y.1<=3))]) (cond_of (fun e2=>⟨rfl,?_⟩) (fun e2=>Share.cut (fun z w16=>w16=w13/\z=[.bool (decide (0<=y.1/\y.1<=3))]) (cond_of (fun e3=>⟨rfl,?_⟩) (fun e3=>⟨rfl,?_⟩)) ?_)) ?_)
   ·have e':y.1=0:=by simpa using e
    rw [e,decide_eq_true (show 0<=y.1/\y.1<=3 by omega)]
   ·have e':y.1=1:=by simpa using e2
    rw [e2,decide_eq_true (show 0<=y.1/\y.1<=3 by omega)]
   ·have e':y.1=2:=by simpa using e3
    rw [e3,decide_eq_true (show 0<=y.1/\y.1<=3 by omega)]
   ·have e:¬ y.1=0:=by simpa using e
    have e2:¬ y.1=1:=by simpa using e2
    have e3:¬ y.1=2:=by simpa using e3
    congr 2
    rw [Bool.eq_iff_iff,beq_iff_eq,decide_eq_true_iff]; omega
   ·rintro z w16 ⟨rfl,rfl⟩; exact ⟨rfl,rfl⟩
   ·rintro z w16 ⟨rfl,rfl⟩; exact ⟨rfl,rfl⟩
  rintro z w16 ⟨rfl,rfl⟩
  have base:∀ {w17:World} {R17:Nat->Prop},Mod R' w16 w17->Sb R' R17 w16->(∀ z,R17 z->w.heap.size<=z)/\Mod No w w17:=fun m s=>⟨fun z hz=>by
   rcases s z hz with e | e
   ·exact lo1 z e
   ·have:=m1.size; omega,m1.trans m fun x hx e=>by have:=lo1 x e; omega⟩
  refine ⟨_,rfl,Share.cut (fun z w24=>∃ (y4:Value) (R':Nat->Prop),z=[y4]/\Ao R' w24 a v d (stepAb A1 y)/\(∀ z,R' z->w.heap.size<=z)/\Mod No w w24) ?_ ?_⟩
  ·refine cond_of (fun hc=>⟨_,ix,_,(ld _ m1).2.1,?_⟩) (fun hc=>?_)
   ·have eS:stepAb A1 y=(blockA A1 y.2.1).1:=by unfold stepAb; rw [if_pos (of_decide_eq_true hc)]
    rw [eS]
    refine aBlock_c hb63 h1 (by omega) fun w17 R17 m17 s17 h17=>⟨_,_,_,rfl,?_⟩
    obtain ⟨k1,k2⟩:=base m17 s17
    exact ⟨_,R17,rfl,h17,k1,k2⟩
   have hc:=of_decide_eq_false hc
   refine Share.cut (fun z w18=>w18=w16/\z=[.bool (decide (y.1=4\/y.1=5))]) (cond_of (fun e=>⟨rfl,?_⟩) (fun e=>⟨rfl,?_⟩)) ?_
   ·have e':y.1=4:=by simpa using e
    rw [e,decide_eq_true (Or.inl e')]
   ·have e':¬ y.1=4:=by simpa using e
    congr 2
    rw [Bool.eq_iff_iff,beq_iff_eq,decide_eq_true_iff]; omega
   rintro z w18 ⟨rfl,rfl⟩
   refine ⟨_,rfl,Share.cut (fun z w23=>z=[]/\∃ (R':Nat->Prop),Ao R' w23 a v d (stepAb A1 y)/\(∀ z,R' z->w.heap.size<=z)/\Mod No w w23) (cond_of (fun he=>⟨_,ix,_,(ld _ m1).2.1,?_⟩) (fun he=>?_)) ?_⟩
   ·have he:=of_decide_eq_true he
    have eS:stepAb A1 y=settleA (giveA A1 y.2.1 0).1:=by unfold stepAb; rw [if_neg hc,if_pos he]
    rw [eS]
    refine aFreeB_c hb63 h1 (by rw [s3]; decide) fun w19 R19 m19 s19 h19=>⟨_,rfl,?_⟩
    have hWl:(giveA A1 y.2.1 0).1.W.length<=1/\(∀ x∈(giveA A1 y.2.1 0).1.W,x.2.2<=9223372036854775807)/\(giveA A1 y.2.1 0).1.V.last=A1.V.last:=by
     rcases giveA_W s3 y.2.1 with ⟨e1,_⟩ | ⟨e1,_⟩
     ·rw [e1,s3]; exact ⟨by decide,(fun x hx=>by cases hx),rfl⟩
     ·rw [e1]
      refine ⟨Nat.le_refl _,fun x hx=>?_,rfl⟩
      have:x=(0,1,y.2.1):=by simpa [wrkA] using hx
      rw [this]; exact hb63
    refine aSettle_c h19 (by omega) hWl.2.1 (by omega) fun w20 R20 m20 s20 h20=>⟨_,rfl,rfl,R20,h20,?_⟩
    exact base (Mod.sb m19 s19 m20) (s19.trans s20 m19.size)
   ·have he:=of_decide_eq_false he
    refine Share.cut (fun z w23=>z=[]/\∃ (R':Nat->Prop),Ao R' w23 a v d (stepAb A1 y)/\(∀ z,R' z->w.heap.size<=z)/\Mod No w w23) (cond_of (fun hf=>⟨_,ix,_,(ld _ m1.drew).2.1,_,ix,_,(ld _ m1.drew).2.2,?_⟩) (fun hf=>?_)) ?_
    ·have hf:y.1=6:=by simpa using hf
     have eS:stepAb A1 y=(freezeA A1 y.2.1 y.2.2).1:=by unfold stepAb; rw [if_neg hc,if_neg he,if_pos hf]
     rw [eS]
     refine aFreeze_c (h1.nos (Mod.refl _ _).drew) fun w21 R21 m21 s21 h21=>⟨_,rfl,rfl,R21,h21,?_⟩
     exact base ((((Mod.refl No w18).drew).mono fun _ _ e=>e.elim).trans m21 fun x _ e=>e) s21
    ·have hf:¬ y.1=6:=by simpa using hf
     have eS:stepAb A1 y=A1:=by unfold stepAb; rw [if_neg hc,if_neg he,if_neg hf]
     rw [eS]
     exact ⟨rfl,R',h1,lo1,m1⟩
    ·rintro z w22 ⟨rfl,hz⟩
     exact ⟨rfl,hz⟩
   ·rintro z w23 ⟨rfl,R'',k1,k2,k3⟩
    exact ⟨_,R'',rfl,k1,k2,k3⟩
  ·rintro z w24 ⟨y4,R'',rfl,k1,k2,k3⟩
   rw [wrap64 (x:=(i:Int)+1) (by omega) (by omega)]
   exact ⟨⟨i+1,_,_,_,R'',rfl,by omega,by rw [eT]; exact k1,k2,k3⟩,by simp [nI,nth]; omega⟩
 ·have hlt:=of_decide_eq_false hlt
  have:i=min acts.length 80:=by omega
  subst this
  exact hk w13 R' a v d kc m1 h1 lo1
end
end Go.Proofs.YtelhlihjihklbaaGreat
end
section
open Go Go.Den Go.Proofs
namespace Go.Proofs.YtelhlihjihklbaaGreat
def gK1:Gm:=⟨16,8,1⟩
def fF:Int->Bool:=fun _=>false
def hJ0:List Hd:=[hBase gK1 0]
def hJ1:List Hd:=hJ0.set 0 (useX true gK1 (hJ0.getD 0 hZ) 9 true).1
def bJ (hs:List Hd):Az:=⟨⟨1,gK1⟩,⟨⟨newSt 0,0,[]⟩,0,[]⟩,[],0,hs,fF⟩
theorem gE_1:gE gK1=gK1:=by decide
theorem hsE_1:hsE gK1=hJ0:=by unfold hsE; rw [gE_1]; rfl
theorem allJ0:allA (bJ hJ0)=[(5,13)]:=by decide +kernel
theorem allJ1:allA (bJ hJ1)=[(5,6),(12,6)]:=by decide +kernel
theorem scJ0:scoreL [(5,13)]=0:=by decide +kernel
theorem scJ1:scoreL [(5,6),(12,6)]=500:=by decide +kernel
theorem tkJ:takeTo gK1 hJ0 fF (findX true gK1) (spB gK1 10).1 (spB gK1 10).2.1 (spB gK1 10).2.2 gK1.gs.toNat=some (0,9):=by decide +kernel
theorem allJ {s:Sp} (e:s.geo=gK1) (V:Ps) (W:List Wt) (nx:Int) (hs:List Hd):allA ⟨s,V,W,nx,hs,fF⟩=allA (bJ hs) :=
 allA_congr (A:=bJ hs) e rfl (by show gOk gK1=true; decide) fun k j _ _ _=>by unfold takenA; rw [show (⟨s,V,W,nx,hs,fF⟩:Az).s.geo=(bJ hs).s.geo from e]; rfl
theorem build_g1 (w:World):(Instr.build 40 #[(0,.int .i64 16),(1,.int .i64 8),(2,.int .i64 1)]).run Tryz.prog w=.ok (.agg ⟨gV gK1⟩) w:=by kernel_rfl
section
variable {w:World} {K:Value->World->Prop}
set_option maxRecDepth 8000 in
theorem known31_c (hk:∀ w',Mod No w w'->K (.bool true) w'):Cal Tryz.prog F_leveelaw31_known #[] w K:=by
 apply C_leveelaw31_known
 unfold D_leveelaw31_known
 refine ⟨_,build_g1,open31_c (acts:=[]) (.inl rfl) rfl (fun x hx=>by cases hx) fun w1 R a v d k m1 h1 hlo=>⟨_,rfl,ff rfl ?_⟩⟩
 have eA:openA gK1 [] k=⟨⟨1,gK1⟩,⟨⟨dE gK1,k,[]⟩,0,[]⟩,[],nE gK1,hJ0,fF⟩:=by
  show aE gK1 (hsE gK1) k=_
  unfold aE
  rw [hsE_1,gE_1]; rfl
 rw [eA] at h1
 generalize nE gK1=nx at h1
 generalize dE gK1=D at h1
 have base:∀ {w2:World} {R2:Nat->Prop} {w3:World},Mod No w w2->Mod R2 w2 w3->(∀ z,R2 z->w.heap.size<=z)->Mod No w w3:=fun h1 h2 h3=>h1.trans h2 fun x hx e=>by have:=h3 x e; omega
 have up:∀ {R2 R3:Nat->Prop} {w2:World},Sb R2 R3 w2->w.heap.size<=w2.heap.size->(∀ z,R2 z->w.heap.size<=z)->∀ z,R3 z->w.heap.size<=z:=fun h1 h2 h3 z hz=>by
  rcases h1 z hz with e | e
  ·exact h3 z e
  ·omega
 have a0:allA ⟨⟨1,gK1⟩,⟨⟨D,k,[]⟩,0,[]⟩,[],nx,hJ0,fF⟩=[(5,13)]:=(allJ rfl _ _ _ _).trans allJ0
 refine planAll_c h1 fun w2 R2 p2 c2 m2 s2 h2 o2=>⟨_,_,_,rfl,score_c h2 fun w3 R3 m3 s3 h3=>⟨_,rfl,?_⟩⟩
 rw [a0] at o2 |-
 rw [scJ0]
 have M2:=base m1 m2 hlo
 have L2:=up s2 m1.size hlo
 have M3:=base M2 m3 L2
 have L3:=up s3 M2.size L2
 refine aBlock_c (by omega) h3 (by show 0+1<=1000000; omega) fun w4 R4 m4 s4 h4=>⟨_,_,_,rfl,?_⟩
 have e4:blockA ⟨⟨1,gK1⟩,⟨⟨D,k,[]⟩,0,[]⟩,[],nx,hJ0,fF⟩ 10=(sethA ⟨⟨1,gK1⟩,⟨⟨D,k,[]⟩,0,[]⟩,[],nx,hJ0,fF⟩ 0 (useX true gK1 (hJ0.getD 0 hZ) 9 true).1,11,1,0):=by
  unfold blockA
  rw [tkJ]; rfl
 rw [e4] at h4
 have M4:=base M3 m4 L3
 have L4:=up s4 M3.size L3
 obtain ⟨V4,hV4⟩:∃ V4,sethA ⟨⟨1,gK1⟩,⟨⟨D,k,[]⟩,0,[]⟩,[],nx,hJ0,fF⟩ 0 (useX true gK1 (hJ0.getD 0 hZ) 9 true).1=⟨⟨1,gK1⟩,V4,[],nx,hJ1,fF⟩:=⟨_,rfl⟩
 rw [hV4] at h4
 have a1:allA ⟨⟨1,gK1⟩,V4,[],nx,hJ1,fF⟩=[(5,6),(12,6)]:=(allJ rfl _ _ _ _).trans allJ1
 refine planAll_c h4 fun w5 R5 p5 c5 m5 s5 h5 o5=>⟨_,_,_,rfl,?_⟩
 rw [a1] at o5 |-
 have M5:=base M4 m5 L4
 have L5:=up s5 M4.size L4
 have n2:∀ q,p2=some q->¬ R2 q.block/\w1.heap.size<=q.block/\q.block<w2.heap.size:=fun q hq=>⟨o2.nr q hq,(o2.ow.base hq).1,(o2.ow.base hq).2⟩
 have z2:=m2.size
 have z3:=m3.size
 have z4:=m4.size
 have hx3:=o2.ow.keep m3 fun q hq=>(n2 q hq).1
 have n3:∀ q,p2=some q->¬ R3 q.block:=fun q hq e=>by
  have:=n2 q hq
  rcases s3 _ e with e | e
  ·exact this.1 e
  ·omega
 have n4:∀ q,p2=some q->¬ R4 q.block:=fun q hq e=>by
  have:=n2 q hq
  rcases s4 _ e with e | e
  ·exact n3 q hq e
  ·omega
 have hx5:=(hx3.keep m4 n3).keep m5 n4
 obtain ⟨g,rfl,_,hat,ix,_,ld1,ld2⟩:=runAt (i:=0) (x:=(5,13)) hx5 rfl
 obtain ⟨g',hg',_,hat',ix',_,_,ld4⟩:=runAt (i:=0) (x:=(5,6)) o5.ow rfl
 obtain ⟨g'',hg'',_,_,ix'',_,ld5,ld6⟩:=runAt (i:=1) (x:=(12,6)) o5.ow rfl
 subst hg'
 cases hg''
 refine Share.dup (tt rfl ⟨_,ix,_,ld1 _ hat.at,tt rfl ⟨_,ix,_,ld2 _ hat.at,tt rfl (tt rfl (tt rfl ⟨_,ix',_,ld4 _ hat'.at,tt rfl ⟨_,ix'',_,ld5 _ hat'.at,tt rfl ⟨_,ix'',_,ld6 _ hat'.at,tt rfl ?_⟩⟩⟩))⟩⟩)
 refine score_c h5 fun w6 R6 m6 s6 h6=>⟨_,rfl,_,rfl,?_⟩
 rw [a1,scJ1]
 exact hk w6 (base M5 m6 L5)
end
end Go.Proofs.YtelhlihjihklbaaGreat
end
section
open Go Go.Den Go.Proofs
namespace Go.Proofs.YtelhlihjihklbaaGreat
theorem elemG_rr:elemG Tryz.prog 43 2 16:=elemG_of (by kernel_rfl)
theorem elemN_rr:elemN Tryz.prog 43=some 2:=by kernel_rfl
theorem agg_rr:aggN Tryz.prog 49=some 2:=by kernel_rfl
theorem build_rr (x y:Int):Al (Instr.build 49 #[(0,.int .i64 x),(1,.int .i64 y)]) (.agg ⟨acV (x,y)⟩):=fun w=>by kernel_rfl
theorem built_rr (w:World) (x:Int×Int):(Instr.buildSlice 43 1 #[(0,.agg ⟨acV x⟩)]).run Tryz.prog w=.ok (.slice (some ⟨w.heap.size,0,none⟩) 1 1) (w.alloc (.cells ⟨acV x⟩ 49)):=by kernel_rfl
theorem two_rr:two Tryz.prog 49=true:=by kernel_rfl
theorem und_rr:Tryz.prog.underlying 49=some (.struct (Tryz.prog.fieldsOf 49)):=by kernel_rfl
theorem std_rr:Tryz.prog.stoodInHeld 49=false:=by kernel_rfl
theorem grd_rr:Tryz.prog.eqGuardType Tryz.prog.depth 49=false:=by kernel_rfl
theorem sameA_iff {x y:Int×Int}:sameA x y=true↔x=y:=by
 unfold sameA
 rw [Bool.and_eq_true,beq_iff_eq,beq_iff_eq]
 exact ⟨fun e=>Prod.ext e.1 e.2,fun e=>by subst e; exact ⟨rfl,rfl⟩⟩
section
variable {w w':World} {R R':Nat->Prop} {a v d:Nat} {A:Az} {K:Value->World->Prop}
set_option maxRecDepth 4000 in
theorem lTaken_c {L:Rl} {p:Option Addr} {c b0:Nat} (o:Ow Tryz.prog w b0 45 2 p L.length c (rowC L)) (hn:L.length<=5000)
  (hk:∀ w' p' c',Mod No w w'->Ow Tryz.prog w' w.heap.size 43 2 p' L.length c' (rowC L)->K (.slice p' L.length c') w'):Cal Tryz.prog F_leveelaw31_taken #[.slice p L.length c] w K:=by
 apply C_leveelaw31_taken
 unfold D_leveelaw31_taken
 refine ⟨fun x W=>∃ (i c':Nat) (p':Option Addr),x=[.slice p' i c',.int .i64 i]/\i<=L.length/\Mod No w W/\Ow Tryz.prog W w.heap.size 43 2 p' i c' (rowC (L.take i)),fun x _=>(L.length-nI x 1).toNat,
  ⟨0,0,none,rfl,Nat.zero_le _,Mod.refl _ _,Ow.nilG elemG_rr⟩,?_⟩
 rintro x W ⟨i,c',p',rfl,hi,m,o1⟩
 have zW:=m.size
 refine ⟨_,rfl,cond_of (fun hlt=>?_) (fun hlt=>?_)⟩
 ·have hlt:i<L.length:=by have:=of_decide_eq_true hlt; omega
  have md:Mod No w (Go.Den.drew W):=m.drew
  obtain ⟨g,rfl,_,ix,_,ld⟩:=actAt (T:=45) (Te:=57) o rfl elemN_runs agg_run (by omega) (rAt_some hlt)
  have htk:L.take (i+1)=L.take i++[rAt L i]:=by
   rw [List.take_add_one,rAt_some hlt]; rfl
  obtain ⟨q,c8,w8,run,o8,m8,_⟩:=snocG (T:=43) (Te:=49) (ys:=acV (rAt L i)) elemG_rr (by omega) (o1.nos (Mod.refl _ _).drew) rfl (acV_one _) (by omega) (by omega) zW
  refine ⟨_,_,_,rfl,_,ix,_,ld _ 0 _ _ md sc_int rfl,_,ix,_,ld _ 1 _ _ md sc_int rfl,_,build_rr _ _,_,_,_,_,built_rr _ _,_,_,_,w8,run,?_⟩
  rw [wrap64 (x:=(i:Int)+1) (by omega) (by omega)]
  refine ⟨⟨i+1,c8,some q,rfl,by omega,md.trans m8 fun z hz e=>?_,by rw [htk,rowC_app]; exact o8⟩,by simp [nI,nth]; omega⟩
  obtain ⟨q',hq',rfl⟩:=e
  have:=(o1.base hq').1; omega
 ·have hlt:=of_decide_eq_false hlt
  have:i=L.length:=by omega
  subst this
  rw [List.take_length] at o1
  exact ⟨_,_,_,rfl,hk W p' c' m o1⟩
end
end Go.Proofs.YtelhlihjihklbaaGreat
end
section
open Go Go.Den Go.Proofs
namespace Go.Proofs.YtelhlihjihklbaaGreat
theorem rl_ext {L M:Rl} (hl:L.length=M.length) (h:∀ i,i<L.length->rAt L i=rAt M i):L=M:=by
 refine List.ext_getElem? fun i=>?_
 by_cases hi:i<L.length
 ·rw [rAt_some hi,rAt_some (by omega),h i hi]
 ·rw [List.getElem?_eq_none (by omega),List.getElem?_eq_none (by omega)]
section
variable {w w':World} {R R':Nat->Prop} {a v d:Nat} {A:Az} {K:Value->World->Prop}
set_option maxRecDepth 4000 in
theorem rSame31_c {L M:Rl} {p q:Option Addr} {c e b0 b1:Nat} (o:Ow Tryz.prog w b0 43 2 p L.length c (rowC L)) (u:Ow Tryz.prog w b1 43 2 q M.length e (rowC M)) (hn:L.length<=5000)
  (hk:∀ w',Mod No w w'->K (.bool (decide (L=M))) w'):Cal Tryz.prog F_leveeref31_Same #[.slice p L.length c,.slice q M.length e] w K:=by
 apply C_leveeref31_Same
 unfold D_leveeref31_Same
 rw [bneI]
 refine cond_of (fun h0=>?_) (fun h0=>?_)
 ·have h0:=of_decide_eq_true h0
  have e:decide (L=M)=false:=decide_eq_false fun e=>h0 (by rw [e])
  rw [e] at hk
  exact hk w (Mod.refl _ _)
 have h0:L.length=M.length:=by have:=Classical.not_not.1 (of_decide_eq_false h0); omega
 refine ⟨fun x W=>∃ i:Nat,x=[.int .i64 i]/\i<=L.length/\Mod No w W/\∀ j,j<i->rAt L j=rAt M j,fun x _=>(L.length-nI x 0).toNat,⟨0,rfl,Nat.zero_le _,Mod.refl _ _,fun j hj=>by omega⟩,?_⟩
 rintro x W ⟨i,rfl,hi,m,hj⟩
 refine ⟨_,rfl,cond_of (fun hlt=>?_) (fun hlt=>?_)⟩
 ·have hlt:i<L.length:=by have:=of_decide_eq_true hlt; omega
  have md:Mod No w (Go.Den.drew W):=m.drew
  obtain ⟨g,rfl,_,ix,ld,_⟩:=actAt (T:=43) (Te:=49) o rfl elemN_rr agg_rr (by omega) (rAt_some hlt)
  obtain ⟨g2,rfl,_,ix2,ld2,_⟩:=actAt (T:=43) (Te:=49) u rfl elemN_rr agg_rr (by omega) (rAt_some (l:=M) (i:=i) (by omega))
  refine ⟨_,ix,_,ld _ md,_,ix2,_,ld2 _ md,_,neq_act two_rr und_rr std_rr grd_rr _ _ _ _,cond_of (fun hb=>?_) (fun hb=>?_)⟩
  ·have hb:¬ rAt L i=rAt M i:=fun e=>by
    rw [sameA_iff.2 e] at hb; cases hb
   have e:decide (L=M)=false:=decide_eq_false fun e=>hb (by rw [e])
   rw [e] at hk
   exact hk _ md
  ·have hb:rAt L i=rAt M i:=sameA_iff.1 (by simpa using hb)
   rw [wrap64 (x:=(i:Int)+1) (by omega) (by omega)]
   refine ⟨⟨i+1,rfl,by omega,md,fun j h=>?_⟩,by simp [nI,nth]; omega⟩
   by_cases ej:j=i
   ·rw [ej]; exact hb
   ·exact hj j (by omega)
 ·have hlt:=of_decide_eq_false hlt
  have:i=L.length:=by omega
  subst this
  have e:decide (L=M)=true:=decide_eq_true (rl_ext h0 hj)
  rw [e] at hk
  exact hk W m
theorem rSum31_c {L:Rl} {p:Option Addr} {c b0:Nat} (o:Ow Tryz.prog w b0 43 2 p L.length c (rowC L)) (hL:∀ x∈L,1<=x.2/\x.2<=128) (hn:L.length<=5000)
  (hk:K (.int .i64 (sumL L)) w):Cal Tryz.prog F_leveeref31_Sum #[.slice p L.length c] w K:=by
 apply C_leveeref31_Sum
 unfold D_leveeref31_Sum
 refine ⟨fun x W=>∃ i:Nat,x=[.int .i64 (plSum L i),.int .i64 i]/\i<=L.length/\W=w,fun x _=>(L.length-nI x 1).toNat,⟨0,rfl,Nat.zero_le _,rfl⟩,?_⟩
 rintro x W ⟨i,rfl,hi,rfl⟩
 refine ⟨_,rfl,cond_of (fun hlt=>?_) (fun hlt=>?_)⟩
 ·have hlt:i<L.length:=by have:=of_decide_eq_true hlt; omega
  obtain ⟨g,rfl,_,ix,_,lf⟩:=actAt (T:=43) (Te:=49) o rfl elemN_rr agg_rr (by omega) (rAt_some hlt)
  have b1:=plSum_b hL i hi
  have b2:=hL _ (rAt_mem hlt)
  refine ⟨_,rfl,_,ix,_,lf _ 1 _ _ (Mod.refl _ _) sc_int rfl,?_⟩
  rw [wrap64 (x:=(i:Int)+1) (by omega) (by omega),wrap64 (x:=plSum L i+(rAt L i).2) (by omega) (by omega)]
  exact ⟨⟨i+1,rfl,by omega,rfl⟩,by simp [nI,nth]; omega⟩
 ·have hlt:=of_decide_eq_false hlt
  have:i=L.length:=by omega
  subst this
  exact ⟨_,rfl,hk⟩
end
end Go.Proofs.YtelhlihjihklbaaGreat
end
section
open Go Go.Den Go.Proofs
namespace Go.Proofs.YtelhlihjihklbaaGreat
structure Ob (w0:World) (R:Nat->Prop) (w:World) (a v d:Nat) (A:Az):Prop where
 ao:Ao R w a v d A
 lo:∀ z,R z->w0.heap.size<=z
 md:Mod No w0 w
structure Kw (T:TypeId) (R:Nat->Prop) (w:World) (p:Option Addr) (L:Rl) (c:Nat):Prop where
 ow:Ow Tryz.prog w 0 T 2 p L.length c (rowC L)
 nr:∀ q,p=some q->¬ R q.block
section
variable {w0 w w':World} {R R':Nat->Prop} {a v d q:Nat} {A A':Az} {T:TypeId} {p:Option Addr} {L:Rl} {c:Nat} {cs:List Value} {K:Value->World->Prop}
theorem Ob.no (h:Ob w0 R w a v d A) (m:Mod No w w'):Ob w0 R w' a v d A:=⟨h.ao.nos m,h.lo,h.md.no m⟩
theorem Ob.go (h:Ob w0 R w a v d A) (m:Mod R w w') (s:Sb R R' w) (k:Ao R' w' a v d A'):Ob w0 R' w' a v d A' :=
 ⟨k,fun z hz=>by
  rcases s z hz with e | e
  ·exact h.lo z e
  ·have:=h.md.size; omega,h.md.trans m fun x hx e=>by have:=h.lo x e; omega⟩
theorem Kw.no (h:Kw T R w p L c) (m:Mod No w w'):Kw T R w' p L c:=⟨h.ow.nos m,h.nr⟩
theorem Kw.go (h:Kw T R w p L c) (m:Mod R w w') (s:Sb R R' w):Kw T R' w' p L c :=
 ⟨h.ow.keep m h.nr,fun q hq e=>by
  rcases s _ e with e | e
  ·exact h.nr q hq e
  ·have:=(h.ow.base hq).2; omega⟩
theorem kwOf {b0:Nat} (h:Ow Tryz.prog w b0 T 2 p L.length c (rowC L)) (hb:∀ z,R z->z<b0):Kw T R w p L c:=⟨h.mono (Nat.zero_le _),fun q hq e=>by have:=hb _ e; have:=(h.base hq).1; omega⟩
end
end Go.Proofs.YtelhlihjihklbaaGreat
end
section
open Go Go.Den Go.Proofs
namespace Go.Proofs.YtelhlihjihklbaaGreat
theorem back_same {A:Az} (hH:HdsAt A.V A.s.geo A.hs) (hW:A.W=[]) {k0:Nat} (hk0:(k0:Int)<A.s.geo.gs) {j0:Int} (h0:0<=j0) (hu:(useX true A.s.geo (A.hs.getD k0 hZ) j0 true).2=0)
  (hH':HdsAt (sethA A k0 (useX true A.s.geo (A.hs.getD k0 hZ) j0 true).1).V A.s.geo (sethA A k0 (useX true A.s.geo (A.hs.getD k0 hZ) j0 true).1).hs) :
  allA (settleA (giveA (sethA A k0 (useX true A.s.geo (A.hs.getD k0 hZ) j0 true).1) (2+k0*A.s.geo.gr+j0) 0).1)=allA A:=by
 have hg:=hH.1
 have hlen:=hH.2.2.1
 obtain ⟨x,hx,_,ho,hn,hw⟩:=hH.get (k:=(k0:Int)) (by omega) hk0
 have hx:A.hs[k0]?=some x:=hx
 have hgd:A.hs.getD k0 hZ=x:=by rw [List.getD_eq_getElem?_getD,hx]; rfl
 have hu':=hu
 rw [hgd] at hu'
 obtain ⟨u1,u2,u3,u4,u5,u6⟩:=useBk_ok (g:=A.s.geo) (h:=x) (i:=j0) (on:=true) hw hu'
 have hy:(sethA A k0 (useX true A.s.geo (A.hs.getD k0 hZ) j0 true).1).hs.getD k0 hZ=(useBk A.s.geo x j0 true).1:=by
  show (A.hs.set k0 (useX true A.s.geo (A.hs.getD k0 hZ) j0 true).1).getD k0 hZ=_
  rw [List.getD_eq_getElem?_getD,List.getElem?_set_self (by omega),hgd]; rfl
 have hbt:bitB (useBk A.s.geo x j0 true).1.bs j0.toNat=true:=by
  rw [u2]
  show bitB (putB x.bs j0.toNat true) j0.toNat=true
  obtain ⟨_,g2,_⟩:=gOk_iff.1 hg
  rw [bitB_putB (by rw [hw.1]; omega),if_pos rfl]
 have T1:=fun {k:Nat} {j:Int} (hk:(k:Int)<A.s.geo.gs) (h1:1+gTabs A.s.geo<=j) (h2:j<A.s.geo.gr)=>taken_set hH hk0 h0 hu hk h1 h2
 have hwas:takenA A (2+k0*A.s.geo.gr+j0)=false:=by
  rw [taken_at hg hk0 u5 u6,hgd]
  simpa using u4
 have eA:(sethA A k0 (useX true A.s.geo (A.hs.getD k0 hZ) j0 true).1).s=A.s:=rfl
 have eF:(sethA A k0 (useX true A.s.geo (A.hs.getD k0 hZ) j0 true).1).fz=A.fz:=rfl
 have eW:(sethA A k0 (useX true A.s.geo (A.hs.getD k0 hZ) j0 true).1).W=[]:=hW
 generalize sethA A k0 (useX true A.s.geo (A.hs.getD k0 hZ) j0 true).1=A' at *
 have hu2:(useX true A'.s.geo (A'.hs.getD k0 hZ) j0 false).2=0:=by
  rw [hy,eA]
  show (useBk A.s.geo (useBk A.s.geo x j0 true).1 j0 false).2=0
  have hm:grMay A.s.geo (useBk A.s.geo x j0 true).1 j0 (1+gTabs A.s.geo) A.s.geo.gr=0:=by
   unfold grMay
   rw [if_neg (by rw [u1]; decide),if_neg (by omega)]
  generalize (useBk A.s.geo x j0 true).1=y at *
  unfold useBk
  rw [if_neg (by rw [hm]; exact fun e=>e rfl),if_neg (by rw [hbt]; decide)]
 have hH2:HdsAt A'.V A'.s.geo A'.hs:=by rw [eA]; exact hH'
 have T2:=fun {k:Nat} {j:Int} (hk:(k:Int)<A'.s.geo.gs) (h1:1+gTabs A'.s.geo<=j) (h2:j<A'.s.geo.gr)=>taken_set (A:=A') hH2 (by rw [eA]; exact hk0) h0 hu2 hk h1 h2
 rw [eA] at T2
 have eb:spB A'.s.geo (2+k0*A.s.geo.gr+j0)=((k0:Int),j0,true):=by rw [eA]; exact spB_at hg hk0 u5 u6
 have hnow:takenA A' (2+k0*A.s.geo.gr+j0)=true:=by rw [T1 hk0 u5 u6,if_pos ⟨rfl,rfl⟩]
 rcases settle_give eW (2+k0*A.s.geo.gr+j0) with ⟨_,e⟩ | ⟨e,_⟩
 ·exact absurd ⟨by rw [eb],hnow⟩ e
 rw [e]
 have e2:actA (wrkA A' []) (1,2+k0*A.s.geo.gr+j0)=sethA (wrkA A' []) k0 (useX true A'.s.geo (A'.hs.getD k0 hZ) j0 false).1:=by
  unfold actA
  rw [if_pos rfl]
  show (turnA true (wrkA A' []) (spB A'.s.geo (2+k0*A.s.geo.gr+j0)).1.toNat (spB A'.s.geo (2+k0*A.s.geo.gr+j0)).2.1 false).1=_
  rw [eb]
  show (turnA true (wrkA A' []) (k0:Int).toNat j0 false).1=_
  rw [Int.toNat_natCast]
  unfold turnA
  rw [if_neg (show ¬ (useX true (wrkA A' []).s.geo ((wrkA A' []).hs.getD k0 hZ) j0 false).2≠0 from fun e=>e hu2)]; rfl
 rw [e2]
 refine allA_congr (A:=A) (by show A'.s.geo=_; rw [eA]) eF hg fun k j hk h1 h2=>?_
 have t2:takenA (sethA (wrkA A' []) k0 (useX true A'.s.geo (A'.hs.getD k0 hZ) j0 false).1) (2+k*A.s.geo.gr+j)=takenA (sethA A' k0 (useX true A'.s.geo (A'.hs.getD k0 hZ) j0 false).1) (2+k*A.s.geo.gr+j):=rfl
 have t3:=T2 hk h1 h2
 rw [eA] at t2
 rw [eA,t2,t3,T1 hk h1 h2]
 by_cases c:k=k0/\j=j0
 ·rw [if_pos c,c.1,c.2]; exact hwas.symm
 ·rw [if_neg c,if_neg c]
section
variable {w0 w w':World} {R R':Nat->Prop} {a v d q:Nat} {A A':Az} {K:Value->World->Prop}
set_option maxRecDepth 8000 in
set_option maxHeartbeats 1000000 in
theorem PlanBreaks_c {g:Gm} {a1:Option Addr} {l1 c1:Nat} {acts:List Ab} {n:Int} (hn63:n<=9223372036854775807) (hr:Row w a1 (rowB acts)) (hl:acts.length=l1) (h63:∀ x∈acts,x.2.1<=9223372036854775807) :
  Cal Tryz.prog F_leveelaw31_PlanBreaks #[.agg ⟨gV g⟩,.slice a1 l1 c1,.int .i64 n] w (fun v w'=>v=.bool true/\Mod No w w'):=by
 apply C_leveelaw31_PlanBreaks
 unfold D_leveelaw31_PlanBreaks
 obtain ⟨w1,b1,b2,b3,b4⟩:=box_u (P:=Tryz.prog) (w:=w) (T:=40) (cs:=gV g)
 refine ⟨_,w1,b1,_,b2.at.all agg_geo rfl,open31_c (hr.nos b3) hl h63 fun w2 R a v d k0 m2 h2 lo2=>⟨_,rfl,ff rfl ?_⟩⟩
 have o2:Ob w R w2 a v d (openA g acts k0):=⟨h2,fun z hz=>by have:=lo2 z hz; have:=b3.size; omega,b3.no m2⟩
 obtain ⟨_,sl,sW⟩:=openA_s g acts k0
 clear h2 lo2 m2
 generalize openA g acts k0=A at *
 have hb:=allA_b (A:=A) o2.ao.ok
 have hp:∀ x∈allA A,1<=x.2/\x.2<=128:=plAll_pos
 refine planAll_c o2.ao fun w3 R3 p22 c22 m3 s3 h3 f3=>⟨_,_,_,rfl,?_⟩
 have o3:=o2.go m3 s3 h3
 refine lTaken_c f3.ow (by omega) fun w4 p23 c23 m4 f4=>⟨_,_,_,rfl,?_⟩
 have o4:=o3.no m4
 have l4:=kwOf f4 o3.ao.lt
 clear o2 o3 m3 s3 h3 f3 f4
 have hg:=o4.ao.ok
 have hH:=o4.ao.hd
 refine aBlock_c hn63 o4.ao (by omega) fun w5 R5 m5 s5 h5=>⟨_,_,_,rfl,?_⟩
 have o5:=o4.go m5 s5 h5
 have l5:=l4.go m5 s5
 cases ht:takeTo A.s.geo A.hs A.fz (findX true A.s.geo) (spB A.s.geo n).1 (spB A.s.geo n).2.1 (spB A.s.geo n).2.2 A.s.geo.gs.toNat with
 | none =>
  have eB:blockA A n=(A,0,0,26):=by unfold blockA; rw [ht]
  rw [eB] at o5 |-
  have e:=all_full hH ht
  rw [e]
  exact tt rfl (Share.dup (tt rfl (known31_c fun w6 m6=>⟨_,rfl,_,rfl,rfl,o5.md.no m6⟩)))
 | some x =>
  obtain ⟨k0,j0⟩:=x
  obtain ⟨i1,i2,i3,i4,i5⟩:=take_in o4.ao (k:=k0) (j:=j0) ht
  have eB:blockA A n=(sethA A k0 (useX true A.s.geo (A.hs.getD k0 hZ) j0 true).1,2+k0*A.s.geo.gr+j0,(A.V.last:Int)+1,0):=by unfold blockA; rw [ht]
  rw [eB] at o5 |-
  clear eB
  have hbr:=all_break hH i1 i2 i4 i5
  have hbk:=back_same hH sW i1 i2 i5 o5.ao.hd
  have sW':(sethA A k0 (useX true A.s.geo (A.hs.getD k0 hZ) j0 true).1).W=[]:=sW
  have sl':(sethA A k0 (useX true A.s.geo (A.hs.getD k0 hZ) j0 true).1).V.last<=A.V.last+1:=setHV_last _ _ _ _
  have hb2:2+(k0:Int)*A.s.geo.gr+j0<=4300/\0<=2+(k0:Int)*A.s.geo.gr+j0:=by
   obtain ⟨_,p2,p3⟩:=head_pos hg i1
   have:=gSize_b (g:=A.s.geo)
   omega
  generalize sethA A k0 (useX true A.s.geo (A.hs.getD k0 hZ) j0 true).1=A' at *
  generalize 2+(k0:Int)*A.s.geo.gr+j0=b at *
  dsimp only at o5 |-
  obtain ⟨X,Y,s,m,M,r1,r2,r3,r4,r5,r6⟩:=hbr
  have hb':=allA_b (A:=A') o5.ao.ok
  have hp':∀ x∈allA A',1<=x.2/\x.2<=128:=plAll_pos
  refine ff rfl (planAll_c o5.ao fun w8 R8 p40 c40 m8 s8 h8 f8=>⟨_,_,_,rfl,?_⟩)
  have o8:=o5.go m8 s8 h8
  have l8:=l5.go m8 s8
  refine lTaken_c f8.ow (by omega) fun w9 p41 c41 m9 f9=>⟨_,_,_,rfl,?_⟩
  have o9:=o8.no m9
  have l9:=l8.no m9
  have u9:=kwOf f9 o8.ao.lt
  clear o4 l4 o5 l5 o8 l8 m5 s5 h5 m8 s8 h8 f8 f9
  have hlen1:(allA A).length=X.length+1+Y.length:=by rw [r1]; simp; omega
  have hlen2:(allA A').length=X.length+M.length+Y.length:=by rw [r2]; simp; omega
  have hsum:sumL (allA A')=sumL (allA A)-1:=by
   rw [r1,r2,sumL_app,sumL_app,sumL_app,sumL_cons]
   simp only
   omega
  have bs:((allA A).length:Int)<=sumL (allA A)/\sumL (allA A)<=128*(allA A).length:=plSum_b hp _ (Nat.le_refl _)
  have there:∀ y∈allA A,¬ (y.1<=b/\b<y.1+y.2)->y∈allA A':=fun y hy hn=>by
   rw [r1] at hy
   rw [r2]
   rcases List.mem_append.1 hy with hy | hy
   ·exact List.mem_append_left _ hy
   ·rcases List.mem_cons.1 hy with rfl | hy
    ·exact absurd ⟨r3,r4⟩ hn
    ·exact List.mem_append_right _ (List.mem_append_right _ hy)
  refine Share.cut (fun z w12=>w12=w9/\z=[.bool false]) (ff ?_ (ff ?_ (rSum31_c u9.ow hp' (by omega) ⟨_,rfl,rSum31_c l9.ow hp (by omega) ⟨_,rfl,rfl,?_⟩⟩))) ?_
  ·rw [wrap64 (x:=((allA A).length:Int)-1) (by omega) (by omega)]
   exact decide_eq_false (by omega)
  ·rw [wrap64 (x:=((allA A).length:Int)+1) (by omega) (by omega)]
   exact decide_eq_false (by omega)
  ·rw [wrap64 (x:=sumL (allA A)-1) (by omega) (by omega),hsum,bneI,decide_eq_false fun e=>e rfl]
  rintro z w12 ⟨rfl,rfl⟩
  refine ⟨_,rfl,ff rfl ?_⟩
  refine ⟨fun z W=>∃ (i:Nat) (y1 y2 y3:Value),z=[.bool false,.int .i64 i,y1,y2,y3]/\i<=(allA A).length/\Mod No w12 W,fun z _=>((allA A).length-nI z 1).toNat,⟨0,_,_,_,rfl,Nat.zero_le _,Mod.refl _ _⟩,?_⟩
  rintro z W ⟨i,y1,y2,y3,rfl,hi,mW⟩
  refine ⟨_,rfl,cond_of (fun hlt=>?_) (fun hlt=>?_)⟩
  ·have hlt:i<(allA A).length:=by have:=of_decide_eq_true hlt; omega
   have md:Mod No w12 (Go.Den.drew W):=mW.drew
   have hin:=there _ (rAt_mem hlt)
   have hpi:=hp _ (rAt_mem hlt)
   obtain ⟨g1,rfl,_,ix,ld,lf⟩:=actAt (T:=43) (Te:=49) l9.ow rfl elemN_rr agg_rr (by omega) (rAt_some hlt)
   have hat1:(rAt (allA A) i).1<=4300/\-5<=(rAt (allA A) i).1:=by
    have hr2:=(plAll_rise hg A.s.geo.gs.toNat (by obtain ⟨_,_,g3,_⟩:=gOk_iff.1 hg; omega)).2 _ (List.mem_map_of_mem (f:=(·.1)) (rAt_mem hlt))
    have hlo:∀ y∈allA A,0<=y.1:=fun y hy=>by
     have:∀ n:Nat,∀ y∈plAll A n,0<=y.1:=by
      intro n
      induction n with
      | zero=>intro y hy; cases hy
      | succ n ih =>
       intro y hy
       have hy:y∈(if A.fz n=true then plAll A n else plAll A n++runsA A n):=hy
       split at hy
       ·exact ih y hy
       ·rcases List.mem_append.1 hy with hy | hy
        ·exact ih y hy
        ·have h1:=(runsTo_rise A (gRange A.s.geo n).1 (cntG A.s.geo n)).2 _ (List.mem_map_of_mem (f:=(·.1)) hy)
         have h2:=gRange_b (g:=A.s.geo) (k:=n)
         omega
     exact this _ y hy
    have:=hlo _ (rAt_mem hlt)
    obtain ⟨_,_,g3,g4,_,_,_,_,g9⟩:=gOk_iff.1 hg
    rw [show ((A.s.geo.gs.toNat:Nat):Int)=A.s.geo.gs by omega] at hr2
    omega
   generalize rAt (allA A) i=y at *
   refine Share.cut (fun z w17=>∃ y1 y2 y3:Value,z=[.bool false,y1,y2,y3]/\Mod No w12 w17) ?_ ?_
   ·refine Share.cut (fun z w14=>w14=Go.Den.drew W/\z=[.bool (decide (y.1<=b/\b<y.1+y.2))]) ⟨_,ix,_,lf _ 0 _ _ md sc_int rfl,cond_of (fun h1=>⟨_,ix,_,lf _ 0 _ _ md sc_int rfl,_,ix,_,lf _ 1 _ _ md sc_int rfl,rfl,?_⟩) (fun h1=>⟨rfl,?_⟩)⟩ ?_
    ·have h1:=of_decide_eq_true h1
     rw [wrap64 (x:=y.1+y.2) (by omega) (by omega)]
     congr 2
     exact decide_eq_decide.2 ⟨fun e=>⟨by omega,e⟩,fun e=>e.2⟩
    ·have h1:=of_decide_eq_false h1
     rw [decide_eq_false fun e=>h1 (by omega)]
    rintro z w14 ⟨rfl,rfl⟩
    refine ⟨_,rfl,cond_of (fun h1=>⟨_,_,_,rfl,md⟩) (fun h1=>?_)⟩
    obtain ⟨j',hj',ej'⟩:=rAt_of_mem (hin (of_decide_eq_false h1))
    refine ⟨fun z W'=>∃ (k:Nat) (th:Bool),z=[.bool th,.int .i64 k]/\k<=(allA A').length/\Mod No w12 W'/\(th=true↔∃ j,j<k/\rAt (allA A') j=y),fun z _=>((allA A').length-nI z 1).toNat,
     ⟨0,false,rfl,Nat.zero_le _,md,⟨(fun e=>by cases e),fun ⟨j,h,_⟩=>by omega⟩⟩,?_⟩
    rintro z W' ⟨k,th,rfl,hk,mk,hth⟩
    refine ⟨_,rfl,cond_of (fun hlt2=>?_) (fun hlt2=>?_)⟩
    ·have hlt2:k<(allA A').length:=by have:=of_decide_eq_true hlt2; omega
     have mk':Mod No w12 (Go.Den.drew W'):=mk.drew
     obtain ⟨g2,rfl,_,ix2,ld2,_⟩:=actAt (T:=43) (Te:=49) u9.ow rfl elemN_rr agg_rr (by omega) (rAt_some hlt2)
     refine Share.cut (fun z w16=>w16=Go.Den.drew W'/\z=[.bool (th || sameA (rAt (allA A') k) y)]) ⟨_,rfl,cond_of (fun h2=>⟨rfl,by rw [h2]; rfl⟩) (fun h2=>⟨_,ix2,_,ld2 _ mk',_,ix,_,ld _ mk',_,eql_act two_rr und_rr std_rr grd_rr _ _ _ _,rfl,by rw [h2]; rfl⟩)⟩ ?_
     rintro z w16 ⟨rfl,rfl⟩
     rw [wrap64 (x:=(k:Int)+1) (by omega) (by omega)]
     refine ⟨⟨k+1,_,rfl,by omega,mk',?_⟩,by simp [nI,nth]; omega⟩
     rw [Bool.or_eq_true,hth,sameA_iff]
     constructor
     ·rintro (⟨j,h1,h2⟩ | h2)
      ·exact ⟨j,by omega,h2⟩
      ·exact ⟨k,by omega,h2⟩
     ·rintro ⟨j,h1,h2⟩
      by_cases e:j=k
      ·subst e; exact .inr h2
      ·exact .inl ⟨j,by omega,h2⟩
    ·have hlt2:=of_decide_eq_false hlt2
     have:th=true:=hth.2 ⟨j',by omega,ej'.symm⟩
     subst this
     exact ⟨_,rfl,ff rfl ⟨_,_,_,rfl,mk⟩⟩
   ·rintro z w17 ⟨y1,y2,y3,rfl,m17⟩
    rw [wrap64 (x:=(i:Int)+1) (by omega) (by omega)]
    exact ⟨⟨i+1,_,_,_,rfl,by omega,m17⟩,by simp [nI,nth]; omega⟩
  ·have oW:=o9.no mW
   have lW:=l9.no mW
   refine aFreeB_c (by omega) oW.ao (by rw [sW']; decide) fun w18 R18 m18 s18 h18=>⟨_,rfl,?_⟩
   have o18:=oW.go m18 s18 h18
   have l18:=lW.go m18 s18
   have hWl:(giveA A' b 0).1.W.length<=1/\(∀ x∈(giveA A' b 0).1.W,x.2.2<=9223372036854775807)/\(giveA A' b 0).1.V.last=A'.V.last:=by
    rcases giveA_W sW' b with ⟨e1,_⟩ | ⟨e1,_⟩
    ·rw [e1,sW']; exact ⟨by decide,(fun x hx=>by cases hx),rfl⟩
    ·rw [e1]
     refine ⟨Nat.le_refl _,fun x hx=>?_,rfl⟩
     have:x=(0,1,b):=by simpa [wrkA] using hx
     rw [this]; simp only; omega
   refine aSettle_c o18.ao (by omega) hWl.2.1 (by omega) fun w19 R19 m19 s19 h19=>⟨_,rfl,Share.dup ?_⟩
   have o19:=o18.go m19 s19 h19
   have l19:=l18.go m19 s19
   refine planAll_c o19.ao fun w20 R20 p118 c118 m20 s20 h20 f20=>⟨_,_,_,rfl,?_⟩
   have o20:=o19.go m20 s20 h20
   have l20:=l19.go m20 s20
   rw [hbk] at f20 |-
   refine lTaken_c f20.ow (by omega) fun w21 p119 c119 m21 f21=>⟨_,_,_,rfl,?_⟩
   refine rSame31_c f21 (l20.no m21).ow (by omega) fun w22 m22=>⟨_,rfl,tt (decide_eq_true rfl) ?_⟩
   exact known31_c fun w23 m23=>⟨_,rfl,_,rfl,rfl,((o20.no m21).no m22).md.no m23⟩
end
end Go.Proofs.YtelhlihjihklbaaGreat
end
section
open Go Go.Den
namespace Go.Proofs.YtelhlihjihklbaaGreat
open Go.ChangeShapes Go.WideShapes Go.RowKit Go.Joins
section
variable {H:Type} {enc:TypeId×Value->H} {w:World} {base:Nat} {held:Bool}
theorem open_act7 {n:Nat} {cs:List Value} {y:DataW H×List MemPlace} (hl:cs.length=3) (h:DataW.trod enc Tryz.prog w base (fun _=>true) held n 141 cs=some y) :
  ∃ x:Ab,cs=abV x/\x.2.1<=9223372036854775807:=by
 match cs,hl with
 | [c0,c1,c2],_ =>
  obtain ⟨y0,y1,y2,n',hx,_,h0,h1,h2⟩:=trod_st3 Tryz.underlying141 h
  have k0:Tryz.prog.cellsOf 3=1:=by kernel_rfl
  have k1:Tryz.prog.cellsOf 4=1:=by kernel_rfl
  simp only [k0,k1] at h0 h1 h2
  have h0:DataW.trod enc Tryz.prog w base (fun _=>true) held n' 3 [c0]=some y0:=h0
  have h1:DataW.trod enc Tryz.prog w base (fun _=>true) held n' 3 [c1]=some y1:=h1
  have h2:DataW.trod enc Tryz.prog w base (fun _=>true) held n' 4 [c2]=some y2:=h2
  obtain ⟨m0,e0,_,u0⟩:=DataW.trod_int Tryz.underlying3 h0
  obtain ⟨m1,e1,_,u1⟩:=DataW.trod_int Tryz.underlying3 h1
  obtain ⟨b2,e2,_⟩:=DataW.trod_bool Tryz.underlying4 h2
  have e0:c0=.int .i64 m0:=by simpa using e0
  have e1:c1=.int .i64 m1:=by simpa using e1
  have e2:c2=.bool b2:=by simpa using e2
  subst e0 e1 e2
  exact ⟨(m0,m1,b2),rfl,(i64_bounds u1).2⟩
set_option maxRecDepth 100000 in
theorem open_acts7 {r:Reach} {b0:Nat} {v:Value} {d:DataW H} {ps:List MemPlace} (hval:Value.okWide Tryz.prog w r b0 41 v) (hd:DataW.Trod enc Tryz.prog w base (fun _=>true) held 41 v d ps) :
  ∃ a l c acts,v=.slice a l c/\acts.length=l/\Row w a (rowB acts)/\∀ x∈acts,x.2.1<=9223372036854775807:=by
 obtain ⟨fuel,hf⟩:=hd
 obtain ⟨a,l,c,rfl⟩:=okWide_slice Tryz.underlying41 hval
 rcases Go.Deep.open_slice Tryz.underlying41 hf with ⟨h1,h2⟩ | ⟨a',l',c',m,n,DD,Pl,h1,_,hlc,hm,hmm,hx,hel⟩
 ·simp [Value.cells] at h1
  obtain ⟨rfl,rfl,rfl⟩:=h1
  exact ⟨none,0,0,[],rfl,rfl,.inl rfl,fun x hx=>by cases hx⟩
 ·simp [Value.cells] at h1
  obtain ⟨rfl,rfl,rfl⟩:=h1
  rw [if_pos rfl] at hmm
  subst hmm
  have k3:Tryz.prog.cellsOf 141=3:=by kernel_rfl
  rw [k3] at hel
  by_cases h0:l=0
  ·exact ⟨some a',l,m,[],rfl,by simp [h0],.inl rfl,fun x hx=>by cases hx⟩
  obtain ⟨b,off,spot⟩:=a'
  have hspot:spot=none:=by
   obtain ⟨cs',hc,ht⟩:=hel 0 (by omega)
   obtain ⟨_,hcl,hcc⟩:=World.cells?_some hc
   obtain ⟨x,rfl,_⟩:=open_act7 hcl ht
   have h00:=hcc 0 (by omega)
   have:=World.cell?_spot (h00.trans rfl)
   simpa [Addr.add] using this
  subst hspot
  have each:∀ i∈List.range l,∃ x:Ab,(∀ (j:Nat) (v:Value),(abV x)[j]?=some v->w.cell? ⟨b,off+(i*3+j),none⟩=some v)/\x.2.1<=9223372036854775807:=by
   intro i hi
   have hi:=List.mem_range.1 hi
   obtain ⟨cs',hc,ht⟩:=hel i (by omega)
   obtain ⟨_,hcl,hcc⟩:=World.cells?_some hc
   obtain ⟨x,rfl,hb⟩:=open_act7 hcl ht
   refine ⟨x,fun j v hj=>?_,hb⟩
   have hj3:=(List.getElem?_eq_some_iff.1 hj).1
   have:=hcc j (by have:(abV x).length=3:=rfl; omega)
   rw [add_none,add_none,Nat.add_assoc] at this
   rw [this,hj]
  obtain ⟨ys,hyl,hys⟩:=list_choose3 (p:=fun (i:Nat) (x:Ab)=>(∀ (j:Nat) (v:Value),(abV x)[j]?=some v->w.cell? ⟨b,off+(i*3+j),none⟩=some v)/\x.2.1<=9223372036854775807) (List.range l) each
  rw [List.length_range] at hyl
  have hfl:(rowB ys).length=ys.length*3:=flat_len' abV_len ys
  refine ⟨some ⟨b,off,none⟩,l,m,ys,rfl,hyl,.inr ⟨b,off,rfl,At.of_cells (by rw [hfl]; omega) fun j hj=>?_⟩,fun x hx=>?_⟩
  ·have hj':j<l*3:=by rw [hfl,hyl] at hj; exact hj
   have hi:j / 3<l:=by omega
   have hyi:ys[j / 3]?=some ys[j / 3]:=by simp [hyl,hi]
   have hp:=(hys (j / 3) (j / 3) ys[j / 3] (by simp [hi]) hyi).1
   obtain ⟨u,hu⟩:∃ u,(abV ys[j / 3])[j % 3]?=some u:=⟨(abV ys[j / 3])[j % 3]'(by show j % 3<3; omega),List.getElem?_eq_getElem _⟩
   have h4:=flat_cell abV_len hyi hu
   have h5:=hp (j % 3) u hu
   rw [show j / 3*3+j % 3=j by omega] at h4 h5
   rw [h5]
   have h4:(rowB ys)[j]?=some u:=h4
   rw [List.getElem?_eq_getElem hj] at h4
   exact h4.symm
  ·obtain ⟨i,hi,e⟩:=List.getElem_of_mem hx
   exact (hys i i x (by rw [List.getElem?_range (by omega)]) (by rw [List.getElem?_eq_getElem hi,e])).2
end
end Go.Proofs.YtelhlihjihklbaaGreat
end
