/- Parts of the proof, in order: what the statement leans on. -/
import Derived.Test.YtelhlihjihklbaaGreatBe
section
open Go Go.Den Go.Proofs
namespace Go.Proofs.YtelhlihjihklbaaGreat
theorem plSum_b {l:Rl} (h:∀ x∈l,1<=x.2/\x.2<=128):∀ i,i<=l.length->(i:Int)<=plSum l i/\plSum l i<=128*i
 | 0,_=>⟨by show (0:Int)<=0; omega,by show (0:Int)<=_; omega⟩
 | i+1,hi=>by
  have h1:=plSum_b h i (by omega)
  have h2:=h _ (rAt_mem (l:=l) (i:=i) (by omega))
  show ((i+1:Nat):Int)<=plSum l i+(rAt l i).2/\plSum l i+(rAt l i).2<=128*(i+1:Nat)
  omega
theorem plRoom_b {l:Rl} (h:∀ x∈l,1<=x.2/\x.2<=128) {n:Int} (hn:1<=n):∀ i,i<=l.length->0<=plRoom l n i/\plRoom l n i<=128*i
 | 0,_=>⟨Int.le_refl _,Int.le_refl _⟩
 | i+1,hi=>by
  have h1:=plRoom_b h hn i (by omega)
  have h2:=h _ (rAt_mem (l:=l) (i:=i) (by omega))
  have h3:=Int.ediv_nonneg (a:=(rAt l i).2) (b:=n) (by omega) (by omega)
  have h4:=Int.ediv_le_self (a:=(rAt l i).2) n (by omega)
  show 0<=plRoom l n i+(rAt l i).2 / n/\plRoom l n i+(rAt l i).2 / n<=128*(i+1:Nat)
  omega
theorem longL_b {l:Rl} (h:∀ x∈l,1<=x.2/\x.2<=128):0<=(longL l).2/\(longL l).2<=128:=by
 by_cases h0:l.length=0
 ·have:longL l=(0,0):=by unfold longL; rw [h0]; rfl
  rw [this]; exact ⟨Int.le_refl _,by decide⟩
 ·have:=h _ (plPick_mem (bt:=gtR) (l:=l) (i:=l.length) (by omega) (Nat.le_refl _))
  unfold longL; omega
def szV (l:Rl) (i:Nat):List Value:=(List.range 8).map fun e=>.int .i64 (plSize l e i)
theorem szV_len (l:Rl) (i:Nat):(szV l i).length=8:=by simp [szV]
theorem szV_one (l:Rl) (i:Nat):∀ v∈szV l i,v.oneCell'=true:=by
 intro v hv
 obtain ⟨e,_,rfl⟩:=List.mem_map.1 hv
 rfl
theorem szV_at (l:Rl) (i:Nat) {e:Nat} (he:e<8):(szV l i)[e]?=some (.int .i64 (plSize l e i)):=by
 unfold szV
 rw [List.getElem?_map,List.getElem?_range he]; rfl
theorem szV_set (l:Rl) (i:Nat) (h:lgR (rAt l i).2<8):(szV l i).set (lgR (rAt l i).2) (.int .i64 (plSize l (lgR (rAt l i).2) i+1))=szV l (i+1):=by
 refine List.ext_getElem? fun e=>?_
 by_cases he:e<8
 ·rw [szV_at l (i+1) he]
  show _=some (Value.int .i64 (if lgR (rAt l i).2=e then plSize l e i+1 else plSize l e i))
  by_cases c:lgR (rAt l i).2=e
  ·subst c
   rw [List.getElem?_set_self (by rw [szV_len]; exact h),if_pos rfl]
  ·rw [List.getElem?_set_ne c,szV_at l i he,if_neg c]
 ·rw [List.getElem?_eq_none (by rw [List.length_set,szV_len]; omega),List.getElem?_eq_none (by rw [szV_len]; omega)]
theorem plSize_b (l:Rl) (e:Nat):∀ i,0<=plSize l e i/\plSize l e i<=i
 | 0=>⟨Int.le_refl _,Int.le_refl _⟩
 | i+1=>by
  have:=plSize_b l e i
  show 0<=(if lgR (rAt l i).2=e then plSize l e i+1 else plSize l e i)/\(if lgR (rAt l i).2=e then plSize l e i+1 else plSize l e i)<=(i+1:Nat)
  split <;> omega
theorem agg_szs:aggN Tryz.prog 64=some 8:=by kernel_rfl
theorem arr_szs:arrN Tryz.prog 64=some (8,1):=by kernel_rfl
theorem zero_szs:zeroC Tryz.prog 64=some (szV [] 0):=by kernel_rfl
section
variable {w w':World} {R R':Nat->Prop} {a v d:Nat} {A:Az} {K:Value->World->Prop}
set_option maxRecDepth 4000 in
theorem total_c {L:Rl} {p:Option Addr} {c base:Nat} (o:Ow Tryz.prog w base 45 2 p L.length c (rowC L)) (hL:∀ x∈L,1<=x.2/\x.2<=128) (hn:L.length<=5000)
  (hk:∀ w',Mod No w w'->K (.int .i64 (sumL L)) w'):Cal Tryz.prog F_plan_total #[.slice p L.length c] w K:=by
 apply C_plan_total
 unfold D_plan_total
 refine ⟨fun x W=>∃ i:Nat,x=[.int .i64 (plSum L i),.int .i64 i]/\i<=L.length/\Mod No w W,fun x _=>(L.length-nI x 1).toNat,⟨0,rfl,Nat.zero_le _,Mod.refl _ _⟩,?_⟩
 rintro x W ⟨i,rfl,hi,m⟩
 refine ⟨_,rfl,cond_of (fun hlt=>?_) (fun hlt=>?_)⟩
 ·have hlt:i<L.length:=by have:=of_decide_eq_true hlt; omega
  obtain ⟨g,rfl,hg,hat,ix,ld,_,_⟩:=runAt (o.nos m) (rAt_some hlt)
  obtain ⟨w4,d1,d2,d3,d4⟩:=new_u (P:=Tryz.prog) (w:=W) (T:=57) zero_run
  obtain ⟨w5,e1,e2,e3,e4⟩:=d2.put (T:=57) (vs:=acV (rAt L i)) agg_run rfl rfl (acV_one _)
  have b1:=plSum_b hL i hi
  have b2:=hL _ (rAt_mem hlt)
  refine ⟨_,ix,_,ld _ hat.at,_,w4,d1,w5,e1,_,rfl,_,e2.at.fld (v:=.int .i64 (rAt L i).2) sc_int rfl,?_⟩
  rw [wrap64 (x:=(i:Int)+1) (by omega) (by omega),wrap64 (x:=plSum L i+(rAt L i).2) (by omega) (by omega)]
  exact ⟨⟨i+1,rfl,by omega,m.no (d3.own e3 (Nat.le_refl _))⟩,by simp [nI,nth]; omega⟩
 ·have hlt:=of_decide_eq_false hlt
  have:i=L.length:=by omega
  subst this
  exact ⟨_,rfl,hk W m⟩
theorem score_c (h:Ao R w a v d A) (hk:∀ w' R',Mod R w w'->Sb R R' w->Ao R' w' a v d A->K (.int .i64 (scoreL (allA A))) w'):Cal Tryz.prog F_plan_Score #[.pointer (some ⟨a,0,none⟩)] w K:=by
 apply C_plan_Score
 unfold D_plan_Score
 have hb:=allA_b (A:=A) h.ok
 have hp:∀ x∈allA A,1<=x.2/\x.2<=128:=plAll_pos
 refine planAll_c h fun w2 R2 p c m2 s2 h2 o2=>⟨_,_,_,rfl,total_c o2.ow hp (by omega) fun w3 m3=>⟨_,rfl,cond_of (fun h0=>?_) (fun h0=>?_)⟩⟩
 ·have h0:sumL (allA A)=0:=by simpa using h0
  have e:scoreL (allA A)=0:=by unfold scoreL; rw [if_pos h0]
  rw [e] at hk
  exact hk w3 R2 (m2.no m3) s2 (h2.nos m3)
 ·have h0:¬ sumL (allA A)=0:=by simpa using h0
  have e:scoreL (allA A)=1000-1000*(longL (allA A)).2 / sumL (allA A):=by unfold scoreL; rw [if_neg h0]
  rw [e] at hk
  have b1:((allA A).length:Int)<=sumL (allA A)/\sumL (allA A)<=128*(allA A).length:=plSum_b hp _ (Nat.le_refl _)
  have b2:=longL_b hp
  refine longest_c (h2.nos m3) fun w4 R4 m4 s4 h4=>⟨_,rfl,(longL (allA A)).2,(fun w=>by kernel_rfl),?_⟩
  rw [wrap64 (x:=1000*(longL (allA A)).2) (by omega) (by omega)]
  have h3:=Int.ediv_nonneg (a:=1000*(longL (allA A)).2) (b:=sumL (allA A)) (by omega) (by omega)
  have h5:=Int.ediv_le_self (a:=1000*(longL (allA A)).2) (sumL (allA A)) (by omega)
  refine ⟨_,quoR (by omega) (by omega) (by omega),?_⟩
  rw [wrap64 (x:=1000-1000*(longL (allA A)).2 / sumL (allA A)) (by omega) (by omega)]
  exact hk w4 R4 (Mod.sb (m2.no m3) s2 m4) (s2.trans s4 (by have:=m2.size; have:=m3.size; omega)) h4
set_option maxRecDepth 4000 in
theorem planRoom_c {n:Int} (h:Ao R w a v d A) (hk:∀ w' R',Mod R w w'->Sb R R' w->Ao R' w' a v d A->K (.int .i64 (roomL (allA A) n)) w'):Cal Tryz.prog F_plan_Room #[.pointer (some ⟨a,0,none⟩),.int .i64 n] w K:=by
 apply C_plan_Room
 unfold D_plan_Room
 have hb:=allA_b (A:=A) h.ok
 have hp:∀ x∈allA A,1<=x.2/\x.2<=128:=plAll_pos
 refine cond_of (fun h0=>?_) (fun h0=>?_)
 ·have e:roomL (allA A) n=0:=by unfold roomL; rw [if_pos (of_decide_eq_true h0)]
  rw [e] at hk
  exact hk w R (Mod.refl _ _) (Sb.refl _ _) h
 have h0:=of_decide_eq_false h0
 have e:roomL (allA A) n=plRoom (allA A) n (allA A).length:=by unfold roomL; rw [if_neg h0]
 rw [e] at hk
 refine planAll_c h fun w2 R2 p c m2 s2 h2 o2=>⟨_,_,_,rfl,?_⟩
 generalize allA A=L at *
 refine ⟨fun x W=>∃ i:Nat,x=[.int .i64 (plRoom L n i),.int .i64 i]/\i<=L.length/\Mod No w2 W,fun x _=>(L.length-nI x 1).toNat,⟨0,rfl,Nat.zero_le _,Mod.refl _ _⟩,?_⟩
 rintro x W ⟨i,rfl,hi,m⟩
 refine ⟨_,rfl,cond_of (fun hlt=>?_) (fun hlt=>?_)⟩
 ·have hlt:i<L.length:=by have:=of_decide_eq_true hlt; omega
  obtain ⟨g,rfl,hg,hat,ix,ld,_,_⟩:=runAt (o2.ow.nos m) (rAt_some hlt)
  obtain ⟨w4,d1,d2,d3,d4⟩:=new_u (P:=Tryz.prog) (w:=W) (T:=57) zero_run
  obtain ⟨w5,e1,e2,e3,e4⟩:=d2.put (T:=57) (vs:=acV (rAt L i)) agg_run rfl rfl (acV_one _)
  have b1:=plRoom_b hp (n:=n) (by omega) i hi
  have b2:=hp _ (rAt_mem hlt)
  have h3:=Int.ediv_nonneg (a:=(rAt L i).2) (b:=n) (by omega) (by omega)
  have h4:=Int.ediv_le_self (a:=(rAt L i).2) n (by omega)
  refine ⟨_,ix,_,ld _ hat.at,_,w4,d1,w5,e1,_,rfl,_,e2.at.fld (v:=.int .i64 (rAt L i).2) sc_int rfl,_,quoR (by omega) (by omega) (by omega),?_⟩
  rw [wrap64 (x:=(i:Int)+1) (by omega) (by omega),wrap64 (x:=plRoom L n i+(rAt L i).2 / n) (by omega) (by omega)]
  exact ⟨⟨i+1,rfl,by omega,m.no (d3.own e3 (Nat.le_refl _))⟩,by simp [nI,nth]; omega⟩
 ·have hlt:=of_decide_eq_false hlt
  have:i=L.length:=by omega
  subst this
  exact ⟨_,rfl,hk W R2 (m2.no m) s2 (h2.nos m)⟩
set_option maxRecDepth 4000 in
theorem sizes_c (h:Ao R w a v d A) (hk:∀ w' R',Mod R w w'->Sb R R' w->Ao R' w' a v d A->K (.agg ⟨szV (allA A) (allA A).length⟩) w'):Cal Tryz.prog F_plan_Sizes #[.pointer (some ⟨a,0,none⟩)] w K:=by
 apply C_plan_Sizes
 unfold D_plan_Sizes
 have hb:=allA_b (A:=A) h.ok
 have hp:∀ x∈allA A,1<=x.2/\x.2<=128:=plAll_pos
 have hda:=h.dlt
 obtain ⟨w1,a1,a2,a3,a4⟩:=new_u (P:=Tryz.prog) (w:=w) (T:=64) zero_szs
 obtain ⟨w2,b1,b2,b3,b4⟩:=new_u (P:=Tryz.prog) (w:=w1) (T:=64) zero_szs
 have z1:=a2.lt
 have m02:=a3.no b3
 have q2:=a2.keep b3 id
 have n1:¬ R w.heap.size:=fun e=>by have:=h.lt _ e; omega
 have n2:¬ R w1.heap.size:=fun e=>by have:=h.lt _ e; omega
 have l2:=b2.lt
 refine ⟨_,w1,a1,_,w2,b1,planAll_c (h.nos m02) fun w3 R3 p c m3 s3 h3 o3=>⟨_,_,_,rfl,?_⟩⟩
 have z3:=m3.size
 have r1:¬ R3 w.heap.size:=fun e=>by
  rcases s3 _ e with e | e
  ·exact n1 e
  ·omega
 have r2:¬ R3 w1.heap.size:=fun e=>by
  rcases s3 _ e with e | e
  ·exact n2 e
  ·omega
 have q3:=q2.keep m3 n1
 have b3':=b2.keep m3 n2
 have M3:Mod R w w3:=(m02.mono fun _ _ e=>e.elim).trans m3 fun x _ e=>e
 have hd3:=h3.dlt
 have np:∀ q,p=some q->q.block≠w1.heap.size:=fun q hq e=>by have:=(o3.ow.base hq).1; omega
 generalize allA A=L at *
 refine ⟨fun x W=>∃ (i:Nat) (y1 y2:Value),x=[y1,y2,.int .i64 i]/\i<=L.length/\Mod (fun z=>z=w1.heap.size) w3 W/\AtU W w1.heap.size 0 (szV L i),fun x _=>(L.length-nI x 2).toNat,⟨0,_,_,rfl,Nat.zero_le _,Mod.refl _ _,b3'⟩,?_⟩
 rintro x W ⟨i,y1,y2,rfl,hi,m,hat⟩
 have zW:=m.size
 have hal:=hat.lt
 refine ⟨_,rfl,cond_of (fun hlt=>?_) (fun hlt=>?_)⟩
 ·have hlt:i<L.length:=by have:=of_decide_eq_true hlt; omega
  obtain ⟨g,rfl,hg,har,ix,ld,_,_⟩:=runAt (o3.ow.keep m fun q hq=>np q hq) (rAt_some hlt)
  obtain ⟨w5,d1,d2,d3,d4⟩:=new_u (P:=Tryz.prog) (w:=W) (T:=57) zero_run
  obtain ⟨w6,e1,e2,e3,e4⟩:=d2.put (T:=57) (vs:=acV (rAt L i)) agg_run rfl rfl (acV_one _)
  have m6:Mod No W w6:=d3.own e3 (Nat.le_refl _)
  have b2:=hp _ (rAt_mem hlt)
  have hlg:=lgR_lt b2.1 b2.2
  refine ⟨_,ix,_,ld _ har.at,_,w5,d1,w6,e1,_,e2.at.fld (v:=.int .i64 (rAt L i).2) sc_int rfl,?_⟩
  refine ⟨fun x W'=>∃ (j:Nat) (n:Int),x=[.int .i64 j,.int .i64 n]/\1<=n/\n<=128/\j+lgR n=lgR (rAt L i).2/\W'=w6,fun x _=>(nI x 1).toNat,⟨0,_,rfl,b2.1,b2.2,by omega,rfl⟩,?_⟩
  rintro x W' ⟨j,n,rfl,n1,n2,ej,rfl⟩
  refine ⟨_,rfl,cond_of (fun h1=>⟨_,rfl,?_⟩) (fun h1=>⟨_,rfl,?_⟩)⟩
  ·have h1:=of_decide_eq_true h1
   have eh:=lgR_half (n:=n) (by omega)
   rw [wrap64 (x:=(j:Int)+1) (by omega) (by omega),Int.fdiv_eq_ediv_of_nonneg _ (by omega:(0:Int)<=2)]
   exact ⟨⟨j+1,n / 2,rfl,by omega,by omega,by omega,rfl⟩,by simp [nI,nth]; omega⟩
  ·have h1:=of_decide_eq_false h1
   have:n=1:=by omega
   subst this
   rw [lgR_one,Nat.add_zero] at ej
   subst ej
   have hat6:=hat.keep m6 id
   have sb:=plSize_b L (lgR (rAt L i).2) i
   have ad:∀ e:Nat,Addr.add ⟨w1.heap.size,0,none⟩ ((e:Int).toNat*1)=Addr.add ⟨w1.heap.size,0,none⟩ e:=fun e=>by rw [show (e:Int).toNat*1=e by omega]
   have ixa:=index_arr (P:=Tryz.prog) (kk:=.i64) (a:=⟨w1.heap.size,0,none⟩) (i:=((lgR (rAt L i).2:Nat):Int)) arr_szs (by omega) (by omega)
   rw [ad] at ixa
   obtain ⟨w8,y1,y2,y3,y4⟩:=hat6.putF (P:=Tryz.prog) (T:=3) (j:=lgR (rAt L i).2) (v:=.int .i64 (plSize L (lgR (rAt L i).2) i+1)) sc_int (by rw [szV_len]; exact hlg) rfl
   rw [szV_set L i hlg] at y2
   refine ⟨_,ixa,_,hat6.at.fld sc_int (szV_at L i hlg),_,ixa,w8,?_,?_⟩
   ·rw [wrap64 (by omega) (by omega)]; exact y1
   ·rw [wrap64 (x:=(i:Int)+1) (by omega) (by omega)]
    exact ⟨⟨i+1,_,_,rfl,by omega,(m.no m6).trans y3 fun _ _ e=>e,y2⟩,by simp [nI,nth]; omega⟩
 ·have hlt:=of_decide_eq_false hlt
  have:i=L.length:=by omega
  subst this
  have kW:=h3.own m r2 (by omega)
  obtain ⟨w9,y1,y2,y3,y4⟩:=(q3.keep m (fun e=>by have e:w.heap.size=w1.heap.size:=e; omega)).put (T:=64) (vs:=szV L L.length) agg_szs (szV_len _ _) (szV_len _ _) (szV_one _ _)
  refine ⟨_,hat.at.all agg_szs (szV_len _ _),w9,y1,_,y2.at.all agg_szs (szV_len _ _),hk w9 R3 ?_ (s3.up (by omega)) (kW.own y3 r1 (by omega))⟩
  exact (M3.trans m fun x hx e=>by have e:x=w1.heap.size:=e; omega).trans y3 fun x hx e=>by have e:x=w.heap.size:=e; omega
-- of none
end
end Go.Proofs.YtelhlihjihklbaaGreat
end
section
open Go Go.Den Go.Proofs
namespace Go.Proofs.YtelhlihjihklbaaGreat
def wrkA (A:Az) (W:List Wt):Az:=⟨A.s,A.V,W,A.nx,A.hs,A.fz⟩
def fzA (A:Az) (k:Int) (on:Bool):Az:=⟨A.s,A.V,A.W,A.nx,A.hs,fun n=>if n=k then on else A.fz n⟩
def freezeA (A:Az) (k:Int) (on:Bool):Az×Int:=if k<0\/A.s.geo.gs<=k then (A,3) else (fzA A k on,0)
def laterA (A:Az) (x:Int×Int) (th tk:Bool) (n:Int):Az×Int :=
 if th=false then (A,3) else if (!tk || A.W.any fun y=>sameA y.2 x)=true then (A,6) else (wrkA A (laterL A.W (n,x)),laterE A.W x.1)
def giveA (A:Az) (b n:Int):Az×Int:=laterA A (1,b) (spB A.s.geo b).2.2 (takenA A b) n
def actA (A:Az) (x:Int×Int):Az:=if x.1=1 then (turnA true A (spB A.s.geo x.2).1.toNat (spB A.s.geo x.2).2.1 false).1 else if x.1=2 then (turnA false A (spS A.s.geo x.2).1.toNat (spS A.s.geo x.2).2.1 false).1 else A
def settleTo (l:List (Int×Int)) (A:Az):Nat->Az
 | 0=>A
 | i+1=>actA (settleTo l A i) (l.getD i (0,0))
def ripeA (A:Az):List (Int×Int):=(A.W.filter (ripeP A.V)).map (·.2)
def settleA (A:Az):Az:=settleTo (ripeA A) (wrkA A (A.W.filter fun x=>!ripeP A.V x)) (ripeA A).length
theorem setHV_last (V:Ps) (g:Gm) (k:Nat) (h:Hd):(setHV V g k h).last<=V.last+1:=by
 unfold setHV patS
 split
 ·exact Nat.le_refl _
 ·omega
theorem turnA_s (kd:Bool) (A:Az) (k:Nat) (i:Int) (on:Bool):(turnA kd A k i on).1.s=A.s/\(turnA kd A k i on).1.V.last<=A.V.last+1/\(turnA kd A k i on).1.W=A.W/\(turnA kd A k i on).1.fz=A.fz:=by
 unfold turnA
 split
 ·exact ⟨rfl,by simp only; omega,rfl,rfl⟩
 ·exact ⟨rfl,setHV_last _ _ _ _,rfl,rfl⟩
theorem actA_s (A:Az) (x:Int×Int):(actA A x).s=A.s/\(actA A x).V.last<=A.V.last+1/\(actA A x).W=A.W/\(actA A x).fz=A.fz:=by
 unfold actA
 split
 ·exact turnA_s _ _ _ _ _
 split
 ·exact turnA_s _ _ _ _ _
 ·exact ⟨rfl,by omega,rfl,rfl⟩
theorem settleTo_s (l:List (Int×Int)) (A:Az):∀ i,(settleTo l A i).s=A.s/\(settleTo l A i).V.last<=A.V.last+i/\(settleTo l A i).W=A.W/\(settleTo l A i).fz=A.fz
 | 0=>⟨rfl,Nat.le_refl _,rfl,rfl⟩
 | i+1=>by
  obtain ⟨h1,h2,h3,h4⟩:=settleTo_s l A i
  obtain ⟨k1,k2,k3,k4⟩:=actA_s (settleTo l A i) (l.getD i (0,0))
  exact ⟨k1.trans h1,by show (actA (settleTo l A i) (l.getD i (0,0))).V.last<=_; omega,k3.trans h3,k4.trans h4⟩
section
variable {w w':World} {R R':Nat->Prop} {a v d:Nat} {A:Az} {K:Value->World->Prop}
theorem sc_work:scal Tryz.prog 129=true:=by kernel_rfl
theorem Ao.wk (h:Ao R w a v d A):∃ (w0:World) (Rs Z:Nat->Prop) (sp wk:Nat),Pz w0 Rs w sp d A.V/\Wk 199 Z w wk A.W/\(∀ x,Z x->x<w.heap.size)/\AtU w v 0 (vV A.s sp wk A.nx) /\
  ∀ (w':World) (Z':Nat->Prop) (W':List Wt),Mod (fun z=>z=wk) w w'->(∀ x,Z x->Z' x)->Wk 199 Z' w' wk W'->Mod R w w'/\∃ R',Sb R R' w/\Ao R' w' a v d (wrkA A W')/\∀ z,w.heap.size<=z->Z' z->¬ R' z:=by
 have hlt:=h.lt
 have hhd:=h.hd
 obtain ⟨Rv,hv,hRv,hc⟩:=h.vol
 have hvl:=hv.lt
 obtain ⟨w0,Rs,Z,sp,wk,a1,a2,a3,a4,a5,a6,a7⟩:=hv.op
 refine ⟨w0,Rs,Z,sp,wk,a1,a2,a3,a4,fun w' Z' W' m hZ hW=>?_⟩
 obtain ⟨M,hV⟩:=a7 w' Z' W' m hZ hW
 obtain ⟨c1,c2,c3⟩:=hc w' _ A.V W' A.nx A.hs M (fun z hz=>hz.imp id (·.1)) hV hhd
 refine ⟨c1,_,c2,c3,fun z hz hZz e=>?_⟩
 rcases e with e | e | e
 ·have:=hlt z e; omega
 ·have:=hvl z e; omega
 ·exact e.2.2 hZz
theorem aWork_c {sp wk:Nat} (h:AtU w v 0 (vV A.s sp wk A.nx)) (hk:K (.pointer (some ⟨wk,0,none⟩)) w):Cal Tryz.prog F_vol_Vol_Work #[.pointer (some ⟨v,0,none⟩)] w K:=by
 apply C_vol_Vol_Work
 unfold D_vol_Vol_Work
 exact ff rfl ⟨_,rfl,_,h.at.fld sc_work rfl,hk⟩
theorem aStore_c {sp wk:Nat} (h:AtU w v 0 (vV A.s sp wk A.nx)) (hk:K (.pointer (some ⟨sp,0,none⟩)) w):Cal Tryz.prog F_vol_Vol_Store #[.pointer (some ⟨v,0,none⟩)] w K:=by
 apply C_vol_Vol_Store
 unfold D_vol_Vol_Store
 exact ff rfl ⟨_,rfl,_,h.at.fld sc_store rfl,hk⟩
theorem aFreeze_c {k:Int} {on:Bool} (h:Ao R w a v d A) (hk:∀ w' R',Mod R w w'->Sb R R' w->Ao R' w' a v d (freezeA A k on).1->K (.int .i64 (freezeA A k on).2) w'):Cal Tryz.prog F_alloc_Alloc_Freeze #[.pointer (some ⟨a,0,none⟩),.int .i64 k,.bool on] w K:=by
 apply C_alloc_Alloc_Freeze
 unfold D_alloc_Alloc_Freeze
 refine ff rfl (Share.cut (fun z w2=>z=[.bool (decide (k<0\/A.s.geo.gs<=k))]/\Mod No w w2) (cond_of (fun h0=>⟨?_,Mod.refl _ _⟩) (fun h0=>⟨_,rfl,_,h.pv,aGeo_c h fun w1 m1=>⟨_,rfl,A.s.geo.gs,field_ggs _,?_,m1⟩⟩)) ?_)
 ·rw [decide_eq_true (Or.inl (of_decide_eq_true h0))]
 ·have h0:=of_decide_eq_false h0
  exact bcell (by omega)
 rintro z w2 ⟨rfl,m2⟩
 have h2:=h.nos m2
 have hda:=h.dlt
 refine ⟨_,rfl,cond_of (fun hb=>?_) (fun hb=>?_)⟩
 ·have e:freezeA A k on=(A,3):=by unfold freezeA; rw [if_pos (of_decide_eq_true hb)]
  rw [e] at hk
  exact hk w2 R (m2.mono fun _ _ e=>e.elim) (Sb.refl _ _) h2
 ·have e:freezeA A k on=(fzA A k on,0):=by unfold freezeA; rw [if_neg (of_decide_eq_false hb)]
  rw [e] at hk
  obtain ⟨Rv,fm,L,k1,k2,k3,k4,k5,k6,k7,k8⟩:=h2
  obtain ⟨w3,u1,u2,u3,u4⟩:=update_run (P:=Tryz.prog) (k:=k) (v:=.bool on) mapFz k3
  refine ⟨_,rfl,_,k2.at.fld sc_fz rfl,w3,u1,hk w3 R ?_ (Sb.refl _ _) ⟨Rv,fm,_,k1.keep u3 (fun z hz e=>by have e:z=fm:=e; rw [e] at hz; exact k5.2.1 hz) (fun z e=>by have e:z=fm:=e; rw [e]; exact k5.2.2.2.2),k2.keep u3 (fun e=>k5.2.2.1 e),u2,fun n=>?_,k5,k6,fun z hz=>by rw [u4]; exact k7 z hz,k8⟩⟩
  ·exact (m2.mono fun _ _ e=>e.elim).trans u3 fun x hx e=>by have e:x=fm:=e; rw [e]; exact k6 fm (.inr (.inr rfl))
  ·show (lookupL (putL k (.bool on) L) n).getD (.bool false)=.bool (if n=k then on else A.fz n)
   rw [look_put]
   by_cases e:n=k
   ·rw [if_pos e.symm,if_pos e]; rfl
   ·rw [if_neg fun x=>e x.symm,if_neg e]; exact k4 n
theorem aLater_c {x:Int×Int} {th tk:Bool} {n:Int} (h:Ao R w a v d A) (hn:A.W.length<=4999) (hk:∀ w' R',Mod R w w'->Sb R R' w->Ao R' w' a v d (laterA A x th tk n).1->K (.int .i64 (laterA A x th tk n).2) w') :
  Cal Tryz.prog F_alloc_Alloc_later #[.pointer (some ⟨a,0,none⟩),.agg ⟨acV x⟩,.bool th,.bool tk,.int .i64 n] w K:=by
 apply C_alloc_Alloc_later
 unfold D_alloc_Alloc_later
 obtain ⟨w1,b1,b2,b3,b4⟩:=box_u (P:=Tryz.prog) (w:=w) (T:=126) (cs:=acV x)
 refine ⟨_,w1,b1,cond_of (fun h0=>?_) (fun h0=>?_)⟩
 ·have e:laterA A x th tk n=(A,3):=by unfold laterA; rw [if_pos (by simpa using h0)]
  rw [e] at hk
  exact hk w1 R (b3.mono fun _ _ e=>e.elim) (Sb.refl _ _) (h.nos b3)
 have h0:¬ th=false:=by simpa using h0
 have md:Mod No w (Go.Den.drew w1):=b3.drew
 have h1:=h.nos md
 have q1:=b2.drew
 obtain ⟨w0,Rs,Z,sp,wk,a1,a2,a3,a4,a5⟩:=h1.wk
 refine Share.cut (fun z w4=>z=[.bool (!tk || A.W.any fun y=>sameA y.2 x)]/\Mod No (Go.Den.drew w1) w4) (cond_of (fun ht=>⟨?_,Mod.refl _ _⟩) (fun ht=>⟨_,rfl,_,h1.pv,_,q1.at.all agg_pact rfl,aWork_c a4 ⟨_,rfl,q1.at.all agg_pact rfl,kWaits_c a2 (by omega) fun w3 m3=>⟨_,rfl,?_,m3⟩⟩⟩)) ?_
 ·rw [ht]; rfl
 ·rw [ht]; rfl
 rintro z w4 ⟨rfl,m4⟩
 have m14:Mod No w (Go.Den.drew w4):=(md.no m4).drew
 refine ⟨_,rfl,cond_of (fun hb=>?_) (fun hb=>?_)⟩
 ·have e:laterA A x th tk n=(A,6):=by unfold laterA; rw [if_neg h0,if_pos hb]
  rw [e] at hk
  exact hk w4 R ((md.no m4).mono fun _ _ e=>e.elim) (Sb.refl _ _) (h1.nos m4)
 ·have e:laterA A x th tk n=(wrkA A (laterL A.W (n,x)),laterE A.W x.1):=by unfold laterA; rw [if_neg h0,if_neg (by rw [hb]; decide)]
  rw [e] at hk
  have h4:=h.nos m14
  have q4:=(q1.keep m4 id).drew
  obtain ⟨w0,Rs,Z,sp,wk,a1,a2,a3,a4,a5⟩:=h4.wk
  refine ⟨_,rfl,_,h4.pv,_,q4.at.all agg_pact rfl,aWork_c a4 ⟨_,rfl,q4.at.all agg_pact rfl,kLater_c (n:=n) (k:=x.1) (m:=x.2) a2 (by omega) a3 fun w6 m6 hW=>⟨_,rfl,?_⟩⟩⟩
  obtain ⟨M,R',s,hA,_⟩:=a5 w6 Z _ m6 (fun _ e=>e) hW
  exact hk w6 R' ((m14.mono fun _ _ e=>e.elim).trans M fun x _ e=>e) (s.up m14.size) hA
theorem build_act (x y:Int):Al (Instr.build 126 #[(0,.int .i64 x),(1,.int .i64 y)]) (.agg ⟨acV (x,y)⟩):=fun w=>by kernel_rfl
theorem zero_pact:zeroC Tryz.prog 126=some (acV (0,0)):=by kernel_rfl
theorem aFreeB_c {b n:Int} (h63:b<=9223372036854775807) (h:Ao R w a v d A) (hn:A.W.length<=4999) (hk:∀ w' R',Mod R w w'->Sb R R' w->Ao R' w' a v d (giveA A b n).1->K (.int .i64 (giveA A b n).2) w') :
  Cal Tryz.prog F_alloc_Alloc_FreeBlock #[.pointer (some ⟨a,0,none⟩),.int .i64 b,.int .i64 n] w K:=by
 apply C_alloc_Alloc_FreeBlock
 unfold D_alloc_Alloc_FreeBlock
 refine ff rfl (aBlk_c h63 h fun w1 m1=>⟨_,_,rfl,?_⟩)
 obtain ⟨w2,b1,b2,b3,b4⟩:=new_u (P:=Tryz.prog) (w:=w1) (T:=101) zero_spot
 obtain ⟨w3,c1,c2,c3,c4⟩:=b2.put (T:=101) (vs:=pV ((spB A.s.geo b).1,(spB A.s.geo b).2.1)) agg_spot rfl rfl (one_pV _)
 have M3:Mod No w w3:=m1.no (b3.own c3 (Nat.le_refl _))
 have z3:=M3.size
 refine ⟨_,w2,b1,w3,c1,_,build_act _ _,aTaken_c h63 (h.nos M3) fun w4 R4 m4 s4 h4=>⟨_,rfl,aLater_c h4 hn fun w5 R5 m5 s5 h5=>⟨_,rfl,?_⟩⟩⟩
 have z4:=m4.size
 refine hk w5 R5 ?_ ((s4.trans s5 z4).up z3) h5
 exact (M3.mono fun _ _ e=>e.elim).trans (Mod.sb m4 s4 m5) fun x _ e=>e
set_option maxRecDepth 8000 in
theorem aSettle_c (h:Ao R w a v d A) (hn:A.W.length<=4999) (hW:∀ x∈A.W,x.2.2<=9223372036854775807) (hlast:A.V.last+A.W.length<=1000000) (hk:∀ w' R',Mod R w w'->Sb R R' w->Ao R' w' a v d (settleA A)->K (.int .i64 (ripeA A).length) w') :
  Cal Tryz.prog F_alloc_Alloc_Settle #[.pointer (some ⟨a,0,none⟩)] w K:=by
 apply C_alloc_Alloc_Settle
 unfold D_alloc_Alloc_Settle
 have md:Mod No w (Go.Den.drew w):=(Mod.refl _ _).drew
 have h1:=h.nos md
 obtain ⟨w0,Rs,Z,sp,wk,a1,a2,a3,a4,a5⟩:=h1.wk
 refine ff rfl ⟨_,rfl,_,h1.pv,_,rfl,_,h1.pv,aWork_c a4 ⟨_,rfl,h1.pv,aStore_c a4 ⟨_,rfl,kRipeZ_c a1 a2 (by omega) a3 fun w3 p c m3 hW3 o3=>⟨_,_,_,rfl,?_⟩⟩⟩⟩
 obtain ⟨M3,R3,s3,h3,nz3⟩:=a5 w3 _ _ m3 (fun _ e=>.inl e) hW3
 have np:∀ q,p=some q->¬ R3 q.block:=fun q hq=>nz3 _ (o3.base hq).1 (.inr ⟨q,hq,rfl⟩)
 have hlen:(A.W.filter (ripeP A.V)).length=(ripeA A).length:=by unfold ripeA; rw [List.length_map]
 have hll:(ripeA A).length<=A.W.length:=by rw [<- hlen]; exact List.length_filter_le _ _
 have hb63:∀ x∈ripeA A,x.2<=9223372036854775807:=fun x hx=>by
  obtain ⟨y,hy,rfl⟩:=List.mem_map.1 hx
  exact hW y ((List.mem_filter.1 hy).1)
 have eS:settleA A=settleTo (ripeA A) (wrkA A (A.W.filter fun x=>!ripeP A.V x)) (ripeA A).length:=rfl
 rw [eS] at hk
 have hl3:(wrkA A (A.W.filter fun x=>!ripeP A.V x)).V.last+(ripeA A).length<=1000000:=by show A.V.last+_<=_; omega
 rw [hlen]
 rw [hlen,show (A.W.filter (ripeP A.V)).map (·.2)=ripeA A from rfl] at o3
 generalize wrkA A (A.W.filter fun x=>!ripeP A.V x)=A3 at *
 generalize ripeA A=l at *
 have zd:(Go.Den.drew w).heap.size=w.heap.size:=rfl
 have hdl:=h.dlt
 have M03:Mod R w w3:=(md.mono fun _ _ e=>e.elim).trans M3 fun x _ e=>e
 refine ⟨fun x W=>∃ (i:Nat) (R':Nat->Prop),x=[.int .i64 i]/\i<=l.length/\Ao R' W a v d (settleTo l A3 i)/\Sb R R' w/\Mod R w W/\Ow Tryz.prog W w.heap.size 128 2 p l.length c (rowC l)/\(∀ q,p=some q->¬ R' q.block),fun x _=>(l.length-nI x 0).toNat,
  ⟨0,R3,rfl,Nat.zero_le _,h3,s3,M03,o3,np⟩,?_⟩
 rintro x W ⟨i,R',rfl,hi,h4,s4,m4,o4,n4⟩
 refine ⟨_,rfl,cond_of (fun hlt=>?_) (fun hlt=>?_)⟩
 ·have hlt:i<l.length:=by have:=of_decide_eq_true hlt; omega
  have hx:l[i]?=some (l.getD i (0,0)):=by rw [List.getD_eq_getElem?_getD,List.getElem?_eq_getElem hlt]; rfl
  have hx63:=hb63 _ (List.mem_of_getElem? hx)
  have eT:settleTo l A3 (i+1)=actA (settleTo l A3 i) (l.getD i (0,0)):=rfl
  obtain ⟨g,rfl,hg,ix,ld,_⟩:=actAt (T:=128) (Te:=126) o4 rfl elemN_acts agg_pact (by omega) hx
  generalize l.getD i (0,0)=y at *
  obtain ⟨_,t2,t3,t4⟩:=settleTo_s l A3 i
  generalize settleTo l A3 i=A4 at *
  have zW:=m4.size
  obtain ⟨w5,d1,d2,d3,d4⟩:=new_u (P:=Tryz.prog) (w:=W) (T:=126) zero_pact
  obtain ⟨w6,e1,e2,e3,e4⟩:=d2.put (T:=126) (vs:=acV y) agg_pact rfl rfl (acV_one _)
  have m6:Mod No W w6:=d3.own e3 (Nat.le_refl _)
  have h6:=h4.nos m6
  have z6:=m6.size
  refine ⟨_,ix,_,ld W (Mod.refl _ _),_,w5,d1,w6,e1,_,e2.at.fld (v:=.int .i64 y.1) sc_int rfl,?_⟩
  -- what is to be shown of each way
  have done:∀ (A5:Az),actA A4 y=A5->∀ w11 R11,Mod R' w6 w11->Sb R' R11 w6->Ao R11 w11 a v d A5->∃ R'',Ao R'' w11 a v d (settleTo l A3 (i+1))/\Sb R R'' w/\Mod R w w11/\Ow Tryz.prog w11 w.heap.size 128 2 (some ⟨g,0,none⟩) l.length c (rowC l)/\∀ q,(some ⟨g,0,none⟩:Option Addr)=some q->¬ R'' q.block:=fun A5 hA5 w11 R11 m11 s11 h11=>by
   refine ⟨R11,by rw [eT,hA5]; exact h11,s4.trans (s11.up z6) zW,Mod.sb (m4.no m6) s4 m11,(o4.nos m6).keep m11 (fun q hq=>n4 q hq),fun q hq e=>?_⟩
   rcases s11 _ e with e | e
   ·exact n4 q hq e
   ·have:=(o4.base hq).2; omega
  refine Share.cut (fun z w18=>z=[]/\∃ R'',Ao R'' w18 a v d (settleTo l A3 (i+1))/\Sb R R'' w/\Mod R w w18/\Ow Tryz.prog w18 w.heap.size 128 2 (some ⟨g,0,none⟩) l.length c (rowC l)/\∀ q,(some ⟨g,0,none⟩:Option Addr)=some q->¬ R'' q.block) (cond_of (fun hk1=>?_) (fun hk1=>?_)) ?_
  ·have hk1:y.1=1:=by simpa using hk1
   have eA:actA A4 y=(turnA true A4 (spB A4.s.geo y.2).1.toNat (spB A4.s.geo y.2).2.1 false).1:=by unfold actA; rw [if_pos hk1]
   obtain ⟨g1,g2,g3,g4⟩:=spB_in h6.ok y.2
   refine ⟨_,e2.at.fld (v:=.int .i64 y.2) sc_int rfl,aBlk_c hx63 h6 fun w7 m7=>⟨_,_,rfl,?_⟩⟩
   obtain ⟨k,hk'⟩:=Int.eq_ofNat_of_zero_le g1
   rw [hk',Int.toNat_natCast] at eA
   rw [hk'] at g2 |-
   obtain ⟨w8,f1,f2,f3,f4⟩:=new_u (P:=Tryz.prog) (w:=w7) (T:=101) zero_spot
   obtain ⟨w9,y1,y2,y3,y4⟩:=f2.put (T:=101) (vs:=pV ((k:Int),(spB A4.s.geo y.2).2.1)) agg_spot rfl rfl (one_pV _)
   have m9:Mod No w6 (Go.Den.drew w9):=(m7.no (f3.own y3 (Nat.le_refl _))).drew
   refine ⟨_,w8,f1,w9,y1,_,y2.drew.at.all agg_spot rfl,aBlocks_c fun w10 m10=>⟨_,rfl,(y2.drew.keep m10 id).at.all agg_spot rfl,?_⟩⟩
   have M10:=m9.no m10
   refine turn_c (h6.nos M10) g2 (by omega) fun w11 R11 m11 s11 h11=>⟨_,_,rfl,rfl,done _ eA w11 R11 ((M10.mono fun _ _ e=>e.elim).trans m11 fun x _ e=>e) (s11.up M10.size) h11⟩
  ·have hk1:¬ y.1=1:=by simpa using hk1
   refine Share.cut (fun z w18=>z=[]/\∃ R'',Ao R'' w18 a v d (settleTo l A3 (i+1))/\Sb R R'' w/\Mod R w w18/\Ow Tryz.prog w18 w.heap.size 128 2 (some ⟨g,0,none⟩) l.length c (rowC l)/\∀ q,(some ⟨g,0,none⟩:Option Addr)=some q->¬ R'' q.block) (cond_of (fun hk2=>?_) (fun hk2=>?_)) ?_
   ·have hk2:y.1=2:=by simpa using hk2
    have eA:actA A4 y=(turnA false A4 (spS A4.s.geo y.2).1.toNat (spS A4.s.geo y.2).2.1 false).1:=by unfold actA; rw [if_neg hk1,if_pos hk2]
    obtain ⟨g1,g2,g3,g4⟩:=spS_in h6.ok y.2
    refine ⟨_,e2.at.fld (v:=.int .i64 y.2) sc_int rfl,aSlt_c hx63 h6 fun w7 m7=>⟨_,_,rfl,?_⟩⟩
    obtain ⟨k,hk'⟩:=Int.eq_ofNat_of_zero_le g1
    rw [hk',Int.toNat_natCast] at eA
    rw [hk'] at g2 |-
    obtain ⟨w8,f1,f2,f3,f4⟩:=new_u (P:=Tryz.prog) (w:=w7) (T:=101) zero_spot
    obtain ⟨w9,y1,y2,y3,y4⟩:=f2.put (T:=101) (vs:=pV ((k:Int),(spS A4.s.geo y.2).2.1)) agg_spot rfl rfl (one_pV _)
    have m9:Mod No w6 (Go.Den.drew w9):=(m7.no (f3.own y3 (Nat.le_refl _))).drew
    refine ⟨_,w8,f1,w9,y1,_,y2.drew.at.all agg_spot rfl,aSlots_c fun w10 m10=>⟨_,rfl,(y2.drew.keep m10 id).at.all agg_spot rfl,?_⟩⟩
    have M10:=m9.no m10
    refine turn_c (h6.nos M10) g2 (by omega) fun w11 R11 m11 s11 h11=>⟨_,_,rfl,rfl,done _ eA w11 R11 ((M10.mono fun _ _ e=>e.elim).trans m11 fun x _ e=>e) (s11.up M10.size) h11⟩
   ·have hk2:¬ y.1=2:=by simpa using hk2
    have eA:actA A4 y=A4:=by unfold actA; rw [if_neg hk1,if_neg hk2]
    exact ⟨rfl,done _ eA w6 R' (Mod.refl _ _) (Sb.refl _ _) h6⟩
   ·rintro z w18 ⟨rfl,hz⟩
    exact ⟨rfl,hz⟩
  ·rintro z w18 ⟨rfl,R'',k1,k2,k3,k4,k5⟩
   rw [wrap64 (x:=(i:Int)+1) (by omega) (by omega)]
   exact ⟨⟨i+1,R'',rfl,by omega,k1,k2,k3,k4,k5⟩,by simp [nI,nth]; omega⟩
 ·have hlt:=of_decide_eq_false hlt
  have:i=l.length:=by omega
  subst this
  exact hk W R' m4 s4 h4
end
end Go.Proofs.YtelhlihjihklbaaGreat
end
section
open Go Go.Den Go.Proofs
namespace Go.Proofs.YtelhlihjihklbaaGreat
end Go.Proofs.YtelhlihjihklbaaGreat
namespace Go.Den
end Go.Den
namespace Go.Proofs.YtelhlihjihklbaaGreat
def gE (g:Gm):Gm:=if gOk g=true/\gSize g<=200 then g else gKn
def dE (g:Gm):St:=fmtSt (newSt (gSize (gE g)).toNat) (gE g)
def nE (g:Gm):Int:=nextTo (dE g) (gE g) (gSlots (gE g)).toNat+1
def aE (g:Gm) (hs:List Hd) (k:Nat):Az:=⟨⟨1,gE g⟩,⟨⟨dE g,k,[]⟩,0,[]⟩,[],nE g,hs,fun _=>false⟩
theorem gE_ok (g:Gm):gOk (gE g)=true/\gSize (gE g)<=200:=by
 unfold gE
 split
 ·rename_i h; exact h
 ·exact ⟨by decide,by decide⟩
theorem gE_sz (g:Gm):gSize (gE g)=2+(gE g).gs*(gE g).gr/\18<=gSize (gE g):=by
 have h:=(gE_ok g).1
 have e:gSize (gE g)=2+(gE g).gs*(gE g).gr:=by unfold gSize; rw [if_pos h]
 obtain ⟨h1,_,h3,_⟩:=gOk_iff.1 h
 have:1*16<=(gE g).gs*(gE g).gr:=Int.mul_le_mul h3 h1 (by omega) (by omega)
 exact ⟨e,by omega⟩
theorem bndN (k:Nat):Bnd (newSt k) 1:=fun v hv=>by
 have:=List.eq_of_mem_replicate hv
 subst this; simp
theorem build_g16 (w:World):(Instr.build 40 #[(0,.int .i64 16),(1,.int .i64 8),(2,.int .i64 2)]).run Tryz.prog w=.ok (.agg ⟨gV gKn⟩) w:=by kernel_rfl
section
variable {w wb w':World} {R R0 R':Nat->Prop} {N a v d:Nat} {A:Az} {hs:List Hd} {K:Value->World->Prop}
end
end Go.Proofs.YtelhlihjihklbaaGreat
end
section
open Go Go.Den Go.Proofs
namespace Go.Proofs.YtelhlihjihklbaaGreat
section
variable {D:St} {l:List (Int×Bk)} {b:Nat} {ys:Bk} {g:Gm} {n:Nat}
def InD (D:St) (l:List (Int×Bk)):Prop:=∀ x∈l,∃ j:Nat,x.1=j/\j<D.vs.length/\x.2.length=256
theorem wrAll_no (hl:D.left=-1) (hin:InD D l) (hno:∀ x∈l,x.1≠(b:Int)):atD (wrAll D l) b=atD D b:=by
 induction l generalizing D with
 | nil=>rfl
 | cons x l ih =>
  obtain ⟨j,h1,h2,h3⟩:=hin x List.mem_cons_self
  show atD (wrAll (wrSt D x.1 x.2) l) b=_
  have hi:InD (wrSt D x.1 x.2) l:=fun y hy=>by
   obtain ⟨j,k1,k2,k3⟩:=hin y (List.mem_cons_of_mem _ hy)
   exact ⟨j,k1,by rw [wrSt_len]; exact k2,k3⟩
  rw [ih (wrSt_run hl _ _) hi (fun y hy=>hno y (List.mem_cons_of_mem _ hy)),h1,atD_wrN h2 h3 hl,if_neg (fun e=>hno x List.mem_cons_self (by rw [h1,e]))]
theorem wrAll_yes (hl:D.left=-1) (hin:InD D l) (hx:∃ x∈l,x.1=(b:Int)) (hu:∀ x∈l,x.1=(b:Int)->x.2=ys):atD (wrAll D l) b=ys:=by
 induction l generalizing D with
 | nil=>obtain ⟨x,h,_⟩:=hx; cases h
 | cons x l ih =>
  obtain ⟨j,h1,h2,h3⟩:=hin x List.mem_cons_self
  show atD (wrAll (wrSt D x.1 x.2) l) b=_
  have hi:InD (wrSt D x.1 x.2) l:=fun y hy=>by
   obtain ⟨j,k1,k2,k3⟩:=hin y (List.mem_cons_of_mem _ hy)
   exact ⟨j,k1,by rw [wrSt_len]; exact k2,k3⟩
  by_cases h:∃ y∈l,y.1=(b:Int)
  ·exact ih (wrSt_run hl _ _) hi h fun y hy=>hu y (List.mem_cons_of_mem _ hy)
  ·have hxb:x.1=(b:Int):=by
    obtain ⟨y,hy,e⟩:=hx
    rcases List.mem_cons.1 hy with rfl | hy
    ·exact e
    ·exact absurd ⟨y,hy,e⟩ h
   rw [wrAll_no (wrSt_run hl _ _) hi (fun y hy e=>h ⟨y,hy,e⟩),h1,atD_wrN h2 h3 hl,if_pos (by omega)]
   exact hu x List.mem_cons_self hxb
theorem mem_volL {x:Int×Bk} {m:Nat}:x∈volL g m↔∃ k,k<m/\∃ i,i<volN g/\x=volX g k i:=by
 unfold volL volG
 simp only [List.mem_flatMap,List.mem_range,List.mem_map]
 constructor
 ·rintro ⟨k,hk,i,hi,e⟩; exact ⟨k,hk,i,hi,e.symm⟩
 ·rintro ⟨k,hk,i,hi,e⟩; exact ⟨k,hk,i,hi,e.symm⟩
theorem vol_inj (hg:gOk g=true) {k k' i i':Nat} (hi:i<volN g) (hi':i'<volN g) (e:2+(k:Int)*g.gr+i=2+(k':Int)*g.gr+i'):k=k'/\i=i':=by
 have hv:=(volN_b hg).1
 obtain ⟨h1,_,_,_,h5,h6,h7,h8,_⟩:=gOk_iff.1 hg
 have key:∀ {a c:Nat},a<c->(a:Int)*g.gr+g.gr<=(c:Int)*g.gr:=fun {a c} h=>by
  have:=Int.mul_le_mul_of_nonneg_right (show (a:Int)+1<=c by omega) (show 0<=g.gr by omega)
  rw [Int.add_mul,Int.one_mul] at this; exact this
 rcases Nat.lt_trichotomy k k' with h | h | h
 ·have:=key h; omega
 ·subst h; omega
 ·have:=key h; omega
theorem inD_vol (hg:gOk g=true) (hn:gSize g<=n):InD (fmt0 (newSt n)) (volL g g.gs.toNat):=fun x hx=>by
 obtain ⟨k,hk,i,hi,rfl⟩:=mem_volL.1 hx
 obtain ⟨h1,h2⟩:=volX_in hg (k:=k) (n:=n) (by omega) hi hn
 exact ⟨(volX g k i).1.toNat,by omega,by rw [fmt0_len]; simp [newSt]; omega,volB_len g k i⟩
theorem newRun:(newSt n).left=-1:=rfl
theorem at_new (hg:gOk g=true) (hn:gSize g<=n) {k i:Nat} (hk:(k:Int)<g.gs) (hi:i<volN g):atD (fmtSt (newSt n) g) (2+(k:Int)*g.gr+i).toNat=volB g k i:=by
 obtain ⟨h1,h2⟩:=volX_in hg (n:=n) hk hi hn
 have h1:2<=2+(k:Int)*g.gr+i:=h1
 have h2:2+(k:Int)*g.gr+i<n:=h2
 have hb:(((2+(k:Int)*g.gr+i).toNat:Nat):Int)=2+(k:Int)*g.gr+i:=by omega
 generalize (2+(k:Int)*g.gr+i).toNat=b at hb
 have h1r:=fmt1_run (newRun (n:=n)) g
 have hl1:1<(fmt1 (newSt n) g).vs.length:=by rw [fmt1_len]; simp [newSt]; omega
 unfold fmtSt
 rw [atD_fl (wrSt_run h1r _ _),show (1:Int)=((1:Nat):Int) from rfl,atD_wrN hl1 (supB_len _) h1r,if_neg (by omega)]
 unfold fmt1
 rw [atD_fl (wrAll_run (fmt0_run newRun) _)]
 refine wrAll_yes (fmt0_run newRun) (inD_vol hg hn) ⟨volX g k i,mem_volL.2 ⟨k,by omega,i,hi,rfl⟩,hb.symm⟩ fun x hx e=>?_
 obtain ⟨k',_,i',hi',rfl⟩:=mem_volL.1 hx
 have e:2+(k':Int)*g.gr+i'=b:=e
 have e2:2+(k':Int)*g.gr+i'=2+(k:Int)*g.gr+i:=e.trans hb
 obtain ⟨rfl,rfl⟩:=vol_inj hg hi' hi e2
 rfl
theorem at_sup (hn:18<=n):atD (fmtSt (newSt n) g) 1=supB ⟨1,g⟩:=by
 have h1r:=fmt1_run (newRun (n:=n)) g
 have hl1:1<(fmt1 (newSt n) g).vs.length:=by rw [fmt1_len]; simp [newSt]; omega
 unfold fmtSt
 rw [atD_fl (wrSt_run h1r _ _),show (1:Int)=((1:Nat):Int) from rfl,atD_wrN hl1 (supB_len _) h1r,if_pos rfl]
theorem at_zero (hg:gOk g=true) (hn:gSize g<=n) (h18:18<=n):atD (fmtSt (newSt n) g) 0=zeroB:=by
 have h1r:=fmt1_run (newRun (n:=n)) g
 have hl1:1<(fmt1 (newSt n) g).vs.length:=by rw [fmt1_len]; simp [newSt]; omega
 unfold fmtSt
 rw [atD_fl (wrSt_run h1r _ _),show (1:Int)=((1:Nat):Int) from rfl,atD_wrN hl1 (supB_len _) h1r,if_neg (by decide)]
 unfold fmt1
 rw [atD_fl (wrAll_run (fmt0_run newRun) _),wrAll_no (fmt0_run newRun) (inD_vol hg hn) fun x hx e=>by
  obtain ⟨k,hk,i,hi,rfl⟩:=mem_volL.1 hx
  have:=(volX_in hg (k:=k) (n:=n) (by omega) hi hn).1
  have e:(volX g k i).1=((0:Nat):Int):=e
  omega]
 unfold fmt0
 have hz:(wrSt (newSt n) 0 zeroB).left=-1:=wrSt_run newRun _ _
 have hl:1<(wrSt (newSt n) 0 zeroB).vs.length:=by rw [wrSt_len]; simp [newSt]; omega
 rw [atD_fl (wrSt_run hz _ _),show (1:Int)=((1:Nat):Int) from rfl,atD_wrN hl zeroB_len hz,if_neg (by decide),show (0:Int)=((0:Nat):Int) from rfl,atD_wrN (by simp [newSt]; omega) zeroB_len newRun,if_pos rfl]
theorem sFront_get {s:Sp}:(supB s).take 4=sMark/\(supB s).drop 4=toLe 8 s.gen.toNat++((supB s).drop 12)/\(supB s).drop 12=toLe 2 s.geo.gr.toNat++((supB s).drop 14)/\(supB s).drop 14=toLe 2 s.geo.no.toNat++((supB s).drop 16)/\(supB s).drop 16=toLe 2 s.geo.gs.toNat++((supB s).drop 18):=by
 have cut:∀ {a c:List UInt8} {m:Nat},a.length=m->(a++c).drop m=c:=fun {a c m} h=>by rw [List.drop_append,List.drop_eq_nil_of_le (by omega),List.nil_append,h,Nat.sub_self]; rfl
 have e:supB s=sMark++(toLe 8 s.gen.toNat++(toLe 2 s.geo.gr.toNat++(toLe 2 s.geo.no.toNat++(toLe 2 s.geo.gs.toNat++(List.replicate 234 0++toLe 4 (crc (sHead s))))))):=by
  unfold supB; rw [sHead,sFront]; simp only [List.append_assoc]
 have d4:(supB s).drop 4=toLe 8 s.gen.toNat++(toLe 2 s.geo.gr.toNat++(toLe 2 s.geo.no.toNat++(toLe 2 s.geo.gs.toNat++(List.replicate 234 0++toLe 4 (crc (sHead s)))))):=by rw [e]; exact cut rfl
 have d12:(supB s).drop 12=toLe 2 s.geo.gr.toNat++(toLe 2 s.geo.no.toNat++(toLe 2 s.geo.gs.toNat++(List.replicate 234 0++toLe 4 (crc (sHead s))))):=by rw [show 12=4+8 from rfl,<- List.drop_drop,d4]; exact cut (length_toLe _ _)
 have d14:(supB s).drop 14=toLe 2 s.geo.no.toNat++(toLe 2 s.geo.gs.toNat++(List.replicate 234 0++toLe 4 (crc (sHead s)))):=by rw [show 14=12+2 from rfl,<- List.drop_drop,d12]; exact cut (length_toLe _ _)
 have d16:(supB s).drop 16=toLe 2 s.geo.gs.toNat++(List.replicate 234 0++toLe 4 (crc (sHead s))):=by rw [show 16=14+2 from rfl,<- List.drop_drop,d14]; exact cut (length_toLe _ _)
 have d18:(supB s).drop 18=List.replicate 234 0++toLe 4 (crc (sHead s)):=by rw [show 18=16+2 from rfl,<- List.drop_drop,d16]; exact cut (length_toLe _ _)
 refine ⟨by rw [e]; rfl,by rw [d4,d12],by rw [d12,d14],by rw [d14,d16],by rw [d16,d18]⟩
theorem supG_supB {s:Sp} (hs:sOk s=true):supG (supB s)=(s,0):=by
 obtain ⟨⟨g1,g2⟩,hg⟩:=sOk_iff.1 hs
 obtain ⟨r1,r2,r3,r4,r5,r6,_⟩:=gOk_iff.1 hg
 obtain ⟨e1,e2,e3,e4,e5⟩:=sFront_get (s:=s)
 have tk:∀ {k m:Nat} {c:List UInt8},m<256 ^ k->leN ((toLe k m++c).take k)=m:=fun {k m c} h=>by
  rw [List.take_append_of_le_length (by rw [length_toLe]; exact Nat.le_refl _),List.take_of_length_le (by rw [length_toLe]; exact Nat.le_refl _)]
  exact leN_toLe _ _ h
 have hr:readS (supB s)=s:=by
  unfold readS
  rw [e2,tk (by omega),e3,tk (by omega),e4,tk (by omega),e5,tk (by omega),wrap64 (by omega) (by omega)]
  cases s with
  | mk a b =>
   cases b
   simp only at *
   simp only [Sp.mk.injEq,Gm.mk.injEq]
   omega
 have h252:(supB s).take 252=sHead s:=by unfold supB; rw [List.take_append_of_le_length (by rw [sHead_len]; exact Nat.le_refl _),List.take_of_length_le (by rw [sHead_len]; exact Nat.le_refl _)]
 have hc:leN ((supB s).drop 252)=crc ((supB s).take 252):=by
  rw [h252]
  unfold supB
  rw [List.drop_append,List.drop_eq_nil_of_le (by rw [sHead_len]; exact Nat.le_refl _),List.nil_append,sHead_len]
  exact leN_toLe _ _ (crc_lt _)
 have hz:=(sup_back (supB_len s) e1 hc (by rw [hr]; exact hs)).1 (by rw [hr])
 unfold supG
 rw [if_neg (by rw [supB_len]; exact fun e=>e rfl),if_neg (by rw [e1]; exact fun e=>e rfl),if_neg (by rw [hc]; exact fun e=>e rfl),hr,if_neg (by rw [hs]; decide),if_neg (by rw [hz]; decide)]
theorem supG_zero:(supG zeroB).2≠0:=by decide +kernel
theorem choose_new (hg:gOk g=true) (hn:gSize g<=n):supChoose zeroB (supB ⟨1,g⟩) n=(⟨1,g⟩,1,0):=by
 have hs:sOk (⟨1,g⟩:Sp)=true:=sOk_iff.2 ⟨⟨Int.le_refl 1,by show (1:Int)<=4611686018427387904; decide⟩,hg⟩
 have e0:supPick 0 zeroB n sZ=sZ:=by unfold supPick; rw [if_neg fun h=>supG_zero h.1]
 have eB:supBest zeroB (supB ⟨1,g⟩) n=⟨1,g⟩:=by
  unfold supBest
  rw [e0]
  unfold supPick
  rw [supG_supB hs,if_pos ⟨rfl,rfl,hn,by show (1:Int) > 0; decide⟩]
 have hne:(⟨1,g⟩:Sp)≠sZ:=fun e=>by
  have:(1:Int)=0:=congrArg Sp.gen e
  omega
 unfold supChoose
 rw [eB,if_neg hne]; rfl
theorem root_back:inoAt (overB zeroB 64 (inoB rootN)) 1=(rootN,0):=by decide +kernel
theorem hds_new (hg:gOk g=true) (hn:gSize g<=n) (k:Nat):HdsAt ⟨⟨fmtSt (newSt n) g,k,[]⟩,0,[]⟩ g ((List.range g.gs.toNat).map fun j:Nat=>hBase g (j:Int)):=by
 obtain ⟨_,_,g3,_⟩:=gOk_iff.1 hg
 have hv:0<volN g:=by unfold volN; omega
 refine ⟨hg,?_,by rw [List.length_map,List.length_range]; omega,fun j h hj=>?_⟩
 ·show gSize g<=((fmtSt (newSt n) g).vs.length:Int)
  rw [fmtSt_len]; simp [newSt]; omega
 ·rw [List.getElem?_map] at hj
  by_cases hjl:j<g.gs.toNat
  ·rw [List.getElem?_range hjl] at hj
   cases hj
   refine ⟨?_,hOk_base hg (by omega) (by omega),rfl,hBase_wf _ _⟩
   have:=at_new hg hn (k:=j) (i:=0) (by omega) hv
   rw [Int.natCast_zero,Int.add_zero] at this
   exact this
  ·rw [List.getElem?_eq_none (by simp; omega)] at hj; cases hj
theorem mnt_new (hg:gOk g=true) (hn:gSize g<=n) (h18:18<=n):mnt (fmtSt (newSt n) g)=(⟨1,g⟩,0):=by
 obtain ⟨q1,q2,g3,g4,g5,g6,g7,_⟩:=gOk_iff.1 hg
 have hlen:(fmtSt (newSt n) g).vs.length=n:=by rw [fmtSt_len]; simp [newSt]
 have rd:∀ {b:Nat},b<n->rdB (fmtSt (newSt n) g) (b:Int)=atD (fmtSt (newSt n) g) b:=fun {b} h=>(rd_at _ (by rw [hlen]; exact h)).2
 have hS:mntS (fmtSt (newSt n) g)=(⟨1,g⟩,1,0):=by
  unfold mntS
  rw [show (0:Int)=((0:Nat):Int) from rfl,show (1:Int)=((1:Nat):Int) from rfl,rd (by omega),rd (by omega),at_zero hg hn h18,at_sup h18,hlen]
  exact choose_new hg hn
 have hv:=(volN_b hg).1
 have hO:mntOk (fmtSt (newSt n) g) g=true:=by
  unfold mntOk
  rw [Bool.and_eq_true,List.all_eq_true]
  refine ⟨fun k hk=>?_,?_⟩
  ·have hk:=List.mem_range.1 hk
   obtain ⟨p1,p2,p3⟩:=head_pos hg (k:=k) (by omega)
   have e:headAt (fmtSt (newSt n) g) g k=(hBase g k,0):=by
    unfold headAt
    rw [p1,if_neg (fun e=>e rfl)]
    have:=at_new hg hn (k:=k) (i:=0) (by omega) (by omega)
    rw [Int.natCast_zero,Int.add_zero] at this
    have r:=rd (b:=(2+(k:Int)*g.gr).toNat) (by omega)
    rw [show (((2+(k:Int)*g.gr).toNat:Nat):Int)=2+(k:Int)*g.gr by omega,this] at r
    rw [r]
    exact hGet_grpB (hBase_wf _ _) (hOk_base hg (by omega) (by omega))
   unfold headOk
   rw [e]; exact decide_eq_true ⟨rfl,rfl⟩
  ·have hsl:gSlots g=g.gs*g.no:=by unfold gSlots; rw [if_pos hg]
   have hs4:1*4<=g.gs*g.no:=Int.mul_le_mul g3 g5 (by omega) (by omega)
   have e0:(1:Int) / g.no=0:=Int.ediv_eq_zero_of_lt (by omega) (by omega)
   have e1:(1:Int) % g.no=1:=Int.emod_eq_of_lt (by omega) (by omega)
   have ep:gPlace g 1=(3,1,0):=by
    unfold gPlace
    rw [if_pos hg,if_pos ⟨by decide,by omega⟩,e0,e1]
    have:(2:Int)+0*g.gr+1+1 / 4=3:=by rw [Int.zero_mul]; rfl
    rw [this]; rfl
   have:=at_new hg hn (k:=0) (i:=1) (by omega) (by omega)
   rw [show ((0:Nat):Int)*g.gr=0 from Int.zero_mul _] at this
   have this:atD (fmtSt (newSt n) g) 3=volB g 0 1:=this
   have r:=rd (b:=3) (by omega)
   rw [this] at r
   have e:slotAt (fmtSt (newSt n) g) g 1=(rootN,0):=by
    unfold slotAt
    rw [ep,if_neg (fun e=>e rfl)]
    show inoAt (rdB _ ((3:Nat):Int)) 1=_
    rw [r]
    exact root_back
   unfold rootOk
   rw [e]; exact decide_eq_true ⟨rfl,rfl⟩
 unfold mnt
 rw [hS,if_neg (fun e=>e rfl)]
 show (if mntOk (fmtSt (newSt n) g) g=true then _ else _)=_
 rw [if_pos hO]
end
def hsE (g:Gm):List Hd:=(List.range (gE g).gs.toNat).map fun j:Nat=>hBase (gE g) (j:Int)
theorem mnt_E (g:Gm):mnt (dE g)=(⟨1,gE g⟩,0):=by
 obtain ⟨h1,h2⟩:=gE_ok g
 obtain ⟨h3,h4⟩:=gE_sz g
 exact mnt_new h1 (by omega) (by omega)
theorem hds_E (g:Gm) (k:Nat):HdsAt ⟨⟨dE g,k,[]⟩,0,[]⟩ (gE g) (hsE g):=by
 obtain ⟨h1,h2⟩:=gE_ok g
 obtain ⟨h3,h4⟩:=gE_sz g
 exact hds_new h1 (by omega) k
end Go.Proofs.YtelhlihjihklbaaGreat
end
section
open Go Go.Den Go.Proofs
namespace Go.Proofs.YtelhlihjihklbaaGreat
abbrev Ab:=Int×Int×Bool
def abV (x:Ab):List Value:=[.int .i64 x.1,.int .i64 x.2.1,.bool x.2.2]
def rowB (L:List Ab):List Value:=(L.map abV).flatten
theorem abV_len (x:Ab):(abV x).length=3:=rfl
def abAt (L:List Ab) (i:Nat):Ab:=L.getD i (0,0,false)
def stepAb (A:Az) (x:Ab):Az:=if 0<=x.1/\x.1<=3 then (blockA A x.2.1).1 else if x.1=4\/x.1=5 then settleA (giveA A x.2.1 0).1 else if x.1=6 then (freezeA A x.2.1 x.2.2).1 else A
def openTo (A:Az) (acts:List Ab):Nat->Az
 | 0=>A
 | i+1=>stepAb (openTo A acts i) (abAt acts i)
def openA (g:Gm) (acts:List Ab) (k:Nat):Az:=openTo (aE g (hsE g) k) acts (min acts.length 80)
theorem blockA_s (A:Az) (b:Int):(blockA A b).1.s=A.s/\(blockA A b).1.V.last<=A.V.last+1/\(blockA A b).1.W=A.W/\(blockA A b).1.fz=A.fz:=by
 unfold blockA
 split
 ·exact ⟨rfl,setHV_last _ _ _ _,rfl,rfl⟩
 ·exact ⟨rfl,by simp only; omega,rfl,rfl⟩
theorem freezeA_s (A:Az) (k:Int) (on:Bool):(freezeA A k on).1.s=A.s/\(freezeA A k on).1.V=A.V/\(freezeA A k on).1.W=A.W:=by
 unfold freezeA
 split <;> exact ⟨rfl,rfl,rfl⟩
theorem giveA_W {A:Az} (h:A.W=[]) (b:Int):((giveA A b 0).1=A/\(giveA A b 0).2≠0)\/((giveA A b 0).1=wrkA A [(0,1,b)]/\(giveA A b 0).2=0/\(spB A.s.geo b).2.2=true/\takenA A b=true):=by
 unfold giveA laterA
 by_cases h1:(spB A.s.geo b).2.2=false
 ·rw [if_pos h1]; exact .inl ⟨rfl,by show (3:Int)≠0; decide⟩
 rw [if_neg h1,h]
 by_cases h2:takenA A b=true
 ·rw [h2]
  exact .inr ⟨rfl,rfl,by simpa using h1,rfl⟩
 ·have h2:takenA A b=false:=by simpa using h2
  rw [h2]; exact .inl ⟨rfl,by show (6:Int)≠0; decide⟩
theorem settle_give {A:Az} (h:A.W=[]) (b:Int):(settleA (giveA A b 0).1=A/\¬ ((spB A.s.geo b).2.2=true/\takenA A b=true))\/(settleA (giveA A b 0).1=actA (wrkA A []) (1,b)/\(spB A.s.geo b).2.2=true/\takenA A b=true):=by
 rcases giveA_W h b with ⟨e1,e2⟩ | ⟨e1,_,e3,e4⟩
 ·refine .inl ⟨?_,fun e=>e2 ?_⟩
  ·rw [e1]
   unfold settleA ripeA
   rw [h]
   show wrkA A []=A
   rw [<- h]; rfl
  ·unfold giveA laterA
   rw [if_neg (by rw [e.1]; decide),h,e.2]; rfl
 ·refine .inr ⟨?_,e3,e4⟩
  rw [e1]; rfl
theorem settle_s {A:Az} (h:A.W=[]) (b:Int):(settleA (giveA A b 0).1).s=A.s/\(settleA (giveA A b 0).1).V.last<=A.V.last+1/\(settleA (giveA A b 0).1).W=[]/\(settleA (giveA A b 0).1).fz=A.fz:=by
 rcases settle_give h b with ⟨e,_⟩ | ⟨e,_⟩
 ·rw [e]; exact ⟨rfl,by omega,h,rfl⟩
 ·rw [e]
  obtain ⟨h1,h2,h3,h4⟩:=actA_s (wrkA A []) (1,b)
  exact ⟨h1,h2,h3,h4⟩
theorem stepAb_s {A:Az} (h:A.W=[]) (x:Ab):(stepAb A x).s=A.s/\(stepAb A x).V.last<=A.V.last+1/\(stepAb A x).W=[]:=by
 unfold stepAb
 split
 ·obtain ⟨h1,h2,h3,_⟩:=blockA_s A x.2.1
  exact ⟨h1,h2,h3.trans h⟩
 split
 ·obtain ⟨h1,h2,h3,_⟩:=settle_s h x.2.1
  exact ⟨h1,h2,h3⟩
 split
 ·obtain ⟨h1,h2,h3⟩:=freezeA_s A x.2.1 x.2.2
  exact ⟨h1,by rw [h2]; omega,h3.trans h⟩
 ·exact ⟨rfl,by omega,h⟩
theorem openTo_s {A:Az} (h:A.W=[]) (acts:List Ab):∀ i,(openTo A acts i).s=A.s/\(openTo A acts i).V.last<=A.V.last+i/\(openTo A acts i).W=[]
 | 0=>⟨rfl,Nat.le_refl _,h⟩
 | i+1=>by
  obtain ⟨h1,h2,h3⟩:=openTo_s h acts i
  obtain ⟨k1,k2,k3⟩:=stepAb_s h3 (abAt acts i)
  exact ⟨k1.trans h1,by show (stepAb (openTo A acts i) (abAt acts i)).V.last<=_; omega,k3⟩
theorem elemN_abs:elemN Tryz.prog 41=some 3:=by kernel_rfl
section
variable {w w':World} {R R':Nat->Prop} {a v d:Nat} {A:Az} {K:Value->World->Prop}
theorem abRow {a1:Option Addr} {l1 c1 i:Nat} {acts:List Ab} (hr:Row w a1 (rowB acts)) (hl:acts.length=l1) (hi:i<l1) (h63:i<=1000):∃ q o,Al (Instr.indexAt 41 (.slice a1 l1 c1) (.int .i64 i)) (.pointer (some ⟨q,o,none⟩)) /\
  ∀ w',Mod No w w'->Ru (Instr.loadAt 3 (.pointer (some (Addr.add ⟨q,o,none⟩ 0)))) w' (.int .i64 (abAt acts i).1) w'/\Ru (Instr.loadAt 3 (.pointer (some (Addr.add ⟨q,o,none⟩ 1)))) w' (.int .i64 (abAt acts i).2.1) w'/\Ru (Instr.loadAt 4 (.pointer (some (Addr.add ⟨q,o,none⟩ 2)))) w' (.bool (abAt acts i).2.2) w':=by
 have hx:acts[i]?=some (abAt acts i):=by unfold abAt; rw [List.getD_eq_getElem?_getD,List.getElem?_eq_getElem (by omega)]; rfl
 have hlen:(rowB acts).length=acts.length*3:=flat_len' abV_len acts
 rcases hr with hr | ⟨b,o,rfl,hat⟩
 ·rw [hr] at hlen
  have hlen:0=acts.length*3:=hlen
  omega
 refine ⟨b,o+i*3,fun w'=>?_,fun w' m=>?_⟩
 ·have:=index_slice (P:=Tryz.prog) (T:=41) (k:=3) (a:=⟨b,o,none⟩) (n:=l1) (c:=c1) (kk:=.i64) (i:=i) elemN_abs (by omega) (by omega) w'
  rw [add_none,show o+(i:Int).toNat*3=o+i*3 by omega] at this
  exact this
 ·have hk:=hat.keep m id
  refine ⟨?_,?_,?_⟩
  ·rw [add_none,Nat.add_assoc]; exact hk.load (P:=Tryz.prog) (T:=3) (i:=i*3+0) sc_int (flat_cell abV_len hx rfl)
  ·rw [add_none,Nat.add_assoc]; exact hk.load (P:=Tryz.prog) (T:=3) (i:=i*3+1) sc_int (flat_cell abV_len hx rfl)
  ·rw [add_none,Nat.add_assoc]; exact hk.load (P:=Tryz.prog) (T:=4) (i:=i*3+2) sc_bl (flat_cell abV_len hx rfl)
set_option maxRecDepth 8000 in
set_option maxHeartbeats 1000000 in
theorem open31_c {g:Gm} {a1:Option Addr} {l1 c1:Nat} {acts:List Ab} (hr:Row w a1 (rowB acts)) (hl:acts.length=l1) (h63:∀ x∈acts,x.2.1<=9223372036854775807)
  (hk:∀ w' R a v d k,Mod No w w'->Ao R w' a v d (openA g acts k)->(∀ z,R z->w.heap.size<=z)->K (.pointer (some ⟨a,0,none⟩)) w') :
  Cal Tryz.prog F_leveelaw31_open #[.agg ⟨gV g⟩,.slice a1 l1 c1] w K:=by
 apply C_leveelaw31_open
 unfold D_leveelaw31_open
 obtain ⟨w1,b1,b2,b3,b4⟩:=box_u (P:=Tryz.prog) (w:=w) (T:=40) (cs:=gV g)
 obtain ⟨hok,h200⟩:=gE_ok g
 obtain ⟨hsz,h18⟩:=gE_sz g
 refine ⟨_,w1,b1,Share.cut (fun z w4=>Mod No w1 w4/\z=[.bool (decide (¬ (gOk g=true/\gSize g<=200)))]) ⟨_,b2.at.all agg_geo rfl,rgRight_c fun w2 m2=>⟨_,rfl,cond_of (fun h=>⟨m2,?_⟩) (fun h=>⟨_,(b2.keep m2 id).at.all agg_geo rfl,rgSize_c fun w3 m3=>⟨_,rfl,m2.no m3,?_⟩⟩)⟩⟩ ?_⟩
 ·rw [decide_eq_true (show ¬ (gOk g=true/\gSize g<=200) from fun e=>by rw [e.1] at h; cases h)]
 ·have h:gOk g=true:=by simpa using h
  congr 2
  exact decide_eq_decide.2 ⟨fun e x=>by omega,fun e=>by
   have:¬ gSize g<=200:=fun x=>e ⟨h,x⟩
   omega⟩
 rintro z w4 ⟨m4,rfl⟩
 refine ⟨_,rfl,Share.cut (fun z w6=>Mod No w w6/\AtU w6 w.heap.size 0 (gV (gE g))) ?_ ?_⟩
 ·refine cond_of (fun h=>⟨_,build_g16,?_⟩) (fun h=>?_)
  ·have h:=of_decide_eq_true h
   have e:gE g=gKn:=by unfold gE; rw [if_neg h]
   obtain ⟨w5,c1,c2,c3,c4⟩:=(b2.keep m4 id).put (T:=40) (vs:=gV gKn) agg_geo rfl rfl (one_gV _)
   rw [e]
   exact ⟨w5,c1,(b3.no m4).own c3 (Nat.le_refl _),c2⟩
  ·have h:=Classical.not_not.1 (of_decide_eq_false h)
   have e:gE g=g:=by unfold gE; rw [if_pos h]
   rw [e]
   exact ⟨b3.no m4,b2.keep m4 id⟩
 rintro z w6 ⟨m6,q6⟩
 refine ⟨_,q6.at.all agg_geo rfl,rgSize_c fun w7 m7=>⟨_,rfl,?_⟩⟩
 have hz6:=m6.size
 have hz7:=m7.size
 have hql:=q6.lt
 refine New_c (by omega) (by omega) (fun h=>by omega) fun k hk' _ _ w8 d sb mb m8 hD=>⟨_,_,rfl,_,((q6.keep m7 id).keep m8 id).at.all agg_geo rfl,?_⟩
 have hkn:(gSize (gE g)).toNat=k:=by omega
 have hz8:=m8.size
 have q8:=(q6.keep m7 id).keep m8 id
 have hfE:fmtE (newSt k) (gE g)=0:=by
  unfold fmtE
  rw [if_neg (by rw [hok]; decide),if_neg (by simp [newSt]; omega)]
 have eD:dE g=fmtSt (newSt k) (gE g):=by unfold dE; rw [hkn]
 have hlen:(dE g).vs.length=k:=by rw [eD,fmtSt_len]; simp [newSt]
 have hrun:(dE g).left=-1:=by rw [eD]; exact fmtSt_run rfl _
 have hbnd:Bnd (dE g) 1:=by rw [eD]; exact fmtSt_bnd rfl _
 refine vFormat_c (g:=gE g) hD rfl (bndN k) (fun h=>absurd hfE h) fun _ wa Na w11 ma Xa=>⟨_,rfl,?_⟩
 rw [<- eD] at Xa
 have hza:=ma.size
 have hXs:=Xa.mod.size
 obtain ⟨Ra,sba,mba,sca,La,a1',a2',a3',a4'⟩:=Xa
 have hRa:∀ x,Ra x->w7.heap.size<=x/\x<w11.heap.size:=fun x hx=>by
  have:=(a2' x hx).2
  rcases (a2' x hx).1 with e | e
  ·have e:w7.heap.size<=x/\x<w8.heap.size:=e
   omega
  ·omega
 have M8:Mod No w w8:=(m6.no m7).no m8
 have M11:Mod No w w11:=(M8.no ma).trans a3' fun x hx e=>by have e:w7.heap.size<=x/\x<w8.heap.size:=e; omega
 have hsm:Small (dE g):=BndS hbnd (by omega)
 have hdR:=a1'.rb
 have hm:=mnt_E g
 refine vMount_c (w0:=w) a1' hsm (fun x hx=>⟨by have:=hRa x hx; omega,a1'.lt x hx⟩) M11 hrun (fun h=>absurd (by rw [hm]) h) fun _ w13 N13 v X13=>⟨_,_,rfl,?_⟩
 rw [hm] at X13
 have X13:Vg w11 Ra N13 w13 v d ⟨1,gE g⟩ (dE g) (nE g):=X13
 have hz13:=X13.mod.size
 have M13:Mod No w w13:=M11.trans X13.mod fun x hx e=>by have:=hRa x e; omega
 refine ff rfl ?_
 obtain ⟨Rv,kc,hV,hlo⟩:=X13.vu
 refine aNew_c hV (hds_E g kc) fun w16 R16 a m16 s16 h16 ha=>⟨_,rfl,?_⟩
 have hlo16:∀ z,R16 z->w.heap.size<=z:=fun z hz=>by
  have hda:=hRa d hdR
  rcases s16 z hz with e | e
  ·rcases hlo z e with e | e | e
   ·have:=hRa z e; omega
   ·omega
   ·omega
  ·omega
 have M16:=M13.no m16
 have h16:Ao R16 w16 a v d (openTo (aE g (hsE g) kc) acts 0):=h16
 refine ⟨fun x W=>∃ (i:Nat) (y1 y2 y3:Value) (R':Nat->Prop),x=[.int .i64 i,y1,y2,y3]/\i<=min acts.length 80/\Ao R' W a v d (openTo (aE g (hsE g) kc) acts i)/\(∀ z,R' z->w.heap.size<=z)/\Mod No w W,fun x _=>(80-nI x 0).toNat,
  ⟨0,_,_,_,R16,rfl,Nat.zero_le _,h16,hlo16,M16⟩,?_⟩
 rintro x W ⟨i,y1,y2,y3,R',rfl,hi,h1,lo1,m1⟩
 refine Share.cut (fun z w13=>w13=W/\z=[.bool (decide (i<min acts.length 80))]) ⟨_,rfl,cond_of (fun hb=>⟨rfl,?_⟩) (fun hb=>⟨rfl,?_⟩)⟩ ?_
 ·have hb:=of_decide_eq_true hb
  congr 2
  exact decide_eq_decide.2 ⟨fun e=>by omega,fun e=>by omega⟩
 ·have hb:=of_decide_eq_false hb
  rw [decide_eq_false (show ¬ i<min acts.length 80 by omega)]
 rintro z w13 ⟨rfl,rfl⟩
 refine ⟨_,rfl,cond_of (fun hlt=>?_) (fun hlt=>?_)⟩
 ·have hlt:=of_decide_eq_true hlt
  obtain ⟨q,o,ix,ld⟩:=abRow (i:=i) (c1:=c1) hr hl (by omega) (by omega)
  have hin:abAt acts i∈acts:=by
   have:acts[i]?=some (abAt acts i):=by unfold abAt; rw [List.getD_eq_getElem?_getD,List.getElem?_eq_getElem (by omega)]; rfl
   exact List.mem_of_getElem? this
  have hb63:=h63 _ hin
  obtain ⟨s1,s2,s3⟩:=openTo_s (A:=aE g (hsE g) kc) rfl acts i
  have s2:(openTo (aE g (hsE g) kc) acts i).V.last<=0+i:=s2
  have eT:openTo (aE g (hsE g) kc) acts (i+1)=stepAb (openTo (aE g (hsE g) kc) acts i) (abAt acts i):=rfl
  generalize abAt acts i=y at *
  generalize openTo (aE g (hsE g) kc) acts i=A1 at *
  refine ⟨_,rfl,_,ix,_,(ld _ m1).1,Share.cut (fun z w16=>w16=w13/\z=[.bool (decide (0<=y.1/\y.1<=3))]) ?_ ?_⟩
  ·refine cond_of (fun e=>⟨rfl,?_⟩) (fun e=>Share.cut (fun z w16=>w16=w13/\z=[.bool (decide (0<=y.1/\y.1<=3))]) (cond_of (fun e2=>⟨rfl,?_⟩) (fun e2=>Share.cut (fun z w16=>w16=w13/\z=[.bool (decide (0<=y.1/\y.1<=3))]) (cond_of (fun e3=>⟨rfl,?_⟩) (fun e3=>⟨rfl,?_⟩)) ?_)) ?_)
   ·have e':y.1=0:=by simpa using e
    rw [e,decide_eq_true (show 0<=y.1/\y.1<=3 by omega)]
   ·have e':y.1=1:=by simpa using e2
    rw [e2,decide_eq_true (show 0<=y.1/\y.1<=3 by omega)]
   ·have e':y.1=2:=by simpa using e3
    rw [e3,decide_eq_true (show 0<=y.1/\y.1<=3 by omega)]
   ·have e:¬ y.1=0:=by simpa using e
    have e2:¬ y.1=1:=by simpa using e2
    have e3:¬ y.1=2:=by simpa using e3
    congr 2
    rw [Bool.eq_iff_iff,beq_iff_eq,decide_eq_true_iff]; omega
   ·rintro z w16 ⟨rfl,rfl⟩; exact ⟨rfl,rfl⟩
   ·rintro z w16 ⟨rfl,rfl⟩; exact ⟨rfl,rfl⟩
  rintro z w16 ⟨rfl,rfl⟩
  have base:∀ {w17:World} {R17:Nat->Prop},Mod R' w16 w17->Sb R' R17 w16->(∀ z,R17 z->w.heap.size<=z)/\Mod No w w17:=fun m s=>⟨fun z hz=>by
   rcases s z hz with e | e
   ·exact lo1 z e
   ·have:=m1.size; omega,m1.trans m fun x hx e=>by have:=lo1 x e; omega⟩
  refine ⟨_,rfl,Share.cut (fun z w24=>∃ (y4:Value) (R':Nat->Prop),z=[y4]/\Ao R' w24 a v d (stepAb A1 y)/\(∀ z,R' z->w.heap.size<=z)/\Mod No w w24) ?_ ?_⟩
  ·refine cond_of (fun hc=>⟨_,ix,_,(ld _ m1).2.1,?_⟩) (fun hc=>?_)
   ·have eS:stepAb A1 y=(blockA A1 y.2.1).1:=by unfold stepAb; rw [if_pos (of_decide_eq_true hc)]
    rw [eS]
    refine aBlock_c hb63 h1 (by omega) fun w17 R17 m17 s17 h17=>⟨_,_,_,rfl,?_⟩
    obtain ⟨k1,k2⟩:=base m17 s17
    exact ⟨_,R17,rfl,h17,k1,k2⟩
   have hc:=of_decide_eq_false hc
   refine Share.cut (fun z w18=>w18=w16/\z=[.bool (decide (y.1=4\/y.1=5))]) (cond_of (fun e=>⟨rfl,?_⟩) (fun e=>⟨rfl,?_⟩)) ?_
   ·have e':y.1=4:=by simpa using e
    rw [e,decide_eq_true (Or.inl e')]
   ·have e':¬ y.1=4:=by simpa using e
    congr 2
    rw [Bool.eq_iff_iff,beq_iff_eq,decide_eq_true_iff]; omega
   rintro z w18 ⟨rfl,rfl⟩
   refine ⟨_,rfl,Share.cut (fun z w23=>z=[]/\∃ (R':Nat->Prop),Ao R' w23 a v d (stepAb A1 y)/\(∀ z,R' z->w.heap.size<=z)/\Mod No w w23) (cond_of (fun he=>⟨_,ix,_,(ld _ m1).2.1,?_⟩) (fun he=>?_)) ?_⟩
   ·have he:=of_decide_eq_true he
    have eS:stepAb A1 y=settleA (giveA A1 y.2.1 0).1:=by unfold stepAb; rw [if_neg hc,if_pos he]
    rw [eS]
    refine aFreeB_c hb63 h1 (by rw [s3]; decide) fun w19 R19 m19 s19 h19=>⟨_,rfl,?_⟩
    have hWl:(giveA A1 y.2.1 0).1.W.length<=1/\(∀ x∈(giveA A1 y.2.1 0).1.W,x.2.2<=9223372036854775807)/\(giveA A1 y.2.1 0).1.V.last=A1.V.last:=by
     rcases giveA_W s3 y.2.1 with ⟨e1,_⟩ | ⟨e1,_⟩
     ·rw [e1,s3]; exact ⟨by decide,(fun x hx=>by cases hx),rfl⟩
     ·rw [e1]
      refine ⟨Nat.le_refl _,fun x hx=>?_,rfl⟩
      have:x=(0,1,y.2.1):=by simpa [wrkA] using hx
      rw [this]; exact hb63
    refine aSettle_c h19 (by omega) hWl.2.1 (by omega) fun w20 R20 m20 s20 h20=>⟨_,rfl,rfl,R20,h20,?_⟩
    exact base (Mod.sb m19 s19 m20) (s19.trans s20 m19.size)
   ·have he:=of_decide_eq_false he
    refine Share.cut (fun z w23=>z=[]/\∃ (R':Nat->Prop),Ao R' w23 a v d (stepAb A1 y)/\(∀ z,R' z->w.heap.size<=z)/\Mod No w w23) (cond_of (fun hf=>⟨_,ix,_,(ld _ m1.drew).2.1,_,ix,_,(ld _ m1.drew).2.2,?_⟩) (fun hf=>?_)) ?_
    ·have hf:y.1=6:=by simpa using hf
     have eS:stepAb A1 y=(freezeA A1 y.2.1 y.2.2).1:=by unfold stepAb; rw [if_neg hc,if_neg he,if_pos hf]
     rw [eS]
     refine aFreeze_c (h1.nos (Mod.refl _ _).drew) fun w21 R21 m21 s21 h21=>⟨_,rfl,rfl,R21,h21,?_⟩
     exact base ((((Mod.refl No w18).drew).mono fun _ _ e=>e.elim).trans m21 fun x _ e=>e) s21
    ·have hf:¬ y.1=6:=by simpa using hf
     have eS:stepAb A1 y=A1:=by unfold stepAb; rw [if_neg hc,if_neg he,if_neg hf]
     rw [eS]
     exact ⟨rfl,R',h1,lo1,m1⟩
    ·rintro z w22 ⟨rfl,hz⟩
     exact ⟨rfl,hz⟩
   ·rintro z w23 ⟨rfl,R'',k1,k2,k3⟩
    exact ⟨_,R'',rfl,k1,k2,k3⟩
  ·rintro z w24 ⟨y4,R'',rfl,k1,k2,k3⟩
   rw [wrap64 (x:=(i:Int)+1) (by omega) (by omega)]
   exact ⟨⟨i+1,_,_,_,R'',rfl,by omega,by rw [eT]; exact k1,k2,k3⟩,by simp [nI,nth]; omega⟩
 ·have hlt:=of_decide_eq_false hlt
  have:i=min acts.length 80:=by omega
  subst this
  exact hk w13 R' a v d kc m1 h1 lo1
end
end Go.Proofs.YtelhlihjihklbaaGreat
end
section
open Go Go.Den Go.Proofs
namespace Go.Proofs.YtelhlihjihklbaaGreat
def gK1:Gm:=⟨16,8,1⟩
def fF:Int->Bool:=fun _=>false
def hJ0:List Hd:=[hBase gK1 0]
def hJ1:List Hd:=hJ0.set 0 (useX true gK1 (hJ0.getD 0 hZ) 9 true).1
def bJ (hs:List Hd):Az:=⟨⟨1,gK1⟩,⟨⟨newSt 0,0,[]⟩,0,[]⟩,[],0,hs,fF⟩
theorem gE_1:gE gK1=gK1:=by decide
theorem hsE_1:hsE gK1=hJ0:=by unfold hsE; rw [gE_1]; rfl
theorem allJ0:allA (bJ hJ0)=[(5,13)]:=by decide +kernel
theorem allJ1:allA (bJ hJ1)=[(5,6),(12,6)]:=by decide +kernel
theorem scJ0:scoreL [(5,13)]=0:=by decide +kernel
theorem scJ1:scoreL [(5,6),(12,6)]=500:=by decide +kernel
theorem tkJ:takeTo gK1 hJ0 fF (findX true gK1) (spB gK1 10).1 (spB gK1 10).2.1 (spB gK1 10).2.2 gK1.gs.toNat=some (0,9):=by decide +kernel
theorem allJ {s:Sp} (e:s.geo=gK1) (V:Ps) (W:List Wt) (nx:Int) (hs:List Hd):allA ⟨s,V,W,nx,hs,fF⟩=allA (bJ hs) :=
 allA_congr (A:=bJ hs) e rfl (by show gOk gK1=true; decide) fun k j _ _ _=>by unfold takenA; rw [show (⟨s,V,W,nx,hs,fF⟩:Az).s.geo=(bJ hs).s.geo from e]; rfl
theorem build_g1 (w:World):(Instr.build 40 #[(0,.int .i64 16),(1,.int .i64 8),(2,.int .i64 1)]).run Tryz.prog w=.ok (.agg ⟨gV gK1⟩) w:=by kernel_rfl
section
variable {w:World} {K:Value->World->Prop}
set_option maxRecDepth 8000 in
theorem known31_c (hk:∀ w',Mod No w w'->K (.bool true) w'):Cal Tryz.prog F_leveelaw31_known #[] w K:=by
 apply C_leveelaw31_known
 unfold D_leveelaw31_known
 refine ⟨_,build_g1,open31_c (acts:=[]) (.inl rfl) rfl (fun x hx=>by cases hx) fun w1 R a v d k m1 h1 hlo=>⟨_,rfl,ff rfl ?_⟩⟩
 have eA:openA gK1 [] k=⟨⟨1,gK1⟩,⟨⟨dE gK1,k,[]⟩,0,[]⟩,[],nE gK1,hJ0,fF⟩:=by
  show aE gK1 (hsE gK1) k=_
  unfold aE
  rw [hsE_1,gE_1]; rfl
 rw [eA] at h1
 generalize nE gK1=nx at h1
 generalize dE gK1=D at h1
 have base:∀ {w2:World} {R2:Nat->Prop} {w3:World},Mod No w w2->Mod R2 w2 w3->(∀ z,R2 z->w.heap.size<=z)->Mod No w w3:=fun h1 h2 h3=>h1.trans h2 fun x hx e=>by have:=h3 x e; omega
 have up:∀ {R2 R3:Nat->Prop} {w2:World},Sb R2 R3 w2->w.heap.size<=w2.heap.size->(∀ z,R2 z->w.heap.size<=z)->∀ z,R3 z->w.heap.size<=z:=fun h1 h2 h3 z hz=>by
  rcases h1 z hz with e | e
  ·exact h3 z e
  ·omega
 have a0:allA ⟨⟨1,gK1⟩,⟨⟨D,k,[]⟩,0,[]⟩,[],nx,hJ0,fF⟩=[(5,13)]:=(allJ rfl _ _ _ _).trans allJ0
 refine planAll_c h1 fun w2 R2 p2 c2 m2 s2 h2 o2=>⟨_,_,_,rfl,score_c h2 fun w3 R3 m3 s3 h3=>⟨_,rfl,?_⟩⟩
 rw [a0] at o2 |-
 rw [scJ0]
 have M2:=base m1 m2 hlo
 have L2:=up s2 m1.size hlo
 have M3:=base M2 m3 L2
 have L3:=up s3 M2.size L2
 refine aBlock_c (by omega) h3 (by show 0+1<=1000000; omega) fun w4 R4 m4 s4 h4=>⟨_,_,_,rfl,?_⟩
 have e4:blockA ⟨⟨1,gK1⟩,⟨⟨D,k,[]⟩,0,[]⟩,[],nx,hJ0,fF⟩ 10=(sethA ⟨⟨1,gK1⟩,⟨⟨D,k,[]⟩,0,[]⟩,[],nx,hJ0,fF⟩ 0 (useX true gK1 (hJ0.getD 0 hZ) 9 true).1,11,1,0):=by
  unfold blockA
  rw [tkJ]; rfl
 rw [e4] at h4
 have M4:=base M3 m4 L3
 have L4:=up s4 M3.size L3
 obtain ⟨V4,hV4⟩:∃ V4,sethA ⟨⟨1,gK1⟩,⟨⟨D,k,[]⟩,0,[]⟩,[],nx,hJ0,fF⟩ 0 (useX true gK1 (hJ0.getD 0 hZ) 9 true).1=⟨⟨1,gK1⟩,V4,[],nx,hJ1,fF⟩:=⟨_,rfl⟩
 rw [hV4] at h4
 have a1:allA ⟨⟨1,gK1⟩,V4,[],nx,hJ1,fF⟩=[(5,6),(12,6)]:=(allJ rfl _ _ _ _).trans allJ1
 refine planAll_c h4 fun w5 R5 p5 c5 m5 s5 h5 o5=>⟨_,_,_,rfl,?_⟩
 rw [a1] at o5 |-
 have M5:=base M4 m5 L4
 have L5:=up s5 M4.size L4
 have n2:∀ q,p2=some q->¬ R2 q.block/\w1.heap.size<=q.block/\q.block<w2.heap.size:=fun q hq=>⟨o2.nr q hq,(o2.ow.base hq).1,(o2.ow.base hq).2⟩
 have z2:=m2.size
 have z3:=m3.size
 have z4:=m4.size
 have hx3:=o2.ow.keep m3 fun q hq=>(n2 q hq).1
 have n3:∀ q,p2=some q->¬ R3 q.block:=fun q hq e=>by
  have:=n2 q hq
  rcases s3 _ e with e | e
  ·exact this.1 e
  ·omega
 have n4:∀ q,p2=some q->¬ R4 q.block:=fun q hq e=>by
  have:=n2 q hq
  rcases s4 _ e with e | e
  ·exact n3 q hq e
  ·omega
 have hx5:=(hx3.keep m4 n3).keep m5 n4
 obtain ⟨g,rfl,_,hat,ix,_,ld1,ld2⟩:=runAt (i:=0) (x:=(5,13)) hx5 rfl
 obtain ⟨g',hg',_,hat',ix',_,_,ld4⟩:=runAt (i:=0) (x:=(5,6)) o5.ow rfl
 obtain ⟨g'',hg'',_,_,ix'',_,ld5,ld6⟩:=runAt (i:=1) (x:=(12,6)) o5.ow rfl
 subst hg'
 cases hg''
 refine Share.dup (tt rfl ⟨_,ix,_,ld1 _ hat.at,tt rfl ⟨_,ix,_,ld2 _ hat.at,tt rfl (tt rfl (tt rfl ⟨_,ix',_,ld4 _ hat'.at,tt rfl ⟨_,ix'',_,ld5 _ hat'.at,tt rfl ⟨_,ix'',_,ld6 _ hat'.at,tt rfl ?_⟩⟩⟩))⟩⟩)
 refine score_c h5 fun w6 R6 m6 s6 h6=>⟨_,rfl,_,rfl,?_⟩
 rw [a1,scJ1]
 exact hk w6 (base M5 m6 L5)
end
end Go.Proofs.YtelhlihjihklbaaGreat
end
section
open Go Go.Den Go.Proofs
namespace Go.Proofs.YtelhlihjihklbaaGreat
def frV (x:Fr):List Value:=[.int .i64 x.1,.bool x.2.1,.bool x.2.2]
theorem frV_len (x:Fr):(frV x).length=3:=rfl
theorem frV_one (x:Fr):∀ v∈frV x,v.oneCell'=true:=by intro v hv; simp [frV] at hv; rcases hv with rfl | rfl | rfl <;> rfl
def rowF (L:List Fr):List Value:=(L.map frV).flatten
theorem rowF_app (L M:List Fr):rowF (L++M)=rowF L++rowF M:=by simp [rowF]
theorem rowF_one (L:List Fr):∀ v∈rowF L,v.oneCell'=true:=flat_one frV_one L
theorem rowF_len (L:List Fr):(rowF L).length=L.length*3:=flat_len' frV_len L
theorem elemG_fr:elemG Tryz.prog 54 3 16:=elemG_of (by kernel_rfl)
theorem elemN_fr:elemN Tryz.prog 54=some 3:=by kernel_rfl
theorem elemG_rr:elemG Tryz.prog 43 2 16:=elemG_of (by kernel_rfl)
theorem elemN_rr:elemN Tryz.prog 43=some 2:=by kernel_rfl
theorem agg_rr:aggN Tryz.prog 49=some 2:=by kernel_rfl
theorem zero_rr:zeroC Tryz.prog 49=some (acV (0,0)):=by kernel_rfl
theorem build_rr0:Al (Instr.build 49 #[]) (.agg ⟨acV (0,0)⟩):=fun w=>by kernel_rfl
theorem build_rr (x y:Int):Al (Instr.build 49 #[(0,.int .i64 x),(1,.int .i64 y)]) (.agg ⟨acV (x,y)⟩):=fun w=>by kernel_rfl
theorem built_rr (w:World) (x:Int×Int):(Instr.buildSlice 43 1 #[(0,.agg ⟨acV x⟩)]).run Tryz.prog w=.ok (.slice (some ⟨w.heap.size,0,none⟩) 1 1) (w.alloc (.cells ⟨acV x⟩ 49)):=by kernel_rfl
theorem build_fr (x:Int) (y z:Bool):Al (Instr.build 147 #[(0,.int .i64 x),(1,.bool y),(2,.bool z)]) (.agg ⟨frV (x,y,z)⟩):=fun w=>by kernel_rfl
theorem built_fr (w:World) (x:Fr):(Instr.buildSlice 54 1 #[(0,.agg ⟨frV x⟩)]).run Tryz.prog w=.ok (.slice (some ⟨w.heap.size,0,none⟩) 1 1) (w.alloc (.cells ⟨frV x⟩ 147)):=by kernel_rfl
theorem rfRuns_ok (F:List Fr):∀ i,(rfRuns F i).length<=i/\(0<i->(fAt F (i-1)).2.1=true->0<(rfRuns F i).length)/\∀ x∈rfRuns F i,1<=x.2/\x.2<=i
 | 0=>⟨Nat.le_refl _,fun h=>by omega,fun x hx=>by cases hx⟩
 | i+1=>by
  obtain ⟨h1,h2,h3⟩:=rfRuns_ok F i
  have e:rfRuns F (i+1)=if (fAt F i).2.1=false then rfRuns F i else if 0<i/\(fAt F (i-1)).2.1=true/\(fAt F i).2.2=false then incL (rfRuns F i) else rfRuns F i++[((fAt F i).1,1)]:=rfl
  rw [e,Nat.add_sub_cancel]
  split
  ·rename_i h
   exact ⟨by omega,(fun _ e=>by rw [h] at e; cases e),fun x hx=>by have:=h3 x hx; omega⟩
  split
  ·rename_i h4
   refine ⟨by rw [incL_len]; omega,fun _ _=>by rw [incL_len]; exact h2 h4.1 h4.2.1,fun x hx=>?_⟩
   obtain ⟨m,y,e⟩:=snoc_of (h2 h4.1 h4.2.1)
   rw [e,incL_snoc] at hx
   rw [e] at h3
   rcases List.mem_append.1 hx with hx | hx
   ·have:=h3 x (List.mem_append_left _ hx); omega
   ·have hx:x=(y.1,y.2+1):=by simpa using hx
    have:=h3 y (by simp)
    subst hx; simp only; omega
  ·refine ⟨by simp; omega,fun _ _=>by simp,fun x hx=>?_⟩
   rcases List.mem_append.1 hx with hx | hx
   ·have:=h3 x hx; omega
   ·have hx:x=((fAt F i).1,1):=by simpa using hx
    subst hx; simp only; omega
section
variable {w w':World} {R R':Nat->Prop} {a v d:Nat} {A:Az} {K:Value->World->Prop}
theorem rgRange_c {g:Gm} {k:Int} (hk:∀ w',Mod No w w'->K (.tuple #[.int .i64 (gRange g k).1,.int .i64 (gRange g k).2]) w'):Cal Tryz.prog F_leveeref03_Range #[.agg ⟨gV g⟩,.int .i64 k] w K:=by
 apply C_leveeref03_Range
 unfold D_leveeref03_Range
 obtain ⟨w1,b1,b2,b3,b4⟩:=box_u (P:=Tryz.prog) (w:=w) (T:=40) (cs:=gV g)
 refine ⟨_,w1,b1,Share.cut (fun z w3=>z=[.bool (decide ((gHead g k).2≠0))]/\Mod No w1 w3) ⟨_,b2.at.all agg_geo rfl,rgRight_c fun w2 m2=>⟨_,rfl,cond_of (fun h=>⟨?_,m2⟩) (fun h=>cond_of (fun h1=>⟨?_,m2⟩) (fun h1=>⟨_,(b2.keep m2 id).at.fld (v:=.int .i64 g.gs) sc_int rfl,?_,m2⟩))⟩⟩ ?_⟩
 ·have h:¬ gOk g=true:=by simpa using h
  have e:gHead g k=(0,1):=by unfold gHead; rw [if_neg h]
  rw [e]; rfl
 ·have h:gOk g=true:=by simpa using h
  have h1:=of_decide_eq_true h1
  have e:gHead g k=(0,3):=by unfold gHead; rw [if_pos h,if_neg (by omega)]
  rw [e]; rfl
 ·have h:gOk g=true:=by simpa using h
  have h1:=of_decide_eq_false h1
  by_cases h2:k<g.gs
  ·have e:gHead g k=(2+k*g.gr,0):=by unfold gHead; rw [if_pos h,if_pos ⟨by omega,h2⟩]
   rw [e,decide_eq_false (by omega)]; rfl
  ·have e:gHead g k=(0,3):=by unfold gHead; rw [if_pos h,if_neg (by omega)]
   rw [e,decide_eq_true (by omega)]; rfl
 rintro z w3 ⟨rfl,m3⟩
 refine ⟨_,rfl,cond_of (fun h=>?_) (fun h=>?_)⟩
 ·have h:=of_decide_eq_true h
  have e:gRange g k=(0,0):=by unfold gRange; rw [if_pos h]
  rw [e] at hk
  exact hk w3 (b3.no m3)
 ·have h:=Classical.not_not.1 (of_decide_eq_false h)
  obtain ⟨hg,k0,k1,_⟩:=gHead_ok h
  obtain ⟨j,rfl⟩:=Int.eq_ofNat_of_zero_le k0
  have e:=gRange_at hg k1
  obtain ⟨g1,g2,g3,g4,g5,g6,_⟩:=gOk_iff.1 hg
  have hp:=prodB (a:=(j:Int)) (b:=g.gr) (m:=16) (n:=128) (by omega) (by omega) (by omega) (by omega)
  have hm:((j:Int)+1)*g.gr=j*g.gr+g.gr:=by rw [Int.add_mul,Int.one_mul]
  rw [e] at hk
  have ht:=gTabs_eq hg
  have q:=(b2.keep m3 id).drew
  refine ⟨_,q.at.fld (v:=.int .i64 g.gr) sc_int rfl,_,q.at.fld (v:=.int .i64 g.no) sc_int rfl,_,q.at.fld (v:=.int .i64 g.gr) sc_int rfl,?_⟩
  rw [Int.tdiv_eq_ediv_of_nonneg (show 0<=g.no by omega),<- ht]
  rw [wrap64 (x:=(j:Int)*g.gr) (by omega) (by omega),wrap64 (x:=(j:Int)+1) (by omega) (by omega),hm,wrap64 (x:=2+(j:Int)*g.gr) (by omega) (by omega),wrap64 (x:=2+(j:Int)*g.gr+1) (by omega) (by omega),
   wrap64 (x:=gTabs g) (by omega) (by omega),wrap64 (x:=2+(j:Int)*g.gr+1+gTabs g) (by omega) (by omega),wrap64 (x:=(j:Int)*g.gr+g.gr) (by omega) (by omega),wrap64 (x:=2+((j:Int)*g.gr+g.gr)) (by omega) (by omega),<- Int.add_assoc 2]
  exact hk _ (b3.no m3).drew
set_option maxRecDepth 4000 in
theorem lFree_c {k:Int} (h:Ao R w a v d A) (hk:∀ w' R' p c,Mod R w w'->Sb R R' w->Ao R' w' a v d A->Ow Tryz.prog w' w.heap.size 54 3 p (freeR A k).length c (rowF (freeR A k))->(∀ q,p=some q->¬ R' q.block)->K (.slice p (freeR A k).length c) w') :
  Cal Tryz.prog F_leveelaw31_free #[.pointer (some ⟨a,0,none⟩),.int .i64 k] w K:=by
 apply C_leveelaw31_free
 unfold D_leveelaw31_free
 have hda:=h.dlt
 refine aVol_c h ⟨_,rfl,aGeo_c h fun w2 m2=>⟨_,rfl,rgRange_c fun w3 m3=>⟨_,_,rfl,?_⟩⟩⟩
 have hb:=gRange_b (g:=A.s.geo) (k:=k)
 have hn:(gRange A.s.geo k).2=(gRange A.s.geo k).1+(cntG A.s.geo k:Int):=by unfold cntG; omega
 have eR:freeR A k=rfFree A (gRange A.s.geo k).1 (cntG A.s.geo k):=rfl
 rw [eR] at hk
 rw [hn]
 have hb2:(cntG A.s.geo k:Int)<=128:=by omega
 generalize cntG A.s.geo k=n at *
 generalize (gRange A.s.geo k).1=f at *
 have m23:=m2.no m3
 refine ⟨fun x W=>∃ (i c:Nat) (p:Option Addr) (R':Nat->Prop),x=[.slice p (rfFree A f i).length c,.int .i64 (f+i)]/\i<=n/\Ao R' W a v d A/\Sb R R' w/\Mod R w W/\Ow Tryz.prog W w.heap.size 54 3 p (rfFree A f i).length c (rowF (rfFree A f i))/\(∀ q,p=some q->¬ R' q.block),fun x _=>(f+n-nI x 1).toNat,
  ⟨0,0,none,R,by rw [show f+((0:Nat):Int)=f by omega]; rfl,Nat.zero_le _,h.nos m23,Sb.refl _ _,m23.mono (fun _ _ e=>e.elim),Ow.nilG elemG_fr,fun _ e=>by cases e⟩,?_⟩
 rintro x W ⟨i,c,p,R',rfl,hi,h1,s1,m1,o1,hp⟩
 refine ⟨_,rfl,cond_of (fun hlt=>⟨_,_,_,rfl,?_⟩) (fun hlt=>?_)⟩
 ·have hlt:=of_decide_eq_true hlt
  have zW:=m1.size
  have hl:=rfFree_len A f i
  have e1:rfFree A f (i+1)=rfFree A f i++[(f+(i:Int),!takenA A (f+i),decide (i=0))]:=rfl
  refine aTaken_c (by omega) h1 fun w5 R5 m5 s5 h5=>⟨_,rfl,?_⟩
  have o5:=o1.keep m5 fun q hq=>hp q hq
  have hp5:∀ q,p=some q->¬ R5 q.block:=fun q hq e=>by
   rcases s5 _ e with e | e
   ·exact hp q hq e
   ·have:=(o1.base hq).2; omega
  have z5:=m5.size
  have hbe:(f+(i:Int)==f)=decide (i=0):=by
   rw [Bool.eq_iff_iff,beq_iff_eq,decide_eq_true_iff]; omega
  rw [hbe]
  obtain ⟨q,c',w8,run,o8,m8,hq⟩:=snocG (T:=54) (Te:=147) (ys:=frV (f+(i:Int),!takenA A (f+i),decide (i=0))) elemG_fr (by omega) o5 rfl (frV_one _) (by omega) (by omega) (by omega)
  refine ⟨_,build_fr _ _ _,_,_,_,_,built_fr _ _,_,_,_,w8,run,?_⟩
  rw [wrap64 (x:=f+(i:Int)+1) (by omega) (by omega)]
  refine ⟨⟨i+1,c',some q,R5,?_,by omega,?_,s1.trans s5 zW,?_,?_,fun q' hq'=>?_⟩,by simp [nI,nth]; omega⟩
  ·rw [e1,List.length_append,show f+((i+1:Nat):Int)=f+(i:Int)+1 by omega]; rfl
  ·refine h5.keep m8 (fun z hz e=>?_) fun z e=>?_
   ·obtain ⟨q',hq',rfl⟩:=e
    exact hp5 q' hq' hz
   ·obtain ⟨q',hq',rfl⟩:=e
    have:=(o5.base hq').1; omega
  ·refine (Mod.sb m1 s1 m5).trans m8 fun z hz e=>?_
   obtain ⟨q',hq',rfl⟩:=e
   have:=(o5.base hq').1; omega
  ·rw [e1,List.length_append,rowF_app]; exact o8
  ·cases hq'
   rcases hq with ⟨q',hq',e⟩ | e
   ·rw [e]; exact hp5 q' hq'
   ·intro hz; have:=h5.lt _ hz; omega
 ·have hlt:=of_decide_eq_false hlt
  have:i=n:=by omega
  subst this
  exact ⟨_,_,_,rfl,hk W R' p c m1 s1 h1 o1 hp⟩
theorem plFree_len (A:Az):∀ k,(plFree A k).length<=128*k
 | 0=>Nat.le_refl _
 | k+1=>by
  show (if A.fz k=true then plFree A k else plFree A k++freeR A k).length<=_
  have:=plFree_len A k
  split
  ·omega
  ·have hb:=gRange_b (g:=A.s.geo) (k:=k)
   have:(freeR A k).length=cntG A.s.geo k:=rfFree_len _ _ _
   have:cntG A.s.geo k=((gRange A.s.geo k).2-(gRange A.s.geo k).1).toNat:=rfl
   rw [List.length_append]; omega
theorem plFree_b {A:Az} (hg:gOk A.s.geo=true) {n:Nat} (hn:(n:Int)<=A.s.geo.gs):(plFree A n).length<=2048:=by
 obtain ⟨_,_,_,g4,_⟩:=gOk_iff.1 hg
 have:=plFree_len A n
 omega
theorem allR_b {A:Az} (hg:gOk A.s.geo=true):(allR A).length<=2048:=by
 obtain ⟨_,_,g3,_⟩:=gOk_iff.1 hg
 exact plFree_b hg (by omega)
set_option maxRecDepth 4000 in
theorem lAll_c (h:Ao R w a v d A) (hk:∀ w' R' p c,Mod R w w'->Sb R R' w->Ao R' w' a v d A->Ow Tryz.prog w' w.heap.size 54 3 p (allR A).length c (rowF (allR A))->(∀ q,p=some q->¬ R' q.block)->K (.slice p (allR A).length c) w') :
  Cal Tryz.prog F_leveelaw31_all #[.pointer (some ⟨a,0,none⟩)] w K:=by
 apply C_leveelaw31_all
 unfold D_leveelaw31_all
 have hg:=h.ok
 obtain ⟨_,_,g3,g4,_⟩:=gOk_iff.1 hg
 have hda:=h.dlt
 have eA:allR A=plFree A A.s.geo.gs.toNat:=rfl
 rw [eA] at hk
 obtain ⟨n,hn⟩:=Int.eq_ofNat_of_zero_le (show 0<=A.s.geo.gs by omega)
 have hb:∀ i,i<=n->(plFree A i).length<=2048:=fun i hi=>plFree_b hg (by omega)
 rw [hn,Int.toNat_natCast] at hk
 refine ⟨fun x W=>∃ (i c:Nat) (p:Option Addr) (R':Nat->Prop),x=[.slice p (plFree A i).length c,.int .i64 i]/\i<=n/\Ao R' W a v d A/\Sb R R' w/\Mod R w W/\Ow Tryz.prog W w.heap.size 54 3 p (plFree A i).length c (rowF (plFree A i))/\(∀ q,p=some q->¬ R' q.block),fun x _=>(n-nI x 1).toNat,
  ⟨0,0,none,R,rfl,Nat.zero_le _,h,Sb.refl _ _,Mod.refl _ _,Ow.nilG elemG_fr,fun _ e=>by cases e⟩,?_⟩
 rintro x W ⟨i,c,p,R',rfl,hi,h0,s1,m0,o0,hp⟩
 refine ⟨_,rfl,aVol_c h0 ⟨_,rfl,aGeo_c h0 fun w3 m3=>⟨_,rfl,A.s.geo.gs,field_ggs _,?_⟩⟩⟩
 rw [hn]
 have h1:=h0.nos m3
 have m1:=m0.no m3
 have o1:=o0.nos m3
 have z3:=m3.size
 refine cond_of (fun hlt=>?_) (fun hlt=>?_)
 ·have hlt:=of_decide_eq_true hlt
  have zW:=m1.size
  have b1:=hb i hi
  have b2:=hb (i+1) (by omega)
  refine aFrozen_c h1 ⟨_,rfl,?_⟩
  refine Share.cut (fun z w7=>∃ c' p' R',z=[.slice p' (plFree A (i+1)).length c']/\Ao R' w7 a v d A/\Sb R R' w/\Mod R w w7/\Ow Tryz.prog w7 w.heap.size 54 3 p' (plFree A (i+1)).length c' (rowF (plFree A (i+1)))/\(∀ q,p'=some q->¬ R' q.block)) ?_ ?_
  ·refine cond_of (fun hf=>⟨_,_,_,rfl,?_⟩) (fun hf=>?_)
   ·have hf:¬ A.fz i=true:=by simpa using hf
    have e1:plFree A (i+1)=plFree A i++freeR A i:=by
     show (if A.fz i=true then plFree A i else plFree A i++freeR A i)=_
     rw [if_neg hf]
    rw [e1] at b2 |-
    rw [List.length_append] at b2 |-
    refine lFree_c h1 fun w5 R5 p5 c5 m5 s5 h5 o5 hp5=>⟨_,_,_,rfl,?_⟩
    have z5:=m5.size
    have o1':=o1.keep m5 fun q hq=>hp q hq
    have hpp:∀ q,p=some q->¬ R5 q.block:=fun q hq e=>by
     rcases s5 _ e with e | e
     ·exact hp q hq e
     ·have:=(o1.base hq).2; omega
    obtain ⟨a',c',w6,run,o6,m6,hq6⟩:=o1'.appZ (ty:=54) (c2:=c5) elemG_fr (by omega) o5.rowU.row (rowF_len _) o5.h0 (rowF_one _) (by omega) (by omega) (by omega)
    refine ⟨a',_,c',w6,run,c',a',R5,rfl,?_,s1.trans (s5.up z3) m0.size,?_,?_,fun q hq=>?_⟩
    ·refine h5.keep m6 (fun z hz e=>?_) fun z e=>?_
     ·obtain ⟨q',hq',rfl⟩:=e
      exact hpp q' hq' hz
     ·obtain ⟨q',hq',rfl⟩:=e
      have:=(o1.base hq').1; omega
    ·refine (Mod.sb m0 s1 ((m3.mono fun _ _ e=>e.elim).trans m5 fun x _ e=>e)).trans m6 fun z hz e=>?_
     obtain ⟨q',hq',rfl⟩:=e
     have:=(o1.base hq').1; omega
    ·rw [rowF_app]; exact o6
    ·rcases hq6 q hq with ⟨q',hq',e⟩ | e
     ·rw [e]; exact hpp q' hq'
     ·intro hz; have:=h5.lt _ hz; omega
   ·have hf:A.fz i=true:=by simpa using hf
    have e1:plFree A (i+1)=plFree A i:=by
     show (if A.fz i=true then plFree A i else plFree A i++freeR A i)=_
     rw [if_pos hf]
    rw [e1]
    exact ⟨c,p,R',rfl,h1,s1,m1,o1,hp⟩
  ·rintro z w7 ⟨c',p',R6,rfl,k1,k2,k3,k4,k5⟩
   rw [wrap64 (x:=(i:Int)+1) (by omega) (by omega)]
   exact ⟨⟨i+1,c',p',R6,rfl,by omega,k1,k2,k3,k4,k5⟩,by simp [nI,nth]; omega⟩
 ·have hlt:=of_decide_eq_false hlt
  have:i=n:=by omega
  subst this
  exact ⟨_,_,_,rfl,hk w3 R' p c m1 s1 h1 o1 hp⟩
set_option maxRecDepth 4000 in
theorem lTaken_c {L:Rl} {p:Option Addr} {c b0:Nat} (o:Ow Tryz.prog w b0 45 2 p L.length c (rowC L)) (hn:L.length<=5000)
  (hk:∀ w' p' c',Mod No w w'->Ow Tryz.prog w' w.heap.size 43 2 p' L.length c' (rowC L)->K (.slice p' L.length c') w'):Cal Tryz.prog F_leveelaw31_taken #[.slice p L.length c] w K:=by
 apply C_leveelaw31_taken
 unfold D_leveelaw31_taken
 refine ⟨fun x W=>∃ (i c':Nat) (p':Option Addr),x=[.slice p' i c',.int .i64 i]/\i<=L.length/\Mod No w W/\Ow Tryz.prog W w.heap.size 43 2 p' i c' (rowC (L.take i)),fun x _=>(L.length-nI x 1).toNat,
  ⟨0,0,none,rfl,Nat.zero_le _,Mod.refl _ _,Ow.nilG elemG_rr⟩,?_⟩
 rintro x W ⟨i,c',p',rfl,hi,m,o1⟩
 have zW:=m.size
 refine ⟨_,rfl,cond_of (fun hlt=>?_) (fun hlt=>?_)⟩
 ·have hlt:i<L.length:=by have:=of_decide_eq_true hlt; omega
  have md:Mod No w (Go.Den.drew W):=m.drew
  obtain ⟨g,rfl,_,ix,_,ld⟩:=actAt (T:=45) (Te:=57) o rfl elemN_runs agg_run (by omega) (rAt_some hlt)
  have htk:L.take (i+1)=L.take i++[rAt L i]:=by
   rw [List.take_add_one,rAt_some hlt]; rfl
  obtain ⟨q,c8,w8,run,o8,m8,_⟩:=snocG (T:=43) (Te:=49) (ys:=acV (rAt L i)) elemG_rr (by omega) (o1.nos (Mod.refl _ _).drew) rfl (acV_one _) (by omega) (by omega) zW
  refine ⟨_,_,_,rfl,_,ix,_,ld _ 0 _ _ md sc_int rfl,_,ix,_,ld _ 1 _ _ md sc_int rfl,_,build_rr _ _,_,_,_,_,built_rr _ _,_,_,_,w8,run,?_⟩
  rw [wrap64 (x:=(i:Int)+1) (by omega) (by omega)]
  refine ⟨⟨i+1,c8,some q,rfl,by omega,md.trans m8 fun z hz e=>?_,by rw [htk,rowC_app]; exact o8⟩,by simp [nI,nth]; omega⟩
  obtain ⟨q',hq',rfl⟩:=e
  have:=(o1.base hq').1; omega
 ·have hlt:=of_decide_eq_false hlt
  have:i=L.length:=by omega
  subst this
  rw [List.take_length] at o1
  exact ⟨_,_,_,rfl,hk W p' c' m o1⟩
theorem frAt {F:List Fr} {p:Option Addr} {c b0 i:Nat} (h:Ow Tryz.prog w b0 54 3 p F.length c (rowF F)) (hn:F.length<=5000) (hi:i<F.length) :
  ∃ g,p=some ⟨g,0,none⟩/\Al (Instr.indexAt 54 (.slice p F.length c) (.int .i64 i)) (.pointer (some ⟨g,i*3,none⟩))/\∀ (w':World) (j:Nat) (v:Value) (Ti:TypeId),Mod No w w'->scal Tryz.prog Ti=true->(frV (fAt F i))[j]?=some v->Ru (Instr.loadAt Ti (.pointer (some (Addr.add ⟨g,i*3,none⟩ j)))) w' v w':=by
 obtain ⟨g,rfl,hg,hat⟩:=h.sm (by omega)
 refine ⟨g,rfl,fun w'=>?_,fun w' j v Ti m hTi hj=>?_⟩
 ·have:=index_slice (P:=Tryz.prog) (T:=54) (k:=3) (a:=⟨g,0,none⟩) (n:=F.length) (c:=c) (kk:=.i64) (i:=i) elemN_fr (by omega) (by omega) w'
  rw [add_none,show 0+(i:Int).toNat*3=i*3 by omega] at this
  exact this
 ·rw [add_none]
  have:=(hat.keep m id).at.load (P:=Tryz.prog) (T:=Ti) (i:=i*3+j) hTi (v:=v) (flat_cell frV_len (fAt_some hi) hj)
  rw [Nat.zero_add] at this
  exact this
set_option maxRecDepth 4000 in
theorem rRuns31_c {F:List Fr} {p:Option Addr} {c b0:Nat} (o:Ow Tryz.prog w b0 54 3 p F.length c (rowF F)) (hn:F.length<=5000)
  (hk:∀ w' p' c',Mod No w w'->Ow Tryz.prog w' w.heap.size 43 2 p' (runsR F).length c' (rowC (runsR F))->K (.slice p' (runsR F).length c') w'):Cal Tryz.prog F_leveeref31_Runs #[.slice p F.length c] w K:=by
 apply C_leveeref31_Runs
 unfold D_leveeref31_Runs
 have eF:runsR F=rfRuns F F.length:=rfl
 rw [eF] at hk
 refine ⟨fun x W=>∃ (i c':Nat) (p':Option Addr) (y:Value),x=[.slice p' (rfRuns F i).length c',.int .i64 i,y]/\i<=F.length/\Mod No w W/\Ow Tryz.prog W w.heap.size 43 2 p' (rfRuns F i).length c' (rowC (rfRuns F i)),fun x _=>(F.length-nI x 1).toNat,
  ⟨0,0,none,_,rfl,Nat.zero_le _,Mod.refl _ _,Ow.nilG elemG_rr⟩,?_⟩
 rintro x W ⟨i,c',p',y,rfl,hi,m,o1⟩
 have zW:=m.size
 obtain ⟨r1,r2,r3⟩:=rfRuns_ok F i
 refine ⟨_,rfl,cond_of (fun hlt=>?_) (fun hlt=>?_)⟩
 ·have hlt:i<F.length:=by have:=of_decide_eq_true hlt; omega
  obtain ⟨g,rfl,ix,ld⟩:=frAt o hn hlt
  have e0:rfRuns F (i+1)=if (fAt F i).2.1=false then rfRuns F i else if 0<i/\(fAt F (i-1)).2.1=true/\(fAt F i).2.2=false then incL (rfRuns F i) else rfRuns F i++[((fAt F i).1,1)]:=rfl
  refine Share.cut (fun z w7=>∃ c' p' y,z=[.slice p' (rfRuns F (i+1)).length c',y]/\Mod No w w7/\Ow Tryz.prog w7 w.heap.size 43 2 p' (rfRuns F (i+1)).length c' (rowC (rfRuns F (i+1)))) ⟨_,ix,_,ld W 1 _ _ m sc_bl rfl,cond_of (fun h0=>?_) (fun h0=>?_)⟩ ?_
  ·have h0:(fAt F i).2.1=false:=by simpa using h0
   rw [e0,if_pos h0]
   exact ⟨c',p',y,rfl,m,o1⟩
  ·have h0:¬ (fAt F i).2.1=false:=by simpa using h0
   rw [if_neg h0] at e0
   refine Share.cut (fun z w2=>w2=W/\z=[.bool (decide (0<i/\(fAt F (i-1)).2.1=true/\(fAt F i).2.2=false))]) (cond_of (fun h1=>?_) (fun h1=>⟨rfl,?_⟩)) ?_
   ·have h1:=of_decide_eq_true h1
    obtain ⟨g',hg',ix',ld'⟩:=frAt (i:=i-1) o hn (by omega)
    cases hg'
    rw [wrap64 (x:=(i:Int)-1) (by omega) (by omega),show (i:Int)-1=((i-1:Nat):Int) by omega]
    refine ⟨_,ix',_,ld' W 1 _ _ m sc_bl rfl,cond_of (fun h2=>⟨_,ix,_,ld W 2 _ _ m sc_bl rfl,rfl,?_⟩) (fun h2=>⟨rfl,?_⟩)⟩
    ·congr 2
     rw [Bool.eq_iff_iff,decide_eq_true_iff,Bool.not_eq_true']
     exact ⟨fun e=>⟨by omega,h2,e⟩,fun e=>e.2.2⟩
    ·rw [decide_eq_false fun e=>by rw [h2] at e; exact absurd e.2.1 (by decide)]
   ·have h1:=of_decide_eq_false h1
    rw [decide_eq_false fun e=>h1 (by omega)]
   rintro z w2 ⟨rfl,rfl⟩
   refine ⟨_,rfl,Share.cut (fun z w6=>∃ c' p',z=[.slice p' (rfRuns F (i+1)).length c']/\Mod No w w6/\Ow Tryz.prog w6 w.heap.size 43 2 p' (rfRuns F (i+1)).length c' (rowC (rfRuns F (i+1)))) (cond_of (fun hb=>?_) (fun hb=>?_)) ?_⟩
   ·have hb:=of_decide_eq_true hb
    have hne:=r2 hb.1 hb.2.1
    have hlx:(rfRuns F i)[(rfRuns F i).length-1]?=some (rAt (rfRuns F i) ((rfRuns F i).length-1)):=rAt_some (by omega)
    have e3:incL (rfRuns F i)=(rfRuns F i).set ((rfRuns F i).length-1) ((rAt (rfRuns F i) ((rfRuns F i).length-1)).1,(rAt (rfRuns F i) ((rfRuns F i).length-1)).2+1):=by unfold incL; rw [hlx]
    rw [e0,if_pos hb,e3]
    have hb2:=r3 _ (List.mem_of_getElem? hlx)
    generalize rAt (rfRuns F i) ((rfRuns F i).length-1)=u at *
    obtain ⟨g2,rfl,hg2,ix2,_,l2⟩:=actAt (T:=43) (Te:=49) o1 rfl elemN_rr agg_rr (by omega) hlx
    have hl1:(((rfRuns F i).length:Nat):Int)-1=(((rfRuns F i).length-1:Nat):Int):=by omega
    obtain ⟨w6,u1,u2,u3⟩:=o1.setK (P:=Tryz.prog) (T':=3) (i:=((rfRuns F i).length-1)*2+1) (v:=.int .i64 (u.2+1)) sc_int (by omega) rfl
    rw [rowC_set _ hlx] at u2
    refine ⟨_,_,_,rfl,?_⟩
    rw [wrap64 (x:=((rfRuns F i).length:Int)-1) (by omega) (by omega),hl1]
    refine ⟨_,ix2,_,l2 _ 1 _ _ (Mod.refl _ _) sc_int rfl,_,ix2,w6,?_,c',some ⟨g2,0,none⟩,?_,m.trans u3 fun z hz e=>by have e:z=g2:=e; omega,?_⟩
    ·rw [wrap64 (by omega) (by omega),add_none]; exact u1
    ·rw [List.length_set]
    ·rw [List.length_set]; exact u2
   ·have hb:=of_decide_eq_false hb
    rw [e0,if_neg hb]
    obtain ⟨q,c8,w8,run,o8,m8,_⟩:=snocG (T:=43) (Te:=49) (ys:=acV ((fAt F i).1,1)) elemG_rr (by omega) o1 rfl (acV_one _) (by omega) (by omega) zW
    refine ⟨_,_,_,rfl,_,ix,_,ld w2 0 _ _ m sc_int rfl,_,build_rr _ _,_,_,_,_,built_rr _ _,_,_,_,w8,run,c8,some q,?_,m.trans m8 fun z hz e=>?_,?_⟩
    ·rw [List.length_append]; rfl
    ·obtain ⟨q',hq',rfl⟩:=e
     have:=(o1.base hq').1; omega
    ·rw [List.length_append,rowC_app]; exact o8
   ·rintro z w6 ⟨c6,p6,rfl,k1,k2⟩
    exact ⟨c6,p6,_,rfl,k1,k2⟩
  ·rintro z w7 ⟨c7,p7,y7,rfl,k1,k2⟩
   rw [wrap64 (x:=(i:Int)+1) (by omega) (by omega)]
   exact ⟨⟨i+1,c7,p7,_,rfl,by omega,k1,k2⟩,by simp [nI,nth]; omega⟩
 ·have hlt:=of_decide_eq_false hlt
  have:i=F.length:=by omega
  subst this
  exact ⟨_,_,_,rfl,hk W p' c' m o1⟩
end
end Go.Proofs.YtelhlihjihklbaaGreat
end
section
open Go Go.Den Go.Proofs
namespace Go.Proofs.YtelhlihjihklbaaGreat
def scoreR (l:Rl):Int:=if sumL l=0 then 0 else 1000-1000*(rfLong l l.length).2 / sumL l
theorem score_eq {l:Rl} (h:∀ x∈l,1<=x.2):scoreL l=scoreR l:=by
 unfold scoreL scoreR
 rw [longL_eq h]
theorem rfSize_b (l:Rl) (f t:Int):∀ i:Nat,0<=rfSize l f t i/\rfSize l f t i<=i
 | 0=>⟨Int.le_refl _,Int.le_refl _⟩
 | i+1=>by
  have:=rfSize_b l f t i
  show 0<=(if f<=(rAt l i).2/\(rAt l i).2<=t then rfSize l f t i+1 else rfSize l f t i)/\(if f<=(rAt l i).2/\(rAt l i).2<=t then rfSize l f t i+1 else rfSize l f t i)<=(i+1:Nat)
  split <;> omega
section
variable {w w':World} {R R':Nat->Prop} {a v d:Nat} {A:Az} {K:Value->World->Prop}
set_option maxRecDepth 4000 in
theorem rLong31_c {L:Rl} {p:Option Addr} {c b0:Nat} (o:Ow Tryz.prog w b0 43 2 p L.length c (rowC L)) (hn:L.length<=5000)
  (hk:∀ w',Mod No w w'->K (.agg ⟨acV (rfLong L L.length)⟩) w'):Cal Tryz.prog F_leveeref31_Longest #[.slice p L.length c] w K:=by
 apply C_leveeref31_Longest
 unfold D_leveeref31_Longest
 obtain ⟨w1,a1,a2,a3,a4⟩:=new_u (P:=Tryz.prog) (w:=w) (T:=49) zero_rr
 obtain ⟨w2,b1,b2,b3,b4⟩:=new_u (P:=Tryz.prog) (w:=w1) (T:=49) zero_rr
 obtain ⟨w3,c1,c2,c3,c4⟩:=b2.put (T:=49) (vs:=acV (0,0)) agg_rr rfl rfl (acV_one _)
 have z1:=a2.lt
 have p3:AtU w3 w.heap.size 0 (acV (0,0)):=(a2.keep b3 id).keep c3 (fun e=>by have e:w.heap.size=w1.heap.size:=e; omega)
 have m3:Mod No w w3:=(a3.no b3).own c3 (by omega)
 refine ⟨_,w1,a1,_,build_rr0,_,w2,b1,w3,c1,?_⟩
 refine ⟨fun x W=>∃ i:Nat,x=[.int .i64 i]/\i<=L.length/\Mod No w W/\AtU W w.heap.size 0 (acV (0,0))/\AtU W w1.heap.size 0 (acV (rfLong L i)),fun x _=>(L.length-nI x 0).toNat,
  ⟨0,rfl,Nat.zero_le _,m3,p3,c2⟩,?_⟩
 rintro x W ⟨i,rfl,hi,m,q4,q5⟩
 refine ⟨_,rfl,cond_of (fun hlt=>?_) (fun hlt=>?_)⟩
 ·have hlt:i<L.length:=by have:=of_decide_eq_true hlt; omega
  have md:Mod No w (Go.Den.drew W):=m.drew
  obtain ⟨g,rfl,_,ix,ld,lf⟩:=actAt (T:=43) (Te:=49) o rfl elemN_rr agg_rr (by omega) (rAt_some hlt)
  have e0:rfLong L (i+1)=if (rfLong L i).2<(rAt L i).2 then rAt L i else rfLong L i:=rfl
  refine ⟨_,ix,_,lf _ 1 _ _ md sc_int rfl,_,q5.drew.at.fld (v:=.int .i64 (rfLong L i).2) sc_int rfl,?_⟩
  refine Share.cut (fun z w6=>Mod No w w6/\AtU w6 w.heap.size 0 (acV (0,0))/\AtU w6 w1.heap.size 0 (acV (rfLong L (i+1)))) (cond_of (fun hb=>?_) (fun hb=>?_)) ?_
  ·rw [e0,if_pos (of_decide_eq_true hb)]
   obtain ⟨w9,y1,y2,y3,y4⟩:=q5.drew.put (T:=49) (vs:=acV (rAt L i)) agg_rr rfl rfl (acV_one _)
   exact ⟨_,ix,_,ld _ md,w9,y1,md.own y3 (by omega),q4.drew.keep y3 (fun e=>by have e:w.heap.size=w1.heap.size:=e; omega),y2⟩
  ·rw [e0,if_neg (of_decide_eq_false hb)]
   exact ⟨md,q4.drew,q5.drew⟩
  rintro z w6 ⟨k1,k2,k3⟩
  rw [wrap64 (x:=(i:Int)+1) (by omega) (by omega)]
  exact ⟨⟨i+1,rfl,by omega,k1,k2,k3⟩,by simp [nI,nth]; omega⟩
 ·have hlt:=of_decide_eq_false hlt
  have:i=L.length:=by omega
  subst this
  obtain ⟨w9,y1,y2,y3,y4⟩:=q4.put (T:=49) (vs:=acV (rfLong L L.length)) agg_rr rfl rfl (acV_one _)
  exact ⟨_,q5.at.all agg_rr rfl,w9,y1,_,y2.at.all agg_rr rfl,hk w9 (m.own y3 (Nat.le_refl _))⟩
theorem rSum31_c {L:Rl} {p:Option Addr} {c b0:Nat} (o:Ow Tryz.prog w b0 43 2 p L.length c (rowC L)) (hL:∀ x∈L,1<=x.2/\x.2<=128) (hn:L.length<=5000)
  (hk:K (.int .i64 (sumL L)) w):Cal Tryz.prog F_leveeref31_Sum #[.slice p L.length c] w K:=by
 apply C_leveeref31_Sum
 unfold D_leveeref31_Sum
 refine ⟨fun x W=>∃ i:Nat,x=[.int .i64 (plSum L i),.int .i64 i]/\i<=L.length/\W=w,fun x _=>(L.length-nI x 1).toNat,⟨0,rfl,Nat.zero_le _,rfl⟩,?_⟩
 rintro x W ⟨i,rfl,hi,rfl⟩
 refine ⟨_,rfl,cond_of (fun hlt=>?_) (fun hlt=>?_)⟩
 ·have hlt:i<L.length:=by have:=of_decide_eq_true hlt; omega
  obtain ⟨g,rfl,_,ix,_,lf⟩:=actAt (T:=43) (Te:=49) o rfl elemN_rr agg_rr (by omega) (rAt_some hlt)
  have b1:=plSum_b hL i hi
  have b2:=hL _ (rAt_mem hlt)
  refine ⟨_,rfl,_,ix,_,lf _ 1 _ _ (Mod.refl _ _) sc_int rfl,?_⟩
  rw [wrap64 (x:=(i:Int)+1) (by omega) (by omega),wrap64 (x:=plSum L i+(rAt L i).2) (by omega) (by omega)]
  exact ⟨⟨i+1,rfl,by omega,rfl⟩,by simp [nI,nth]; omega⟩
 ·have hlt:=of_decide_eq_false hlt
  have:i=L.length:=by omega
  subst this
  exact ⟨_,rfl,hk⟩
theorem rSize31_c {L:Rl} {p:Option Addr} {c b0:Nat} {f t:Int} (o:Ow Tryz.prog w b0 43 2 p L.length c (rowC L)) (hn:L.length<=5000)
  (hk:K (.int .i64 (rfSize L f t L.length)) w):Cal Tryz.prog F_leveeref31_Size #[.slice p L.length c,.int .i64 f,.int .i64 t] w K:=by
 apply C_leveeref31_Size
 unfold D_leveeref31_Size
 refine ⟨fun x W=>∃ (i:Nat) (y:Value),x=[.int .i64 (rfSize L f t i),.int .i64 i,y]/\i<=L.length/\W=w,fun x _=>(L.length-nI x 1).toNat,⟨0,_,rfl,Nat.zero_le _,rfl⟩,?_⟩
 rintro x W ⟨i,y,rfl,hi,rfl⟩
 refine ⟨_,rfl,cond_of (fun hlt=>?_) (fun hlt=>?_)⟩
 ·have hlt:i<L.length:=by have:=of_decide_eq_true hlt; omega
  obtain ⟨g,rfl,_,ix,_,lf⟩:=actAt (T:=43) (Te:=49) o rfl elemN_rr agg_rr (by omega) (rAt_some hlt)
  have e0:rfSize L f t (i+1)=if f<=(rAt L i).2/\(rAt L i).2<=t then rfSize L f t i+1 else rfSize L f t i:=rfl
  have b1:=rfSize_b L f t i
  refine Share.cut (fun z w2=>w2=W/\z=[.bool (decide (f<=(rAt L i).2/\(rAt L i).2<=t))]) ⟨_,ix,_,lf _ 1 _ _ (Mod.refl _ _) sc_int rfl,cond_of (fun h1=>⟨_,ix,_,lf _ 1 _ _ (Mod.refl _ _) sc_int rfl,rfl,?_⟩) (fun h1=>⟨rfl,?_⟩)⟩ ?_
  ·have h1:=of_decide_eq_true h1
   congr 2
   exact decide_eq_decide.2 ⟨fun e=>⟨by omega,e⟩,fun e=>e.2⟩
  ·have h1:=of_decide_eq_false h1
   rw [decide_eq_false fun e=>h1 (by omega)]
  rintro z w2 ⟨rfl,rfl⟩
  refine ⟨_,rfl,Share.cut (fun z w3=>w3=w2/\z=[.int .i64 (rfSize L f t (i+1))]) (cond_of (fun hb=>⟨_,rfl,rfl,?_⟩) (fun hb=>⟨rfl,?_⟩)) ?_⟩
  ·rw [e0,if_pos (of_decide_eq_true hb),wrap64 (by omega) (by omega)]
  ·rw [e0,if_neg (of_decide_eq_false hb)]; rfl
  rintro z w3 ⟨rfl,rfl⟩
  rw [wrap64 (x:=(i:Int)+1) (by omega) (by omega)]
  exact ⟨⟨i+1,_,rfl,by omega,rfl⟩,by simp [nI,nth]; omega⟩
 ·have hlt:=of_decide_eq_false hlt
  have:i=L.length:=by omega
  subst this
  exact ⟨_,rfl,hk⟩
theorem rScore31_c {L:Rl} {p:Option Addr} {c b0:Nat} (o:Ow Tryz.prog w b0 43 2 p L.length c (rowC L)) (hL:∀ x∈L,1<=x.2/\x.2<=128) (hn:L.length<=5000)
  (hk:∀ w',Mod No w w'->K (.int .i64 (scoreR L)) w'):Cal Tryz.prog F_leveeref31_Score #[.slice p L.length c] w K:=by
 apply C_leveeref31_Score
 unfold D_leveeref31_Score
 refine rSum31_c o hL hn ⟨_,rfl,cond_of (fun h0=>?_) (fun h0=>?_)⟩
 ·have h0:sumL L=0:=by simpa using h0
  have e:scoreR L=0:=by unfold scoreR; rw [if_pos h0]
  rw [e] at hk
  exact hk w (Mod.refl _ _)
 ·have h0:¬ sumL L=0:=by simpa using h0
  have e:scoreR L=1000-1000*(rfLong L L.length).2 / sumL L:=by unfold scoreR; rw [if_neg h0]
  rw [e] at hk
  have b1:(L.length:Int)<=sumL L/\sumL L<=128*L.length:=plSum_b hL _ (Nat.le_refl _)
  have b2:=longL_b hL
  rw [longL_eq fun x hx=>(hL x hx).1] at b2
  refine rLong31_c o hn fun w2 m2=>⟨_,rfl,(rfLong L L.length).2,(fun w=>by kernel_rfl),rSum31_c (o.nos m2) hL hn ⟨_,rfl,?_⟩⟩
  rw [wrap64 (x:=1000*(rfLong L L.length).2) (by omega) (by omega)]
  have h3:=Int.ediv_nonneg (a:=1000*(rfLong L L.length).2) (b:=sumL L) (by omega) (by omega)
  have h5:=Int.ediv_le_self (a:=1000*(rfLong L L.length).2) (sumL L) (by omega)
  refine ⟨_,quoR (by omega) (by omega) (by omega),?_⟩
  rw [wrap64 (x:=1000-1000*(rfLong L L.length).2 / sumL L) (by omega) (by omega)]
  exact hk w2 m2
theorem rRoom31_c {L:Rl} {p:Option Addr} {c b0:Nat} {n:Int} (o:Ow Tryz.prog w b0 43 2 p L.length c (rowC L)) (hL:∀ x∈L,1<=x.2/\x.2<=128) (hn:L.length<=5000)
  (hk:K (.int .i64 (roomL L n)) w):Cal Tryz.prog F_leveeref31_Room #[.slice p L.length c,.int .i64 n] w K:=by
 apply C_leveeref31_Room
 unfold D_leveeref31_Room
 refine ⟨fun x W=>∃ (i:Nat) (y:Value),x=[.int .i64 (plRoom L n i),.int .i64 i,y]/\i<=L.length/\(n<1->i=0)/\W=w,fun x _=>(L.length-nI x 1).toNat,⟨0,_,rfl,Nat.zero_le _,fun _=>rfl,rfl⟩,?_⟩
 rintro x W ⟨i,y,rfl,hi,hn1,rfl⟩
 refine Share.cut (fun z w5=>w5=W/\z=[.bool (decide (i<L.length/\1<=n))]) ⟨_,rfl,cond_of (fun h1=>⟨rfl,?_⟩) (fun h1=>⟨rfl,?_⟩)⟩ ?_
 ·have h1:=of_decide_eq_true h1
  congr 2
  exact decide_eq_decide.2 ⟨fun e=>⟨by omega,e⟩,fun e=>e.2⟩
 ·have h1:=of_decide_eq_false h1
  rw [decide_eq_false fun e=>h1 (by omega)]
 rintro z w5 ⟨rfl,rfl⟩
 refine ⟨_,rfl,cond_of (fun hlt=>?_) (fun hlt=>?_)⟩
 ·obtain ⟨hlt,h1n⟩:=of_decide_eq_true hlt
  obtain ⟨g,rfl,_,ix,_,lf⟩:=actAt (T:=43) (Te:=49) o rfl elemN_rr agg_rr (by omega) (rAt_some hlt)
  have b1:=plRoom_b hL h1n i hi
  have b2:=hL _ (rAt_mem hlt)
  have h3:=Int.ediv_nonneg (a:=(rAt L i).2) (b:=n) (by omega) (by omega)
  have h4:=Int.ediv_le_self (a:=(rAt L i).2) n (by omega)
  refine ⟨_,rfl,_,rfl,_,ix,_,lf _ 1 _ _ (Mod.refl _ _) sc_int rfl,_,quoR (by omega) (by omega) (by omega),?_⟩
  rw [wrap64 (x:=(i:Int)+1) (by omega) (by omega),wrap64 (x:=plRoom L n i+(rAt L i).2 / n) (by omega) (by omega)]
  exact ⟨⟨i+1,_,rfl,by omega,fun e=>by omega,rfl⟩,by simp [nI,nth]; omega⟩
 ·have hlt:=of_decide_eq_false hlt
  have e:plRoom L n i=roomL L n:=by
   unfold roomL
   by_cases h1:n<1
   ·rw [if_pos h1,hn1 h1]; rfl
   ·rw [if_neg h1]
    have:i=L.length:=by
     refine Classical.byContradiction fun e=>hlt ⟨by omega,by omega⟩
    rw [this]
  refine ⟨_,rfl,?_⟩
  rw [e]; exact hk
end
end Go.Proofs.YtelhlihjihklbaaGreat
end
section
open Go Go.Den Go.Proofs
namespace Go.Proofs.YtelhlihjihklbaaGreat
structure Ob (w0:World) (R:Nat->Prop) (w:World) (a v d:Nat) (A:Az):Prop where
 ao:Ao R w a v d A
 lo:∀ z,R z->w0.heap.size<=z
 md:Mod No w0 w
structure Kw (T:TypeId) (R:Nat->Prop) (w:World) (p:Option Addr) (L:Rl) (c:Nat):Prop where
 ow:Ow Tryz.prog w 0 T 2 p L.length c (rowC L)
 nr:∀ q,p=some q->¬ R q.block
structure Bw (R:Nat->Prop) (w:World) (q:Nat) (cs:List Value):Prop where
 at':AtU w q 0 cs
 nr:¬ R q
section
variable {w0 w w':World} {R R':Nat->Prop} {a v d q:Nat} {A A':Az} {T:TypeId} {p:Option Addr} {L:Rl} {c:Nat} {cs:List Value} {K:Value->World->Prop}
theorem Ob.no (h:Ob w0 R w a v d A) (m:Mod No w w'):Ob w0 R w' a v d A:=⟨h.ao.nos m,h.lo,h.md.no m⟩
theorem Ob.go (h:Ob w0 R w a v d A) (m:Mod R w w') (s:Sb R R' w) (k:Ao R' w' a v d A'):Ob w0 R' w' a v d A' :=
 ⟨k,fun z hz=>by
  rcases s z hz with e | e
  ·exact h.lo z e
  ·have:=h.md.size; omega,h.md.trans m fun x hx e=>by have:=h.lo x e; omega⟩
theorem Kw.no (h:Kw T R w p L c) (m:Mod No w w'):Kw T R w' p L c:=⟨h.ow.nos m,h.nr⟩
theorem Kw.go (h:Kw T R w p L c) (m:Mod R w w') (s:Sb R R' w):Kw T R' w' p L c :=
 ⟨h.ow.keep m h.nr,fun q hq e=>by
  rcases s _ e with e | e
  ·exact h.nr q hq e
  ·have:=(h.ow.base hq).2; omega⟩
theorem Bw.no (h:Bw R w q cs) (m:Mod No w w'):Bw R w' q cs:=⟨h.at'.keep m id,h.nr⟩
theorem Ob.box {t:TypeId} {z cs:List Value} {n:Nat} (h:Ob w0 R w a v d A) (hz:zeroC Tryz.prog t=some z) (hT:aggN Tryz.prog t=some n) (hl:z.length=n) (hc:cs.length=n) (h1:∀ u∈cs,u.oneCell'=true) :
  ∃ q w1 w2,Ru (Instr.alloc t true (.tuple #[])) w (.pointer (some ⟨q,0,none⟩)) w1/\RuU (Instr.storeAt t (.pointer (some ⟨q,0,none⟩)) (.agg ⟨cs⟩)) w1 w2/\Ob w0 R w2 a v d A/\Bw R w2 q cs/\Mod No w w2:=by
 obtain ⟨w1,a1,a2,a3,a4⟩:=new_u (P:=Tryz.prog) (w:=w) (T:=t) hz
 obtain ⟨w2,b1,b2,b3,b4⟩:=a2.put (T:=t) (vs:=cs) hT hl hc h1
 have m:Mod No w w2:=a3.own b3 (Nat.le_refl _)
 exact ⟨_,w1,w2,a1,b1,h.no m,⟨b2,fun e=>by have:=h.ao.lt _ e; omega⟩,m⟩
theorem kwOf {b0:Nat} (h:Ow Tryz.prog w b0 T 2 p L.length c (rowC L)) (hb:∀ z,R z->z<b0):Kw T R w p L c:=⟨h.mono (Nat.zero_le _),fun q hq e=>by have:=hb _ e; have:=(h.base hq).1; omega⟩
end
end Go.Proofs.YtelhlihjihklbaaGreat
end
section
open Go Go.Den Go.Proofs
namespace Go.Proofs.YtelhlihjihklbaaGreat
section
variable {w0 w w':World} {R R':Nat->Prop} {a v d q:Nat} {A A':Az} {K:Value->World->Prop}
set_option maxRecDepth 8000 in
theorem PlanCounts_c {g:Gm} {a1:Option Addr} {l1 c1:Nat} {acts:List Ab} {n:Int} (hr:Row w a1 (rowB acts)) (hl:acts.length=l1) (h63:∀ x∈acts,x.2.1<=9223372036854775807) :
  Cal Tryz.prog F_leveelaw31_PlanCounts #[.agg ⟨gV g⟩,.slice a1 l1 c1,.int .i64 n] w (fun v w'=>v=.bool true/\Mod No w w'):=by
 apply C_leveelaw31_PlanCounts
 unfold D_leveelaw31_PlanCounts
 obtain ⟨w1,b1,b2,b3,b4⟩:=box_u (P:=Tryz.prog) (w:=w) (T:=40) (cs:=gV g)
 refine ⟨_,w1,b1,_,b2.at.all agg_geo rfl,open31_c (hr.nos b3) hl h63 fun w2 R a v d k0 m2 h2 lo2=>⟨_,rfl,ff rfl ?_⟩⟩
 have o2:Ob w R w2 a v d (openA g acts k0):=⟨h2,fun z hz=>by have:=lo2 z hz; have:=b3.size; omega,b3.no m2⟩
 clear h2 lo2 m2
 generalize openA g acts k0=A at *
 have hb:=allA_b (A:=A) o2.ao.ok
 have hp:∀ x∈allA A,1<=x.2/\x.2<=128:=plAll_pos
 have hp1:∀ x∈allA A,1<=x.2:=fun x hx=>(hp x hx).1
 have hsum:=sum_all o2.ao.hd
 have hsc:=score_eq hp1
 refine lAll_c o2.ao fun w3 R3 p c m3 s3 h3 f3 _=>⟨_,_,_,rfl,?_⟩
 have o3:=o2.go m3 s3 h3
 have hfl:=allR_b (A:=A) o2.ao.ok
 refine rRuns31_c f3 (by omega) fun w4 p21 c21 m4 f4=>⟨_,_,_,rfl,?_⟩
 rw [runsR_all] at f4 |-
 have o4:=o3.no m4
 have l4:=kwOf f4 o3.ao.lt
 refine sizes_c o4.ao fun w5 R5 m5 s5 h5=>⟨_,rfl,?_⟩
 have o5:=o4.go m5 s5 h5
 have l5:=l4.go m5 s5
 obtain ⟨q,w6,w7,e1,e2,o7,x7,m7⟩:=o5.box (cs:=szV (allA A) (allA A).length) zero_szs agg_szs (szV_len _ _) (szV_len _ _) (szV_one _ _)
 have l7:=l5.no m7
 clear o2 o3 o4 o5 l4 l5 m3 s3 h3 m5 s5 h5 f3 f4
 refine ⟨_,w6,e1,w7,e2,?_⟩
 refine ⟨fun z W=>∃ i:Nat,z=[.bool false,.int .i64 ((2 ^ i:Nat):Int),.int .i64 i]/\i<=8/\Mod No w7 W,fun z _=>(8-nI z 2).toNat,⟨0,rfl,Nat.zero_le _,Mod.refl _ _⟩,?_⟩
 rintro z W ⟨i,rfl,hi,m⟩
 have h256:2 ^ i<=256:=Nat.pow_le_pow_right (n:=2) (by omega) hi
 have hpow:(2 ^ (i+1):Nat)=2*2 ^ i:=by rw [Nat.pow_succ,Nat.mul_comm]
 have hsz:=size_eq hp1 i (allA A).length (Nat.le_refl _)
 generalize 2 ^ i=e at *
 have oW:=o7.no m
 have xW:=x7.no m
 have lW:=l7.no m
 refine ⟨_,rfl,cond_of (fun hlt=>?_) (fun hlt=>?_)⟩
 ·have hlt:i<8:=by have:=of_decide_eq_true hlt; omega
  have mW:Mod No w7 (Go.Den.drew W):=m.drew
  have xd:=x7.no mW
  have ld:=l7.no mW
  have ad:Addr.add ⟨q,0,none⟩ ((i:Int).toNat*1)=Addr.add ⟨q,0,none⟩ i:=by rw [show (i:Int).toNat*1=i by omega]
  have ixa:=index_arr (P:=Tryz.prog) (kk:=.i64) (a:=⟨q,0,none⟩) (i:=(i:Int)) arr_szs (by omega) (by omega)
  rw [ad] at ixa
  have ll:Ru (Instr.loadAt 3 (.pointer (some (Addr.add ⟨q,0,none⟩ i)))) (Go.Den.drew W) (.int .i64 (plSize (allA A) i (allA A).length)) (Go.Den.drew W):=xd.at'.at.fld sc_int (szV_at _ _ hlt)
  refine ⟨_,ixa,_,ll,_,rfl,?_⟩
  rw [wrap64 (x:=2*(e:Int)) (by omega) (by omega),wrap64 (x:=2*(e:Int)-1) (by omega) (by omega),wrap64 (x:=(i:Int)+1) (by omega) (by omega)]
  refine rSize31_c ld.ow (by omega) ⟨_,rfl,ll,ff ?_ ?_⟩
  ·rw [bneI,decide_eq_false fun e=>e hsz]
  ·refine ⟨⟨i+1,?_,by omega,mW⟩,by simp [nI,nth]; omega⟩
   rw [hpow]; rfl
 ·refine aFree_c oW.ao fun w10 R10 m10 s10 h10=>⟨_,_,rfl,Share.dup ?_⟩
  have o10:=oW.go m10 s10 h10
  have l10:=lW.go m10 s10
  refine score_c o10.ao fun w11 R11 m11 s11 h11=>⟨_,rfl,?_⟩
  have o11:=o10.go m11 s11 h11
  have l11:=l10.go m11 s11
  refine rScore31_c l11.ow hp (by omega) fun w12 m12=>⟨_,rfl,tt (by rw [hsc]; simp) ?_⟩
  have l12:=l11.no m12
  refine planRoom_c (o11.no m12).ao fun w13 R13 m13 s13 h13=>⟨_,rfl,?_⟩
  have o13:=(o11.no m12).go m13 s13 h13
  have l13:=l12.go m13 s13
  refine rRoom31_c l13.ow hp (by omega) ⟨_,rfl,tt (by simp) ?_⟩
  refine planAll_c o13.ao fun w15 R15 p61 c61 m15 s15 h15 f15=>⟨_,_,_,rfl,?_⟩
  have o15:=o13.go m15 s15 h15
  refine lTaken_c f15.ow (by omega) fun w16 p62 c62 m16 f16=>⟨_,_,_,rfl,?_⟩
  refine rSum31_c f16 hp (by omega) ⟨_,rfl,tt (by rw [hsum]; simp) ?_⟩
  exact known31_c fun w18 m18=>⟨_,rfl,_,rfl,rfl,(o15.no m16).md.no m18⟩
end
end Go.Proofs.YtelhlihjihklbaaGreat
end
section
open Go Go.Den
namespace Go.Proofs.YtelhlihjihklbaaGreat
open Go.ChangeShapes Go.WideShapes Go.RowKit Go.Joins
section
variable {H:Type} {enc:TypeId×Value->H} {w:World} {base:Nat} {held:Bool}
theorem open_act7 {n:Nat} {cs:List Value} {y:DataW H×List MemPlace} (hl:cs.length=3) (h:DataW.trod enc Tryz.prog w base (fun _=>true) held n 141 cs=some y) :
  ∃ x:Ab,cs=abV x/\x.2.1<=9223372036854775807:=by
 match cs,hl with
 | [c0,c1,c2],_ =>
  obtain ⟨y0,y1,y2,n',hx,_,h0,h1,h2⟩:=trod_st3 Tryz.underlying141 h
  have k0:Tryz.prog.cellsOf 3=1:=by kernel_rfl
  have k1:Tryz.prog.cellsOf 4=1:=by kernel_rfl
  simp only [k0,k1] at h0 h1 h2
  have h0:DataW.trod enc Tryz.prog w base (fun _=>true) held n' 3 [c0]=some y0:=h0
  have h1:DataW.trod enc Tryz.prog w base (fun _=>true) held n' 3 [c1]=some y1:=h1
  have h2:DataW.trod enc Tryz.prog w base (fun _=>true) held n' 4 [c2]=some y2:=h2
  obtain ⟨m0,e0,_,u0⟩:=DataW.trod_int Tryz.underlying3 h0
  obtain ⟨m1,e1,_,u1⟩:=DataW.trod_int Tryz.underlying3 h1
  obtain ⟨b2,e2,_⟩:=DataW.trod_bool Tryz.underlying4 h2
  have e0:c0=.int .i64 m0:=by simpa using e0
  have e1:c1=.int .i64 m1:=by simpa using e1
  have e2:c2=.bool b2:=by simpa using e2
  subst e0 e1 e2
  exact ⟨(m0,m1,b2),rfl,(i64_bounds u1).2⟩
set_option maxRecDepth 100000 in
theorem open_acts7 {r:Reach} {b0:Nat} {v:Value} {d:DataW H} {ps:List MemPlace} (hval:Value.okWide Tryz.prog w r b0 41 v) (hd:DataW.Trod enc Tryz.prog w base (fun _=>true) held 41 v d ps) :
  ∃ a l c acts,v=.slice a l c/\acts.length=l/\Row w a (rowB acts)/\∀ x∈acts,x.2.1<=9223372036854775807:=by
 obtain ⟨fuel,hf⟩:=hd
 obtain ⟨a,l,c,rfl⟩:=okWide_slice Tryz.underlying41 hval
 rcases Go.Deep.open_slice Tryz.underlying41 hf with ⟨h1,h2⟩ | ⟨a',l',c',m,n,DD,Pl,h1,_,hlc,hm,hmm,hx,hel⟩
 ·simp [Value.cells] at h1
  obtain ⟨rfl,rfl,rfl⟩:=h1
  exact ⟨none,0,0,[],rfl,rfl,.inl rfl,fun x hx=>by cases hx⟩
 ·simp [Value.cells] at h1
  obtain ⟨rfl,rfl,rfl⟩:=h1
  rw [if_pos rfl] at hmm
  subst hmm
  have k3:Tryz.prog.cellsOf 141=3:=by kernel_rfl
  rw [k3] at hel
  by_cases h0:l=0
  ·exact ⟨some a',l,m,[],rfl,by simp [h0],.inl rfl,fun x hx=>by cases hx⟩
  obtain ⟨b,off,spot⟩:=a'
  have hspot:spot=none:=by
   obtain ⟨cs',hc,ht⟩:=hel 0 (by omega)
   obtain ⟨_,hcl,hcc⟩:=World.cells?_some hc
   obtain ⟨x,rfl,_⟩:=open_act7 hcl ht
   have h00:=hcc 0 (by omega)
   have:=World.cell?_spot (h00.trans rfl)
   simpa [Addr.add] using this
  subst hspot
  have each:∀ i∈List.range l,∃ x:Ab,(∀ (j:Nat) (v:Value),(abV x)[j]?=some v->w.cell? ⟨b,off+(i*3+j),none⟩=some v)/\x.2.1<=9223372036854775807:=by
   intro i hi
   have hi:=List.mem_range.1 hi
   obtain ⟨cs',hc,ht⟩:=hel i (by omega)
   obtain ⟨_,hcl,hcc⟩:=World.cells?_some hc
   obtain ⟨x,rfl,hb⟩:=open_act7 hcl ht
   refine ⟨x,fun j v hj=>?_,hb⟩
   have hj3:=(List.getElem?_eq_some_iff.1 hj).1
   have:=hcc j (by have:(abV x).length=3:=rfl; omega)
   rw [add_none,add_none,Nat.add_assoc] at this
   rw [this,hj]
  obtain ⟨ys,hyl,hys⟩:=list_choose3 (p:=fun (i:Nat) (x:Ab)=>(∀ (j:Nat) (v:Value),(abV x)[j]?=some v->w.cell? ⟨b,off+(i*3+j),none⟩=some v)/\x.2.1<=9223372036854775807) (List.range l) each
  rw [List.length_range] at hyl
  have hfl:(rowB ys).length=ys.length*3:=flat_len' abV_len ys
  refine ⟨some ⟨b,off,none⟩,l,m,ys,rfl,hyl,.inr ⟨b,off,rfl,At.of_cells (by rw [hfl]; omega) fun j hj=>?_⟩,fun x hx=>?_⟩
  ·have hj':j<l*3:=by rw [hfl,hyl] at hj; exact hj
   have hi:j / 3<l:=by omega
   have hyi:ys[j / 3]?=some ys[j / 3]:=by simp [hyl,hi]
   have hp:=(hys (j / 3) (j / 3) ys[j / 3] (by simp [hi]) hyi).1
   obtain ⟨u,hu⟩:∃ u,(abV ys[j / 3])[j % 3]?=some u:=⟨(abV ys[j / 3])[j % 3]'(by show j % 3<3; omega),List.getElem?_eq_getElem _⟩
   have h4:=flat_cell abV_len hyi hu
   have h5:=hp (j % 3) u hu
   rw [show j / 3*3+j % 3=j by omega] at h4 h5
   rw [h5]
   have h4:(rowB ys)[j]?=some u:=h4
   rw [List.getElem?_eq_getElem hj] at h4
   exact h4.symm
  ·obtain ⟨i,hi,e⟩:=List.getElem_of_mem hx
   exact (hys i i x (by rw [List.getElem?_range (by omega)]) (by rw [List.getElem?_eq_getElem hi,e])).2
end
end Go.Proofs.YtelhlihjihklbaaGreat
end
