/- Parts of the proof, in order: what the statement leans on. -/
import Derived.Test.YtelhlihjihklbaaGreatBg
open Go.Proofs Go.Proofs.YtelhlihjihklbaaGreat
section
open Go Go.Den Go.Proofs
namespace Go.Z
def D6(A:Az)(W:List Wt):Az:=⟨A.s,A.V,W,A.nx,A.hs,A.fz⟩
def fzA(A:Az)(k:Int)(on:Bool):Az:=⟨A.s,A.V,A.W,A.nx,A.hs,fun n=>if n=k then on else A.fz n⟩
def EY(A:Az)(k:Int)(on:Bool):Az×Int:=if k<0\/A.s.geo.gs<=k then(A,3)else(fzA A k on,0)
def Kl(A:Az)(x:Int×Int)(th tk:Bool)(n:Int):Az×Int :=
 if th=false then(A,3)else if (!tk || A.W.any fun y=>Ke y.2 x)=true then(A,6)else(D6 A (SI A.W (n,x)),HZ A.W x.1)
def kF(A:Az)(b n:Int):Az×Int:=Kl A (1,b) (Gn A.s.geo b).2.2 (C5 A b) n
def KL(A:Az)(x:Int×Int):Az:=if x.1=1 then(DY true A (Gn A.s.geo x.2).1.toNat (Gn A.s.geo x.2).2.1 false).1 else if x.1=2 then(DY false A (Oq A.s.geo x.2).1.toNat (Oq A.s.geo x.2).2.1 false).1 else A
def CK(l:List (Int×Int))(A:Az):Nat->Az
 | 0=>A
 | i+1=>KL (CK l A i) (l.getD i (0,0))
def GW(A:Az):List (Int×Int):=(A.W.filter (Bq A.V)).map (·.2)
def Om(A:Az):Az:=CK (GW A) (D6 A (A.W.filter fun x=>!Bq A.V x)) (GW A).length
theorem Qe(V:Ps)(g:Gm)(k:Nat)(h:Hd):(NG V g k h).last<=V.last+1:=by
 unfold NG Er;split
 ·exact Ld _
 ·omega
theorem lU(kd:Bool)(A:Az)(k:Nat)(i:Int)(on:Bool):(DY kd A k i on).1.s=A.s/\(DY kd A k i on).1.V.last<=A.V.last+1/\(DY kd A k i on).1.W=A.W/\(DY kd A k i on).1.fz=A.fz:=by
 unfold DY;split
 ·exact⟨rfl,by simp only;omega,rfl,rfl⟩
 ·exact⟨rfl,Qe _ _ _ _,rfl,rfl⟩
theorem Ac2(A:Az)(x:Int×Int):(KL A x).s=A.s/\(KL A x).V.last<=A.V.last+1/\(KL A x).W=A.W/\(KL A x).fz=A.fz:=by
 unfold KL;split
 ·exact lU _ _ _ _ _
 split
 ·exact lU _ _ _ _ _
 ·exact⟨rfl,by omega,rfl,rfl⟩
theorem Wa(l:List (Int×Int))(A:Az):∀ i,(CK l A i).s=A.s/\(CK l A i).V.last<=A.V.last+i/\(CK l A i).W=A.W/\(CK l A i).fz=A.fz
 | 0=>⟨rfl,Ld _,rfl,rfl⟩
 | i+1=>by
  obtain⟨h1,h2,h3,h4⟩:=Wa l A i;obtain⟨k1,k2,k3,k4⟩:=Ac2 (CK l A i) (l.getD i (0,0));exact⟨k1.trans h1,by show(KL (CK l A i) (l.getD i (0,0))).V.last<=_;omega,k3.trans h3,k4.trans h4⟩
section
variable{w w':World}{R R':Nat->Prop}{a v d:Nat}{A:Az}{K:Value->World->Prop}
theorem AaY:DQ Tryz.prog 129=true:=by kernel_rfl
theorem Ao.wk(h:Ao R w a v d A):∃(w0:World)(Rs Z:Nat->Prop)(sp wk:Nat),Pz w0 Rs w sp d A.V/\Wk 199 Z w wk A.W/\(∀ x,Z x->x<w.heap.size)/\A1 w v 0 (vV A.s sp wk A.nx) /\
  ∀(w':World)(Z':Nat->Prop)(W':List Wt),Ab (fun z=>z=wk) w w'->(∀ x,Z x->Z' x)->Wk 199 Z' w' wk W'->Ab R w w'/\∃ R',Sb R R' w/\Ao R' w' a v d (D6 A W')/\∀ z,w.heap.size<=z->Z' z->¬ R' z:=by
 have hlt:=h.lt;have hhd:=h.hd;obtain⟨Rv,hv,hRv,hc⟩:=h.vol;have hvl:=hv.lt;obtain⟨w0,Rs,Z,sp,wk,a1,a2,a3,a4,a5,a6,a7⟩:=hv.op;refine⟨w0,Rs,Z,sp,wk,a1,a2,a3,a4,fun w' Z' W' m hZ hW=>?_⟩;obtain⟨M,hV⟩:=a7 w' Z' W' m hZ hW;obtain⟨c1,c2,c3⟩:=hc w' _ A.V W' A.nx A.hs M (fun z hz=>hz.imp id (·.1)) hV hhd;refine⟨c1,_,c2,c3,fun z hz hZz e=>?_⟩;rcases e with e | e | e
 ·have:=hlt z e;omega
 ·have:=hvl z e;omega
 ·exact e.2.2 hZz
theorem Y2{sp wk:Nat}(h:A1 w v 0 (vV A.s sp wk A.nx))(hk:K (.pointer (some ⟨wk,0,none⟩)) w):A8 Tryz.prog EG #[.pointer (some ⟨v,0,none⟩)] w K:=by
 apply UB;unfold Nb;exact ff rfl ⟨_,rfl,_,h.at.fld AaY rfl,hk⟩
theorem UR{sp wk:Nat}(h:A1 w v 0 (vV A.s sp wk A.nx))(hk:K (.pointer (some ⟨sp,0,none⟩)) w):A8 Tryz.prog CC #[.pointer (some ⟨v,0,none⟩)] w K:=by
 apply TS;unfold Mw;exact ff rfl ⟨_,rfl,_,h.at.fld NF rfl,hk⟩
theorem mR{k:Int}{on:Bool}(h:Ao R w a v d A)(hk:∀ w' R',Ab R w w'->Sb R R' w->Ao R' w' a v d (EY A k on).1->K (.int .i64 (EY A k on).2) w'):A8 Tryz.prog EC #[.pointer (some ⟨a,0,none⟩),.int .i64 k,.bool on] w K:=by
 apply MQ;unfold H6;refine ff rfl (Ac.cut (fun z w2=>z=[.bool (decide (k<0\/A.s.geo.gs<=k))]/\Ab No w w2) (Aa (fun h0=>⟨?_,Ab.refl _ _⟩) (fun h0=>⟨_,rfl,_,h.pv,Jj h fun w1 m1=>⟨_,rfl,A.s.geo.gs,Xl _,?_,m1⟩⟩)) ?_)
 ·rw[Le (Or.inl (Lc h0))]
 ·have h0:=Lb h0;exact Ab2 (by omega)
 rintro z w2 ⟨rfl,m2⟩;have h2:=h.nos m2;have hda:=h.dlt;refine⟨_,rfl,Aa (fun hb=>?_) (fun hb=>?_)⟩
 ·have e:EY A k on=(A,3):=by unfold EY;rw[if_pos (Lc hb)]
  rw[e]at hk;exact hk w2 R (m2.mono fun _ _ e=>e.elim) (Sb.refl _ _) h2
 ·have e:EY A k on=(fzA A k on,0):=by unfold EY;rw[if_neg (Lb hb)]
  rw[e]at hk;obtain⟨Rv,fm,L,k1,k2,k3,k4,k5,k6,k7,k8⟩:=h2;obtain⟨w3,u1,u2,u3,u4⟩:=Hw (P:=Tryz.prog) (k:=k) (v:=.bool on) AcA k3;refine⟨_,rfl,_,k2.at.fld AcD rfl,w3,u1,hk w3 R ?_ (Sb.refl _ _) ⟨Rv,fm,_,k1.keep u3 (fun z hz e=>by have e:z=fm:=e;rw[e]at hz;exact k5.2.1 hz) (fun z e=>by have e:z=fm:=e;rw[e];exact k5.2.2.2.2),k2.keep u3 (fun e=>k5.2.2.1 e),u2,fun n=>?_,k5,k6,fun z hz=>by rw[u4];exact k7 z hz,k8⟩⟩
  ·exact(m2.mono fun _ _ e=>e.elim).trans u3 fun x hx e=>by have e:x=fm:=e;rw[e];exact k6 fm (.inr (.inr rfl))
  ·show(Ay (Km k (.bool on) L) n).getD (.bool false)=.bool (if n=k then on else A.fz n);rw[Ep];by_cases e:n=k
   ·rw[if_pos e.symm,if_pos e];rfl
   ·rw[if_neg fun x=>e x.symm,if_neg e];exact k4 n
theorem qZ{x:Int×Int}{th tk:Bool}{n:Int}(h:Ao R w a v d A)(hn:A.W.length<=4999)(hk:∀ w' R',Ab R w w'->Sb R R' w->Ao R' w' a v d (Kl A x th tk n).1->K (.int .i64 (Kl A x th tk n).2) w') :
  A8 Tryz.prog Ff #[.pointer (some ⟨a,0,none⟩),.agg ⟨I4 x⟩,.bool th,.bool tk,.int .i64 n] w K:=by
 apply O6;unfold Ig;obtain⟨w1,b1,b2,b3,b4⟩:=AC (P:=Tryz.prog) (w:=w) (T:=126) (cs:=I4 x);refine⟨_,w1,b1,Aa (fun h0=>?_) (fun h0=>?_)⟩
 ·have e:Kl A x th tk n=(A,3):=by unfold Kl;rw[if_pos (by simpa using h0)]
  rw[e]at hk;exact hk w1 R (b3.mono fun _ _ e=>e.elim) (Sb.refl _ _) (h.nos b3)
 have h0:¬ th=false:=by simpa using h0
 have md:Ab No w (Go.Den.Ah w1):=b3.drew;have h1:=h.nos md;have q1:=b2.drew;obtain⟨w0,Rs,Z,sp,wk,a1,a2,a3,a4,a5⟩:=h1.wk;refine Ac.cut (fun z w4=>z=[.bool (!tk || A.W.any fun y=>Ke y.2 x)]/\Ab No (Go.Den.Ah w1) w4) (Aa (fun ht=>⟨?_,Ab.refl _ _⟩) (fun ht=>⟨_,rfl,_,h1.pv,_,q1.at.all Du rfl,Y2 a4 ⟨_,rfl,q1.at.all Du rfl,tO a2 (by omega) fun w3 m3=>⟨_,rfl,?_,m3⟩⟩⟩)) ?_
 ·rw[ht];rfl
 ·rw[ht];rfl
 rintro z w4 ⟨rfl,m4⟩;have m14:Ab No w (Go.Den.Ah w4):=(md.no m4).drew;refine⟨_,rfl,Aa (fun hb=>?_) (fun hb=>?_)⟩
 ·have e:Kl A x th tk n=(A,6):=by unfold Kl;rw[if_neg h0,if_pos hb]
  rw[e]at hk;exact hk w4 R ((md.no m4).mono fun _ _ e=>e.elim) (Sb.refl _ _) (h1.nos m4)
 ·have e:Kl A x th tk n=(D6 A (SI A.W (n,x)),HZ A.W x.1):=by unfold Kl;rw[if_neg h0,if_neg (by rw[hb];decide)]
  rw[e]at hk;have h4:=h.nos m14;have q4:=(q1.keep m4 id).drew;obtain⟨w0,Rs,Z,sp,wk,a1,a2,a3,a4,a5⟩:=h4.wk;refine⟨_,rfl,_,h4.pv,_,q4.at.all Du rfl,Y2 a4 ⟨_,rfl,q4.at.all Du rfl,tM (n:=n) (k:=x.1) (m:=x.2) a2 (by omega) a3 fun w6 m6 hW=>⟨_,rfl,?_⟩⟩⟩;obtain⟨M,R',s,hA,_⟩:=a5 w6 Z _ m6 (fun _ e=>e) hW;exact hk w6 R' ((m14.mono fun _ _ e=>e.elim).trans M fun x _ e=>e) (s.up m14.size) hA
theorem mX(x y:Int):Al (Instr.build 126 #[(0,.int .i64 x),(1,.int .i64 y)]) (.agg ⟨I4 (x,y)⟩):=fun w=>by kernel_rfl
theorem qF:HT Tryz.prog 126=some (I4 (0,0)):=by kernel_rfl
theorem qY{b n:Int}(h63:b<=9223372036854775807)(h:Ao R w a v d A)(hn:A.W.length<=4999)(hk:∀ w' R',Ab R w w'->Sb R R' w->Ao R' w' a v d (kF A b n).1->K (.int .i64 (kF A b n).2) w') :
  A8 Tryz.prog C7 #[.pointer (some ⟨a,0,none⟩),.int .i64 b,.int .i64 n] w K:=by
 apply Kq;unfold FV;refine ff rfl (Y1 h63 h fun w1 m1=>⟨_,_,rfl,?_⟩);obtain⟨w2,b1,b2,b3,b4⟩:=A9 (P:=Tryz.prog) (w:=w1) (T:=101) Fb;obtain⟨w3,c1,c2,c3,c4⟩:=b2.put (T:=101) (vs:=pV ((Gn A.s.geo b).1,(Gn A.s.geo b).2.1)) AU rfl rfl (GI _);have M3:Ab No w w3:=m1.no (b3.own c3 (Ld _));have z3:=M3.size;refine⟨_,w2,b1,w3,c1,_,mX _ _,KK h63 (h.nos M3) fun w4 R4 m4 s4 h4=>⟨_,rfl,qZ h4 hn fun w5 R5 m5 s5 h5=>⟨_,rfl,?_⟩⟩⟩
 have z4:=m4.size;refine hk w5 R5 ?_ ((s4.trans s5 z4).up z3) h5;exact(M3.mono fun _ _ e=>e.elim).trans (Ab.sb m4 s4 m5) fun x _ e=>e
set_option maxRecDepth 8000 in
theorem WQ(h:Ao R w a v d A)(hn:A.W.length<=4999)(hW:∀ x∈A.W,x.2.2<=9223372036854775807)(hlast:A.V.last+A.W.length<=1000000)(hk:∀ w' R',Ab R w w'->Sb R R' w->Ao R' w' a v d (Om A)->K (.int .i64 (GW A).length) w') :
  A8 Tryz.prog BM #[.pointer (some ⟨a,0,none⟩)] w K:=by
 apply MR;unfold H7;have md:Ab No w (Go.Den.Ah w):=(Ab.refl _ _).drew;have h1:=h.nos md;obtain⟨w0,Rs,Z,sp,wk,a1,a2,a3,a4,a5⟩:=h1.wk;refine ff rfl ⟨_,rfl,_,h1.pv,_,rfl,_,h1.pv,Y2 a4 ⟨_,rfl,h1.pv,UR a4 ⟨_,rfl,tN a1 a2 (by omega) a3 fun w3 p c m3 hW3 o3=>⟨_,_,_,rfl,?_⟩⟩⟩⟩;obtain⟨M3,R3,s3,h3,nz3⟩:=a5 w3 _ _ m3 (fun _ e=>.inl e) hW3;have np:∀ q,p=some q->¬ R3 q.block:=fun q hq=>nz3 _ (o3.base hq).1 (.inr ⟨q,hq,rfl⟩)
 have hlen:(A.W.filter (Bq A.V)).length=(GW A).length:=by unfold GW;rw[jL]
 have hll:(GW A).length<=A.W.length:=by rw[<- hlen];exact Lg2 _ _
 have hb63:∀ x∈GW A,x.2<=9223372036854775807:=fun x hx=>by
  obtain⟨y,hy,rfl⟩:=Li.1 hx;exact hW y ((QM.1 hy).1)
 have eS:Om A=CK (GW A) (D6 A (A.W.filter fun x=>!Bq A.V x)) (GW A).length:=rfl;rw[eS]at hk;have hl3:(D6 A (A.W.filter fun x=>!Bq A.V x)).V.last+(GW A).length<=1000000:=by show A.V.last+_<=_;omega
 rw[hlen];rw[hlen,show(A.W.filter (Bq A.V)).map (·.2)=GW A from rfl]at o3;generalize D6 A (A.W.filter fun x=>!Bq A.V x)=A3 at *;generalize GW A=l at *;have zd:(Go.Den.Ah w).heap.size=w.heap.size:=rfl;have hdl:=h.dlt;have M03:Ab R w w3:=(md.mono fun _ _ e=>e.elim).trans M3 fun x _ e=>e
 refine⟨fun x W=>∃(i:Nat)(R':Nat->Prop),x=[.int .i64 i]/\i<=l.length/\Ao R' W a v d (CK l A3 i)/\Sb R R' w/\Ab R w W/\Ow Tryz.prog W w.heap.size 128 2 p l.length c (LA l)/\(∀ q,p=some q->¬ R' q.block),fun x _=>(l.length-nI x 0).toNat,
  ⟨0,R3,rfl,Lz5 _,h3,s3,M03,o3,np⟩,?_⟩
 rintro x W ⟨i,R',rfl,hi,h4,s4,m4,o4,n4⟩;refine⟨_,rfl,Aa (fun hlt=>?_) (fun hlt=>?_)⟩
 ·have hlt:i<l.length:=by have:=Lc hlt;omega
  have hx:l[i]?=some (l.getD i (0,0)):=by rw[Lj,Lk hlt];rfl
  have hx63:=hb63 _ (Ly hx);have eT:CK l A3 (i+1)=KL (CK l A3 i) (l.getD i (0,0)):=rfl;obtain⟨g,rfl,hg,ix,ld,_⟩:=AbZ (T:=128) (Te:=126) o4 rfl Vl Du (by omega) hx;generalize l.getD i (0,0)=y at *;obtain⟨_,t2,t3,t4⟩:=Wa l A3 i;generalize CK l A3 i=A4 at *;have zW:=m4.size;obtain⟨w5,d1,d2,d3,d4⟩:=A9 (P:=Tryz.prog) (w:=W) (T:=126) qF
  obtain⟨w6,e1,e2,e3,e4⟩:=d2.put (T:=126) (vs:=I4 y) Du rfl rfl (Y3 _);have m6:Ab No W w6:=d3.own e3 (Ld _);have h6:=h4.nos m6;have z6:=m6.size;refine⟨_,ix,_,ld W (Ab.refl _ _),_,w5,d1,w6,e1,_,e2.at.fld (v:=.int .i64 y.1) Aj rfl,?_⟩
  -- what is to be shown of each way
  have done:∀(A5:Az),KL A4 y=A5->∀ w11 R11,Ab R' w6 w11->Sb R' R11 w6->Ao R11 w11 a v d A5->∃ R'',Ao R'' w11 a v d (CK l A3 (i+1))/\Sb R R'' w/\Ab R w w11/\Ow Tryz.prog w11 w.heap.size 128 2 (some ⟨g,0,none⟩) l.length c (LA l)/\∀ q,(some ⟨g,0,none⟩:Option Addr)=some q->¬ R'' q.block:=fun A5 hA5 w11 R11 m11 s11 h11=>by
   refine⟨R11,by rw[eT,hA5];exact h11,s4.trans (s11.up z6) zW,Ab.sb (m4.no m6) s4 m11,(o4.nos m6).keep m11 (fun q hq=>n4 q hq),fun q hq e=>?_⟩;rcases s11 _ e with e | e
   ·exact n4 q hq e
   ·have:=(o4.base hq).2;omega
  refine Ac.cut (fun z w18=>z=[]/\∃ R'',Ao R'' w18 a v d (CK l A3 (i+1))/\Sb R R'' w/\Ab R w w18/\Ow Tryz.prog w18 w.heap.size 128 2 (some ⟨g,0,none⟩) l.length c (LA l)/\∀ q,(some ⟨g,0,none⟩:Option Addr)=some q->¬ R'' q.block) (Aa (fun hk1=>?_) (fun hk1=>?_)) ?_
  ·have hk1:y.1=1:=by simpa using hk1
   have eA:KL A4 y=(DY true A4 (Gn A4.s.geo y.2).1.toNat (Gn A4.s.geo y.2).2.1 false).1:=by unfold KL;rw[if_pos hk1]
   obtain⟨g1,g2,g3,g4⟩:=iU h6.ok y.2;refine⟨_,e2.at.fld (v:=.int .i64 y.2) Aj rfl,Y1 hx63 h6 fun w7 m7=>⟨_,_,rfl,?_⟩⟩;obtain⟨k,hk'⟩:=Wq g1;rw[hk',Lr]at eA;rw[hk']at g2 |-;obtain⟨w8,f1,f2,f3,f4⟩:=A9 (P:=Tryz.prog) (w:=w7) (T:=101) Fb;obtain⟨w9,y1,y2,y3,y4⟩:=f2.put (T:=101) (vs:=pV ((k:Int),(Gn A4.s.geo y.2).2.1)) AU rfl rfl (GI _)
   have m9:Ab No w6 (Go.Den.Ah w9):=(m7.no (f3.own y3 (Ld _))).drew;refine⟨_,w8,f1,w9,y1,_,y2.drew.at.all AU rfl,WP fun w10 m10=>⟨_,rfl,(y2.drew.keep m10 id).at.all AU rfl,?_⟩⟩;have M10:=m9.no m10;refine iZ (h6.nos M10) g2 (by omega) fun w11 R11 m11 s11 h11=>⟨_,_,rfl,rfl,done _ eA w11 R11 ((M10.mono fun _ _ e=>e.elim).trans m11 fun x _ e=>e) (s11.up M10.size) h11⟩
  ·have hk1:¬ y.1=1:=by simpa using hk1
   refine Ac.cut (fun z w18=>z=[]/\∃ R'',Ao R'' w18 a v d (CK l A3 (i+1))/\Sb R R'' w/\Ab R w w18/\Ow Tryz.prog w18 w.heap.size 128 2 (some ⟨g,0,none⟩) l.length c (LA l)/\∀ q,(some ⟨g,0,none⟩:Option Addr)=some q->¬ R'' q.block) (Aa (fun hk2=>?_) (fun hk2=>?_)) ?_
   ·have hk2:y.1=2:=by simpa using hk2
    have eA:KL A4 y=(DY false A4 (Oq A4.s.geo y.2).1.toNat (Oq A4.s.geo y.2).2.1 false).1:=by unfold KL;rw[if_neg hk1,if_pos hk2]
    obtain⟨g1,g2,g3,g4⟩:=wA h6.ok y.2;refine⟨_,e2.at.fld (v:=.int .i64 y.2) Aj rfl,rA hx63 h6 fun w7 m7=>⟨_,_,rfl,?_⟩⟩;obtain⟨k,hk'⟩:=Wq g1;rw[hk',Lr]at eA;rw[hk']at g2 |-;obtain⟨w8,f1,f2,f3,f4⟩:=A9 (P:=Tryz.prog) (w:=w7) (T:=101) Fb;obtain⟨w9,y1,y2,y3,y4⟩:=f2.put (T:=101) (vs:=pV ((k:Int),(Oq A4.s.geo y.2).2.1)) AU rfl rfl (GI _)
    have m9:Ab No w6 (Go.Den.Ah w9):=(m7.no (f3.own y3 (Ld _))).drew;refine⟨_,w8,f1,w9,y1,_,y2.drew.at.all AU rfl,ZM fun w10 m10=>⟨_,rfl,(y2.drew.keep m10 id).at.all AU rfl,?_⟩⟩;have M10:=m9.no m10;refine iZ (h6.nos M10) g2 (by omega) fun w11 R11 m11 s11 h11=>⟨_,_,rfl,rfl,done _ eA w11 R11 ((M10.mono fun _ _ e=>e.elim).trans m11 fun x _ e=>e) (s11.up M10.size) h11⟩
   ·have hk2:¬ y.1=2:=by simpa using hk2
    have eA:KL A4 y=A4:=by unfold KL;rw[if_neg hk1,if_neg hk2]
    exact⟨rfl,done _ eA w6 R' (Ab.refl _ _) (Sb.refl _ _) h6⟩
   ·rintro z w18 ⟨rfl,hz⟩;exact⟨rfl,hz⟩
  ·rintro z w18 ⟨rfl,R'',k1,k2,k3,k4,k5⟩;rw[Ag (x:=(i:Int)+1) (by omega) (by omega)];exact⟨⟨i+1,R'',rfl,by omega,k1,k2,k3,k4,k5⟩,by simp[nI,Ap];omega⟩
 ·have hlt:=Lb hlt;have:i=l.length:=by omega
  subst this;exact hk W R' m4 s4 h4
end
theorem bV{op:Int->Bool}{l:List Ch}(h:∀ x∈l,x.after=[]):∀ n,n<=l.length->∀ x∈l.take n,(x.id:Int)∈C6 op l n
 | 0,_,x,hx=>by simp at hx
 | n+1,hn,x,hx=>by
  have ih:=bV (op:=op) h n (by omega);have hl:l[n]?=some l[n]:=Lk (by omega);have hm:=Tx (l:=l) (n:=n) (by omega);have htk:l.take (n+1)=l.take n++[l[n]]:=Ll (by omega);have hb:KQ op (l.take n) (C6 op l n) l[n]=false:=by
   unfold KQ;rw[h _ hm,List.any_nil,jF];refine Lg3.2 fun y hy=>?_;rw[List.contains_iff_mem.2 (ih y hy)];simp
  have e:C6 op l (n+1)=C6 op l n++[(l[n].id:Int)]:=by
   show(match l[n]? with | some c=>if KQ op (l.take n) (C6 op l n) c=true then C6 op l n else C6 op l n++[(c.id:Int)] | none=>C6 op l n)=_;rw[hl];simp only;rw[hb,if_neg (by decide)]
  rw[e];rw[htk]at hx;rcases Lq.1 hx with hx | hx
  ·exact Lb3 _ (ih x hx)
  ·have:x=l[n]:=by simpa using hx
   rw[this];simp
theorem tU{op:Int->Bool}{l:List Ch}(h:∀ x∈l,x.after=[]){x:Ch}(hx:x∈l):(x.id:Int)∈Ia op l:=bV h l.length (Ld _) x (by rw[xG];exact hx)
def qG(V:Ps):Prop:=∀ x∈V.all,x.after=[]/\x.out=false
theorem lE{V:Ps}{n f:Int}{data:Bk}{after:List Int}(h:Jv V n f data after=0){y:Ch}:y∈(Er V n f data after).all↔y=GP V n.toNat f.toNat data after\/y∈V.all:=by
 have e:Er V n f data after=KM V (GP V n.toNat f.toNat data after):=by unfold Er;rw[if_pos h]
 rw[e];generalize hx:GP V n.toNat f.toNat data after=x;have hall:(BE V x.b).all=V.all:=Jk;obtain⟨o,ho,hob⟩:=YS (V:=V) (b:=x.b);rw[<- hall];show y∈((BE V x.b).ons.map fun o=>if o.b=x.b then { o with l:=o.l++[x] }else o).flatMap (·.l)↔_;unfold Ps.all;simp only[yA,Li];constructor
 ·rintro⟨_,⟨p,hp,rfl⟩,hy⟩;by_cases c:p.b=x.b
  ·rw[if_pos c]at hy;rcases Lq.1 hy with hy | hy
   ·exact .inr ⟨p,hp,hy⟩
   ·exact .inl (by simpa using hy)
  ·rw[if_neg c]at hy;exact .inr ⟨p,hp,hy⟩
 ·rintro(rfl|⟨p,hp,hy⟩)
  ·exact⟨_,⟨o,ho,rfl⟩,by rw[if_pos hob];simp⟩
  ·refine⟨_,⟨p,hp,rfl⟩,?_⟩;split
   ·exact Lb3 _ hy
   ·exact hy
theorem qG.pat{V:Ps}(h:qG V)(n f:Int)(data:Bk):qG (Er V n f data []):=by
 by_cases he:Jv V n f data []=0
 ·intro y hy;rcases(lE he).1 hy with rfl | hy
  ·exact⟨rfl,rfl⟩
  ·exact h y hy
 ·have:Er V n f data []=V:=by unfold Er;rw[if_neg he]
  rw[this];exact h
theorem wU{V:Ps}{n:Int}{y:Ch}(h:Kn V n=0)(hy:y∈(Jw V n).all):∃ x∈V.all,y=By V n.toNat x:=by
 have e:(Jw V n).ons=Rz V (By V n.toNat):=by unfold Jw;rw[if_pos h]
 unfold Ps.all at hy |-;rw[e]at hy;unfold Rz at hy;simp only[yA,Li]at hy |-;obtain⟨_,⟨o,ho,rfl⟩,hy⟩:=hy;obtain⟨x,hx,rfl⟩:=Li.1 hy;exact⟨x,⟨o,ho,hx⟩,rfl⟩
theorem Ad9{V:Ps}(h:qG V)(hs:Hh V){b:Nat}(hb:Kn V b=0){y:Ch}(hy:y∈(Jw V b).all):y.after=[]/\(y.out=true↔y.b=b):=by
 obtain⟨x,hx,rfl⟩:=wU hb hy;have hL:=Hs V ((b:Int).toNat);refine⟨(hL.after x).trans (h x hx).1,?_⟩;rw[hL.b x];have hbn:(b:Int).toNat=b:=by omega
 unfold By;rw[hbn];by_cases c:x.b=b
 ·rw[if_pos c];refine⟨fun _=>c,fun _=>?_⟩;obtain⟨o,ho,hxo⟩:=yA.1 hx;have hob:=hs.chb o ho x hxo;have hon:=RF hs ho;show(x.out || (bU V b).contains (x.id:Int))=true;have hm:(x.id:Int)∈bU V b:=by
   unfold bU;rw[show((b:Nat):Int)=(o.b:Int) by omega,hon];exact tU (fun z hz=>(h z (yA.2 ⟨o,ho,hz⟩)).1) hxo
  rw[List.contains_iff_mem.2 hm];simp
 ·rw[if_neg c];exact⟨(fun e=>by rw[(h x hx).2]at e;cases e),fun e=>absurd e c⟩
theorem AdL{V:Ps}(h:∀ y∈V.all,y.after=[]):qG (aV V):=by
 intro y hy;rw[rF]at hy;obtain⟨h1,h2⟩:=QM.1 hy;exact⟨h y h1,by simpa using h2⟩
theorem AbF{V:Ps}{n k:Int}(h:Kn V n=0):BQ (Jw V n) k=(BQ V k).map fun o=>{ o with l:=o.l.map (By V n.toNat) }:=by
 have e:(Jw V n).ons=Rz V (By V n.toNat):=by unfold Jw;rw[if_pos h]
 unfold BQ;rw[e];exact Xo V.ons (fun o=>{ o with l:=o.l.map (By V n.toNat) }) (fun _=>rfl) k
theorem rY{V:Ps}(hs:Hh V)(hD:WF V.C.D)(hl:V.C.D.left=-1){b c:Nat}(h:Kn V b=0)(hc:c≠b):AH (Jw V b) c=AH V c:=by
 have hbl:b<V.C.D.vs.length:=by
  refine Ly1 fun e=>?_;unfold Kn AD at h;rw[if_pos (by rw[if_pos (by omega)];decide)]at h;cases h
 unfold AH;rw[AbF h];cases hon:BQ V c with
 | some o =>
  show AW o.base (o.l.map (By V (b:Int).toNat))=AW o.base o.l;exact Oy (Hs _ _) _ _
 | none =>
  show DC (Jw V b).C.D c=DC V.C.D c;have e:(Jw V b).C.D=B8 V.C.D b (EZ V b):=by unfold Jw;rw[if_pos h];rfl
  rw[e,I5 hbl (YL hs hD hbl) hl,if_neg hc]
theorem rX{V:Ps}(hs:Hh V)(hs':Hh (aV V))(hl:V.C.D.left=-1)(hne:∀ o∈V.ons,o.l≠[]){c:Nat}(hc:∀ y∈V.all,y.b=c->y.out=false):AH (aV V) c=AH V c:=by
 unfold AH;cases hon:BQ V c with
 | some o =>
  obtain⟨h1,h2⟩:=CB hon;have hno:∀ x∈o.l,x.out=false:=fun x hx=>hc x (yA.2 ⟨o,h1,hx⟩) (by have:=hs.chb o h1 x hx;omega);have f1:o.l.filter (fun x=>!x.out)=o.l:=qU.2 fun x hx=>by rw[hno x hx];rfl
  have f2:o.l.filter (·.out)=[]:=Lb5.2 fun x hx=>by rw[hno x hx];decide
  have hf:Cu o=some o:=by
   unfold Cu;rw[f1,f2,if_neg (by simpa using hne o h1)];rfl
  have hin:o∈(aV V).ons:=Yv.2 ⟨o,h1,hf⟩
  have:=RF hs' hin
  rw[show(o.b:Int)=(c:Int) by omega]at this;rw[this]
 | none =>
  have hn:=Gj hon;have:BQ (aV V) c=none:=by
   cases ho:BQ (aV V) c with
   | none=>rfl
   | some o =>
    obtain⟨h1,h2⟩:=CB ho;obtain⟨p,hp,hf⟩:=Yv.1 h1;unfold Cu at hf
    split at hf
    ·cases hf
    ·cases hf;exact absurd h2.symm (hn p hp)
  rw[this];show DC (Dj V.C.D) c=DC V.C.D c;exact LT hl c
theorem CJ.same{V V':Ps}{g:Gm}{hs:List Hd}(h:CJ V g hs)(hl:V'.C.D.vs.length=V.C.D.vs.length)(hc:∀ k:Nat,(k:Int)<g.gs->AH V' (2+k*g.gr).toNat=AH V (2+k*g.gr).toNat):CJ V' g hs :=
 ⟨h.1,by rw[hl];exact h.2.1,h.2.2.1,fun k x hx=>by
  rw[hc k (h.lt hx)];exact h.2.2.2 k x hx⟩
theorem jV{xs:List UInt8}{j:Nat}(hj:j<8*xs.length)(hb:AN xs j=false):∀ n:Nat,BK (HO xs j true) n=BK xs n+if j<n then 1 else 0
 | 0=>rfl
 | n+1=>by
  have h:=jV hj hb n;show BK (HO xs j true) n+(if AN (HO xs j true) n=true then 1 else 0)=BK xs n+(if AN xs n=true then 1 else 0)+if j<n+1 then 1 else 0
  rw[h,IB hj];by_cases e:j=n
  ·subst e;rw[if_pos rfl,if_neg (Ll5 _),if_pos rfl,hb,if_neg (by decide),if_pos (show j<j+1 by omega)]
  ·rw[if_neg e];by_cases c:j<n
   ·rw[if_pos c,if_pos (show j<n+1 by omega)];omega
   ·rw[if_neg c,if_neg (show ¬ j<n+1 by omega)];omega
theorem Ny{A A':Az}(hs:A'.s.geo=A.s.geo)(hf:A'.fz=A.fz):∀ n:Nat,(∀ k:Nat,k<n->(Bd A'.s.geo (A'.hs.getD k hZ)).1=(Bd A.s.geo (A.hs.getD k hZ)).1)->(AX A' n).1=(AX A n).1
 | 0,_=>rfl
 | n+1,h=>by
  have ih:=Ny hs hf n fun k hk=>h k (by omega);show(if A'.fz n=true then AX A' n else((AX A' n).1+(Bd A'.s.geo (A'.hs.getD n hZ)).1,(AX A' n).2+(Bd A'.s.geo (A'.hs.getD n hZ)).2)).1=(if A.fz n=true then AX A n else((AX A n).1+(Bd A.s.geo (A.hs.getD n hZ)).1,(AX A n).2+(Bd A.s.geo (A.hs.getD n hZ)).2)).1;rw[hf];split
  ·exact ih
  ·simp only;rw[ih,h n (by omega)]
theorem oB{A:Az}(hH:CJ A.V A.s.geo A.hs){k0:Nat}(hk0:(k0:Int)<A.s.geo.gs){j0:Int}(hf0:A.fz k0=false)(hu:(BT true A.s.geo (A.hs.getD k0 hZ) j0 true).2=0) :
  (AX (BV A k0 (BT true A.s.geo (A.hs.getD k0 hZ) j0 true).1) A.s.geo.gs.toNat).1=(AX A A.s.geo.gs.toNat).1-1/\0<(AX A A.s.geo.gs.toNat).1:=by
 have hg:=hH.1;have hlen:=hH.2.2.1;obtain⟨x,hx,_,ho,hn,hw⟩:=hH.get (k:=(k0:Int)) (by omega) hk0;have hx:A.hs[k0]?=some x:=hx;have hgd:A.hs.getD k0 hZ=x:=by rw[Lj,hx];rfl
 have hu':=hu;rw[hgd]at hu';obtain⟨u1,u2,u3,u4,u5,u6⟩:=RU (g:=A.s.geo) (h:=x) (i:=j0) (on:=true) hw hu';have ht:=LY (g:=A.s.geo);obtain⟨g1,g2,g3,_⟩:=Av.1 hg;have u4:AN x.bs j0.toNat=false:=by simpa using u4
 have hone:(Bd A.s.geo (EN A.s.geo x j0 true).1).1=(Bd A.s.geo x).1-1:=by
  unfold Bd;rw[if_pos u1,if_pos u3];show(A.s.geo.gr-BK (EN A.s.geo x j0 true).1.bs A.s.geo.gr.toNat:Int)=A.s.geo.gr-BK x.bs A.s.geo.gr.toNat-1;rw[u2];show(A.s.geo.gr-BK (HO x.bs j0.toNat true) A.s.geo.gr.toNat:Int)=_;rw[jV (by rw[hw.1];omega) u4,if_pos (by omega)];push_cast;omega
 have hbd:=Od (g:=A.s.geo) (h:=(EN A.s.geo x j0 true).1);have hk:∀ k:Nat,(BV A k0 (BT true A.s.geo (A.hs.getD k0 hZ) j0 true).1).hs.getD k hZ=if k=k0 then(EN A.s.geo x j0 true).1 else A.hs.getD k hZ:=fun k=>by
  show(A.hs.set k0 (BT true A.s.geo (A.hs.getD k0 hZ) j0 true).1).getD k hZ=_;by_cases e:k=k0
  ·subst e;rw[if_pos rfl,Lj,Zp (by omega),hgd];rfl
  ·rw[if_neg e,Lj,ZK (fun x=>e x.symm),<- Lj]
 have hsg:(BV A k0 (BT true A.s.geo (A.hs.getD k0 hZ) j0 true).1).s.geo=A.s.geo:=rfl;have hsf:(BV A k0 (BT true A.s.geo (A.hs.getD k0 hZ) j0 true).1).fz=A.fz:=rfl;generalize BV A k0 (BT true A.s.geo (A.hs.getD k0 hZ) j0 true).1=A' at *;have step:∀ n:Nat,k0<n->(AX A' n).1=(AX A n).1-1/\0<(AX A n).1:=by
  intro n
  induction n with
  | zero=>intro h;omega
  | succ n ih =>
   intro h;have b0:=Uv A n;have b1:=Od (g:=A.s.geo) (h:=A.hs.getD n hZ);show(if A'.fz n=true then AX A' n else((AX A' n).1+(Bd A'.s.geo (A'.hs.getD n hZ)).1,(AX A' n).2+(Bd A'.s.geo (A'.hs.getD n hZ)).2)).1=(if A.fz n=true then AX A n else((AX A n).1+(Bd A.s.geo (A.hs.getD n hZ)).1,(AX A n).2+(Bd A.s.geo (A.hs.getD n hZ)).2)).1-1 /\
    0<(if A.fz n=true then AX A n else((AX A n).1+(Bd A.s.geo (A.hs.getD n hZ)).1,(AX A n).2+(Bd A.s.geo (A.hs.getD n hZ)).2)).1
   rw[hsf];by_cases e:n=k0
   ·subst e;rw[if_neg (by rw[hf0];decide),if_neg (by rw[hf0];decide),hk,if_pos rfl,hsg,hgd]
    have:=Ny (A:=A) (A':=A') hsg hsf n fun k hk'=>by rw[hsg,hk,if_neg (by omega)]
    simp only;rw[this,hone];omega
   ·obtain⟨i1,i2⟩:=ih (by omega);split
    ·exact⟨i1,i2⟩
    ·simp only;rw[i1,hk,if_neg e,hsg];omega
 exact step _ (by omega)
theorem oA{A:Az}(hH:CJ A.V A.s.geo A.hs){s p:Int}{t:Bool}(h:Cw A.s.geo A.hs A.fz (BG true A.s.geo) s p t A.s.geo.gs.toNat=none):(AX A A.s.geo.gs.toNat).1=0:=by
 have hg:=hH.1;obtain⟨g1,g2,g3,g4,_⟩:=Av.1 hg;have all:∀ n:Nat,Cw A.s.geo A.hs A.fz (BG true A.s.geo) s p t n=none->∀ i,i<n->GM A.s.geo A.hs A.fz (BG true A.s.geo) s p t i=none:=by
  intro n
  induction n with
  | zero=>intro _ i hi;omega
  | succ n ih =>
   intro h i hi;have e:(match Cw A.s.geo A.hs A.fz (BG true A.s.geo) s p t n with | some x=>some x | none=>GM A.s.geo A.hs A.fz (BG true A.s.geo) s p t n)=none:=h;cases hx:Cw A.s.geo A.hs A.fz (BG true A.s.geo) s p t n with
   | some x=>rw[hx]at e;cases e
   | none =>
    rw[hx]at e;by_cases ei:i=n
    ·subst ei;exact e
    ·exact ih hx i (by omega)
 have grp:∀ k:Nat,(k:Int)<A.s.geo.gs->A.fz k=false->(Bd A.s.geo (A.hs.getD k hZ)).1=0:=by
  intro k hk hf;obtain⟨x,hx,_,ho,hn,hw⟩:=hH.get (k:=(k:Int)) (by omega) hk;have hx:A.hs[k]?=some x:=hx;have hgd:A.hs.getD k hZ=x:=by rw[Lj,hx];rfl
  have hm1:=Lp5 ((k:Int)-s) (show A.s.geo.gs≠0 by omega);have hm2:=Lr5 ((k:Int)-s) (show 0<A.s.geo.gs by omega);obtain⟨i,hi⟩:=Wq hm1;have hr:Et A.s.geo s i=k:=by
   unfold Et;rw[<- hi];have:(s+((k:Int)-s) % A.s.geo.gs) % A.s.geo.gs=k:=by
    rw[Int.add_emod,Int.emod_emod_of_dvd _ (Int.dvd_refl _),<- Int.add_emod,show s+((k:Int)-s)=k by omega];exact Lg4 (by omega) hk
   rw[this];omega
  have ha:=all _ h i (by omega);unfold GM at ha;rw[hr,if_neg (by rw[hf];decide),hx]at ha;simp only at ha;have hneg:BG true A.s.geo x (L9 p t i)<0:=by
   refine Ly1 fun e=>?_;rw[if_pos (by omega)]at ha;cases ha
  have hneg:FO A.s.geo x (L9 p t i)<0:=hneg;unfold FO at hneg;rw[if_pos ho]at hneg;rw[hgd];unfold Bd;rw[if_pos ho];show(A.s.geo.gr-BK x.bs A.s.geo.gr.toNat:Int)=0;rw[jU A.s.geo.gr.toNat fun j hj=>aU hneg (by omega) (by rw[hw.1];omega)];omega
 have:∀ n:Nat,(n:Int)<=A.s.geo.gs->(AX A n).1=0:=by
  intro n
  induction n with
  | zero=>intro _;rfl
  | succ n ih =>
   intro hn;show(if A.fz n=true then AX A n else((AX A n).1+(Bd A.s.geo (A.hs.getD n hZ)).1,(AX A n).2+(Bd A.s.geo (A.hs.getD n hZ)).2)).1=0;by_cases hf:A.fz n=true
   ·rw[if_pos hf];exact ih (by omega)
   ·rw[if_neg hf];simp only;rw[ih (by omega),grp n (by omega) (by simpa using hf)];rfl
 exact this _ (by omega)
def vA(A:Az)(V:Ps):Az:=⟨A.s,V,A.W,A.nx,A.hs,A.fz⟩
theorem Y8{g:Gm}{b:Int}(h:(Cc g b).1=4):∃(k:Nat)(j:Int),b=2+k*g.gr+j/\(k:Int)<g.gs/\1+AM g<=j/\j<g.gr:=by
 obtain⟨_,_,_,h3,h4,h5,h6⟩:=Ri h;obtain⟨k,hk⟩:=Wq h3;rw[hk]at h4 h5 h6;exact⟨k,_,by omega,h4,h5,h6⟩
theorem zQ{g:Gm}(hg:CU g=true){k:Nat}{j:Int}(hk:(k:Int)<g.gs)(h1:1+AM g<=j)(h2:j<g.gr):(Cc g (2+k*g.gr+j)).1=4:=by
 have e:=iT hg hk h1 h2;refine Ly1 fun h=>?_;unfold Gn at e;rw[if_pos h]at e;cases e
theorem YJ{g:Gm}(hg:CU g=true){k k':Nat}{j:Int}(h1:1+AM g<=j)(h2:j<g.gr):(2+(k':Int)*g.gr).toNat≠(2+k*g.gr+j).toNat:=by
 intro e;obtain⟨g1,_⟩:=Av.1 hg;have ht:=LY (g:=g);have p1:0<=(k:Int)*g.gr:=xC (by omega) (by omega);have p2:0<=(k':Int)*g.gr:=xC (by omega) (by omega);have e:(k':Int)*g.gr=j+k*g.gr:=by omega
 have e2:((k':Int)*g.gr) % g.gr=(j+k*g.gr) % g.gr:=by rw[e]
 rw[Int.mul_emod_left,Int.add_mul_emod_self_right,Lg4 (by omega) h2]at e2;omega
theorem Kf{A:Az}{b:Int}(h:C5 A b=true):(Cc A.s.geo b).1=4/\(Gn A.s.geo b).2.2=true:=by
 unfold C5 at h;rw[Lp]at h;refine⟨Ly1 fun e=>?_,h.1⟩;have:Gn A.s.geo b=(0,0,false):=by unfold Gn;rw[if_pos e]
 rw[this]at h;cases h.1
theorem AfV{A:Az}(hW:A.W=[]){b:Int}(h:C5 A b=true)(n:Int):kF A b n=(D6 A [(n,1,b)],0):=by
 unfold kF Kl;rw[if_neg (by rw[(Kf h).2];decide),hW,h];rfl
theorem AaZ{A:Az}(h:∀ x∈A.W,Bq A.V x=false):Om A=A/\(GW A).length=0:=by
 have e:A.W.filter (Bq A.V)=[]:=Lb5.2 fun x hx=>by rw[h x hx];decide
 have e2:A.W.filter (fun x=>!Bq A.V x)=A.W:=qU.2 fun x hx=>by rw[h x hx];rfl
 have r:GW A=[]:=by unfold GW;rw[e];rfl
 refine⟨?_,by rw[r];rfl⟩;unfold Om;rw[r,e2];rfl
theorem Aa0{A:Az}{x:Wt}(hW:A.W=[x])(h:Bq A.V x=true):Om A=KL (D6 A []) x.2/\(GW A).length=1:=by
 have r:GW A=[x.2]:=by unfold GW;rw[hW,Lm3,if_pos h];rfl
 refine⟨?_,by rw[r];rfl⟩;unfold Om;rw[r,hW,Lm3,if_neg (by rw[h];decide)];rfl
theorem rB{A:Az}(hH:CJ A.V A.s.geo A.hs){k0:Nat}{j0:Int}(hk0:(k0:Int)<A.s.geo.gs)(h1:1+AM A.s.geo<=j0)(h2:j0<A.s.geo.gr)(ht:C5 A (2+k0*A.s.geo.gr+j0)=true) :
  KL A (1,2+k0*A.s.geo.gr+j0)=BV A k0 (BT true A.s.geo (A.hs.getD k0 hZ) j0 false).1/\(BT true A.s.geo (A.hs.getD k0 hZ) j0 false).2=0:=by
 have hg:=hH.1;obtain⟨x,hx,_,ho,hn,hw⟩:=hH.get (k:=(k0:Int)) (by omega) hk0;have hx:A.hs[k0]?=some x:=hx;have hgd:A.hs.getD k0 hZ=x:=by rw[Lj,hx];rfl
 have hb:AN x.bs j0.toNat=true:=by rw[RP hg hk0 h1 h2,hgd]at ht;exact ht
 have hu:(BT true A.s.geo (A.hs.getD k0 hZ) j0 false).2=0:=by
  rw[hgd];show(EN A.s.geo x j0 false).2=0;have hm:GC A.s.geo x j0 (1+AM A.s.geo) A.s.geo.gr=0:=by
   unfold GC;rw[if_neg (by rw[ho];decide),if_neg (by omega)]
  unfold EN;rw[if_neg (by rw[hm];exact fun e=>e rfl),if_neg (by rw[hb];decide)]
 refine⟨?_,hu⟩;unfold KL;rw[if_pos rfl];show(DY true A (Gn A.s.geo (2+k0*A.s.geo.gr+j0)).1.toNat (Gn A.s.geo (2+k0*A.s.geo.gr+j0)).2.1 false).1=_;rw[iT hg hk0 h1 h2];show(DY true A (k0:Int).toNat j0 false).1=_;rw[Lr];unfold DY;rw[if_neg (fun e=>e hu)]
theorem qG.seth{A:Az}(h:qG A.V)(k:Nat)(x:Hd):qG (BV A k x).V:=h.pat _ _ _
theorem vQ(A:Az)(k:Nat)(x:Hd):(BV A k x).V.C=A.V.C:=U0 _ _ _ _ _
theorem vO{V:Ps}{x:Ch}(h:x∈V.all):Pt V x.id=false:=by
 unfold Pt;rw[lB.2 ⟨x,h,rfl⟩];simp
section
variable{w w':World}{R R':Nat->Prop}{a v d:Nat}{A:Az}{K:Value->World->Prop}
theorem Ao.sto(h:Ao R w a v d A):∃(w0:World)(Rs:Nat->Prop)(sp wk:Nat),Pz w0 Rs w sp d A.V/\A1 w v 0 (vV A.s sp wk A.nx)/\(∀ z,Rs z->R z) /\
  ∀ w' V',Ab Rs w w'->Pz w0 (BJ Rs w w') w' sp d V'->CJ V' A.s.geo A.hs->Ab R w w'/\∃ R',Sb R R' w/\Ao R' w' a v d (vA A V'):=by
 obtain⟨Rv,hv,hRv,hc⟩:=h.vol;obtain⟨w0,Rs,Z,sp,wk,a1,a2,a3,a4,a5,a6,a7⟩:=hv.op;refine⟨w0,Rs,sp,wk,a1,a4,fun z hz=>hRv z (a5 z hz),fun w' V' m hP hH=>?_⟩;obtain⟨M,hV⟩:=a6 w' w' V' m (Ab.refl _ _) hP;obtain⟨c1,c2,c3⟩:=hc w' _ V' A.W A.nx A.hs M Sb.gro hV hH;exact⟨c1,_,c2,c3⟩
theorem yD{b:Int}(h:Ao R w a v d A)(hb:(Cc A.s.geo b).1=4)(hk:∀ w',Ab No w w'->K (.int .i64 0) w'):A8 Tryz.prog Ji #[.pointer (some ⟨v,0,none⟩),.int .i64 b] w K:=by
 apply UC;unfold Nf;obtain⟨Rv,hv,_⟩:=h.vol;refine ff rfl ⟨_,rfl,_,hv.geo,Xt fun w1 m1=>⟨_,_,rfl,ff ?_ (hk w1 m1)⟩⟩;rw[Di,hb];rfl
theorem SO(h:Ao R w a v d A){b:Int}(hb:(Cc A.s.geo b).1=4):Jv A.V b 0 [1] []=0:=by
 obtain⟨_,b1,b2,_⟩:=Ri hb
 have:=h.hd.2.1
 have e:AD A.V.C.D b=0:=by unfold AD;rw[if_neg (by omega)]
 unfold Jv;rw[e,if_neg (by decide),if_neg (by decide)];rfl
theorem tC(h:Ao R w a v d A){b:Int}(hb:(Cc A.s.geo b).1=4):CJ (Er A.V b 0 [1] []) A.s.geo A.hs:=by
 have hE:=SO h hb;obtain⟨k,j,hbb,hk,h1,h2⟩:=Y8 hb;refine h.hd.same (by rw[U0]) fun k' _=>?_;rw[Xf hE,if_neg];rw[hbb];exact YJ h.ok h1 h2
theorem fI{b:Int}{q:Nat}(h:Ao R w a v d A)(hb:(Cc A.s.geo b).1=4)(hlast:A.V.last+1<=1000000)(hat:A1 w q 0 (Au [1]))(hq:¬ R q)
  (hk:∀ w' R',Ab R w w'->Sb R R' w->Ao R' w' a v d (vA A (Er A.V b 0 [1] []))->K (.tuple #[.int .i64 ((A.V.last:Int)+1),.int .i64 0]) w') :
  A8 Tryz.prog E9 #[.pointer (some ⟨v,0,none⟩),.int .i64 b,.int .i64 0,.slice (some ⟨q,0,none⟩) 1 1,.slice none 0 0] w K:=by
 apply Q6;unfold JJ;refine yD h hb fun w1 m1=>⟨_,rfl,ff rfl ?_⟩;have h1:=h.nos m1;have hE:=SO h hb;have hN:SP A.V b 0 [1] []=(A.V.last:Int)+1:=by unfold SP;rw[if_pos hE];omega
 obtain⟨w0,Rs,sp,wk,a1,a2,a3,a4⟩:=h1.sto;have hrow:Bl w1 (some ⟨q,0,none⟩) (Au [1]):=.inr ⟨q,0,rfl,(hat.keep m1 id).at⟩;refine⟨_,rfl,_,a2.at.fld NF rfl,cK (data:=[1]) (after:=[]) a1 hlast rfl hrow (fun _ q' e=>by cases e;exact fun e=>hq (a3 q e)) (by omega) rfl (by omega) (.inl rfl) (fun e=>absurd rfl e) fun w2 m2 hP=>⟨_,_,rfl,?_⟩⟩;rw[hE,hN];obtain⟨M,R',s,hA⟩:=a4 w2 _ m2 hP (tC h hb)
 exact hk w2 R' ((m1.mono fun _ _ e=>e.elim).trans M fun x _ e=>e) (s.up m1.size) hA
end
end Go.Z
namespace Go.Den
def AdX(P:Program)(T:TypeId):Bool:=match P.underlying T with
 | some (.pointer e)=>(match P.info? e with | some i=>!Nat.beq i.size 0 | none=>false)
 | _=>false
theorem AaN{P:Program}{T:TypeId}(h:AdX P T=true):∃ e i,P.underlying T=some (.pointer e)/\P.info? e=some i/\i.size≠0:=by
 unfold AdX at h
 split at h
 ·rename_i e he
  split at h
  ·rename_i i hi;exact⟨e,i,he,hi,fun x=>by rw[x]at h;cases h⟩
  ·cases h
 ·cases h
theorem AdH{P:Program}{T:TypeId}(h:AdX P T=true)(q:Nat)(w:World){o1 o2:Operand}:(Gp .eql T o1 o2 (.pointer (some ⟨q,0,none⟩)) (.pointer (some ⟨q,0,none⟩))).run P w=.ok (.bool true) w:=by
 obtain⟨e,i,h1,h2,h3⟩:=AaN h;rw[DE (fun w=>by rfl)];have:(Op.equalIn (9999+1) T (.pointer (some ⟨q,0,none⟩)) (.pointer (some ⟨q,0,none⟩))).run P w=.ok true w:=by
  rw[Op.equalIn];simp only[Sem.run_bind,AI h1,Result.andThen_ok,sizeOf,typeInfo];simp[h2,h3,sameAddr]
 show((Op.equal T _ _ >>= fun b=>pure (Value.bool b)).run P w)=_;simp only[Sem.run_bind];show((Op.equalIn (9999+1) T _ _).run P w).andThen _=_;rw[this];rfl
end Go.Den
namespace Go.Z
def gE(g:Gm):Gm:=if CU g=true/\AJ g<=200 then g else CM
def dE(g:Gm):St:=DJ (Bp (AJ (gE g)).toNat) (gE g)
def nE(g:Gm):Int:=Cv (dE g) (gE g) (AO (gE g)).toNat+1
def aE(g:Gm)(hs:List Hd)(k:Nat):Az:=⟨⟨1,gE g⟩,⟨⟨dE g,k,[]⟩,0,[]⟩,[],nE g,hs,fun _=>false⟩
theorem aZ(g:Gm):CU (gE g)=true/\AJ (gE g)<=200:=by
 unfold gE;split
 ·rename_i h;exact h
 ·exact⟨by decide,by decide⟩
theorem sO(g:Gm):AJ (gE g)=2+(gE g).gs*(gE g).gr/\18<=AJ (gE g):=by
 have h:=(aZ g).1;have e:AJ (gE g)=2+(gE g).gs*(gE g).gr:=by unfold AJ;rw[if_pos h]
 obtain⟨h1,_,h3,_⟩:=Av.1 h;have:1*16<=(gE g).gs*(gE g).gr:=Lj6 h3 h1 (by omega) (by omega);exact⟨e,by omega⟩
theorem AfT(k:Nat):Sa (Bp k) 1:=fun v hv=>by
 have:=List.eq_of_mem_replicate hv
 subst this;simp
theorem WX(w:World):(Instr.build 40 #[(0,.int .i64 16),(1,.int .i64 8),(2,.int .i64 2)]).run Tryz.prog w=.ok (.agg ⟨gV CM⟩) w:=by kernel_rfl
theorem zB(w:World){o1 o2:Operand}(q:Nat):(Gp .eql 31 o1 o2 (.pointer (some ⟨q,0,none⟩)) (.pointer (some ⟨q,0,none⟩))).run Tryz.prog w=.ok (.bool true) w:=AdH (by kernel_rfl) q w
section
variable{w wb w':World}{R R0 R':Nat->Prop}{N a v d:Nat}{A:Az}{hs:List Hd}{K:Value->World->Prop}
set_option maxRecDepth 8000 in
theorem cD{g:Gm}(hm:Ug (dE g)=(⟨1,gE g⟩,0))(hH:∀ k,CJ ⟨⟨dE g,k,[]⟩,0,[]⟩ (gE g) hs)
  (hk:∀ w' R a v d k r vr wm,Ab No w w'->Ao R w' a v d (aE g hs k)->(∀ z,R z->w.heap.size<=z)->A1 w' r 0 [.pointer (some ⟨vr,0,none⟩),.slice none 0 0]->Rg wm w' vr ⟨1,gE g⟩ (dE g) (nE g)->¬ R r->w.heap.size<=d ->
   K (.tuple #[.pointer (some ⟨a,0,none⟩),.pointer (some ⟨r,0,none⟩),.bool true]) w') :
  A8 Tryz.prog E5 #[.agg ⟨gV g⟩] w K:=by
 apply Qt;unfold J6;obtain⟨w1,b1,b2,b3,b4⟩:=AC (P:=Tryz.prog) (w:=w) (T:=40) (cs:=gV g);obtain⟨hok,h200⟩:=aZ g;obtain⟨hsz,h18⟩:=sO g;refine⟨_,w1,b1,Ac.cut (fun z w4=>Ab No w1 w4/\z=[.bool (decide (¬ (CU g=true/\AJ g<=200)))]) ⟨_,b2.at.all Aq rfl,DN fun w2 m2=>⟨_,rfl,Aa (fun h=>⟨m2,?_⟩) (fun h=>⟨_,(b2.keep m2 id).at.all Aq rfl,L7 fun w3 m3=>⟨_,rfl,m2.no m3,?_⟩⟩)⟩⟩ ?_⟩
 ·rw[Le (show ¬ (CU g=true/\AJ g<=200)from fun e=>by rw[e.1]at h;cases h)]
 ·have h:CU g=true:=by simpa using h
  congr 2
  exact ZH.2 ⟨fun e x=>by omega,fun e=>by
   have:¬ AJ g<=200:=fun x=>e ⟨h,x⟩
   omega⟩
 rintro z w4 ⟨m4,rfl⟩;refine⟨_,rfl,Ac.cut (fun z w6=>Ab No w w6/\A1 w6 w.heap.size 0 (gV (gE g))) ?_ ?_⟩
 ·refine Aa (fun h=>⟨_,WX,?_⟩) (fun h=>?_)
  ·have h:=Lc h;have e:gE g=CM:=by unfold gE;rw[if_neg h]
   obtain⟨w5,c1,c2,c3,c4⟩:=(b2.keep m4 id).put (T:=40) (vs:=gV CM) Aq rfl rfl (SL _);rw[e];exact⟨w5,c1,(b3.no m4).own c3 (Ld _),c2⟩
  ·have h:=Tw.1 (Lb h);have e:gE g=g:=by unfold gE;rw[if_pos h]
   rw[e];exact⟨b3.no m4,b2.keep m4 id⟩
 rintro z w6 ⟨m6,q6⟩;refine⟨_,q6.at.all Aq rfl,L7 fun w7 m7=>⟨_,rfl,?_⟩⟩;have hz6:=m6.size;have hz7:=m7.size;have hql:=q6.lt;refine AfO (by omega) (by omega) (fun h=>by omega) fun k hk' _ _ w8 d sb mb m8 hD=>⟨_,_,rfl,_,((q6.keep m7 id).keep m8 id).at.all Aq rfl,L7 fun w9 m9=>⟨_,rfl,?_⟩⟩;have hkn:(AJ (gE g)).toNat=k:=by omega
 have hz8:=m8.size;have hz9:=m9.size;refine vE (by omega) (by omega) (fun h=>by omega) fun k2 hk2 _ _ w10 e vb vc hsr m10 hR=>⟨_,_,rfl,?_⟩;have:k2=k:=by omega
 subst this;have hz10:=m10.size;have q10:=(((q6.keep m7 id).keep m8 id).keep m9 id).keep m10 id;have hD10:=(hD.nos m9).nos m10;have hfE:KV (Bp k2) (gE g)=0:=by
  unfold KV;rw[if_neg (by rw[hok];decide),if_neg (by simp[Bp];omega)]
 have eD:dE g=DJ (Bp k2) (gE g):=by unfold dE;rw[hkn]
 have hlen:(dE g).vs.length=k2:=by rw[eD,Oa];simp[Bp]
 have hrun:(dE g).left=-1:=by rw[eD];exact nX rfl _
 have hbnd:Sa (dE g) 1:=by rw[eD];exact Xp rfl _
 refine⟨_,q10.at.all Aq rfl,qA (g:=gE g) hD10 rfl (AfT k2) (fun h=>absurd hfE h) fun _ wa Na w11 ma Xa=>⟨_,rfl,?_⟩⟩;rw[<- eD]at Xa;have hza:=ma.size;have hXs:=Xa.mod.size;have q11:A1 w11 w.heap.size 0 (gV (gE g)):=(q10.keep ma id).keep Xa.mod (fun e=>by have e:w7.heap.size<=w.heap.size/\_:=e;omega);have hR11:=(hR.nos ma).keep Xa.mod fun x hx e=>by have hx:w9.heap.size<=x/\x<w10.heap.size:=hx;have e:w7.heap.size<=x/\x<w8.heap.size:=e;omega
 refine⟨_,q11.at.all Aq rfl,pC (g:=gE g) hR11 rfl (AfT k2) (fun h=>absurd hfE h) fun _ wc Nc w12 mc Xc=>⟨_,rfl,?_⟩⟩;rw[<- eD]at Xc;have hzc:=mc.size;have hXc:=Xc.mod.size;obtain⟨Ra,sba,mba,sca,La,a1,a2,a3,a4⟩:=Xa;obtain⟨Rc,vbc,vcc,hsc,c1,c2,c3,c4⟩:=Xc;have hRa:∀ x,Ra x->w7.heap.size<=x/\¬ (w9.heap.size<=x/\x<w10.heap.size)/\x<w11.heap.size:=fun x hx=>by
  have:=(a2 x hx).2
  rcases(a2 x hx).1 with e|e
  ·have e:w7.heap.size<=x/\x<w8.heap.size:=e;omega
  ·omega
 have hRc:∀ x,Rc x->w9.heap.size<=x/\((w9.heap.size<=x/\x<w10.heap.size)\/w11.heap.size<=x)/\x<w12.heap.size:=fun x hx=>by
  have:=(c2 x hx).2
  rcases(c2 x hx).1 with e|e
  ·have e:w9.heap.size<=x/\x<w10.heap.size:=e;omega
  ·omega
 have hD12:=(a1.nos mc).keep c3 fun x hx e=>(hRa x hx).2.1 e;have M8:Ab No w w8:=(m6.no m7).no m8;have M10:Ab No w w10:=(M8.no m9).no m10;have M11:Ab No w w11:=(M10.no ma).trans a3 fun x hx e=>by have e:w7.heap.size<=x/\x<w8.heap.size:=e;omega
 have M12:Ab No w w12:=(M11.no mc).trans c3 fun x hx e=>by have e:w9.heap.size<=x/\x<w10.heap.size:=e;omega
 have hsm:Fd (dE g):=eI hbnd (by omega);have hdR:=a1.rb;refine wQ (w0:=w) hD12 hsm (fun x hx=>⟨by have:=hRa x hx;omega,hD12.lt x hx⟩) M12 hrun (fun h=>absurd (by rw[hm]) h) fun _ w13 N13 v X13=>⟨_,_,rfl,?_⟩;rw[hm]at X13;have X13:Vg w12 Ra N13 w13 v d ⟨1,gE g⟩ (dE g) (nE g):=X13;have hz13:=X13.mod.size;have hc13:=c1.keep X13.mod fun x hx e=>by have:=hRa x e;have:=hRc x hx;omega
 have M13:Ab No w w13:=M12.trans X13.mod fun x hx e=>by have:=hRa x e;omega
 refine uZ (w0:=w) hc13 hsm (fun x hx=>⟨by have:=hRc x hx;omega,by have:=hRc x hx;omega⟩) M13 (fun h=>absurd (by rw[hm]) h) fun _ w14 vr Y14=>⟨_,_,rfl,?_⟩;rw[hm]at Y14;have Y14:Rg w13 w14 vr ⟨1,gE g⟩ (dE g) (nE g):=Y14;have m14:=Y14.mod;refine Ac.cut (fun z w15=>w15=w14/\z=[.bool false]) (ff rfl ⟨rfl,rfl⟩) ?_;rintro z w15 ⟨rfl,rfl⟩;refine⟨_,rfl,ff rfl ?_⟩;obtain⟨Rv,kc,hV,hlo⟩:=(X13.nos m14).vu
 refine Ac0 hV (hH kc) fun w16 R16 a m16 s16 h16 ha=>⟨_,rfl,?_⟩;apply Ac.cut (fun z w19=>∃ r,Ab No w w19/\Ao R16 w19 a v d (aE g hs kc)/\A1 w19 r 0 [.pointer (some ⟨vr,0,none⟩),.slice none 0 0]/\Rg w13 w19 vr ⟨1,gE g⟩ (dE g) (nE g)/\¬ R16 r/\z=[.pointer (some ⟨a,0,none⟩),.pointer (some ⟨r,0,none⟩),.bool true])
 ·apply Sw;unfold KG;obtain⟨w17,e1,e2,e3,e4⟩:=AC (P:=Tryz.prog) (w:=w16) (T:=82) (cs:=[.pointer (some ⟨vr,0,none⟩),.slice none 0 0]);refine⟨_,fun w=>by kernel_rfl,_,w17,e1,_,rfl,tt rfl (US (h16.nos e3) ⟨_,rfl,_,zB _ _,_,((M13.no m14).no m16).no e3,h16.nos e3,e2,(Y14.nos m16).nos e3,fun e=>by have:=h16.lt _ e;omega,rfl⟩)⟩
 rintro z w19 ⟨r,m19,h19,r19,y19,n19,rfl⟩;refine⟨_,rfl,_,rfl,_,rfl,hk w19 R16 a v d kc r vr w13 m19 h19 (fun z hz=>?_) r19 y19 n19 (by have:=hRa d hdR;omega)⟩;have hda:=hRa d hdR;have hz14:=m14.size;rcases s16 z hz with e|e
 ·rcases hlo z e with e|e|e
  ·have:=hRa z e;omega
  ·omega
  ·omega
 ·omega
end
def kN:List Hd:=[AG CM 0,AG CM 1]
theorem kD:gE CM=CM:=by decide
theorem Ab4:dE CM=dZ:=by
 unfold dE dZ;rw[kD];rfl
theorem atK:DC dZ 2=Fz CM (AG CM 0)/\DC dZ 18=Fz CM (AG CM 1):=by decide +kernel
theorem okK:I8 CM (AG CM 0)=true/\I8 CM (AG CM 1)=true:=by decide +kernel
theorem jW(D:St)(k b:Nat):AH ⟨⟨D,k,[]⟩,0,[]⟩ b=DC D b:=rfl
theorem AhR(k:Nat):CJ ⟨⟨dE CM,k,[]⟩,0,[]⟩ (gE CM) kN:=by
 rw[kD,Ab4];refine⟨by decide,?_,by decide,fun j h hj=>?_⟩
 ·show AJ CM<=(dZ.vs.length:Int);have:dZ.vs.length=34:=(Oa _ _).trans (by simp[Bp]);rw[this];decide
 ·match j,hj with
  | 0,hj=>cases hj;exact⟨by rw[jW,show(2+((0:Nat):Int)*CM.gr).toNat=2 by decide];exact atK.1,okK.1,rfl,Da _ _⟩
  | 1,hj=>cases hj;exact⟨by rw[jW,show(2+((1:Nat):Int)*CM.gr).toNat=18 by decide];exact atK.2,okK.2,rfl,Da _ _⟩
  | j+2,hj=>cases hj
def fK:Int->Bool:=fun _=>false
def tA:List Hd:=kN.set 0 (BT true CM (kN.getD 0 hZ) 3 true).1
def zL:List Hd:=tA.set 0 (BT true CM (tA.getD 0 hZ) 4 true).1
def bE:List Hd:=zL.set 0 (BT false CM (zL.getD 0 hZ) 2 true).1
theorem tK1:Cw CM kN fK (BG true CM) (Gn CM 0).1 (Gn CM 0).2.1 (Gn CM 0).2.2 CM.gs.toNat=some (0,3):=by decide +kernel
theorem tK2:Cw CM tA fK (BG true CM) (Gn CM 5).1 (Gn CM 5).2.1 (Gn CM 5).2.2 CM.gs.toNat=some (0,4):=by decide +kernel
theorem tK3:Cw CM zL fK (BG false CM) (Oq CM 1).1 (Oq CM 1).2.1 (Oq CM 1).2.2 CM.gs.toNat=some (0,2):=by decide +kernel
theorem bK:((Gn CM 5).2.2&&AN (bE.getD (Gn CM 5).1.toNat hZ).bs (Gn CM 5).2.1.toNat)=true/\((Gn CM 7).2.2&&AN (bE.getD (Gn CM 7).1.toNat hZ).bs (Gn CM 7).2.1.toNat)=false:=by decide +kernel
theorem fK3:Bd CM (bE.getD 0 hZ)=(11,5)/\Bd CM (bE.getD 1 hZ)=(13,8):=by decide +kernel
theorem Wm{kd:Bool}{g:Gm}{h:Hd}{i:Int}{on:Bool}(hw:Fq h):Fq (BT kd g h i on).1:=U7 hw i on
theorem VZ{A:Az}{k:Nat}{x:Hd}(h:CJ A.V A.s.geo A.hs)(hk:(k:Int)<A.s.geo.gs)(hw:Fq x):(BV A k x).V.last=A.V.last+1:=SQ (iP h hk hw)
section
variable{w:World}{K:Value->World->Prop}
set_option maxRecDepth 8000 in
theorem oN(hk:∀ w',Ab No w w'->K (.bool true) w'):A8 Tryz.prog FF #[] w K:=by
 apply P8;unfold IQ;refine⟨_,WX,cD (g:=CM) (hs:=kN) (by rw[Ab4,kD];exact AdO) AhR fun w1 R a v d k r vr wm m1 h1 hlo _ _ _ _=>⟨_,_,_,rfl,ff rfl ?_⟩⟩;have eA:aE CM kN k=⟨⟨1,CM⟩,⟨⟨dE CM,k,[]⟩,0,[]⟩,[],nE CM,kN,fK⟩:=by unfold aE;rw[kD];rfl
 rw[eA]at h1;generalize nE CM=nx at h1;generalize dE CM=D at h1;have base:∀{w2:World}{R2:Nat->Prop}{w3:World},Ab No w w2->Ab R2 w2 w3->(∀ z,R2 z->w.heap.size<=z)->Ab No w w3:=fun h1 h2 h3=>h1.trans h2 fun x hx e=>by have:=h3 x e;omega
 have up:∀{R2 R3:Nat->Prop}{w2:World},Sb R2 R3 w2->w.heap.size<=w2.heap.size->(∀ z,R2 z->w.heap.size<=z)->∀ z,R3 z->w.heap.size<=z:=fun h1 h2 h3 z hz=>by
  rcases h1 z hz with e|e
  ·exact h3 z e
  ·omega
 -- the first block
 refine UQ (by omega) h1 (by show 0+1<=1000000;omega) fun w2 R2 m2 s2 h2=>⟨_,_,_,rfl,?_⟩;have e2:Hk ⟨⟨1,CM⟩,⟨⟨D,k,[]⟩,0,[]⟩,[],nx,kN,fK⟩ 0=(BV ⟨⟨1,CM⟩,⟨⟨D,k,[]⟩,0,[]⟩,[],nx,kN,fK⟩ 0 (BT true CM (kN.getD 0 hZ) 3 true).1,5,1,0):=by
  unfold Hk;rw[tK1];rfl
 rw[e2]at h2 |-;dsimp only at h2 |-;have l2:(BV ⟨⟨1,CM⟩,⟨⟨D,k,[]⟩,0,[]⟩,[],nx,kN,fK⟩ 0 (BT true CM (kN.getD 0 hZ) 3 true).1).V.last=1:=VZ h1.hd (by show((0:Nat):Int)<2;decide) (Wm (Da _ _));have M2:=base m1 m2 hlo;have L2:=up s2 m1.size hlo;obtain⟨V2,hV2⟩:∃ V2,BV ⟨⟨1,CM⟩,⟨⟨D,k,[]⟩,0,[]⟩,[],nx,kN,fK⟩ 0 (BT true CM (kN.getD 0 hZ) 3 true).1=⟨⟨1,CM⟩,V2,[],nx,tA,fK⟩:=⟨_,rfl⟩
 rw[hV2]at h2 l2;have l2:V2.last=1:=l2
 -- the second YV
 refine UQ (by omega) h2 (by show V2.last+1<=1000000;omega) fun w3 R3 m3 s3 h3=>⟨_,_,_,rfl,?_⟩;have e3:Hk ⟨⟨1,CM⟩,V2,[],nx,tA,fK⟩ 5=(BV ⟨⟨1,CM⟩,V2,[],nx,tA,fK⟩ 0 (BT true CM (tA.getD 0 hZ) 4 true).1,6,(V2.last:Int)+1,0):=by
  unfold Hk;rw[tK2];rfl
 rw[e3,l2]at h3 |-;dsimp only at h3 |-;have l3:(BV ⟨⟨1,CM⟩,V2,[],nx,tA,fK⟩ 0 (BT true CM (tA.getD 0 hZ) 4 true).1).V.last=V2.last+1:=VZ h2.hd (by show((0:Nat):Int)<2;decide) (Wm (Wm (Da _ _)));have M3:=base M2 m3 L2;have L3:=up s3 M2.size L2;obtain⟨V3,hV3⟩:∃ V3,BV ⟨⟨1,CM⟩,V2,[],nx,tA,fK⟩ 0 (BT true CM (tA.getD 0 hZ) 4 true).1=⟨⟨1,CM⟩,V3,[],nx,zL,fK⟩:=⟨_,rfl⟩
 rw[hV3]at h3 l3;have l3:V3.last=V2.last+1:=l3
 -- a slot
 refine yE (by omega) h3 (by show V3.last+1<=1000000;omega) fun w4 R4 m4 s4 h4=>⟨_,_,_,rfl,?_⟩;have e4:Wb ⟨⟨1,CM⟩,V3,[],nx,zL,fK⟩ 1=(BV ⟨⟨1,CM⟩,V3,[],nx,zL,fK⟩ 0 (BT false CM (zL.getD 0 hZ) 2 true).1,2,(V3.last:Int)+1,0):=by
  unfold Wb;rw[tK3];rfl
 rw[e4,l3,l2]at h4 |-;dsimp only at h4 |-;have M4:=base M3 m4 L3;have L4:=up s4 M3.size L3;obtain⟨V4,hV4⟩:∃ V4,BV ⟨⟨1,CM⟩,V3,[],nx,zL,fK⟩ 0 (BT false CM (zL.getD 0 hZ) 2 true).1=⟨⟨1,CM⟩,V4,[],nx,bE,fK⟩:=⟨_,rfl⟩;rw[hV4]at h4;refine QQ h4 fun w5 R5 m5 s5 h5=>⟨_,_,rfl,?_⟩;have e5:AX ⟨⟨1,CM⟩,V4,[],nx,bE,fK⟩ CM.gs.toNat=(24,13):=by
  show AX ⟨⟨1,CM⟩,V4,[],nx,bE,fK⟩ 2=(24,13);have f0:AX ⟨⟨1,CM⟩,V4,[],nx,bE,fK⟩ 1=(0+(Bd CM (bE.getD 0 hZ)).1,0+(Bd CM (bE.getD 0 hZ)).2):=rfl;have f1:AX ⟨⟨1,CM⟩,V4,[],nx,bE,fK⟩ 2=((AX ⟨⟨1,CM⟩,V4,[],nx,bE,fK⟩ 1).1+(Bd CM (bE.getD 1 hZ)).1,(AX ⟨⟨1,CM⟩,V4,[],nx,bE,fK⟩ 1).2+(Bd CM (bE.getD 1 hZ)).2):=rfl;rw[f1,f0,fK3.1,fK3.2];rfl
 rw[show(⟨⟨1,CM⟩,V4,[],nx,bE,fK⟩:Az).s.geo=CM from rfl,e5];have M5:=base M4 m5 L4;have L5:=up s5 M4.size L4;refine Ac.dup (tt rfl (tt rfl (tt rfl (tt rfl (tt rfl (tt rfl (tt rfl (tt rfl (tt rfl (tt rfl (tt rfl ?_)))))))))));refine KK (by omega) h5 fun w6 R6 m6 s6 h6=>⟨_,rfl,tt bK.1 ?_⟩;have M6:=base M5 m6 L5;have L6:=up s6 M5.size L5;refine KK (by omega) h6 fun w7 R7 m7 s7 h7=>⟨_,rfl,_,rfl,?_⟩
 have e7:C5 ⟨⟨1,CM⟩,V4,[],nx,bE,fK⟩ 7=false:=bK.2;rw[e7];exact hk w7 (base M6 m7 L6)
end
section
variable{D:St}{l:List (Int×Bk)}{b:Nat}{ys:Bk}{g:Gm}{n:Nat}
def InD(D:St)(l:List (Int×Bk)):Prop:=∀ x∈l,∃ j:Nat,x.1=j/\j<D.vs.length/\x.2.length=256
theorem dO(hl:D.left=-1)(hin:InD D l)(hno:∀ x∈l,x.1≠(b:Int)):DC (Dd D l) b=DC D b:=by
 induction l generalizing D with
 | nil=>rfl
 | cons x l ih =>
  obtain⟨j,h1,h2,h3⟩:=hin x jH;show DC (Dd (B8 D x.1 x.2) l) b=_;have hi:InD (B8 D x.1 x.2) l:=fun y hy=>by
   obtain⟨j,k1,k2,k3⟩:=hin y (dV _ hy);exact⟨j,k1,by rw[Jr];exact k2,k3⟩
  rw[ih (De hl _ _) hi (fun y hy=>hno y (dV _ hy)),h1,I5 h2 h3 hl,if_neg (fun e=>hno x jH (by rw[h1,e]))]
theorem qC(hl:D.left=-1)(hin:InD D l)(hx:∃ x∈l,x.1=(b:Int))(hu:∀ x∈l,x.1=(b:Int)->x.2=ys):DC (Dd D l) b=ys:=by
 induction l generalizing D with
 | nil=>obtain⟨x,h,_⟩:=hx;cases h
 | cons x l ih =>
  obtain⟨j,h1,h2,h3⟩:=hin x jH;show DC (Dd (B8 D x.1 x.2) l) b=_;have hi:InD (B8 D x.1 x.2) l:=fun y hy=>by
   obtain⟨j,k1,k2,k3⟩:=hin y (dV _ hy);exact⟨j,k1,by rw[Jr];exact k2,k3⟩
  by_cases h:∃ y∈l,y.1=(b:Int)
  ·exact ih (De hl _ _) hi h fun y hy=>hu y (dV _ hy)
  ·have hxb:x.1=(b:Int):=by
    obtain⟨y,hy,e⟩:=hx;rcases Lz.1 hy with rfl|hy
    ·exact e
    ·exact absurd ⟨y,hy,e⟩ h
   rw[dO (De hl _ _) hi (fun y hy e=>h ⟨y,hy,e⟩),h1,I5 h2 h3 hl,if_pos (by omega)];exact hu x jH hxb
theorem RB{x:Int×Bk}{m:Nat}:x∈CL g m↔∃ k,k<m/\∃ i,i<Jq g/\x=NL g k i:=by
 unfold CL IA;simp only[yA,Ty,Li];constructor
 ·rintro⟨k,hk,i,hi,e⟩;exact⟨k,hk,i,hi,e.symm⟩
 ·rintro⟨k,hk,i,hi,e⟩;exact⟨k,hk,i,hi,e.symm⟩
theorem AbC(hg:CU g=true){k k' i i':Nat}(hi:i<Jq g)(hi':i'<Jq g)(e:2+(k:Int)*g.gr+i=2+(k':Int)*g.gr+i'):k=k'/\i=i':=by
 have hv:=(Qh hg).1;obtain⟨h1,_,_,_,h5,h6,h7,h8,_⟩:=Av.1 hg;have key:∀{a c:Nat},a<c->(a:Int)*g.gr+g.gr<=(c:Int)*g.gr:=fun {a c} h=>by
  have:=Lt3 (show(a:Int)+1<=c by omega) (show 0<=g.gr by omega)
  rw[Int.add_mul,Ly5]at this;exact this
 rcases Nat.lt_trichotomy k k' with h|h|h
 ·have:=key h;omega
 ·subst h;omega
 ·have:=key h;omega
theorem kQ(hg:CU g=true)(hn:AJ g<=n):InD (Ub (Bp n)) (CL g g.gs.toNat):=fun x hx=>by
 obtain⟨k,hk,i,hi,rfl⟩:=RB.1 hx;obtain⟨h1,h2⟩:=RZ hg (k:=k) (n:=n) (by omega) hi hn;exact⟨(NL g k i).1.toNat,by omega,by rw[Vx];simp[Bp];omega,RW g k i⟩
theorem Md:(Bp n).left=-1:=rfl
theorem fO(hg:CU g=true)(hn:AJ g<=n){k i:Nat}(hk:(k:Int)<g.gs)(hi:i<Jq g):DC (DJ (Bp n) g) (2+(k:Int)*g.gr+i).toNat=RV g k i:=by
 obtain⟨h1,h2⟩:=RZ hg (n:=n) hk hi hn;have h1:2<=2+(k:Int)*g.gr+i:=h1;have h2:2+(k:Int)*g.gr+i<n:=h2;have hb:(((2+(k:Int)*g.gr+i).toNat:Nat):Int)=2+(k:Int)*g.gr+i:=by omega
 generalize (2+(k:Int)*g.gr+i).toNat=b at hb;have h1r:=Nx (Md (n:=n)) g;have hl1:1<(Uc (Bp n) g).vs.length:=by rw[Rf];simp[Bp];omega
 unfold DJ;rw[LT (De h1r _ _),show(1:Int)=((1:Nat):Int)from rfl,I5 hl1 (HR _) h1r,if_neg (by omega)];unfold Uc;rw[LT (Oz (KU Md) _)];refine qC (KU Md) (kQ hg hn) ⟨NL g k i,RB.2 ⟨k,by omega,i,hi,rfl⟩,hb.symm⟩ fun x hx e=>?_;obtain⟨k',_,i',hi',rfl⟩:=RB.1 hx;have e:2+(k':Int)*g.gr+i'=b:=e;have e2:2+(k':Int)*g.gr+i'=2+(k:Int)*g.gr+i:=e.trans hb
 obtain⟨rfl,rfl⟩:=AbC hg hi' hi e2;rfl
theorem Ac4(hn:18<=n):DC (DJ (Bp n) g) 1=DR ⟨1,g⟩:=by
 have h1r:=Nx (Md (n:=n)) g;have hl1:1<(Uc (Bp n) g).vs.length:=by rw[Rf];simp[Bp];omega
 unfold DJ;rw[LT (De h1r _ _),show(1:Int)=((1:Nat):Int)from rfl,I5 hl1 (HR _) h1r,if_pos rfl]
theorem yM(hg:CU g=true)(hn:AJ g<=n)(h18:18<=n):DC (DJ (Bp n) g) 0=Dk:=by
 have h1r:=Nx (Md (n:=n)) g;have hl1:1<(Uc (Bp n) g).vs.length:=by rw[Rf];simp[Bp];omega
 unfold DJ;rw[LT (De h1r _ _),show(1:Int)=((1:Nat):Int)from rfl,I5 hl1 (HR _) h1r,if_neg (by decide)];unfold Uc
 rw[LT (Oz (KU Md) _),dO (KU Md) (kQ hg hn) fun x hx e=>by
  obtain⟨k,hk,i,hi,rfl⟩:=RB.1 hx
  have:=(RZ hg (k:=k) (n:=n) (by omega) hi hn).1
  have e:(NL g k i).1=((0:Nat):Int):=e
  omega]
 unfold Ub;have hz:(B8 (Bp n) 0 Dk).left=-1:=De Md _ _;have hl:1<(B8 (Bp n) 0 Dk).vs.length:=by rw[Jr];simp[Bp];omega
 rw[LT (De hz _ _),show(1:Int)=((1:Nat):Int)from rfl,I5 hl Ez hz,if_neg (by decide),show(0:Int)=((0:Nat):Int)from rfl,I5 (by simp[Bp];omega) Ez Md,if_pos rfl]
theorem iM{s:Sp}:(DR s).take 4=DX/\(DR s).drop 4=Bg 8 s.gen.toNat++((DR s).drop 12)/\(DR s).drop 12=Bg 2 s.geo.gr.toNat++((DR s).drop 14)/\(DR s).drop 14=Bg 2 s.geo.no.toNat++((DR s).drop 16)/\(DR s).drop 16=Bg 2 s.geo.gs.toNat++((DR s).drop 18):=by
 have cut:∀{a c:List UInt8}{m:Nat},a.length=m->(a++c).drop m=c:=fun {a c m} h=>by rw[WD,Lt (by omega),QN,h,fG];rfl
 have e:DR s=DX++(Bg 8 s.gen.toNat++(Bg 2 s.geo.gr.toNat++(Bg 2 s.geo.no.toNat++(Bg 2 s.geo.gs.toNat++(List.replicate 234 0++Bg 4 (Zs (DW s))))))):=by
  unfold DR;rw[DW,Ic];simp only[WB]
 have d4:(DR s).drop 4=Bg 8 s.gen.toNat++(Bg 2 s.geo.gr.toNat++(Bg 2 s.geo.no.toNat++(Bg 2 s.geo.gs.toNat++(List.replicate 234 0++Bg 4 (Zs (DW s)))))):=by rw[e];exact cut rfl
 have d12:(DR s).drop 12=Bg 2 s.geo.gr.toNat++(Bg 2 s.geo.no.toNat++(Bg 2 s.geo.gs.toNat++(List.replicate 234 0++Bg 4 (Zs (DW s))))):=by rw[show 12=4+8 from rfl,<- UO,d4];exact cut (Cm _ _)
 have d14:(DR s).drop 14=Bg 2 s.geo.no.toNat++(Bg 2 s.geo.gs.toNat++(List.replicate 234 0++Bg 4 (Zs (DW s)))):=by rw[show 14=12+2 from rfl,<- UO,d12];exact cut (Cm _ _)
 have d16:(DR s).drop 16=Bg 2 s.geo.gs.toNat++(List.replicate 234 0++Bg 4 (Zs (DW s))):=by rw[show 16=14+2 from rfl,<- UO,d14];exact cut (Cm _ _)
 have d18:(DR s).drop 18=List.replicate 234 0++Bg 4 (Zs (DW s)):=by rw[show 18=16+2 from rfl,<- UO,d16];exact cut (Cm _ _)
 refine⟨by rw[e];rfl,by rw[d4,d12],by rw[d12,d14],by rw[d14,d16],by rw[d16,d18]⟩
theorem pS{s:Sp}(hs:OZ s=true):CT (DR s)=(s,0):=by
 obtain⟨⟨g1,g2⟩,hg⟩:=H3.1 hs;obtain⟨r1,r2,r3,r4,r5,r6,_⟩:=Av.1 hg;obtain⟨e1,e2,e3,e4,e5⟩:=iM (s:=s);have tk:∀{k m:Nat}{c:List UInt8},m<256 ^ k->BW ((Bg k m++c).take k)=m:=fun {k m c} h=>by
  rw[Lv (by rw[Cm];exact Ld _),Lg (by rw[Cm];exact Ld _)];exact Rt _ _ h
 have hr:Gl (DR s)=s:=by
  unfold Gl;rw[e2,tk (by omega),e3,tk (by omega),e4,tk (by omega),e5,tk (by omega),Ag (by omega) (by omega)];cases s with
  | mk a b =>
   cases b;simp only at *;simp only[Sp.mk.injEq,Gm.mk.injEq];omega
 have h252:(DR s).take 252=DW s:=by unfold DR;rw[Lv (by rw[DO];exact Ld _),Lg (by rw[DO];exact Ld _)]
 have hc:BW ((DR s).drop 252)=Zs ((DR s).take 252):=by
  rw[h252];unfold DR;rw[WD,Lt (by rw[DO];exact Ld _),QN,DO];exact Rt _ _ (Vh _)
 have hz:=(dD (HR s) e1 hc (by rw[hr];exact hs)).1 (by rw[hr]);unfold CT;rw[if_neg (by rw[HR];exact fun e=>e rfl),if_neg (by rw[e1];exact fun e=>e rfl),if_neg (by rw[hc];exact fun e=>e rfl),hr,if_neg (by rw[hs];decide),if_neg (by rw[hz];decide)]
theorem pT:(CT Dk).2≠0:=by decide +kernel
theorem fY(hg:CU g=true)(hn:AJ g<=n):BR Dk (DR ⟨1,g⟩) n=(⟨1,g⟩,1,0):=by
 have hs:OZ (⟨1,g⟩:Sp)=true:=H3.2 ⟨⟨xU 1,by show(1:Int)<=4611686018427387904;decide⟩,hg⟩;have e0:B6 0 Dk n sZ=sZ:=by unfold B6;rw[if_neg fun h=>pT h.1]
 have eB:Cz Dk (DR ⟨1,g⟩) n=⟨1,g⟩:=by
  unfold Cz;rw[e0];unfold B6;rw[pS hs,if_pos ⟨rfl,rfl,hn,by show(1:Int) > 0;decide⟩]
 have hne:(⟨1,g⟩:Sp)≠sZ:=fun e=>by
  have:(1:Int)=0:=Pi Sp.gen e;omega
 unfold BR;rw[eB,if_neg hne];rfl
theorem pJ:GU (B2 Dk 64 (MN VT)) 1=(VT,0):=by decide +kernel
theorem zM(hg:CU g=true)(hn:AJ g<=n)(k:Nat):CJ ⟨⟨DJ (Bp n) g,k,[]⟩,0,[]⟩ g ((List.range g.gs.toNat).map fun j:Nat=>AG g (j:Int)):=by
 obtain⟨_,_,g3,_⟩:=Av.1 hg;have hv:0<Jq g:=by unfold Jq;omega
 refine⟨hg,?_,by rw[jL,Le5];omega,fun j h hj=>?_⟩
 ·show AJ g<=((DJ (Bp n) g).vs.length:Int);rw[Oa];simp[Bp];omega
 ·rw[jK]at hj;by_cases hjl:j<g.gs.toNat
  ·rw[List.getElem?_range hjl]at hj;cases hj;refine⟨?_,Rk hg (by omega) (by omega),rfl,Da _ _⟩
   have:=fO hg hn (k:=j) (i:=0) (by omega) hv
   rw[Int.natCast_zero,Int.add_zero]at this;exact this
  ·rw[xR (by simp;omega)]at hj;cases hj
theorem AaB(hg:CU g=true)(hn:AJ g<=n)(h18:18<=n):Ug (DJ (Bp n) g)=(⟨1,g⟩,0):=by
 obtain⟨q1,q2,g3,g4,g5,g6,g7,_⟩:=Av.1 hg;have hlen:(DJ (Bp n) g).vs.length=n:=by rw[Oa];simp[Bp]
 have rd:∀{b:Nat},b<n->HU (DJ (Bp n) g) (b:Int)=DC (DJ (Bp n) g) b:=fun {b} h=>(RK _ (by rw[hlen];exact h)).2;have hS:A7 (DJ (Bp n) g)=(⟨1,g⟩,1,0):=by
  unfold A7;rw[show(0:Int)=((0:Nat):Int)from rfl,show(1:Int)=((1:Nat):Int)from rfl,rd (by omega),rd (by omega),yM hg hn h18,Ac4 h18,hlen];exact fY hg hn
 have hv:=(Qh hg).1;have hO:GV (DJ (Bp n) g) g=true:=by
  unfold GV;rw[Lp,dR];refine⟨fun k hk=>?_,?_⟩
  ·have hk:=Ty.1 hk;obtain⟨p1,p2,p3⟩:=KX hg (k:=k) (by omega);have e:Cn (DJ (Bp n) g) g k=(AG g k,0):=by
    unfold Cn;rw[p1,if_neg (fun e=>e rfl)]
    have:=fO hg hn (k:=k) (i:=0) (by omega) (by omega)
    rw[Int.natCast_zero,Int.add_zero]at this;have r:=rd (b:=(2+(k:Int)*g.gr).toNat) (by omega);rw[show(((2+(k:Int)*g.gr).toNat:Nat):Int)=2+(k:Int)*g.gr by omega,this]at r;rw[r];exact Xv (Da _ _) (Rk hg (by omega) (by omega))
   unfold FP;rw[e];exact Le ⟨rfl,rfl⟩
  ·have hsl:AO g=g.gs*g.no:=by unfold AO;rw[if_pos hg]
   have hs4:1*4<=g.gs*g.no:=Lj6 g3 g5 (by omega) (by omega);have e0:(1:Int) / g.no=0:=Int.ediv_eq_zero_of_lt (by omega) (by omega);have e1:(1:Int) % g.no=1:=Lg4 (by omega) (by omega);have ep:B9 g 1=(3,1,0):=by
    unfold B9;rw[if_pos hg,if_pos ⟨by decide,by omega⟩,e0,e1];have:(2:Int)+0*g.gr+1+1 / 4=3:=by rw[Int.zero_mul];rfl
    rw[this];rfl
   have:=fO hg hn (k:=0) (i:=1) (by omega) (by omega)
   rw[show((0:Nat):Int)*g.gr=0 from Int.zero_mul _]at this;have this:DC (DJ (Bp n) g) 3=RV g 0 1:=this;have r:=rd (b:=3) (by omega);rw[this]at r;have e:AV (DJ (Bp n) g) g 1=(VT,0):=by
    unfold AV;rw[ep,if_neg (fun e=>e rfl)];show GU (HU _ ((3:Nat):Int)) 1=_;rw[r];exact pJ
   unfold GK;rw[e];exact Le ⟨rfl,rfl⟩
 unfold Ug;rw[hS,if_neg (fun e=>e rfl)];show(if GV (DJ (Bp n) g) g=true then _ else _)=_;rw[if_pos hO]
end
def hsE(g:Gm):List Hd:=(List.range (gE g).gs.toNat).map fun j:Nat=>AG (gE g) (j:Int)
theorem Af0(g:Gm):Ug (dE g)=(⟨1,gE g⟩,0):=by
 obtain⟨h1,h2⟩:=aZ g;obtain⟨h3,h4⟩:=sO g;exact AaB h1 (by omega) (by omega)
theorem AfX(g:Gm)(k:Nat):CJ ⟨⟨dE g,k,[]⟩,0,[]⟩ (gE g) (hsE g):=by
 obtain⟨h1,h2⟩:=aZ g;obtain⟨h3,h4⟩:=sO g;exact zM h1 (by omega) k
theorem oC(A:Az)(k:Int)(on:Bool):(EY A k on).1.s=A.s/\(EY A k on).1.V=A.V/\(EY A k on).1.W=A.W:=by
 unfold EY;split<;>exact⟨rfl,rfl,rfl⟩
section
variable{w w':World}{R R':Nat->Prop}{a v d:Nat}{A:Az}{K:Value->World->Prop}
end
def gK1:Gm:=⟨16,8,1⟩
def hJ0:List Hd:=[AG gK1 0]
section
variable{w:World}{K:Value->World->Prop}
end
structure Ob(w0:World)(R:Nat->Prop)(w:World)(a v d:Nat)(A:Az):Prop where
 ao:Ao R w a v d A
 lo:∀ z,R z->w0.heap.size<=z
 md:Ab No w0 w
structure Bw(R:Nat->Prop)(w:World)(q:Nat)(cs:List Value):Prop where
 at':A1 w q 0 cs
 nr:¬ R q
section
variable{w0 w w':World}{R R':Nat->Prop}{a v d q:Nat}{A A':Az}{T:TypeId}{p:Option Addr}{L:Rl}{c:Nat}{cs:List Value}{K:Value->World->Prop}
theorem Ob.no(h:Ob w0 R w a v d A)(m:Ab No w w'):Ob w0 R w' a v d A:=⟨h.ao.nos m,h.lo,h.md.no m⟩
theorem Ob.go(h:Ob w0 R w a v d A)(m:Ab R w w')(s:Sb R R' w)(k:Ao R' w' a v d A'):Ob w0 R' w' a v d A' :=
 ⟨k,fun z hz=>by
  rcases s z hz with e|e
  ·exact h.lo z e
  ·have:=h.md.size;omega,h.md.trans m fun x hx e=>by have:=h.lo x e;omega⟩
theorem Ob.own(h:Ob w0 R w a v d A)(m:Ab (fun x=>x=q) w w')(hq:¬ R q)(hd:a<=q)(h0:w0.heap.size<=q):Ob w0 R w' a v d A :=
 ⟨h.ao.own m hq (by have:=h.ao.dlt;omega),h.lo,h.md.own m h0⟩
theorem Bw.no(h:Bw R w q cs)(m:Ab No w w'):Bw R w' q cs:=⟨h.at'.keep m id,h.nr⟩
theorem Bw.go(h:Bw R w q cs)(m:Ab R w w')(s:Sb R R' w):Bw R' w' q cs :=
 ⟨h.at'.keep m h.nr,fun e=>by
  rcases s _ e with e|e
  ·exact h.nr e
  ·have:=h.at'.lt;omega⟩
theorem Ob.box{t:TypeId}{z cs:List Value}{n:Nat}(h:Ob w0 R w a v d A)(hz:HT Tryz.prog t=some z)(hT:Ei Tryz.prog t=some n)(hl:z.length=n)(hc:cs.length=n)(h1:∀ u∈cs,u.oneCell'=true) :
  ∃ q w1 w2,Ru (Instr.alloc t true (.tuple #[])) w (.pointer (some ⟨q,0,none⟩)) w1/\Eh (Instr.storeAt t (.pointer (some ⟨q,0,none⟩)) (.agg ⟨cs⟩)) w1 w2/\Ob w0 R w2 a v d A/\Bw R w2 q cs/\Ab No w w2:=by
 obtain⟨w1,a1,a2,a3,a4⟩:=A9 (P:=Tryz.prog) (w:=w) (T:=t) hz;obtain⟨w2,b1,b2,b3,b4⟩:=a2.put (T:=t) (vs:=cs) hT hl hc h1;have m:Ab No w w2:=a3.own b3 (Ld _);exact⟨_,w1,w2,a1,b1,h.no m,⟨b2,fun e=>by have:=h.ao.lt _ e;omega⟩,m⟩
end
abbrev Ae:=Int×Int×Int×Bool×Bool
def Zr(x:Ae):List Value:=[.int .i64 x.1,.int .i64 x.2.1,.int .i64 x.2.2.1,.bool x.2.2.2.1,.bool x.2.2.2.2]
def cQ(L:List Ae):List Value:=(L.map Zr).flatten
theorem Ur(x:Ae):(Zr x).length=5:=rfl
theorem yF(x:Ae):∀ v∈Zr x,v.oneCell'=true:=by intro v hv;simp[Zr]at hv;rcases hv with rfl | rfl | rfl | rfl | rfl<;>rfl
def ZN(L:List Ae)(i:Nat):Ae:=L.getD i (0,0,0,false,false)
theorem nQ:Ge Tryz.prog 70=some 5:=by kernel_rfl
theorem rD:Ei Tryz.prog 85=some 5:=by kernel_rfl
theorem AbG:HT Tryz.prog 85=some (Zr (0,0,0,false,false)):=by kernel_rfl
theorem nS:Ge Tryz.prog 83=some 1:=by kernel_rfl
theorem rO(w:World):(Instr.buildSlice 88 1 #[(0,.int .u8 1)]).run Tryz.prog w=.ok (.slice (some ⟨w.heap.size,0,none⟩) 1 1) (w.alloc (.cells ⟨Au [1]⟩ 5)):=by kernel_rfl
theorem rI(bs:List Bool)(i:Nat)(b:Bool):(bL bs).set i (.bool b)=bL (bs.set i b):=by unfold bL;rw[Lt5]
theorem Ab0{bs:List Bool}{i:Nat}{b:Bool}(h:bs[i]?=some b):(bL bs)[i]?=some (.bool b):=by unfold bL;rw[jK,h];rfl
def Hv(A:Az)(hv:List Bool):Prop:=∀ i:Nat,hv[i]?=some true->C5 A i=true
structure Oi(g:Gm)(A:Az)(hv:List Bool)(i:Nat):Prop where
 geo:A.s.geo=gE g
 wk:A.W=[]
 cln:qG A.V
 bnd:Sa A.V.C.D 1
 last:A.V.last<=2*i
 len:(hv.length:Int)=AJ (gE g)
 tk:Hv A hv
theorem tF{hv:List Bool}{b i:Nat}{x:Bool}(h:(hv.set b x)[i]?=some true):(i=b/\x=true)\/(i≠b/\hv[i]?=some true):=by
 by_cases e:i=b
 ·subst e;by_cases hl:i<hv.length
  ·rw[Zp hl]at h;exact .inl ⟨rfl,Ln h⟩
  ·rw[xR (by rw[List.length_set];omega)]at h;cases h
 ·rw[ZK fun x=>e x.symm]at h;exact .inr ⟨e,h⟩
theorem TK{A:Az}(hH:CJ A.V A.s.geo A.hs){k0:Nat}(hk0:(k0:Int)<A.s.geo.gs){j0:Int}(h1:1+AM A.s.geo<=j0)(h2:j0<A.s.geo.gr){on:Bool}(hu:(BT true A.s.geo (A.hs.getD k0 hZ) j0 on).2=0) :
  C5 (BV A k0 (BT true A.s.geo (A.hs.getD k0 hZ) j0 on).1) (2+k0*A.s.geo.gr+j0)=on /\
  ∀ i:Int,C5 A i=true->i≠2+k0*A.s.geo.gr+j0->C5 (BV A k0 (BT true A.s.geo (A.hs.getD k0 hZ) j0 on).1) i=true:=by
 have ht:=LY (g:=A.s.geo);refine⟨by rw[Ya hH hk0 (by omega) hu hk0 h1 h2,if_pos ⟨rfl,rfl⟩],fun i hi hne=>?_⟩;obtain⟨k,j,rfl,hk,j1,j2⟩:=Y8 (Kf hi).1;rw[Ya hH hk0 (by omega) hu hk j1 j2,if_neg fun e=>hne (by rw[e.1,e.2])];exact hi
section
variable{w w':World}{R R':Nat->Prop}{a v d:Nat}{A:Az}{K:Value->World->Prop}
theorem AfR{a1:Option Addr}{l1 c1 i:Nat}{acts:List Ae}(hr:Bl w a1 (cQ acts))(hl:acts.length=l1)(hi:i<l1)(h63:i<=1000):∃ q o,Al (Instr.indexAt 70 (.slice a1 l1 c1) (.int .i64 i)) (.pointer (some ⟨q,o,none⟩)) /\
  ∀ w',Ab No w w'->Ru (Instr.loadAt 85 (.pointer (some ⟨q,o,none⟩))) w' (.agg ⟨Zr (ZN acts i)⟩) w':=by
 have hx:acts[i]?=some (ZN acts i):=by unfold ZN;rw[Lj,Lk (by omega)];rfl
 have hlen:(cQ acts).length=acts.length*5:=KT Ur acts;rcases hr with hr | ⟨b,o,rfl,hat⟩
 ·rw[hr]at hlen;have hlen:0=acts.length*5:=hlen;omega
 refine⟨b,o+i*5,fun w'=>?_,fun w' m=>?_⟩
 ·have:=Ar (P:=Tryz.prog) (T:=70) (k:=5) (a:=⟨b,o,none⟩) (n:=l1) (c:=c1) (kk:=.i64) (i:=i) nQ (by omega) (by omega) w'
  rw[Ad,show o+(i:Int).toNat*5=o+i*5 by omega]at this;exact this
 ·have:=(hat.keep m id).loadAgg (P:=Tryz.prog) (T:=85) (i:=i*5) rD (by rw[hlen];omega)
  rw[show((cQ acts).drop (i*5)).take 5=Zr (ZN acts i)from ID Ur hx]at this;exact this
theorem ixB{q n:Nat}{i:Int}(h0:0<=i)(h1:i<n):Al (Instr.indexAt 83 (.slice (some ⟨q,0,none⟩) n n) (.int .i64 i)) (.pointer (some (Addr.add ⟨q,0,none⟩ i.toNat))):=fun w=>by
 have:=Ar (P:=Tryz.prog) (T:=83) (k:=1) (a:=⟨q,0,none⟩) (n:=n) (c:=n) (kk:=.i64) (i:=i) nS h0 h1 w
 rw[qI]at this;exact this
def fD(w0:World)(g:Gm)(a v d hq i:Nat)(w:World):Prop:=∃ R A hv,Ob w0 R w a v d A/\Bw R w hq (bL hv)/\w0.heap.size<=hq/\a<=hq/\Oi g A hv i
theorem Oi.up{g:Gm}{A:Az}{hv:List Bool}{i:Nat}(h:Oi g A hv i):Oi g A hv (i+1):={ h with last:=by have:=h.last;omega }
set_option maxRecDepth 8000 in
set_option maxHeartbeats 2000000 in
theorem Zt{g:Gm}{a1:Option Addr}{l1 c1:Nat}{acts:List Ae}(hr:Bl w a1 (cQ acts))(hl:acts.length=l1)(h63:∀ x∈acts,x.2.1<=9223372036854775807) :
  A8 Tryz.prog G0 #[.agg ⟨gV g⟩,.slice a1 l1 c1] w (fun v w'=>v=.bool true/\Ab No w w'):=by
 apply LH;unfold Gs;obtain⟨w1,b1,b2,b3,b4⟩:=AC (P:=Tryz.prog) (w:=w) (T:=40) (cs:=gV g);have hz1:=b3.size;refine⟨_,w1,b1,_,b2.at.all Aq rfl,cD (Af0 g) (AfX g) fun w2 R a v d k0 r vr wm m2 h2 lo2 r2 y2 n2 hd2=>⟨_,_,_,rfl,ff rfl ⟨_,rfl,_,r2.at.fld (by kernel_rfl) rfl,_,rfl,_,y2.geo,L7 fun w3 m3=>⟨_,rfl,?_⟩⟩⟩⟩;have o2:Ob w R w2 a v d (aE g (hsE g) k0):=⟨h2,fun z hz=>by have:=lo2 z hz;omega,b3.no m2⟩
 have o3:=o2.no m3;obtain⟨hok,h200⟩:=aZ g;have hsz:=Uw (g:=gE g);obtain⟨n,hn⟩:=Wq hsz.1;have hb1:Sa (dE g) 1:=by unfold dE;exact Xp rfl _
 rw[show(⟨1,gE g⟩:Sp).geo=gE g from rfl,hn];obtain⟨w4,e1,e2,e3,e4⟩:=D3 (P:=Tryz.prog) (w:=w3) (n:=n) gC (by omega) (by omega) (by omega);refine⟨_,_,_,w4,e1,?_⟩;have hq:fD w g a v d w3.heap.size 0 w4:=by
  refine⟨R,_,List.replicate n false,o3.no e3,⟨?_,fun e=>by have:=o3.ao.lt _ e;omega⟩,o3.md.size,by have:=o3.ao.dlt;omega,⟨rfl,rfl,(fun x hx=>by cases hx),hb1,Ld _,by rw[TV];exact hn.symm,fun i hi=>?_⟩⟩
  ·have:bL (List.replicate n false)=List.replicate (n*1) (.bool false):=by unfold bL;rw[Ls5,qI]
   rw[this];exact e2
  ·have:=Ly hi
   rw[List.mem_replicate]at this;exact absurd this.2 (by decide)
 have hr4:Bl w4 a1 (cQ acts):=((hr.nos (b3.no m2)).nos m3).nos e3;have M4:Ab No w w4:=o3.md.no e3;generalize w3.heap.size=hq0 at *;clear o2 o3 r2 y2 n2 h2 lo2 e1 e2;refine⟨fun x W=>∃(i:Nat)(y1 y2 y3 y4 y5 y6 y7:Value),x=[.int .i64 i,y1,y2,y3,y4,y5,y6,y7]/\i<=min acts.length 60/\fD w g a v d hq0 i W,fun x _=>(60-nI x 0).toNat,⟨0,_,_,_,_,_,_,_,rfl,Lz5 _,hq⟩,?_⟩;rintro x W ⟨i,y1,y2,y3,y4,y5,y6,y7,rfl,hi,hI⟩
 refine Ac.cut (fun z w13=>w13=W/\z=[.bool (decide (i<min acts.length 60))]) ⟨_,rfl,Aa (fun hb=>⟨rfl,?_⟩) (fun hb=>⟨rfl,?_⟩)⟩ ?_
 ·have hb:=Lc hb
  congr 2
  exact ZH.2 ⟨fun e=>by omega,fun e=>by omega⟩
 ·have hb:=Lb hb;rw[Lf (show ¬ i<min acts.length 60 by omega)]
 rintro z w6 ⟨rfl,rfl⟩;refine⟨_,rfl,Aa (fun hlt=>?_) (fun hlt=>?_)⟩
 ·have hlt:=Lc hlt;obtain⟨R,A,hv,o6,x6,q1,q2,I⟩:=hI;have mW:Ab No w w6:=o6.md;obtain⟨q,o,ix,ld⟩:=AfR (i:=i) (c1:=c1) hr hl (by omega) (by omega);have hin:ZN acts i∈acts:=by
   have:acts[i]?=some (ZN acts i):=by unfold ZN;rw[Lj,Lk (by omega)];rfl
   exact Ly this
  have hb63:=h63 _ hin;refine⟨_,rfl,_,ix,_,ld _ mW,?_⟩;generalize ZN acts i=y at *;obtain⟨q11,w7,w8,e1,e2,o8,y8,m8⟩:=o6.box (cs:=Zr y) AbG rD rfl rfl (yF _);have x8:=x6.no m8;refine⟨_,w7,e1,w8,e2,QQ o8.ao fun w9 R9 m9 s9 h9=>⟨_,_,rfl,?_⟩⟩;have o9:=o8.go m9 s9 h9;have x9:=x8.go m9 s9;have y9:=y8.go m9 s9;clear o6 x6 o8 x8 y8 m9 s9 h9;have hH:=o9.ao.hd;have hg:=o9.ao.ok;refine⟨_,y9.at'.at.fld (v:=.int .i64 y.1) Aj rfl,Ac.cut (fun z w16=>w16=w9/\z=[.bool (decide (0<=y.1/\y.1<=2))]) ?_ ?_⟩
  ·refine Aa (fun e=>⟨rfl,?_⟩) (fun e=>Ac.cut (fun z w16=>w16=w9/\z=[.bool (decide (0<=y.1/\y.1<=2))]) (Aa (fun e2=>⟨rfl,?_⟩) (fun e2=>⟨rfl,?_⟩)) ?_)
   ·have e':y.1=0:=by simpa using e
    rw[e,Le (show 0<=y.1/\y.1<=2 by omega)]
   ·have e':y.1=1:=by simpa using e2
    rw[e2,Le (show 0<=y.1/\y.1<=2 by omega)]
   ·have e:¬ y.1=0:=by simpa using e
    have e2:¬ y.1=1:=by simpa using e2
    congr 2
    rw[Lu,xH,Wv];omega
   ·rintro z w16 ⟨rfl,rfl⟩;exact⟨rfl,rfl⟩
  rintro z w11 ⟨rfl,rfl⟩;have lN:Ru (Instr.loadAt 3 (.pointer (some (Addr.add ⟨q11,0,none⟩ 1)))) w11 (.int .i64 y.2.1) w11:=y9.at'.at.fld Aj rfl;have fb:=Uv A A.s.geo.gs.toNat;have hgs:A.s.geo.gs.toNat<=16:=by obtain⟨_,_,_,g4,_⟩:=Av.1 hg;omega
  refine⟨_,rfl,Ac.cut (fun z w60=>∃ z0 z1 z2 z3 z4:Value,z=[z0,z1,z2,z3,z4]/\fD w g a v d hq0 (i+1) w60) ?_ ?_⟩
  ·refine Aa (fun hc=>⟨_,lN,?_⟩) (fun hc=>?_)
   ·-- a block is taken
    refine UQ hb63 o9.ao (by have:=I.last;omega) fun w12 R12 m12 s12 h12=>⟨_,_,_,rfl,?_⟩;have o12:=o9.go m12 s12 h12;have x12:=x9.go m12 s12;cases ht:Cw A.s.geo A.hs A.fz (BG true A.s.geo) (Gn A.s.geo y.2.1).1 (Gn A.s.geo y.2.1).2.1 (Gn A.s.geo y.2.1).2.2 A.s.geo.gs.toNat with
    | none =>
     have eB:Hk A y.2.1=(A,0,0,26):=by unfold Hk;rw[ht]
     rw[eB]at o12 |-;have hf0:=oA hH ht;refine QQ o12.ao fun w13 R13 m13 s13 h13=>⟨_,_,rfl,ff (by rw[hf0];rfl) ?_⟩;refine Ac.cut (fun z w17=>w17=w13/\∃ z0,z=[z0]) (ff rfl ⟨rfl,_,rfl⟩) ?_;rintro z w17 ⟨rfl,z0,rfl⟩;exact⟨_,_,_,_,_,rfl,R13,A,hv,o12.go m13 s13 h13,x12.go m13 s13,q1,q2,I.up⟩
    | some x =>
     obtain⟨k0,j0⟩:=x;obtain⟨i1,i2,i3,i4,i5⟩:=RO o9.ao (k:=k0) (j:=j0) ht;have eB:Hk A y.2.1=(BV A k0 (BT true A.s.geo (A.hs.getD k0 hZ) j0 true).1,2+k0*A.s.geo.gr+j0,(A.V.last:Int)+1,0):=by unfold Hk;rw[ht]
     rw[eB]at o12 |-;clear eB;obtain⟨f1,f2⟩:=oB hH i1 i4 i5;obtain⟨x0,hx0,_,ho0,_,hw0⟩:=hH.get (k:=(k0:Int)) (by omega) i1;have hx0:A.hs[k0]?=some x0:=hx0;have hgd:A.hs.getD k0 hZ=x0:=by rw[Lj,hx0];rfl
     obtain⟨_,_,_,u4,u5,u6⟩:=RU (g:=A.s.geo) (h:=x0) (i:=j0) (on:=true) hw0 (by rw[hgd]at i5;exact i5);obtain⟨t1,t2⟩:=TK hH i1 u5 u6 i5;have hwas:C5 A (2+k0*A.s.geo.gr+j0)=false:=by
      rw[RP hg i1 u5 u6,hgd];simpa using u4
     have hkd:=zQ hg i1 u5 u6;obtain⟨_,k1,k2,_⟩:=Ri hkd;have hI2:∀ hv',(hv'.length:Int)=AJ (gE g)->Hv (BV A k0 (BT true A.s.geo (A.hs.getD k0 hZ) j0 true).1) hv'->Oi g (BV A k0 (BT true A.s.geo (A.hs.getD k0 hZ) j0 true).1) hv' (i+1):=fun hv' e1 e2 =>
      ⟨I.geo,I.wk,I.cln.seth _ _,by rw[vQ];exact I.bnd,by have h1:=Qe A.V A.s.geo k0 (BT true A.s.geo (A.hs.getD k0 hZ) j0 true).1;have h2:=I.last;show(NG _ _ _ _).last<=_;omega,e1,e2⟩
     have hs':(BV A k0 (BT true A.s.geo (A.hs.getD k0 hZ) j0 true).1).s=A.s:=rfl;generalize BV A k0 (BT true A.s.geo (A.hs.getD k0 hZ) j0 true).1=A' at *;generalize 2+(k0:Int)*A.s.geo.gr+j0=b at *;dsimp only at o12 |-;have hlen:=I.len;rw[<- I.geo]at hlen;have hbn:b<n:=by rw[I.geo]at k2;omega
     obtain⟨bn,rfl⟩:=Wq (show 0<=b by omega);have hhv:hv[bn]?=some false:=by
      have hl2:bn<hv.length:=by omega
      cases hc:hv[bn]'hl2 with
      | false=>rw[Lk hl2,hc]
      | true =>
       have:=I.tk bn (by rw[Lk hl2,hc])
       rw[hwas]at this;cases this
     refine QQ o12.ao fun w13 R13 m13 s13 h13=>⟨_,_,rfl,ff ?_ ?_⟩
     ·rw[Le (show(AX A A.s.geo.gs.toNat).1 > 0 from f2)];rfl
     have o13:=o12.go m13 s13 h13;have x13:=x12.go m13 s13;rw[hs',f1];refine Ac.cut (fun z w17=>(∃ z0,z=[z0])/\fD w g a v d hq0 (i+1) w17) (tt rfl ?_) ?_
     ·refine Ac.cut (fun z w15=>z=[.bool false]/\∃ R',Ob w R' w15 a v d A'/\Bw R' w15 hq0 (bL hv)) ?_ ?_
      ·refine ff (Lf (by omega)) (ff (Lf (by omega)) ⟨_,ixB (by omega) (by omega),_,x13.at'.at.fld (v:=.bool false) XV (by rw[Lr];exact Ab0 hhv),ff rfl (ff ?_ ?_)⟩)
       ·rw[Ag (x:=(AX A A.s.geo.gs.toNat).1-1) (by omega) (by omega),Di,Lf fun e=>e rfl]
       ·refine KK (by omega) o13.ao fun w14 R14 m14 s14 h14=>⟨_,rfl,by rw[t1];rfl,R14,o13.go m14 s14 h14,x13.go m14 s14⟩
      ·rintro z w15 ⟨rfl,R15,o15,x15⟩;refine⟨_,rfl,ff rfl ⟨_,ixB (by omega) (by omega),?_⟩⟩;obtain⟨w16,u1,u2,u3,u4⟩:=x15.at'.putF (P:=Tryz.prog) (T:=4) (j:=bn) (v:=.bool true) XV (by rw[X3];omega) rfl;rw[rI]at u2;refine⟨w16,by rw[Lr];exact u1,⟨_,rfl⟩,R15,A',hv.set bn true,o15.own u3 x15.nr q2 q1,⟨u2,x15.nr⟩,q1,q2,hI2 _ (by rw[List.length_set];exact I.len) fun i hi=>?_⟩
       rcases tF hi with ⟨rfl,_⟩|⟨hne,hi⟩
       ·exact t1
       ·exact t2 i (I.tk i hi) (by omega)
     ·rintro z w17 ⟨⟨z0,rfl⟩,hI17⟩;exact⟨_,_,_,_,_,rfl,hI17⟩
   ·have hc:=Lb hc;refine Ac.cut (fun z w18=>w18=w11/\z=[.bool (decide (y.1=4\/y.1=5))]) (Aa (fun e=>⟨rfl,?_⟩) (fun e=>⟨rfl,?_⟩)) ?_
    ·have e':y.1=4:=by simpa using e
     rw[e,Le (Or.inl e')]
    ·have e':¬ y.1=4:=by simpa using e
     congr 2
     rw[Lu,xH,Wv];omega
    rintro z w18 ⟨rfl,rfl⟩;refine⟨_,rfl,Ac.cut (fun z w59=>∃ z1 z2 z3:Value,z=[z1,z2,z3]/\fD w g a v d hq0 (i+1) w59) ?_ ?_⟩
    ·refine Aa (fun he=>?_) (fun he=>?_)
     ·-- a block is given
      have hlen:=I.len;refine Ac.cut (fun z w19=>w19=w18/\∃ c:Bool,z=[.bool c]/\(c=true->∃ b:Nat,y.2.1=b/\hv[b]?=some true)) ⟨_,lN,Aa (fun h1=>⟨_,lN,Aa (fun h2=>?_) (fun h2=>⟨rfl,false,rfl,fun e=>by cases e⟩)⟩) (fun h1=>⟨rfl,false,rfl,fun e=>by cases e⟩)⟩ ?_
      ·have h1:=Lc h1;have h2:=Lc h2;obtain⟨bn,hbn⟩:=Wq h1;have hl2:bn<hv.length:=by omega
       have hh:hv[bn]?=some (hv[bn]'hl2):=Lk hl2;refine⟨_,lN,_,ixB h1 h2,_,x9.at'.at.fld (v:=.bool (hv[bn]'hl2)) XV (by rw[hbn,Lr];exact Ab0 hh),rfl,_,rfl,fun e=>⟨bn,hbn,by rw[hh,e]⟩⟩
      rintro z w19 ⟨rfl,c,rfl,hcb⟩;refine⟨_,rfl,Ac.cut (fun z w56=>∃ z1 z2:Value,z=[z1,z2]/\fD w g a v d hq0 (i+1) w56) ?_ ?_⟩
      ·cases c with
       | false=>exact ff rfl ⟨_,_,rfl,R9,A,hv,o9,x9,q1,q2,I.up⟩
       | true =>
        obtain⟨bn,hbn,hh⟩:=hcb rfl;have htk:=I.tk bn hh;obtain⟨k0,j0,hbb,i1,u5,u6⟩:=Y8 (Kf htk).1;have hkd:=(Kf htk).1;have hbl:bn<hv.length:=(Lh.1 hh).1;rw[hbn]at lN hb63;have od:Ob w R9 (Go.Den.Ah w19) a v d A:=o9.no (Ab.refl _ _).drew;have xd:Bw R9 (Go.Den.Ah w19) hq0 (bL hv):=x9.no (Ab.refl _ _).drew;have yd:Bw R9 (Go.Den.Ah w19) q11 (Zr y):=y9.no (Ab.refl _ _).drew
        have lY:∀{R:Nat->Prop}{w:World},Bw R w q11 (Zr y)->Ru (Instr.loadAt 3 (.pointer (some (Addr.add ⟨q11,0,none⟩ 1)))) w (.int .i64 (bn:Int)) w:=fun h=>hbn ▸ h.at'.at.fld (v:=.int .i64 y.2.1) Aj rfl;have m21:Ab No (Go.Den.Ah w19) ((Go.Den.Ah w19).alloc (.cells ⟨Au [1]⟩ 5)):=(Ab.refl No _).alloc _;have a21:A1 ((Go.Den.Ah w19).alloc (.cells ⟨Au [1]⟩ 5)) (Go.Den.Ah w19).heap.size 0 (Au [1]):=A1.new
        have b21:(Instr.buildSlice 88 1 #[(0,.int .u8 1)]).run Tryz.prog (Go.Den.Ah w19)=.ok (.slice (some ⟨(Go.Den.Ah w19).heap.size,0,none⟩) 1 1) ((Go.Den.Ah w19).alloc (.cells ⟨Au [1]⟩ 5)):=rO _;have nq:¬ R9 (Go.Den.Ah w19).heap.size:=fun e=>by have:=o9.ao.lt _ e;have:(Go.Den.Ah w19).heap.size=w19.heap.size:=rfl;omega
        generalize (Go.Den.Ah w19).alloc (.cells ⟨Au [1]⟩ 5)=w21 at *;have o21:=od.no m21;have x21:=xd.no m21;have y21:=yd.no m21;refine tt rfl ⟨_,lY yd,?pA,?pB⟩
        case' pA=>refine US od.ao ⟨_,rfl,lY yd,_,_,_,w21,b21,lY y21,?_⟩
        case' pB=>refine⟨_,_,_,w21,b21,lY y21,US o21.ao ⟨_,rfl,lY y21,?_⟩⟩
        all_goals
         have hl1:=I.last;refine fI o21.ao hkd (by omega) a21 nq fun w22 R22 m22 s22 h22=>⟨_,_,rfl,?_⟩;have o22:=o21.go m22 s22 h22;have x22:=x21.go m22 s22;have y22:=y21.go m22 s22;have hE:=SO o21.ao hkd;have hlast1:(Er A.V bn 0 [1] []).last=A.V.last+1:=SQ hE;have hnew:GP A.V (bn:Int).toNat (0:Int).toNat [1] []∈(Er A.V bn 0 [1] []).all:=(lE hE).2 (.inl rfl);have hxb:(GP A.V (bn:Int).toNat (0:Int).toNat [1] []).b=bn:=by show(bn:Int).toNat=bn;omega
         have hxi:((GP A.V (bn:Int).toNat (0:Int).toNat [1] []).id:Int)=(A.V.last:Int)+1:=by show((A.V.last+1:Nat):Int)=_;omega
         have gJ:(Er A.V bn 0 [1] []).C=A.V.C:=U0 _ _ _ _ _;have hcl1:qG (Er A.V bn 0 [1] []):=I.cln.pat _ _ _;have htk1:C5 (vA A (Er A.V bn 0 [1] [])) bn=true:=htk;generalize GP A.V (bn:Int).toNat (0:Int).toNat [1] []=c at *;generalize Er A.V bn 0 [1] []=V1 at *;have hg1:=AfV (A:=vA A V1) I.wk htk1 ((A.V.last:Int)+1);have hns:Pt V1 ((A.V.last:Int)+1)=false:=by rw[<- hxi];exact vO hnew
         have hrp:Bq V1 ((A.V.last:Int)+1,1,(bn:Int))=false:=by
          unfold Bq;rw[Lf (by show ¬ (A.V.last:Int)+1<1;omega),hns];rfl
         obtain⟨hs0,hs1⟩:=AaZ (A:=D6 (vA A V1) [((A.V.last:Int)+1,1,(bn:Int))]) fun x hx=>by
          have:x=((A.V.last:Int)+1,1,(bn:Int)):=by simpa [D6] using hx
          rw[this];exact hrp
         refine Ac.cut (fun z w26=>z=[.bool false]/\∃ R',Ob w R' w26 a v d (D6 (vA A V1) [((A.V.last:Int)+1,1,(bn:Int))])/\Bw R' w26 hq0 (bL hv)/\Bw R' w26 q11 (Zr y)) ?_ ?_
         ·refine ff rfl ⟨_,lY y22,qY hb63 o22.ao (by show A.W.length<=_;rw[I.wk];decide) fun w23 R23 m23 s23 h23=>⟨_,rfl,?_⟩⟩;have o23:=o22.go m23 s23 h23;have x23:=x22.go m23 s23;have y23:=y22.go m23 s23;rw[hg1]at o23 |-
          refine ff rfl (WQ o23.ao (by show(1:Nat)<=4999;decide) (fun x hx=>by
           have:x=((A.V.last:Int)+1,1,(bn:Int)):=by simpa [D6] using hx
           rw[this];exact hb63) (by show V1.last+1<=_;omega) fun w24 R24 m24 s24 h24=>⟨_,rfl,?_⟩)
          rw[hs0]at h24;rw[hs1];have o24:=o23.go m24 s24 h24;have x24:=x23.go m24 s24;have y24:=y23.go m24 s24;refine ff rfl ⟨_,lY y24,KK hb63 o24.ao fun w25 R25 m25 s25 h25=>⟨_,rfl,?_,R25,o24.go m25 s25 h25,x24.go m25 s25,y24.go m25 s25⟩⟩;rw[show C5 (D6 (vA A V1) [((A.V.last:Int)+1,1,(bn:Int))]) bn=true from htk];rfl
         rintro z w26 ⟨rfl,R26,o26',x26',y26'⟩;have o26:=o26'.no (Ab.refl _ _).drew;have x26:=x26'.no (Ab.refl _ _).drew;have y26:=y26'.no (Ab.refl _ _).drew;obtain⟨ws1,wd1⟩:=o26.ao.wf;have hH1:=o26.ao.hd;obtain⟨w0,Rs,sp,wk,p1,p2,p3,p4⟩:=o26.ao.sto;have ws1:Hh V1:=ws1;have wd1:WF V1.C.D:=wd1;have hH1:CJ V1 A.s.geo A.hs:=hH1;have p1:Pz w0 Rs (Go.Den.Ah w26) sp d V1:=p1;obtain⟨_,_,hne1,hrun1,_⟩:=p1.wf
         have hwr:Kn V1 bn=0:=by
          obtain⟨oo,ho,hxo⟩:=yA.1 hnew
          have:=AbE ws1 ho
          rw[<- ws1.chb oo ho c hxo,hxb]at this;exact this
         have hH2:CJ (Jw V1 bn) A.s.geo A.hs:=hH1.same (wW _).2.2.2 fun k _=>by
          rw[rY ws1 wd1 hrun1 hwr]
          have:=YJ hg (k:=k0) (k':=k) u5 u6
          omega
         have hbd1:Sa V1.C.D 1:=by rw[gJ];exact I.bnd
         refine⟨_,rfl,ff rfl ⟨_,lY y26,US o26.ao ⟨_,rfl,lY y26,UR p2 ⟨_,rfl,lY y26,uW p1 (mC hbd1 (by omega)) fun w29 m29 hP29=>⟨_,rfl,?_⟩⟩⟩⟩⟩;obtain⟨M29,R29,s29,h29⟩:=p4 w29 _ m29 hP29 hH2;have o29:=o26.go M29 s29 h29;have x29:=x26.go M29 s29;have y29:=y26.go M29 s29;have hall2:=fun y (hy:y∈(Jw V1 bn).all)=>Ad9 hcl1 ws1 hwr hy;have hlast2:(Jw V1 bn).last=V1.last:=(wW _).2.1
         have hids:∀ x∈(Jw V1 bn).all,(x.id:Int)=(A.V.last:Int)+1->x.b=bn:=fun x hx e=>by
          obtain⟨y',hy',rfl⟩:=wU hwr hx;have hL:=Hs V1 ((bn:Int).toNat);rw[hL.id]at e;have:y'=c:=EA ws1.ids hy' hnew (by omega);rw[hL.b,this,hxb]
         have hbd2:Sa (Jw V1 bn).C.D 2:=by unfold Jw;rw[if_pos hwr];exact LG hbd1 _ _
         obtain⟨ws2,_⟩:=o29.ao.wf;have ws2:Hh (Jw V1 bn):=ws2;obtain⟨w0',Rs',sp',wk',p1',p2',p3',p4'⟩:=o29.ao.sto;have p1':Pz w0' Rs' w29 sp' d (Jw V1 bn):=p1';obtain⟨_,_,hne2,hrun2,_⟩:=p1'.wf;generalize Jw V1 bn=V2 at *;refine US o29.ao ⟨_,rfl,UR p2' ⟨_,rfl,uV p1' fun w32 m32 hP32=>⟨_,rfl,?_⟩⟩⟩;have ws3:=hP32.wf.1;have hH3:CJ (aV V2) A.s.geo A.hs:=hH2.same (by show(Dj V2.C.D).vs.length=_;unfold Dj;split<;>simp) fun k _=>by
          refine rX ws2 ws3 hrun2 hne2 fun y' hy' e=>?_
          have:=YJ hg (k:=k0) (k':=k) u5 u6
          cases ho:y'.out with
          | false=>rfl
          | true=>exact absurd ((hall2 y' hy').2.1 ho) (by omega)
         obtain⟨M32,R32,s32,h32⟩:=p4' w32 _ m32 hP32 hH3;have o32:=o29.go M32 s32 h32;have x32:=x29.go M32 s32;have y32:=y29.go M32 s32;have hcl3:qG (aV V2):=AdL fun y' hy'=>(hall2 y' hy').1;have hlast3:(aV V2).last=V2.last:=rfl;have hbd3:Sa (aV V2).C.D 1:=Yd hrun2 (by omega);have hsf:Pt (aV V2) ((A.V.last:Int)+1)=true:=by
          unfold Pt;rw[Le (by rw[hlast3,hlast2,hlast1];omega),Ws,TW,AaK];intro y' hy' e;rw[rF]at hy';obtain⟨k1,k2⟩:=QM.1 hy';rw[(hall2 y' k1).2.2 (hids y' k1 e)]at k2;cases k2
         generalize aV V2=V3 at *;have hrp3:Bq V3 ((A.V.last:Int)+1,1,(bn:Int))=true:=by
          unfold Bq;rw[hsf,Bool.or_true]
         have eA3:vA (vA (D6 (vA A V1) [((A.V.last:Int)+1,1,(bn:Int))]) V2) V3=D6 (vA A V3) [((A.V.last:Int)+1,1,(bn:Int))]:=rfl;rw[eA3]at o32;obtain⟨hs2,hs3⟩:=Aa0 (A:=D6 (vA A V3) [((A.V.last:Int)+1,1,(bn:Int))]) (x:=((A.V.last:Int)+1,1,(bn:Int))) rfl hrp3;obtain⟨ha1,ha2⟩:=rB (A:=D6 (vA A V3) []) hH3 i1 u5 u6 (by show C5 A (2+(k0:Int)*A.s.geo.gr+j0)=true;rw[<- hbb];exact htk)
         obtain⟨t1,t2⟩:=TK (A:=D6 (vA A V3) []) hH3 i1 u5 u6 ha2;have ha3:KL (D6 (D6 (vA A V3) [((A.V.last:Int)+1,1,(bn:Int))]) []) (1,(bn:Int))=_:=(Pi (fun b=>KL (D6 (vA A V3) []) (1,b)) hbb).trans ha1;have hs2:=hs2.trans ha3;have t1:C5 (BV (D6 (vA A V3) []) k0 (BT true (D6 (vA A V3) []).s.geo ((D6 (vA A V3) []).hs.getD k0 hZ) j0 false).1) (bn:Int)=false:=by rw[hbb];exact t1
         have t2:∀ i:Int,C5 A i=true->i≠(bn:Int)->C5 (BV (D6 (vA A V3) []) k0 (BT true (D6 (vA A V3) []).s.geo ((D6 (vA A V3) []).hs.getD k0 hZ) j0 false).1) i=true:=fun i h1 h2=>t2 i h1 (by rw[hbb]at h2;exact h2);have hI5:∀ hv',(hv'.length:Int)=AJ (gE g)->Hv (BV (D6 (vA A V3) []) k0 (BT true (D6 (vA A V3) []).s.geo ((D6 (vA A V3) []).hs.getD k0 hZ) j0 false).1) hv'->Oi g (BV (D6 (vA A V3) []) k0 (BT true (D6 (vA A V3) []).s.geo ((D6 (vA A V3) []).hs.getD k0 hZ) j0 false).1) hv' (i+1):=fun hv' e1 e2 =>
          ⟨I.geo,rfl,qG.seth (A:=D6 (vA A V3) []) hcl3 _ _,by rw[vQ];exact hbd3,by have h1:=Qe V3 A.s.geo k0 (BT true (D6 (vA A V3) []).s.geo ((D6 (vA A V3) []).hs.getD k0 hZ) j0 false).1;show(NG V3 A.s.geo k0 _).last<=_;omega,e1,e2⟩
         generalize BV (D6 (vA A V3) []) k0 (BT true (D6 (vA A V3) []).s.geo ((D6 (vA A V3) []).hs.getD k0 hZ) j0 false).1=A5 at *;have hfr:=Ny (A:=A) (A':=D6 (vA A V3) [((A.V.last:Int)+1,1,(bn:Int))]) rfl rfl A.s.geo.gs.toNat fun k _=>rfl;refine QQ o32.ao fun w33 R33 m33 s33 h33=>⟨_,_,rfl,?_⟩;have o33:=o32.go m33 s33 h33;have x33:=x32.go m33 s33;have y33:=y32.go m33 s33
         refine Ac.cut (fun z w36=>z=[.bool false]/\∃ R',Ob w R' w36 a v d A5/\Bw R' w36 hq0 (bL hv)/\Bw R' w36 q11 (Zr y)) ?_ ?_
         ·refine WQ o33.ao (by show(1:Nat)<=4999;decide) (fun x hx=>by
           have:x=((A.V.last:Int)+1,1,(bn:Int)):=by simpa [D6] using hx
           rw[this];exact hb63) (by show V3.last+1<=_;omega) fun w34 R34 m34 s34 h34=>⟨_,rfl,?_⟩
          rw[hs2]at h34;rw[hs3];have o34:=o33.go m34 s34 h34;have x34:=x33.go m34 s34;have y34:=y33.go m34 s34;refine ff rfl ⟨_,lY y34,KK hb63 o34.ao fun w35 R35 m35 s35 h35=>⟨_,rfl,ff t1 ⟨?_,R35,o34.go m35 s35 h35,x34.go m35 s35,y34.go m35 s35⟩⟩⟩;rw[Di,Lf fun e=>e hfr]
         rintro z w36 ⟨rfl,R36,o36,x36,y36⟩;obtain⟨w37,u1,u2,u3,u4⟩:=x36.at'.putF (P:=Tryz.prog) (T:=4) (j:=bn) (v:=.bool false) XV (by rw[X3];omega) rfl;rw[rI]at u2;refine⟨_,rfl,ff rfl ⟨_,lY y36,_,ixB (by omega) (by omega),w37,by rw[Lr];exact u1,_,_,rfl,R36,A5,hv.set bn false,o36.own u3 x36.nr q2 q1,⟨u2,x36.nr⟩,q1,q2,hI5 _ (by rw[List.length_set];exact I.len) fun i hi=>?_⟩⟩
         rcases tF hi with ⟨_,e⟩|⟨hne,hi⟩
         ·cases e
         ·exact t2 i (I.tk i hi) (by omega)
      ·rintro z w56 ⟨z1,z2,rfl,hI56⟩;exact⟨_,_,_,rfl,hI56⟩
     ·have he:=Lb he;refine Ac.cut (fun z w58=>z=[]/\fD w g a v d hq0 (i+1) w58) (Aa (fun h8=>⟨_,lN,_,y9.at'.at.fld (v:=.bool y.2.2.2.2) XV rfl,mR o9.ao fun w57 R57 m57 s57 h57=>⟨_,rfl,rfl,R57,(EY A y.2.1 y.2.2.2.2).1,hv,o9.go m57 s57 h57,x9.go m57 s57,q1,q2,?_⟩⟩) (fun h8=>⟨rfl,R9,A,hv,o9,x9,q1,q2,I.up⟩)) ?_
      ·obtain⟨f1,f2,f3⟩:=oC A y.2.1 y.2.2.2.2;have ftk:∀ b,C5 (EY A y.2.1 y.2.2.2.2).1 b=C5 A b:=fun b=>by unfold EY;split<;>rfl
       exact⟨by rw[f1];exact I.geo,f3.trans I.wk,by rw[f2];exact I.cln,by rw[f2];exact I.bnd,by rw[f2];have:=I.last;omega,I.len,fun i hi=>by rw[ftk];exact I.tk i hi⟩
      ·rintro z w58 ⟨rfl,hI58⟩;exact⟨_,_,_,rfl,hI58⟩
    ·rintro z w59 ⟨z1,z2,z3,rfl,hI59⟩;exact⟨_,_,_,_,_,rfl,hI59⟩
  ·rintro z w60 ⟨z0,z1,z2,z3,z4,rfl,hI60⟩;rw[Ag (x:=(i:Int)+1) (by omega) (by omega)];exact⟨⟨i+1,_,_,_,_,_,_,_,rfl,by omega,hI60⟩,by simp[nI,Ap];omega⟩
 ·obtain⟨R,A,hv,o6,_⟩:=hI;exact oN fun w61 m61=>⟨_,rfl,rfl,o6.md.no m61⟩
end
open Go.ChangeShapes Go.WideShapes Go.RowKit Go.Joins
section
variable{H:Type}{enc:TypeId×Value->H}{w:World}{base:Nat}{held:Bool}
theorem wI{P:Program}{spare:Nat->Bool}{t:TypeId}{f0 f1 f2 f3 f4:Field}{fuel:Nat}{cs:List Value}{x:DataW H×List MemPlace}(ht:P.underlying t=some (.struct #[f0,f1,f2,f3,f4]))(h:DataW.trod enc P w base spare held fuel t cs=some x) :
  ∃ y0 y1 y2 y3 y4 n,cs.length=P.cellsOf t/\DataW.trod enc P w base spare held n f0.type ((cs.drop f0.offset).take (P.cellsOf f0.type))=some y0 /\
   DataW.trod enc P w base spare held n f1.type ((cs.drop f1.offset).take (P.cellsOf f1.type))=some y1/\DataW.trod enc P w base spare held n f2.type ((cs.drop f2.offset).take (P.cellsOf f2.type))=some y2 /\
   DataW.trod enc P w base spare held n f3.type ((cs.drop f3.offset).take (P.cellsOf f3.type))=some y3/\DataW.trod enc P w base spare held n f4.type ((cs.drop f4.offset).take (P.cellsOf f4.type))=some y4:=by
 obtain⟨xs,n,_,rfl,hl,hlen,hf⟩:=DataW.trod_struct ht h
 match xs,hlen with
 | [y0,y1,y2,y3,y4],_=>exact⟨y0,y1,y2,y3,y4,n,hl,by simpa using hf 0 f0 rfl,by simpa using hf 1 f1 rfl,by simpa using hf 2 f2 rfl,by simpa using hf 3 f3 rfl,by simpa using hf 4 f4 rfl⟩
theorem XG{n:Nat}{cs:List Value}{y:DataW H×List MemPlace}(hl:cs.length=5)(h:DataW.trod enc Tryz.prog w base (fun _=>true) held n 85 cs=some y) :
  ∃ x:Ae,cs=Zr x/\x.2.1<=9223372036854775807:=by
 match cs,hl with
 | [c0,c1,c2,c3,c4],_ =>
  obtain⟨y0,y1,y2,y3,y4,n',_,h0,h1,h2,h3,h4⟩:=wI Tryz.underlying85 h;have k0:Tryz.prog.cellsOf 3=1:=by kernel_rfl
  have k1:Tryz.prog.cellsOf 4=1:=by kernel_rfl
  have k2:Tryz.prog.cellsOf 2=1:=by kernel_rfl
  simp only[k0,k1,k2]at h0 h1 h2 h3 h4;have h0:DataW.trod enc Tryz.prog w base (fun _=>true) held n' 3 [c0]=some y0:=h0;have h1:DataW.trod enc Tryz.prog w base (fun _=>true) held n' 3 [c1]=some y1:=h1;have h2:DataW.trod enc Tryz.prog w base (fun _=>true) held n' 2 [c2]=some y2:=h2;have h3:DataW.trod enc Tryz.prog w base (fun _=>true) held n' 4 [c3]=some y3:=h3;have h4:DataW.trod enc Tryz.prog w base (fun _=>true) held n' 4 [c4]=some y4:=h4
  obtain⟨m0,e0,_,u0⟩:=DataW.trod_int Tryz.underlying3 h0;obtain⟨m1,e1,_,u1⟩:=DataW.trod_int Tryz.underlying3 h1;obtain⟨m2,e2,_,u2⟩:=DataW.trod_int Tryz.underlying2 h2;obtain⟨b3,e3,_⟩:=DataW.trod_bool Tryz.underlying4 h3;obtain⟨b4,e4,_⟩:=DataW.trod_bool Tryz.underlying4 h4;have e0:c0=.int .i64 m0:=by simpa using e0
  have e1:c1=.int .i64 m1:=by simpa using e1
  have e2:c2=.int .i64 m2:=by simpa using e2
  have e3:c3=.bool b3:=by simpa using e3
  have e4:c4=.bool b4:=by simpa using e4
  subst e0 e1 e2 e3 e4;exact⟨(m0,m1,m2,b3,b4),rfl,(gM u1).2⟩
set_option maxRecDepth 100000 in
theorem gW{r:Reach}{b0:Nat}{v:Value}{d:DataW H}{ps:List MemPlace}(hval:Value.okWide Tryz.prog w r b0 70 v)(hd:DataW.Trod enc Tryz.prog w base (fun _=>true) held 70 v d ps) :
  ∃ a l c acts,v=.slice a l c/\acts.length=l/\Bl w a (cQ acts)/\∀ x∈acts,x.2.1<=9223372036854775807:=by
 obtain⟨fuel,hf⟩:=hd;obtain⟨a,l,c,rfl⟩:=okWide_slice Tryz.underlying70 hval;rcases Go.Deep.open_slice Tryz.underlying70 hf with ⟨h1,h2⟩|⟨a',l',c',m,n,DD,Pl,h1,_,hlc,hm,hmm,hx,hel⟩
 ·simp[Value.cells]at h1;obtain⟨rfl,rfl,rfl⟩:=h1;exact⟨none,0,0,[],rfl,rfl,.inl rfl,fun x hx=>by cases hx⟩
 ·simp[Value.cells]at h1;obtain⟨rfl,rfl,rfl⟩:=h1;rw[if_pos rfl]at hmm;subst hmm;have k3:Tryz.prog.cellsOf 85=5:=by kernel_rfl
  rw[k3]at hel;by_cases h0:l=0
  ·exact⟨some a',l,m,[],rfl,by simp[h0],.inl rfl,fun x hx=>by cases hx⟩
  obtain⟨b,off,spot⟩:=a';have hspot:spot=none:=by
   obtain⟨cs',hc,ht⟩:=hel 0 (by omega);obtain⟨_,hcl,hcc⟩:=World.cells?_some hc;obtain⟨x,rfl,_⟩:=XG hcl ht;have h00:=hcc 0 (by omega)
   have:=World.cell?_spot (h00.trans rfl)
   simpa [Addr.add] using this
  subst hspot;have each:∀ i∈List.range l,∃ x:Ae,(∀(j:Nat)(v:Value),(Zr x)[j]?=some v->w.cell? ⟨b,off+(i*5+j),none⟩=some v)/\x.2.1<=9223372036854775807:=by
   intro i hi;have hi:=Ty.1 hi;obtain⟨cs',hc,ht⟩:=hel i (by omega);obtain⟨_,hcl,hcc⟩:=World.cells?_some hc;obtain⟨x,rfl,hb⟩:=XG hcl ht;refine⟨x,fun j v hj=>?_,hb⟩;have hj3:=(Lh.1 hj).1
   have:=hcc j (by have:(Zr x).length=5:=rfl;omega)
   rw[Ad,Ad,xQ]at this;rw[this,hj]
  obtain⟨ys,hyl,hys⟩:=Ry (p:=fun(i:Nat)(x:Ae)=>(∀(j:Nat)(v:Value),(Zr x)[j]?=some v->w.cell? ⟨b,off+(i*5+j),none⟩=some v)/\x.2.1<=9223372036854775807) (List.range l) each;rw[Le5]at hyl;have hfl:(cQ ys).length=ys.length*5:=KT Ur ys;refine⟨some ⟨b,off,none⟩,l,m,ys,rfl,hyl,.inr ⟨b,off,rfl,At.of_cells (by rw[hfl];omega) fun j hj=>?_⟩,fun x hx=>?_⟩
  ·have hj':j<l*5:=by rw[hfl,hyl]at hj;exact hj
   have hi:j / 5<l:=by omega
   have hyi:ys[j / 5]?=some ys[j / 5]:=by simp[hyl,hi]
   have hp:=(hys (j / 5) (j / 5) ys[j / 5] (by simp[hi]) hyi).1;obtain⟨u,hu⟩:∃ u,(Zr ys[j / 5])[j % 5]?=some u:=⟨(Zr ys[j / 5])[j % 5]'(by show j % 5<5;omega),Lk _⟩;have h4:=SA Ur hyi hu;have h5:=hp (j % 5) u hu;rw[show j / 5*5+j % 5=j by omega]at h4 h5;rw[h5];have h4:(cQ ys)[j]?=some u:=h4;rw[Lk hj]at h4;exact h4.symm
  ·obtain⟨i,hi,e⟩:=Lq4 hx;exact(hys i i x (by rw[List.getElem?_range (by omega)]) (by rw[Lk hi,e])).2
end
end Go.Z
end
