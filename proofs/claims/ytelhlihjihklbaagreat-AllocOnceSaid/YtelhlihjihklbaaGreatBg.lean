/- Parts of the proof, in order: what the statement leans on. -/
import Derived.Test.YtelhlihjihklbaaGreatBf
open Go.Proofs Go.Proofs.YtelhlihjihklbaaGreat
section
open Go Go.Den Go.Proofs
namespace Go.Z
def Mp(b0:Nat)(w:World)(la:Option Addr)(cs:List Value)(B:List (Int×Bk)):Prop :=
 cs.length=B.length*2/\∀(i:Nat)(x:Int×Bk),B[i]?=some x->∃ q c,(cs.drop (i*2)).take 2=[.int .i64 x.1,.slice (some ⟨q,0,none⟩) 256 c]/\256<=c/\A1 w q 0 (Au x.2)/\b0<=q/\∀ p,la=some p->p.block≠q
theorem Xj:Nt Tryz.prog 227 2 32:=Nu (by kernel_rfl)
theorem UY(n:Int)(a:Option Addr)(l c:Nat):Al (Instr.build 230 #[(0,.int .i64 n),(1,.slice a l c)]) (.agg ⟨[.int .i64 n,.slice a l c]⟩):=fun w=>by kernel_rfl
theorem fV(w:World)(n:Int)(a:Option Addr)(l c:Nat):(Instr.buildSlice 227 1 #[(0,.agg ⟨[.int .i64 n,.slice a l c]⟩)]).run Tryz.prog w=.ok (.slice (some ⟨w.heap.size,0,none⟩) 1 1) (w.alloc (.cells ⟨[.int .i64 n,.slice a l c]⟩ 230)):=by kernel_rfl
section
variable{b0:Nat}{w w':World}{la:Option Addr}{cs:List Value}{B:List (Int×Bk)}{K:Value->World->Prop}
theorem Mp.keep{S:Nat->Prop}(h:Mp b0 w la cs B)(m:Ab S w w')(hs:∀(i:Nat)(x:Int×Bk)(q c:Nat),B[i]?=some x->(cs.drop (i*2)).take 2=[.int .i64 x.1,.slice (some ⟨q,0,none⟩) 256 c]->¬ S q):Mp b0 w' la cs B:=by
 refine⟨h.1,fun i x hx=>?_⟩;obtain⟨q,c,h1,h2,h3,h4⟩:=h.2 i x hx;exact⟨q,c,h1,h2,h3.keep m (hs i x q c hx h1),h4⟩
theorem Mp.nos(h:Mp b0 w la cs B)(m:Ab No w w'):Mp b0 w' la cs B:=h.keep m fun _ _ _ _ _ _=>id
theorem Mp.snoc{base l c:Nat}{n:Int}{q e:Nat}{ys:Bk}(h:Mp b0 w la cs B)(o:Ow Tryz.prog w base 227 2 la l c cs)(hat:A1 w q 0 (Au ys))(he:256<=e)(hq0:b0<=q)(hq:∀ p,la=some p->p.block≠q)(hl:l<=100000)(hb:base<=w.heap.size)
  {C:Option Addr->Nat->Nat->World->Prop}
  (hk:∀ w' la' c' cs',Ow Tryz.prog w' base 227 2 la' (l+1) c' cs'->Mp b0 w' la' cs' (B++[(n,ys)])->Ab (fun x=>base<=x) w w'->C la' (l+1) c' w') :
  ∃(a44:Option Addr)(l44 c44:Nat),∃ w8:World,Ru (Instr.buildSlice 227 1 #[(0,.agg ⟨[.int .i64 n,.slice (some ⟨q,0,none⟩) 256 e]⟩)]) w (.slice a44 l44 c44) w8/\∃(a45:Option Addr)(l45 c45:Nat),∃ w9:World,Ru (Builtin.append_ #[227,227] 227 #[.slice la l c,.slice a44 l44 c44]) w8 (.slice a45 l45 c45) w9/\C a45 l45 c45 w9:=by
 obtain⟨w8,hw8⟩:∃ w8,w8=w.alloc (.cells ⟨[.int .i64 n,.slice (some ⟨q,0,none⟩) 256 e]⟩ 230):=⟨_,rfl⟩;have m8:Ab No w w8:=by rw[hw8];exact(Ab.refl No w).alloc _
 have r8:Bl w8 (some ⟨w.heap.size,0,none⟩) [.int .i64 n,.slice (some ⟨q,0,none⟩) 256 e]:=by rw[hw8];exact .inr ⟨_,_,rfl,A1.new.at⟩
 have z8:=m8.size;refine⟨_,_,_,w8,by rw[hw8];exact fV w _ _ _ _,?_⟩;obtain⟨p,c',w9,run,o9,m9,hp⟩:=(o.nos m8).appG (ty:=227) (m:=1) (c2:=1) Xj (by omega) r8 rfl (by omega) (by intro v hv;simp at hv;rcases hv with rfl | rfl<;>rfl) (by omega) (by omega) (by omega);refine⟨_,_,_,w9,run,hk w9 _ _ _ o9 ?_ ?_⟩
 ·have hlen:=o.len;have hcl:=h.1;refine⟨by simp;omega,fun i x hx=>?_⟩;have hpq:∀ q':Nat,q'<w.heap.size->(∀ p',la=some p'->p'.block≠q')->∀ p',some p=some p'->p'.block≠q':=fun q' hq' hn p' e=>by
   cases e;rcases hp with ⟨p0,e0,e1⟩ | e1
   ·rw[e1];exact hn p0 e0
   ·omega
  by_cases hi:i<B.length
  ·rw[xW hi]at hx;obtain⟨q',c2,h1,h2,h3,h5,h4⟩:=h.2 i x hx;refine⟨q',c2,?_,h2,(h3.keep m8 id).keep m9 fun⟨p0,e0,e1⟩=>h4 p0 e0 e1.symm,h5,hpq q' h3.lt h4⟩;rw[List.drop_append_of_le_length (by omega),Lv (by rw[List.length_drop];omega)];exact h1
  ·have hi2:i=B.length:=by
    have:=(Lh.1 hx).1
    simp at this;omega
   subst hi2;rw[Le2 (Ld _),fG]at hx;have hx:(n,ys)=x:=by simpa using hx
   subst hx;refine⟨q,e,?_,he,(hat.keep m8 id).keep m9 fun⟨p0,e0,e1⟩=>hq p0 e0 e1.symm,hq0,hpq q hat.lt hq⟩;rw[WD,Lt (by omega),QN,show B.length*2-cs.length=0 by omega];rfl
 ·refine(m8.mono fun _ _ e=>e.elim).trans m9 fun x hx ⟨q',e,e'⟩=>?_
  have:=(o.base e).1
  rw[e'];exact this
theorem AgD(g:Gm)(k:Nat):NL g k 0=(2+k*g.gr,Fz g (AG g k)):=by
 unfold NL RV;rw[if_pos rfl]
 congr 1
 exact Int.add_zero _
theorem AgC(g:Gm)(k:Nat):IA g k 1=[(2+k*g.gr,Fz g (AG g k))]:=by
 rw[SW,AgD];rfl
set_option maxRecDepth 8000 in
theorem sX{g:Gm}(hg:CU g=true)
  (hk:∀ w' la c cs,Ab No w w'->Ow Tryz.prog w' w.heap.size 227 2 la (CL g g.gs.toNat).length c cs->Mp w.heap.size w' la cs (CL g g.gs.toNat)->K (.slice la (CL g g.gs.toNat).length c) w') :
  A8 Tryz.prog Fo #[.agg ⟨gV g⟩,.int .i64 0] w K:=by
 apply OG;unfold Io;obtain⟨w1,a1,a2,a3,a4⟩:=AC (P:=Tryz.prog) (w:=w) (T:=40) (cs:=gV g);have hq:∀{w2:World},Ab No w1 w2->A1 w2 w.heap.size 0 (gV g):=fun m=>a2.keep m id;obtain⟨g1,g2,g3,g4,g5,g6,g7,g8,g9⟩:=Av.1 hg;have hvn:=Qh hg;have eT:AM g=(Jq g:Int)-1:=by
  have e:AM g=g.no / 4:=by unfold AM;rw[if_pos hg]
  rw[e,hvn.1];omega
 refine⟨_,w1,a1,fun x w2=>∃(k:Nat)(la:Option Addr)(c:Nat)(cs:List Value)(y2 y3 y4:Value),(k:Int)<=g.gs/\x=[.slice la (CL g k).length c,.int .i64 k,y2,y3,y4]/\Ow Tryz.prog w2 w1.heap.size 227 2 la (CL g k).length c cs/\Mp w.heap.size w2 la cs (CL g k)/\Ab No w1 w2,fun x _=>(g.gs-nI x 1).toNat,
  ⟨0,none,0,[],undef,undef,undef,by omega,rfl,Ow.nilG Xj,⟨rfl,fun i x hx=>by simp[CL]at hx⟩,Ab.refl _ _⟩,?_⟩
 rintro x w2 ⟨k,la,c,cs,y2,y3,y4,hkg,rfl,o2,h2,m2⟩;refine⟨_,rfl,_,(hq m2).at.fld Aj rfl,Aa (fun hl=>?_) (fun hl=>?_)⟩
 ·have hl:(k:Int)<g.gs:=Lc hl;have eH:Bc g k=(2+k*g.gr,0):=by unfold Bc;rw[if_pos hg,if_pos ⟨by omega,hl⟩]
  have hLl:=RY hg k;refine⟨_,(hq m2).at.all Aq rfl,pF (fun e=>absurd ⟨hg,by omega,hl⟩ e) fun _ w3 ab cb aq cc m3 rb rs=>⟨_,_,rfl,?_⟩⟩;have M3:=m2.no m3;obtain⟨w4,b1,b2,b3,b4⟩:=A9 (P:=Tryz.prog) (w:=w3) (T:=183) Cg;obtain⟨w5,c1,c2,c3,c4⟩:=b2.put (T:=183) (vs:=Ww k ab cb aq cc) Bs rfl rfl (RG _ _ _ _ _);have m5:Ab No w3 w5:=b3.own c3 (Ld _);have M5:=M3.no m5
  refine⟨_,w4,b1,w5,c1,_,(hq M5).at.all Aq rfl,_,c2.at.all Bs rfl,?_⟩;refine lJ (h:=AG g k) (Da _ _) (rb.nos m5) (rs.nos m5) (fun e=>by rw[Rk hg (by omega) hl]at e;cases e) fun _ w6 b d m6 o6=>⟨_,_,_,_,rfl,?_⟩;obtain⟨q,rfl,hq6,h6⟩:=o6.sm (by omega);have M6:=M5.no m6;have hd:=o6.cap.1;refine⟨_,(hq M6).at.all Aq rfl,cN fun w7 m7=>⟨_,_,rfl,_,_,_,rfl,?_⟩⟩
  have M7:=M6.no m7;rw[eH];refine⟨_,UY _ _ _ _,?_⟩;have hz:∀ p,la=some p->p.block≠q:=fun p e=>by
   have:=(o2.base e).2;have:=m3.size;have:=m5.size;omega
  have M27:Ab No w2 w7:=((m3.no m5).no m6).no m7;refine(h2.nos M27).snoc (o2.nos M27) (h6.keep m7 id) hd (by have:=a3.size;have:=M5.size;omega) hz (by omega) M7.size fun w9 la' c' cs' o9 h9 m9=>?_;have M9:Ab No w1 w9:=M7.up m9 (Ld _);have el:(CL g k).length+1=(CL g k++IA g k (0+1)).length:=by rw[Ls,RX]
  rw[<- AgC g k]at h9;rw[el]at o9 |-
  refine⟨fun x w10=>∃(i:Nat)(la:Option Addr)(c:Nat)(cs:List Value)(y2 y3:Value),i+1<=Jq g/\x=[.slice la (CL g k++IA g k (i+1)).length c,.int .i64 i,y2,y3]/\Ow Tryz.prog w10 w1.heap.size 227 2 la (CL g k++IA g k (i+1)).length c cs/\Mp w.heap.size w10 la cs (CL g k++IA g k (i+1))/\Ab No w1 w10,
   fun x _=>(Jq g-nI x 1).toNat,⟨0,la',c',cs',_,_,by omega,rfl,o9,h9,M9⟩,?_⟩
  rintro x w10 ⟨i,la2,c2',cs2,z2,z3,hi,rfl,o10,h10,M10⟩;refine⟨_,rfl,_,(hq M10).at.all Aq rfl,vH fun w11 m11=>⟨_,rfl,?_⟩⟩;have M11:=M10.no m11;rw[eT];refine Aa (fun hl2=>?_) (fun hl2=>?_)
  ·have hl2:i+1<Jq g:=by have:=Lc hl2;omega
   have hvx:=RZ hg (n:=4096) hl hl2 (Uw (g:=g)).2;obtain⟨w12,s1,s2,s3,s4⟩:=Fs (w:=w11) (n:=256) (by omega);refine⟨_,_,_,w12,s1,?_⟩;refine Ac.cut (fun z w13=>z=[.bool (decide (k=0/\i=0))]/\w13=w12) ?_ ?_
   ·rw[GO];refine Aa (fun hp=>⟨?_,rfl⟩) (fun hp=>⟨?_,rfl⟩)
    ·have hp:k=0:=by have:=Lc hp;omega
     congr 2
     rw[GO,Lu,Wv,Wv];omega
    ·have hp:¬ k=0:=by have:=Lb hp;omega
     rw[Lf (fun e=>hp e.1)]
   rintro z w13 ⟨rfl,rfl⟩;refine⟨_,rfl,?_⟩;refine Ac.cut (fun z w15=>∃ q' e',z=[.slice (some ⟨q',0,none⟩) 256 e']/\256<=e'/\w11.heap.size<=q'/\A1 w15 q' 0 (Au (RV g k (i+1)))/\Ab No w11 w15) (Aa (fun hp=>?_) (fun hp=>?_)) ?_
   ·have hp:=Lc hp;refine⟨_,Va,pH VU Ez (by omega) (.inr ⟨_,_,rfl,s2.at⟩) (by simp) (by omega) (by decide) cP fun w14 a14 c14 m14 o14=>⟨_,_,_,_,rfl,?_⟩⟩;obtain⟨q',rfl,hq',h14⟩:=o14.sm (by omega);refine⟨q',c14,rfl,o14.cap.1,by have:=s3.size;omega,?_,s3.no m14⟩;unfold RV;rw[if_neg (by omega),if_pos ⟨hp.1,by omega⟩];exact h14
   ·have hp:=Lb hp;refine⟨_,_,rfl,by omega,Ld _,?_,s3⟩;unfold RV;rw[if_neg (by omega),if_neg (fun e=>hp ⟨e.1,by omega⟩)];exact s2
   rintro z w15 ⟨q',e',rfl,he',hq',h15,m15⟩;refine⟨_,_,_,rfl,_,_,_,rfl,_,UY _ _ _ _,?_⟩;have e1:IntKind.i64.wrap (IntKind.i64.wrap (2+(k:Int)*g.gr+1)+i)=(NL g k (i+1)).1:=by
    have h5:(NL g k (i+1)).1=2+(k:Int)*g.gr+((i+1:Nat):Int):=rfl;have hp:0<=(k:Int)*g.gr:=xC (by omega) (by omega);rw[h5]at hvx |-;rw[Ag (x:=2+(k:Int)*g.gr+1) (by omega) (by omega),Ag (by omega) (by omega)];omega
   rw[e1];have M1015:Ab No w10 w15:=m11.no m15;have M15:=M10.no M1015;have hLl2:(CL g k++IA g k (i+1)).length<=100000:=by rw[Ls,RX];omega
   refine(h10.nos M1015).snoc (o10.nos M1015) h15 he' (by have:=a3.size;have:=M11.size;omega) (fun p e=>by have:=(o10.base e).2;have:=m11.size;omega) hLl2 M15.size fun w17 la3 c3 cs3 o17 h17 m17=>?_;have eB:(CL g k++IA g k (i+1))++[((NL g k (i+1)).1,RV g k (i+1))]=CL g k++IA g k (i+1+1):=by
    rw[WB,SW g k (i+1)];rfl
   have el2:(CL g k++IA g k (i+1)).length+1=(CL g k++IA g k (i+1+1)).length:=by
    rw[<- eB];simp;omega
   rw[eB]at h17;rw[el2]at o17 |-;rw[Ag (x:=(i:Int)+1) (by omega) (by omega)];exact⟨⟨i+1,la3,c3,cs3,_,_,by omega,rfl,o17,h17,M15.up m17 (Ld _)⟩,by simp[nI,Ap];omega⟩
  ·have hl2:i+1=Jq g:=by have:=Lb hl2;omega
   rw[hl2,<- Ox]at o10 h10;rw[hl2,<- Ox];rw[Ag (x:=(k:Int)+1) (by omega) (by omega)];exact⟨⟨k+1,_,_,_,_,_,_,by omega,rfl,o10.nos m11,h10.nos m11,M11⟩,by simp[nI,Ap];omega⟩
 ·have hl:(k:Int)=g.gs:=by have:=Lb hl;omega
  have e:g.gs.toNat=k:=by omega
  rw[e]at hk;exact⟨_,_,_,rfl,hk w2 la c cs (a3.no m2) (o2.mono a3.size) h2⟩
end
def Dr(wb:World)(R0:Nat->Prop)(N:Nat)(w:World)(d:Nat)(D:St):Prop :=
 ∃ R vb vc hs,BA w R d vb vc hs D/\(∀ x,R x->(R0 x\/wb.heap.size<=x)/\x<N)/\Ab R0 wb w/\N<=w.heap.size
section
variable{wb w w':World}{R0:Nat->Prop}{N d:Nat}{D:St}{K:Value->World->Prop}
theorem Dr.nos(h:Dr wb R0 N w d D)(m:Ab No w w'):Dr wb R0 N w' d D:=by
 obtain⟨R,vb,vc,hs,h1,h2,h3,h4⟩:=h;exact⟨R,vb,vc,hs,h1.nos m,h2,h3.no m,Up h4 m.size⟩
theorem Dr.mod(h:Dr wb R0 N w d D):Ab R0 wb w:=by obtain⟨_,_,_,_,_,_,h,_⟩:=h;exact h
theorem Dr.size(h:Dr wb R0 N w d D):N<=w.heap.size:=by obtain⟨_,_,_,_,_,_,_,h⟩:=h;exact h
theorem Dr.start{R:Nat->Prop}{vb vc:Nat}{hs:List (Nat×Nat)}(h:BA w R d vb vc hs D)(m:Ab No w wb):Dr wb R w.heap.size wb d D :=
 ⟨R,vb,vc,hs,h.nos m,fun x hx=>⟨.inl hx,h.lt x hx⟩,Ab.refl _ _,m.size⟩
theorem Dr.write(h:Dr wb R0 N w d D)(hs:∀ v∈D.vs,v.length<=999999){n:Int}{a:Option Addr}{l c:Nat}{ys:List UInt8}(hl:ys.length=l)(hr:Bl w a (Au ys))(hdis:∀ q,a=some q->N<=q.block\/(q.block<wb.heap.size/\¬ R0 q.block))
  (hk:∀ w',Dr wb R0 w'.heap.size w' d (B8 D n ys)->K (.int .i64 (Um D n ys)) w'):A8 Tryz.prog Bh #[.pointer (some ⟨d,0,none⟩),.int .i64 n,.slice a l c] w K:=by
 obtain⟨R,vb,vc,hs',h1,h2,h3,h4⟩:=h;refine iE h1 hs hl hr (fun _ q hq hR=>?_) fun w' hs2 m hd'=>hk w' ⟨BJ R w w',vb,vc,hs2,hd',fun x hx=>?_,h3.trans m fun x hx hR=>?_,Ld _⟩
 ·have h5:=h2 _ hR;rcases hdis q hq with h6 | ⟨h6,h7⟩
  ·omega
  ·rcases h5.1 with h8|h8
   ·exact h7 h8
   ·omega
 ·rcases hx with hx|hx
  ·have h5:=h2 x hx;have:=m.size;exact⟨h5.1,by omega⟩
  ·have:=h3.size
   exact⟨.inr (by omega),hx.2⟩
 ·exact((h2 x hR).1).resolve_right (by omega)
theorem Dr.flush(h:Dr wb R0 N w d D)(hs:Fd D)(hk:∀ w',Dr wb R0 w'.heap.size w' d (Dj D)->K (.int .i64 0) w'):A8 Tryz.prog Bv #[.pointer (some ⟨d,0,none⟩)] w K:=by
 obtain⟨R,vb,vc,hs',h1,h2,h3,h4⟩:=h;refine iD h1 hs fun w' hs2 m hd'=>hk w' ⟨BJ R w w',vb,vc,hs2,hd',fun x hx=>?_,h3.trans m fun x hx hR=>?_,Ld _⟩
 ·rcases hx with hx|hx
  ·have h5:=h2 x hx;have:=m.size;exact⟨h5.1,by omega⟩
  ·have:=h3.size
   exact⟨.inr (by omega),hx.2⟩
 ·exact((h2 x hR).1).resolve_right (by omega)
theorem Dr.comp{R':Nat->Prop}{w1:World}{N':Nat}{D':St}(h2:∀ x,R' x->R0 x\/wb.heap.size<=x)(hm:Ab R0 wb w)(m:Ab No w w1)(k:Dr w1 R' N' w' d D'):Dr wb R0 N' w' d D':=by
 obtain⟨R,vb,vc,hs,k1,k2,k3,k4⟩:=k;refine⟨R,vb,vc,hs,k1,fun x hx=>⟨?_,(k2 x hx).2⟩,(hm.no m).trans k3 fun x hx e=>(h2 x e).resolve_right (by omega),k4⟩;rcases(k2 x hx).1 with e|e
 ·exact h2 x e
 ·have:=hm.size;have:=m.size;exact .inr (by omega)
theorem wR(D:St)(l:List (Int×Bk))(i:Nat)(x:Int×Bk)(h:l[i]?=some x):Dd D (l.take (i+1))=B8 (Dd D (l.take i)) x.1 x.2:=by
 obtain⟨h1,h2⟩:=Lh.1 h;rw[Ll h1,Wo,h2]
set_option maxRecDepth 8000 in
theorem pC{R:Nat->Prop}{vb vc:Nat}{hs:List (Nat×Nat)}{g:Gm}(h:BA w R d vb vc hs D)(hrun:D.left=-1)(hb:Sa D 1)
  (hk0:KV D g≠0->∀ w',Ab No w w'->K (.int .i64 (KV D g)) w')
  (hk:KV D g=0->∀ w1 N w',Ab No w w1->Dr w1 R N w' d (DJ D g)->K (.int .i64 0) w') :
  A8 Tryz.prog Fm #[.pointer (some ⟨d,0,none⟩),.agg ⟨gV g⟩] w K:=by
 apply OF;unfold In;obtain⟨w1,a1,a2,a3,a4⟩:=AC (P:=Tryz.prog) (w:=w) (T:=40) (cs:=gV g);have hnR:¬ R w.heap.size:=fun e=>Ll5 _ (h.lt _ e);have hq:∀{w2:World}{N:Nat}{D':St},Dr w1 R N w2 d D'->A1 w2 w.heap.size 0 (gV g):=fun x=>a2.keep x.mod hnR;refine⟨_,w1,a1,_,a2.at.all Aq rfl,DN fun w2 m2=>⟨_,rfl,Aa (fun hg=>?_) (fun hg=>?_)⟩⟩
 ·have e:KV D g=1:=by unfold KV;rw[if_pos (by simpa using hg)]
  have:=hk0 (by rw[e];decide) w2 (a3.no m2)
  rwa [e]at this
 have hg:CU g=true:=by simpa using hg
 have md:Ab No w1 (Go.Den.Ah w2):=m2.drew;have hd:=h.nos (a3.no md);refine⟨_,rfl,_,_,_,rv hd,_,(a2.keep md id).at.all Aq rfl,L7 fun w3 m3=>⟨_,rfl,rv (hd.nos m3),Aa (fun hl=>?_) (fun hl=>?_)⟩⟩
 ·have hl:=Lc hl;have e:KV D g=4:=by unfold KV;rw[if_neg (by rw[hg];decide),if_pos hl]
  have:=hk0 (by rw[e];decide) w3 (a3.no (md.no m3))
  rwa [e]at this
 have hl:=Lb hl;have eE:KV D g=0:=by unfold KV;rw[if_neg (by rw[hg];decide),if_neg hl]
 have x3:Dr w1 R w.heap.size w3 d D:=(Dr.start h a3).nos (md.no m3);obtain⟨w4,s1,s2,s3,s4⟩:=Fs (w:=w3) (n:=256) (by omega);refine⟨_,_,_,w4,s1,(x3.nos s3).write (mC hb (by omega)) Ez (.inr ⟨_,_,rfl,s2.at⟩) (fun q e=>by cases e;exact .inl x3.size) fun w5 x5=>⟨_,rfl,?_⟩⟩;obtain⟨w6,t1,t2,t3,t4⟩:=Fs (w:=w5) (n:=256) (by omega);refine⟨_,_,_,w6,t1,(x5.nos t3).write (mC (LG hb _ _) (by omega)) Ez (.inr ⟨_,_,rfl,t2.at⟩) (fun q e=>by cases e;exact .inl x5.size) fun w7 x7=>⟨_,rfl,?_⟩⟩
 refine x7.flush (eI (LG (LG hb _ _) _ _) (by omega)) fun w8 x8=>⟨_,rfl,?_⟩;have x8:Dr w1 R w8.heap.size w8 d (Ub D):=x8;refine⟨_,(hq x8).at.all Aq rfl,sX hg fun w9 la c cs m9 o9 h9=>⟨_,_,_,rfl,?_⟩⟩;have hm8:=x8.mod;obtain⟨R8,vb8,vc8,hs8,k1,k2,k3,k4⟩:=x8;have hBl:=RY hg g.gs.toNat;obtain⟨_,_,_,g4,_⟩:=Av.1 hg;have hN8:∀ x,R8 x->x<w8.heap.size:=k1.lt
 refine⟨fun x w10=>∃ i N:Nat,i<=(CL g g.gs.toNat).length/\x=[.int .i64 i]/\Dr w9 R8 N w10 d (Dd (Ub D) ((CL g g.gs.toNat).take i)),fun x _=>((CL g g.gs.toNat).length-nI x 0).toNat,
  ⟨0,_,by omega,rfl,Dr.start k1 m9⟩,?_⟩
 rintro x w10 ⟨i,N,hi,rfl,x10⟩;have hB:∀ i,Sa (Dd (Ub D) ((CL g g.gs.toNat).take i)) 999999:=fun i=>by
  have h1:=Uo (Vw hrun) ((CL g g.gs.toNat).take i);have h2:=List.length_take_le i (CL g g.gs.toNat);have h3:((CL g g.gs.toNat).take i).length<=(CL g g.gs.toNat).length:=List.length_take_le' _ _;exact h1.mono (by omega)
 refine⟨_,rfl,Aa (fun hl2=>?_) (fun hl2=>?_)⟩
 ·have hl2:i<(CL g g.gs.toNat).length:=by have:=Lc hl2;omega
  have hx:=Lk hl2;obtain⟨q,e,h1,h2,h3,h4,h5⟩:=h9.2 i _ hx;obtain⟨p,rfl,hp,hat⟩:=o9.sm (by omega);have hcl:=h9.1;have hat10:=hat.keep x10.mod (fun e=>by have:=hN8 _ e;omega);have h10:=h3.keep x10.mod (fun e=>by have:=hN8 _ e;omega);have hc:∀ j v,([.int .i64 (CL g g.gs.toNat)[i].1,.slice (some ⟨q,0,none⟩) 256 e]:List Value)[j]?=some v->cs[i*2+j]?=some v:=fun j v hj=>by
   have hj2:j<2:=by have:=(Lh.1 hj).1;simpa using this
   rw[<- h1,Lp3,if_pos hj2,Lv2]at hj;exact hj
  have hix:Al (Instr.indexAt 227 (.slice (some ⟨p,0,none⟩) (CL g g.gs.toNat).length c) (.int .i64 i)) (.pointer (some ⟨p,i*2,none⟩)):=fun w=>by
   have:=Ar (P:=Tryz.prog) (T:=227) (k:=2) (a:=⟨p,0,none⟩) (n:=(CL g g.gs.toNat).length) (c:=c) (kk:=.i64) (i:=i) (by kernel_rfl) (by omega) (by omega) w
   rw[Ad,Pj,show(i:Int).toNat=i by omega]at this;exact this
  have ld1:Ru (Instr.loadAt 3 (.pointer (some (Addr.add ⟨p,i*2,none⟩ 0)))) (Go.Den.Ah w10) (.int .i64 (CL g g.gs.toNat)[i].1) (Go.Den.Ah w10):=by
   rw[Ad]
   have:=hat10.drew.at.load (P:=Tryz.prog) (T:=3) Aj (hc 0 _ rfl)
   rw[Pj]at this;exact this
  have ld2:Ru (Instr.loadAt 88 (.pointer (some (Addr.add ⟨p,i*2,none⟩ 1)))) (Go.Den.Ah w10) (.slice (some ⟨q,0,none⟩) 256 e) (Go.Den.Ah w10):=by
   rw[Ad]
   have:=hat10.drew.at.load (P:=Tryz.prog) (T:=88) Bn (hc 1 _ rfl)
   rw[Pj]at this;exact this
  refine⟨_,hix,_,ld1,_,hix,_,_,_,ld2,?_⟩;have hv:(CL g g.gs.toNat)[i].2.length=256:=by
   have hm:=Tx hl2;obtain⟨k,hk1,hk2⟩:=yA.1 hm;obtain⟨j,hj1,hj2⟩:=Li.1 hk2;rw[<- hj2];exact RW g k j
  refine(x10.nos (Ab.refl No w10).drew).write (hB i) hv (.inr ⟨_,_,rfl,h10.drew.at⟩) (fun q' e=>by cases e;exact .inr ⟨h3.lt,fun e=>by have:=hN8 _ e;have e:q<w8.heap.size:=this;omega⟩) fun w11 x11=>⟨_,rfl,?_⟩;rw[<- wR _ _ _ _ hx]at x11;rw[Ag (x:=(i:Int)+1) (by omega) (by omega)];exact⟨⟨i+1,_,by omega,rfl,x11⟩,by simp[nI,Ap];omega⟩
 have hl2:i=(CL g g.gs.toNat).length:=by have:=Lb hl2;omega
 have x10:=x10.comp (fun x hx=>(k2 x hx).1) hm8 m9;have hBi:=hB i;rw[hl2,xG]at x10 hBi;refine x10.flush (eI hBi (by omega)) fun w11 x11=>⟨_,rfl,_,(hq x11).at.all Aq rfl,_,Hm 1 g,?_⟩;have x11:Dr w1 R w11.heap.size w11 d (Uc D g):=x11;refine lL (s:=⟨1,g⟩) (fun e=>by rw[lO hg]at e;cases e) fun _ w12 a12 c12 m12 o12=>⟨_,_,_,_,rfl,?_⟩;refine(x11.nos m12).write (mC (Re hrun g) (by omega)) (HR _) o12.rowU.row (fun q' e=>.inl (o12.base e).1) fun w13 x13=>⟨_,rfl,?_⟩
 refine x13.flush (eI (LG (Re hrun g) _ _) (by omega)) fun w14 x14=>⟨_,rfl,?_⟩;exact hk eE w1 _ w14 a3 x14
end
theorem Ab6{w:World}{T:TypeId}{b j i n:Nat}{cs vs:List Value}(h:At w b 0 cs)(hT:Ei Tryz.prog T=some n)(hj:j+i+n<=cs.length)(hv:(cs.drop (j+i)).take n=vs):Ru (Instr.loadAt T (.pointer (some (Addr.add (Addr.add ⟨b,0,none⟩ j) i)))) w (.agg ⟨vs⟩) w:=by
 have e:Addr.add (Addr.add ⟨b,0,none⟩ j) i=Addr.add ⟨b,0,none⟩ (j+i):=by
  rw[Ad,Ad,Ad,xQ]
 rw[e];exact h.fldA hT hj hv
def vV(s:Sp)(sp wk:Nat)(nx:Int):List Value:=sV s++[.pointer (some ⟨sp,0,none⟩),.pointer (some ⟨wk,0,none⟩),.int .i64 nx]
theorem NF:DQ Tryz.prog 89=true:=by kernel_rfl
def Wc(w0:World)(R:Nat->Prop)(N:Nat)(w:World)(v d wk:Nat):Prop:=A1 w wk 0 [.slice none 0 0]/\¬ R wk/\wk≠v/\w0.heap.size<=wk/\wk<N/\d<=wk/\d<=v
theorem Wc.keep{S R R':Nat->Prop}{w0 w w':World}{N N' v d wk:Nat}(h:Wc w0 R N w v d wk)(m:Ab S w w')(hS:¬ S wk)(hR:¬ R' wk)(hN:N<=N'):Wc w0 R' N' w' v d wk :=
 ⟨h.1.keep m hS,hR,h.2.2.1,h.2.2.2.1,jJ h.2.2.2.2.1 hN,h.2.2.2.2.2⟩
def Vg(wb:World)(R0:Nat->Prop)(N:Nat)(w:World)(v d:Nat)(s:Sp)(D:St)(nx:Int):Prop :=
 ∃ R sp wk k w0,Pz w0 R w sp d ⟨⟨D,k,[]⟩,0,[]⟩/\A1 w v 0 (vV s sp wk nx)/\(¬ R v/\w0.heap.size<=v/\v<N/\(R0 v\/wb.heap.size<=v))/\(∀ x,R x->(R0 x\/wb.heap.size<=x)/\x<N)/\Ab R0 wb w/\(N<=w.heap.size/\wb.heap.size<=N/\w0.heap.size<=N/\Wc w0 R N w v d wk)
section
variable{w0 wb w w':World}{R R0:Nat->Prop}{N v d sp:Nat}{s:Sp}{D:St}{V:Ps}{nx:Int}{K:Value->World->Prop}
theorem cL{n:Int}(hP:Pz w0 R w sp d V){b:Nat}(hb:n=b)(hlt:b<V.C.D.vs.length)
  (hk:∀ w1 w' g cc,Ab R w w1->Ab No w1 w'->Pz w0 (BJ R w w1) w' sp d V->w1.heap.size<=g->A1 w' g 0 (Au (AH V b))->256<=cc->K (.tuple #[.slice (some ⟨g,0,none⟩) 256 cc,.int .i64 0]) w') :
  A8 Tryz.prog B0 #[.pointer (some ⟨sp,0,none⟩),.int .i64 n] w K:=by
 obtain⟨C,eD,eM,hP⟩:=hP;have hwf:=hP.wf;refine lD hP (fun he w' m=>?_) fun b' hb' hlt' w1 w' a cc C' m1 m2 h e1 e2 hc o=>?_
 ·have he:AD C.D n≠0:=he;rw[eD,hb]at he;exact absurd (RK V.C.D hlt).1 he
 ·have:b'=b:=by omega
  subst this;obtain⟨g,rfl,hg,hat⟩:=o.sm (by omega);rw[NX hwf.1 hwf.2.1 hwf.2.2.1,jX eD]at hat;exact hk w1 w' g cc m1 m2 ⟨C',e1.trans eD,e2.trans eM,h⟩ hg hat o.cap.1
theorem Vg.nos(h:Vg wb R0 N w v d s D nx)(m:Ab No w w'):Vg wb R0 N w' v d s D nx:=by
 obtain⟨R,sp,wk,k,w0,h1,h2,h3,h4,h5,h6,h7⟩:=h;exact⟨R,sp,wk,k,w0,h1.nos m,h2.keep m id,h3,h4,h5.no m,Up h6 m.size,h7.1,h7.2.1,h7.2.2.keep m id h7.2.2.2.1 (Ld _)⟩
theorem Vg.up(h:Vg wb R0 N w v d s D nx):Vg wb R0 w.heap.size w v d s D nx:=by
 obtain⟨R,sp,wk,k,w0,h1,h2,h3,h4,h5,h6,h7,h8,h9⟩:=h;exact⟨R,sp,wk,k,w0,h1,h2,⟨h3.1,h3.2.1,by omega,h3.2.2.2⟩,fun x hx=>⟨(h4 x hx).1,by have:=(h4 x hx).2;omega⟩,h5,Ld _,by omega,by omega,h9.keep (Ab.refl No w) id h9.2.1 h6⟩
theorem Vg.put{q:Nat}(h:Vg wb R0 N w v d s D nx)(hq:N<=q)(m:Ab (fun x=>x=q) w w'):Vg wb R0 N w' v d s D nx:=by
 obtain⟨R,sp,wk,k,w0,h1,h2,h3,h4,h5,h6,h7,h8,h9⟩:=h;refine⟨R,sp,wk,k,w0,h1.keep m (fun x hx e=>?_) (fun x hx e=>?_),h2.keep m (fun e=>?_),h3,h4,h5.trans m fun x hx e=>?_,Up h6 m.size,h7,h8,h9.keep m (fun e=>?_) h9.2.1 (Ld _)⟩
 ·have:=(h4 x hx).2
  have e:x=q:=e;omega
 ·have e:x=q:=e;omega
 ·have:=h3.2.2.1
  have e:v=q:=e;omega
 ·have e:x=q:=e;omega
 ·have:=h9.2.2.2.2.1
  have e:wk=q:=e;omega
theorem Vg.mod(h:Vg wb R0 N w v d s D nx):Ab R0 wb w:=by obtain⟨_,_,_,_,_,_,_,_,_,h,_⟩:=h;exact h
theorem Vg.size(h:Vg wb R0 N w v d s D nx):N<=w.heap.size:=by obtain⟨_,_,_,_,_,_,_,_,_,_,h,_⟩:=h;exact h
theorem Vg.at(h:Vg wb R0 N w v d s D nx):∃ sp wk,A1 w v 0 (vV s sp wk nx):=by obtain⟨_,sp,wk,_,_,_,h,_⟩:=h;exact⟨sp,wk,h⟩
theorem Vg.wf(h:Vg wb R0 N w v d s D nx):WF D:=by obtain⟨_,_,_,_,_,h,_⟩:=h;exact h.wf.2.2.2.2
theorem Vg.geo(h:Vg wb R0 N w v d s D nx):Ru (Instr.loadAt 40 (.pointer (some (Addr.add (Addr.add ⟨v,0,none⟩ 0) 1)))) w (.agg ⟨gV s.geo⟩) w:=by
 obtain⟨sp,wk,h⟩:=h.at;exact Ab6 h.at Aq (by show 4<=7;omega) rfl
theorem Vg.next(h:Vg wb R0 N w v d s D nx):Ru (Instr.loadAt 2 (.pointer (some (Addr.add ⟨v,0,none⟩ 6)))) w (.int .i64 nx) w:=by
 obtain⟨sp,wk,h⟩:=h.at;exact h.at.fld BL rfl
theorem Vg.set(h:Vg wb R0 N w v d s D nx)(n:Int):∃ w',Eh (Instr.storeAt 2 (.pointer (some (Addr.add ⟨v,0,none⟩ 6))) (.int .i64 n)) w w'/\Vg wb R0 N w' v d s D n:=by
 obtain⟨R,sp,wk,k,w0,h1,h2,h3,h4,h5,h6,h7,h8,h9⟩:=h;obtain⟨w',s1,s2,s3,s4⟩:=h2.putF (P:=Tryz.prog) (T:=2) (j:=6) (v:=.int .i64 n) BL (by show 6<7;omega) rfl;refine⟨w',s1,R,sp,wk,k,w0,h1.keep s3 (fun x hx e=>?_) (fun x hx e=>?_),s2,h3,h4,h5.trans s3 fun x hx e=>?_,by omega,h7,h8,h9.keep s3 (fun e=>h9.2.2.1 e) h9.2.1 (Ld _)⟩
 ·have e:x=v:=e;rw[e]at hx;exact h3.1 hx
 ·have e:x=v:=e
  have:=h3.2.1;omega
 ·have e:x=v:=e;rw[e];exact h3.2.2.2.resolve_right (by omega)
theorem Vg.rd(h:Vg wb R0 N w v d s D nx){n:Int}(h0:0<=n)(h1:n<D.vs.length)
  (hk:∀ w' g cc,Vg wb R0 w'.heap.size w' v d s D nx->Ab (fun x=>x<N) w w'->(∀ q w5 w6,N<=q->q<w.heap.size->Ab No w' w5->Ab (fun x=>x=q) w5 w6->Vg wb R0 w6.heap.size w6 v d s D nx)->A1 w' g 0 (Au (HU D n))->(HU D n).length=256->256<=cc->K (.tuple #[.slice (some ⟨g,0,none⟩) 256 cc,.int .i64 0]) w') :
  ∃ p:Option Addr,Ru (Instr.loadAt 89 (.pointer (some (Addr.add ⟨v,0,none⟩ 4)))) w (.pointer p) w/\A8 Tryz.prog B0 #[.pointer p,.int .i64 n] w K:=by
 have hwf:=h.wf;obtain⟨R,sp,wk,k,w0,a1,a2,a3,a4,a5,a6,a7,a8,a9⟩:=h;refine⟨_,a2.at.fld NF rfl,?_⟩;obtain⟨b,rfl⟩:=Wq h0;have hb:b<D.vs.length:=by omega
 refine cL a1 rfl hb fun w1 w' g cc m1 m2 hP hg hat hcc=>?_;have e1:HU D b=DC D b:=(RK D hb).2;have hz1:=m1.size;have hz2:=m2.size;have hz5:=a5.size;have hv:v<w.heap.size:=by have:=a3.2.2.1;omega
 have hnv:¬ BJ R w w1 v:=by
  rintro(e|e)
  ·exact a3.1 e
  ·omega
 have hwk:¬ BJ R w w1 wk:=by
  rintro(e|e)
  ·exact a9.2.1 e
  ·have:=a9.2.2.2.2.1;omega
 have hR:∀ x,BJ R w w1 x->(R0 x\/wb.heap.size<=x)/\x<w1.heap.size:=fun x hx=>by
  rcases hx with hx|hx
  ·exact⟨(a4 x hx).1,by have:=(a4 x hx).2;omega⟩
  ·exact⟨.inr (by omega),by omega⟩
 have M:Ab R0 wb w':=(a5.trans m1 fun x hx e=>((a4 x e).1).resolve_right (by omega)).no m2;have hV:=(a2.keep m1 a3.1).keep m2 id;refine hk w' g cc ⟨_,sp,wk,k,w0,hP,hV,⟨hnv,a3.2.1,by omega,a3.2.2.2⟩,fun x hx=>⟨(hR x hx).1,by have:=(hR x hx).2;omega⟩,M,Ld _,by omega,by omega,(a9.keep m1 a9.2.1 hwk (N':=w'.heap.size) (by omega)).keep m2 id hwk (Ld _)⟩ ((m1.mono fun x _ e=>(a4 x e).2).no m2) (fun q w5 w6 hq1 hq2 m5 m6=>?_) ?_ ?_ hcc
 ·have hz3:=m5.size;have hz4:=m6.size;have hnq:∀ x,BJ R w w1 x->x≠q:=fun x hx e=>by
   subst e;rcases hx with hx | hx
   ·have:=(a4 _ hx).2;omega
   ·omega
  refine⟨_,sp,wk,k,w0,(hP.nos m5).keep m6 hnq (fun x hx e=>?_),(hV.keep m5 id).keep m6 (fun e=>?_),⟨hnv,a3.2.1,by omega,a3.2.2.2⟩,fun x hx=>⟨(hR x hx).1,by have:=(hR x hx).2;omega⟩,(M.no m5).trans m6 fun x hx e=>?_,Ld _,by omega,by omega,(((a9.keep m1 a9.2.1 hwk (N':=w6.heap.size) (by omega)).keep m2 id hwk (Ld _)).keep m5 id hwk (Ld _)).keep m6 (fun e=>?_) hwk (Ld _)⟩
  ·have e:x=q:=e;omega
  ·have e:v=q:=e
   have:=a3.2.2.1;omega
  ·have e:x=q:=e;omega
  ·have e:wk=q:=e
   have:=a9.2.2.2.2.1;omega
 ·rw[e1];exact hat
 ·rw[e1];unfold DC;rw[NK hb];exact hwf.lastLen (Lk hb)
theorem Rh{g:Gm}{k b:Int}(h:Bc g k=(b,0)):0<=b/\b<AJ g:=by
 unfold Bc at h
 split at h
 ·rename_i hg
  split at h
  ·rename_i hk;have e:AJ g=2+g.gs*g.gr:=by unfold AJ;rw[if_pos hg]
   obtain⟨h1,_⟩:=Av.1 hg;have hmul:(k+1)*g.gr<=g.gs*g.gr:=Lt3 (by omega) (by omega);have hp:0<=k*g.gr:=xC hk.1 (by omega);have hs:(k+1)*g.gr=k*g.gr+g.gr:=by rw[Int.add_mul,Ly5]
   cases h;omega
  ·cases h
 ·cases h
theorem AgB{k:Int}(h:Vg wb R0 N w v d s D nx)(hk:∀ w',Ab No w w'->K (.tuple #[.int .i64 (Bc s.geo k).1,.int .i64 (Bc s.geo k).2]) w'):A8 Tryz.prog EH #[.pointer (some ⟨v,0,none⟩),.int .i64 k] w K:=by
 apply MW;unfold Jf;exact ff rfl ⟨_,rfl,_,h.geo,Hq fun w' m=>⟨_,_,rfl,hk w' m⟩⟩
theorem AgE{k:Int}(h63:k<=9223372036854775807)(h:Vg wb R0 N w v d s D nx)(hk:∀ w',Ab No w w'->K (.tuple #[.int .i64 (B9 s.geo k).1,.int .i64 (B9 s.geo k).2.1,.int .i64 (B9 s.geo k).2.2]) w'):A8 Tryz.prog HW #[.pointer (some ⟨v,0,none⟩),.int .i64 k] w K:=by
 apply TT;unfold Mx;exact ff rfl ⟨_,rfl,_,h.geo,gH h63 fun w' m=>⟨_,_,_,rfl,hk w' m⟩⟩
theorem AbB{k:Int}(h:Vg wb R0 N w v d s D nx)(hsz:AJ s.geo<=D.vs.length)
  (hk:∀ w',Vg wb R0 w'.heap.size w' v d s D nx->K (.tuple #[.agg ⟨hV (Cn D s.geo k).1⟩,.int .i64 (Cn D s.geo k).2]) w'):A8 Tryz.prog B1 #[.pointer (some ⟨v,0,none⟩),.int .i64 k] w K:=by
 apply MV;unfold Je;obtain⟨w1,b1,b2,b3,b4⟩:=A9 (P:=Tryz.prog) (w:=w) (T:=119) B7;have hN:=h.size;have fin:∀(w':World)(i:Hd)(e:Int),A1 w' w.heap.size 0 (hV hZ)->(∀ w6,Ab (fun x=>x=w.heap.size) w' w6->Vg wb R0 w6.heap.size w6 v d s D nx)->(i,e)=Cn D s.geo k->∃ w3:World,Eh (Instr.storeAt 119 (.pointer (some ⟨w.heap.size,0,none⟩)) (.agg ⟨hV i⟩)) w' w3/\∃ gR2:Array Value,Ru (Instr.loadAt 119 (.pointer (some ⟨w.heap.size,0,none⟩))) w3 (.agg gR2) w3/\K (.tuple #[.agg gR2,.int .i64 e]) w3:=fun w' i e hat hv he=>by
  have hw:Fq i:=by have:=Xz D s.geo k;rw[<- he]at this;exact this
  obtain⟨w3,c1,c2,c3,c4⟩:=hat.put (T:=119) (vs:=hV i) Ax rfl (Aw hw) (Db _);refine⟨w3,c1,_,c2.at.all Ax (Aw hw),?_⟩
  have:=hk w3 (hv w3 c3)
  rw[<- he]at this;exact this
 have h1:=h.nos b3;refine⟨_,w1,b1,AgB h1 fun w2 m2=>⟨_,_,rfl,?_⟩⟩;have h2:=h1.nos m2;rw[Di];refine Aa (fun he=>⟨_,DT,?_⟩) (fun he=>?_)
 ·have he:=Lc he;exact fin w2 hZ _ (b2.keep m2 id) (fun w6 m6=>(h2.put hN m6).up) (by unfold Cn;rw[if_pos he])
 have he:=Tw.1 (Lb he);have hin:=Rh (g:=s.geo) (k:=k) (b:=(Bc s.geo k).1) (by rw[<- he]);refine⟨_,rfl,?_⟩;have hs1:=b3.size;have hs2:=m2.size;refine h2.rd hin.1 (by omega) fun w4 g cc h4 m4 hput hat hl hcc=>⟨_,_,_,_,rfl,ff rfl ⟨_,rfl,_,h4.geo,?_⟩⟩;refine X0 hl hcc (.inr ⟨_,_,rfl,hat.at⟩) (by omega) fun w6 m6=>⟨_,_,rfl,?_⟩;exact fin w6 _ _ (((b2.keep m2 id).keep m4 (by show ¬ w.heap.size<N;omega)).keep m6 id) (fun w7 m7=>hput _ w6 w7 hN (by omega) m6 m7) (by unfold Cn;rw[if_neg (by rw[he];decide)])
theorem dN{k:Int}(h63:k<=9223372036854775807)(h:Vg wb R0 N w v d s D nx)(hsz:AJ s.geo<=D.vs.length)
  (hk:∀ w',Vg wb R0 w'.heap.size w' v d s D nx->K (.tuple #[.agg ⟨nV (AV D s.geo k).1⟩,.int .i64 (AV D s.geo k).2]) w'):A8 Tryz.prog F4 #[.pointer (some ⟨v,0,none⟩),.int .i64 k] w K:=by
 apply TR;unfold Mv;obtain⟨w1,b1,b2,b3,b4⟩:=A9 (P:=Tryz.prog) (w:=w) (T:=218) DP;have hN:=h.size;have fin:∀(w':World)(i:Nd)(e:Int),A1 w' w.heap.size 0 (nV nZ)->(∀ w6,Ab (fun x=>x=w.heap.size) w' w6->Vg wb R0 w6.heap.size w6 v d s D nx)->(i,e)=AV D s.geo k->∃ w3:World,Eh (Instr.storeAt 218 (.pointer (some ⟨w.heap.size,0,none⟩)) (.agg ⟨nV i⟩)) w' w3/\∃ gR2:Array Value,Ru (Instr.loadAt 218 (.pointer (some ⟨w.heap.size,0,none⟩))) w3 (.agg gR2) w3/\K (.tuple #[.agg gR2,.int .i64 e]) w3:=fun w' i e hat hv he=>by
  have hw:Ui i:=by have:=LD D s.geo k;rw[<- he]at this;exact this
  obtain⟨w3,c1,c2,c3,c4⟩:=hat.put (T:=218) (vs:=nV i) AS rfl (C4 hw) (Ht _);refine⟨w3,c1,_,c2.at.all AS (C4 hw),?_⟩
  have:=hk w3 (hv w3 c3)
  rw[<- he]at this;exact this
 have h1:=h.nos b3;refine⟨_,w1,b1,AgE h63 h1 fun w2 m2=>⟨_,_,_,rfl,?_⟩⟩;have h2:=h1.nos m2;rw[Di];refine Aa (fun he=>⟨_,CY,?_⟩) (fun he=>?_)
 ·have he:=Lc he;exact fin w2 nZ _ (b2.keep m2 id) (fun w6 m6=>(h2.put hN m6).up) (by unfold AV;rw[if_pos he])
 have he:=Tw.1 (Lb he);have hin:=bA (g:=s.geo) (s:=k) (b:=(B9 s.geo k).1) (p:=(B9 s.geo k).2.1) (by rw[<- he]);refine⟨_,rfl,?_⟩;have hs1:=b3.size;have hs2:=m2.size;refine h2.rd (by omega) (by omega) fun w4 g cc h4 m4 hput hat hl hcc=>⟨_,_,_,_,rfl,ff rfl ?_⟩;refine oM hl hcc (.inr ⟨_,_,rfl,hat.at⟩) (by omega) fun w6 m6=>⟨_,_,rfl,?_⟩;exact fin w6 _ _ (((b2.keep m2 id).keep m4 (by show ¬ w.heap.size<N;omega)).keep m6 id) (fun w7 m7=>hput _ w6 w7 hN (by omega) m6 m7) (by unfold AV;rw[if_neg (by rw[he];decide)])
end
section
variable{V:Ps}{g:Gm}{hs:List Hd}
theorem Xo(l:List On)(f:On->On)(hf:∀ o,(f o).b=o.b)(k:Int):(l.map f).find? (fun o=>(o.b:Int)==k)=(l.find? fun o=>(o.b:Int)==k).map f:=by
 rw[List.find?_map]
 congr 2
 funext o;simp only[Function.comp];rw[hf]
theorem cB(V:Ps)(b:Nat)(n:Int):BQ (BE V b) n=match BQ V n with | some o=>some o | none=>if (b:Int)=n then some ⟨b,AH V b,[]⟩else none:=by
 unfold BE;cases hb:BQ V b with
 | some o =>
  show BQ V n=_;cases hn:BQ V n with
  | some o2=>rfl
  | none =>
   show none=_;rw[if_neg fun e=>by rw[<- e,hb]at hn;cases hn]
 | none =>
  show(V.ons++[(⟨b,AH V b,[]⟩:On)]).find? (fun o=>(o.b:Int)==n)=_;rw[List.find?_append];show(BQ V n).or _=_;cases hn:BQ V n with
  | some o2=>rfl
  | none =>
   simp only[Option.none_or,List.find?_cons,List.find?_nil];by_cases e:(b:Int)=n
   ·rw[if_pos e];have:((b:Int)==n)=true:=by simpa using e
    rw[this]
   ·rw[if_neg e];have:((b:Int)==n)=false:=by simpa using e
    rw[this]
theorem nN(V:Ps)(b c:Nat):AH (BE V b) c=AH V c:=by
 have hC:=(Qb (V:=V) (b:=b)).1;have e:=cB V b c;unfold AH;cases hc:BQ V c with
 | some o =>
  rw[hc]at e;rw[e]
 | none =>
  rw[hc]at e;simp only at e;by_cases hb:(b:Int)=c
  ·rw[if_pos hb]at e;rw[e];have hbc:b=c:=by omega
   subst hbc;show AW (AH V b) []=_;unfold AH;rw[hc];rfl
  ·rw[if_neg hb]at e;rw[e];show DC (BE V b).C.D c=DC V.C.D c;rw[hC]
theorem nM(V:Ps)(x:Ch)(c:Nat):AH (KM V x) c=if c=x.b then B2 (AH V c) x.frm x.data else AH V c:=by
 rw[<- nN V x.b c];show AH (HH (BE V x.b) x) c=_;have hon:∃ o,BQ (BE V x.b) x.b=some o:=by
  rw[cB];cases BQ V x.b with
  | some o=>exact⟨o,rfl⟩
  | none=>exact⟨⟨x.b,AH V x.b,[]⟩,if_pos rfl⟩
 generalize BE V x.b=W at *;have e:BQ (HH W x) c=(BQ W c).map (fun o=>if o.b=x.b then { o with l:=o.l++[x] }else o):=Xo W.ons _ (fun o=>by split<;>rfl) c;show AH (HH W x) c=_;unfold AH;rw[e];cases hc:BQ W c with
 | none =>
  by_cases hcb:c=x.b
  ·obtain⟨o,ho⟩:=hon;rw[hcb,ho]at hc;cases hc
  ·rw[if_neg hcb];rfl
 | some o =>
  have hob:=(CB hc).2;have hob:o.b=c:=by omega
  by_cases hcb:c=x.b
  ·rw[if_pos hcb];simp only[La4];rw[if_pos (by omega)];show AW o.base (o.l++[x])=_;unfold AW;rw[Ld5];rfl
  ·rw[if_neg hcb];simp only[La4];rw[if_neg (by omega)]
theorem Xf{n f:Int}{data:Bk}{after:List Int}(h:Jv V n f data after=0)(c:Nat):AH (Er V n f data after) c=if c=n.toNat then B2 (AH V c) f.toNat data else AH V c:=by
 have e:Er V n f data after=KM V (GP V n.toNat f.toNat data after):=by unfold Er;rw[if_pos h]
 rw[e,nM];rfl
theorem U0(V:Ps)(n f:Int)(data:Bk)(after:List Int):(Er V n f data after).C=V.C:=(uR (V:=V) (C:=V.C) rfl).2.2
theorem SQ{n f:Int}{data:Bk}{after:List Int}(h:Jv V n f data after=0):(Er V n f data after).last=V.last+1:=by
 unfold Er;rw[if_pos h];rfl
def CJ(V:Ps)(g:Gm)(hs:List Hd):Prop :=
 CU g=true/\AJ g<=V.C.D.vs.length/\(hs.length:Int)=g.gs/\∀(k:Nat)(h:Hd),hs[k]?=some h->AH V (2+k*g.gr).toNat=Fz g h/\I8 g h=true/\h.no=k/\Fq h
theorem KX{g:Gm}(hg:CU g=true){k:Nat}(hk:(k:Int)<g.gs):Bc g k=(2+k*g.gr,0)/\2<=2+(k:Int)*g.gr/\2+(k:Int)*g.gr<AJ g:=by
 have e:Bc g k=(2+k*g.gr,0):=by unfold Bc;rw[if_pos hg,if_pos ⟨by omega,hk⟩]
 obtain⟨h1,_⟩:=Av.1 hg;have hp:0<=(k:Int)*g.gr:=xC (by omega) (by omega);exact⟨e,by omega,(Rh e).2⟩
theorem tD{g:Gm}(hg:CU g=true){j k:Nat}(h:(2+(j:Int)*g.gr).toNat=(2+(k:Int)*g.gr).toNat):j=k:=by
 obtain⟨h1,_⟩:=Av.1 hg;have hj:0<=(j:Int)*g.gr:=xC (by omega) (by omega);have hk:0<=(k:Int)*g.gr:=xC (by omega) (by omega);have e:(j:Int)*g.gr=k*g.gr:=by omega
 have:=Int.eq_of_mul_eq_mul_right (by omega) e
 omega
theorem CJ.lt(h:CJ V g hs){k:Nat}{x:Hd}(hk:hs[k]?=some x):(k:Int)<g.gs:=by
 have:=(Lh.1 hk).1
 have:=h.2.2.1
 omega
def VY(g:Gm)(h:Hd):Bk:=(Fz g h).take 64
theorem XX{g:Gm}{h:Hd}(hw:Fq h):(VY g h).length=64:=by unfold VY;rw[xF,Jo hw];rfl
def NG(V:Ps)(g:Gm)(k:Nat)(h:Hd):Ps:=Er V (2+k*g.gr) 0 (VY g h) []
theorem iP(hV:CJ V g hs){k:Nat}(hk:(k:Int)<g.gs){h:Hd}(hw:Fq h):Jv V (2+k*g.gr) 0 (VY g h) []=0:=by
 obtain⟨_,p1,p2⟩:=KX hV.1 hk
 have:=hV.2.1
 have e:AD V.C.D (2+k*g.gr)=0:=by unfold AD;rw[if_neg (by omega)]
 unfold Jv;rw[e,if_neg (by decide),if_neg (by rw[XX hw];omega)];rfl
theorem CJ.set(hV:CJ V g hs){k:Nat}(hk:(k:Int)<g.gs){h:Hd}(hw:Fq h)(ho:I8 g h=true)(hn:h.no=k):CJ (NG V g k h) g (hs.set k h):=by
 have hE:=iP hV hk (h:=h) hw;obtain⟨g1,g2,g3,g4⟩:=hV;refine⟨g1,by unfold NG;rw[U0];exact g2,by simpa using g3,fun j x hj=>?_⟩;unfold NG;rw[Xf hE];by_cases e:j=k
 ·subst e;have hlt:j<hs.length:=by omega
  rw[Zp hlt]at hj;cases hj;rw[if_pos rfl];obtain⟨q1,q2,q3,q4⟩:=g4 j hs[j] (by simp[hlt]);rw[q1];exact⟨sY q4 hw,ho,hn,hw⟩
 ·rw[ZK (fun x=>e x.symm)]at hj;rw[if_neg fun x=>e (tD g1 x)];exact g4 j x hj
end
def Et(g:Gm)(s:Int)(i:Nat):Nat:=((s+i) % g.gs).toNat
def L9(p:Int)(there:Bool)(i:Nat):Int:=if i=0/\there=true then p+1 else 0
def GM(g:Gm)(hs:List Hd)(fz:Int->Bool)(find:Hd->Int->Int)(s p:Int)(there:Bool)(i:Nat):Option (Nat×Int) :=
 if fz (Et g s i)=true then none else
  match hs[Et g s i]? with
  | some h=>if 0<=find h (L9 p there i)then some (Et g s i,find h (L9 p there i))else none
  | none=>none
def Cw(g:Gm)(hs:List Hd)(fz:Int->Bool)(find:Hd->Int->Int)(s p:Int)(there:Bool):Nat->Option (Nat×Int)
 | 0=>none
 | n+1=>match Cw g hs fz find s p there n with | some x=>some x | none=>GM g hs fz find s p there n
theorem vJ{g:Gm}(hg:CU g=true)(s:Int)(i:Nat):(Et g s i:Int)<g.gs:=by
 obtain⟨_,_,h3,_⟩:=Av.1 hg;unfold Et;have h1:=Lp5 (s+i) (show g.gs≠0 by omega);have h2:=Lr5 (s+i) (show 0<g.gs by omega);omega
theorem ZQ{a b:Nat}(ha:a<256)(hb:b<256):IntKind.u8.wrap (Vd 8 (a:Int) (b:Int))=((a &&& (255-b):Nat):Int):=by
 have:Vd 8 (a:Int) (b:Int)=((a &&& (255-b):Nat):Int):=by
  show(((_:BitVec 8).toNat:Nat):Int)=_;rw[dU,dU,BitVec.toNat_and,BitVec.toNat_not,dW,dW,dS ha,dS hb]
 have hlt:a &&& (255-b)<=a:=Nat.and_le_left;rw[this,Ko];omega
section
variable{w:World}{K:Value->World->Prop}
theorem rK{a:Option Addr}{l c i:Nat}{on:Bool}{xs:List UInt8}(hl:xs.length=l)(hr:Bl w a (Au xs))(h63:l<=1048576)(hi:i<8*l)
  (hk:∀ w' q,Ab No w w'->w.heap.size<=q->A1 w' q 0 (Au (HO xs i on))->K (.tuple #[.slice (some ⟨q,0,none⟩) l l,.int .i64 0]) w'):A8 Tryz.prog PO #[.slice a l c,.int .i64 i,.bool on] w K:=by
 apply eK;unfold UE;apply Qk;unfold LL;refine Ac.dup (tt (Le (by omega)) ⟨_,rfl,_,rfl,ff ?_ ?_⟩)
 ·rw[Ag (x:=8*(l:Int)) (by omega) (by omega),Le (by omega)];rfl
 have hi8:i / 8<xs.length:=by omega
 have d1:IntKind.i64.wrap (Int.tdiv (i:Int) 8)=((i / 8:Nat):Int):=by rw[jI (by omega),Ag (by omega) (by omega)];omega
 have d2:Int.tmod (i:Int) 8=((i % 8:Nat):Int):=by rw[mL (by omega)];omega
 rw[d1,d2];have hp8:=iA (k:=i % 8) (by omega);obtain⟨w1,a1,a2,a3,a4⟩:=D3 (P:=Tryz.prog) (w:=w) (n:=l) AE (by omega) (by omega) (by omega);obtain⟨w2,b1,b2,b3,b4⟩:=aK (P:=Tryz.prog) (T:=88) (T2:=88) (ty:=3) (n:=l) (n2:=l) (c:=l) (c2:=c) Am a2 (by simp) (hr.nos a3) (by rw[Ak,hl];omega) (BF _);have e2:AA (List.replicate (l*1) (Value.int .u8 0)) 0 ((Au xs).take (Nat.min l l*1))=Au xs:=by
  unfold AA;rw[xE,QN,Lg (by rw[Ak,hl];simp),Lt (by rw[Ak,hl];simp),fH]
 rw[e2]at b2;have ix:Al (Instr.indexAt 88 (.slice (some ⟨w.heap.size,0,none⟩) l l) (.int .i64 ((i / 8:Nat):Int))) (.pointer (some ⟨w.heap.size,i / 8,none⟩)):=by
  have:=Ar (P:=Tryz.prog) (T:=88) (k:=1) (n:=l) (c:=l) (a:=⟨w.heap.size,0,none⟩) (kk:=.i64) (i:=((i / 8:Nat):Int)) Am (by omega) (by omega)
  rw[Ad,show 0+((i / 8:Nat):Int).toNat*1=i / 8 by omega]at this;exact this
 have n1:(xs.getD (i / 8) 0).toNat &&& (255-2 ^ (i % 8))<256:=Nat.lt_of_le_of_lt Nat.and_le_left (xs.getD (i / 8) 0).toNat_lt;obtain⟨w4,c1,c2,c3,c4⟩:=b2.drew.store (P:=Tryz.prog) (T:=5) (i:=i / 8) (v:=.int .u8 (((xs.getD (i / 8) 0).toNat &&& (255-2 ^ (i % 8)):Nat):Int)) (by kernel_rfl) (by rw[Ak];omega) rfl;rw[Ov _ _ _ n1]at c2;have c2:A1 w4 w.heap.size 0 (Au (S2 xs i)):=c2;have M2:Ab No w w2:=a3.own b3 (Ld _)
 have M4:Ab No w w4:=M2.drew.own c3 (Ld _);have g0:xs.getD (i / 8) 0=xs[i / 8]:=by rw[Lj,Lk hi8];rfl
 refine⟨_,_,_,w1,a1,_,w2,b1,_,ix,((xs.getD (i / 8) 0).toNat:Int),?_,_,vR (by omega),_,ix,w4,?_,?_⟩
 ·have:=b2.at.drew.load (P:=Tryz.prog) (T:=5) (i:=i / 8) (by kernel_rfl) (CP hi8)
  rw[Pj]at this;rw[g0];exact this
 ·rw[RH (mJ _ (by omega)),ZQ (UInt8.toNat_lt _) hp8];rw[Pj]at c1;exact c1
 refine Ac.cut (fun z w6=>A1 w6 w.heap.size 0 (Au (HO xs i on))/\Ab No w w6) ?_ ?_
 ·cases on with
  | false=>exact⟨c2,M4⟩
  | true =>
   have hc8:i / 8<(S2 xs i).length:=by rw[Ve];exact hi8
   have n2:((S2 xs i).getD (i / 8) 0).toNat ||| 2 ^ (i % 8)<256:=xX (n:=8) (UInt8.toNat_lt _) hp8;obtain⟨w5,d1,d2,d3,d4⟩:=c2.drew.store (P:=Tryz.prog) (T:=5) (i:=i / 8) (v:=.int .u8 ((((S2 xs i).getD (i / 8) 0).toNat ||| 2 ^ (i % 8):Nat):Int)) (by kernel_rfl) (by rw[Ak];omega) rfl;rw[Ov _ _ _ n2]at d2;have g1:(S2 xs i).getD (i / 8) 0=(S2 xs i)[i / 8]:=by rw[Lj,Lk hc8];rfl
   refine⟨_,ix,(((S2 xs i).getD (i / 8) 0).toNat:Int),?_,_,vR (by omega),_,ix,w5,?_,d2,M4.drew.own d3 (Ld _)⟩
   ·have:=c2.at.drew.load (P:=Tryz.prog) (T:=5) (i:=i / 8) (by kernel_rfl) (CP hc8)
    rw[Pj]at this;rw[g1];exact this
   ·rw[RH (mJ _ (by omega)),Uz (UInt8.toNat_lt _) hp8];rw[Pj]at d1;exact d1
 ·rintro z w6 ⟨h1,h2⟩;exact hk w6 _ h2 (Ld _) h1
def aY(xs:List UInt8)(i:Nat):Int:=match (List.range i).find? (C0 xs)with | some j=>j | none=>-1
theorem UX{a:Option Addr}{l c:Nat}{n f:Int}{xs:List UInt8}(hl:xs.length=l)(hr:Bl w a (Au xs))(h63:l<=1048576)(hk:∀ w',Ab No w w'->K (.int .i64 (GA xs n f)) w'):A8 Tryz.prog I2 #[.slice a l c,.int .i64 n,.int .i64 f] w K:=by
 apply Yf;unfold QB;refine Ac.cut (fun z w1=>w1=w/\z=[.bool (decide (f<0\/n<f))]) (Aa (fun h=>⟨rfl,?_⟩) (fun h=>⟨rfl,?_⟩)) ?_
 ·rw[Le (show f<0\/n<f from .inl (Lc h))]
 ·have h:=Lb h
  congr 2
  exact ZH.2 ⟨.inr,fun e=>e.resolve_left h⟩
 rintro z w1 ⟨rfl,rfl⟩;refine⟨_,rfl,Ac.cut (fun z w2=>w2=w1/\z=[.int .i64 (Nz n f)]) (Aa (fun h=>⟨rfl,?_⟩) (fun h=>⟨rfl,?_⟩)) ?_⟩
 ·unfold Nz;rw[if_pos (Lc h)]
 ·unfold Nz;rw[if_neg (Lb h)]
 rintro z w2 ⟨rfl,rfl⟩;apply SZ;unfold MY;refine⟨_,rfl,?_⟩;rw[Ag (x:=8*(l:Int)) (by omega) (by omega)];have em:(if 8*(l:Int)<(if 0 > n then 0 else n)then 8*(l:Int)else(if 0 > n then 0 else n))=(xK xs n:Int):=by
  unfold xK;rw[hl];split<;>split<;>omega
 rw[em];have hu:xK xs n<=8*l:=by unfold xK;omega
 generalize hm:xK xs n=m at *;refine⟨fun x w3=>∃ j:Nat,j<=m/\x=[.int .i64 (aY xs j),.int .i64 j]/\(List.range j).find? (fun i=>C0 xs i&&decide (Nz n f<=i))=none/\Ab No w2 w3,fun x _=>(m-nI x 1).toNat,⟨0,by omega,rfl,rfl,Ab.refl _ _⟩,?_⟩;rintro x w3 ⟨j,hj,rfl,hno,m3⟩;refine⟨_,rfl,Aa (fun h=>?_) (fun h=>?_)⟩
 ·have h:=Lc h;have hs:=HX (C0 xs) j;have hs2:=HX (fun i=>C0 xs i&&decide (Nz n f<=i)) j;rw[hno]at hs2;have hs2:(List.range (j+1)).find? (fun i=>C0 xs i&&decide (Nz n f<=i))=if (C0 xs j&&decide (Nz n f<=j))=true then some j else none:=hs2
  refine Ac.cut (fun z w5=>z=[.int .i64 (aY xs (j+1))]/\(List.range (j+1)).find? (fun i=>C0 xs i&&decide (Nz n f<=i))=none/\Ab No w2 w5) ?_ ?_
  ·refine QU (xs:=xs) hl (hr.nos m3) h63 (by omega) fun w5 m5=>⟨_,rfl,Aa (fun h2=>⟨?_,?_,m3.no m5⟩) (fun h2=>⟨_,rfl,Aa (fun h3=>?_) (fun h3=>⟨_,rfl,?_⟩)⟩)⟩
   ·have hc:C0 xs j=false:=by unfold C0;rw[h2];rfl
    unfold aY;rw[hs,hc];cases (List.range j).find? (C0 xs)<;>rfl
   ·have hc:C0 xs j=false:=by unfold C0;rw[h2];rfl
    rw[hs2,hc];rfl
   ·have h3:=Lc h3;have hc:C0 xs j=true:=by unfold C0;rw[h2];rfl
    have hc2:(C0 xs j&&decide (Nz n f<=j))=true:=by rw[hc,Le (by omega)];rfl
    rw[if_pos hc2]at hs2;have e:GA xs n f=j:=by
     unfold GA;rw[hm,Ua hs2 (by omega)]
    rw[<- e];exact hk _ (m3.no m5)
   ·have h3:=Lb h3;have hc:C0 xs j=true:=by unfold C0;rw[h2];rfl
    have hc2:(C0 xs j&&decide (Nz n f<=j))=false:=by rw[hc,Lf (by omega)];rfl
    rw[hc2]at hs2;rw[hc]at hs;refine Ac.cut (fun z w6=>w6=w5/\z=[.int .i64 (aY xs (j+1))]) (Aa (fun h4=>⟨rfl,?_⟩) (fun h4=>⟨rfl,?_⟩)) ?_
    ·have h4:=Lc h4;unfold aY at h4 |-;rw[hs];cases hf:(List.range j).find? (C0 xs)with
     | none=>rfl
     | some i=>rw[hf]at h4;simp only at h4;omega
    ·have h4:=Lb h4;unfold aY at h4 |-;rw[hs];cases hf:(List.range j).find? (C0 xs)with
     | none=>rw[hf]at h4;simp only at h4;omega
     | some i=>rfl
    ·rintro z w6 ⟨rfl,rfl⟩;exact⟨rfl,hs2,m3.no m5⟩
  ·rintro z w5 ⟨rfl,h1,h2⟩;rw[Ag (x:=(j:Int)+1) (by omega) (by omega)];exact⟨⟨j+1,by omega,rfl,h1,h2⟩,by simp[nI,Ap];omega⟩
 ·have h:=Lb h;have:j=m:=by omega
  subst this;refine⟨_,rfl,?_⟩;have e:GA xs n f=aY xs j:=by
   unfold GA aY;rw[hm,hno];cases (List.range j).find? (C0 xs)<;>rfl
  rw[<- e];exact hk _ m3
end
theorem LY{g:Gm}:0<=AM g/\AM g<=16:=by
 unfold AM;split
 ·rename_i h;obtain⟨_,_,_,_,h5,h6,_⟩:=Av.1 h;omega
 ·omega
section
variable{w:World}{K:Value->World->Prop}
theorem kH{g:Gm}{h:Hd}{i f t:Int}(hw:Fq h)(hk:∀ w',Ab No w w'->K (.int .i64 (GC g h i f t)) w') :
  A8 Tryz.prog JL #[.agg ⟨gV g⟩,.agg ⟨hV h⟩,.int .i64 i,.int .i64 f,.int .i64 t] w K:=by
 apply Z2;unfold Tl;obtain⟨w1,a1,a2,a3,a4⟩:=AC (P:=Tryz.prog) (w:=w) (T:=40) (cs:=gV g);obtain⟨w2,b1,b2,b3,b4⟩:=AC (P:=Tryz.prog) (w:=w1) (T:=119) (cs:=hV h);have m2:=a3.no b3;refine⟨_,w1,a1,_,w2,b1,_,(a2.at.keep b3 id).all Aq rfl,_,b2.at.all Ax (Aw hw),N0 hw fun w3 m3=>⟨_,rfl,Aa (fun ho=>?_) (fun ho=>?_)⟩⟩
 ·have e:GC g h i f t=1:=by unfold GC;rw[if_pos (by simpa using ho)]
  rw[<- e];exact hk _ (m2.no m3)
 have ho:I8 g h=true:=by simpa using ho
 refine Ac.cut (fun z w4=>w4=w3/\z=[.bool (decide (i<f\/t<=i))]) (Aa (fun hb=>⟨rfl,?_⟩) (fun hb=>⟨rfl,?_⟩)) ?_
 ·rw[Le (show i<f\/t<=i from .inl (Lc hb))]
 ·have hb:=Lb hb
  congr 2
  exact ZH.2 ⟨.inr,fun e=>e.resolve_left hb⟩
 rintro z w4 ⟨rfl,rfl⟩;refine⟨_,rfl,Aa (fun hb=>?_) (fun hb=>?_)⟩
 ·have e:GC g h i f t=3:=by unfold GC;rw[if_neg (by rw[ho];decide),if_pos (Lc hb)]
  rw[<- e];exact hk _ (m2.no m3)
 ·have e:GC g h i f t=0:=by unfold GC;rw[if_neg (by rw[ho];decide),if_neg (Lb hb)]
  rw[<- e];exact hk _ (m2.no m3)
theorem kI{b o l c i:Nat}{on:Bool}{cs:List Value}{xs:List UInt8}(hl:xs.length=l)(hat:A1 w b 0 cs)(hx:(cs.drop o).take l=Au xs)(hol:o+l<=cs.length)(h63:l<=1048576)(hi:i<8*l)
  (hk:∀ w',Ab (fun x=>x=b) w w'->A1 w' b 0 (if AN xs i=on then cs else AA cs o (Au (HO xs i on)))->K (.int .i64 (if AN xs i=on then 6 else 0)) w') :
  A8 Tryz.prog JM #[.slice (some ⟨b,o,none⟩) l c,.int .i64 i,.bool on] w K:=by
 apply Z3;unfold Tm
 have hr:Bl w (some ⟨b,o,none⟩) (Au xs):=.inr ⟨b,o,rfl,by
  have:=hat.at.sub (i:=o) (m:=l) (by omega)
  rw[Pj,hx]at this;exact this⟩
 refine QU hl hr h63 (by omega) fun w1 m1=>⟨_,rfl,Aa (fun h=>?_) (fun h=>?_)⟩
 ·have h:AN xs i=on:=by simpa using h
  rw[if_pos h,if_pos h]at hk;exact hk w1 (m1.mono fun _ _ e=>e.elim) (hat.keep m1 id)
 ·have h:¬ AN xs i=on:=by simpa using h
  rw[if_neg h,if_neg h]at hk;refine rK hl (hr.nos m1) h63 hi fun w2 q m2 hq hat2=>⟨_,_,_,_,rfl,?_⟩;obtain⟨w3,p1,p2,p3,p4⟩:=H1 (P:=Tryz.prog) (T:=88) (T2:=88) (ty:=3) (o:=0) (i:=o) (n:=l) (c:=c) (n2:=l) (c2:=l) (a2:=some ⟨q,0,none⟩) Am ((hat.keep m1 id).keep m2 id) (by omega) (.inr ⟨q,0,rfl,hat2.at⟩) (by rw[Ak,HP,hl];omega) (BF _);rw[Pj]at p1;rw[Lg (by rw[Ak,HP,hl];simp)]at p2
  exact⟨_,w3,p1,hk w3 (((m1.no m2).mono fun _ _ e=>e.elim).trans p3 fun _ _ e=>e) p2⟩
theorem V0{h:Hd}(hw:Fq h):((hV h).drop 1).take 16=Au h.bs:=by
 unfold hV;rw[qT,Uq,Lv (by rw[Ak,hw.1];omega),Lg (by rw[Ak,hw.1];omega)]
theorem bF{h:Hd}(hw:Fq h):((hV h).drop 17).take 8=Au h.ss:=by
 unfold hV;rw[show 17=16+1 from rfl,qT,WD,Lt (by rw[Ak,hw.1];omega),Ak,hw.1,fG,Uq,QN,Lg (by rw[Ak,hw.2];omega)]
theorem Aa8{g:Gm}{h:Hd}{i:Int}{on:Bool}(hw:Fq h)(hk:∀ w',Ab No w w'->K (.tuple #[.agg ⟨hV (EN g h i on).1⟩,.int .i64 (EN g h i on).2]) w') :
  A8 Tryz.prog ET #[.agg ⟨gV g⟩,.agg ⟨hV h⟩,.int .i64 i,.bool on] w K:=by
 apply Sg;unfold K2;obtain⟨w1,a1,a2,a3,a4⟩:=AC (P:=Tryz.prog) (w:=w) (T:=40) (cs:=gV g);obtain⟨w2,b1,b2,b3,b4⟩:=AC (P:=Tryz.prog) (w:=w1) (T:=119) (cs:=hV h);obtain⟨w3,c1,c2,c3,c4⟩:=A9 (P:=Tryz.prog) (w:=w2) (T:=119) B7;have m2:=a3.no b3;have m3:=(m2.no c3).drew;have q1:A1 (Go.Den.Ah w3) w.heap.size 0 (gV g):=((a2.keep b3 id).keep c3 id).drew;have q2:A1 (Go.Den.Ah w3) w1.heap.size 0 (hV h):=(b2.keep c3 id).drew
 have q3:A1 (Go.Den.Ah w3) w2.heap.size 0 (hV hZ):=c2.drew;have z1:=a3.size;have z2:=b3.size;have n12:w1.heap.size<w2.heap.size:=b2.lt;refine⟨_,w1,a1,_,w2,b1,_,w3,c1,_,q1.at.all Aq rfl,_,q2.at.all Ax (Aw hw),_,q1.at.all Aq rfl,_,q1.at.fld Aj rfl,Oc fun w4 m4=>⟨_,rfl,(q1.keep m4 id).at.all Aq rfl,(q2.keep m4 id).at.all Ax (Aw hw),(q1.keep m4 id).at.fld Aj rfl,?_⟩⟩
 have htb:=LY (g:=g);rw[Ag (x:=1+AM g) (by omega) (by omega)];refine kH hw fun w5 m5=>⟨_,rfl,?_⟩;have m45:=m4.no m5;have p2:=q2.keep m45 id;have p3:=q3.keep m45 id;have M5:=m3.no m45;refine Ac.cut (fun z w7=>∃ e h',z=[.int .i64 e]/\Ab No w w7/\A1 w7 w1.heap.size 0 (hV h')/\A1 w7 w2.heap.size 0 (hV hZ)/\Fq h'/\EN g h i on=if e≠0 then(hZ,e)else(h',0)) ?_ ?_
 ·rw[GO];refine Aa (fun he=>?_) (fun he=>?_)
  ·have he:=Lc he;obtain⟨ho,f1,f2⟩:=Ux he;obtain⟨g1,_⟩:=Co.1 ho;obtain⟨_,gr2,_⟩:=Av.1 g1;obtain⟨j,rfl⟩:=Wq (show 0<=i by omega);have ad1:Addr.add ⟨w1.heap.size,0,none⟩ 1=⟨w1.heap.size,1,none⟩:=by rw[Ad]
   rw[ad1];refine⟨_,_,_,Ba KO,?_⟩;refine kI (o:=1) (l:=16) (xs:=h.bs) hw.1 p2 (V0 hw) (by rw[Aw hw];omega) (by omega) (by omega) fun w6 m6 h6=>⟨_,rfl,?_⟩;have hU:EN g h j on=if AN h.bs j=on then(hZ,6)else(⟨h.no,HO h.bs j on,h.ss⟩,0):=by
    unfold EN;rw[if_neg (by rw[he];decide)];rfl
   rw[hU];by_cases hb:AN h.bs j=on
   ·rw[if_pos hb]at h6 |-;exact⟨_,h,rfl,M5.own m6 (by omega),h6,p3.keep m6 (fun e=>by have e:w2.heap.size=w1.heap.size:=e;omega),hw,by rw[if_pos hb];rfl⟩
   ·rw[if_neg hb]at h6 |-;rw[cW hw (by rw[HP];exact hw.1)]at h6;exact⟨_,_,rfl,M5.own m6 (by omega),h6,p3.keep m6 (fun e=>by have e:w2.heap.size=w1.heap.size:=e;omega),⟨by show(HO _ _ _).length=16;rw[HP];exact hw.1,hw.2⟩,by rw[if_neg hb];rfl⟩
  ·have he:=Lb he;exact⟨_,h,rfl,M5,p2,p3,hw,by unfold EN;rw[if_pos he,if_pos he]⟩
 rintro z w7 ⟨e,h',rfl,m7,x2,x3,hw',hU⟩;refine⟨_,rfl,?_⟩;rw[Di];refine Aa (fun he=>⟨_,DT,?_⟩) (fun he=>?_)
 ·have he:=Lc he;rw[if_pos he]at hU;rw[hU]at hk;obtain⟨w8,y1,y2,y3,y4⟩:=x3.put (T:=119) (vs:=hV hZ) Ax (Aw DK) (Aw DK) (Db _);exact⟨w8,y1,_,y2.at.all Ax (Aw DK),hk w8 (m7.own y3 (by omega))⟩
 ·have he:=Lb he;rw[if_neg he]at hU;rw[hU]at hk;obtain⟨w8,y1,y2,y3,y4⟩:=x3.put (T:=119) (vs:=hV h') Ax (Aw DK) (Aw hw') (Db _);exact⟨_,x2.at.all Ax (Aw hw'),w8,y1,_,y2.at.all Ax (Aw hw'),hk w8 (m7.own y3 (by omega))⟩
theorem Aa9{g:Gm}{h:Hd}{i:Int}{on:Bool}(hw:Fq h)(hk:∀ w',Ab No w w'->K (.tuple #[.agg ⟨hV (Iy g h i on).1⟩,.int .i64 (Iy g h i on).2]) w') :
  A8 Tryz.prog F2 #[.agg ⟨gV g⟩,.agg ⟨hV h⟩,.int .i64 i,.bool on] w K:=by
 apply TO;unfold Ms;obtain⟨w1,a1,a2,a3,a4⟩:=AC (P:=Tryz.prog) (w:=w) (T:=40) (cs:=gV g);obtain⟨w2,b1,b2,b3,b4⟩:=AC (P:=Tryz.prog) (w:=w1) (T:=119) (cs:=hV h);obtain⟨w3,c1,c2,c3,c4⟩:=A9 (P:=Tryz.prog) (w:=w2) (T:=119) B7;have m3:=(a3.no b3).no c3;have q1:A1 w3 w.heap.size 0 (gV g):=(a2.keep b3 id).keep c3 id;have q2:A1 w3 w1.heap.size 0 (hV h):=b2.keep c3 id
 have q3:A1 w3 w2.heap.size 0 (hV hZ):=c2;have z1:=a3.size;have z2:=b3.size;have n12:w1.heap.size<w2.heap.size:=b2.lt;refine⟨_,w1,a1,_,w2,b1,_,w3,c1,_,q2.at.fld Aj rfl,Ac.cut (fun z w4=>w4=w3/\z=[.int .i64 (iQ h)]) ?_ ?_⟩
 ·rw[GO];refine Aa (fun he=>⟨rfl,?_⟩) (fun he=>⟨rfl,?_⟩)
  ·unfold iQ;rw[if_pos (Lc he)]
  ·unfold iQ;rw[if_neg (Lb he)]
 rintro z w4 ⟨rfl,rfl⟩;refine⟨_,q1.at.all Aq rfl,_,q2.at.all Ax (Aw hw),_,rfl,_,q1.at.fld Aj rfl,?_⟩;refine kH hw fun w5 m5=>⟨_,rfl,?_⟩;have p2:=q2.keep m5 id;have p3:=q3.keep m5 id;have M5:=m3.no m5;refine Ac.cut (fun z w7=>∃ e h',z=[.int .i64 e]/\Ab No w w7/\A1 w7 w1.heap.size 0 (hV h')/\A1 w7 w2.heap.size 0 (hV hZ)/\Fq h'/\Iy g h i on=if e≠0 then(hZ,e)else(h',0)) ?_ ?_
 ·rw[GO];refine Aa (fun he=>?_) (fun he=>?_)
  ·have he:=Lc he;obtain⟨ho,f1,f2⟩:=Ux he;obtain⟨g1,_⟩:=Co.1 ho;obtain⟨_,_,_,_,gn1,gn2,_⟩:=Av.1 g1;have hf:0<=iQ h:=by unfold iQ;split<;>decide
   obtain⟨j,rfl⟩:=Wq (show 0<=i by omega);have ad1:Addr.add ⟨w1.heap.size,0,none⟩ 17=⟨w1.heap.size,17,none⟩:=by rw[Ad]
   rw[ad1];refine⟨_,_,_,Ba UU,?_⟩;refine kI (o:=17) (l:=8) (xs:=h.ss) hw.2 p2 (bF hw) (by rw[Aw hw];omega) (by omega) (by omega) fun w6 m6 h6=>⟨_,rfl,?_⟩;have hU:Iy g h j on=if AN h.ss j=on then(hZ,6)else(⟨h.no,h.bs,HO h.ss j on⟩,0):=by
    unfold Iy;rw[if_neg (by rw[he];decide)];rfl
   rw[hU];by_cases hb:AN h.ss j=on
   ·rw[if_pos hb]at h6 |-;exact⟨_,h,rfl,M5.own m6 (by omega),h6,p3.keep m6 (fun e=>by have e:w2.heap.size=w1.heap.size:=e;omega),hw,by rw[if_pos hb];rfl⟩
   ·rw[if_neg hb]at h6 |-;rw[cY hw (by rw[HP];exact hw.2)]at h6;exact⟨_,_,rfl,M5.own m6 (by omega),h6,p3.keep m6 (fun e=>by have e:w2.heap.size=w1.heap.size:=e;omega),⟨hw.1,by show(HO _ _ _).length=8;rw[HP];exact hw.2⟩,by rw[if_neg hb];rfl⟩
  ·have he:=Lb he;exact⟨_,h,rfl,M5,p2,p3,hw,by unfold Iy;rw[if_pos he,if_pos he]⟩
 rintro z w7 ⟨e,h',rfl,m7,x2,x3,hw',hU⟩;refine⟨_,rfl,?_⟩;rw[Di];refine Aa (fun he=>⟨_,DT,?_⟩) (fun he=>?_)
 ·have he:=Lc he;rw[if_pos he]at hU;rw[hU]at hk;obtain⟨w8,y1,y2,y3,y4⟩:=x3.put (T:=119) (vs:=hV hZ) Ax (Aw DK) (Aw DK) (Db _);exact⟨w8,y1,_,y2.at.all Ax (Aw DK),hk w8 (m7.own y3 (by omega))⟩
 ·have he:=Lb he;rw[if_neg he]at hU;rw[hU]at hk;obtain⟨w8,y1,y2,y3,y4⟩:=x3.put (T:=119) (vs:=hV h') Ax (Aw DK) (Aw hw') (Db _);exact⟨_,x2.at.all Ax (Aw hw'),w8,y1,_,y2.at.all Ax (Aw hw'),hk w8 (m7.own y3 (by omega))⟩
theorem sJ{g:Gm}{h:Hd}{f:Int}(hw:Fq h)(hk:∀ w',Ab No w w'->K (.int .i64 (FO g h f)) w') :
  A8 Tryz.prog E4 #[.agg ⟨gV g⟩,.agg ⟨hV h⟩,.int .i64 f] w K:=by
 apply Qs;unfold J5;obtain⟨w1,a1,a2,a3,a4⟩:=AC (P:=Tryz.prog) (w:=w) (T:=40) (cs:=gV g);obtain⟨w2,b1,b2,b3,b4⟩:=AC (P:=Tryz.prog) (w:=w1) (T:=119) (cs:=hV h);have m2:=a3.no b3;have q1:=a2.keep b3 id;refine⟨_,w1,a1,_,w2,b1,_,q1.at.all Aq rfl,_,b2.at.all Ax (Aw hw),N0 hw fun w3 m3=>⟨_,rfl,Aa (fun ho=>?_) (fun ho=>?_)⟩⟩
 ·have e:FO g h f=-1:=by unfold FO;rw[if_neg (by simpa using ho)]
  rw[<- e];exact hk _ (m2.no m3)
 have e:FO g h f=GA h.bs g.gr f:=by unfold FO;rw[if_pos (by simpa using ho)]
 have ad1:Addr.add ⟨w1.heap.size,0,none⟩ 1=⟨w1.heap.size,1,none⟩:=by rw[Ad]
 rw[ad1];have hb:=(b2.keep m3 id).drew.at.sub (i:=1) (m:=16) (by rw[Aw hw];omega);rw[V0 hw]at hb;refine⟨_,_,_,Ba KO,_,(q1.keep m3 id).drew.at.fld Aj rfl,UX (xs:=h.bs) hw.1 (.inr ⟨_,_,rfl,hb⟩) (by omega) fun w4 m4=>⟨_,rfl,?_⟩⟩;rw[<- e];exact hk _ ((m2.no m3).drew.no m4)
theorem sK{g:Gm}{h:Hd}{f:Int}(hw:Fq h)(hk:∀ w',Ab No w w'->K (.int .i64 (Hp g h f)) w') :
  A8 Tryz.prog ES #[.agg ⟨gV g⟩,.agg ⟨hV h⟩,.int .i64 f] w K:=by
 apply Sf;unfold K1;obtain⟨w1,a1,a2,a3,a4⟩:=AC (P:=Tryz.prog) (w:=w) (T:=40) (cs:=gV g);obtain⟨w2,b1,b2,b3,b4⟩:=AC (P:=Tryz.prog) (w:=w1) (T:=119) (cs:=hV h);have m2:=a3.no b3;have q1:=a2.keep b3 id;refine⟨_,w1,a1,_,w2,b1,_,q1.at.all Aq rfl,_,b2.at.all Ax (Aw hw),N0 hw fun w3 m3=>⟨_,rfl,Aa (fun ho=>?_) (fun ho=>?_)⟩⟩
 ·have e:Hp g h f=-1:=by unfold Hp;rw[if_neg (by simpa using ho)]
  rw[<- e];exact hk _ (m2.no m3)
 have e:Hp g h f=GA h.ss g.no f:=by unfold Hp;rw[if_pos (by simpa using ho)]
 have ad1:Addr.add ⟨w1.heap.size,0,none⟩ 17=⟨w1.heap.size,17,none⟩:=by rw[Ad]
 rw[ad1];have hb:=(b2.keep m3 id).drew.at.sub (i:=17) (m:=8) (by rw[Aw hw];omega);rw[bF hw]at hb;refine⟨_,_,_,Ba UU,_,(q1.keep m3 id).drew.at.fld Aj rfl,UX (xs:=h.ss) hw.2 (.inr ⟨_,_,rfl,hb⟩) (by omega) fun w4 m4=>⟨_,rfl,?_⟩⟩;rw[<- e];exact hk _ ((m2.no m3).drew.no m4)
end
def Dep(x z:Ch):Prop:=(z.id:Int)∈x.after\/(z.id<x.id/\AfZ z x=true)
inductive Rc (l:List Ch):Ch->Ch->Prop
 | refl (x:Ch):Rc l x x
 | head {x z y:Ch}:z∈l->Dep x z->Rc l z y->Rc l x y
end Go.Z
end
section
namespace Go.Z.bulks
theorem AhI{H:Type}(l r:List (DataW H)):Rows.uptoBulkAll (l++r)=Rows.uptoBulkAll l+Rows.uptoBulkAll r:=by
 induction l with
 | nil=>simp[Rows.uptoBulkAll]
 | cons x l ih=>simp only[Ld6,Rows.uptoBulkAll,ih];omega
end Go.Z.bulks
end
section
open Go Go.Den
namespace Go.Den
open Go.RowKit Go.ChangeShapes Go.WideShapes
section
variable{H:Type}{enc:TypeId×Value->H}{P:Program}
theorem Pv(hl:laidOutB P=true){W W':World}(hb:Below W.heap.size W W'):∀{ts:List TypeId}{vs:List Value}{ds:List (DataW H)} {ps:List MemPlace},
  (ts.all fun t=>P.readableRec t&&decide (t<P.types.size))=true->DataW.TrodAll enc P W 0 (fun _=>true) true ts vs ds ps->(∀ x∈ps,x.block<W.heap.size) ->
  DataW.TrodAll enc P W' 0 (fun b=>decide (b<W.heap.size)) true ts vs ds ps
 | [],[],[],_,_,h,_=>h
 | [],[],_::_,_,_,h,_=>h.elim
 | [],_::_,_,_,_,h,_=>h.elim
 | _::_,[],_,_,_,h,_=>h.elim
 | _::_,_::_,[],_,_,h,_=>h.elim
 | t::ts,v::vs,d::ds,ps,hr,h,hlt=>by
  simp only[List.all_cons,Lp,Lw]at hr;obtain⟨p,q,h1,h2,rfl⟩:=h;exact⟨p,q,Below.trod hl hr.1.1 hr.1.2 h1 hb (fun x hx=>hlt x (Lb3 _ hx)),Pv hl hb hr.2 h2 (fun x hx=>hlt x (Lf5 _ hx)),rfl⟩
theorem tQ{f:Func}{s:ChangeSpec}{HG handsOn:Bool}{W W':World}{args:Array Value}{ds gs:List (DataW H)}{before:List MemPlace}{tb:TypeId}(hl:laidOutB P=true)
  (hW:DataW.Whole enc P f.params.toList s.vars HG W args.toList ds gs before) (hv:s.vars=[]) (hr:(f.params.toList.all fun t=>P.readableRec t&&decide (t<P.types.size))=true)
  (hrt:f.resultTypes=#[tb]) (htb:P.underlying tb=some .bool) (hs:s.fn H ds={ results:=[.lit (.bool true)],args:=ds }) (hb:Below W.heap.size W W') :
  s.post enc P f HG true handsOn false W args (.bool true) W':=by
 have hlt:∀ p∈before,p.block<W.heap.size:=fun p hp=>hW.lt p hp;have hW0:=hW;obtain⟨p,q,hA,hV,he,_,_⟩:=hW;rw[hv]at hV;have hgs:gs=[]/\q=[]:=by
  cases gs with
  | nil=>exact⟨rfl,hV⟩
  | cons a r=>exact hV.elim
 obtain⟨rfl,rfl⟩:=hgs;rw[fH]at he;subst he;refine⟨ds,[],before,[],before,[],hW0,?_,?_,?_,World.keptBut_mono (fun x hx=>⟨hx,.inr (.inl hx)⟩) (hb.frame (·∈before)),fun h=>Bool.noConfusion h⟩
 ·rw[hrt,fH,hs];exact⟨[],[],shut_bool htb true,rfl,rfl⟩
 ·rw[fH,hs];exact Pv hl hb hr hA hlt
 ·rw[hv,fH,hs];rfl
end
end Go.Den
end
section
open Go Go.Den
namespace Go.Z
open Go.ChangeShapes Go.WideShapes Go.ChangeAt Go.RowKit
theorem gM{n:Int}(h:(Lit.int .i64 n).wf=true):-9223372036854775808<=n/\n<=9223372036854775807:=by
 simpa [Lit.wf,IntKind.min,IntKind.max,IntKind.signed,IntKind.bits] using h
theorem uM:ownKnob Tryz.prog.godebug=none:=by kernel_rfl
theorem tP:laidOutB Tryz.prog=true:=by kernel_rfl
theorem nH{f:FuncId}{args:Array Value}{w:World}{K:Value->World->Prop}{R:Ending->World->Prop}(h:A8 Tryz.prog f args w K)(hk:∀ v w',K v w'->R (.returned v) w'):Calls Tryz.prog f args w R :=
 h.2.mono fun e w' he=>by cases e<;>first | exact hk _ _ he | exact he.elim
end Go.Z
end
section
open Go Go.Den
namespace Go.Den
open Go.ChangeShapes Go.WideShapes Go.RowKit
section
variable{H:Type}{enc:TypeId×Value->H}{P:Program}{w:World}{base:Nat}{spare:Nat->Bool}{held:Bool}
theorem At.of_cells{b o:Nat}{cs:List Value}(h0:0<cs.length)(h:∀ j (hj:j<cs.length),w.cell? ⟨b,o+j,none⟩=some cs[j]):At w b o cs:=by
 have hb:∃ l t fz,w.heap[b]?=some (.cells ⟨l⟩ t fz):=by
  have:=h 0 h0
  unfold World.cell? at this
  split at this
  ·rename_i c t fz hc;exact⟨c.toList,t,fz,hc⟩
  ·cases this
 obtain⟨l,t,fz,hb⟩:=hb;have hget:∀ j (hj:j<cs.length),l[o+j]?=some cs[j]:=fun j hj=>by rw[<- NW hb];exact h j hj
 have hlen:o+cs.length<=l.length:=by
  have:=(Lh.1 (hget (cs.length-1) (by omega))).1
  omega
 refine⟨l,t,fz,hb,hlen,?_⟩;apply mM;intro i;by_cases hi:i<cs.length
 ·rw[Lp3,if_pos hi,Lv2,hget i hi];simp[hi]
 ·rw[xR (by simp;omega),xR (by omega)]
end
end Go.Den
end
section
open Go Go.Den
namespace Go.Z
open Go.ChangeShapes Go.WideShapes Go.RowKit Go.Joins
section
variable{H:Type}{enc:TypeId×Value->H}{w:World}{base:Nat}{held:Bool}
theorem Ry{α β:Type}{p:β->α->Prop}:∀(xs:List β),(∀ x∈xs,∃ y,p x y)->∃ ys:List α,ys.length=xs.length/\∀(i:Nat)(x:β)(y:α),xs[i]?=some x->ys[i]?=some y->p x y
 | [],_=>⟨[],rfl,fun i x y h=>by simp at h⟩
 | x::r,h=>by
  obtain⟨y,hy⟩:=h x (by simp);obtain⟨ys,hl,hys⟩:=Ry r fun z hz=>h z (by simp[hz]);refine⟨y::ys,by simp[hl],fun i a b ha hb=>?_⟩;cases i with
  | zero=>simp at ha hb;subst ha hb;exact hy
  | succ i=>exact hys i a b (by simpa using ha) (by simpa using hb)
end
end Go.Z
end
section
open Go Go.Den Go.Proofs
namespace Go.Den
section
variable{P:Program}{w w':World}
theorem KT{α:Type}{f:α->List Value}{k:Nat}(h:∀ x,(f x).length=k):∀ L:List α,(L.map f).flatten.length=L.length*k
 | []=>by simp
 | x::r=>by rw[Wu,mN,Ls,h,KT h r,mO,Ln5];omega
theorem ID{α:Type}{f:α->List Value}{k:Nat}(h:∀ x,(f x).length=k):∀{L:List α}{i:Nat}{x:α},L[i]?=some x->((L.map f).flatten.drop (i*k)).take k=f x
 | [],_,_,e=>by simp at e
 | y::r,0,x,e=>by
  have e:y=x:=by simpa using e
  subst e;rw[Wu,mN,Lq6,Uq,Lv (by rw[h];omega),Lg (by rw[h];omega)]
 | y::r,i+1,x,e=>by
  rw[List.getElem?_cons_succ]at e;rw[Wu,mN,show(i+1)*k=(f y).length+i*k by rw[h,Ln5];omega,WD,Lt (by omega),QN,show(f y).length+i*k-(f y).length=i*k by omega];exact ID h e
theorem SA{α:Type}{f:α->List Value}{k:Nat}(h:∀ x,(f x).length=k){L:List α}{i j:Nat}{x:α}{v:Value}(hx:L[i]?=some x)(hj:(f x)[j]?=some v):(L.map f).flatten[i*k+j]?=some v:=by
 have h1:=ID h hx;have hl:j<k:=by have:=(Lh.1 hj).1;rwa [h]at this
 rw[<- h1,List.getElem?_take_of_lt hl,Lv2]at hj;exact hj
end
end Go.Den
namespace Go.Z
section
variable{w w':World}
theorem vZ{T Te:TypeId}{base k bytes l c:Nat}{a:Option Addr}{xs ys:List Value}(hT:Nt Tryz.prog T k bytes)(hk:0<k)(h:Ow Tryz.prog w base T k a l c xs)(hl:ys.length=k)(h1:∀ v∈ys,v.oneCell'=true)
  (h63:(l+1)*bytes<=140737488355328) (hb:0<bytes) (hbase:base<=w.heap.size) :
  ∃ q c' w',Ru (Builtin.append_ #[T,T] T #[.slice a l c,.slice (some ⟨w.heap.size,0,none⟩) 1 1]) (w.alloc (.cells ⟨ys⟩ Te)) (.slice (some q) (l+1) c') w'/\Ow Tryz.prog w' base T k (some q) (l+1) c' (xs++ys)/\Ab (Of a) w w'/\((∃ q',a=some q'/\q.block=q'.block)\/w.heap.size<=q.block):=by
 have m1:Ab No w (w.alloc (.cells ⟨ys⟩ Te)):=(Ab.refl No w).alloc _;have r1:Bl (w.alloc (.cells ⟨ys⟩ Te)) (some ⟨w.heap.size,0,none⟩) ys:=.inr ⟨_,_,rfl,A1.new.at⟩;have s1:(w.alloc (.cells ⟨ys⟩ Te)).heap.size=w.heap.size+1:=by simp
 obtain⟨q,c',w2,run,p,mm,hq⟩:=(h.nos m1).appG (ty:=T) (m:=1) (c2:=1) hT hk r1 (by omega) (by omega) h1 h63 hb (by omega);refine⟨q,c',w2,run,p,(m1.mono fun _ _ h=>h.elim).trans mm fun x _ e=>e,?_⟩;rcases hq with hq|hq
 ·exact .inl hq
 ·exact .inr (by omega)
end
abbrev Wt:=Int×Int×Int
def Un(x:Wt):List Value:=[.int .i64 x.1,.int .i64 x.2.1,.int .i64 x.2.2]
def I4(x:Int×Int):List Value:=[.int .i64 x.1,.int .i64 x.2]
theorem O2(x:Wt):(Un x).length=3:=rfl
theorem JR(x:Int×Int):(I4 x).length=2:=rfl
theorem mB(x:Wt):∀ v∈Un x,v.oneCell'=true:=by intro v hv;simp[Un]at hv;rcases hv with rfl | rfl | rfl<;>rfl
theorem Y3(x:Int×Int):∀ v∈I4 x,v.oneCell'=true:=by intro v hv;simp[I4]at hv;rcases hv with rfl | rfl<;>rfl
def Uk(L:List Wt):List Value:=(L.map Un).flatten
def LA(L:List (Int×Int)):List Value:=(L.map I4).flatten
theorem XT(L:List Wt)(x:Wt):Uk (L++[x])=Uk L++Un x:=by simp[Uk]
theorem XS(L:List (Int×Int))(x:Int×Int):LA (L++[x])=LA L++I4 x:=by simp[LA]
theorem JV:Nt Tryz.prog 199 3 24:=Nu (by kernel_rfl)
theorem LV:Nt Tryz.prog 128 2 16:=Nu (by kernel_rfl)
theorem Nv:Ge Tryz.prog 199=some 3:=by kernel_rfl
theorem QR:Ei Tryz.prog 203=some 3:=by kernel_rfl
theorem Du:Ei Tryz.prog 126=some 2:=by kernel_rfl
theorem fT(w:World)(n k m:Int):(Instr.build 203 #[(0,.int .i64 n),(1,.agg ⟨[.int .i64 k,.int .i64 m]⟩)]).run Tryz.prog w=.ok (.agg ⟨[.int .i64 n,.int .i64 k,.int .i64 m]⟩) w:=by kernel_rfl
theorem Vc(w:World)(x:Wt):(Instr.buildSlice 199 1 #[(0,.agg ⟨Un x⟩)]).run Tryz.prog w=.ok (.slice (some ⟨w.heap.size,0,none⟩) 1 1) (w.alloc (.cells ⟨Un x⟩ 203)):=by kernel_rfl
theorem WZ(w:World)(x:Int×Int):(Instr.buildSlice 128 1 #[(0,.agg ⟨I4 x⟩)]).run Tryz.prog w=.ok (.slice (some ⟨w.heap.size,0,none⟩) 1 1) (w.alloc (.cells ⟨I4 x⟩ 126)):=by kernel_rfl
theorem fN(w:World):(Instr.alloc 203 true (.tuple #[])).run Tryz.prog w=.ok (.pointer (some ⟨w.heap.size,0,none⟩)) (w.alloc (.cells ⟨[.int .i64 0,.int .i64 0,.int .i64 0]⟩ 203)):=by kernel_rfl
structure QP(T:TypeId)(Z:Nat->Prop)(w:World)(q:Nat)(L:List Wt)(la:Option Addr)(lc:Nat):Prop where
 cell:A1 w q 0 [.slice la L.length lc]
 row:Ow Tryz.prog w 0 T 3 la L.length lc (Uk L)
 nq:∀ a,la=some a->a.block≠q/\¬ Z a.block
 nz:¬ Z q
def Wk(T:TypeId)(Z:Nat->Prop)(w:World)(q:Nat)(L:List Wt):Prop:=∃ la lc,QP T Z w q L la lc
section
variable{w w' w0:World}{R:Nat->Prop}{sp d:Nat}{V:Ps}{K:Value->World->Prop}{T:TypeId}{Z Z':Nat->Prop}{q lc:Nat}{L:List Wt}{la:Option Addr}
theorem QP.keep{S:Nat->Prop}(h:QP T Z w q L la lc)(m:Ab S w w')(hS:∀ x,S x->Z x)(hZ:∀ x,x<w.heap.size->Z' x->Z x):QP T Z' w' q L la lc where
 cell:=h.cell.keep m fun e=>h.nz (hS _ e)
 row:=h.row.keep m fun a ha e=>(h.nq a ha).2 (hS _ e)
 nq a ha:=⟨(h.nq a ha).1,fun e=>(h.nq a ha).2 (hZ _ (h.row.base ha).2 e)⟩
 nz e:=h.nz (hZ _ h.cell.lt e)
theorem Wk.keep{S:Nat->Prop}(h:Wk T Z w q L)(m:Ab S w w')(hS:∀ x,S x->Z x)(hZ:∀ x,x<w.heap.size->Z' x->Z x):Wk T Z' w' q L:=by
 obtain⟨la,lc,h⟩:=h;exact⟨la,lc,h.keep m hS hZ⟩
theorem QP.nos(h:QP T Z w q L la lc)(m:Ab No w w'):QP T Z w' q L la lc:=h.keep m (fun _ h=>h.elim) fun _ _ h=>h
theorem Wk.nos(h:Wk T Z w q L)(m:Ab No w w'):Wk T Z w' q L:=by obtain⟨la,lc,h⟩:=h;exact⟨la,lc,h.nos m⟩
theorem QP.ld(h:QP T Z w q L la lc)(hT:DQ Tryz.prog T=true):Ru (Instr.loadAt T (.pointer (some (Addr.add ⟨q,0,none⟩ 0)))) w (.slice la L.length lc) w:=by
 rw[Ad];exact h.cell.at.load (i:=0) hT rfl
theorem QP.add{Te:TypeId}{x:Wt}(h:QP T Z w q L la lc)(hT:Nt Tryz.prog T 3 24)(hs:DQ Tryz.prog T=true)(hn:L.length<=5000)(hZ:∀ x,Z x->x<w.heap.size) :
  ∃ c' w4 w5,Ru (Builtin.append_ #[T,T] T #[.slice la L.length L.length,.slice (some ⟨w.heap.size,0,none⟩) 1 1]) (w.alloc (.cells ⟨Un x⟩ Te)) (.slice (some ⟨w.heap.size+1,0,none⟩) (L.length+1) c') w4 /\
   Eh (Instr.storeAt T (.pointer (some (Addr.add ⟨q,0,none⟩ 0))) (.slice (some ⟨w.heap.size+1,0,none⟩) (L.length+1) c')) w4 w5/\QP T Z w5 q (L++[x]) (some ⟨w.heap.size+1,0,none⟩) c'/\Ab (fun z=>z=q) w w5:=by
 have m1:Ab No w (w.alloc (.cells ⟨Un x⟩ Te)):=(Ab.refl No w).alloc _;have r1:Bl (w.alloc (.cells ⟨Un x⟩ Te)) (some ⟨w.heap.size,0,none⟩) (Un x):=.inr ⟨_,_,rfl,A1.new.at⟩;have s1:(w.alloc (.cells ⟨Un x⟩ Te)).heap.size=w.heap.size+1:=by simp
 generalize w.alloc (.cells ⟨Un x⟩ Te)=w1 at *;have hqw:=h.cell.lt;obtain⟨c',w4,run,p,m4,z4⟩:=(h.row.nos m1).full (ty:=T) (c2:=1) hT r1 rfl (by omega) (by omega) (by omega);rw[s1]at run p z4;obtain⟨w5,u1,u2,u3,u4⟩:=((h.cell.keep m1 id).keep m4 id).store (P:=Tryz.prog) (T:=T) (i:=0) (v:=.slice (some ⟨w.heap.size+1,0,none⟩) (L.length+1) c') hs (by simp) rfl;refine⟨c',w4,w5,run,by rw[Ad];exact u1,⟨?_,?_,?_,h.nz⟩,((m1.no m4).mono fun _ _ h=>h.elim).trans u3 fun _ _ e=>e⟩
 ·have:(L++[x]).length=L.length+1:=by simp
  rw[this];exact u2
 ·rw[XT,show(L++[x]).length=L.length+1 by simp];exact p.keep u3 fun a ha e=>by cases ha;have e:w.heap.size+1=q:=e;omega
 ·intro a ha;cases ha;exact⟨by show w.heap.size+1≠q;omega,fun e=>by have:=hZ _ e;simp only at this;omega⟩
def HZ(L:List Wt)(k:Int):Int:=if k<1\/3<k then 1 else if 4096<=L.length then 5 else 0
def SI(L:List Wt)(x:Wt):List Wt:=if HZ L x.2.1=0 then L++[x]else L
theorem tM{n k m:Int}(h:Wk 199 Z w q L)(hn:L.length<=5000)(hZ:∀ x,Z x->x<w.heap.size)
  (hk:∀ w',Ab (fun z=>z=q) w w'->Wk 199 Z w' q (SI L (n,k,m))->K (.int .i64 (HZ L k)) w') :
  A8 Tryz.prog G6 #[.pointer (some ⟨q,0,none⟩),.int .i64 n,.agg ⟨I4 (k,m)⟩] w K:=by
 apply Q4;unfold JH;obtain⟨la,lc,h⟩:=h;refine⟨_,_,I6,?_⟩;have m1:Ab No w (w.alloc (.cells (Value.agg ⟨I4 (k,m)⟩).cells 126)):=(Ab.refl No w).alloc _;have a1:A1 (w.alloc (.cells (Value.agg ⟨I4 (k,m)⟩).cells 126)) w.heap.size 0 (I4 (k,m)):=A1.new;generalize w.alloc (.cells (Value.agg ⟨I4 (k,m)⟩).cells 126)=w1 at *;have hz1:=m1.size;have h1:=h.nos m1;have l0:Ru (Instr.loadAt 3 (.pointer (some (Addr.add ⟨w.heap.size,0,none⟩ 0)))) w1 (.int .i64 k) w1:=by rw[Ad];exact a1.at.load (i:=0) (by kernel_rfl) rfl
 refine ff rfl (Ac.cut (fun z w2=>w1=w2/\z=[.bool (decide (k<1\/3<k))]) ⟨_,l0,Aa (fun hb=>⟨rfl,?_⟩) (fun hb=>⟨_,l0,rfl,?_⟩)⟩ ?_)
 ·have:=Lc hb
  rw[Le (Or.inl this)]
 ·have:=Lb hb
  exact Ab2 (by omega)
 rintro z w2 ⟨rfl,rfl⟩;have ms:∀{w2:World},Ab No w1 w2->Ab (fun z=>z=q) w w2:=fun mm=>(m1.no mm).mono fun _ _ h=>h.elim;refine⟨_,rfl,Aa (fun hb=>?_) (fun hb=>⟨_,rfl,_,_,_,h1.ld (by kernel_rfl),Aa (fun hb2=>?_) (fun hb2=>?_)⟩)⟩
 ·have hb:=Lc hb;have e:HZ L k=1:=if_pos hb
  have:=hk w1 (ms (Ab.refl _ _)) ⟨la,lc,by unfold SI;rw[if_neg (by show ¬ HZ L k=0;rw[e];omega)];exact h1⟩
  rwa [e]at this
 ·have hb:=Lb hb;have hb2:=Lc hb2;have e:HZ L k=5:=by unfold HZ;rw[if_neg hb,if_pos (by omega)]
  have:=hk w1 (ms (Ab.refl _ _)) ⟨la,lc,by unfold SI;rw[if_neg (by show ¬ HZ L k=0;rw[e];omega)];exact h1⟩
  rwa [e]at this
 ·have hb:=Lb hb;have hb2:=Lb hb2;have e:HZ L k=0:=by unfold HZ;rw[if_neg hb,if_neg (by omega)]
  have md:Ab No w1 (Ah w1):=(Ab.refl No w1).drew;have hd:=h1.nos md;have ld:=hd.ld (by kernel_rfl);have la0:Ru (Instr.loadAt 126 (.pointer (some ⟨w.heap.size,0,none⟩))) (Ah w1) (.agg ⟨I4 (k,m)⟩) (Ah w1):=(a1.keep md id).at.loadAgg (i:=0) Du (by rw[JR];omega);refine⟨_,rfl,_,_,_,ld,_,rfl,_,_,_,ld,_,rfl,_,_,_,ld,_,_,_,fun w'=>hd.row.cut3 Nv w',_,la0,_,fun w=>fT w _ _ _,_,_,_,_,Vc _ (n,k,m),?_⟩
  have hZ1:∀ x,Z x->x<(Ah w1).heap.size:=fun x hx=>by have:=hZ x hx;have:=md.size;omega
  obtain⟨c',w4,w5,run,sto,h5,m5⟩:=hd.add (Te:=203) (x:=(n,k,m)) JV (by kernel_rfl) hn hZ1;have ma:Ab No (Ah w1) ((Ah w1).alloc (.cells ⟨Un (n,k,m)⟩ 203)):=(Ab.refl No _).alloc _;have la1:=(hd.nos ma).ld (by kernel_rfl);refine⟨la1,la1,la1,_,_,_,w4,run,_,rfl,w5,sto,?_⟩
  have:=hk w5 (((m1.no md).mono fun _ _ h=>h.elim).trans m5 fun _ _ e=>e) ⟨_,c',by unfold SI;rw[if_pos (show HZ L k=0 from e)];exact h5⟩
  rwa [e]at this
theorem AdN(h:Wk 199 Z w q L)(hk:K (.int .i64 L.length) w):A8 Tryz.prog HV #[.pointer (some ⟨q,0,none⟩)] w K:=by
 apply TQ;unfold Mu;obtain⟨la,lc,h⟩:=h;exact ff rfl ⟨_,rfl,_,_,_,h.ld (by kernel_rfl),hk⟩
theorem QP.at{Te:TypeId}{i:Nat}{x:Wt}(h:QP T Z w q L la lc)(hT:Ge Tryz.prog T=some 3)(hE:Ei Tryz.prog Te=some 3)(hn:L.length<=5000)(hx:L[i]?=some x):∃ g,la=some ⟨g,0,none⟩/\Al (Instr.indexAt T (.slice la L.length lc) (.int .i64 i)) (.pointer (some ⟨g,i*3,none⟩)) /\
  Ru (Instr.loadAt Te (.pointer (some ⟨g,i*3,none⟩))) w (.agg ⟨Un x⟩) w/\(∀(w':World)(Ta:TypeId),Ab No w w'->Ei Tryz.prog Ta=some 2->Ru (Instr.loadAt Ta (.pointer (some (Addr.add ⟨g,i*3,none⟩ 1)))) w' (.agg ⟨I4 x.2⟩) w') /\
  ∀(w':World)(Ti:TypeId),Ab No w w'->DQ Tryz.prog Ti=true->Ru (Instr.loadAt Ti (.pointer (some (Addr.add ⟨g,i*3,none⟩ 0)))) w' (.int .i64 x.1) w':=by
 have hi:=(Lh.1 hx).1;obtain⟨g,rfl,hg,hat⟩:=h.row.sm (by omega);have hlen:(Uk L).length=L.length*3:=KT O2 L;refine⟨g,rfl,fun w'=>?_,?_,fun w' Ta m hTa=>?_,fun w' Ti m hTi=>?_⟩
 ·have:=Ar (P:=Tryz.prog) (T:=T) (k:=3) (a:=⟨g,0,none⟩) (n:=L.length) (c:=lc) (kk:=.i64) (i:=i) hT (by omega) (by omega) w'
  rw[Ad,show 0+(i:Int).toNat*3=i*3 by omega]at this;exact this
 ·have:=hat.at.loadAgg (P:=Tryz.prog) (T:=Te) (i:=i*3) hE (by rw[hlen];omega)
  rw[show((Uk L).drop (i*3)).take 3=Un x from ID O2 hx,Pj]at this;exact this
 ·rw[Ad]
  have:=(hat.keep m id).at.loadAgg (P:=Tryz.prog) (T:=Ta) (i:=i*3+1) hTa (by rw[hlen];omega)
  rw[Pj]at this;have e:((Uk L).drop (i*3+1)).take 2=I4 x.2:=by
   have h1:((Uk L).drop (i*3)).take 3=Un x:=ID O2 hx;have h2:((Uk L).drop (i*3+1)).take 2=(((Uk L).drop (i*3)).take 3).drop 1:=by
    rw[List.drop_take,UO]
   rw[h2,h1];rfl
  rw[e]at this;exact this
 ·rw[Ad]
  have:=(hat.keep m id).at.load (P:=Tryz.prog) (T:=Ti) (i:=i*3+0) hTi (v:=.int .i64 x.1) (SA O2 hx rfl)
  rw[Pj]at this;exact this
def Bq(V:Ps)(x:Wt):Bool:=decide (x.1<1) || Pt V x.1
theorem tN(hP:Pz w0 R w sp d V)(h:Wk 199 Z w q L)(hn:L.length<=5000)(hZ:∀ x,Z x->x<w.heap.size)
  (hk:∀ w' a c,Ab (fun z=>z=q) w w'->Wk 199 (fun x=>Z x\/Of a x) w' q (L.filter fun x=>!Bq V x)->Ow Tryz.prog w' w.heap.size 128 2 a (L.filter (Bq V)).length c (LA ((L.filter (Bq V)).map (·.2))) ->
   K (.slice a (L.filter (Bq V)).length c) w') :
  A8 Tryz.prog Hg #[.pointer (some ⟨q,0,none⟩),.pointer (some ⟨sp,0,none⟩)] w K:=by
 apply Sy;unfold KI;obtain⟨la,lc,h⟩:=h;refine ff rfl ⟨_,rfl,_,_,_,h.ld (by kernel_rfl),?_⟩
 refine⟨fun x w1=>∃(i:Nat)(a5 a6:Option Addr)(c5 c6:Nat)(y:Value),x=[.slice a5 ((L.take i).filter (Bq V)).length c5,.slice a6 ((L.take i).filter fun x=>!Bq V x).length c6,.int .i64 i,y]/\i<=L.length /\
   Ow Tryz.prog w1 w.heap.size 128 2 a5 ((L.take i).filter (Bq V)).length c5 (LA (((L.take i).filter (Bq V)).map (·.2)))/\Ow Tryz.prog w1 w.heap.size 199 3 a6 ((L.take i).filter fun x=>!Bq V x).length c6 (Uk ((L.take i).filter fun x=>!Bq V x)) /\
   (∀ q q',a5=some q->a6=some q'->q.block≠q'.block)/\Ab No w w1,fun x _=>(L.length-nI x 2).toNat,
  ⟨0,none,none,0,0,_,rfl,by omega,Ow.nilG LV,Ow.nilG JV,(fun _ _ e=>by cases e),Ab.refl _ _⟩,?_⟩
 rintro x w1 ⟨i,a5,a6,c5,c6,y,rfl,hi,o5,o6,h56,m1⟩;have h1:=h.nos m1;have hz1:=m1.size;refine⟨_,rfl,Aa (fun hb=>?_) (fun hb=>?_)⟩
 ·have hi:i<L.length:=by have:=Lc hb;omega
  have hx:L[i]?=some L[i]:=Lk hi;have htk:=Ll hi;obtain⟨g,rfl,hix,hag,_,_⟩:=h1.at (Te:=203) Nv QR hn hx;generalize L[i]=x at *;have hst:Eh (Instr.storeAt 203 (.pointer (some ⟨w1.heap.size,0,none⟩)) (.agg ⟨Un x⟩)) (w1.alloc (.cells ⟨[.int .i64 0,.int .i64 0,.int .i64 0]⟩ 203)) (w1.alloc (.cells ⟨Un x⟩ 203)):=Ot QR rfl rfl (mB x)
  refine Ac.cut (fun z w10=>∃(a5 a6:Option Addr)(c5 c6:Nat)(y:Value),z=[.slice a5 ((L.take (i+1)).filter (Bq V)).length c5,.slice a6 ((L.take (i+1)).filter fun x=>!Bq V x).length c6,y] /\
   Ow Tryz.prog w10 w.heap.size 128 2 a5 ((L.take (i+1)).filter (Bq V)).length c5 (LA (((L.take (i+1)).filter (Bq V)).map (·.2)))/\Ow Tryz.prog w10 w.heap.size 199 3 a6 ((L.take (i+1)).filter fun x=>!Bq V x).length c6 (Uk ((L.take (i+1)).filter fun x=>!Bq V x)) /\
   (∀ q q',a5=some q->a6=some q'->q.block≠q'.block)/\Ab No w w10) ⟨_,hix,_,hag,_,_,fN _,_,hst,?_⟩ ?_
  ·have m3:Ab No w1 (w1.alloc (.cells ⟨Un x⟩ 203)):=(Ab.refl No w1).alloc _;have a3:A1 (w1.alloc (.cells ⟨Un x⟩ 203)) w1.heap.size 0 (Un x):=A1.new;generalize w1.alloc (.cells ⟨Un x⟩ 203)=w3 at *;have l3:Ru (Instr.loadAt 2 (.pointer (some (Addr.add ⟨w1.heap.size,0,none⟩ 0)))) w3 (.int .i64 x.1) w3:=by rw[Ad];exact a3.at.load (i:=0) (by kernel_rfl) rfl
   have M3:=m1.no m3;have hz3:=M3.size;refine Ac.cut (fun z w5=>w3=w5/\z=[.bool (Bq V x)]) ⟨_,l3,Aa (fun hb2=>⟨rfl,?_⟩) (fun hb2=>⟨_,l3,AaP (hP.nos M3) ⟨_,rfl,rfl,?_⟩⟩)⟩ ?_
   ·unfold Bq;rw[hb2];rfl
   ·unfold Bq;rw[hb2];rfl
   rintro z w5 ⟨rfl,rfl⟩;have o5':=o5.nos m3;have o6':=o6.nos m3;refine⟨_,rfl,Aa (fun hb2=>?_) (fun hb2=>?_)⟩
   ·have e1:(L.take (i+1)).filter (Bq V)=(L.take i).filter (Bq V)++[x]:=by rw[htk,jG];simp[hb2]
    have e2:(L.take (i+1)).filter (fun x=>!Bq V x)=(L.take i).filter fun x=>!Bq V x:=by rw[htk,jG];simp[hb2]
    have hfl:=Lg2 (Bq V) (L.take i);rw[xF]at hfl;have la1:Ru (Instr.loadAt 126 (.pointer (some (Addr.add ⟨w1.heap.size,0,none⟩ 1)))) w3 (.agg ⟨I4 x.2⟩) w3:=by
     rw[Ad];exact a3.at.loadAgg (i:=1) Du (by rw[O2];omega)
    obtain⟨q2,c',w7,run,p,mm,hq2⟩:=vZ (Te:=126) (ys:=I4 x.2) LV (by omega) o5' rfl (Y3 _) (by omega) (by omega) (by omega);refine⟨_,_,_,rfl,_,la1,_,_,_,_,WZ _ _,_,_,_,w7,run,some q2,a6,c',c6,.bool (Bq V x),(by rw[e1,e2,Ls];rfl),?_,?_,?_,?_⟩
    ·rw[e1];have:LA (((L.take i).filter (Bq V)++[x]).map (·.2))=LA (((L.take i).filter (Bq V)).map (·.2))++I4 x.2:=by rw[dT];exact XS _ _
     rw[this,show((L.take i).filter (Bq V)++[x]).length=((L.take i).filter (Bq V)).length+1 by simp];exact p
    ·rw[e2];exact o6'.keep mm fun q' hq' ⟨q5,e5,e⟩=>h56 q5 q' e5 hq' e.symm
    ·intro q' q6 e' e6 e;cases e';rcases hq2 with ⟨q5,e5,e7⟩ | e7
     ·exact h56 q5 q6 e5 e6 (by rw[<- e7];exact e)
     ·have:=(o6'.base e6).2;omega
    ·exact M3.trans mm fun z hz ⟨q5,e5,e⟩=>by have:=(o5.base e5).1;omega
   ·have e1:(L.take (i+1)).filter (Bq V)=(L.take i).filter (Bq V):=by rw[htk,jG];simp[hb2]
    have e2:(L.take (i+1)).filter (fun x=>!Bq V x)=((L.take i).filter fun x=>!Bq V x)++[x]:=by rw[htk,jG];simp[hb2]
    have hfl:=Lg2 (fun x=>!Bq V x) (L.take i);rw[xF]at hfl;have la1:Ru (Instr.loadAt 203 (.pointer (some ⟨w1.heap.size,0,none⟩))) w3 (.agg ⟨Un x⟩) w3:=a3.at.loadAgg (i:=0) QR (by rw[O2];omega);obtain⟨q2,c',w7,run,p,mm,hq2⟩:=vZ (Te:=203) (ys:=Un x) JV (by omega) o6' rfl (mB _) (by omega) (by omega) (by omega);refine⟨_,_,_,rfl,_,la1,_,_,_,_,Vc _ _,_,_,_,w7,run,a5,some q2,c5,c',.bool (Bq V x),(by rw[e1,e2,Ls];rfl),?_,?_,?_,?_⟩
    ·rw[e1];exact o5'.keep mm fun q' hq' ⟨q5,e5,e⟩=>h56 q' q5 hq' e5 e
    ·rw[e2,XT,show(((L.take i).filter fun x=>!Bq V x)++[x]).length=((L.take i).filter fun x=>!Bq V x).length+1 by simp];exact p
    ·intro q5 q' e5 e' e;cases e';rcases hq2 with ⟨q6,e6,e7⟩ | e7
     ·exact h56 q5 q6 e5 e6 (by rw[<- e7];exact e)
     ·have:=(o5'.base e5).2;omega
    ·exact M3.trans mm fun z hz ⟨q5,e5,e⟩=>by have:=(o6.base e5).1;omega
  rintro z w10 ⟨a5,a6,c5,c6,y,rfl,o5,o6,h56,m10⟩;rw[Ag (x:=(i:Int)+1) (by omega) (by omega)];exact⟨⟨i+1,a5,a6,c5,c6,_,rfl,by omega,o5,o6,h56,m10⟩,by simp[nI,Ap];omega⟩
 ·have hi:i=L.length:=by have:=Lb hb;omega
  subst hi;rw[xG]at o5 o6;obtain⟨w5,u1,u2,u3,u4⟩:=h1.cell.store (P:=Tryz.prog) (T:=199) (i:=0) (v:=.slice a6 (L.filter fun x=>!Bq V x).length c6) (by kernel_rfl) (by simp) rfl;have hqw:=h.cell.lt;rw[xG];refine⟨_,_,_,rfl,_,rfl,w5,by rw[Ad];exact u1,_,_,_,rfl,hk w5 a5 c5 ((m1.mono fun _ _ h=>h.elim).trans u3 fun _ _ e=>e) ⟨a6,c6,⟨u2,?_,fun a ha=>⟨fun e=>?_,fun e=>?_⟩,fun e=>?_⟩⟩ ?_⟩
  ·exact(o6.keep u3 fun a ha e=>by have e:a.block=q:=e;have:=(o6.base ha).1;omega).mono (by omega)
  ·have:=(o6.base ha).1;omega
  ·rcases e with e|⟨a',ha',e⟩
   ·have:=(o6.base ha).1;have:=hZ _ e;omega
   ·exact h56 a' a ha' ha e.symm
  ·rcases e with e|⟨a',ha',e⟩
   ·exact h.nz e
   ·have:=(o5.base ha').1;omega
  ·exact o5.keep u3 fun a ha e=>by have e:a.block=q:=e;have:=(o5.base ha).1;omega
theorem zP(h:Wk 199 Z w q L)(hn:L.length<=5000)(hk:∀ w' a c,Ab No w w'->Ow Tryz.prog w' w.heap.size 128 2 a L.length c (LA (L.map (·.2)))->K (.slice a L.length c) w') :
  A8 Tryz.prog Hf #[.pointer (some ⟨q,0,none⟩)] w K:=by
 apply Sx;unfold KH;refine AdN h ⟨_,rfl,?_⟩;obtain⟨la,lc,h⟩:=h
 refine⟨fun x w1=>∃(i:Nat)(a5:Option Addr)(c5:Nat),x=[.slice a5 i c5,.int .i64 i]/\i<=L.length/\Ow Tryz.prog w1 w.heap.size 128 2 a5 i c5 (LA ((L.take i).map (·.2)))/\Ab No w w1,fun x _=>(L.length-nI x 1).toNat,
  ⟨0,none,0,rfl,by omega,Ow.nilG LV,Ab.refl _ _⟩,?_⟩
 rintro x w1 ⟨i,a5,c5,rfl,hi,o5,m1⟩;have h1:=h.nos m1;have hz1:=m1.size;refine⟨_,rfl,Aa (fun hb=>?_) (fun hb=>?_)⟩
 ·have hi:i<L.length:=by have:=Lc hb;omega
  have hx:L[i]?=some L[i]:=Lk hi;have htk:=Ll hi;obtain⟨g,rfl,hix,_,hag,_⟩:=h1.at (Te:=203) Nv QR hn hx;generalize L[i]=x at *;obtain⟨q2,c',w7,run,p,mm,hq2⟩:=vZ (Te:=126) (ys:=I4 x.2) LV (by omega) o5 rfl (Y3 _) (by omega) (by omega) (by omega);refine⟨_,_,_,rfl,_,rfl,_,_,_,h1.ld (by kernel_rfl),_,hix,_,hag w1 _ (Ab.refl _ _) Du,_,_,_,_,WZ _ _,_,_,_,w7,run,?_⟩
  rw[Ag (x:=(i:Int)+1) (by omega) (by omega)];refine⟨⟨i+1,some q2,c',rfl,by omega,?_,m1.trans mm fun z hz ⟨q5,e5,e⟩=>by have:=(o5.base e5).1;omega⟩,by simp[nI,Ap];omega⟩;have:LA ((L.take (i+1)).map (·.2))=LA ((L.take i).map (·.2))++I4 x.2:=by rw[htk,dT];exact XS _ _
  rw[this];exact p
 ·have hi:i=L.length:=by have:=Lb hb;omega
  subst hi;rw[xG]at o5;exact⟨_,_,_,rfl,hk w1 a5 c5 m1 o5⟩
end
def two(P : Program)(T : TypeId) : Bool :=
  match (P.fieldsOf T).toList with
  | [f, g] => f.name != "_" && g.name != "_" && f.type == 3 && f.offset == 0 && g.type == 3 && g.offset == 1
  | _ => false
theorem Ad2 {P : Program} {T : TypeId} (h : two P T = true) : ∃ f g, (P.fieldsOf T).toList = [f, g] ∧ f.name ≠ "_" ∧ g.name ≠ "_" ∧ f.type = 3 ∧ f.offset = 0 ∧ g.type = 3 ∧ g.offset = 1 := by
  unfold two at h
  split at h
  · rename_i f g e
    simp only[Lp, bne_iff_ne, xH]at h;exact⟨f, g, e, h.1.1.1.1.1, h.1.1.1.1.2, h.1.1.1.2, h.1.1.2, h.1.2, h.2⟩
  · cases h
section
variable{w w' w0:World}{R:Nat->Prop}{sp d:Nat}{V:Ps}{K:Value->World->Prop}{T:TypeId}{Z Z':Nat->Prop}{q lc:Nat}{L:List Wt}{la:Option Addr}
def Ke(x y:Int×Int):Bool:=x.1==y.1&&x.2==y.2
theorem sD(h2:two Tryz.prog T=true)(ht:Tryz.prog.underlying T=some (.struct (Tryz.prog.fieldsOf T)))(hp:Tryz.prog.stoodInHeld T=false)(x y:Int×Int)(w:World) :
  (Op.equalIn 10000 T (.agg ⟨I4 x⟩) (.agg ⟨I4 y⟩)).run Tryz.prog w=.ok (Ke x y) w:=by
 obtain⟨f,g,hfs,nf,ng,tf,of,tg,og⟩:=Ad2 h2;rw[run_equalIn_agg w 9999 T _ _ ht hp,hfs];unfold Op.eqFields;rw[if_pos nf,tf,of];have p1:∀ x:Int×Int,∀ w:World,(part 3 ⟨I4 x⟩ 0).run Tryz.prog w=.ok (.int .i64 x.1) w:=fun x w=>by kernel_rfl
 have p2:∀ x:Int×Int,∀ w:World,(part 3 ⟨I4 x⟩ 1).run Tryz.prog w=.ok (.int .i64 x.2) w:=fun x w=>by kernel_rfl
 have e1:∀ a b:Int,(Op.equalIn 9999 3 (.int .i64 a) (.int .i64 b)).run Tryz.prog w=.ok (a==b) w:=fun a b=>run_equalIn_int w 9998 3 .i64 .i64 a b (by kernel_rfl);unfold Ke;cases h1:x.1==y.1 with
 | false=>simp[Sem.run_bind,p1,e1,h1]
 | true =>
  simp[Sem.run_bind,p1,e1,h1,Op.eqFields,ng,tg,og,p2];cases h3:x.2==y.2<;>simpa using h3
theorem zC(h2:two Tryz.prog T=true)(ht:Tryz.prog.underlying T=some (.struct (Tryz.prog.fieldsOf T)))(hp:Tryz.prog.stoodInHeld T=false)(hg:Tryz.prog.eqGuardType Tryz.prog.depth T=false)(o1 o2:Operand)(x y:Int×Int) :
  Al (Gp .eql T o1 o2 (.agg ⟨I4 x⟩) (.agg ⟨I4 y⟩)) (.bool (Ke x y)):=fun w=>by
 unfold Gp;rw[Sem.run_bind,run_eqGuard_agg w _ _ _ _ _ _ hg,Result.andThen_ok,run_eql_struct,sD h2 ht hp,Result.andThen_ok]
theorem Aa5:two Tryz.prog 126=true:=by kernel_rfl
theorem Aa6:Tryz.prog.underlying 126=some (.struct (Tryz.prog.fieldsOf 126)):=by kernel_rfl
theorem Aa3:Tryz.prog.stoodInHeld 126=false:=by kernel_rfl
theorem zK:Tryz.prog.eqGuardType Tryz.prog.depth 126=false:=by kernel_rfl
theorem AbZ{T Te:TypeId}{base l c i:Nat}{a:Option Addr}{xs:List (Int×Int)}{x:Int×Int}(h:Ow Tryz.prog w base T 2 a l c (LA xs))(hl:xs.length=l)(hT:Ge Tryz.prog T=some 2)(hE:Ei Tryz.prog Te=some 2)(h63:l<=1000000)(hx:xs[i]?=some x) :
  ∃ g,a=some ⟨g,0,none⟩/\base<=g/\Al (Instr.indexAt T (.slice a l c) (.int .i64 i)) (.pointer (some ⟨g,i*2,none⟩))/\(∀ w',Ab No w w'->Ru (Instr.loadAt Te (.pointer (some ⟨g,i*2,none⟩))) w' (.agg ⟨I4 x⟩) w') /\
   ∀(w':World)(j:Nat)(v:Value)(Ti:TypeId),Ab No w w'->DQ Tryz.prog Ti=true->(I4 x)[j]?=some v->Ru (Instr.loadAt Ti (.pointer (some (Addr.add ⟨g,i*2,none⟩ j)))) w' v w':=by
 have hi:=(Lh.1 hx).1;obtain⟨g,rfl,hg,hat⟩:=h.sm (by omega);have hlen:(LA xs).length=xs.length*2:=KT JR xs;refine⟨g,rfl,hg,fun w'=>?_,fun w' m=>?_,fun w' j v Ti m hTi hj=>?_⟩
 ·have:=Ar (P:=Tryz.prog) (T:=T) (k:=2) (a:=⟨g,0,none⟩) (n:=l) (c:=c) (kk:=.i64) (i:=i) hT (by omega) (by omega) w'
  rw[Ad,show 0+(i:Int).toNat*2=i*2 by omega]at this;exact this
 ·have:=(hat.keep m id).at.loadAgg (P:=Tryz.prog) (T:=Te) (i:=i*2) hE (by rw[hlen];omega)
  rw[show((LA xs).drop (i*2)).take 2=I4 x from ID JR hx,Pj]at this;exact this
 ·rw[Ad]
  have:=(hat.keep m id).at.load (P:=Tryz.prog) (T:=Ti) (i:=i*2+j) hTi (v:=v) (SA JR hx hj)
  rw[Pj]at this;exact this
theorem Vl:Ge Tryz.prog 128=some 2:=by kernel_rfl
theorem ZC{base l c:Nat}{a:Option Addr}{xs:List (Int×Int)}{y:Int×Int}(h:Ow Tryz.prog w base 128 2 a l c (LA xs))(hl:xs.length=l)(h63:l<=1000000)
  (hk:∀ w',Ab No w w'->K (.bool (xs.any fun x=>Ke x y)) w'):A8 Tryz.prog CW #[.slice a l c,.agg ⟨I4 y⟩] w K:=by
 apply II;unfold EB;refine⟨_,_,I6,?_⟩;have m1:Ab No w (w.alloc (.cells (Value.agg ⟨I4 y⟩).cells 126)):=(Ab.refl No w).alloc _;have a1:A1 (w.alloc (.cells (Value.agg ⟨I4 y⟩).cells 126)) w.heap.size 0 (I4 y):=A1.new;generalize w.alloc (.cells (Value.agg ⟨I4 y⟩).cells 126)=w1 at *;have la1:Ru (Instr.loadAt 126 (.pointer (some ⟨w.heap.size,0,none⟩))) w1 (.agg ⟨I4 y⟩) w1:=a1.at.loadAgg (i:=0) Du (by rw[JR];omega)
 refine⟨_,la1,?_⟩;apply Kx;unfold Gb;refine⟨_,_,I6,?_⟩;have m2:Ab No w1 (w1.alloc (.cells (Value.agg ⟨I4 y⟩).cells 126)):=(Ab.refl No w1).alloc _;have a2:A1 (w1.alloc (.cells (Value.agg ⟨I4 y⟩).cells 126)) w1.heap.size 0 (I4 y):=A1.new;generalize w1.alloc (.cells (Value.agg ⟨I4 y⟩).cells 126)=w2 at *;have M2:=m1.no m2;refine⟨fun x w3=>∃ i:Nat,x=[.int .i64 i]/\i<=l/\Ab No w2 w3/\((xs.take i).any fun x=>Ke x y)=false,fun x _=>(l-nI x 0).toNat,⟨0,rfl,by omega,Ab.refl _ _,rfl⟩,?_⟩
 rintro x w3 ⟨i,rfl,hi,m3,hno⟩;refine⟨_,rfl,Aa (fun hb=>?_) (fun hb=>?_)⟩
 ·have hi:i<xs.length:=by have:=Lc hb;omega
  have md:Ab No w2 (Ah w3):=m3.drew;obtain⟨g,rfl,_,hix,hag,_⟩:=AbZ (Te:=126) h hl Vl Du h63 (Lk hi);have ht:((xs.take (i+1)).any fun x=>Ke x y)=(((xs.take i).any fun x=>Ke x y) || Ke xs[i] y):=by rw[Ll hi,List.any_append];simp
  refine⟨_,(a2.keep md id).at.loadAgg (i:=0) Du (by rw[JR];omega),_,hix,_,hag _ (M2.no md),_,zC Aa5 Aa6 Aa3 zK _ _ y xs[i],Aa (fun hb2=>?_) (fun hb2=>?_)⟩
  ·refine⟨_,rfl,?_⟩;have hs:(xs.any fun x=>Ke x y)=true:=WC.2 ⟨xs[i],Tx hi,by unfold Ke at hb2 |-;simp at hb2 |-;omega⟩;rw[Le (by omega),<- hs];exact hk _ (M2.no md)
  ·rw[Ag (x:=(i:Int)+1) (by omega) (by omega)];refine⟨⟨i+1,rfl,by omega,md,?_⟩,by simp[nI,Ap];omega⟩;rw[ht,hno,jF];unfold Ke at hb2 |-;rw[Bool.eq_false_iff]at hb2 |-;intro e;apply hb2;simp at e |-;omega
 ·have hi:i=xs.length:=by have:=Lb hb;omega
  subst hi;rw[xG]at hno;refine⟨_,rfl,?_⟩;rw[Lf (by omega),<- hno];exact hk _ (M2.no m3)
theorem tO{y:Int×Int}(h:Wk 199 Z w q L)(hn:L.length<=5000)(hk:∀ w',Ab No w w'->K (.bool (L.any fun x=>Ke x.2 y)) w') :
  A8 Tryz.prog G7 #[.pointer (some ⟨q,0,none⟩),.agg ⟨I4 y⟩] w K:=by
 apply Q5;unfold JI;refine⟨_,_,I6,?_⟩;have m1:Ab No w (w.alloc (.cells (Value.agg ⟨I4 y⟩).cells 126)):=(Ab.refl No w).alloc _;have a1:A1 (w.alloc (.cells (Value.agg ⟨I4 y⟩).cells 126)) w.heap.size 0 (I4 y):=A1.new;generalize w.alloc (.cells (Value.agg ⟨I4 y⟩).cells 126)=w1 at *;have md:Ab No w1 (Ah w1):=(Ab.refl No w1).drew;refine⟨_,(a1.keep md id).at.loadAgg (i:=0) Du (by rw[JR];omega),zP ((h.nos m1).nos md) hn fun w2 a c m2 o2=>⟨_,_,_,rfl,(a1.keep (md.no m2) id).at.loadAgg (i:=0) Du (by rw[JR];omega),?_⟩⟩
 refine ZC o2 (by simp) (by omega) fun w3 m3=>⟨_,rfl,?_⟩
 have:=hk w3 (((m1.no md).no m2).no m3)
 rw[Ln6];exact this
end
def Sb(R R':Nat->Prop)(w:World):Prop:=∀ z,R' z->R z\/w.heap.size<=z
theorem Sb.refl(R:Nat->Prop)(w:World):Sb R R w:=fun _ h=>.inl h
theorem Sb.trans{R R' R'':Nat->Prop}{w w':World}(h:Sb R R' w)(k:Sb R' R'' w')(hz:w.heap.size<=w'.heap.size):Sb R R'' w:=fun z hx=>by
 rcases k z hx with h1|h1
 ·exact h z h1
 ·exact .inr (by omega)
theorem Sb.gro{R:Nat->Prop}{w w1:World}:Sb R (BJ R w w1) w:=fun _ h=>by
 rcases h with h|h
 ·exact .inl h
 ·exact .inr (by omega)
theorem Sb.up{R R':Nat->Prop}{w w':World}(k:Sb R R' w')(hz:w.heap.size<=w'.heap.size):Sb R R' w:=fun z h=>(k z h).imp id fun e=>by omega
theorem Ab.sb{R R':Nat->Prop}{a b c:World}(h:Ab R a b)(s:Sb R R' a)(k:Ab R' b c):Ab R a c:=h.trans k fun x hx e=>(s x e).resolve_right (by omega)
theorem Pz.dlo{w0 w:World}{R:Nat->Prop}{sp d:Nat}{V:Ps}(h:Pz w0 R w sp d V):w0.heap.size<=d:=by
 obtain⟨C,_,_,_,rl,c,mo,mm,ca,oa,Lo,Lm,h⟩:=h;have hl:=h.lo d;obtain⟨rl2,m,sb,mb,sc,lc,la,L,mp,hC⟩:=h.cx;have e4:rl2 d=4:=hC.disk.rb;have e1:rl d=1:=hC.reg d (by omega);exact(hl (h.reg d (by omega))).1
structure VuS(w0:World)(Rs Rw:Nat->Prop)(w:World)(v d sp wk:Nat)(s:Sp)(V:Ps)(W:List Wt)(nx:Int):Prop where
 st:Pz w0 Rs w sp d V
 cell:A1 w v 0 (vV s sp wk nx)
 wrk:Wk 199 (fun x=>x<w.heap.size/\¬ Rw x) w wk W
 dj:∀ z,Rs z->¬ Rw z
 nv:¬ Rs v/\¬ Rw v
 lo:∀ z,Rw z\/z=v->d<=z/\z<w.heap.size
def Vu(R:Nat->Prop)(w:World)(v d:Nat)(s:Sp)(V:Ps)(W:List Wt)(nx:Int):Prop :=
 ∃ w0 Rs Rw sp wk,VuS w0 Rs Rw w v d sp wk s V W nx/\(∀ z,Rs z\/Rw z\/z=v->R z)/\∀ z,R z->z<w.heap.size
section
variable{w0 w w':World}{R R':Nat->Prop}{v d:Nat}{s:Sp}{V:Ps}{W:List Wt}{nx:Int}{K:Value->World->Prop}
theorem Vu.lt(h:Vu R w v d s V W nx):∀ z,R z->z<w.heap.size:=by obtain⟨_,_,_,_,_,_,_,h⟩:=h;exact h
theorem Vu.rv(h:Vu R w v d s V W nx):R v:=by obtain⟨_,_,_,_,_,_,h,_⟩:=h;exact h v (.inr (.inr rfl))
theorem Vu.wf(h:Vu R w v d s V W nx):Hh V/\WF V.C.D:=by obtain⟨_,_,_,_,_,h,_⟩:=h;exact⟨h.st.wf.1,h.st.wf.2.2.2.2⟩
theorem Vu.dlo(h:Vu R w v d s V W nx):d<=v:=by obtain⟨_,_,_,_,_,h,_⟩:=h;exact(h.lo v (.inr rfl)).1
theorem Vu.keep{S:Nat->Prop}(h:Vu R w v d s V W nx)(m:Ab S w w')(hS:∀ z,R z->¬ S z)(hd:∀ z,S z->d<=z):Vu R w' v d s V W nx:=by
 obtain⟨w0,Rs,Rw,sp,wk,h,h1,h2⟩:=h;have hz:=m.size;have hd0:=h.st.dlo;have hrw:∀ x,x<w.heap.size->Rw x->¬ S x:=fun x _ e=>hS x (h1 x (.inr (.inl e)));refine⟨w0,Rs,Rw,sp,wk,⟨h.st.keep m (fun x hx=>hS x (h1 x (.inl hx))) fun x hx e=>by have:=hd x e;omega,h.cell.keep m (hS v (h1 v (.inr (.inr rfl)))),?_,h.dj,h.nv,fun z hz=>?_⟩,h1,fun z hz=>?_⟩
 ·refine h.wrk.keep (S:=fun x=>S x/\x<w.heap.size) (m.mono fun x hx e=>⟨e,hx⟩) (fun x e=>⟨e.2,fun r=>hrw x e.2 r e.1⟩) fun x hx e=>⟨hx,e.2⟩
 ·have:=h.lo z hz
  omega
 ·have:=h2 z hz
  omega
theorem Vu.nos(h:Vu R w v d s V W nx)(m:Ab No w w'):Vu R w' v d s V W nx:=h.keep m (fun _ _ e=>e) fun _ e=>e.elim
theorem Vu.op(h:Vu R w v d s V W nx):∃(w0:World)(Rs Z:Nat->Prop)(sp wk:Nat),Pz w0 Rs w sp d V/\Wk 199 Z w wk W/\(∀ x,Z x->x<w.heap.size)/\A1 w v 0 (vV s sp wk nx)/\(∀ z,Rs z->R z) /\
  (∀ w1 w' V',Ab Rs w w1->Ab No w1 w'->Pz w0 (BJ Rs w w1) w' sp d V'->Ab R w w'/\Vu (BJ R w w1) w' v d s V' W nx) /\
  (∀ w' (Z':Nat->Prop) W',Ab (fun z=>z=wk) w w'->(∀ x,Z x->Z' x)->Wk 199 Z' w' wk W'->Ab R w w'/\Vu (fun z=>R z\/(w.heap.size<=z/\z<w'.heap.size/\¬ Z' z)) w' v d s V W' nx):=by
 obtain⟨w0,Rs,Rw,sp,wk,h,h1,h2⟩:=h;have hd0:=h.st.dlo;have hlo:=h.st.lo;have hw:=h.wrk;have hRwk:Rw wk:=by
  obtain⟨la,lc,hw⟩:=hw;exact Ly1 fun e=>hw.nz ⟨hw.cell.lt,e⟩
 refine⟨w0,Rs,_,sp,wk,h.st,h.wrk,fun x e=>e.1,h.cell,fun z hz=>h1 z (.inl hz),fun w1 w' V' m1 m2 hP=>?_,fun w' Z' W' m hZ hW=>?_⟩
 ·have m:=m1.no m2;have z1:=m1.size;have z2:=m2.size;refine⟨m.mono fun x _ e=>h1 x (.inl e),w0,BJ Rs w w1,Rw,sp,wk,⟨hP,h.cell.keep m h.nv.1,?_,fun z hz e=>?_,⟨fun e=>?_,h.nv.2⟩,fun z hz=>?_⟩,fun z hz=>?_,fun z hz=>?_⟩
  ·refine h.wrk.keep m (fun x e=>⟨(hlo x e).2,h.dj x e⟩) fun x hx e=>⟨hx,e.2⟩
  ·rcases hz with hz|hz
   ·exact h.dj z hz e
   ·have:=(h.lo z (.inl e)).2;omega
  ·rcases e with e|e
   ·exact h.nv.1 e
   ·have:=(h.lo v (.inr rfl)).2;omega
  ·have:=h.lo z hz;omega
  ·rcases hz with (hz|hz)|hz
   ·exact .inl (h1 z (.inl hz))
   ·exact .inr hz
   ·exact .inl (h1 z (.inr hz))
  ·rcases hz with hz|hz
   ·have:=h2 z hz;omega
   ·omega
 ·have z1:=m.size;have hwkl:=(h.lo wk (.inl hRwk)).2;have e1:¬ v=wk:=fun e=>h.nv.2 (e ▸ hRwk);refine⟨m.mono fun x _ e=>by have e:x=wk:=e;rw[e];exact h1 wk (.inr (.inl hRwk)),w0,Rs,fun z=>Rw z\/(w.heap.size<=z/\z<w'.heap.size/\¬ Z' z),sp,wk,⟨h.st.keep m (fun x hx e=>?_) (fun x hx e=>?_),h.cell.keep m e1,?_,fun z hz e=>?_,⟨h.nv.1,fun e=>?_⟩,fun z hz=>?_⟩,fun z hz=>?_,fun z hz=>?_⟩
  ·have e:x=wk:=e;rw[e]at hx;exact h.dj wk hx hRwk
  ·have e:x=wk:=e
   have:=(h.lo wk (.inl hRwk)).1;omega
  ·refine hW.keep (S:=No) (Ab.refl _ _) (fun _ e=>e.elim) fun x hx e=>?_;by_cases hx2:x<w.heap.size
   ·exact hZ x ⟨hx2,fun r=>e.2 (.inl r)⟩
   ·exact Ly1 fun r=>e.2 (.inr ⟨by omega,hx,r⟩)
  ·rcases e with e|e
   ·exact h.dj z hz e
   ·have:=(hlo z hz).2;omega
  ·rcases e with e|e
   ·exact h.nv.2 e
   ·have:=(h.lo v (.inr rfl)).2;omega
  ·rcases hz with (hz|hz)|hz
   ·have:=h.lo z (.inl hz);omega
   ·have:=(h.lo wk (.inl hRwk)).1;omega
   ·have:=h.lo z (.inr hz);omega
  ·rcases hz with hz|(hz|hz)|hz
   ·exact .inl (h1 z (.inl hz))
   ·exact .inl (h1 z (.inr (.inl hz)))
   ·exact .inr hz
   ·exact .inl (h1 z (.inr (.inr hz)))
  ·rcases hz with hz|hz
   ·have:=h2 z hz;omega
   ·omega
theorem Vu.at(h:Vu R w v d s V W nx):∃ sp wk,A1 w v 0 (vV s sp wk nx):=by obtain⟨_,_,_,sp,wk,h,_⟩:=h;exact⟨sp,wk,h.cell⟩
theorem Vu.geo(h:Vu R w v d s V W nx):Ru (Instr.loadAt 40 (.pointer (some (Addr.add (Addr.add ⟨v,0,none⟩ 0) 1)))) w (.agg ⟨gV s.geo⟩) w:=by
 obtain⟨sp,wk,h⟩:=h.at;exact Ab6 h.at Aq (by show 4<=7;omega) rfl
theorem Ad6(h:Vu R w v d s V W nx)(hk:∀ w',Ab No w w'->K (.agg ⟨gV s.geo⟩) w'):A8 Tryz.prog AY #[.pointer (some ⟨v,0,none⟩)] w K:=by
 apply W6;unfold Ph;obtain⟨w1,b1,b2,b3,b4⟩:=A9 (P:=Tryz.prog) (w:=w) (T:=40) NM;obtain⟨w2,c1,c2,c3,c4⟩:=b2.put (T:=40) (vs:=gV s.geo) Aq rfl rfl (SL _);exact⟨_,w1,b1,ff rfl ⟨_,rfl,_,(h.nos b3).geo,w2,c1,_,c2.at.all Aq rfl,hk w2 (b3.own c3 (Ld _))⟩⟩
theorem AcI{k:Int}(h:Vu R w v d s V W nx)(hk:∀ w',Ab No w w'->K (.tuple #[.int .i64 (Bc s.geo k).1,.int .i64 (Bc s.geo k).2]) w'):A8 Tryz.prog EH #[.pointer (some ⟨v,0,none⟩),.int .i64 k] w K:=by
 apply MW;unfold Jf;exact ff rfl ⟨_,rfl,_,h.geo,Hq fun w' m=>⟨_,_,rfl,hk w' m⟩⟩
theorem Vu.rd(h:Vu R w v d s V W nx){n:Int}(h0:0<=n)(h1:n<V.C.D.vs.length)
  (hk:∀ w' R' g cc,Ab R w w'->Sb R R' w->Vu R' w' v d s V W nx->w.heap.size<=g->¬ R' g->A1 w' g 0 (Au (AH V n.toNat))->(AH V n.toNat).length=256->256<=cc->K (.tuple #[.slice (some ⟨g,0,none⟩) 256 cc,.int .i64 0]) w') :
  ∃ p:Option Addr,Ru (Instr.loadAt 89 (.pointer (some (Addr.add ⟨v,0,none⟩ 4)))) w (.pointer p) w/\A8 Tryz.prog B0 #[.pointer p,.int .i64 n] w K:=by
 have hwf:=h.wf;have hlt:=h.lt;obtain⟨w0,Rs,Z,sp,wk,a1,a2,a3,a4,a5,a6,a7⟩:=h.op;refine⟨_,a4.at.fld NF rfl,?_⟩;obtain⟨b,rfl⟩:=Wq h0;have hb:b<V.C.D.vs.length:=by omega
 refine cL a1 rfl hb fun w1 w' g cc m1 m2 hP hg hat hcc=>?_;obtain⟨M,hV⟩:=a6 w1 w' V m1 m2 hP;have z1:=m1.size;refine hk w' _ g cc M Sb.gro hV (by omega) (fun e=>?_) hat (rZ hwf.1 hwf.2 hb) hcc;rcases e with e | e
 ·have:=hlt g e;omega
 ·omega
def Ue(g:Gm)(hs:List Hd)(k:Int):Hd×Int:=if (Bc g k).2≠0 then(hZ,(Bc g k).2)else(hs.getD k.toNat hZ,0)
theorem sP{g:Gm}{k:Int}(h:(Bc g k).2=0):CU g=true/\0<=k/\k<g.gs/\(Bc g k).1=2+k*g.gr:=by
 unfold Bc at h |-
 split at h
 ·rename_i hg
  split at h
  ·rename_i hk;rw[if_pos hg,if_pos hk];exact⟨hg,hk.1,hk.2,rfl⟩
  ·cases h
 ·cases h
variable{hs:List Hd}
theorem CJ.get(h:CJ V s.geo hs){k:Int}(h0:0<=k)(h1:k<s.geo.gs):∃ x,hs[k.toNat]?=some x/\AH V (2+k*s.geo.gr).toNat=Fz s.geo x/\I8 s.geo x=true/\x.no=k/\Fq x:=by
 have hl:=h.2.2.1;have hlt:k.toNat<hs.length:=by omega
 refine⟨hs[k.toNat],by simp[hlt],?_⟩
 have:=h.2.2.2 k.toNat hs[k.toNat] (by simp[hlt])
 rw[show((k.toNat:Nat):Int)=k by omega]at this;exact this
theorem AbD{k:Int}(h:Vu R w v d s V W nx)(hH:CJ V s.geo hs)
  (hk:∀ w' R',Ab R w w'->Sb R R' w->Vu R' w' v d s V W nx->Fq (Ue s.geo hs k).1->(k<0\/s.geo.gs<=k->Ab No w w')->K (.tuple #[.agg ⟨hV (Ue s.geo hs k).1⟩,.int .i64 (Ue s.geo hs k).2]) w'):A8 Tryz.prog B1 #[.pointer (some ⟨v,0,none⟩),.int .i64 k] w K:=by
 apply MV;unfold Je;obtain⟨w1,b1,b2,b3,b4⟩:=A9 (P:=Tryz.prog) (w:=w) (T:=119) B7;have hdv:=h.dlo;have hvl:=h.lt v h.rv;have h1:=h.nos b3;refine⟨_,w1,b1,AcI h1 fun w2 m2=>⟨_,_,rfl,?_⟩⟩;have h2:=h1.nos m2;have m02:=b3.no m2;rw[Di];refine Aa (fun he=>⟨_,DT,?_⟩) (fun he=>?_)
 ·have he:=Lc he;obtain⟨w3,c1,c2,c3,c4⟩:=(b2.keep m2 id).put (T:=119) (vs:=hV hZ) Ax rfl (Aw DK) (Db _);refine⟨w3,c1,_,c2.at.all Ax (Aw DK),?_⟩;have e:Ue s.geo hs k=(hZ,(Bc s.geo k).2):=by unfold Ue;rw[if_pos he]
  rw[e]at hk;have m3:Ab No w w3:=m02.own c3 (Ld _);exact hk w3 R (m3.mono fun _ _ e=>e.elim) (Sb.refl _ _) (h.nos m3) DK fun _=>m3
 have he:=Tw.1 (Lb he);obtain⟨hg,k0,k1,kb⟩:=sP he;obtain⟨x,hx,hx1,hx2,hx3,hx4⟩:=hH.get k0 k1;have e:Ue s.geo hs k=(x,0):=by unfold Ue;rw[if_neg (by rw[he];decide),Lj,hx];rfl
 rw[e]at hk;have hin:=Rh (g:=s.geo) (k:=k) (b:=(Bc s.geo k).1) (by rw[<- he]);have hsz:=hH.2.1;refine⟨_,rfl,?_⟩;have hs1:=b3.size;have hs2:=m2.size;refine h2.rd hin.1 (by omega) fun w4 R4 g cc m4 s4 h4 hg1 hg2 hat hl hcc=>⟨_,_,_,_,rfl,ff rfl ⟨_,rfl,_,h4.geo,?_⟩⟩;rw[kb,hx1]at hat hl;have q2:=(b2.keep m2 id).keep m4 (fun e=>by have:=h.lt _ e;omega);refine X0 hl hcc (.inr ⟨_,_,rfl,hat.at⟩) (by omega) fun w6 m6=>⟨_,_,rfl,?_⟩
 rw[Xv hx4 hx2];obtain⟨w7,c1,c2,c3,c4⟩:=(q2.keep m6 id).put (T:=119) (vs:=hV x) Ax rfl (Aw hx4) (Db _);have hnR:¬ R4 w.heap.size:=fun e=>by
  rcases s4 _ e with e|e
  ·have:=h.lt _ e;omega
  ·have:=b2.lt;omega
 have M6:Ab R w w6:=((m02.mono fun _ _ e=>e.elim).trans m4 fun x _ e=>e).no m6;refine⟨w7,c1,_,c2.at.all Ax (Aw hx4),?_⟩;refine hk w7 R4 (M6.trans c3 fun x hx e=>by have e:x=w.heap.size:=e;omega) (s4.up (by omega)) ((h4.nos m6).keep c3 (fun z hz e=>by have e:z=w.heap.size:=e;rw[e]at hz;exact hnR hz) fun z e=>by have e:z=w.heap.size:=e;omega) hx4 fun hbad=>by omega
theorem Ad7{k:Int}{x:Hd}(h:Vu R w v d s V W nx)(hH:CJ V s.geo hs)(k0:0<=k)(k1:k<s.geo.gs)(hw:Fq x)(ho:I8 s.geo x=true)(hn:x.no=k)(hlast:V.last+1<=1000000)
  (hk:∀ w' R',Ab R w w'->Sb R R' w->Vu R' w' v d s (NG V s.geo k.toNat x) W nx->CJ (NG V s.geo k.toNat x) s.geo (hs.set k.toNat x)->(NG V s.geo k.toNat x).last=V.last+1->K (.tuple #[.int .i64 ((V.last:Int)+1),.int .i64 0]) w') :
  A8 Tryz.prog Dt #[.pointer (some ⟨v,0,none⟩),.int .i64 k,.agg ⟨hV x⟩,.slice none 0 0] w K:=by
 apply Q7;unfold JK;obtain⟨j,rfl⟩:=Wq k0;obtain⟨w1,b1,b2,b3,b4⟩:=AC (P:=Tryz.prog) (w:=w) (T:=119) (cs:=hV x);have hg:=hH.1;obtain⟨p1,p2,p3⟩:=KX hg k1;refine⟨_,w1,b1,AcI (h.nos b3) fun w2 m2=>⟨_,_,rfl,?_⟩⟩;rw[p1];have m02:=(b3.no m2).drew;have h2:=h.nos m02;have q2:A1 (Go.Den.Ah w2) w.heap.size 0 (hV x):=(b2.keep m2 id).drew;refine ff rfl ⟨_,rfl,_,h2.geo,_,q2.at.all Ax (Aw hw),gK hw (fun e=>by rw[ho]at e;cases e) fun _ w3 q m3 hq hat=>⟨_,_,_,_,rfl,?_⟩⟩
 have q3:=q2.keep m3 id;refine Ac.cut (fun z w4=>w4=w3/\z=[.bool false]) (ff rfl ⟨_,q3.at.fld Aj rfl,rfl,?_⟩) ?_
 ·rw[hn,Di,Lf (by simp)]
 rintro z w4 ⟨rfl,rfl⟩;have m04:=(m02.no m3).drew;have h4:=h.nos m04;have hlt:=h.lt;obtain⟨w0,Rs,Z,sp,wk,a1,a2,a3,a4,a5,a6,a7⟩:=h4.op;refine⟨_,rfl,ff rfl ⟨_,rfl,_,a4.at.fld NF rfl,_,_,_,H4 Am (by omega) (by omega),?_⟩⟩;have hE:=iP (V:=V) hH k1 hw;have hN:SP V (2+(j:Int)*s.geo.gr) 0 (VY s.geo x) []=(V.last:Int)+1:=by unfold SP;rw[if_pos hE];omega
 have hz4:=m04.size
 have hR:Bl (Go.Den.Ah w4) (some ⟨q,0,none⟩) (Au (VY s.geo x)):=.inr ⟨q,0,rfl,by
  have:=hat.at.drew.sub (i:=0) (m:=64) (by rw[Ak,Jo hw];omega)
  rw[Uq,<- Wl]at this;exact this⟩
 refine cK (data:=VY s.geo x) (after:=[]) a1 hlast (XX hw) hR (fun _ q' e=>by
  cases e;intro e;have h1:=hlt q (a5 q e)
  have:=m02.size
  omega) (by omega) rfl (by omega) (.inl rfl) (fun e=>absurd rfl e) fun w5 m5 hP=>⟨_,_,rfl,?_⟩
 rw[hE,hN];obtain⟨M,hV⟩:=a6 w5 w5 _ m5 (Ab.refl _ _) hP;refine hk w5 _ ((m04.mono fun _ _ e=>e.elim).trans M fun x _ e=>e) (Sb.gro.up hz4) hV (hH.set k1 hw ho hn) (SQ hE)
end
def Cc(g:Gm)(b:Int):Int×Int :=
 if b<0\/AJ g<=b then(0,-1)else if b<2 then(1,-1)else if (b-2) % g.gr=0 then(2,(b-2) / g.gr)else if (b-2) % g.gr<=AM g then(3,(b-2) / g.gr)else(4,(b-2) / g.gr)
def oE(g:Gm)(n:Int):Int:=if n<0\/AO g<=n then -1 else n / g.no
theorem bB{g:Gm}{b:Int}(h:0<=b)(h1:b<AJ g):CU g=true/\b<2+g.gs*g.gr:=by
 unfold AJ at h1
 split at h1
 ·rename_i h2;exact⟨h2,h1⟩
 ·omega
theorem Xs{g:Gm}{b:Int}(h:0<=b)(h1:b<AO g):CU g=true/\b<g.gs*g.no:=by
 unfold AO at h1
 split at h1
 ·rename_i h2;exact⟨h2,h1⟩
 ·omega
section
variable{w:World}{K:Value->World->Prop}
theorem Xt{g:Gm}{b:Int}(hk:∀ w',Ab No w w'->K (.tuple #[.int .i64 (Cc g b).1,.int .i64 (Cc g b).2]) w'):A8 Tryz.prog LN #[.agg ⟨gV g⟩,.int .i64 b] w K:=by
 apply eU;unfold UH;obtain⟨w1,a1,a2,a3,a4⟩:=AC (P:=Tryz.prog) (w:=w) (T:=40) (cs:=gV g);refine⟨_,w1,a1,Ac.cut (fun z w3=>Ab No w1 w3/\z=[.bool (decide (b<0\/AJ g<=b))]) (Aa (fun h=>⟨Ab.refl _ _,?_⟩) (fun h=>⟨_,a2.at.all Aq rfl,SC fun w2 m2=>⟨_,rfl,m2,?_⟩⟩)) ?_⟩
 ·rw[Le (show b<0\/AJ g<=b from .inl (Lc h))]
 ·have h:=Lb h
  congr 2
  exact ZH.2 ⟨.inr,fun e=>e.resolve_left h⟩
 rintro z w3 ⟨m3,rfl⟩;have M:=a3.no m3;have hq:=a2.at.keep m3 id;refine⟨_,rfl,Aa (fun h=>?_) (fun h=>Aa (fun h2=>?_) (fun h2=>?_))⟩
 ·have e:Cc g b=(0,-1):=by unfold Cc;rw[if_pos (Lc h)]
  rw[e]at hk;exact hk _ M
 ·have e:Cc g b=(1,-1):=by unfold Cc;rw[if_neg (Lb h),if_pos (Lc h2)]
  rw[e]at hk;exact hk _ M
 have h:=Lb h;have h2:=Lb h2;obtain⟨hg,hb⟩:=bB (g:=g) (b:=b) (by omega) (by omega);obtain⟨g1,g2,g3,g4,_⟩:=Av.1 hg;have hp:=Kb (a:=g.gs) (b:=g.gr) (m:=16) (n:=128) (by omega) (by omega) (by omega) (by omega);rw[Ag (x:=b-2) (by omega) (by omega)];refine⟨_,hq.drew.fld Aj rfl,_,AaQ (by omega) (by omega) (by omega),_,hq.drew.fld Aj rfl,_,vF (by omega) (by omega) (by omega),?_⟩
 rw[GO];refine Aa (fun h3=>?_) (fun h3=>⟨_,hq.drew.all Aq rfl,Oc fun w4 m4=>⟨_,rfl,Aa (fun h4=>?_) (fun h4=>?_)⟩⟩)
 ·have e:Cc g b=(2,(b-2) / g.gr):=by unfold Cc;rw[if_neg h,if_neg h2,if_pos (Lc h3)]
  rw[e]at hk;exact hk _ M.drew
 ·have e:Cc g b=(3,(b-2) / g.gr):=by unfold Cc;rw[if_neg h,if_neg h2,if_neg (Lb h3),if_pos (Lc h4)]
  rw[e]at hk;exact hk _ (M.drew.no m4)
 ·have e:Cc g b=(4,(b-2) / g.gr):=by unfold Cc;rw[if_neg h,if_neg h2,if_neg (Lb h3),if_neg (Lb h4)]
  rw[e]at hk;exact hk _ (M.drew.no m4)
theorem zH{g:Gm}{n:Int}(h63:n<=9223372036854775807)(hk:∀ w',Ab No w w'->K (.int .i64 (oE g n)) w'):A8 Tryz.prog UM #[.agg ⟨gV g⟩,.int .i64 n] w K:=by
 apply qM;unfold ZE;obtain⟨w1,a1,a2,a3,a4⟩:=AC (P:=Tryz.prog) (w:=w) (T:=40) (cs:=gV g);refine⟨_,w1,a1,Ac.cut (fun z w3=>Ab No w1 w3/\z=[.bool (decide (n<0\/AO g<=n))]) (Aa (fun h=>⟨Ab.refl _ _,?_⟩) (fun h=>⟨_,a2.at.all Aq rfl,PX fun w2 m2=>⟨_,rfl,m2,?_⟩⟩)) ?_⟩
 ·rw[Le (show n<0\/AO g<=n from .inl (Lc h))]
 ·have h:=Lb h
  congr 2
  exact ZH.2 ⟨.inr,fun e=>e.resolve_left h⟩
 rintro z w3 ⟨m3,rfl⟩;have M:=a3.no m3;have hq:=a2.at.keep m3 id;refine⟨_,rfl,Aa (fun h=>?_) (fun h=>?_)⟩
 ·have e:oE g n=-1:=by unfold oE;rw[if_pos (Lc h)]
  rw[e]at hk;exact hk _ M
 have h:=Lb h;obtain⟨hg,hb⟩:=Xs (g:=g) (b:=n) (by omega) (by omega);obtain⟨_,_,_,_,g5,g6,_⟩:=Av.1 hg;have e:oE g n=n / g.no:=by unfold oE;rw[if_neg h]
 rw[e]at hk;exact⟨_,hq.fld Aj rfl,_,AaQ (by omega) (by omega) h63,hk _ M⟩
theorem zG{g:Gm}{k:Int}:0<=(Bc g k).1/\(Bc g k).1<=4096:=by
 unfold Bc;split
 ·rename_i hg;obtain⟨g1,g2,g3,g4,_⟩:=Av.1 hg;split
  ·have hp:=Kb (a:=k) (b:=g.gr) (m:=16) (n:=128) (by omega) (by omega) (by omega) (by omega);show 0<=2+k*g.gr/\2+k*g.gr<=4096;omega
  ·exact⟨xU 0,by decide⟩
 ·exact⟨xU 0,by decide⟩
end
structure Az where
 s:Sp
 V:Ps
 W:List Wt
 nx:Int
 hs:List Hd
 fz:Int->Bool
def Ao(R:Nat->Prop)(w:World)(a v d:Nat)(A:Az):Prop :=
 ∃ Rv fm L,Vu Rv w v d A.s A.V A.W A.nx/\A1 w a 0 [.pointer (some ⟨v,0,none⟩),.map (some fm)]/\Bj w fm L/\(∀ k,(Ay L k).getD (.bool false)=.bool (A.fz k))/\(¬ Rv a/\¬ Rv fm/\a≠fm/\d<=a/\d<=fm)/\(∀ z,Rv z\/z=a\/z=fm->R z)/\(∀ z,R z->z<w.heap.size)/\CJ A.V A.s.geo A.hs
theorem AcA:RA Tryz.prog 97=some (.bool false):=by kernel_rfl
theorem AaX:DQ Tryz.prog 31=true:=by kernel_rfl
theorem AcD:DQ Tryz.prog 97=true:=by kernel_rfl
section
variable{w w':World}{R R':Nat->Prop}{a v d:Nat}{A:Az}{K:Value->World->Prop}
theorem Ao.lt(h:Ao R w a v d A):∀ z,R z->z<w.heap.size:=by obtain⟨_,_,_,_,_,_,_,_,_,h,_⟩:=h;exact h
theorem Ao.hd(h:Ao R w a v d A):CJ A.V A.s.geo A.hs:=by obtain⟨_,_,_,_,_,_,_,_,_,_,h⟩:=h;exact h
theorem Ao.ok(h:Ao R w a v d A):CU A.s.geo=true:=h.hd.1
theorem Ao.at(h:Ao R w a v d A):∃ fm,A1 w a 0 [.pointer (some ⟨v,0,none⟩),.map (some fm)]:=by obtain⟨_,fm,_,_,h,_⟩:=h;exact⟨fm,h⟩
theorem Ao.dlt(h:Ao R w a v d A):d<=a/\a<w.heap.size/\R a:=by obtain⟨_,fm,_,_,h,_,_,h2,h3,h4,_⟩:=h;exact⟨h2.2.2.2.1,h4 a (h3 a (.inr (.inl rfl))),h3 a (.inr (.inl rfl))⟩
theorem Ao.wf(h:Ao R w a v d A):Hh A.V/\WF A.V.C.D:=by obtain⟨_,_,_,h,_⟩:=h;exact h.wf
theorem Ao.pv(h:Ao R w a v d A):Ru (Instr.loadAt 31 (.pointer (some (Addr.add ⟨a,0,none⟩ 0)))) w (.pointer (some ⟨v,0,none⟩)) w:=by
 obtain⟨fm,h⟩:=h.at;exact h.at.fld AaX rfl
theorem Ao.keep{S:Nat->Prop}(h:Ao R w a v d A)(m:Ab S w w')(hS:∀ z,R z->¬ S z)(hd:∀ z,S z->d<=z):Ao R w' a v d A:=by
 obtain⟨Rv,fm,L,h1,h2,h3,h4,h5,h6,h7,h8⟩:=h;exact⟨Rv,fm,L,h1.keep m (fun z hz=>hS z (h6 z (.inl hz))) hd,h2.keep m (hS a (h6 a (.inr (.inl rfl)))),h3.keep m (hS fm (h6 fm (.inr (.inr rfl)))),h4,h5,h6,fun z hz=>jJ (h7 z hz) m.size,h8⟩
theorem Ao.nos(h:Ao R w a v d A)(m:Ab No w w'):Ao R w' a v d A:=h.keep m (fun _ _ e=>e) fun _ e=>e.elim
theorem Ao.own{q:Nat}(h:Ao R w a v d A)(m:Ab (fun x=>x=q) w w')(hq:¬ R q)(h0:d<=q):Ao R w' a v d A :=
 h.keep m (fun z hz e=>by have e:z=q:=e;rw[e]at hz;exact hq hz) fun z e=>by have e:z=q:=e;omega
theorem Ao.vol(h:Ao R w a v d A):∃ Rv,Vu Rv w v d A.s A.V A.W A.nx/\(∀ z,Rv z->R z)/\∀(w':World)(Rv':Nat->Prop)(V':Ps)(W':List Wt)(nx':Int)(hs':List Hd),Ab Rv w w'->Sb Rv Rv' w->Vu Rv' w' v d A.s V' W' nx'->CJ V' A.s.geo hs' ->
  Ab R w w'/\Sb R (fun z=>R z\/Rv' z) w/\Ao (fun z=>R z\/Rv' z) w' a v d ⟨A.s,V',W',nx',hs',A.fz⟩:=by
 obtain⟨Rv,fm,L,h1,h2,h3,h4,h5,h6,h7,h8⟩:=h;refine⟨Rv,h1,fun z hz=>h6 z (.inl hz),fun w' Rv' V' W' nx' hs' m sb hv hh=>⟨m.mono fun x _ e=>h6 x (.inl e),fun z hz=>?_,Rv',fm,L,hv,h2.keep m h5.1,h3.keep m h5.2.1,h4,⟨fun e=>?_,fun e=>?_,h5.2.2⟩,fun z hz=>?_,fun z hz=>?_,hh⟩⟩
 ·rcases hz with hz|hz
  ·exact .inl hz
  ·exact(sb z hz).imp (fun e=>h6 z (.inl e)) id
 ·rcases sb a e with e|e
  ·exact h5.1 e
  ·have:=h2.lt;omega
 ·rcases sb fm e with e|e
  ·exact h5.2.1 e
  ·have:=h3.lt;omega
 ·rcases hz with hz|hz
  ·exact .inr hz
  ·exact .inl (h6 z (.inr hz))
 ·rcases hz with hz|hz
  ·have:=h7 z hz;have:=m.size;omega
  ·exact hv.lt z hz
theorem Jj(h:Ao R w a v d A)(hk:∀ w',Ab No w w'->K (.agg ⟨gV A.s.geo⟩) w'):A8 Tryz.prog AY #[.pointer (some ⟨v,0,none⟩)] w K:=by
 obtain⟨Rv,hv,_⟩:=h.vol;exact Ad6 hv hk
theorem NP{k:Int}(h:Ao R w a v d A)
  (hk:∀ w' R',Ab R w w'->Sb R R' w->Ao R' w' a v d A->Fq (Ue A.s.geo A.hs k).1->K (.tuple #[.agg ⟨hV (Ue A.s.geo A.hs k).1⟩,.int .i64 (Ue A.s.geo A.hs k).2]) w'):A8 Tryz.prog B1 #[.pointer (some ⟨v,0,none⟩),.int .i64 k] w K:=by
 obtain⟨Rv,hv,_,hc⟩:=h.vol;refine AbD hv h.hd fun w' R' m sb hv' hw _=>?_;obtain⟨x1,x2,x3⟩:=hc w' R' A.V A.W A.nx A.hs m sb hv' h.hd;exact hk w' _ x1 x2 x3 hw
def BV(A:Az)(k:Nat)(x:Hd):Az:=⟨A.s,NG A.V A.s.geo k x,A.W,A.nx,A.hs.set k x,A.fz⟩
theorem Ac1{k:Int}{x:Hd}(h:Ao R w a v d A)(k0:0<=k)(k1:k<A.s.geo.gs)(hw:Fq x)(ho:I8 A.s.geo x=true)(hn:x.no=k)(hlast:A.V.last+1<=1000000)
  (hk:∀ w' R',Ab R w w'->Sb R R' w->Ao R' w' a v d (BV A k.toNat x)->(BV A k.toNat x).V.last=A.V.last+1->K (.tuple #[.int .i64 ((A.V.last:Int)+1),.int .i64 0]) w') :
  A8 Tryz.prog Dt #[.pointer (some ⟨v,0,none⟩),.int .i64 k,.agg ⟨hV x⟩,.slice none 0 0] w K:=by
 obtain⟨Rv,hv,_,hc⟩:=h.vol;refine Ad7 hv h.hd k0 k1 hw ho hn hlast fun w' R' m sb hv' hh hl=>?_;obtain⟨x1,x2,x3⟩:=hc w' R' _ A.W A.nx _ m sb hv' hh;exact hk w' _ x1 x2 x3 hl
def Gn(g:Gm)(b:Int):Int×Int×Bool:=if (Cc g b).1≠4 then(0,0,false)else((Cc g b).2,b-(Bc g (Cc g b).2).1,true)
def Oq(g:Gm)(n:Int):Int×Int×Bool:=if oE g n<0 then(0,0,false)else(oE g n,n % g.no,true)
def pV(x:Int×Int):List Value:=[.int .i64 x.1,.int .i64 x.2]
theorem GI(x:Int×Int):∀ u∈pV x,u.oneCell'=true:=by intro u hu;simp[pV]at hu;rcases hu with rfl | rfl<;>rfl
theorem AU:Ei Tryz.prog 101=some 2:=by kernel_rfl
theorem Fb:HT Tryz.prog 101=some (pV (0,0)):=by kernel_rfl
theorem Xm(g:Gm):Al (Instr.field 40 (.agg ⟨gV g⟩) 1) (.int .i64 g.no):=fun w=>by kernel_rfl
theorem Xl(g:Gm):Al (Instr.field 40 (.agg ⟨gV g⟩) 2) (.int .i64 g.gs):=fun w=>by kernel_rfl
theorem JS:Al (Instr.build 101 #[]) (.agg ⟨pV (0,0)⟩):=fun w=>by kernel_rfl
theorem LU(x y:Int):Al (Instr.build 101 #[(0,.int .i64 x),(1,.int .i64 y)]) (.agg ⟨pV (x,y)⟩):=fun w=>by kernel_rfl
theorem Ri{g:Gm}{b:Int}(h:(Cc g b).1=4):CU g=true/\2<=b/\b<AJ g/\0<=(Cc g b).2/\(Cc g b).2<g.gs/\1+AM g<=b-(2+(Cc g b).2*g.gr)/\b-(2+(Cc g b).2*g.gr)<g.gr:=by
 unfold Cc at h |-
 split at h
 ·cases h
 rename_i h1
 split at h
 ·cases h
 rename_i h2
 split at h
 ·cases h
 rename_i h3
 split at h
 ·cases h
 rename_i h4;rw[if_neg h1,if_neg h2,if_neg h3,if_neg h4];obtain⟨hg,hb⟩:=bB (g:=g) (b:=b) (by omega) (by omega);obtain⟨g1,g2,g3,g4,_⟩:=Av.1 hg;have hd:=Int.mul_ediv_add_emod (b-2) g.gr;have hm:=Lp5 (b-2) (show g.gr≠0 by omega);have hl:=Lr5 (b-2) (show 0<g.gr by omega);have hq:0<=(b-2) / g.gr:=Int.ediv_nonneg (by omega) (by omega);have hq2:(b-2) / g.gr<g.gs:=Int.ediv_lt_of_lt_mul (by omega) (by rw[Int.mul_comm]at *;omega)
 rw[Int.mul_comm]at hd;refine⟨hg,by omega,by omega,hq,hq2,?_,?_⟩
 ·show 1+AM g<=b-(2+(b-2) / g.gr*g.gr);omega
 ·show b-(2+(b-2) / g.gr*g.gr)<g.gr;omega
theorem Y1{b:Int}(h63:b<=9223372036854775807)(h:Ao R w a v d A)(hk:∀ w',Ab No w w'->K (.tuple #[.agg ⟨pV ((Gn A.s.geo b).1,(Gn A.s.geo b).2.1)⟩,.bool (Gn A.s.geo b).2.2]) w') :
  A8 Tryz.prog Ci #[.pointer (some ⟨a,0,none⟩),.int .i64 b] w K:=by
 apply O5;unfold If;obtain⟨w1,c1,c2,c3,c4⟩:=A9 (P:=Tryz.prog) (w:=w) (T:=101) Fb;have h1:=h.nos c3;refine⟨_,w1,c1,_,rfl,_,h1.pv,Jj h1 fun w2 m2=>⟨_,rfl,Xt fun w3 m3=>⟨_,_,rfl,?_⟩⟩⟩;have q3:=(c2.keep m2 id).keep m3 id;have h3:=(h1.nos m2).nos m3;have M3:=(c3.no m2).no m3;rw[Di];refine Aa (fun he=>⟨_,JS,?_⟩) (fun he=>⟨_,rfl,_,h3.pv,Jj h3 fun w5 m5=>⟨_,rfl,Hq fun w6 m6=>⟨_,_,rfl,?_⟩⟩⟩)
 ·have e:Gn A.s.geo b=(0,0,false):=by unfold Gn;rw[if_pos (Lc he)]
  rw[e]at hk;obtain⟨w4,y1,y2,y3,y4⟩:=q3.put (T:=101) (vs:=pV (0,0)) AU rfl rfl (GI _);exact⟨w4,y1,_,y2.at.all AU rfl,hk w4 (M3.own y3 (Ld _))⟩
 ·have he:=Tw.1 (Lb he);have e:Gn A.s.geo b=((Cc A.s.geo b).2,b-(Bc A.s.geo (Cc A.s.geo b).2).1,true):=by unfold Gn;rw[if_neg (by omega)]
  rw[e]at hk;obtain⟨_,k1,k2,_⟩:=Ri he;have hb:=zG (g:=A.s.geo) (k:=(Cc A.s.geo b).2);have hs:=Uw (g:=A.s.geo);rw[Ag (x:=b-(Bc A.s.geo (Cc A.s.geo b).2).1) (by omega) (by omega)];obtain⟨w7,y1,y2,y3,y4⟩:=((q3.keep m5 id).keep m6 id).put (T:=101) (vs:=pV ((Cc A.s.geo b).2,b-(Bc A.s.geo (Cc A.s.geo b).2).1)) AU rfl rfl (GI _);exact⟨_,LU _ _,w7,y1,_,y2.at.all AU rfl,hk w7 (((M3.no m5).no m6).own y3 (Ld _))⟩
theorem sQ{g:Gm}{n:Int}(h:0<=oE g n):CU g=true/\0<=n/\n<AO g/\oE g n=n / g.no:=by
 unfold oE at h |-
 split at h
 ·omega
 ·rename_i h1;rw[if_neg h1];exact⟨(Xs (g:=g) (b:=n) (by omega) (by omega)).1,by omega,by omega,rfl⟩
theorem rA{n:Int}(h63:n<=9223372036854775807)(h:Ao R w a v d A)(hk:∀ w',Ab No w w'->K (.tuple #[.agg ⟨pV ((Oq A.s.geo n).1,(Oq A.s.geo n).2.1)⟩,.bool (Oq A.s.geo n).2.2]) w') :
  A8 Tryz.prog Eb #[.pointer (some ⟨a,0,none⟩),.int .i64 n] w K:=by
 apply P3;unfold IL;obtain⟨w1,c1,c2,c3,c4⟩:=A9 (P:=Tryz.prog) (w:=w) (T:=101) Fb;have h1:=h.nos c3;refine⟨_,w1,c1,_,rfl,_,h1.pv,Jj h1 fun w2 m2=>⟨_,rfl,zH h63 fun w3 m3=>⟨_,rfl,?_⟩⟩⟩;have q3:=(c2.keep m2 id).keep m3 id;have h3:=(h1.nos m2).nos m3;have M3:=(c3.no m2).no m3;refine Aa (fun he=>⟨_,JS,?_⟩) (fun he=>⟨_,rfl,_,h3.pv,Jj h3 fun w5 m5=>⟨_,rfl,A.s.geo.no,Xm _,?_⟩⟩)
 ·have e:Oq A.s.geo n=(0,0,false):=by unfold Oq;rw[if_pos (Lc he)]
  rw[e]at hk;obtain⟨w4,y1,y2,y3,y4⟩:=q3.put (T:=101) (vs:=pV (0,0)) AU rfl rfl (GI _);exact⟨w4,y1,_,y2.at.all AU rfl,hk w4 (M3.own y3 (Ld _))⟩
 ·have he:=Lb he;have e:Oq A.s.geo n=(oE A.s.geo n,n % A.s.geo.no,true):=by unfold Oq;rw[if_neg he]
  rw[e]at hk;obtain⟨hg,k1,k2,_⟩:=sQ (g:=A.s.geo) (n:=n) (by omega);obtain⟨_,_,_,_,g5,_⟩:=Av.1 hg;refine⟨_,vF k1 (by omega) h63,_,LU _ _,?_⟩;obtain⟨w6,y1,y2,y3,y4⟩:=(q3.keep m5 id).put (T:=101) (vs:=pV (oE A.s.geo n,n % A.s.geo.no)) AU rfl rfl (GI _);exact⟨w6,y1,_,y2.at.all AU rfl,hk w6 ((M3.no m5).own y3 (Ld _))⟩
def xV(kd:Bool):List Value:=if kd=true then [.func (.func E4) #[] #[],.func (.func ET) #[] #[]]else [.func (.func ES) #[] #[],.func (.func F2) #[] #[]]
def BT(kd:Bool)(g:Gm)(h:Hd)(i:Int)(on:Bool):Hd×Int:=if kd=true then EN g h i on else Iy g h i on
def BG(kd:Bool)(g:Gm)(h:Hd)(f:Int):Int:=if kd=true then FO g h f else Hp g h f
theorem uI(kd:Bool):∀ u∈xV kd,u.oneCell'=true:=by cases kd<;>(intro u hu;simp[xV]at hu;rcases hu with rfl | rfl<;>rfl)
theorem AdQ(kd:Bool):(xV kd).length=2:=by cases kd<;>rfl
theorem KN:Ei Tryz.prog 109=some 2:=by kernel_rfl
theorem Wp:HT Tryz.prog 109=some [.nilFunc,.nilFunc]:=by kernel_rfl
theorem WP(hk:∀ w',Ab No w w'->K (.agg ⟨xV true⟩) w'):A8 Tryz.prog Gw #[] w K:=by
 apply U8;unfold MX;obtain⟨w1,c1,c2,c3,c4⟩:=A9 (P:=Tryz.prog) (w:=w) (T:=109) Wp;obtain⟨w2,y1,y2,y3,y4⟩:=c2.put (T:=109) (vs:=xV true) KN rfl rfl (uI _);exact⟨_,w1,c1,_,fun w=>by kernel_rfl,w2,y1,_,y2.at.all KN rfl,hk w2 (c3.own y3 (Ld _))⟩
theorem ZM(hk:∀ w',Ab No w w'->K (.agg ⟨xV false⟩) w'):A8 Tryz.prog Hy #[] w K:=by
 apply Wx;unfold Pb;obtain⟨w1,c1,c2,c3,c4⟩:=A9 (P:=Tryz.prog) (w:=w) (T:=109) Wp;obtain⟨w2,y1,y2,y3,y4⟩:=c2.put (T:=109) (vs:=xV false) KN rfl rfl (uI _);exact⟨_,w1,c1,_,fun w=>by kernel_rfl,w2,y1,_,y2.at.all KN rfl,hk w2 (c3.own y3 (Ld _))⟩
theorem Ad5{kd:Bool}{g:Gm}{h:Hd}{i:Int}{on:Bool}(hw:Fq h)(hk:∀ w',Ab No w w'->K (.tuple #[.agg ⟨hV (BT kd g h i on).1⟩,.int .i64 (BT kd g h i on).2]) w'){f:Value}(hf:(xV kd)[1]?=some f) :
  WN Tryz.prog f #[.agg ⟨gV g⟩,.agg ⟨hV h⟩,.int .i64 i,.bool on] w K:=by
 cases kd with
 | true=>cases hf;exact⟨_,_,_,rfl,Aa8 hw hk⟩
 | false=>cases hf;exact⟨_,_,_,rfl,Aa9 hw hk⟩
theorem zE{kd:Bool}{g:Gm}{h:Hd}{p:Int}(hw:Fq h)(hk:∀ w',Ab No w w'->K (.int .i64 (BG kd g h p)) w'){f:Value}(hf:(xV kd)[0]?=some f) :
  WN Tryz.prog f #[.agg ⟨gV g⟩,.agg ⟨hV h⟩,.int .i64 p] w K:=by
 cases kd with
 | true=>cases hf;exact⟨_,_,_,rfl,sJ hw hk⟩
 | false=>cases hf;exact⟨_,_,_,rfl,sK hw hk⟩
theorem U7{kd:Bool}{g:Gm}{h:Hd}(hw:Fq h)(i:Int)(on:Bool):Fq (BT kd g h i on).1:=by
 cases kd
 ·exact wP hw i on
 ·exact wN hw i on
theorem AbA{kd:Bool}{g:Gm}{h:Hd}{i:Int}{on:Bool}(hw:Fq h)(e:(BT kd g h i on).2=0):I8 g (BT kd g h i on).1=true/\(BT kd g h i on).1.no=h.no:=by
 cases kd
 ·obtain⟨h1,h2,_⟩:=wO (on:=on) (i:=i) hw e;exact⟨h1,by show(Iy g h i on).1.no=_;rw[h2]⟩
 ·obtain⟨h1,h2,_⟩:=RU (on:=on) (i:=i) hw e;exact⟨h1,by show(EN g h i on).1.no=_;rw[h2]⟩
end
def DY(kd:Bool)(A:Az)(k:Nat)(i:Int)(on:Bool):Az×Int×Int :=
 if (BT kd A.s.geo (A.hs.getD k hZ) i on).2≠0 then(A,0,(BT kd A.s.geo (A.hs.getD k hZ) i on).2)else(BV A k (BT kd A.s.geo (A.hs.getD k hZ) i on).1,(A.V.last:Int)+1,0)
section
variable{w w':World}{R R':Nat->Prop}{a v d:Nat}{A:Az}{K:Value->World->Prop}
theorem vP:DQ Tryz.prog 107=true:=by kernel_rfl
theorem lP:DQ Tryz.prog 106=true:=by kernel_rfl
theorem Ao.hdOf(h:Ao R w a v d A){k:Nat}(hk:(k:Int)<A.s.geo.gs):∃ x,Ue A.s.geo A.hs k=(x,0)/\A.hs.getD k hZ=x/\I8 A.s.geo x=true/\x.no=k/\Fq x:=by
 obtain⟨x,h1,h2,h3,h4,h5⟩:=h.hd.get (k:=(k:Int)) (by omega) hk;obtain⟨p1,_⟩:=KX h.ok hk;have e:A.hs.getD k hZ=x:=by rw[Lj,show A.hs[k]?=some x from h1];rfl
 exact⟨x,by unfold Go.Z.Ue;rw[if_neg (by rw[p1];exact fun e=>e rfl)];exact Pi (·,0) e,e,h3,h4,h5⟩
set_option maxRecDepth 4000 in
theorem iZ{kd:Bool}{k:Nat}{i:Int}{on:Bool}(h:Ao R w a v d A)(hk0:(k:Int)<A.s.geo.gs)(hlast:A.V.last+1<=1000000)
  (hk:∀ w' R',Ab R w w'->Sb R R' w->Ao R' w' a v d (DY kd A k i on).1->K (.tuple #[.int .i64 (DY kd A k i on).2.1,.int .i64 (DY kd A k i on).2.2]) w') :
  A8 Tryz.prog CV #[.pointer (some ⟨a,0,none⟩),.agg ⟨pV (k,i)⟩,.agg ⟨xV kd⟩,.bool on] w K:=by
 obtain⟨x,hx1,hx2,hx3,hx4,hx5⟩:=h.hdOf hk0;obtain⟨f1,hf1⟩:∃ f,(xV kd)[1]?=some f:=by cases kd<;>exact⟨_,rfl⟩
 apply P5;unfold IM;obtain⟨w1,a1,a2,a3,a4⟩:=AC (P:=Tryz.prog) (w:=w) (T:=101) (cs:=pV (k,i));obtain⟨w2,b1,b2,b3,b4⟩:=AC (P:=Tryz.prog) (w:=w1) (T:=109) (cs:=xV kd);have m2:=(a3.no b3).drew;have h2:=h.nos m2;have q1:A1 (Go.Den.Ah w2) w.heap.size 0 (pV (k,i)):=(a2.keep b3 id).drew;have q2:A1 (Go.Den.Ah w2) w1.heap.size 0 (xV kd):=b2.drew;have n1:¬ R w.heap.size:=fun e=>by have:=h.lt _ e;omega
 have n2:¬ R w1.heap.size:=fun e=>by have:=h.lt _ e;omega
 have zd:(Go.Den.Ah w2).heap.size=w2.heap.size:=rfl;have hda:=h.dlt;refine⟨_,w1,a1,_,w2,b1,_,rfl,_,h2.pv,_,q1.at.fld (v:=.int .i64 (k:Int)) Aj rfl,?pA,?pB⟩
 case' pA =>
  refine NP h2 fun w3 R3 m3 s3 h3 _=>?_;rw[hx1];have z3:=m3.size;obtain⟨w4,c1,c2,c3,c4⟩:=A9 (P:=Tryz.prog) (w:=w3) (T:=119) B7;obtain⟨w5,e1,e2,e3,e4⟩:=c2.put (T:=119) (vs:=hV x) Ax rfl (Aw hx5) (Db _);have hn:¬ R3 w3.heap.size:=fun e=>by have:=h3.lt _ e;omega
  have T1:Ab R w w5:=((m2.mono fun _ _ e=>e.elim).trans (m3.no (c3.own e3 (Ld _))) fun x _ e=>e);have T2:Sb R R3 w2:=s3;have T3:Ao R3 w5 a v d A:=(h3.nos c3).own e3 hn (by omega);have q14:=(q1.keep m3 n1).keep c3 id;have T5:A1 w5 w.heap.size 0 (pV (k,i)):=q14.keep e3 (fun e=>by have e:w.heap.size=w3.heap.size:=e;omega);have T6:A1 w5 w1.heap.size 0 (xV kd):=((q2.keep m3 n2).keep c3 id).keep e3 (fun e=>by have e:w1.heap.size=w3.heap.size:=e;omega)
  refine⟨_,_,rfl,_,w4,c1,(h3.nos c3).pv,q14.at.fld Aj rfl,w5,e1,?_⟩;have T7:w2.heap.size<=w3.heap.size/\w3.heap.size<w5.heap.size:=⟨by omega,e2.lt⟩;generalize w3.heap.size=q at *
 case' pB =>
  obtain⟨w4,c1,c2,c3,c4⟩:=A9 (P:=Tryz.prog) (w:=Go.Den.Ah w2) (T:=119) B7;refine⟨_,w4,c1,(h2.nos c3).pv,(q1.keep c3 id).at.fld Aj rfl,NP (h2.nos c3) fun w3 R3 m3 s3 h3 _=>?_⟩;rw[hx1];have z3:=m3.size;have hnR:¬ R w2.heap.size:=fun e=>by have:=h.lt _ e;omega
  obtain⟨w5,e1,e2,e3,e4⟩:=(c2.keep m3 hnR).put (T:=119) (vs:=hV x) Ax rfl (Aw hx5) (Db _);have hn:¬ R3 w2.heap.size:=fun e=>by
   rcases s3 _ e with e|e
   ·exact hnR e
   ·omega
  have T1:Ab R w w5:=(((m2.no c3).mono fun _ _ e=>e.elim).trans m3 fun x _ e=>e).trans e3 fun x hx e=>by have e:x=w2.heap.size:=e;omega
  have T2:Sb R R3 w2:=s3.up (by omega);have T3:Ao R3 w5 a v d A:=h3.own e3 hn (by omega);have T5:A1 w5 w.heap.size 0 (pV (k,i)):=((q1.keep c3 id).keep m3 n1).keep e3 (fun e=>by have e:w.heap.size=w2.heap.size:=e;omega);have T6:A1 w5 w1.heap.size 0 (xV kd):=((q2.keep c3 id).keep m3 n2).keep e3 (fun e=>by have e:w1.heap.size=w2.heap.size:=e;omega);refine⟨_,_,rfl,w5,e1,?_⟩;have T7:w2.heap.size<=w2.heap.size/\w2.heap.size<w5.heap.size:=⟨Ld _,e2.lt⟩
  obtain⟨q,hq⟩:∃ q,q=w2.heap.size:=⟨_,rfl⟩;have e2:A1 w5 q 0 (hV x):=hq ▸ e2;have hn:¬ R3 q:=hq ▸ hn;have T7:w2.heap.size<=q/\q<w5.heap.size:=hq ▸ T7;rw[zd,<- hq]
 all_goals
  have p1:w.heap.size<w2.heap.size/\w1.heap.size<w2.heap.size/\w.heap.size<w1.heap.size:=⟨by have:=b2.lt;omega,b2.lt,by omega⟩;have hz5:=T1.size;have r1:¬ R3 w.heap.size:=fun e=>by
   rcases T2 _ e with e|e
   ·exact n1 e
   ·omega
  have r2:¬ R3 w1.heap.size:=fun e=>by
   rcases T2 _ e with e|e
   ·exact n2 e
   ·omega
  refine Ac.cut (fun z w9=>∃ e h',z=[.int .i64 e]/\Ab R w w9/\Ao R3 w9 a v d A/\A1 w9 q 0 (hV h')/\A1 w9 w.heap.size 0 (pV (k,i))/\e=(BT kd A.s.geo x i on).2/\h'=(BT kd A.s.geo x i on).1) ?_ ?_
  ·refine tt rfl ⟨f1,T6.drew.at.fld vP hf1,_,rfl,_,(T3.nos (Ab.refl _ _).drew).pv,_,e2.drew.at.all Ax (Aw hx5),_,T5.drew.at.fld (v:=.int .i64 i) Aj rfl,Jj (T3.nos (Ab.refl _ _).drew) fun w6 m6=>⟨_,rfl,(T6.keep (S:=No) ((Ab.refl _ _).drew.no m6) id).at.fld vP hf1,(e2.keep (S:=No) ((Ab.refl _ _).drew.no m6) id).at.all Ax (Aw hx5),(T5.keep (S:=No) ((Ab.refl _ _).drew.no m6) id).at.fld (v:=.int .i64 i) Aj rfl,?_⟩⟩
   refine Ad5 hx5 (fun w7 m7=>⟨_,_,rfl,?_⟩) hf1;have M7:Ab No w5 w7:=((Ab.refl No w5).drew.no m6).no m7;obtain⟨w8,y1,y2,y3,y4⟩:=(e2.keep M7 id).put (T:=119) (vs:=hV (BT kd A.s.geo x i on).1) Ax (Aw hx5) (Aw (U7 hx5 i on)) (Db _);exact⟨w8,y1,_,_,rfl,(T1.no M7).trans y3 fun z hz e=>by have e:z=q:=e;omega,(T3.nos M7).own y3 hn (by omega),y2,(T5.keep M7 id).keep y3 (fun e=>by have e:w.heap.size=q:=e;omega),rfl,rfl⟩
  rintro z w9 ⟨e,h',rfl,U1,U2,U3,U4,rfl,rfl⟩;refine⟨_,rfl,?_⟩;rw[Di];have hT:=fun(y:Az×Int×Int)(hy:DY kd A k i on=y)=>hy ▸ hk;unfold DY at hk;rw[hx2]at hk;refine Aa (fun he=>?_) (fun he=>?_)
  ·have he:=Lc he;rw[if_pos he]at hk;exact hk w9 R3 U1 (T2.up (by omega)) U2
  ·have he':=Tw.1 (Lb he);rw[if_neg (Lb he)]at hk;obtain⟨o1,o2⟩:=AbA hx5 he';refine⟨_,rfl,_,(U2.nos (Ab.refl _ _).drew).pv,_,U4.drew.at.fld (v:=.int .i64 (k:Int)) Aj rfl,_,U3.drew.at.all Ax (Aw (U7 hx5 i on)),?_⟩;refine Ac1 (U2.nos (Ab.refl _ _).drew) (by omega) hk0 (U7 hx5 i on) o1 (by rw[o2];exact hx4) hlast fun w10 R10 m10 s10 h10 _=>⟨_,_,rfl,?_⟩
   rw[show((k:Nat):Int).toNat=k by omega]at h10;have hzU:=U1.size;exact hk w10 R10 ((U1.drew).trans m10 fun z hz e=>(T2 z e).resolve_right (by omega)) ((T2.trans s10 (by show w2.heap.size<=w9.heap.size;have:=U3.lt;omega)).up (by omega)) h10
end
theorem Ey:DQ Tryz.prog 22=true:=by kernel_rfl
theorem XV:DQ Tryz.prog 4=true:=by kernel_rfl
section
variable{w w':World}{R R':Nat->Prop}{a v d:Nat}{A:Az}{K:Value->World->Prop}
theorem vK{s p : Int}{t : Bool}{q : Option Addr}(hk : ∀ w', Ab No w w' → w'.heap.size = w.heap.size + 3 → A1 w' w.heap.size 0 [.pointer q] → A1 w' (w.heap.size + 1) 0 (pV (s, p)) → A1 w' (w.heap.size + 2) 0 [.bool t] →
      K (.func (.func Dn) #[] #[.pointer (some ⟨w.heap.size, 0, none⟩), .pointer (some ⟨w.heap.size + 1, 0, none⟩), .pointer (some ⟨w.heap.size + 2, 0, none⟩)]) w') :
    A8 Tryz.prog Ea #[.pointer q, .agg ⟨pV (s, p)⟩, .bool t] w K := by
  apply P0;unfold IK;obtain⟨w1, a1, a2, a3, a4⟩ := ZU (P := Tryz.prog) (w := w) (T := 22) (v := .pointer q) rfl;obtain⟨w2, b1, b2, b3, b4⟩ := AC (P := Tryz.prog) (w := w1) (T := 101) (cs := pV (s, p));obtain⟨w3, c1, c2, c3, c4⟩ := ZU (P := Tryz.prog) (w := w2) (T := 4) (v := .bool t) rfl;rw[a4]at b1 b2 b4;rw[b4]at c1 c2 c4;exact⟨_, w1, a1, _, w2, b1, _, w3, c1, hk w3 ((a3.no b3).no c3) c4 ((a2.keep b3 id).keep c3 id) (b2.keep c3 id) c2⟩
theorem lK{l q3 q4 q5 n:Nat}{s p:Int}{t:Bool}(hn:A.s.geo.gs=n)(hg:CU A.s.geo=true)(hs:0<=s/\s<A.s.geo.gs)(hp:0<=p/\p<=100000)(J:Nat->World->Prop)(E:World->Prop)(hJ0:J 0 w)
  (hcell:∀ i W,J i W->∃ R',Ao R' W a v d A/\A1 W q3 0 [.pointer (some ⟨a,0,none⟩)]/\A1 W q4 0 (pV (s,p))/\A1 W q5 0 [.bool t])
  (hno:∀ i W W',J i W->Ab No W W'->J i W')
  (hfz:∀ i W,i<n->J i W->A.fz (Et A.s.geo s i)=true->J (i+1) W)
  (hst:∀ i W K,i<n->J i W->A.fz (Et A.s.geo s i)=false->(∀ W',J (i+1) W'->K (.bool true) W')->(∀ W',E W'->K (.bool false) W')->Yld Tryz.prog l #[.int .i64 (Et A.s.geo s i:Int),.int .i64 (L9 p t i)] W K)
  (hk:∀ W,J n W\/E W->K (.tuple #[]) W) :
  A8 Tryz.prog Dn (#[.func (.yield l) #[] #[]]++#[.pointer (some ⟨q3,0,none⟩),.pointer (some ⟨q4,0,none⟩),.pointer (some ⟨q5,0,none⟩)]) w K:=by
 refine MS _ _ _ _ w K ?_;unfold H8;obtain⟨R0,h0,c3,c4,c5⟩:=hcell 0 w hJ0;obtain⟨_,_,g3,g4,_⟩:=Av.1 hg;refine⟨_,c3.at.one Ey,_,rfl,_,h0.pv,Jj h0 fun w1 m1=>⟨_,rfl,_,Xl _,?_⟩⟩;refine⟨fun x W=>∃(i:Nat)(y0 y2 y3:Value),x=[y0,.int .i64 i,y2,y3]/\i<=n/\J i W,fun x _=>(n-nI x 1).toNat,⟨0,_,_,_,rfl,Lz5 _,hno 0 _ _ hJ0 m1⟩,?_⟩;rintro x W ⟨i,y0,y2,y3,rfl,hi,hJ⟩
 obtain⟨R1,h1,d3,d4,d5⟩:=hcell i W hJ;refine⟨_,rfl,Aa (fun hb=>?_) (fun hb=>hk W (.inl ?_))⟩
 ·have hb:=Lc hb;have hin:i<n:=by omega
  have hrk:(s+i) % A.s.geo.gs=(Et A.s.geo s i:Int):=by
   unfold Et
   have:=Lp5 (s+i) (show A.s.geo.gs≠0 by omega)
   omega
  refine⟨_,d4.at.fld (v:=.int .i64 s) Aj rfl,(Et A.s.geo s i:Int),?_,?_⟩
  ·rw[Ag (x:=s+i) (by omega) (by omega),<- hrk];exact vF (by omega) (by omega) (by omega)
  refine Ac.cut (fun z W'=>W'=W/\z=[.bool (decide (i=0)&&t)]) ?_ ?_
  ·rw[GO];refine Aa (fun h=>⟨_,d5.at.one XV,rfl,?_⟩) (fun h=>⟨rfl,?_⟩)
   ·have h:=Lc h;rw[Le (by omega),Ws]
   ·have h:=Lb h;rw[Lf (by omega),Ln4]
  rintro z W' ⟨rfl,rfl⟩;refine⟨_,rfl,Ac.cut (fun z W''=>W''=W'/\z=[.int .i64 (L9 p t i)]) (Aa (fun h=>⟨_,d4.at.fld (v:=.int .i64 p) Aj rfl,rfl,?_⟩) (fun h=>⟨rfl,?_⟩)) ?_⟩
  ·simp only[Lp,Lw]at h;rw[Ag (by omega) (by omega)];unfold L9;rw[if_pos h]
  ·have h':¬ (i=0/\t=true):=fun e=>by rw[Le e.1,e.2]at h;cases h
   unfold L9;rw[if_neg h']
  rintro z W'' ⟨rfl,rfl⟩;refine Ac.cut (fun z W'=>(z=[.bool false]/\J (i+1) W')\/(z=[.bool true]/\E W')) ?_ ?_
  ·have h1':=h1;obtain⟨Rv,fm,L,_,k2,k3,k4,_⟩:=h1';have hl:=FR (P:=Tryz.prog) (k:=(Et A.s.geo s i:Int)) AcA k3;rw[k4]at hl;refine⟨_,d3.at.one Ey,_,rfl,_,k2.at.fld AcD rfl,_,hl,Aa (fun h=>⟨_,rfl,.yield l,#[],#[],rfl,rfl,rfl,?_⟩) (fun h=>.inl ⟨rfl,hfz i _ hin hJ (by simpa using h)⟩)⟩;exact hst i _ _ hin hJ (by simpa using h) (fun W' hJ'=>⟨true,rfl,.inl ⟨rfl,hJ'⟩⟩) fun W' hE=>⟨false,rfl,.inr ⟨rfl,hE⟩⟩
  ·rintro z W' (⟨rfl,hJ'⟩|⟨rfl,hE⟩)
   ·refine⟨_,rfl,ff rfl ?_⟩;rw[Ag (x:=(i:Int)+1) (by omega) (by omega)];exact⟨⟨i+1,_,_,_,rfl,by omega,hJ'⟩,by simp[nI,Ap];omega⟩
   ·exact⟨_,rfl,tt rfl (hk W' (.inr hE))⟩
 ·have hb:=Lb hb;have:i=n:=by omega
  rw[<- this];exact hJ
def AX(A:Az):Nat->Int×Int
 | 0=>(0,0)
 | i+1=>if A.fz (i:Int)=true then AX A i else((AX A i).1+(Bd A.s.geo (A.hs.getD i hZ)).1,(AX A i).2+(Bd A.s.geo (A.hs.getD i hZ)).2)
theorem Uv(A:Az):∀ i:Nat,0<=(AX A i).1/\(AX A i).1<=128*i/\0<=(AX A i).2/\(AX A i).2<=64*i
 | 0=>by simp[AX]
 | i+1=>by
  have h:=Uv A i;have hb:=Od (g:=A.s.geo) (h:=A.hs.getD i hZ);unfold AX;split
  ·omega
  ·simp only;omega
theorem Ab.putObj(w:World)(k:Nat)(o:Obj):Ab (fun x=>x=k) w (w.putObj k o):=(Ab.refl (fun x=>x=k) w).put (.inr rfl) o
theorem L0{w:World}{k:Nat}{o o':Obj}(h:w.heap[k]?=some o'):(w.putObj k o).heap[k]?=some o:=AZ (AK h)
theorem dP:HT Tryz.prog 3=some [.int .i64 0]:=by kernel_rfl
set_option maxRecDepth 4000 in
theorem QQ(h:Ao R w a v d A)(hk:∀ w' R',Ab R w w'->Sb R R' w->Ao R' w' a v d A->K (.tuple #[.int .i64 (AX A A.s.geo.gs.toNat).1,.int .i64 (AX A A.s.geo.gs.toNat).2]) w') :
  A8 Tryz.prog BH #[.pointer (some ⟨a,0,none⟩)] w K:=by
 have hg:=h.ok;obtain⟨_,_,g3,g4,_⟩:=Av.1 hg;obtain⟨n,hn⟩:=Wq (show 0<=A.s.geo.gs by omega);rw[hn,Lr]at hk;apply Pw;unfold F9;obtain⟨w1,a1,a2,a3,a4⟩:=ZU (P:=Tryz.prog) (w:=w) (T:=22) (v:=.pointer (some ⟨a,0,none⟩)) rfl;obtain⟨w2,b1,b2,b3,b4⟩:=A9 (P:=Tryz.prog) (w:=w1) (T:=3) dP;obtain⟨w3,c1,c2,c3,c4⟩:=A9 (P:=Tryz.prog) (w:=w2) (T:=3) dP
 obtain⟨w4,e1,e2,e3,e4⟩:=(b2.keep c3 id).put1 (P:=Tryz.prog) (T:=3) (v:=.int .i64 0) Aj rfl;have ne1:¬ w2.heap.size=w1.heap.size:=by have:=b2.lt;omega
 obtain⟨w5,f1,f2,f3,f4⟩:=(c2.keep e3 ne1).put1 (P:=Tryz.prog) (T:=3) (v:=.int .i64 0) Aj rfl;have p4:=e2.keep f3 (fun e=>ne1 e.symm);have s12:=b2.lt;have s23:=c2.lt;have s1:=a2.lt;have p1:A1 w5 w.heap.size 0 [.pointer (some ⟨a,0,none⟩)]:=(((a2.keep b3 id).keep c3 id).keep e3 (fun e=>by have e:w.heap.size=w1.heap.size:=e;omega)).keep f3 (fun e=>by have e:w.heap.size=w2.heap.size:=e;omega);have m3:Ab No w w3:=(a3.no b3).no c3
 have m5:Ab No w w5:=(m3.own e3 (by omega)).own f3 (by omega);have s5:w5.heap.size=w.heap.size+3:=by omega
 have h5:=h.nos m5;refine⟨_,w1,a1,_,w2,b1,_,w3,c1,w4,e1,w5,f1,_,p1.at.one Ey,ff rfl ⟨_,p1.at.one Ey,_,JS,?_⟩⟩;rw[show w1.heap.size=w.heap.size+1 by omega,show w2.heap.size=w.heap.size+2 by omega]at *;refine vK (s:=0) (p:=0) (t:=false) fun w6 m6 s6 x3 x4 x5=>⟨_,rfl,?_⟩;have h6:=h5.nos m6;have M6:Ab No w w6:=m5.no m6;have p16:=p1.keep m6 id;have p46:=p4.keep m6 id;have p56:=f2.keep m6 id
 rw[s5]at x3 x4 x5 |-;intro r0 hs hp hy;obtain⟨hd0,hl0,mW,sW⟩:((w6.alloc (.deferred (some []))).alloc (.loop r0)).heap[w6.heap.size]?=some (.deferred (some []))/\((w6.alloc (.deferred (some []))).alloc (.loop r0)).heap[w6.heap.size+1]?=some (.loop r0)/\Ab No w6 ((w6.alloc (.deferred (some []))).alloc (.loop r0))/\((w6.alloc (.deferred (some []))).alloc (.loop r0)).heap.size=w6.heap.size+2:=by
  refine⟨?_,?_,((Ab.refl No w6).alloc _).alloc _,by simp⟩
  ·rw[Ro (by simp)];exact BC _ _
  ·have:=BC (w6.alloc (.deferred (some []))) (.loop r0)
   rw[World.size_alloc]at this;exact this
 generalize (w6.alloc (.deferred (some []))).alloc (.loop r0)=W2 at *;have hnR:∀ R',Sb R R' W2->∀ q,w.heap.size<=q->q<W2.heap.size->¬ R' q:=fun R' hs q h1 h2 e=>by
  rcases hs q e with e|e
  ·have:=h.lt q e;omega
  ·omega
 have hda:=h.dlt
 refine lK (A:=A) (n:=n) (w:=W2) hn hg (by omega) (by omega) (fun i W=>∃ R',Ao R' W a v d A/\Sb R R' W2/\Ab R w W/\W2.heap.size<=W.heap.size/\A1 W w.heap.size 0 [.pointer (some ⟨a,0,none⟩)]/\A1 W (w.heap.size+1) 0 [.int .i64 (AX A i).1]/\A1 W (w.heap.size+2) 0 [.int .i64 (AX A i).2] /\
   (A1 W (w.heap.size+3) 0 [.pointer (some ⟨a,0,none⟩)]/\A1 W (w.heap.size+3+1) 0 (pV (0,0))/\A1 W (w.heap.size+3+2) 0 [.bool false])/\W.heap[w6.heap.size]?=some (.deferred (some []))/\W.heap[w6.heap.size+1]?=some (.loop r0)) (fun _=>False)
  ⟨R,h6.nos mW,Sb.refl _ _,(M6.no mW).mono (fun _ _ e=>e.elim),Ld _,p16.keep mW id,p46.keep mW id,p56.keep mW id,⟨x3.keep mW id,x4.keep mW id,x5.keep mW id⟩,hd0,hl0⟩
  (fun i W ⟨R',j1,j2,j3,j4,j5,j6,j7,j8,j9,j10⟩=>⟨R',j1,j8.1,j8.2.1,j8.2.2⟩)
  (fun i W W' ⟨R',j1,j2,j3,j4,j5,j6,j7,j8,j9,j10⟩ m=>⟨R',j1.nos m,j2,j3.no m,Up j4 m.size,j5.keep m id,j6.keep m id,j7.keep m id,⟨j8.1.keep m id,j8.2.1.keep m id,j8.2.2.keep m id⟩,m.keep j9 id,m.keep j10 id⟩) ?_ ?_ ?_
 ·rintro i W hi ⟨R',j1,j2,j3,j4,j5,j6,j7,j8⟩ hf;have e:Et A.s.geo 0 i=i:=by
   unfold Et;rw[Int.zero_add,Lg4 (by omega) (by omega)];omega
  rw[e]at hf;have e1:AX A (i+1)=AX A i:=by rw[AX,if_pos hf]
  rw[<- e1]at j6 j7;exact⟨R',j1,j2,j3,j4,j5,j6,j7,j8⟩
 ·rintro i W K' hi ⟨R',j1,j2,j3,j4,j5,j6,j7,⟨j8,j9,j10⟩,j11,j12⟩ hf hT _;have e:Et A.s.geo 0 i=i:=by
   unfold Et;rw[Int.zero_add,Lg4 (by omega) (by omega)];omega
  rw[e]at hf |-;have e1:AX A (i+1)=((AX A i).1+(Bd A.s.geo (A.hs.getD i hZ)).1,(AX A i).2+(Bd A.s.geo (A.hs.getD i hZ)).2):=by rw[AX,if_neg (by rw[hf];decide)]
  refine hy [.int .i64 (i:Int),.int .i64 (L9 0 false i)] W K' rfl j12 ?_;refine⟨_,rfl,j12,?_⟩;have ml:=Ab.putObj W (w6.heap.size+1) (.loop { r0 with state:=.busy });have hlb:=L0 (o:=.loop { r0 with state:=.busy }) j12;have nl:¬ R' (w6.heap.size+1):=hnR R' j2 _ (by omega) (by omega);have k1:=j1.own ml nl (by omega);have zl:=ml.size;generalize W.putObj (w6.heap.size+1) (.loop { r0 with state:=.busy })=W3 at *
  have hi':(i:Int)<A.s.geo.gs:=by omega
  obtain⟨x,hx1,hx2,hx3,hx4,hx5⟩:=k1.hdOf hi';rw[hx2]at e1;have k5:A1 W3 w.heap.size 0 [.pointer (some ⟨a,0,none⟩)]:=j5.keep ml (fun e=>by have e:w.heap.size=w6.heap.size+1:=e;omega);refine⟨_,k5.at.one Ey,_,rfl,_,k1.pv,NP k1 fun w9 R9 m9 s9 k9 _=>?_⟩;rw[hx1];have z9:=m9.size;obtain⟨w10,y1,y2,y3,y4⟩:=A9 (P:=Tryz.prog) (w:=w9) (T:=119) B7;obtain⟨w11,u1,u2,u3,u4⟩:=y2.put (T:=119) (vs:=hV x) Ax rfl (Aw hx5) (Db _)
  have m11:Ab No w9 w11:=y3.own u3 (Ld _);have m11d:=m11.drew;have M11:Ab R' W3 (Go.Den.Ah w11):=m9.no m11d;have k11:=k9.nos m11d;have k5':=k5.keep M11 (hnR R' j2 _ (by omega) (by omega));refine⟨_,_,rfl,_,w10,y1,w11,u1,_,k5'.at.one Ey,_,rfl,_,k11.pv,_,u2.drew.at.all Ax (Aw hx5),Jj k11 fun w12 m12=>⟨_,rfl,(u2.drew.keep m12 id).at.all Ax (Aw hx5),kL hx5 fun w13 m13=>⟨_,_,rfl,?_⟩⟩⟩
  have M13:Ab R' W3 (Go.Den.Ah w13):=(M11.no (m12.no m13)).drew;have k13:=k9.nos (m11d.no ((m12.no m13).drew));have z13:=M13.size;have far:∀ q,w.heap.size<=q->q<W2.heap.size->¬ R' q:=fun q h1 h2=>hnR R' j2 q h1 h2;have nel:∀ q,q<w6.heap.size+1->¬ (fun x=>x=w6.heap.size+1) q:=fun q hq e=>by have e:q=w6.heap.size+1:=e;omega
  have t6:=(j6.keep ml (nel _ (by omega))).keep M13 (far _ (by omega) (by omega));have t7:=(j7.keep ml (nel _ (by omega))).keep M13 (far _ (by omega) (by omega));obtain⟨w14,v1,v2,v3,v4⟩:=t6.put1 (P:=Tryz.prog) (T:=3) (v:=.int .i64 (AX A (i+1)).1) Aj rfl;have t7':=t7.keep v3 (fun e=>by have e:w.heap.size+2=w.heap.size+1:=e;omega);obtain⟨w15,r1,r2,r3,r4⟩:=t7'.put1 (P:=Tryz.prog) (T:=3) (v:=.int .i64 (AX A (i+1)).2) Aj rfl
  have hfb:=Uv A i;have hhb:=Od (g:=A.s.geo) (h:=x);refine⟨_,t6.at.one Aj,_,t7.at.one Aj,w14,?_,t7'.at.one Aj,w15,?_,?_⟩
  ·rw[Ag (by omega) (by omega)];rw[e1]at v1;exact v1
  ·rw[Ag (by omega) (by omega)];rw[e1]at r1;exact r1
  have S9:Sb R R9 W2:=j2.trans s9 (by omega);have n1:¬ R9 (w.heap.size+1):=hnR R9 S9 _ (by omega) (by omega);have n2:¬ R9 (w.heap.size+2):=hnR R9 S9 _ (by omega) (by omega);have n3:¬ R9 (w6.heap.size+1):=hnR R9 S9 _ (by omega) (by omega);have k15:=(k13.own v3 n1 (by omega)).own r3 n2 (by omega)
  -- all other blocks
  have oth:∀ q,w.heap.size<=q->q<w6.heap.size+1->¬ q=w.heap.size+1->¬ q=w.heap.size+2->∀{o},W.heap[q]?=some o->w15.heap[q]?=some o:=fun q h1 h2 h3 h4 o ho=>r3.keep (v3.keep (M13.keep (ml.keep ho (nel q h2)) (far q h1 (by omega))) h3) h4;have othA:∀ q cs,w.heap.size<=q->q<w6.heap.size+1->¬ q=w.heap.size+1->¬ q=w.heap.size+2->A1 W q 0 cs->A1 w15 q 0 cs:=fun q cs h1 h2 h3 h4 ho=>(((ho.keep ml (nel q h2)).keep M13 (far q h1 (by omega))).keep v3 h3).keep r3 h4
  have hl15:w15.heap[w6.heap.size+1]?=some (.loop { r0 with state:=.busy }):=r3.keep (v3.keep (M13.keep hlb (far _ (by omega) (by omega))) (by show ¬ w6.heap.size+1=w.heap.size+1;omega)) (by show ¬ w6.heap.size+1=w.heap.size+2;omega);refine⟨hl15,?_⟩;have er:({ r0 with state:=LoopState.ready,pending:=none }:Loop)=r0:=by cases r0;simp only at hs hp;subst hs;subst hp;rfl
  show K' (.bool true) (w15.putObj (w6.heap.size+1) (.loop { r0 with state:=LoopState.ready,pending:=none }));rw[er];have mf:=Ab.putObj w15 (w6.heap.size+1) (.loop r0);have zf:=mf.size;refine hT _ ⟨R9,k15.own mf n3 (by omega),S9,?_,by omega,(othA _ _ (by omega) (by omega) (by omega) (by omega) j5).keep mf (nel _ (by omega)),(v2.keep r3 (by show ¬ w.heap.size+1=w.heap.size+2;omega)).keep mf (nel _ (by omega)),r2.keep mf (nel _ (by omega)),⟨(othA _ _ (by omega) (by omega) (by omega) (by omega) j8).keep mf (nel _ (by omega)),(othA _ _ (by omega) (by omega) (by omega) (by omega) j9).keep mf (nel _ (by omega)),(othA _ _ (by omega) (by omega) (by omega) (by omega) j10).keep mf (nel _ (by omega))⟩,mf.keep (oth _ (by omega) (by omega) (by omega) (by omega) j11) (nel _ (by omega)),L0 hl15⟩
  have own:∀{b c:World}{q:Nat},Ab R w b->Ab (fun x=>x=q) b c->w.heap.size<=q->Ab R w c:=fun hb hc hq=>hb.trans hc fun z hz e=>by have e:z=_:=e;omega
  have c1:Ab R w W3:=own j3 ml (by omega);have c2:Ab R w (Go.Den.Ah w13):=c1.trans M13 fun z hz e=>(j2 z e).resolve_right (by omega);exact own (own (own c2 v3 (by omega)) r3 (by omega)) mf (by omega)
 ·rintro W (⟨R',j1,j2,j3,j4,j5,j6,j7,⟨j8,j9,j10⟩,j11,j12⟩|e)
  ·refine⟨.ready,none,?_,by simp,?_⟩
   ·have er:({ r0 with state:=LoopState.ready,pending:=none }:Loop)=r0:=by cases r0;simp only at hs hp;subst hs;subst hp;rfl
    rw[er];exact j12
   ·have ml:=Ab.putObj W (w6.heap.size+1) (.loop { r0 with state:=.exhausted,pending:=none });have nl:¬ R' (w6.heap.size+1):=hnR R' j2 _ (by omega) (by omega);have nel:∀ q,q<w6.heap.size+1->¬ (fun x=>x=w6.heap.size+1) q:=fun q hq e=>by have e:q=w6.heap.size+1:=e;omega
    show ∃ n45:Int,_;have k1:=j1.own ml nl (by omega);have k6:=j6.keep ml (nel _ (by omega));have k7:=j7.keep ml (nel _ (by omega));have k11:=ml.keep j11 (nel _ (by omega));have own:∀{b c:World}{q:Nat},Ab R w b->Ab (fun x=>x=q) b c->w.heap.size<=q->Ab R w c:=fun hb hc hq=>hb.trans hc fun z hz e=>by have e:z=_:=e;omega
    have c1:=own j3 ml (by omega);have zl:=ml.size;generalize W.putObj (w6.heap.size+1) (.loop { r0 with state:=.exhausted,pending:=none })=W3 at *;refine⟨_,k6.drew.at.one Aj,_,k7.drew.at.one Aj,k11,?_⟩;have md:=Ab.putObj (Go.Den.Ah W3) w6.heap.size (.deferred none);exact hk _ R' (own c1.drew md (by omega)) (j2.up (by omega)) ((k1.nos (Ab.refl _ _).drew).own md (hnR R' j2 _ (by omega) (by omega)) (by omega))
  ·exact e.elim
end
theorem TJ{g : Gm}{hs : List Hd}{fz : Int → Bool}{find : Hd → Int → Int}{s p : Int}{t : Bool}{i : Nat}{x : Nat × Int}(h : Cw g hs fz find s p t i = some x) : ∀{n : Nat}, i ≤ n → Cw g hs fz find s p t n = some x
  | 0, hn => by have : i = 0 := by omega
                subst this;exact h
  | n + 1, hn => by
    by_cases e : i = n + 1
    · rw[← e];exact h
    · have := TJ h (n := n) (by omega)
      show(match Cw g hs fz find s p t n with | some x => some x | none => GM g hs fz find s p t n) = _;rw[this]
def RN(kd:Bool)(A:Az)(s p:Int)(t:Bool):Az×(Int×Int)×Int×Int :=
 match Cw A.s.geo A.hs A.fz (BG kd A.s.geo) s p t A.s.geo.gs.toNat with
 | some x=>((DY kd A x.1 x.2 true).1,((x.1:Int),x.2),(DY kd A x.1 x.2 true).2.1,(DY kd A x.1 x.2 true).2.2)
 | none=>(A,(0,0),0,26)
theorem xA:HT Tryz.prog 2=some [.int .i64 0]:=by kernel_rfl
theorem jC:HT Tryz.prog 24=some [.int .i64 0]:=by kernel_rfl
theorem RL:DQ Tryz.prog 24=true:=by kernel_rfl
section
variable{w w':World}{R R':Nat->Prop}{a v d:Nat}{A:Az}{K:Value->World->Prop}
set_option maxRecDepth 4000 in
theorem wH{kd t:Bool}{s p:Int}(h:Ao R w a v d A)(hs:0<=s/\s<A.s.geo.gs)(hp:0<=p/\p<=100000)(hlast:A.V.last+1<=1000000)
  (hk:∀ w' R',Ab R w w'->Sb R R' w->Ao R' w' a v d (RN kd A s p t).1->K (.tuple #[.agg ⟨pV (RN kd A s p t).2.1⟩,.int .i64 (RN kd A s p t).2.2.1,.int .i64 (RN kd A s p t).2.2.2]) w') :
  A8 Tryz.prog Ec #[.pointer (some ⟨a,0,none⟩),.agg ⟨pV (s,p)⟩,.bool t,.agg ⟨xV kd⟩] w K:=by
 have hg:=h.ok;obtain⟨_,_,g3,g4,_⟩:=Av.1 hg;obtain⟨n,hn⟩:=Wq (show 0<=A.s.geo.gs by omega);have hnn:A.s.geo.gs.toNat=n:=by omega
 obtain⟨f0,hf0⟩:∃ f,(xV kd)[0]?=some f:=by cases kd<;>exact⟨_,rfl⟩
 apply P4;unfold FA;obtain⟨w1,a1,a2,a3,a4⟩:=ZU (P:=Tryz.prog) (w:=w) (T:=22) (v:=.pointer (some ⟨a,0,none⟩)) rfl;obtain⟨w2,b1,b2,b3,b4⟩:=AC (P:=Tryz.prog) (w:=w1) (T:=101) (cs:=pV (s,p));obtain⟨w3,c1,c2,c3,c4⟩:=AC (P:=Tryz.prog) (w:=w2) (T:=109) (cs:=xV kd);obtain⟨w4,d1,d2,d3,d4⟩:=A9 (P:=Tryz.prog) (w:=w3) (T:=101) Fb;obtain⟨w5,e1,e2,e3,e4⟩:=A9 (P:=Tryz.prog) (w:=w4) (T:=2) xA
 obtain⟨w6,f1,f2,f3,f4⟩:=A9 (P:=Tryz.prog) (w:=w5) (T:=24) jC;have z1:w1.heap.size=w.heap.size+1:=a4;have z2:w2.heap.size=w.heap.size+2:=by omega
 have z3:w3.heap.size=w.heap.size+3:=by omega
 have z4:w4.heap.size=w.heap.size+4:=by omega
 have z5:w5.heap.size=w.heap.size+5:=by omega
 have z6:w6.heap.size=w.heap.size+6:=by omega
 have p1:A1 w6 w.heap.size 0 [.pointer (some ⟨a,0,none⟩)]:=((((a2.keep b3 id).keep c3 id).keep d3 id).keep e3 id).keep f3 id;have p2:A1 w6 (w.heap.size+1) 0 (pV (s,p)):=z1 ▸ (((b2.keep c3 id).keep d3 id).keep e3 id).keep f3 id;have p3:A1 w6 (w.heap.size+2) 0 (xV kd):=z2 ▸ ((c2.keep d3 id).keep e3 id).keep f3 id;have p4:A1 w6 (w.heap.size+3) 0 (pV (0,0)):=z3 ▸ (d2.keep e3 id).keep f3 id;have p5:A1 w6 (w.heap.size+4) 0 [.int .i64 0]:=z4 ▸ e2.keep f3 id
 have p6:A1 w6 (w.heap.size+5) 0 [.int .i64 0]:=z5 ▸ f2;have m6:Ab No w w6:=((((a3.no b3).no c3).no d3).no e3).no f3;have h6:=h.nos m6;rw[z1]at b1;rw[z2]at c1;rw[z3]at d1;rw[z4]at e1;rw[z5]at f1;refine⟨_,w1,a1,_,w2,b1,_,w3,c1,_,w4,d1,_,w5,e1,_,w6,f1,_,p1.at.one Ey,_,p2.at.all AU rfl,?_⟩;refine vK (s:=s) (p:=p) (t:=t) fun w7 m7 s7 x3 x4 x5=>⟨_,rfl,?_⟩;have M7:Ab No w w7:=m6.no m7
 have h7:=h.nos M7;have p1:=p1.keep m7 id;have p3:=p3.keep m7 id;have p4:=p4.keep m7 id;have p5:=p5.keep m7 id;have p6:=p6.keep m7 id;rw[z6]at x3 x4 x5 s7 |-;clear p2 a1 b1 c1 d1 e1 f1 a2 b2 c2 d2 e2 f2 a3 b3 c3 d3 e3 f3 a4 b4 c4 d4 e4 f4 m6 h6;intro r0 hs0 hp0 hy;obtain⟨hd0,hl0,mW,sW⟩:((w7.alloc (.deferred (some []))).alloc (.loop r0)).heap[w7.heap.size]?=some (.deferred (some []))/\((w7.alloc (.deferred (some []))).alloc (.loop r0)).heap[w7.heap.size+1]?=some (.loop r0)/\Ab No w7 ((w7.alloc (.deferred (some []))).alloc (.loop r0))/\((w7.alloc (.deferred (some []))).alloc (.loop r0)).heap.size=w7.heap.size+2:=by
  refine⟨?_,?_,((Ab.refl No w7).alloc _).alloc _,by simp⟩
  ·rw[Ro (by simp)];exact BC _ _
  ·have:=BC (w7.alloc (.deferred (some []))) (.loop r0)
   rw[World.size_alloc]at this;exact this
 generalize (w7.alloc (.deferred (some []))).alloc (.loop r0)=W2 at *;have hnR:∀ R',Sb R R' W2->∀ q,w.heap.size<=q->q<W2.heap.size->¬ R' q:=fun R' hs q h1 h2 e=>by
  rcases hs q e with e|e
  ·have:=h.lt q e;omega
  ·omega
 have hda:=h.dlt;have own:∀{b c:World}{q:Nat},Ab R w b->Ab (fun x=>x=q) b c->w.heap.size<=q->Ab R w c:=fun hb hc hq=>hb.trans hc fun z hz e=>by have e:z=_:=e;omega
 have er:({ r0 with state:=LoopState.ready,pending:=none }:Loop)=r0:=by cases r0;simp only at hs0 hp0;subst hs0;subst hp0;rfl
 have nel:∀ q,q<w7.heap.size+1->¬ (fun x=>x=w7.heap.size+1) q:=fun q hq e=>by have e:q=w7.heap.size+1:=e;omega
 refine lK (A:=A) (n:=n) (w:=W2) hn hg hs hp (fun i W=>Cw A.s.geo A.hs A.fz (BG kd A.s.geo) s p t i=none/\∃ R',Ao R' W a v d A/\Sb R R' W2/\Ab R w W/\W2.heap.size<=W.heap.size/\(A1 W w.heap.size 0 [.pointer (some ⟨a,0,none⟩)]/\A1 W (w.heap.size+2) 0 (xV kd)/\A1 W (w.heap.size+3) 0 (pV (0,0))/\A1 W (w.heap.size+4) 0 [.int .i64 0]/\A1 W (w.heap.size+5) 0 [.int .i64 0]) /\
   (A1 W (w.heap.size+6) 0 [.pointer (some ⟨a,0,none⟩)]/\A1 W (w.heap.size+6+1) 0 (pV (s,p))/\A1 W (w.heap.size+6+2) 0 [.bool t])/\W.heap[w7.heap.size]?=some (.deferred (some []))/\W.heap[w7.heap.size+1]?=some (.loop r0))
  (fun W=>∃ k j,Cw A.s.geo A.hs A.fz (BG kd A.s.geo) s p t n=some (k,j)/\∃ R',Ao R' W a v d (DY kd A k j true).1/\Sb R R' W2/\Ab R w W/\W2.heap.size<=W.heap.size/\A1 W (w.heap.size+3) 0 (pV (k,j))/\A1 W (w.heap.size+4) 0 [.int .i64 (DY kd A k j true).2.1]/\A1 W (w.heap.size+5) 0 [.int .i64 (DY kd A k j true).2.2]/\W.heap[w7.heap.size]?=some (.deferred (some []))/\W.heap[w7.heap.size+1]?=some (.loop { r0 with state:=.done,pending:=some .ret }))
  ⟨rfl,R,h7.nos mW,Sb.refl _ _,(M7.no mW).mono (fun _ _ e=>e.elim),Ld _,⟨p1.keep mW id,p3.keep mW id,p4.keep mW id,p5.keep mW id,p6.keep mW id⟩,⟨x3.keep mW id,x4.keep mW id,x5.keep mW id⟩,hd0,hl0⟩
  (fun i W ⟨_,R',j1,j2,j3,j4,j5,j8,j9,j10⟩=>⟨R',j1,j8.1,j8.2.1,j8.2.2⟩)
  (fun i W W' ⟨j0,R',j1,j2,j3,j4,⟨k1,k2,k3,k4,k5⟩,j8,j9,j10⟩ m=>⟨j0,R',j1.nos m,j2,j3.no m,Up j4 m.size,⟨k1.keep m id,k2.keep m id,k3.keep m id,k4.keep m id,k5.keep m id⟩,⟨j8.1.keep m id,j8.2.1.keep m id,j8.2.2.keep m id⟩,m.keep j9 id,m.keep j10 id⟩) ?_ ?_ ?_
 ·rintro i W hi ⟨j0,jr⟩ hf;refine⟨?_,jr⟩;show(match Cw A.s.geo A.hs A.fz (BG kd A.s.geo) s p t i with|some x=>some x|none=>GM A.s.geo A.hs A.fz (BG kd A.s.geo) s p t i)=none;rw[j0];show GM A.s.geo A.hs A.fz (BG kd A.s.geo) s p t i=none;unfold GM;rw[if_pos hf]
 ·rintro i W K' hi ⟨j0,R',j1,j2,j3,j4,⟨k1,k2,k3,k4,k5⟩,⟨j8,j9,j10⟩,j11,j12⟩ hf hT hF;have hkl:=vJ hg s i;obtain⟨x,hx1,hx2,hx3,hx4,hx5⟩:=j1.hdOf hkl;have hxs:A.hs[Et A.s.geo s i]?=some x:=by
   obtain⟨y,hy1,_⟩:=j1.hd.get (k:=(Et A.s.geo s i:Int)) (by omega) hkl;have hy1:A.hs[Et A.s.geo s i]?=some y:=hy1;rw[Lj,hy1]at hx2;rw[hy1];exact Pi some hx2
  have hto:Cw A.s.geo A.hs A.fz (BG kd A.s.geo) s p t (i+1)=if 0<=BG kd A.s.geo x (L9 p t i)then some (Et A.s.geo s i,BG kd A.s.geo x (L9 p t i))else none:=by
   show(match Cw A.s.geo A.hs A.fz (BG kd A.s.geo) s p t i with | some x=>some x | none=>GM A.s.geo A.hs A.fz (BG kd A.s.geo) s p t i)=_;rw[j0];show GM A.s.geo A.hs A.fz (BG kd A.s.geo) s p t i=_;unfold GM;rw[if_neg (by rw[hf];decide),hxs]
  generalize L9 p t i=fr at *;generalize Et A.s.geo s i=k at *;refine hy [.int .i64 (k:Int),.int .i64 fr] W K' rfl j12 ?_;refine⟨_,rfl,_,rfl,j12,?_⟩;have ml:=Ab.putObj W (w7.heap.size+1) (.loop { r0 with state:=.busy });have hlb:=L0 (o:=.loop { r0 with state:=.busy }) j12;have far:∀ R',Sb R R' W2->∀ q,w.heap.size<=q->q<W2.heap.size->¬ R' q:=hnR;have nl:¬ R' (w7.heap.size+1):=hnR R' j2 _ (by omega) (by omega)
  have t1:=j1.own ml nl (by omega);have zl:=ml.size;have c1:Ab R w _:=own j3 ml (by omega);have y1:=k1.keep ml (nel _ (by omega));have y2:=k2.keep ml (nel _ (by omega));have y3:=k3.keep ml (nel _ (by omega));have y4:=k4.keep ml (nel _ (by omega));have y5:=k5.keep ml (nel _ (by omega));have y8:=j8.keep ml (nel _ (by omega));have y9:=j9.keep ml (nel _ (by omega));have y10:=j10.keep ml (nel _ (by omega))
  have y11:=ml.keep j11 (nel _ (by omega));generalize W.putObj (w7.heap.size+1) (.loop { r0 with state:=.busy })=W3 at *;refine⟨_,y1.at.one Ey,_,rfl,_,t1.pv,NP t1 fun w9 R9 m9 s9 k9 _=>?_⟩;rw[hx1];have z9:=m9.size;have S9:Sb R R9 W2:=j2.trans s9 (by omega);obtain⟨w10,b1,b2,b3,b4⟩:=A9 (P:=Tryz.prog) (w:=w9) (T:=119) B7;obtain⟨w11,u1,u2,u3,u4⟩:=b2.put (T:=119) (vs:=hV x) Ax rfl (Aw hx5) (Db _)
  have m11:Ab No w9 (Go.Den.Ah w11):=(b3.own u3 (Ld _)).drew;have M11:Ab R' W3 (Go.Den.Ah w11):=m9.no m11;have k11:=k9.nos m11;have f1:=y1.keep M11 (hnR R' j2 _ (by omega) (by omega));have f2:=y2.keep M11 (hnR R' j2 _ (by omega) (by omega));refine⟨_,_,rfl,_,w10,b1,w11,u1,ff rfl ⟨f0,f2.at.fld lP hf0,_,f1.at.one Ey,_,rfl,_,k11.pv,_,u2.drew.at.all Ax (Aw hx5),Jj k11 fun w16 m16=>⟨_,rfl,(f2.keep m16 id).at.fld lP hf0,(u2.drew.keep m16 id).at.all Ax (Aw hx5),zE hx5 (fun w17 m17=>⟨_,rfl,?_⟩) hf0⟩⟩⟩
  have M17:Ab R' W3 w17:=(M11.no m16).no m17;have k17:=(k11.nos m16).nos m17;have z17:=M17.size;have C17:Ab R w w17:=c1.trans M17 fun z hz e=>(j2 z e).resolve_right (by omega);have g1:=y1.keep M17 (hnR R' j2 _ (by omega) (by omega));have g2:=y2.keep M17 (hnR R' j2 _ (by omega) (by omega));have g3:=y3.keep M17 (hnR R' j2 _ (by omega) (by omega));have g4:=y4.keep M17 (hnR R' j2 _ (by omega) (by omega))
  have g5:=y5.keep M17 (hnR R' j2 _ (by omega) (by omega));have g8:=y8.keep M17 (hnR R' j2 _ (by omega) (by omega));have g9:=y9.keep M17 (hnR R' j2 _ (by omega) (by omega));have g10:=y10.keep M17 (hnR R' j2 _ (by omega) (by omega));have g11:=M17.keep y11 (hnR R' j2 _ (by omega) (by omega));have gl:=M17.keep hlb (hnR R' j2 _ (by omega) (by omega));refine Aa (fun hb=>?_) (fun hb=>?_)
  ·have hb:=Lc hb;rw[if_pos (by omega)]at hto;have hto:=TJ hto (n:=n) (by omega);refine⟨_,g1.at.one Ey,_,LU _ _,_,g2.at.all KN (AdQ kd),?_⟩;refine iZ k17 hkl hlast fun w18 R18 m18 s18 k18=>⟨_,_,rfl,_,LU _ _,?_⟩;have z18:=m18.size;have S18:Sb R R18 W2:=S9.trans s18 (by omega);have C18:Ab R w w18:=C17.trans m18 fun z hz e=>(S9 z e).resolve_right (by omega)
   have l3:=g3.keep m18 (hnR R9 S9 _ (by omega) (by omega));have l4:=g4.keep m18 (hnR R9 S9 _ (by omega) (by omega));have l5:=g5.keep m18 (hnR R9 S9 _ (by omega) (by omega));have l11:=m18.keep g11 (hnR R9 S9 _ (by omega) (by omega));have ll:=m18.keep gl (hnR R9 S9 _ (by omega) (by omega));obtain⟨w19,v1,v2,v3,v4⟩:=l3.put (T:=101) (vs:=pV ((k:Int),BG kd A.s.geo x fr)) AU rfl rfl (GI _)
   obtain⟨w20,r1,r2,r3,r4⟩:=(l4.keep v3 (by show ¬ w.heap.size+4=w.heap.size+3;omega)).put1 (P:=Tryz.prog) (T:=2) (v:=.int .i64 (DY kd A k (BG kd A.s.geo x fr) true).2.1) BL rfl;obtain⟨w21,o1,o2,o3,o4⟩:=((l5.keep v3 (by show ¬ w.heap.size+5=w.heap.size+3;omega)).keep r3 (by show ¬ w.heap.size+5=w.heap.size+4;omega)).put1 (P:=Tryz.prog) (T:=24) (v:=.int .i64 (DY kd A k (BG kd A.s.geo x fr) true).2.2) RL rfl
   refine⟨w19,v1,w20,r1,w21,o1,?_,?_⟩
   ·exact o3.keep (r3.keep (v3.keep ll (by show ¬ w7.heap.size+1=w.heap.size+3;omega)) (by show ¬ w7.heap.size+1=w.heap.size+4;omega)) (by show ¬ w7.heap.size+1=w.heap.size+5;omega)
   show K' (.bool false) (w21.putObj (w7.heap.size+1) (.loop { r0 with state:=.done,pending:=some .ret }));have hl21:=o3.keep (r3.keep (v3.keep ll (by show ¬ w7.heap.size+1=w.heap.size+3;omega)) (by show ¬ w7.heap.size+1=w.heap.size+4;omega)) (by show ¬ w7.heap.size+1=w.heap.size+5;omega);have mf:=Ab.putObj w21 (w7.heap.size+1) (.loop { r0 with state:=.done,pending:=some .ret });have zf:=mf.size
   have nR:=fun q h1 h2=>hnR R18 S18 q h1 h2;refine hF _ ⟨k,_,hto,R18,(((k18.own v3 (nR _ (by omega) (by omega)) (by omega)).own r3 (nR _ (by omega) (by omega)) (by omega)).own o3 (nR _ (by omega) (by omega)) (by omega)).own mf (nR _ (by omega) (by omega)) (by omega),S18,own (own (own (own C18 v3 (by omega)) r3 (by omega)) o3 (by omega)) mf (by omega),by omega,?_,?_,?_,?_,L0 hl21⟩
   ·exact((v2.keep r3 (by show ¬ w.heap.size+3=w.heap.size+4;omega)).keep o3 (by show ¬ w.heap.size+3=w.heap.size+5;omega)).keep mf (nel _ (by omega))
   ·exact(r2.keep o3 (by show ¬ w.heap.size+4=w.heap.size+5;omega)).keep mf (nel _ (by omega))
   ·exact o2.keep mf (nel _ (by omega))
   ·exact mf.keep (o3.keep (r3.keep (v3.keep l11 (by show ¬ w7.heap.size=w.heap.size+3;omega)) (by show ¬ w7.heap.size=w.heap.size+4;omega)) (by show ¬ w7.heap.size=w.heap.size+5;omega)) (nel _ (by omega))
  ·have hb:=Lb hb;rw[if_neg (by omega)]at hto;refine⟨gl,?_⟩;show K' (.bool true) (w17.putObj (w7.heap.size+1) (.loop { r0 with state:=LoopState.ready,pending:=none }));rw[er];have mf:=Ab.putObj w17 (w7.heap.size+1) (.loop r0);have zf:=mf.size;refine hT _ ⟨hto,R9,k17.own mf (hnR R9 S9 _ (by omega) (by omega)) (by omega),S9,own C17 mf (by omega),by omega,⟨g1.keep mf (nel _ (by omega)),g2.keep mf (nel _ (by omega)),g3.keep mf (nel _ (by omega)),g4.keep mf (nel _ (by omega)),g5.keep mf (nel _ (by omega))⟩,⟨g8.keep mf (nel _ (by omega)),g9.keep mf (nel _ (by omega)),g10.keep mf (nel _ (by omega))⟩,mf.keep g11 (nel _ (by omega)),L0 gl⟩
 ·have tk:=hk;unfold RN at tk;rw[hnn]at tk;rintro W (⟨j0,R',j1,j2,j3,j4,⟨k1,k2,k3,k4,k5⟩,_,j11,j12⟩ | ⟨k,j,j0,R',j1,j2,j3,j4,k3,k4,k5,j11,j12⟩)
  ·refine⟨.ready,none,by rw[er];exact j12,by simp,?_⟩;have ml:=Ab.putObj W (w7.heap.size+1) (.loop { r0 with state:=.exhausted,pending:=none });have t1:=j1.own ml (hnR R' j2 _ (by omega) (by omega)) (by omega);have c1:=own j3 ml (by omega);have zl:=ml.size;have y3:=k3.keep ml (nel _ (by omega));have y4:=k4.keep ml (nel _ (by omega));have y5:=k5.keep ml (nel _ (by omega));have y11:=ml.keep j11 (nel _ (by omega))
   show ∃ g63:Array Value,_;generalize W.putObj (w7.heap.size+1) (.loop { r0 with state:=.exhausted,pending:=none })=W3 at *;obtain⟨w19,v1,v2,v3,v4⟩:=y3.put (T:=101) (vs:=pV (0,0)) AU rfl rfl (GI _);obtain⟨w20,r1,r2,r3,r4⟩:=(y4.keep v3 (by show ¬ w.heap.size+4=w.heap.size+3;omega)).put1 (P:=Tryz.prog) (T:=2) (v:=.int .i64 0) BL rfl;obtain⟨w21,o1,o2,o3,o4⟩:=((y5.keep v3 (by show ¬ w.heap.size+5=w.heap.size+3;omega)).keep r3 (by show ¬ w.heap.size+5=w.heap.size+4;omega)).put1 (P:=Tryz.prog) (T:=24) (v:=.int .i64 26) RL rfl
   have mf:=Ab.putObj w21 w7.heap.size (.deferred none);have nd:∀ q,q<w7.heap.size->¬ (fun x=>x=w7.heap.size) q:=fun q hq e=>by have e:q=w7.heap.size:=e;omega
   refine⟨_,JS,w19,v1,w20,r1,w21,o1,?_,_,(((v2.keep r3 ?_).keep o3 ?_).keep mf (nd _ (by omega))).at.all AU rfl,_,((r2.keep o3 ?_).keep mf (nd _ (by omega))).at.one BL,_,(o2.keep mf (nd _ (by omega))).at.one RL,?_⟩
   ·exact o3.keep (r3.keep (v3.keep y11 (by show ¬ w7.heap.size=w.heap.size+3;omega)) (by show ¬ w7.heap.size=w.heap.size+4;omega)) (by show ¬ w7.heap.size=w.heap.size+5;omega)
   ·show ¬ w.heap.size+3=w.heap.size+4;omega
   ·show ¬ w.heap.size+3=w.heap.size+5;omega
   ·show ¬ w.heap.size+4=w.heap.size+5;omega
   rw[j0]at tk;have nR:=fun q h1 h2=>hnR R' j2 q h1 h2;exact tk _ R' (own (own (own (own c1 v3 (by omega)) r3 (by omega)) o3 (by omega)) mf (by omega)) (j2.up (by omega)) ((((t1.own v3 (nR _ (by omega) (by omega)) (by omega)).own r3 (nR _ (by omega) (by omega)) (by omega)).own o3 (nR _ (by omega) (by omega)) (by omega)).own mf (nR _ (by omega) (by omega)) (by omega))
  ·refine⟨.done,some .ret,j12,by simp,?_⟩;have ml:=Ab.putObj W (w7.heap.size+1) (.loop { r0 with state:=.exhausted,pending:=some .ret });have t1:=j1.own ml (hnR R' j2 _ (by omega) (by omega)) (by omega);have c1:=own j3 ml (by omega);have zl:=ml.size;have y3:=k3.keep ml (nel _ (by omega));have y4:=k4.keep ml (nel _ (by omega));have y5:=k5.keep ml (nel _ (by omega));have y11:=ml.keep j11 (nel _ (by omega))
   show(World.heap _)[_]?=_/\_;generalize W.putObj (w7.heap.size+1) (.loop { r0 with state:=.exhausted,pending:=some .ret })=W3 at *;have mf:=Ab.putObj W3 w7.heap.size (.deferred none);have nd:∀ q,q<w7.heap.size->¬ (fun x=>x=w7.heap.size) q:=fun q hq e=>by have e:q=w7.heap.size:=e;omega
   refine⟨y11,_,(y3.keep mf (nd _ (by omega))).at.all AU rfl,_,(y4.keep mf (nd _ (by omega))).at.one BL,_,(y5.keep mf (nd _ (by omega))).at.one RL,?_⟩;rw[j0]at tk;exact tk _ R' (own c1 mf (by omega)) (j2.up (by omega)) (t1.own mf (hnR R' j2 _ (by omega) (by omega)) (by omega))
end
theorem iU{g:Gm}(hg:CU g=true)(b:Int):0<=(Gn g b).1/\(Gn g b).1<g.gs/\0<=(Gn g b).2.1/\(Gn g b).2.1<128:=by
 obtain⟨_,g2,g3,_⟩:=Av.1 hg;unfold Gn;by_cases h:(Cc g b).1=4
 ·rw[if_neg (by omega)];obtain⟨_,_,_,h3,h4,h5,h6⟩:=Ri h;have ht:=LY (g:=g);have e:(Bc g (Cc g b).2).1=2+(Cc g b).2*g.gr:=by unfold Bc;rw[if_pos hg,if_pos ⟨h3,h4⟩]
  refine⟨h3,h4,?_,?_⟩<;>(simp only;rw[e];omega)
 ·rw[if_pos h];exact⟨xU _,by show(0:Int)<_;omega,xU _,by decide⟩
theorem wA{g:Gm}(hg:CU g=true)(n:Int):0<=(Oq g n).1/\(Oq g n).1<g.gs/\0<=(Oq g n).2.1/\(Oq g n).2.1<128:=by
 obtain⟨_,_,g3,_,g5,g6,_⟩:=Av.1 hg;unfold Oq;by_cases h:oE g n<0
 ·rw[if_pos h];exact⟨xU _,by show(0:Int)<_;omega,xU _,by decide⟩
 ·rw[if_neg h];obtain⟨_,h0,h1,e⟩:=sQ (g:=g) (n:=n) (by omega);have hi:=U5 hg h0 h1;rw[e];exact⟨hi.1,hi.2.1,hi.2.2.1,by show n % g.no<128;omega⟩
section
variable{w w':World}{R R':Nat->Prop}{a v d:Nat}{A:Az}{K:Value->World->Prop}
theorem Ao.hds(h:Ao R w a v d A){k:Nat}{x:Hd}(hx:A.hs[k]?=some x):(k:Int)<A.s.geo.gs/\A.hs.getD k hZ=x/\I8 A.s.geo x=true/\x.no=k/\Fq x:=by
 obtain⟨_,h2,h3,h4⟩:=h.hd.2.2.2 k x hx;exact⟨h.hd.lt hx,by rw[Lj,hx];rfl,h2,h3,h4⟩
theorem nT{kd:Bool}{g:Gm}{h:Hd}{f:Int}(hw:Fq h)(e:0<=BG kd g h f):(BT kd g h (BG kd g h f) true).2=0/\BG kd g h f<128:=by
 cases kd with
 | true =>
  obtain⟨h1,h2⟩:=gD (g:=g) hw e;refine⟨h1,?_⟩;have e:0<=FO g h f:=e;show FO g h f<128;by_cases ho:I8 g h=true
  ·obtain⟨g1,_⟩:=Co.1 ho;obtain⟨_,g2,_⟩:=Av.1 g1;omega
  ·unfold FO at e;rw[if_neg ho]at e;omega
 | false =>
  obtain⟨h1,h2⟩:=gF (g:=g) hw e;refine⟨h1,?_⟩;have e:0<=Hp g h f:=e;show Hp g h f<128;by_cases ho:I8 g h=true
  ·obtain⟨g1,_⟩:=Co.1 ho;obtain⟨_,_,_,_,_,g2,_⟩:=Av.1 g1;omega
  ·unfold Hp at e;rw[if_neg ho]at e;omega
theorem RO(h:Ao R w a v d A){kd t:Bool}{s p:Int}{k:Nat}{j:Int}:∀{n:Nat},Cw A.s.geo A.hs A.fz (BG kd A.s.geo) s p t n=some (k,j)->(k:Int)<A.s.geo.gs/\0<=j/\j<128/\A.fz k=false/\(BT kd A.s.geo (A.hs.getD k hZ) j true).2=0
 | 0,e=>by cases e
 | n+1,e=>by
  have e:(match Cw A.s.geo A.hs A.fz (BG kd A.s.geo) s p t n with | some x=>some x | none=>GM A.s.geo A.hs A.fz (BG kd A.s.geo) s p t n)=some (k,j):=e;cases ht:Cw A.s.geo A.hs A.fz (BG kd A.s.geo) s p t n with
  | some x =>
   rw[ht]at e;have e:x=(k,j):=by simpa using e
   rw[e]at ht;exact RO h ht
  | none =>
   rw[ht]at e;have e:GM A.s.geo A.hs A.fz (BG kd A.s.geo) s p t n=some (k,j):=e;unfold GM at e;by_cases hf:A.fz (Et A.s.geo s n)=true
   ·rw[if_pos hf]at e;cases e
   ·rw[if_neg hf]at e;cases hx:A.hs[Et A.s.geo s n]? with
    | none=>rw[hx]at e;cases e
    | some x =>
     rw[hx]at e;simp only at e;obtain⟨h1,h2,h3,h4,h5⟩:=h.hds hx;by_cases h0:0<=BG kd A.s.geo x (L9 p t n)
     ·rw[if_pos h0]at e;cases e;obtain⟨u1,u2⟩:=nT h5 h0;exact⟨h1,h0,u2,by simpa using hf,by rw[h2];exact u1⟩
     ·rw[if_neg h0]at e;cases e
def Hk(A:Az)(b:Int):Az×Int×Int×Int :=
 match Cw A.s.geo A.hs A.fz (BG true A.s.geo) (Gn A.s.geo b).1 (Gn A.s.geo b).2.1 (Gn A.s.geo b).2.2 A.s.geo.gs.toNat with
 | some x=>(BV A x.1 (BT true A.s.geo (A.hs.getD x.1 hZ) x.2 true).1,2+x.1*A.s.geo.gr+x.2,(A.V.last:Int)+1,0)
 | none=>(A,0,0,26)
def Wb(A:Az)(n:Int):Az×Int×Int×Int :=
 match Cw A.s.geo A.hs A.fz (BG false A.s.geo) (Oq A.s.geo n).1 (Oq A.s.geo n).2.1 (Oq A.s.geo n).2.2 A.s.geo.gs.toNat with
 | some x=>(BV A x.1 (BT false A.s.geo (A.hs.getD x.1 hZ) x.2 true).1,x.1*A.s.geo.no+x.2,(A.V.last:Int)+1,0)
 | none=>(A,0,0,26)
theorem dG(h:Ao R w a v d A)(kd t:Bool)(s p:Int):RN kd A s p t=match Cw A.s.geo A.hs A.fz (BG kd A.s.geo) s p t A.s.geo.gs.toNat with
 | some x=>(BV A x.1 (BT kd A.s.geo (A.hs.getD x.1 hZ) x.2 true).1,((x.1:Int),x.2),(A.V.last:Int)+1,0)
 | none=>(A,(0,0),0,26):=by
 unfold RN;cases ht:Cw A.s.geo A.hs A.fz (BG kd A.s.geo) s p t A.s.geo.gs.toNat with
 | none=>rfl
 | some x =>
  obtain⟨_,_,_,_,e⟩:=RO h (k:=x.1) (j:=x.2) ht;simp only;unfold DY;rw[if_neg (by rw[e];exact fun e=>e rfl)]
theorem UQ{b:Int}(h63:b<=9223372036854775807)(h:Ao R w a v d A)(hlast:A.V.last+1<=1000000)
  (hk:∀ w' R',Ab R w w'->Sb R R' w->Ao R' w' a v d (Hk A b).1->K (.tuple #[.int .i64 (Hk A b).2.1,.int .i64 (Hk A b).2.2.1,.int .i64 (Hk A b).2.2.2]) w') :
  A8 Tryz.prog CD #[.pointer (some ⟨a,0,none⟩),.int .i64 b] w K:=by
 apply O3;unfold Id;have hg:=h.ok;obtain⟨s1,s2,s3,s4⟩:=iU hg b;have hda:=h.dlt;refine ff rfl (Y1 h63 h fun w1 m1=>⟨_,_,rfl,?_⟩);obtain⟨w2,b1,b2,b3,b4⟩:=A9 (P:=Tryz.prog) (w:=w1) (T:=101) Fb;obtain⟨w3,c1,c2,c3,c4⟩:=b2.put (T:=101) (vs:=pV ((Gn A.s.geo b).1,(Gn A.s.geo b).2.1)) AU rfl rfl (GI _);have z1:=m1.size;have M3:Ab No w (Go.Den.Ah w3):=(m1.no (b3.own c3 (Ld _))).drew
 refine⟨_,w2,b1,w3,c1,_,c2.drew.at.all AU rfl,WP fun w4 m4=>⟨_,rfl,(c2.drew.keep m4 id).at.all AU rfl,?_⟩⟩;have M4:=M3.no m4;have q4:=c2.drew.keep m4 id;have zq:=c2.drew.lt;have z4:=m4.size;have hq:w1.heap.size<w4.heap.size:=q4.lt;refine wH (h.nos M4) ⟨s1,s2⟩ ⟨s3,by omega⟩ hlast fun w5 R5 m5 s5 h5=>⟨_,_,_,rfl,?_⟩;have nR:¬ R w1.heap.size:=fun e=>by have:=h.lt _ e;omega
 have nR5:¬ R5 w1.heap.size:=fun e=>by
  rcases s5 _ e with e|e
  ·exact nR e
  ·omega
 have M5:Ab R w w5:=(M4.mono fun _ _ e=>e.elim).trans m5 fun x _ e=>e;have S5:Sb R R5 w:=s5.up (M4.size);have hT:=dG h true (Gn A.s.geo b).2.2 (Gn A.s.geo b).1 (Gn A.s.geo b).2.1;have z5:=m5.size;obtain⟨w6,e1,e2,e3,e4⟩:=(q4.keep m5 nR).put (T:=101) (vs:=pV (RN true A (Gn A.s.geo b).1 (Gn A.s.geo b).2.1 (Gn A.s.geo b).2.2).2.1) AU rfl rfl (GI _);have h6:=h5.own e3 nR5 (by omega)
 have M6:Ab R w w6:=M5.trans e3 fun z hz e=>by have e:z=w1.heap.size:=e;omega
 refine⟨w6,e1,?_⟩;unfold Hk at hk;rw[hT]at h6 e2 |-;cases ht:Cw A.s.geo A.hs A.fz (BG true A.s.geo) (Gn A.s.geo b).1 (Gn A.s.geo b).2.1 (Gn A.s.geo b).2.2 A.s.geo.gs.toNat with
 | none =>
  rw[ht]at hk h6;exact tt rfl (hk w6 R5 M6 S5 h6)
 | some x =>
  rw[ht]at hk h6 e2;obtain⟨i1,i2,i3,_,_⟩:=RO h (k:=x.1) (j:=x.2) ht;obtain⟨p1,p2,p3⟩:=KX hg i1;have hsz:=Uw (g:=A.s.geo);refine ff rfl ⟨_,rfl,_,(h6.nos (Ab.refl _ _).drew).pv,_,e2.drew.at.fld (v:=.int .i64 (x.1:Int)) Aj rfl,Jj (h6.nos (Ab.refl _ _).drew) fun w7 m7=>⟨_,rfl,(e2.drew.keep m7 id).at.fld (v:=.int .i64 (x.1:Int)) Aj rfl,Hq fun w8 m8=>⟨_,_,rfl,_,((e2.drew.keep m7 id).keep m8 id).at.fld (v:=.int .i64 x.2) Aj rfl,?_⟩⟩⟩
  have eg:Bc (BV A x.1 (BT true A.s.geo (A.hs.getD x.1 hZ) x.2 true).1).s.geo x.1=(2+x.1*A.s.geo.gr,0):=p1;rw[eg,Ag (x:=2+(x.1:Int)*A.s.geo.gr+x.2) (by omega) (by omega)];have m68:Ab No w6 w8:=((Ab.refl No w6).drew.no m7).no m8;exact hk w8 R5 (M6.no m68) S5 (h6.nos m68)
theorem yE{n:Int}(h63:n<=9223372036854775807)(h:Ao R w a v d A)(hlast:A.V.last+1<=1000000)
  (hk:∀ w' R',Ab R w w'->Sb R R' w->Ao R' w' a v d (Wb A n).1->K (.tuple #[.int .i64 (Wb A n).2.1,.int .i64 (Wb A n).2.2.1,.int .i64 (Wb A n).2.2.2]) w') :
  A8 Tryz.prog FC #[.pointer (some ⟨a,0,none⟩),.int .i64 n] w K:=by
 apply Py;unfold IJ;have hg:=h.ok;obtain⟨s1,s2,s3,s4⟩:=wA hg n;have hda:=h.dlt;refine ff rfl (rA h63 h fun w1 m1=>⟨_,_,rfl,?_⟩);obtain⟨w2,b1,b2,b3,b4⟩:=A9 (P:=Tryz.prog) (w:=w1) (T:=101) Fb;obtain⟨w3,c1,c2,c3,c4⟩:=b2.put (T:=101) (vs:=pV ((Oq A.s.geo n).1,(Oq A.s.geo n).2.1)) AU rfl rfl (GI _);have z1:=m1.size;have M3:Ab No w (Go.Den.Ah w3):=(m1.no (b3.own c3 (Ld _))).drew
 refine⟨_,w2,b1,w3,c1,_,c2.drew.at.all AU rfl,ZM fun w4 m4=>⟨_,rfl,(c2.drew.keep m4 id).at.all AU rfl,?_⟩⟩;have M4:=M3.no m4;have q4:=c2.drew.keep m4 id;have zq:=c2.drew.lt;have z4:=m4.size;have hq:w1.heap.size<w4.heap.size:=q4.lt;refine wH (h.nos M4) ⟨s1,s2⟩ ⟨s3,by omega⟩ hlast fun w5 R5 m5 s5 h5=>⟨_,_,_,rfl,?_⟩;have nR:¬ R w1.heap.size:=fun e=>by have:=h.lt _ e;omega
 have nR5:¬ R5 w1.heap.size:=fun e=>by
  rcases s5 _ e with e|e
  ·exact nR e
  ·omega
 have M5:Ab R w w5:=(M4.mono fun _ _ e=>e.elim).trans m5 fun x _ e=>e;have S5:Sb R R5 w:=s5.up (M4.size);have hT:=dG h false (Oq A.s.geo n).2.2 (Oq A.s.geo n).1 (Oq A.s.geo n).2.1;have z5:=m5.size;obtain⟨w6,e1,e2,e3,e4⟩:=(q4.keep m5 nR).put (T:=101) (vs:=pV (RN false A (Oq A.s.geo n).1 (Oq A.s.geo n).2.1 (Oq A.s.geo n).2.2).2.1) AU rfl rfl (GI _);have h6:=h5.own e3 nR5 (by omega)
 have M6:Ab R w w6:=M5.trans e3 fun z hz e=>by have e:z=w1.heap.size:=e;omega
 refine⟨w6,e1,?_⟩;unfold Wb at hk;rw[hT]at h6 e2 |-;cases ht:Cw A.s.geo A.hs A.fz (BG false A.s.geo) (Oq A.s.geo n).1 (Oq A.s.geo n).2.1 (Oq A.s.geo n).2.2 A.s.geo.gs.toNat with
 | none =>
  rw[ht]at hk h6;exact tt rfl (hk w6 R5 M6 S5 h6)
 | some x =>
  rw[ht]at hk h6 e2;obtain⟨i1,i2,i3,_,_⟩:=RO h (k:=x.1) (j:=x.2) ht;obtain⟨_,_,g3,g4,g5,g6,_⟩:=Av.1 hg;have hp:=Kb (a:=(x.1:Int)) (b:=A.s.geo.no) (m:=16) (n:=64) (by omega) (by omega) (by omega) (by omega);have q6:=e2.drew;refine ff rfl ⟨_,q6.at.fld (v:=.int .i64 (x.1:Int)) Aj rfl,_,rfl,_,(h6.nos (Ab.refl _ _).drew).pv,_,q6.at.fld (v:=.int .i64 x.2) Aj rfl,Jj (h6.nos (Ab.refl _ _).drew) fun w7 m7=>⟨_,rfl,(q6.keep m7 id).at.fld (v:=.int .i64 (x.1:Int)) Aj rfl,(q6.keep m7 id).at.fld (v:=.int .i64 x.2) Aj rfl,_,Xm _,?_⟩⟩
  have eg:(BV A x.1 (BT false A.s.geo (A.hs.getD x.1 hZ) x.2 true).1).s.geo.no=A.s.geo.no:=rfl;rw[eg,Ag (x:=(x.1:Int)*A.s.geo.no) (by omega) (by omega),Ag (x:=(x.1:Int)*A.s.geo.no+x.2) (by omega) (by omega)];have m68:Ab No w6 w7:=(Ab.refl No w6).drew.no m7;exact hk w7 R5 (M6.no m68) S5 (h6.nos m68)
end
theorem nJ{xs ys:List UInt8}{n:Int}(h:(BR xs ys n).2.2=0):OZ (BR xs ys n).1=true/\AJ (BR xs ys n).1.geo<=n:=by
 have pick:∀(i:Int)(zs:List UInt8)(b:Sp),(OZ b=true/\AJ b.geo<=n)\/b=sZ->(OZ (B6 i zs n b)=true/\AJ (B6 i zs n b).geo<=n)\/B6 i zs n b=sZ:=by
  intro i zs b hb;unfold B6;split
  ·rename_i h;exact .inl ⟨(U6 h.1).1,h.2.2.1⟩
  ·exact hb
 have hb:=pick 1 ys _ (pick 0 xs sZ (.inr rfl));unfold BR at *;by_cases e:Cz xs ys n=sZ
 ·rw[if_pos e]at h;cases h
 ·rw[if_neg e];exact hb.resolve_right e
theorem tZ{D:St}(h:(A7 D).2.2=0):CU (A7 D).1.geo=true/\AJ (A7 D).1.geo<=D.vs.length/\1<=(A7 D).1.gen:=by
 have:=nJ h
 exact⟨(H3.1 this.1).2,this.2,(H3.1 this.1).1.1⟩
theorem tY{D:St}(h:(A7 D).2.2=0)(h2:GV D (A7 D).1.geo=false):Ug D=(sZ,8):=by
 unfold Ug;rw[if_neg (by omega),if_neg (by rw[h2];decide)]
theorem YR{D:St}(h:(A7 D).2.2=0)(h2:GV D (A7 D).1.geo=true):Ug D=((A7 D).1,0):=by
 unfold Ug;rw[if_neg (by omega),if_pos h2]
theorem fU:Al (Instr.build 201 #[]) (.agg ⟨[.slice none 0 0]⟩):=fun w=>by kernel_rfl
theorem nC(s:Sp)(sp wk:Nat):Al (Instr.build 145 #[(0,.agg ⟨sV s⟩),(1,.pointer (some ⟨sp,0,none⟩)),(2,.pointer (some ⟨wk,0,none⟩)),(3,.int .i64 0)]) (.agg ⟨vV s sp wk 0⟩):=fun w=>by kernel_rfl
section
variable{w0 wb w w':World}{R R0:Nat->Prop}{N v d sb mb sc:Nat}{L:List (Int×Value)}{s:Sp}{D:St}{V:Ps}{nx:Int}{K:Value->World->Prop}
theorem jM(h:AF w R d sb mb sc L D)(hs:Fd D){n:Int}(hk:∀ w' a c,Ab No w w'->QK w w' a (HU D n)->(HU D n).length<=c->K (.tuple #[.slice a (HU D n).length c,.int .i64 (AD D n)]) w'):A8 Tryz.prog Cs #[.pointer (some ⟨d,0,none⟩),.int .i64 n] w K:=by
 apply Kr;unfold GX;refine tW h ⟨_,rfl,?_⟩;rcases Ew (D:=D) n with ⟨he,_⟩ | ⟨he,i,v,rfl,hv,hver⟩
 ·have hb:HU D n=[]:=by unfold HU;rw[if_neg (by omega)]
  refine tt (by rw[he];rfl) ?_
  have:=hk w none 0 (Ab.refl _ _) (.inl ⟨rfl,hb⟩) (by rw[hb];exact Ld _)
  rw[hb]at this;exact this
 ·have hb:HU D i=BU v:=by unfold HU;rw[if_pos he,hver]
  have hll:=h.wf.lastLen hv;refine ff (by rw[he];rfl) (gO h hv (hs v (Ly hv)) fun w2 m2=>⟨_,rfl,_,_,Nr w2,_,Ot Hi (by rw[Ak,TV]) (by simp[hll]) (BF _),_,_,_,TI _,?_⟩)
  have:=hk (w2.alloc (.cells ⟨Au (BU v)⟩ 278)) (some ⟨w2.heap.size,0,none⟩) 256 (m2.alloc _) (.inr ⟨w2.heap.size,rfl,m2.size,by rw[hb];exact A1.new⟩) (by rw[hb,hll];exact Ld _)
  rw[hb,hll,he]at this;exact this
theorem AfU(h:Pz w0 R w v d V):∃ R4 sb mb sc L,AF w R4 d sb mb sc L V.C.D/\Fd V.C.D:=by
 obtain⟨C,eD,eM,hw,rl,c,mo,mm,ca,oa,Lo,Lm,h⟩:=h;obtain⟨rl2,m,sb,mb,sc,lc,la,L,mp,hC⟩:=h.cx;have hD:Ps.C (⟨C,V.last,V.ons⟩:Ps)=C:=rfl;have hd:=hC.disk;have hs:=hC.wf.small;rw[hD,eD]at hd hs;exact⟨_,sb,mb,sc,L,hd,hs⟩
theorem Vg.comp{R':Nat->Prop}{w1:World}(h2:∀ x,R' x->R0 x\/wb.heap.size<=x)(hm:Ab R0 wb w1)(k:Vg w1 R' N w' v d s D nx):Vg wb R0 N w' v d s D nx:=by
 obtain⟨R,sp,wk,k,w0,h1,hv,h3,h4,h5,h6,h7,h8,h9⟩:=k;have hz:=hm.size;refine⟨R,sp,wk,k,w0,h1,hv,⟨h3.1,h3.2.1,h3.2.2.1,?_⟩,fun x hx=>⟨?_,(h4 x hx).2⟩,hm.trans h5 fun x hx e=>(h2 x e).resolve_right (by omega),h6,by omega,h8,h9⟩
 ·rcases h3.2.2.2 with e|e
  ·exact h2 v e
  ·exact .inr (by omega)
 ·rcases(h4 x hx).1 with e|e
  ·exact h2 x e
  ·exact .inr (by omega)
theorem Zb(h:WF D)(n:Int):(HU D n).length<=256:=by
 rcases Ew (D:=D) n with ⟨he,_⟩|⟨he,i,v,rfl,hv,hver⟩
 ·unfold HU;rw[if_neg (by omega)];simp
 ·unfold HU;rw[if_pos he,hver,h.lastLen hv];exact Ld _
set_option maxRecDepth 8000 in
theorem wQ(h:AF w R d sb mb sc L D)(hsm:Fd D)(hlo:∀ x,R x->w0.heap.size<=x/\x<w.heap.size)(hm0:Ab No w0 w)(hrun:D.left=-1)
  (hk0:(Ug D).2≠0->∀ w',Ab R w w'->K (.tuple #[.pointer none,.int .i64 (Ug D).2]) w')
  (hk:(Ug D).2=0->∀ w' N v,Vg w R N w' v d (Ug D).1 D (Cv D (Ug D).1.geo (AO (Ug D).1.geo).toNat+1)->K (.tuple #[.pointer (some ⟨v,0,none⟩),.int .i64 0]) w') :
  A8 Tryz.prog Nq #[.pointer (some ⟨d,0,none⟩)] w K:=by
 have hlen:=h.wf.lo;have hhi:=h.wf.hi;have hwf:=h.wf;apply ZB;unfold Tu;refine ZI h ⟨_,rfl,?_⟩;have e1:(if (1:Int) > (D.vs.length:Int)then(1:Int)else(D.vs.length:Int))=(D.vs.length:Int):=by rw[if_neg (by omega)]
 rw[e1];refine AdY h hsm hlo hm0 hrun hlen hhi (Ld _) fun w2 sp m2 P2=>⟨_,_,rfl,ff rfl ?_⟩;obtain⟨R4,sb4,mb4,sc4,L4,hd2,hs2⟩:=AfU P2;refine jM hd2 hs2 (n:=0) fun w3 a3 c3 m3 f3 hc3=>⟨_,_,_,_,rfl,?_⟩;refine jM (hd2.nos m3) hs2 (n:=1) fun w4 a4 c4 m4 f4 hc4=>⟨_,_,_,_,rfl,?_⟩;have M24:Ab No w2 w4:=m3.no m4;refine ZI (hd2.nos M24) ⟨_,rfl,?_⟩;have l3:=Zb hwf 0;have l4:=Zb hwf 1
 refine dC (xs:=HU D 0) (ys:=HU D 1) rfl hc3 (f3.nos m4).row (by show(HU D 0).length<=_;omega) rfl hc4 f4.row (by show(HU D 1).length<=_;omega) fun w6 m6=>⟨_,_,_,rfl,?_⟩;have M26:=M24.no m6;show ∃ q10:Addr,_;obtain⟨w7,b1,b2,b3,b4⟩:=A9 (P:=Tryz.prog) (w:=w6) (T:=143) Js;obtain⟨w8,c1,c2,c3',c4'⟩:=b2.put (T:=143) (vs:=sV (A7 D).1) BB rfl rfl (Ft _);have m8:Ab No w6 w8:=b3.own c3' (Ld _)
 refine⟨_,w7,b1,w8,c1,?_⟩;rw[Di];refine Aa (fun he=>?_) (fun he=>?_)
 ·have he:(A7 D).2.2≠0:=Lc he;have e:Ug D=(sZ,(A7 D).2.2):=by unfold Ug;rw[if_pos he]
  have:=hk0 (by rw[e];exact he) w8 (((m2.no M26).no m8).mono fun _ _ h=>h.elim)
  rw[e]at this;exact this
 have he:(A7 D).2.2=0:=Tw.1 (Lb he);obtain⟨hg,hsz,hgen⟩:=tZ he;have m8d:Ab No w6 (Go.Den.Ah w8):=m8.drew;refine⟨_,c2.drew.at.all BB rfl,?_⟩;apply eY;unfold UK;obtain⟨w9,p1,p2,p3,p4⟩:=AC (P:=Tryz.prog) (w:=Go.Den.Ah w8) (T:=201) (cs:=[.slice none 0 0]);have q9:A1 w9 w6.heap.size 0 (sV (A7 D).1):=c2.drew.keep p3 id;refine⟨_,fU,_,w9,p1,_,rfl,q9.at.all BB rfl,_,nC _ _ _,?_⟩
 obtain⟨w10,v1,v2,v3,v4⟩:=AC (P:=Tryz.prog) (w:=w9) (T:=145) (cs:=vV (A7 D).1 sp (Go.Den.Ah w8).heap.size 0);refine⟨_,w10,v1,?_⟩;have M69:Ab No w6 w9:=m8d.no p3;have M29:Ab No w2 w9:=M26.no M69;have M210:Ab No w2 w10:=M29.no v3;have hz2:=m2.size;have hz6:=M26.size;have hz9:=M29.size;have hz69:=M69.size;have hz0:=hm0.size;have hlt6:=c2.lt;have hz8:w8.heap.size<=w9.heap.size:=p3.size;have hG:∀ x,BJ R w w2 x->x<w2.heap.size:=fun x hx=>by
  rcases hx with hx|hx
  ·have:=(hlo x hx).2;omega
  ·omega
 have X10:Vg w9 (BJ R w w2) w10.heap.size w10 w9.heap.size d (A7 D).1 D 0 :=
  ⟨BJ R w w2,sp,_,_,w0,P2.nos M210,v2,⟨fun e=>by have:=hG _ e;omega,by omega,by omega,.inr (Ld _)⟩,fun x hx=>⟨.inl hx,by have:=hG _ hx;omega⟩,v3.mono fun _ _ h=>h.elim,Ld _,by omega,by omega,p2.keep v3 id,fun e=>by have:=hG _ e;have:(Go.Den.Ah w8).heap.size=w8.heap.size:=rfl;omega,(by have:=p2.lt;omega),(by show _<=w8.heap.size;omega),(by have:=p2.lt;omega),(by show d<=w8.heap.size;have:=(hlo d h.rb).2;omega),(by have:=(hlo d h.rb).2;omega)⟩
 have hq:∀{w':World}{N:Nat}{nx:Int},Vg w9 (BJ R w w2) N w' w9.heap.size d (A7 D).1 D nx->A1 w' w6.heap.size 0 (sV (A7 D).1):=fun X=>q9.keep X.mod fun e=>by have:=hG _ e;omega
 have back:∀ x,BJ R w w2 x->R x\/w.heap.size<=x:=fun x hx=>by
  rcases hx with hx|hx
  ·exact .inl hx
  ·exact .inr hx.1
 have bm:Ab R w w9:=(m2.no M29).mono fun _ _ h=>h.elim;have hno:∀{w':World}{N:Nat}{nx:Int},Vg w9 (BJ R w w2) N w' w9.heap.size d (A7 D).1 D nx->GV D (A7 D).1.geo=false->∀ w'',Ab No w' w''->K (.tuple #[.pointer none,.int .i64 8]) w'':=fun X hf w'' m=>by
  have e:=tY he hf
  have:=hk0 (by rw[e];decide) w'' ((X.comp back bm).mod.no m)
  rw[e]at this;exact this
 obtain⟨g1,g2,g3,g4,g5,g6,g7,g8,g9⟩:=Av.1 hg;refine⟨_,(hq X10).at.fld2 Aj rfl,?_⟩
 refine⟨fun x w11=>∃(k N:Nat)(y:Value),(k:Int)<=(A7 D).1.geo.gs/\x=[.int .i64 k,y]/\Vg w9 (BJ R w w2) N w11 w9.heap.size d (A7 D).1 D 0/\∀ j,j<k->FP D (A7 D).1.geo j=true,fun x _=>((A7 D).1.geo.gs-nI x 0).toNat,
  ⟨0,_,undef,by omega,rfl,X10,fun j hj=>by omega⟩,?_⟩
 rintro x w11 ⟨k,N,y,hk2,rfl,X11,hh⟩;refine⟨_,rfl,Aa (fun hl=>?_) (fun hl=>?_)⟩
 ·have hl:(k:Int)<(A7 D).1.geo.gs:=Lc hl;refine AbB X11 hsz fun w12 X12=>⟨_,_,rfl,?_⟩;obtain⟨w13,s1,s2,s3,s4⟩:=A9 (P:=Tryz.prog) (w:=w12) (T:=119) B7;have hwd:=Xz D (A7 D).1.geo k;obtain⟨w14,t1,t2,t3,t4⟩:=s2.put (T:=119) (vs:=hV (Cn D (A7 D).1.geo k).1) Ax rfl (Aw hwd) (Db _);have m14:Ab No w12 w14:=s3.own t3 (Ld _);refine⟨_,w13,s1,w14,t1,?_⟩
  refine Ac.cut (fun z w15=>z=[.bool (!FP D (A7 D).1.geo k)]/\w15=w14) ?_ ?_
  ·rw[Di];refine Aa (fun hp=>⟨?_,rfl⟩) (fun hp=>⟨_,t2.at.fld (v:=.int .i64 (Cn D (A7 D).1.geo k).1.no) Aj rfl,?_,rfl⟩)
   ·have hp:=Lc hp;have:FP D (A7 D).1.geo k=false:=by unfold FP;rw[Lf fun e=>hp e.1]
    rw[this];rfl
   ·have hp:=Tw.1 (Lb hp);rw[Di]
    congr 2
    unfold FP;by_cases e:(Cn D (A7 D).1.geo k).1.no=k
    ·rw[Lf (fun x=>x e),Le ⟨hp,e⟩];rfl
    ·rw[Le e,Lf fun x=>e x.2];rfl
  rintro z w15 ⟨rfl,rfl⟩;refine⟨_,rfl,Aa (fun hp=>?_) (fun hp=>?_)⟩
  ·refine hno X12 ?_ w15 m14;unfold GV;rw[xP];left;rw[List.all_eq_false];exact⟨k,Ty.2 (by omega),by simpa using hp⟩
  ·have hp:FP D (A7 D).1.geo k=true:=by simpa using hp
   rw[Ag (x:=(k:Int)+1) (by omega) (by omega)]
   exact⟨⟨k+1,_,_,by omega,rfl,X12.nos m14,fun j hj=>by
    by_cases e:j=k
    ·rw[e];exact hp
    ·exact hh j (by omega)⟩,by simp[nI,Ap];omega⟩
 have hl:(k:Int)=(A7 D).1.geo.gs:=by have:=Lb hl;omega
 refine dN (by omega) X11 hsz fun w16 X16=>⟨_,_,rfl,?_⟩;obtain⟨w17,s1,s2,s3,s4⟩:=A9 (P:=Tryz.prog) (w:=w16) (T:=218) DP;have hwd:=LD D (A7 D).1.geo 1;obtain⟨w18,t1,t2,t3,t4⟩:=s2.put (T:=218) (vs:=nV (AV D (A7 D).1.geo 1).1) AS rfl (C4 hwd) (Ht _);have m18:Ab No w16 w18:=s3.own t3 (Ld _);refine⟨_,w17,s1,w18,t1,?_⟩;refine Ac.cut (fun z w19=>z=[.bool (!GK D (A7 D).1.geo)]/\w19=w18) ?_ ?_
 ·rw[Di];refine Aa (fun hp=>⟨?_,rfl⟩) (fun hp=>⟨_,t2.at.fld (v:=.int .i64 (AV D (A7 D).1.geo 1).1.kind) Aj rfl,?_,rfl⟩)
  ·have hp:=Lc hp;have:GK D (A7 D).1.geo=false:=by unfold GK;rw[Lf fun e=>hp e.1]
   rw[this];rfl
  ·have hp:=Tw.1 (Lb hp);rw[Di]
   congr 2
   unfold GK;by_cases e:(AV D (A7 D).1.geo 1).1.kind=2
   ·rw[Lf (fun x=>x e),Le ⟨hp,e⟩];rfl
   ·rw[Le e,Lf fun x=>e x.2];rfl
 rintro z w19 ⟨rfl,rfl⟩;refine⟨_,rfl,Aa (fun hp=>?_) (fun hp=>?_)⟩
 ·refine hno X16 ?_ w19 m18;unfold GV;rw[xP];right;simpa using hp
 have hp:GK D (A7 D).1.geo=true:=by simpa using hp
 have hok:GV D (A7 D).1.geo=true:=by
  unfold GV;rw[hp,Lk5,dR];intro j hj;exact hh j (by have:=Ty.1 hj;omega)
 have eM:=YR he hok;have X19:=X16.nos m18;refine⟨_,(hq X19).at.fldA Aq (by show 4<=4;omega) rfl,PX fun w20 m20=>⟨_,rfl,?_⟩⟩;have hsl:=Rj (g:=(A7 D).1.geo)
 refine⟨fun x w21=>∃ n N:Nat,(n:Int)<=AO (A7 D).1.geo/\x=[.int .i64 n]/\Vg w9 (BJ R w w2) N w21 w9.heap.size d (A7 D).1 D (Cv D (A7 D).1.geo n),fun x _=>(AO (A7 D).1.geo-nI x 0).toNat,
  ⟨0,_,by omega,rfl,X19.nos m20⟩,?_⟩
 rintro x w21 ⟨n,N,hn,rfl,X21⟩;refine⟨_,rfl,Aa (fun hl2=>?_) (fun hl2=>?_)⟩
 ·have hl2:(n:Int)<AO (A7 D).1.geo:=Lc hl2;refine dN (by omega) X21 hsz fun w22 X22=>⟨_,_,rfl,?_⟩;obtain⟨w23,s1,s2,s3,s4⟩:=A9 (P:=Tryz.prog) (w:=w22) (T:=218) DP;have hwd:=LD D (A7 D).1.geo n;obtain⟨w24,t1,t2,t3,t4⟩:=s2.put (T:=218) (vs:=nV (AV D (A7 D).1.geo n).1) AS rfl (C4 hwd) (Ht _);have m24:Ab No w22 w24:=s3.own t3 (Ld _)
  have X24:=(X22.nos m24).nos (Ab.refl No w24).drew;obtain⟨w25,u1,u2⟩:=X24.set (if (AV D (A7 D).1.geo n).1.id > Cv D (A7 D).1.geo n then(AV D (A7 D).1.geo n).1.id else Cv D (A7 D).1.geo n);refine⟨_,w23,s1,w24,t1,_,rfl,_,X24.next,_,t2.drew.at.fld (v:=.int .i64 (AV D (A7 D).1.geo n).1.id) BL rfl,_,rfl,w25,u1,?_⟩;rw[Ag (x:=(n:Int)+1) (by omega) (by omega)];exact⟨⟨n+1,_,by omega,rfl,u2⟩,by simp[nI,Ap];omega⟩
 have hl2:(n:Int)=AO (A7 D).1.geo:=by have:=Lb hl2;omega
 have hnb:=VJ D (A7 D).1.geo n;have hnn:=SK D (A7 D).1.geo n;obtain⟨w26,u1,u2⟩:=X21.set (Cv D (A7 D).1.geo n+1);refine⟨_,rfl,_,X21.next,_,rfl,w26,?_,?_⟩
 ·rw[Ag (by omega) (by omega)];exact u1
 have:=hk (by rw[eM]) w26 N w9.heap.size
 rw[eM]at this;refine this ?_;show Vg w R N w26 w9.heap.size d (A7 D).1 D (Cv D (A7 D).1.geo (AO (A7 D).1.geo).toNat+1);rw[<- hl2,Lr];exact u2.comp back bm
end
section
variable{w0 w w':World}{R:Nat->Prop}{rl:Nat->Nat}{rp r vb vc bc lc:Nat}{hs:List (Nat×Nat)}{ba la:Option Addr}{H:List (Option Addr×Nat)}{S:Rs}{K:Value->World->Prop}
theorem iB(h:ZL w0 R rl w rp r vb vc hs ba bc la lc H S){n:Int}(hk0:¬ (0<=n/\n<S.base.length)->K (.tuple #[.slice none 0 0,.int .i64 3]) w)
  (hk:∀ b:Nat,n=b->b<S.base.length->∀ w' a c,Ab No w w'->Bl w' a (Au (rdR S b fun x=>decide (x.b=b)))->256<=c->K (.tuple #[.slice a 256 c,.int .i64 0]) w') :
  A8 Tryz.prog BP #[.pointer (some ⟨rp,0,none⟩),.int .i64 n] w K:=by
 have hlen:=h.wf.llen;have hlast:=h.wf.last;apply Kv;unfold FZ;refine vL h ⟨_,rfl,Aa (fun hb=>?_) (fun hb=>?_)⟩
 ·exact hk0 (by simp only[TW,xZ]at hb;exact hb)
 have hb:0<=n/\n<S.base.length:=by simp only[Zq,Lw]at hb;exact hb
 obtain⟨b,rfl⟩:=Wq hb.1;have hbl:b<S.base.length:=by omega
 obtain⟨g,hg,hix,hld,hl256⟩:=h.bas hbl;obtain⟨cc,w2,c1,c2,c3,c4⟩:=NV (P:=Tryz.prog) (w:=w) (S:=9) (T:=88) (xs:=S.base[b]) (by kernel_rfl);rw[hl256]at c1 c4;refine⟨_,rfl,_,_,_,h.lb,_,hix,_,hld,_,_,_,w2,c1,?_⟩
 refine⟨fun x w3=>∃(i:Nat)(a:Option Addr)(c:Nat),x=[.slice a 256 c,.int .i64 i]/\i<=S.l.length/\256<=c/\Bl w3 a (Au (AW ((S.base[b]?).getD []) ((S.l.take i).filter fun x=>decide (x.b=b))))/\Ab No w w3/\(∀ q,a=some q->w.heap.size<=q.block),fun x _=>(S.l.length-nI x 1).toNat,
  ⟨0,_,cc,rfl,by omega,c4,by rw[Lk hbl];exact .inr ⟨_,_,rfl,c2.at⟩,c3,fun q hq=>by cases hq;exact Ld _⟩,?_⟩
 rintro x w3 ⟨i,a,c,rfl,hi,hc,hr,hm,hfr⟩;have h3:=h.nos hm;have hz3:=hm.size;refine⟨_,rfl,_,rfl,_,_,_,h3.ll,Aa (fun hb=>?_) (fun hb=>?_)⟩
 ·have hi:i<S.l.length:=by have:=Lc hb;omega
  obtain⟨g,p,hg,hp,hix,hld,hagg,_⟩:=h3.at (Lk hi);have hd:=h.wf.dat _ (Tx hi);refine⟨_,rfl,_,_,_,h3.ll,_,hix,_,hld 1 _ _ (by kernel_rfl) rfl,?_⟩;rw[Ag (x:=(i:Int)+1) (by omega) (by omega)];have ht:=vC (S:=S) (b:=b) (f:=fun x=>decide (x.b=b)) hi;refine Ac.dup (Aa (fun hb=>⟨_,_,_,rfl,_,rfl,_,_,_,h3.ll,_,hix,_,hagg,Ad4 (AaS h.wf hbl) hd.2 hc hr fun w4 a4 c4 m4 o4=>⟨_,_,_,rfl,?_⟩⟩) (fun hb=>?_))
  ·have hb:S.l[i].b=b:=by
    have:(S.l[i].b:Int)=b:=by simpa using hb
    omega
   rw[if_pos (Le hb)]at ht;refine⟨⟨i+1,a4,c4,rfl,by omega,o4.cap.1,by rw[ht];exact o4.rowU.row,hm.no m4,fun q hq=>by have:=(o4.base hq).1;omega⟩,by simp[nI,Ap];omega⟩
  ·have hb:¬ S.l[i].b=b:=fun e=>by rw[e]at hb;simp at hb
   rw[if_neg (by simpa using hb)]at ht;exact⟨⟨i+1,a,c,rfl,by omega,hc,by rw[ht];exact hr,hm,hfr⟩,by simp[nI,Ap];omega⟩
 ·have hi:i=S.l.length:=by have:=Lb hb;omega
  subst hi;refine⟨_,_,_,rfl,hk b rfl hbl w3 a c hm ?_ hc⟩;unfold rdR;rw[xG]at hr;exact hr
end
def rvV(s:Sp)(rp wk:Nat)(nx:Int):List Value:=[.pointer (some ⟨rp,0,none⟩),.pointer (some ⟨wk,0,none⟩),.int .i64 s.gen,.int .i64 s.geo.gr,.int .i64 s.geo.no,.int .i64 s.geo.gs,.int .i64 nx]
theorem Ad0:DQ Tryz.prog 75=true:=by kernel_rfl
theorem ZY:Al (Instr.build 238 #[]) (.agg ⟨[.slice none 0 0]⟩):=fun w=>by kernel_rfl
theorem fS(s:Sp)(rp wk:Nat):Al (Instr.build 78 #[(0,.pointer (some ⟨rp,0,none⟩)),(1,.pointer (some ⟨wk,0,none⟩)),(2,.int .i64 s.gen),(3,.agg ⟨gV s.geo⟩)]) (.agg ⟨rvV s rp wk 0⟩):=fun w=>by kernel_rfl
def Rg(wb w:World)(v:Nat)(s:Sp)(D:St)(nx:Int):Prop :=
 ∃ w0 R rp wk r,Rx w0 R w rp r (VI D)/\A1 w v 0 (rvV s rp wk nx)/\(¬ R v/\w0.heap.size<=v/\wb.heap.size<=v)/\Ab No wb w
theorem gL{D:St}{g:Gm}{k:Int}(h:(Cn D g k).2≠0):(Cn D g k).1=hZ:=by
 unfold Cn at *;split
 ·rfl
 rename_i h1;rw[if_neg h1]at h;unfold HL at *;split
 ·rfl
 rename_i h2;rw[if_neg h2]at h;split
 ·rfl
 rename_i h3;rw[if_neg h3]at h;split
 ·rename_i h4;rw[if_pos h4]at h;exact absurd rfl h
 ·rfl
section
variable{w0 wb w w':World}{R R0:Nat->Prop}{v d vb vc:Nat}{hs:List (Nat×Nat)}{s:Sp}{D:St}{nx:Int}{K:Value->World->Prop}
theorem Rg.nos(h:Rg wb w v s D nx)(m:Ab No w w'):Rg wb w' v s D nx:=by
 obtain⟨w0,R,rp,wk,r,h1,h2,h3,h4⟩:=h;exact⟨w0,R,rp,wk,r,h1.nos m,h2.keep m id,h3,h4.no m⟩
theorem Rg.mod(h:Rg wb w v s D nx):Ab No wb w:=by obtain⟨_,_,_,_,_,_,_,_,h⟩:=h;exact h
theorem Rg.at(h:Rg wb w v s D nx):∃ rp wk,A1 w v 0 (rvV s rp wk nx):=by obtain⟨_,_,rp,wk,_,_,h,_⟩:=h;exact⟨rp,wk,h⟩
theorem Rg.wf(h:Rg wb w v s D nx):WF D:=by obtain⟨_,_,_,_,_,h,_⟩:=h;exact h.wf.2.1
theorem Rg.geo(h:Rg wb w v s D nx):Ru (Instr.loadAt 40 (.pointer (some (Addr.add ⟨v,0,none⟩ 3)))) w (.agg ⟨gV s.geo⟩) w:=by
 obtain⟨rp,wk,h⟩:=h.at;exact h.at.fldA Aq (by show 6<=7;omega) rfl
theorem Rg.gs(h:Rg wb w v s D nx):Ru (Instr.loadAt 3 (.pointer (some (Addr.add (Addr.add ⟨v,0,none⟩ 3) 2)))) w (.int .i64 s.geo.gs) w:=by
 obtain⟨rp,wk,h⟩:=h.at;exact h.at.fld2 Aj rfl
theorem Rg.next(h:Rg wb w v s D nx):Ru (Instr.loadAt 2 (.pointer (some (Addr.add ⟨v,0,none⟩ 6)))) w (.int .i64 nx) w:=by
 obtain⟨rp,wk,h⟩:=h.at;exact h.at.fld BL rfl
theorem Rg.set(h:Rg wb w v s D nx)(n:Int):∃ w',Eh (Instr.storeAt 2 (.pointer (some (Addr.add ⟨v,0,none⟩ 6))) (.int .i64 n)) w w'/\Rg wb w' v s D n/\Ab (fun x=>x=v) w w':=by
 obtain⟨w0,R,rp,wk,r,h1,h2,h3,h4⟩:=h;obtain⟨w',s1,s2,s3,s4⟩:=h2.putF (P:=Tryz.prog) (T:=2) (j:=6) (v:=.int .i64 n) BL (by show 6<7;omega) rfl;refine⟨w',s1,⟨w0,R,rp,wk,r,h1.keep s3 (fun x hx e=>?_) (fun x hx e=>?_),s2,h3,h4.own s3 h3.2.2⟩,s3⟩
 ·have e:x=v:=e;rw[e]at hx;exact h3.1 hx
 ·have e:x=v:=e
  have:=h3.2.1;omega
theorem Rg.rd(h:Rg wb w v s D nx){n:Int}(h0:0<=n)(h1:n<D.vs.length)
  (hk:∀ w' a cc,Ab No w w'->Bl w' a (Au (HU D n))->(HU D n).length=256->256<=cc->K (.tuple #[.slice a 256 cc,.int .i64 0]) w') :
  ∃ p:Option Addr,Ru (Instr.loadAt 75 (.pointer (some (Addr.add ⟨v,0,none⟩ 0)))) w (.pointer p) w/\A8 Tryz.prog BP #[.pointer p,.int .i64 n] w K:=by
 have hwf:=h.wf;obtain⟨w0,R,rp,wk,r,a1,a2,a3,a4⟩:=h;refine⟨_,a2.at.fld Ad0 rfl,?_⟩;obtain⟨b,rfl⟩:=Wq h0;have hb:b<D.vs.length:=by omega
 obtain⟨rl,vb,vc,hs,ba,bc,la,lc,H,a1⟩:=a1;have hbl:(VI D).base.length=D.vs.length:=by simp[VI]
 refine iB a1 (fun hn=>absurd ⟨by omega,by rw[hbl];omega⟩ hn) fun b' hb' hlt w' a cc m hrow hcc=>?_;have:b'=b:=by omega
 subst this;have e1:HU D b'=DC D b':=(RK D hb).2;have e2:rdR (VI D) b' (fun x=>decide (x.b=b'))=DC D b':=by
  unfold rdR VI;simp[AW,hb]
 refine hk w' a cc m ?_ ?_ hcc
 ·rw[e1,<- e2];exact hrow
 ·rw[e1];unfold DC;rw[NK hb];exact hwf.lastLen (Lk hb)
theorem AaR{k:Int}(h:Rg wb w v s D nx)(hsz:AJ s.geo<=D.vs.length)
  (hk:∀ w' x1 x2,x1.oneCell'=true->x2.oneCell'=true->Ab No w w'->K (.tuple #[.agg ⟨[.int .i64 (Cn D s.geo k).1.no,x1,x2]⟩,.int .i64 (Cn D s.geo k).2]) w'):A8 Tryz.prog Cr #[.pointer (some ⟨v,0,none⟩),.int .i64 k] w K:=by
 apply MC;unfold GQ;obtain⟨w1,b1,b2,b3,b4⟩:=A9 (P:=Tryz.prog) (w:=w) (T:=183) Cg;have fin:∀(w':World)(x1 x2:Value)(n e:Int),x1.oneCell'=true->x2.oneCell'=true->Ab No w1 w'->n=(Cn D s.geo k).1.no->e=(Cn D s.geo k).2->∃ w3:World,Eh (Instr.storeAt 183 (.pointer (some ⟨w.heap.size,0,none⟩)) (.agg ⟨[.int .i64 n,x1,x2]⟩)) w' w3/\∃ gR2:Array Value,Ru (Instr.loadAt 183 (.pointer (some ⟨w.heap.size,0,none⟩))) w3 (.agg gR2) w3/\K (.tuple #[.agg gR2,.int .i64 e]) w3:=fun w' x1 x2 n e o1 o2 m hn he=>by
  obtain⟨w3,c1,c2,c3,c4⟩:=(b2.keep m id).put (T:=183) (vs:=[.int .i64 n,x1,x2]) Bs rfl rfl (by intro v hv;simp at hv;rcases hv with rfl|rfl|rfl<;>first|rfl|assumption);refine⟨w3,c1,_,c2.at.all Bs rfl,?_⟩
  have:=hk w3 x1 x2 o1 o2 ((b3.no m).own c3 (Ld _))
  rw[<- hn,<- he]at this;exact this
 have h1:=h.nos b3;refine⟨_,w1,b1,_,rfl,_,h1.geo,cN fun w2 m2=>⟨_,_,rfl,?_⟩⟩;have h2:=h1.nos m2;rw[Di];refine Aa (fun he=>⟨_,G8,?_⟩) (fun he=>?_)
 ·have he:=Lc he;have e:Cn D s.geo k=(hZ,(Bc s.geo k).2):=by unfold Cn;rw[if_pos he]
  exact fin w2 _ _ 0 _ rfl rfl m2 (by rw[e];rfl) (by rw[e])
 have he:=Tw.1 (Lb he);have hin:=Rh (g:=s.geo) (k:=k) (b:=(Bc s.geo k).1) (by rw[<- he]);have eA:Cn D s.geo k=HL s.geo (HU D (Bc s.geo k).1):=by unfold Cn;rw[if_neg (by rw[he];decide)]
 refine⟨_,rfl,?_⟩;refine h2.rd hin.1 (by omega) fun w4 a cc m4 hrow hl hcc=>⟨_,_,_,_,rfl,_,rfl,_,(h2.nos m4).geo,?_⟩;have M4:=m2.no m4;refine AaV hl hcc hrow (by omega) (fun h0 w5 m5=>⟨_,_,rfl,?_⟩) (fun h0 w5 b e b' e' m5 r1 r2=>⟨_,_,rfl,?_⟩)
 ·refine fin w5 _ _ 0 _ rfl rfl (M4.no m5) ?_ (by rw[eA]);rw[gL (by rw[eA];exact h0)];rfl
 ·exact fin w5 _ _ _ 0 rfl rfl (M4.no m5) (by rw[eA]) (by rw[eA,h0])
theorem uY{k:Int}(h63:k<=9223372036854775807)(h:Rg wb w v s D nx)(hsz:AJ s.geo<=D.vs.length)
  (hk:∀ w',Ab No w w'->K (.tuple #[.agg ⟨nV (AV D s.geo k).1⟩,.int .i64 (AV D s.geo k).2]) w'):A8 Tryz.prog BY #[.pointer (some ⟨v,0,none⟩),.int .i64 k] w K:=by
 apply LJ;unfold Gu;obtain⟨w1,b1,b2,b3,b4⟩:=A9 (P:=Tryz.prog) (w:=w) (T:=218) DP;have fin:∀(w':World)(i:Nd)(e:Int),Ab No w1 w'->(i,e)=AV D s.geo k->∃ w3:World,Eh (Instr.storeAt 218 (.pointer (some ⟨w.heap.size,0,none⟩)) (.agg ⟨nV i⟩)) w' w3/\∃ gR2:Array Value,Ru (Instr.loadAt 218 (.pointer (some ⟨w.heap.size,0,none⟩))) w3 (.agg gR2) w3/\K (.tuple #[.agg gR2,.int .i64 e]) w3:=fun w' i e m he=>by
  have hw:Ui i:=by have:=LD D s.geo k;rw[<- he]at this;exact this
  obtain⟨w3,c1,c2,c3,c4⟩:=(b2.keep m id).put (T:=218) (vs:=nV i) AS rfl (C4 hw) (Ht _);refine⟨w3,c1,_,c2.at.all AS (C4 hw),?_⟩
  have:=hk w3 ((b3.no m).own c3 (Ld _))
  rw[<- he]at this;exact this
 have h1:=h.nos b3;refine⟨_,w1,b1,_,rfl,_,h1.geo,pE h63 fun w2 m2=>⟨_,_,_,rfl,?_⟩⟩;have h2:=h1.nos m2;rw[Di];refine Aa (fun he=>⟨_,CY,?_⟩) (fun he=>?_)
 ·have he:=Lc he;exact fin w2 nZ _ m2 (by unfold AV;rw[if_pos he])
 have he:=Tw.1 (Lb he);have hin:=bA (g:=s.geo) (s:=k) (b:=(B9 s.geo k).1) (p:=(B9 s.geo k).2.1) (by rw[<- he]);refine⟨_,rfl,?_⟩;refine h2.rd (by omega) (by omega) fun w4 a cc m4 hrow hl hcc=>⟨_,_,_,_,rfl,?_⟩;refine iF hl hcc hrow (by omega) fun w5 m5=>⟨_,_,rfl,?_⟩;exact fin w5 _ _ ((m2.no m4).no m5) (by unfold AV;rw[if_neg (by rw[he];decide)])
theorem VS(h:BA w R d vb vc hs D)(hsm:Fd D){n:Int}(hk:∀ w' a c,Ab No w w'->QK w w' a (HU D n)->(HU D n).length<=c->K (.tuple #[.slice a (HU D n).length c,.int .i64 (AD D n)]) w'):A8 Tryz.prog B3 #[.pointer (some ⟨d,0,none⟩),.int .i64 n] w K:=by
 apply Gq;unfold DZ;refine Zk h ⟨_,rfl,?_⟩;rcases Ew (D:=D) n with ⟨he,_⟩ | ⟨he,i,v,rfl,hv,hver⟩
 ·have hb:HU D n=[]:=by unfold HU;rw[if_neg (by omega)]
  refine tt (by rw[he];rfl) ?_
  have:=hk w none 0 (Ab.refl _ _) (.inl ⟨rfl,hb⟩) (by rw[hb];exact Ld _)
  rw[hb,he]at this;exact this
 ·have hb:HU D i=BU v:=by unfold HU;rw[if_pos he,hver]
  have hvne:=(h.wf.ver v (Ly hv)).1;have hvp:=Lr4.2 hvne;have hvl:=hsm v (Ly hv);obtain⟨q,c,hl,hc,hat,_⟩:=rrow h hv;refine ff (by rw[he];rfl) ⟨_,rfl,_,_,_,rv h,_,Oe (Lh.1 hv).1,_,_,_,hl,?_⟩;rw[Ag (x:=(v.length:Int)-1) (by omega) (by omega),show(v.length:Int)-1=((v.length-1:Nat):Int) by omega];refine⟨_,YK (by omega),_,We hat (V9 hvne),?_⟩
  obtain⟨c2,w2,h2,at2,m2,hc2⟩:=NV (P:=Tryz.prog) (w:=w) (S:=9) (T:=88) (xs:=BU v) (by kernel_rfl);refine⟨_,_,_,w2,h2,?_⟩
  have:=hk w2 (some ⟨w.heap.size,0,none⟩) c2 m2 (.inr ⟨_,rfl,Ld _,by rw[hb];exact at2⟩) (by rw[hb];exact hc2)
  rw[hb,he]at this;exact this
end
section
variable{w0 wb w w':World}{R R0:Nat->Prop}{v d vb vc:Nat}{hs:List (Nat×Nat)}{s:Sp}{D:St}{nx:Int}{K:Value->World->Prop}
theorem sS{g:Gm}(h:CU g=true):4<=AO g:=by
 obtain⟨g1,g2,g3,g4,g5,g6,g7,g8,g9⟩:=Av.1 h;unfold AO;rw[if_pos h]
 have:=Lj6 (show(1:Int)<=g.gs by omega) (show(4:Int)<=g.no by omega) (by decide) (by omega)
 omega
set_option maxRecDepth 8000 in
theorem uZ(h : BA w R d vb vc hs D)(hsm : Fd D)(hlo : ∀ x, R x → w0.heap.size ≤ x ∧ x < w.heap.size)(hm0 : Ab No w0 w)
    (hk0 : (Ug D).2 ≠ 0 → ∀ w', Ab No w w' → K (.tuple #[.pointer none, .int .i64 (Ug D).2]) w')
    (hk : (Ug D).2 = 0 → ∀ w' v, Rg w w' v (Ug D).1 D (Cv D (Ug D).1.geo (AO (Ug D).1.geo).toNat + 1) → K (.tuple #[.pointer (some ⟨v, 0, none⟩), .int .i64 0]) w') :
    A8 Tryz.prog FK #[.pointer (some ⟨d, 0, none⟩)] w K := by
  have hwf := h.wf;have hhi := hwf.hi;apply PJ;unfold Ja;refine VS h hsm (n := 0) fun w1 a1 c1 m1 f1 hc1 => ⟨_, _, _, _, rfl, ?_⟩;refine VS (h.nos m1) hsm (n := 1) fun w2 a2 c2 m2 f2 hc2 => ⟨_, _, _, _, rfl, _, rfl, ?_⟩;have M2 := m1.no m2;refine⟨_, _, _, rv (h.nos M2), ?_⟩;have l1 := Zb hwf 0;have l2 := Zb hwf 1;refine iJ (xs := HU D 0) (ys := HU D 1) rfl hc1 (f1.nos m2).row (by show(HU D 0).length ≤ _;omega) rfl hc2 f2.row (by show(HU D 1).length ≤ _;omega) fun w3 m3 => ⟨_, _, _, rfl, ?_⟩
  have M3 := M2.no m3;show ∃ q8 : Addr, _;obtain⟨w4, b1, b2, b3, b4⟩ := A9 (P := Tryz.prog) (w := w3) (T := 232) IG;obtain⟨w5, e1, e2, e3, e4⟩ := b2.put (T := 232) (vs := sV (A7 D).1) CX rfl rfl (Ft _);have m5 : Ab No w3 w5 := b3.own e3 (Ld _);have M5 := M3.no m5;refine⟨_, w4, b1, w5, e1, ?_⟩;rw[Di];refine Aa (fun he => ?_) (fun he => ?_)
  · have he : (A7 D).2.2 ≠ 0 := Lc he
    have e : Ug D = (sZ, (A7 D).2.2) := by unfold Ug;rw[if_pos he]
    have := hk0 (by rw[e];exact he) w5 M5
    rw[e]at this;exact this
  have he : (A7 D).2.2 = 0 := Tw.1 (Lb he);obtain⟨hg, hsz, hgen⟩ := tZ he;obtain⟨g1, g2, g3, g4, g5, g6, g7, g8, g9⟩ := Av.1 hg;have hno : ∀{w' : World}, Ab No w w' → GV D (A7 D).1.geo = false → K (.tuple #[.pointer none, .int .i64 8]) w' := fun {w'} m hf => by
    have e := tY he hf
    have := hk0 (by rw[e];decide) w' m
    rw[e]at this;exact this
  have tail : ∀(w7 : World)(rp wq : Nat)(R' : Nat → Prop), Rx w0 R' w7 rp d (VI D) → Ab No w w7 →
      ∃ g51 : Array Value, Al (Instr.build 78 #[(0, .pointer (some ⟨rp, 0, none⟩)), (1, .pointer (some ⟨wq, 0, none⟩)), (2, .int .i64 (A7 D).1.gen), (3, .agg ⟨gV (A7 D).1.geo⟩)]) (.agg g51) ∧ ∃ q52 : Addr, ∃ w8 : World, Ru (Instr.box 78 (.agg g51)) w7 (.pointer (some q52)) w8 ∧ A6 (fun k x w9 =>
       ∃ n12 : Int, Ap x 0 = .int .i64 n12 ∧ ∃ q55 : Addr, (.pointer (some q52) : Value) = .pointer (some q55) ∧ ∃ n58 : Int, Ru (Instr.loadAt 3 (.pointer (some (Addr.add (Addr.add q55 3) 2)))) w9 (.int .i64 n58) w9 ∧ (bif decide (n12 < n58)then
       A8 Tryz.prog Cr #[.pointer (some q52), .int .i64 n12] w9 fun r65 w10 => ∃ g65a : Array Value, ∃ n65b : Int, r65 = .tuple #[.agg g65a, .int .i64 n65b] ∧ ∃ q13 : Addr, ∃ w11 : World, Ru (Instr.alloc 183 true (.tuple #[])) w10 (.pointer (some q13)) w11 ∧ ∃ w12 : World, Eh (Instr.storeAt 183 (.pointer (some q13)) (.agg g65a)) w11 w12 ∧ Ac (fun k_2 => (bif n65b != 0 then k_2 [.bool true] w12 else ∃ n72 : Int, Ru (Instr.loadAt 3 (.pointer (some (Addr.add q13 0)))) w12 (.int .i64 n72) w12 ∧ k_2 [.bool (n72 != n12)] w12)) fun x_2 w13 =>
       ∃ b75 : Bool, Ap x_2 0 = .bool b75 ∧ (bif b75 then
       K (.tuple #[.pointer none, .int .i64 8]) w13
       else
       k [.int .i64 (IntKind.i64.wrap (n12 + 1)), .bool b75] w13)
       else
       A6 (fun k_3 x_3 w14 =>
       ∃ n15 : Int, Ap x_3 0 = .int .i64 n15 ∧ ∃ q78 : Addr, (.pointer (some q52) : Value) = .pointer (some q78) ∧ ∃ g80 : Array Value, Ru (Instr.loadAt 40 (.pointer (some (Addr.add q78 3)))) w14 (.agg g80) w14 ∧ A8 Tryz.prog Ct #[.agg g80] w14 fun r81 w15 => ∃ n81 : Int, r81 = .int .i64 n81 ∧ (bif decide (n15 < n81)then
       A8 Tryz.prog BY #[.pointer (some q52), .int .i64 n15] w15 fun r88 w16 => ∃ g88a : Array Value, ∃ n88b : Int, r88 = .tuple #[.agg g88a, .int .i64 n88b] ∧ ∃ q16 : Addr, ∃ w17 : World, Ru (Instr.alloc 218 true (.tuple #[])) w16 (.pointer (some q16)) w17 ∧ ∃ w18 : World, Eh (Instr.storeAt 218 (.pointer (some q16)) (.agg g88a)) w17 w18 ∧ Ac (fun k_4 => (bif n88b == 0 then ∃ n95 : Int, Ru (Instr.loadAt 2 (.pointer (some (Addr.add q16 3)))) (Ah w18) (.int .i64 n95) (Ah w18) ∧ ∃ q97 : Addr, (.pointer (some q52) : Value) = .pointer (some q97) ∧ ∃ n99 : Int, Ru (Instr.loadAt 2 (.pointer (some (Addr.add q97 6)))) (Ah w18) (.int .i64 n99) (Ah w18) ∧ k_4 [.bool (decide (n95 > n99))] (Ah w18)else k_4 [.bool false] (Ah w18))) fun x_4 w19 =>
       ∃ b101 : Bool, Ap x_4 0 = .bool b101 ∧ Ac (fun k_5 => (bif b101 then
       ∃ n104 : Int, Ru (Instr.loadAt 2 (.pointer (some (Addr.add q16 3)))) w19 (.int .i64 n104) w19 ∧ ∃ q105 : Addr, (.pointer (some q52) : Value) = .pointer (some q105) ∧ ∃ w20 : World, Eh (Instr.storeAt 2 (.pointer (some (Addr.add q105 6))) (.int .i64 n104)) w19 w20 ∧ k_5 [] w20
       else
       k_5 [] w19)) fun x_5 w21 =>
       Ac (fun k_6 => (bif n15 == 1 then(bif n88b != 0 then k_6 [.bool true] w21 else ∃ n114 : Int, Ru (Instr.loadAt 3 (.pointer (some (Addr.add q16 0)))) w21 (.int .i64 n114) w21 ∧ k_6 [.bool (n114 != 2)] w21)else k_6 [.bool false] w21)) fun x_6 w22 =>
       ∃ b117 : Bool, Ap x_6 0 = .bool b117 ∧ (bif b117 then
       K (.tuple #[.pointer none, .int .i64 8]) w22
       else
       k_3 [.int .i64 (IntKind.i64.wrap (n15 + 1)), .bool b101, .bool b117] w22)
       else
       ∃ q119 : Addr, (.pointer (some q52) : Value) = .pointer (some q119) ∧ ∃ n121 : Int, Ru (Instr.loadAt 2 (.pointer (some (Addr.add q119 6)))) w15 (.int .i64 n121) w15 ∧ ∃ q123 : Addr, (.pointer (some q52) : Value) = .pointer (some q123) ∧ ∃ w23 : World, Eh (Instr.storeAt 2 (.pointer (some (Addr.add q123 6))) (.int .i64 (IntKind.i64.wrap (n121 + 1)))) w15 w23 ∧ K (.tuple #[.pointer (some q52), .int .i64 0]) w23)) [.int .i64 0, undef, undef] w9)) [.int .i64 0, undef] w8 := by
    intro w7 rp wq R' hx M7;have hxw := hx.wf;obtain⟨w8, v1, v2, v3, v4⟩ := AC (P := Tryz.prog) (w := w7) (T := 78) (cs := rvV (A7 D).1 rp wq 0);have hz0 := hm0.size;have hz7 := M7.size;have X8 : Rg w w8 w7.heap.size (A7 D).1 D 0 := ⟨w0, R', rp, wq, d, hx.nos v3, v2, ⟨fun e => by have := hxw.2.2.2 _ e;omega, by omega, hz7⟩, M7.no v3⟩;refine⟨_, fS _ _ _, _, w8, v1, ?_⟩
    refine⟨fun x w11 => ∃(k : Nat)(y : Value), (k : Int) ≤ (A7 D).1.geo.gs ∧ x = [.int .i64 k, y] ∧ Rg w w11 w7.heap.size (A7 D).1 D 0 ∧ ∀ j, j < k → FP D (A7 D).1.geo j = true, fun x _ => ((A7 D).1.geo.gs - nI x 0).toNat,
      ⟨0, undef, by omega, rfl, X8, fun j hj => by omega⟩, ?_⟩
    rintro x w11 ⟨k, y, hk2, rfl, X11, hh⟩;refine⟨_, rfl, _, rfl, _, X11.gs, Aa (fun hl => ?_) (fun hl => ?_)⟩
    · have hl : (k : Int) < (A7 D).1.geo.gs := Lc hl
      refine AaR X11 hsz fun w12 x1 x2 o1 o2 m12 => ⟨_, _, rfl, ?_⟩;have X12 := X11.nos m12;obtain⟨w13, s1, s2, s3, s4⟩ := A9 (P := Tryz.prog) (w := w12) (T := 183) Cg;obtain⟨w14, t1, t2, t3, t4⟩ := s2.put (T := 183) (vs := [.int .i64 (Cn D (A7 D).1.geo k).1.no, x1, x2]) Bs rfl rfl (by intro v hv;simp at hv;rcases hv with rfl | rfl | rfl<;>first | rfl | assumption)
      have m14 : Ab No w12 w14 := s3.own t3 (Ld _);refine⟨_, w13, s1, w14, t1, ?_⟩;refine Ac.cut (fun z w15 => z = [.bool (!FP D (A7 D).1.geo k)] ∧ w15 = w14) ?_ ?_
      · rw[Di]
        refine Aa (fun hp => ⟨?_, rfl⟩) (fun hp => ⟨_, t2.at.fld (v := .int .i64 (Cn D (A7 D).1.geo k).1.no) Aj rfl, ?_, rfl⟩)
        · have hp := Lc hp
          have : FP D (A7 D).1.geo k = false := by unfold FP;rw[Lf fun e => hp e.1]
          rw[this];rfl
        · have hp := Tw.1 (Lb hp)
          rw[Di]
          congr 2
          unfold FP;by_cases e : (Cn D (A7 D).1.geo k).1.no = k
          · rw[Lf (fun x => x e), Le ⟨hp, e⟩];rfl
          · rw[Le e, Lf fun x => e x.2];rfl
      rintro z w15 ⟨rfl, rfl⟩;refine⟨_, rfl, Aa (fun hp => ?_) (fun hp => ?_)⟩
      · refine hno (X12.nos m14).mod ?_
        unfold GV;rw[xP];left;rw[List.all_eq_false];exact⟨k, Ty.2 (by omega), by simpa using hp⟩
      · have hp : FP D (A7 D).1.geo k = true := by simpa using hp
        rw[Ag (x := (k : Int) + 1) (by omega) (by omega)]
        exact⟨⟨k + 1, _, by omega, rfl, X12.nos m14, fun j hj => by
          by_cases e : j = k
          · rw[e];exact hp
          · exact hh j (by omega)⟩, by simp[nI, Ap];omega⟩
    have hl : (k : Int) = (A7 D).1.geo.gs := by have := Lb hl;omega
    have hsl := Rj (g := (A7 D).1.geo);have hs4 := sS hg
    refine⟨fun x w14 => ∃(n : Nat)(y1 y2 : Value), (n : Int) ≤ AO (A7 D).1.geo ∧ x = [.int .i64 n, y1, y2] ∧ Rg w w14 w7.heap.size (A7 D).1 D (Cv D (A7 D).1.geo n) ∧ (1 < n → GK D (A7 D).1.geo = true), fun x _ => (AO (A7 D).1.geo - nI x 0).toNat,
      ⟨0, undef, undef, by omega, rfl, X11, fun e => by omega⟩, ?_⟩
    rintro x w14 ⟨n, y1, y2, hn, rfl, X14, hr⟩;refine⟨_, rfl, _, rfl, _, X14.geo, XP fun w15 m15 => ⟨_, rfl, ?_⟩⟩;have X15 := X14.nos m15;have hnb := VJ D (A7 D).1.geo n;have hnn := SK D (A7 D).1.geo n;refine Aa (fun hl2 => ?_) (fun hl2 => ?_)
    · have hl2 : (n : Int) < AO (A7 D).1.geo := Lc hl2
      refine uY (by omega) X15 hsz fun w16 m16 => ⟨_, _, rfl, ?_⟩;have X16 := X15.nos m16;obtain⟨w17, s1, s2, s3, s4⟩ := A9 (P := Tryz.prog) (w := w16) (T := 218) DP;have hwd := LD D (A7 D).1.geo n;obtain⟨w18, t1, t2, t3, t4⟩ := s2.put (T := 218) (vs := nV (AV D (A7 D).1.geo n).1) AS rfl (C4 hwd) (Ht _);have m18 : Ab No w16 w18 := s3.own t3 (Ld _)
      have X18 := (X16.nos m18).nos (Ab.refl No w18).drew;refine⟨_, w17, s1, w18, t1, ?_⟩;have hid : (decide ((AV D (A7 D).1.geo n).1.id > Cv D (A7 D).1.geo n) = true → (AV D (A7 D).1.geo n).2 = 0) := fun e => by
        have e := Lc e;refine Tw.1 fun hb => ?_;rw[iR hb]at e;have e : (0 : Int) > Cv D (A7 D).1.geo n := e;omega
      refine Ac.cut (fun z w19 => z = [.bool (decide ((AV D (A7 D).1.geo n).1.id > Cv D (A7 D).1.geo n))] ∧ w19 = Go.Den.Ah w18) ?_ ?_
      · rw[GO]
        refine Aa (fun hp => ⟨_, t2.drew.at.fld (v := .int .i64 (AV D (A7 D).1.geo n).1.id) BL rfl, _, rfl, _, X18.next, rfl, rfl⟩) (fun hp => ⟨?_, rfl⟩);have hp := Lb hp;cases e : decide ((AV D (A7 D).1.geo n).1.id > Cv D (A7 D).1.geo n)with
        | false => rfl
        | true => exact absurd (hid e) hp
      rintro z w19 ⟨rfl, rfl⟩;refine⟨_, rfl, ?_⟩;refine Ac.cut (fun z w21 => Rg w w21 w7.heap.size (A7 D).1 D (Cv D (A7 D).1.geo (n + 1)) ∧ A1 w21 w16.heap.size 0 (nV (AV D (A7 D).1.geo n).1)) (Aa (fun hp => ?_) (fun hp => ?_)) ?_
      · obtain⟨w20, u1, u2, u3⟩ := X18.set (AV D (A7 D).1.geo n).1.id
        refine⟨_, t2.drew.at.fld (v := .int .i64 (AV D (A7 D).1.geo n).1.id) BL rfl, _, rfl, w20, u1, ?_, t2.drew.keep u3 fun e => ?_⟩
        · have e : Cv D (A7 D).1.geo (n + 1) = (AV D (A7 D).1.geo n).1.id := by unfold Cv;rw[if_pos (Lc hp)]
          rw[e];exact u2
        · have e : w16.heap.size = w7.heap.size := e
          obtain⟨rp', wk', h'⟩ := X16.at
          have := h'.lt
          omega
      · refine⟨?_, t2.drew⟩
        have e : Cv D (A7 D).1.geo (n + 1) = Cv D (A7 D).1.geo n := by rw[Cv];rw[if_neg (Lb hp)]
        rw[e];exact X18
      rintro z w21 ⟨X21, t21⟩;refine Ac.cut (fun z w22 => z = [.bool (decide (n = 1) && !GK D (A7 D).1.geo)] ∧ w22 = w21) ?_ ?_
      · rw[GO]
        refine Aa (fun hp => ?_) (fun hp => ⟨?_, rfl⟩)
        · have hp : n = 1 := by have := Lc hp;omega
          subst hp;rw[Di];refine Aa (fun hp => ⟨?_, rfl⟩) (fun hp => ⟨_, t21.at.fld (v := .int .i64 (AV D (A7 D).1.geo (1 : Nat)).1.kind) Aj rfl, ?_, rfl⟩)
          · have hp := Lc hp
            have : GK D (A7 D).1.geo = false := by unfold GK;rw[Lf fun e => hp e.1]
            rw[this];rfl
          · have hp := Tw.1 (Lb hp)
            have e0 : GK D (A7 D).1.geo = decide ((AV D (A7 D).1.geo (1 : Nat)).1.kind = 2) := by
              unfold GK;by_cases e : (AV D (A7 D).1.geo (1 : Nat)).1.kind = 2
              · rw[Le e];exact Le ⟨hp, e⟩
              · rw[Lf e];exact Lf fun x => e x.2
            rw[Di, e0, Le (rfl : (1 : Nat) = 1), Ws]
            congr 2
            exact Lj5
        · have hp : ¬ n = 1 := by have := Lb hp;omega
          rw[Lf hp];rfl
      rintro z w22 ⟨rfl, rfl⟩;refine⟨_, rfl, Aa (fun hp => ?_) (fun hp => ?_)⟩
      · refine hno X21.mod ?_
        unfold GV;rw[xP];right;rw[Lp]at hp;simpa using hp.2
      · rw[Ag (x := (n : Int) + 1) (by omega) (by omega)]
        refine⟨⟨n + 1, _, _, by omega, rfl, X21, fun e => ?_⟩, by simp[nI, Ap];omega⟩;by_cases e1 : n = 1
        · rw[Le e1, Ws]at hp
          simpa using hp
        · exact hr (by omega)
    have hl2 : (n : Int) = AO (A7 D).1.geo := by have := Lb hl2;omega
    have hok : GV D (A7 D).1.geo = true := by
      unfold GV;rw[hr (by omega), Lk5, dR];intro j hj;exact hh j (by have := Ty.1 hj;omega)
    have eM := YR he hok;obtain⟨w23, u1, u2, u3⟩ := X15.set (Cv D (A7 D).1.geo n + 1);refine⟨_, rfl, _, X15.next, _, rfl, w23, ?_, ?_⟩
    · rw[Ag (by omega) (by omega)];exact u1
    have := hk (by rw[eM]) w23 w7.heap.size
    rw[eM]at this;refine this ?_;show Rg w w23 w7.heap.size (A7 D).1 D (Cv D (A7 D).1.geo (AO (A7 D).1.geo).toNat + 1);rw[← hl2, Lr];exact u2
  have md : Ab No w (Go.Den.Ah w5) := M5.drew;have lg : ∀{w' : World}, Ab No (Go.Den.Ah w5) w' → Ru (Instr.loadAt 2 (.pointer (some (Addr.add ⟨w3.heap.size, 0, none⟩ 0)))) w' (.int .i64 (A7 D).1.gen) w' := fun m => (e2.drew.keep m id).at.fld BL rfl;have lG : ∀{w' : World}, Ab No (Go.Den.Ah w5) w' → Ru (Instr.loadAt 40 (.pointer (some (Addr.add ⟨w3.heap.size, 0, none⟩ 1)))) w' (.agg ⟨gV (A7 D).1.geo⟩) w' := fun m => (e2.drew.keep m id).at.fldA Aq (by show 4 ≤ 4;omega) rfl
  have hlo' : ∀{w' : World}, Ab No w w' → ∀ x, R x → w0.heap.size ≤ x ∧ x < w'.heap.size := fun m x hx => by
    have := hlo x hx;have := m.size;omega
  refine⟨_, ZY, _, lg (Ab.refl _ _), _, lG (Ab.refl _ _), ?_, ?_⟩
  · refine XL (h.nos md) hsm (hlo' md) (hm0.no md) fun w6 rp m6 X6 => ⟨_, rfl, lg m6, lG m6, ?_⟩
    obtain⟨w7, p1, p2, p3, p4⟩ := AC (P := Tryz.prog) (w := w6) (T := 238) (cs := [.slice none 0 0]);exact⟨_, w7, p1, lg (m6.no p3), lG (m6.no p3), tail w7 rp _ _ (X6.nos p3) ((md.no m6).no p3)⟩
  · obtain⟨w7, p1, p2, p3, p4⟩ := AC (P := Tryz.prog) (w := Go.Den.Ah w5) (T := 238) (cs := [.slice none 0 0])
    have M7 := md.no p3;refine⟨_, w7, p1, lg p3, lG p3, ?_⟩;refine XL (h.nos M7) hsm (hlo' M7) (hm0.no M7) fun w8 rp m8 X8 => ⟨_, rfl, lg (p3.no m8), lG (p3.no m8), ?_⟩;exact tail w8 rp _ _ X8 (M7.no m8)
end
def CM:Gm:=⟨16,8,2⟩
def dZ:St:=DJ (Bp 34) CM
theorem zS:GK dZ CM=true:=by decide +kernel
theorem zR:(List.range 2).all (FP dZ CM)=true:=by decide +kernel
theorem AdP:(A7 dZ).2.2=0/\(A7 dZ).1.gen=1/\(A7 dZ).1.geo=CM:=by decide +kernel
theorem AdO:Ug dZ=(⟨1,CM⟩,0):=by
 obtain⟨h1,h2,h3⟩:=AdP;have e:(A7 dZ).1=⟨1,CM⟩:=by
  cases hs:(A7 dZ).1 with
  | mk a b =>
   rw[hs]at h2 h3;cases h2;cases h3;rfl
 have hok:GV dZ (A7 dZ).1.geo=true:=by
  rw[h3];unfold GV;rw[zS,Lk5];exact zR
 rw[YR h1 hok,e]
def C5(A:Az)(b:Int):Bool:=(Gn A.s.geo b).2.2&&AN (A.hs.getD (Gn A.s.geo b).1.toNat hZ).bs (Gn A.s.geo b).2.1.toNat
theorem ZV(w:World)(p:Option Addr)(m:Option Nat):(Instr.build 99 #[(0,.pointer p),(1,.map m)]).run Tryz.prog w=.ok (.agg ⟨[.pointer p,.map m]⟩) w:=by kernel_rfl
section
variable{w wb w':World}{R R0 R':Nat->Prop}{N a v d:Nat}{A:Az}{s:Sp}{D:St}{V:Ps}{W:List Wt}{nx:Int}{hs:List Hd}{K:Value->World->Prop}
theorem Vg.vu(h:Vg wb R0 N w v d s D nx):∃ R k,Vu R w v d s ⟨⟨D,k,[]⟩,0,[]⟩ [] nx/\∀ z,R z->R0 z\/wb.heap.size<=z\/d<=z:=by
 obtain⟨R1,sp,wk,k,w0,h1,h2,h3,h4,h5,h6,h7,h8,c1,c2,c3,c4,c5,c6,c7⟩:=h;have z2:=h2.lt;refine⟨fun z=>R1 z\/z=wk\/z=v,k,⟨w0,R1,fun z=>z=wk,sp,wk,⟨h1,h2,⟨none,0,⟨c1,Ow.nilG JV,(fun _ e=>by cases e),fun e=>e.2 rfl⟩⟩,fun z hz e=>c2 (e ▸ hz),⟨h3.1,fun e=>c3 e.symm⟩,fun z hz=>?_⟩,fun z hz=>hz,fun z hz=>?_⟩,fun z hz=>?_⟩
 ·rcases hz with rfl|rfl
  ·exact⟨c6,by omega⟩
  ·exact⟨c7,z2⟩
 ·rcases hz with hz|rfl|rfl
  ·have:=(h4 z hz).2;omega
  ·omega
  ·exact z2
 ·rcases hz with hz|rfl|rfl
  ·exact(h4 z hz).1.imp id .inl
  ·exact .inr (.inr c6)
  ·exact .inr (.inr c7)
theorem Ac0(h:Vu R w v d s V W nx)(hH:CJ V s.geo hs)(hk:∀ w' R' a,Ab No w w'->Sb R R' w->Ao R' w' a v d ⟨s,V,W,nx,hs,fun _=>false⟩->w.heap.size<=a->K (.pointer (some ⟨a,0,none⟩)) w') :
  A8 Tryz.prog Ng #[.pointer (some ⟨v,0,none⟩)] w K:=by
 apply Zu;unfold Tb;have hdl:=h.dlo;have hvl:=h.lt v h.rv;have m1:Ab No w (w.alloc (.map #[] 0)):=(Ab.refl No w).alloc _;have p1:Bj (w.alloc (.map #[] 0)) w.heap.size []:=Bj.new;have s1:(w.alloc (.map #[] 0)).heap.size=w.heap.size+1:=by simp
 refine ff rfl ⟨_,_,Gi,_,fun w=>ZV w _ _,?_⟩;generalize w.alloc (.map #[] 0)=w1 at *;obtain⟨w2,c1,c2,c3,c4⟩:=AC (P:=Tryz.prog) (w:=w1) (T:=99) (cs:=[.pointer (some ⟨v,0,none⟩),.map (some w.heap.size)]);refine⟨_,w2,c1,hk w2 (fun z=>R z\/z=w1.heap.size\/z=w.heap.size) _ (m1.no c3) (fun z hz=>?_) ⟨R,w.heap.size,[],h.nos (m1.no c3),c2,p1.keep c3 id,fun k=>rfl,⟨fun e=>?_,fun e=>?_,by omega,by omega,by omega⟩,fun z hz=>hz,fun z hz=>?_,hH⟩ (by omega)⟩
 ·rcases hz with hz|rfl|rfl
  ·exact .inl hz
  ·exact .inr (by omega)
  ·exact .inr (Ld _)
 ·have:=h.lt _ e;omega
 ·have:=h.lt _ e;omega
 ·rcases hz with hz|rfl|rfl
  ·have:=h.lt _ hz;omega
  ·omega
  ·omega
theorem US(h:Ao R w a v d A)(hk:K (.pointer (some ⟨v,0,none⟩)) w):A8 Tryz.prog Bt #[.pointer (some ⟨a,0,none⟩)] w K:=by
 apply Qj;unfold Jx;exact ff rfl ⟨_,rfl,_,h.pv,hk⟩
set_option maxRecDepth 4000 in
theorem KK{b:Int}(h63:b<=9223372036854775807)(h:Ao R w a v d A)(hk:∀ w' R',Ab R w w'->Sb R R' w->Ao R' w' a v d A->K (.bool (C5 A b)) w') :
  A8 Tryz.prog AR #[.pointer (some ⟨a,0,none⟩),.int .i64 b] w K:=by
 have hg:=h.ok;obtain⟨s1,s2,s3,s4⟩:=iU hg b;obtain⟨k,hkk⟩:=Wq s1;obtain⟨j,hj⟩:=Wq s3;have hk0:(k:Int)<A.s.geo.gs:=by omega
 have j128:j<128:=by omega
 obtain⟨x,hx1,hx2,hx3,hx4,hx5⟩:=h.hdOf hk0;have hT:C5 A b=((Gn A.s.geo b).2.2&&AN x.bs j):=by unfold C5;rw[hkk,hj,Lr,Lr,hx2]
 rw[hT]at hk;apply O4;unfold Ie;have hda:=h.dlt;refine ff rfl (Y1 h63 h fun w1 m1=>⟨_,_,rfl,?_⟩);rw[hkk,hj]at *;generalize (Gn A.s.geo b).2.2=t at *;obtain⟨w2,b1,b2,b3,b4⟩:=A9 (P:=Tryz.prog) (w:=w1) (T:=101) Fb;obtain⟨w3,c1,c2,c3,c4⟩:=b2.put (T:=101) (vs:=pV ((k:Int),(j:Int))) AU rfl rfl (GI _);have z1:=m1.size;have m3:Ab No w (Go.Den.Ah w3):=(m1.no (b3.own c3 (Ld _))).drew
 have h3:=h.nos m3;have q1:A1 (Go.Den.Ah w3) w1.heap.size 0 (pV ((k:Int),(j:Int))):=c2.drew;have zq:=q1.lt;have z3:=m3.size;have n1:¬ R w1.heap.size:=fun e=>by have:=h.lt _ e;omega
 refine⟨_,w2,b1,w3,c1,_,rfl,_,h3.pv,_,q1.at.fld (v:=.int .i64 (k:Int)) Aj rfl,?pA,?pB⟩
 case' pA =>
  refine NP h3 fun w4 R3 m4 s4 h4 _=>?_;rw[hx1];have z4:=m4.size;obtain⟨w5,d1,d2,d3,d4⟩:=A9 (P:=Tryz.prog) (w:=w4) (T:=119) B7;obtain⟨w6,e1,e2,e3,e4⟩:=d2.put (T:=119) (vs:=hV x) Ax rfl (Aw hx5) (Db _);have T1:Ab R w w6:=(m3.mono fun _ _ e=>e.elim).trans (m4.no (d3.own e3 (Ld _))) fun x _ e=>e;have T2:Sb R R3 w:=s4.up z3;have T3:Ao R3 w6 a v d A:=h4.nos (d3.own e3 (Ld _))
  have q14:=(q1.keep m4 n1).keep d3 id;have T5:A1 w6 w1.heap.size 0 (pV ((k:Int),(j:Int))):=q14.keep e3 (fun e=>by have e:w1.heap.size=w4.heap.size:=e;omega);refine⟨_,_,rfl,_,w5,d1,(h4.nos d3).pv,q14.at.fld (v:=.int .i64 (k:Int)) Aj rfl,w6,e1,?_⟩;generalize w4.heap.size=q at *
 case' pB =>
  obtain⟨w5,d1,d2,d3,d4⟩:=A9 (P:=Tryz.prog) (w:=Go.Den.Ah w3) (T:=119) B7;refine⟨_,w5,d1,(h3.nos d3).pv,(q1.keep d3 id).at.fld (v:=.int .i64 (k:Int)) Aj rfl,NP (h3.nos d3) fun w4 R3 m4 s4 h4 _=>?_⟩;rw[hx1];have z4:=m4.size;have nq:¬ R (Go.Den.Ah w3).heap.size:=fun e=>by have:=h.lt _ e;omega
  have nq3:¬ R3 (Go.Den.Ah w3).heap.size:=fun e=>by
   rcases s4 _ e with e|e
   ·exact nq e
   ·omega
  obtain⟨w6,e1,e2,e3,e4⟩:=(d2.keep m4 nq).put (T:=119) (vs:=hV x) Ax rfl (Aw hx5) (Db _);have T1:Ab R w w6:=(((m3.no d3).mono fun _ _ e=>e.elim).trans m4 fun x _ e=>e).trans e3 fun x hx e=>by have e:x=(Go.Den.Ah w3).heap.size:=e;omega
  have T2:Sb R R3 w:=s4.up (by omega);have T3:Ao R3 w6 a v d A:=h4.own e3 nq3 (by omega);have T5:A1 w6 w1.heap.size 0 (pV ((k:Int),(j:Int))):=((q1.keep d3 id).keep m4 n1).keep e3 (fun e=>by have e:w1.heap.size=(Go.Den.Ah w3).heap.size:=e;omega);refine⟨_,_,rfl,w6,e1,?_⟩;generalize (Go.Den.Ah w3).heap.size=q at *
 all_goals
  refine Ac.cut (fun z w8=>z=[.bool (t&&AN x.bs j)]/\Ab No w6 w8) ?_ ?_
  ·refine Aa (fun ht=>tt rfl ?_) (fun ht=>⟨by rw[ht];rfl,(Ab.refl _ _).drew⟩);rw[ht,Ws];have ad1:Addr.add ⟨q,0,none⟩ 1=⟨q,1,none⟩:=by rw[Ad]
   rw[ad1];have hb:=e2.drew.at.sub (i:=1) (m:=16) (by rw[Aw hx5];omega);rw[V0 hx5]at hb;exact⟨_,_,_,Ba KO,_,T5.drew.at.fld (v:=.int .i64 (j:Int)) Aj rfl,QU (xs:=x.bs) hx5.1 (.inr ⟨_,_,rfl,hb⟩) (by omega) (by omega) fun w7 m7=>⟨_,rfl,rfl,(Ab.refl _ _).drew.no m7⟩⟩
  rintro z w8 ⟨rfl,m8⟩;exact⟨_,rfl,hk w8 R3 (T1.no m8) T2 (T3.nos m8)⟩
-- of none
end
abbrev Rl:=List (Int×Int)
-- the document's
abbrev Fr:=Int×Bool×Bool
theorem iT{g:Gm}(hg:CU g=true){k:Nat}{j:Int}(hk:(k:Int)<g.gs)(h1:1+AM g<=j)(h2:j<g.gr):Gn g (2+k*g.gr+j)=((k:Int),j,true):=by
 obtain⟨p1,p2,p3⟩:=KX hg hk;obtain⟨g1,g2,g3,g4,g5,g6,g7,g8,_⟩:=Av.1 hg;have ht:=LY (g:=g);have hs:AJ g=2+g.gs*g.gr:=by unfold AJ;rw[if_pos hg]
 have hp:0<=(k:Int)*g.gr:=xC (by omega) (by omega);have hle:((k:Int)+1)*g.gr<=g.gs*g.gr:=Lt3 (by omega) (by omega);rw[Int.add_mul,Ly5]at hle;have hm:(2+(k:Int)*g.gr+j-2) % g.gr=j:=by
  rw[show 2+(k:Int)*g.gr+j-2=j+k*g.gr by omega,Int.add_mul_emod_self_right];exact Lg4 (by omega) h2
 have hd:(2+(k:Int)*g.gr+j-2) / g.gr=k:=by
  rw[show 2+(k:Int)*g.gr+j-2=j+k*g.gr by omega,Int.add_mul_ediv_right _ _ (by omega),Int.ediv_eq_zero_of_lt (by omega) h2,Int.zero_add]
 have hkd:Cc g (2+k*g.gr+j)=(4,(k:Int)):=by
  unfold Cc;rw[hm,hd,if_neg (by omega),if_neg (by omega),if_neg (by omega),if_neg (by omega)]
 unfold Gn;rw[hkd,if_neg fun e=>e rfl,p1];show((k:Int),2+k*g.gr+j-(2+k*g.gr),true)=_;rw[show 2+(k:Int)*g.gr+j-(2+k*g.gr)=j by omega]
theorem RP{A:Az}(hg:CU A.s.geo=true){k:Nat}{j:Int}(hk:(k:Int)<A.s.geo.gs)(h1:1+AM A.s.geo<=j)(h2:j<A.s.geo.gr):C5 A (2+k*A.s.geo.gr+j)=AN (A.hs.getD k hZ).bs j.toNat:=by
 unfold C5;rw[iT hg hk h1 h2];simp
theorem jU{xs:List UInt8}:∀ m:Nat,(∀ i,i<m->AN xs i=true)->BK xs m=m
 | 0,_=>rfl
 | m+1,h=>by
  show BK xs m+(if AN xs m=true then 1 else 0)=m+1;rw[jU m fun i hi=>h i (by omega),if_pos (h m (by omega))]
theorem Ya{A:Az}(hH:CJ A.V A.s.geo A.hs){k0:Nat}(hk0:(k0:Int)<A.s.geo.gs){j0:Int}(h0:0<=j0){on:Bool}(hu:(BT true A.s.geo (A.hs.getD k0 hZ) j0 on).2=0){k:Nat}{j:Int}(hk:(k:Int)<A.s.geo.gs)(h1:1+AM A.s.geo<=j)(h2:j<A.s.geo.gr) :
  C5 (BV A k0 (BT true A.s.geo (A.hs.getD k0 hZ) j0 on).1) (2+k*A.s.geo.gr+j)=if k=k0/\j=j0 then on else C5 A (2+k*A.s.geo.gr+j):=by
 have hg:=hH.1;have hlen:=hH.2.2.1;obtain⟨x,hx,_,ho,hn,hw⟩:=hH.get (k:=(k0:Int)) (by omega) hk0;have hx:A.hs[k0]?=some x:=hx;have hgd:A.hs.getD k0 hZ=x:=by rw[Lj,hx];rfl
 rw[hgd]at hu |-;obtain⟨u1,u2,u3,u4,u5,u6⟩:=RU (g:=A.s.geo) (h:=x) (i:=j0) (on:=on) hw hu;have ht:=LY (g:=A.s.geo);obtain⟨g1,g2,_⟩:=Av.1 hg;have e:=RP (A:=BV A k0 (BT true A.s.geo x j0 on).1) (k:=k) (j:=j) hg hk h1 h2;have e':=RP (A:=A) (k:=k) (j:=j) hg hk h1 h2;rw[show(BV A k0 (BT true A.s.geo x j0 on).1).s.geo=A.s.geo from rfl]at e;rw[e,e'];show AN ((A.hs.set k0 (BT true A.s.geo x j0 on).1).getD k hZ).bs j.toNat=_
 by_cases ek:k=k0
 ·subst ek;rw[Lj,Zp (by omega),hgd];show AN (EN A.s.geo x j0 on).1.bs j.toNat=_;rw[u2];show AN (HO x.bs j0.toNat on) j.toNat=_;rw[IB (by rw[hw.1];omega)];by_cases ej:j=j0
  ·rw[if_pos (by rw[ej]),if_pos ⟨rfl,ej⟩]
  ·rw[if_neg (by omega),if_neg fun e=>ej e.2]
 ·rw[Lj,ZK (fun e=>ek e.symm),<- Lj,if_neg fun e=>ek e.1]
theorem aU{xs:List UInt8}{n f:Int}(h:GA xs n f<0){i:Nat}(h1:(i:Int)<n)(h2:i<8*xs.length):AN xs i=true:=by
 unfold GA at h
 split at h
 ·omega
 ·split at h
  ·omega
  ·rename_i h3
   have:=Lv4.1 h3 i (Ty.2 (by unfold xK;omega))
   simpa [C0] using this
end Go.Z
end
