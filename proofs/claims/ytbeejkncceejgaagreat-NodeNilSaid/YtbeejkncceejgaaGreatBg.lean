/- Parts of the proof, in order: what the statement leans on. -/
import Derived.Test.YtbeejkncceejgaaGreatBf
open Go.Proofs Go.Proofs.YtbeejkncceejgaaGreat
section
open Go Go.Den Go.Proofs
namespace Go.Z
theorem tH:O6 Yt 52=some (Yn 0):=by kernel_rfl
theorem AfA:O6 Yt 53=some (.agg ⟨[Yn 0,Yn 0]⟩):=by kernel_rfl
theorem Ac7:Cw Yt 52=true:=by kernel_rfl
theorem Ac6:Cw Yt 53=true:=by kernel_rfl
theorem uQ:Cw Yt 41=true:=by kernel_rfl
theorem Ae2:MV Yt 54=some (8,1):=by kernel_rfl
def Yy(t D f:Nat)(op:List Int)(mg mb:Nat):List Value:=Yo t::Yo D::Yo f::(iL op++[.map (some mg),.map (some mb)])
structure H4(R:Nat->Prop)(w:World)(n t D f mg mb:Nat)(op:List Int)(Lg Lb:List (Int×Value)):Prop where
 ol:op.length=8
 ce:Av w n 0 (Yy t D f op mg mb)
 De:Av w D 0 [Yo f]
 gm:AU w mg Lg
 bm:AU w mb Lb
 nr:¬ R n/\¬ R D/\¬ R mg/\¬ R mb
 df:n≠D/\n≠mg/\n≠mb/\D≠mg/\D≠mb/\mg≠mb
theorem tQ{t D f mg mb:Nat}{op:List Int}(h:op.length=8):(Yy t D f op mg mb).length=13:=by unfold Yy;simp[h]
theorem zC{t D f mg mb:Nat}{op:List Int}(h:op.length=8){i:Nat}(hi:i<8):(Yy t D f op mg mb)[3+i]?=some (Yn (op.getD i 0)):=by
 rw[show 3+i=i+1+1+1 by omega];show(iL op++_)[i]?=_;rw[Lc2 (by rw[Bu];omega),Kb (by omega),Lp,XM (by omega)];rfl
theorem jX{t D f mg mb:Nat}{op:List Int}(h:op.length=8):(Yy t D f op mg mb)[11]?=some (.map (some mg))/\(Yy t D f op mg mb)[12]?=some (.map (some mb)):=by
 constructor
 ·show(iL op++_)[8]?=_;rw[Lr1 (by rw[Bu];omega),Bu,h];rfl
 ·show(iL op++_)[9]?=_;rw[Lr1 (by rw[Bu];omega),Bu,h];rfl
theorem tR{t D f mg mb:Nat}{op:List Int}(h:op.length=8){i:Nat}(hi:i<8)(x:Int):(Yy t D f op mg mb).set (3+i) (Yn x)=Yy t D f (op.set i x) mg mb:=by
 rw[show 3+i=i+1+1+1 by omega];show _::_::_::(iL op++_).set i _=_;rw[List.set_append_left _ _ (by rw[Bu];omega)];have:(iL op).set i (Yn x)=iL (op.set i x):=by unfold iL;rw[Lp4];rfl
 rw[this];rfl
section
variable{w w':World}{R R':Nat->Prop}{f a v d n t D mg mb:Nat}{F:Fy}{K:Value->World->Prop}{op:List Int}{Lg Lb:List (Int×Value)}
theorem H4.keep{S:Nat->Prop}(h:H4 R w n t D f mg mb op Lg Lb)(m:Ab S w w')(h1:¬ S n)(h2:¬ S D)(h3:¬ S mg)(h4:¬ S mb):H4 R w' n t D f mg mb op Lg Lb:=⟨h.ol,h.ce.keep m h1,h.De.keep m h2,h.gm.keep m h3,h.bm.keep m h4,h.nr,h.df⟩
theorem H4.nos(h:H4 R w n t D f mg mb op Lg Lb)(m:Ab No w w'):H4 R w' n t D f mg mb op Lg Lb:=h.keep m id id id id
theorem H4.mv(h:H4 R w n t D f mg mb op Lg Lb)(m:Ab R w w')(s:Sb R R' w):H4 R' w' n t D f mg mb op Lg Lb:=by
 obtain⟨n1,n2,n3,n4⟩:=h.nr;have hk:=h.keep m n1 n2 n3 n4;refine⟨hk.ol,hk.ce,hk.De,hk.gm,hk.bm,⟨fun e=>?_,fun e=>?_,fun e=>?_,fun e=>?_⟩,hk.df⟩
 ·exact(s _ e).elim n1 fun e=>by have:=h.ce.lt;omega
 ·exact(s _ e).elim n2 fun e=>by have:=h.De.lt;omega
 ·exact(s _ e).elim n3 fun e=>by have:=h.gm.lt;omega
 ·exact(s _ e).elim n4 fun e=>by have:=h.bm.lt;omega
theorem H4.ldD(h:H4 R w n t D f mg mb op Lg Lb):Ru (Instr.loadAt 35 (.pointer (some (Addr.add ⟨n,0,none⟩ 1)))) w (Yo D) w:=h.ce.at.fld (j:=1) (v:=Yo D) Nx rfl
theorem H4.ldF(h:H4 R w n t D f mg mb op Lg Lb):Ru (Instr.loadAt 50 (.pointer (some (Addr.add ⟨n,0,none⟩ 2)))) w (Yo f) w:=h.ce.at.fld (j:=2) (v:=Yo f) B0 rfl
theorem H4.ldG(h:H4 R w n t D f mg mb op Lg Lb):Ru (Instr.loadAt 52 (.pointer (some (Addr.add ⟨n,0,none⟩ 11)))) w (.map (some mg)) w:=h.ce.at.fld (j:=11) Ac7 (jX h.ol).1
theorem H4.ldB(h:H4 R w n t D f mg mb op Lg Lb):Ru (Instr.loadAt 53 (.pointer (some (Addr.add ⟨n,0,none⟩ 12)))) w (.map (some mb)) w:=h.ce.at.fld (j:=12) Ac6 (jX h.ol).2
theorem H4.ldO(h:H4 R w n t D f mg mb op Lg Lb){i:Nat}(hi:i<8):Al (Instr.indexAt 54 (.pointer (some (Addr.add ⟨n,0,none⟩ 3))) (Yn (i:Int))) (.pointer (some ⟨n,3+i,none⟩))/\Ru (Instr.loadAt 3 (.pointer (some ⟨n,3+i,none⟩))) w (Yn (op.getD i 0)) w:=by
 refine⟨fun W=>?_,?_⟩
 ·have:=Bo (P:=Yt) (T:=54) (a:=Addr.add ⟨n,0,none⟩ 3) (kk:=.i64) (i:=(i:Int)) Ae2 (by omega) (by omega) W
  rw[Ae,Ae]at this;rw[Ae];rw[show 0+3+(i:Int).toNat*1=3+i by omega]at this;exact this
 ·have:=h.ce.at.load (P:=Yt) (T:=3) (i:=3+i) Ah (zC h.ol hi)
  rw[Tc]at this;exact this
theorem H4.setO(h:H4 R w n t D f mg mb op Lg Lb)(hF:Fo R w f a v d F)(hd:d<=n){i:Nat}(hi:i<8)(x:Int):∃ w2,Gr (Instr.storeAt 3 (.pointer (some ⟨n,3+i,none⟩)) (Yn x)) w w2/\H4 R w2 n t D f mg mb (op.set i x) Lg Lb/\Fo R w2 f a v d F/\Ab (fun z=>z=n) w w2:=by
 obtain⟨w2,u1,u2,u3,u4⟩:=h.ce.store (P:=Yt) (T:=3) (i:=3+i) (v:=Yn x) Ah (by rw[tQ h.ol];omega) rfl;rw[tR h.ol hi]at u2;obtain⟨d1,d2,d3,d4,d5,d6⟩:=h.df;refine⟨w2,by rw[Tc]at u1;exact u1,⟨by rw[List.length_set];exact h.ol,u2,h.De.keep u3 fun e=>d1 e.symm,h.gm.keep u3 fun e=>d2 e.symm,h.bm.keep u3 fun e=>d3 e.symm,h.nr,h.df⟩,hF.own u3 h.nr.1 hd,u3⟩
theorem QW{k:Int}{i:Nd}(h63:k<=9223372036854775807)(hD:Av w D 0 [Yo f])(hnD:¬ R D)(h:Fo R w f a v d F)(hi:(A1 F.A.V F.A.s.geo k).1=i)(ok:Dd F k=0->zE F i)
  (hk:∀ w' R' y,Ab R w w'->Sb R R' w->Fo R' w' f a v d F->K (.tuple #[Yn y,Yn (Dd F k)]) w'):A7 Yt BO #[Yo D,Yn k] w K:=by
 apply T0;unfold LR;have hw:E3 i:=by rw[<- hi];exact Br _ _ _
 refine XX h63 hD h fun w1 R1 m1 s1 h1=>⟨_,_,rfl,?_⟩;rw[hi];obtain⟨w2,b1,b2,b3,b4⟩:=Aw (P:=Yt) (w:=w1) (T:=69) AC;obtain⟨w3,c1,c2,c3,c4⟩:=b2.put (T:=69) (vs:=nV i) Am rfl (A4 hw) (Bl _);have M3:Ab No w1 w3:=b3.own c3 (Le _);have z1:=m1.size;have hDl:=hD.lt;refine⟨_,w2,b1,w3,c1,?_⟩;by_cases hE:Dd F k=0
 ·have okD':=ok hE;have nD1:¬ R1 D:=fun r=>(s1 _ r).elim hnD fun e=>by omega
  rw[hE]at hk |-;refine Ad.dup (ff rfl ⟨_,c2.at.all Am (A4 hw),WK h63 ((hD.keep m1 hnD).keep M3 id) nD1 (h1.nos M3) hE hi okD' fun w4 R4 m4 s4 h4=>⟨_,rfl,_,rfl,?_⟩⟩);have M4:Ab R w w4:=Ab.sb (m1.no M3) s1 m4;have S4:Sb R R4 w:=s1.trans (s4.up M3.size) z1;refine Aa (fun _=>hk w4 R4 0 M4 S4 h4) (fun _=>⟨i.size,(c2.keep m4 fun e=>by have:=h1.lt _ e;omega).at.fld (j:=2) (v:=Yn i.size) Bq rfl,dJ ⟨_,rfl,hk w4 R4 _ M4 S4 h4⟩⟩)
 ·exact Ad.dup (tt (by rw[DN];exact Li hE) ⟨_,rfl,tt rfl (hk w3 R1 0 (m1.no M3) s1 (h1.nos M3))⟩)
def kK(x:Option (Dt×Nat)):Int×Int:=match x with | some (e,_)=>(e.s,0) | none=>(0,20)
theorem Sl{k:Int}{i:Nd}{nm:Bs}(h63:k<=9223372036854775807)(hD:Av w D 0 [Yo f])(hnD:¬ R D)(h:Fo R w f a v d F)(hi:(A1 F.A.V F.A.s.geo k).1=i)(ok:Dd F k=0->zE F i)
  (hk:Dd F k≠0->∀ w' R',Ab R w w'->Sb R R' w->Fo R' w' f a v d F->K (.tuple #[Yn 0,Yn 0,Yn (Dd F k)]) w')
  (hk0:Dd F k=0->∀ w' R' y,Ab R w w'->Sb R R' w->Fo R' w' f a v d F->K (.tuple #[Yn (kK (Gp F i nm (Sx i))).1,Yn y,Yn (kK (Gp F i nm (Sx i))).2]) w') :
  A7 Yt DA #[Yo D,Yn k,.string (sB nm)] w K:=by
 apply Ty;unfold LQ;have fin:∀(w1:World)(R1:Nat->Prop)(e:Dt),Fo R1 w1 f a v d F->∃ q9:Addr,∃ w2:World,Ru (Instr.alloc 143 true (.tuple #[])) w1 (.pointer (some q9)) w2/\∃ w3:World,Gr (Instr.storeAt 143 (.pointer (some q9)) (.agg ⟨eV e⟩)) w2 w3/\Ru (Instr.loadAt 3 (.pointer (some (Addr.add q9 0)))) w3 (Yn e.s) w3/\Ab No w1 w3:=fun w1 R1 e h1=>by
  obtain⟨w2,b1,b2,b3,b4⟩:=Aw (P:=Yt) (w:=w1) (T:=143) CH;obtain⟨w3,c1,c2,c3,c4⟩:=b2.put (T:=143) (vs:=eV e) AK rfl rfl (EC _);exact⟨_,w2,b1,w3,c1,c2.at.fld (j:=0) (v:=Yn e.s) Ah rfl,b3.own c3 (Le _)⟩
 refine Yf h63 hD hnD h hi (fun hE w1 R1 m1 s1 h1=>⟨_,_,_,rfl,?_⟩) ok fun hE w1 R1 m1 s1 h1=>?_
 ·obtain⟨q9,w2,b1,w3,c1,c2,c3⟩:=fin w1 R1 RI h1;exact⟨q9,w2,b1,w3,c1,0,c2,hk hE w3 R1 (m1.no c3) s1 (h1.nos c3)⟩
 ·have hk0:=hk0 hE;cases hs:Gp F i nm (Sx i)with
  | none =>
   rw[hs]at hk0;obtain⟨q9,w2,b1,w3,c1,c2,c3⟩:=fin w1 R1 RI h1;exact⟨_,_,_,rfl,q9,w2,b1,w3,c1,0,c2,hk0 w3 R1 0 (m1.no c3) s1 (h1.nos c3)⟩
  | some x =>
   obtain⟨e,j⟩:=x;rw[hs]at hk0;obtain⟨q9,w2,b1,w3,c1,c2,c3⟩:=fin w1 R1 e h1;exact⟨_,_,_,rfl,q9,w2,b1,w3,c1,e.s,c2,hk0 w3 R1 _ (m1.no c3) s1 (h1.nos c3)⟩
def Ws(F:Fy)(k:Int)(i:Nd)(nm:Bs):Int×Int:=if Dd F k≠0 then(0,Dd F k)else if Mi nm=false then(0,25)else kK (Gp F i nm (Sx i))
theorem yZ{k:Int}{i:Nd}{nm:Bs}(h63:k<=9223372036854775807)(hx:nm.length<=9223372036854775807)(N:H4 R w n t D f mg mb op Lg Lb)(h:Fo R w f a v d F)(hi:(A1 F.A.V F.A.s.geo k).1=i)(ok:Dd F k=0->zE F i)
  (hk:∀ w' R',Ab R w w'->Sb R R' w->Fo R' w' f a v d F->K (.tuple #[Yn (Ws F k i nm).1,Yn (Ws F k i nm).2]) w'):A7 Yt D0 #[Yo n,Yn k,.string (sB nm)] w K:=by
 apply Pt;unfold I7;refine ff rfl ⟨_,rfl,_,N.ldD,QW h63 N.De N.nr.2.1 h hi ok fun w1 R1 y m1 s1 h1=>⟨_,_,rfl,?_⟩⟩;have N1:=N.mv m1 s1;rw[DN];refine Aa (fun hE=>?_) (fun hE=>?_)
 ·have hE:=Ld hE
  have:=hk w1 R1 m1 s1 h1
  unfold Ws at this;rw[if_pos hE]at this;exact this
 have hE:=VU.1 (Lc hE);refine XY hx fun w2 m2=>⟨_,rfl,Aa (fun hb=>?_) (fun hb=>?_)⟩
 ·have:=hk w2 R1 (m1.no m2) s1 (h1.nos m2)
  unfold Ws at this;rw[if_neg (fun e=>e hE),if_pos (by simpa using hb)]at this;exact this
 ·have N2:=N1.nos m2;refine⟨_,rfl,_,N2.ldD,Sl h63 N2.De N2.nr.2.1 (h1.nos m2) hi ok (fun e=>absurd hE e) fun _ w3 R3 y m3 s3 h3=>⟨_,_,_,rfl,?_⟩⟩
  have:=hk w3 R3 (Ab.sb (m1.no m2) s1 m3) (s1.trans (s3.up m2.size) m1.size) h3
  unfold Ws at this;rw[if_neg (fun e=>e hE),if_neg (by simpa using hb)]at this;exact this
theorem iZ{k:Int}{i:Nd}{nm:Bs}(h63:k<=9223372036854775807)(hx:nm.length<=9223372036854775807)(N:H4 R w n t D f mg mb op Lg Lb)(h:Fo R w f a v d F)(hi:(A1 F.A.V F.A.s.geo k).1=i)(ok:Dd F k=0->zE F i)(hn:(Ws F k i nm).2=20)
  (hk:∀ w' R',Ab R w w'->Sb R R' w->Fo R' w' f a v d F->K (Yn (Dd F k)) w'):A7 Yt DW #[Yo n,Yn k,.string (sB nm)] w K:=by
 apply Qz;unfold Js;refine yZ h63 hx N h hi ok fun w1 R1 m1 s1 h1=>⟨_,_,rfl,?_⟩;rw[hn];have N1:=N.mv m1 s1;exact ff rfl (tt rfl ⟨_,rfl,_,N1.ldD,QW h63 N1.De N1.nr.2.1 h1 hi ok fun w2 R2 y m2 s2 h2=>⟨_,_,rfl,hk w2 R2 (Ab.sb m1 s1 m2) (s1.trans s2 m1.size) h2⟩⟩)
theorem zS{x y:Int}(N:H4 R w n t D f mg mb op Lg Lb)(h:Fo R w f a v d F)(h1:x<=(Bv F.A F.A.s.geo.gs.toNat).1)(h2:y<=(Bv F.A F.A.s.geo.gs.toNat).2)(hk:∀ w' R',Ab R w w'->Sb R R' w->Fo R' w' f a v d F->K (Yn 0) w') :
  A7 Yt CB #[Yo n,Yn x,Yn y] w K:=by
 apply Q2;unfold Jv;obtain⟨Ra,hA,hRa,hc⟩:=h.alc;refine⟨_,rfl,_,N.ldF,Re h ⟨_,rfl,iJ hA fun w2 R2 m2 s2 hA2=>⟨_,_,rfl,Ad.dup (ff (Lh (by show ¬ (Bv F.A _).1<_;omega)) ⟨_,rfl,ff (Lh (by show ¬ (Bv F.A _).2<_;omega)) ?_⟩)⟩⟩⟩;obtain⟨k1,k2,k3⟩:=hc w2 R2 _ m2 s2 hA2;exact hk w2 _ k1 k2 k3
theorem NB{k:Int}(h63:k<=9223372036854775807)(N:H4 R w n t D f mg mb op Lg Lb)(h:Fo R w f a v d F)(hk:∀ w' R',Ab R w w'->Sb R R' w->Fo R' w' f a v d F->K (.tuple #[.agg ⟨nV (A1 F.A.V F.A.s.geo k).1⟩,Yn (OZ F k)]) w') :
  A7 Yt Bc #[Yo n,Yn k] w K:=by
 apply Io;unfold Fb;obtain⟨w1,b1,b2,b3,b4⟩:=Aw (P:=Yt) (w:=w) (T:=69) AC;have h1:=h.nos b3;have hlt:=h.lt;have hd:=h.dlt;have hwf:=Br F.A.V F.A.s.geo k;have hln:=A4 hwf;refine⟨_,w1,b1,ff rfl ⟨_,rfl,_,(N.nos b3).ldF,eY h63 h1 fun w2 R2 m2 s2 h2=>⟨_,_,rfl,?_⟩⟩⟩;have n1:¬ R w.heap.size:=fun e=>by have:=hlt _ e;omega
 have n2:¬ R2 w.heap.size:=fun e=>by
  rcases s2 _ e with e|e
  ·exact n1 e
  ·omega
 have z2:=m2.size;obtain⟨w3,d1,d2,d3,d4⟩:=Aw (P:=Yt) (w:=w2) (T:=69) AC;obtain⟨w4,e1,e2,e3,e4⟩:=d2.put (T:=69) (vs:=nV (A1 F.A.V F.A.s.geo k).1) Am rfl hln (Bl _);have M4:Ab No w2 w4:=d3.own e3 (Le _);have h4:=h2.nos M4;have q4:=((b2.keep m2 n1).keep M4 id);have MM:Ab R w w4:=((b3.mono fun _ _ e=>e.elim).trans m2 fun _ _ e=>e).no M4;have S4:=s2.up b3.size;refine⟨_,w3,d1,w4,e1,Ad.cut (fun z w5=>w4=w5/\z=[.bool (decide ((A1 F.A.V F.A.s.geo k).2=0/\(A1 F.A.V F.A.s.geo k).1.kind=0))]) ?_ ?_⟩
 ·rw[Fm];refine Aa (fun he=>⟨_,e2.at.fld (v:=Yn (A1 F.A.V F.A.s.geo k).1.kind) Ah rfl,rfl,?_⟩) (fun he=>⟨rfl,?_⟩)
  ·have he:=Ld he;rw[Fm];exact qU ⟨fun e=>⟨he,e⟩,And.right⟩
  ·have he:=Lc he;exact qV fun e=>he e.1
 rintro z w5 ⟨rfl,rfl⟩;have fin:∀ e:Int,e=OZ F k->∃ g21:Array Value,Ru (Instr.loadAt 69 (Yo w2.heap.size)) w4 (.agg g21) w4/\∃ n7:Int,A2 [Yn e] 0=Yn n7/\∃ w7:World,Gr (Instr.storeAt 69 (Yo w.heap.size) (.agg g21)) w4 w7/\∃ gR4:Array Value,Ru (Instr.loadAt 69 (Yo w.heap.size)) w7 (.agg gR4) w7/\K (.tuple #[.agg gR4,Yn n7]) w7:=fun e he=>by
  obtain⟨w7,g1,g2,g3,g4⟩:=q4.put (T:=69) (vs:=nV (A1 F.A.V F.A.s.geo k).1) Am rfl hln (Bl _);refine⟨_,e2.at.all Am hln,_,rfl,w7,g1,_,g2.at.all Am hln,?_⟩;rw[he];exact hk w7 R2 (MM.trans g3 fun x hx e=>by have e:x=w.heap.size:=e;omega) S4 (h4.own g3 n2 (by omega))
 refine⟨_,rfl,Ad.dup (Aa (fun hb=>fin _ ?_) (fun hb=>fin _ ?_))⟩
 ·have hb:=Ld hb;unfold OZ;rw[if_neg (by rw[hb.1];decide),if_pos hb.2]
 ·have hb:=Lc hb;unfold OZ;split
  ·rfl
  ·rename_i x;have x:(A1 F.A.V F.A.s.geo k).2=0:=VU.1 x;rw[if_neg fun y=>hb ⟨x,y⟩,x]
end
structure NH(g:Gm)(F:Fy)(hs:List Hd)(T:Int->Nd×Int)(C:Int->Bk)(n:Nat):Prop where
 s:F.A.s=⟨1,g⟩
 hh:F.A.hs=hs
 fz:F.A.fz=TO
 hd:B2 F.A.V g hs
 len:∀ b,b<F.A.V.C.D.vs.length->(A3 F.A.V b).length=256
 la:F.A.V.last<=n
 ml:∀ k,(F.mi k).length<=n
 mu:ON F
 sl:∀ s,A1 F.A.V g s=T s
 ct:∀ b,(AT g b).1=4->A3 F.A.V b.toNat=C b
 ww:F.A.W=[]
def NZ{α:Type}(T:Int->α)(k:Int)(x:α):Int->α:=fun s=>if s=k then x else T s
theorem Ym{V:Ps}{n f:Int}{data:Bk}{after:List Int}(hE:E0 V n f data after=0)(hf:f.toNat+data.length<=256)(hl:∀ b,b<V.C.D.vs.length->(A3 V b).length=256):∀ b,b<(BF V n f data after).C.D.vs.length->(A3 (BF V n f data after) b).length=256:=fun b hb=>by
 rw[Rx]at hb;rw[Cf hE];split
 ·rw[KF (by rw[hl b hb];exact hf),hl b hb]
 ·exact hl b hb
theorem xQ{g:Gm}{b b':Int}(h:(AT g b).1=4)(h':(AT g b').1=4)(e:b'.toNat=b.toNat):b'=b:=by
 obtain⟨_,h1,_⟩:=Gh h;obtain⟨_,h2,_⟩:=Gh h';omega
theorem mH{g:Gm}(hg:Df g=true){b:Int}{k:Nat}(h:(AT g b).1=4):b.toNat≠(2+(k:Int)*g.gr).toNat:=by
 obtain⟨k',j,hbb,hk,h1,h2⟩:=QX h;rw[hbb];exact fun e=>jM hg h1 h2 e.symm
theorem rN{g:Gm}(hg:Df g=true){b k:Int}(h:(AT g b).1=4)(hp:(Au g k).2.2=0):b.toNat≠(Au g k).1.toNat:=by
 obtain⟨_,n0,n1,_⟩:=EI (g:=g) (s:=k) (b:=(Au g k).1) (p:=(Au g k).2.1) (by rw[<- hp]);obtain⟨k',j',q',e1,hk',hj',_⟩:=If hg n0 n1;obtain⟨k2,j2,e2,hk2,hj2,hj3⟩:=QX h;rw[e1];intro e;rw[e2]at e;exact VI hg hj' hj2 hj3 e.symm
variable{g:Gm}{F:Fy}{hs:List Hd}{T:Int->Nd×Int}{C:Int->Bk}{n:Nat}
theorem NH.nxt(st:NH g F hs T C n):NH g (wG F) hs T C n:=⟨st.s,st.hh,st.fz,st.hd,st.len,st.la,st.ml,fun k x hx=>st.mu k x hx,st.sl,st.ct,st.ww⟩
theorem NH.hdr(st:NH g F hs T C n){k:Nat}{x:Hd}(hx:hs[k]?=some x){kd:Bool}{j:Int}(e:(BW kd g x j true).2=0)(A':Az)(hA:A'=EL F.A k (BW kd g x j true).1) :
  NH g ⟨A',F.la,F.mi⟩ (hs.set k (BW kd g x j true).1) T C (n+1)/\A'.V.last=F.A.V.last+1:=by
 subst hA;obtain⟨g1,g2,g3,g4⟩:=st.hd;have hk:=(Lq.1 hx).1;have hkg:(k:Int)<g.gs:=by omega
 obtain⟨_,q2,q3,q4⟩:=g4 k x hx;have hw:=Ub (kd:=kd) (g:=g) q4 j true;obtain⟨o1,o2⟩:=kT q4 e;have hE:=gC st.hd hkg hw;have hV:(EL F.A k (BW kd g x j true).1).V=OX F.A.V g k (BW kd g x j true).1:=by show OX F.A.V F.A.s.geo k _=_;rw[st.s]
 have hl:(OX F.A.V g k (BW kd g x j true).1).last=F.A.V.last+1:=FA hE;have hb64:(Rz g (BW kd g x j true).1).length=64:=S0 hw;refine⟨⟨st.s,by show F.A.hs.set k _=_;rw[st.hh],st.fz,?_,?_,?_,fun k'=>?_,?_,fun s=>?_,fun b hb=>?_,st.ww⟩,by show(EL F.A k (BW kd g x j true).1).V.last=_;rw[hV];exact hl⟩
 ·show B2 (EL F.A k (BW kd g x j true).1).V g _;rw[hV];exact st.hd.set hkg hw o1 (o2.trans q3)
 ·show ∀ b,b<(EL F.A k (BW kd g x j true).1).V.C.D.vs.length->(A3 (EL F.A k (BW kd g x j true).1).V b).length=256;rw[hV];exact Ym hE (by rw[hb64];decide) st.len
 ·show(EL F.A k (BW kd g x j true).1).V.last<=n+1;rw[hV,hl];have:=st.la;omega
 ·have:=st.ml k'
  show(F.mi k').length<=n+1;omega
 ·intro k' y hy;obtain⟨m1,m2,m3⟩:=st.mu k' y hy;show(EL F.A k (BW kd g x j true).1).V.opn y=true/\1<=y/\y<=((EL F.A k (BW kd g x j true).1).V.last:Int);rw[hV,hl];exact⟨LG _ _ _ _ m1,m2,by omega⟩
 ·show A1 (EL F.A k (BW kd g x j true).1).V g s=T s;rw[hV,<- st.sl s];refine Qb g1 (fun k' j' hj'=>?_) s;show A3 (BF _ _ _ _ _) _=_;rw[Cf hE,if_neg (VJ g1 hj')]
 ·show A3 (EL F.A k (BW kd g x j true).1).V b.toNat=C b;rw[hV,<- st.ct b hb];show A3 (BF _ _ _ _ _) _=_;rw[Cf hE,if_neg (mH g1 hb)]
theorem NH.slt(st:NH g F hs T C n){n0:Int}{k:Nat}{j:Int}{x:Hd}(ht:Cb g hs TO (BD false g) (OA g n0).1 (OA g n0).2.1 (OA g n0).2.2 g.gs.toNat=some (k,j))(hx:hs[k]?=some x)(e:(BW false g x j true).2=0) :
  NH g (IV F n0) (hs.set k (BW false g x j true).1) T C (n+1)/\(Db F.A n0).2=(k*g.no+j,(F.A.V.last:Int)+1,0)/\(IV F n0).A.V.last=F.A.V.last+1/\(IV F n0).A.nx=F.A.nx:=by
 have eq:Db F.A n0=(EL F.A k (BW false g x j true).1,(k:Int)*g.no+j,(F.A.V.last:Int)+1,0):=by
  unfold Db;rw[show F.A.s.geo=g by rw[st.s],st.hh,st.fz,ht];simp only;rw[show hs.getD k hZ=x by rw[Lp,hx];rfl]
 obtain⟨h1,h2⟩:=st.hdr hx e (Db F.A n0).1 (by rw[eq]);exact⟨h1,by rw[eq],h2,by show(Db F.A n0).1.nx=_;rw[eq];rfl⟩
theorem NH.blk(st:NH g F hs T C n){b0:Int}{k:Nat}{j:Int}{x:Hd}(ht:Cb g hs TO (BD true g) (N0 g b0).1 (N0 g b0).2.1 (N0 g b0).2.2 g.gs.toNat=some (k,j))(hx:hs[k]?=some x)(e:(BW true g x j true).2=0) :
  NH g ⟨(Ak F.A b0).1,F.la,F.mi⟩ (hs.set k (BW true g x j true).1) T C (n+1)/\(Ak F.A b0).2=(2+k*g.gr+j,(F.A.V.last:Int)+1,0)/\(Ak F.A b0).1.V.last=F.A.V.last+1:=by
 have eq:Ak F.A b0=(EL F.A k (BW true g x j true).1,2+(k:Int)*g.gr+j,(F.A.V.last:Int)+1,0):=by
  unfold Ak;rw[show F.A.s.geo=g by rw[st.s],st.hh,st.fz,ht];simp only;rw[show hs.getD k hZ=x by rw[Lp,hx];rfl]
 obtain⟨h1,h2⟩:=st.hdr hx e (Ak F.A b0).1 (by rw[eq]);exact⟨h1,by rw[eq],h2⟩
theorem NH.put(st:NH g F hs T C n){k:Int}{i:Nd}{after:List Int}(hp:(Au g k).2.2=0)(hw:E3 i)(ho:O7 i=true)(ha:∀ y∈after,1<=y/\y<=(F.A.V.last:Int)):NH g (Kf F k i after) hs (NZ T k (i,0)) C (n+1)/\(Kf F k i after).A.V.last=F.A.V.last+1:=by
 have hp':(Au F.A.s.geo k).2.2=0:=by rw[st.s];exact hp
 have hb:=QQ ha;have hd':B2 F.A.V F.A.s.geo F.A.hs:=by rw[st.s,st.hh];exact st.hd
 have hE:=PZ (k:=k) (i:=i) (after:=after) hd' hw hp' hb;have hl:(Tu F.A k i after).V.last=F.A.V.last+1:=FA hE;have hgeo:F.A.s.geo=g:=by rw[st.s]
 obtain⟨_,n0,n1,b1,b2,p1,p2⟩:=EI (g:=F.A.s.geo) (s:=k) (b:=(Au F.A.s.geo k).1) (p:=(Au F.A.s.geo k).2.1) (by rw[<- hp']);have hil:=IM hw;refine⟨⟨st.s,st.hh,st.fz,?_,?_,?_,fun k'=>?_,st.mu.put (A0:=F.A) rfl hd' hw hp' hb,fun s=>?_,fun b hb'=>?_,st.ww⟩,hl⟩
 ·have:=uT (k:=k) (i:=i) (after:=after) hd' hw hp' hb
  rw[st.s,st.hh]at this;exact this
 ·exact Ym hE (by rw[hil];omega) st.len
 ·show(Tu F.A k i after).V.last<=n+1;rw[hl];have:=st.la;omega
 ·show(if k'=k then F.mi k++[(F.A.V.last:Int)+1]else F.mi k').length<=n+1;have h1:=st.ml k;have h2:=st.ml k';split
  ·rw[Lj];simp;omega
  ·omega
 ·show A1 (Tu F.A k i after).V g s=NZ T k (i,0) s;have hlt:(Au F.A.s.geo k).1.toNat<F.A.V.C.D.vs.length:=by have:=st.hd.2.1;rw[hgeo]at b2;rw[hgeo];rw[hgeo]at b1;omega
  have:=Xz (V:=F.A.V) hd'.1 (by rw[<- hp']) (st.len _ hlt) hw ho hE s
  rw[hgeo]at this;unfold NZ;rw[<- st.sl s];show A1 (BF F.A.V (Au F.A.s.geo k).1 (64*(Au F.A.s.geo k).2.1) (Ek i) after) g s=_;rw[hgeo];exact this
 ·show A3 (BF _ _ _ _ _) _=_;rw[Cf hE,if_neg (by rw[hgeo];exact rN st.hd.1 hb' hp)];exact st.ct b hb'
theorem NH.set(st:NH g F hs T C n){k b f0:Int}{data:Bk}{after:List Int}(hb:(AT g b).1=4)(hd0:data.length≠0)(h0:0<=f0)(h1:f0+data.length<=256)(ha:∀ y∈after,1<=y/\y<=(F.A.V.last:Int)) :
  NH g (Ny F k b f0 data after) hs T (NZ C b (B3 (C b) f0.toNat data)) (n+1)/\(Ny F k b f0 data after).A.V.last=F.A.V.last+1:=by
 have hd':B2 F.A.V F.A.s.geo F.A.hs:=by rw[st.s,st.hh];exact st.hd
 have hgeo:F.A.s.geo=g:=by rw[st.s]
 have hb':(AT F.A.s.geo b).1=4:=by rw[hgeo];exact hb
 have hE:=gB (f:=f0) (data:=data) (after:=after) hd' hb' hd0 h0 h1 (QQ ha);have hl:(Xx F.A b f0 data after).V.last=F.A.V.last+1:=FA hE;refine⟨⟨st.s,st.hh,st.fz,?_,Ym hE (by omega) st.len,?_,fun k'=>?_,st.mu.set hE,fun s=>?_,fun b2 hb2=>?_,st.ww⟩,hl⟩
 ·have:=uS hd' hb' hE
  rw[st.s,st.hh]at this;exact this
 ·show(Xx F.A b f0 data after).V.last<=n+1;rw[hl];have:=st.la;omega
 ·show(if k'=k then F.mi k++[(F.A.V.last:Int)+1]else F.mi k').length<=n+1;have h1:=st.ml k;have h2:=st.ml k';split
  ·rw[Lj];simp;omega
  ·omega
 ·have:=oK hd' hb' hE s
  rw[hgeo]at this;exact this.trans (st.sl s)
 ·show A3 (BF _ _ _ _ _) _=_;rw[Cf hE];unfold NZ;by_cases e:b2=b
  ·subst e;rw[if_pos rfl,if_pos rfl,st.ct b2 hb2]
  ·rw[if_neg (fun x=>e (xQ hb hb2 x)),if_neg e];exact st.ct b2 hb2
theorem NH.wr(st:NH g F hs T C n){k:Int}{i:Nd}{xs:Bk}{kk:Nat}{j:Int}{x:Hd}(hi:E3 i)(hx0:0<xs.length)(hx1:xs.length<=256)(ht:Cb g hs TO (BD true g) (N0 g 0).1 (N0 g 0).2.1 (N0 g 0).2.2 g.gs.toNat=some (kk,j))(hx:hs[kk]?=some x)(e:(BW true g x j true).2=0)
  (hb:(AT g (2+kk*g.gr+j)).1=4) (hp:(Au g k).2.2=0) (ho:O7 (O4 (FE i 0 (2+kk*g.gr+j)) xs.length)=true) :
  NH g (wrF F k i xs) (hs.set kk (BW true g x j true).1) (NZ T k (O4 (FE i 0 (2+kk*g.gr+j)) xs.length,0)) (NZ C (2+kk*g.gr+j) (Wv xs 0)) (n+3)/\okB F 0/\(Ak F.A 0).2.1=2+kk*g.gr+j/\(wrF F k i xs).A.V.last=F.A.V.last+3:=by
 obtain⟨s1,v1,l1⟩:=st.blk ht hx e;have hc0:(C (2+kk*g.gr+j)).length=256:=by
  rw[<- st.ct _ hb];obtain⟨_,b1,b2,_⟩:=Gh hb;exact st.len _ (by have:=st.hd.2.1;omega)
 have hE:(BR F k i xs 1)=⟨Ny ⟨(Ak F.A 0).1,F.la,F.mi⟩ k (2+kk*g.gr+j) 0 (Wv xs 0) [],FE i 0 (2+kk*g.gr+j),[(F.A.V.last:Int)+1,((Ak F.A 0).1.V.last:Int)+1],2+kk*g.gr+j⟩:=by
  show Wst.mk _ _ _ _=_;have w1:(Ak F.A 0).2.1=2+kk*g.gr+j:=by rw[v1]
  have w2:(Ak F.A 0).2.2.1=(F.A.V.last:Int)+1:=by rw[v1]
  show(⟨sG F k 0 (Wv xs 0),FE i 0 (Ak F.A 0).2.1,[]++[(Ak F.A 0).2.2.1,((Ak F.A 0).1.V.last:Int)+1],(Ak F.A 0).2.1⟩:Wst)=_;unfold sG;rw[w1,w2];rfl
 obtain⟨s2,l2⟩:=s1.set (k:=k) (f0:=0) (data:=Wv xs 0) (after:=[]) hb (by rw[JN];decide) (by omega) (by rw[JN];omega) (fun y hy=>by cases hy);have hov:B3 (C (2+kk*g.gr+j)) (0:Int).toNat (Wv xs 0)=Wv xs 0:=by
  unfold B3;rw[JN,show(0:Int).toNat=0 from rfl,pX,Ly,Ls (by omega),iB]
 rw[hov]at s2;have l1':(⟨(Ak F.A 0).1,F.la,F.mi⟩:Fy).A.V.last=F.A.V.last+1:=l1;have l2':=l2.trans (QJ (·+1) l1');have hW:wrF F k i xs=Kf (Ny ⟨(Ak F.A 0).1,F.la,F.mi⟩ k (2+kk*g.gr+j) 0 (Wv xs 0) []) k (O4 (FE i 0 (2+kk*g.gr+j)) xs.length) [(F.A.V.last:Int)+1,((Ak F.A 0).1.V.last:Int)+1]:=by
  unfold wrF;rw[show(xs.length+255) / 256=1 by omega,hE]
 obtain⟨s3,l3⟩:=s2.put (k:=k) (i:=O4 (FE i 0 (2+kk*g.gr+j)) xs.length) (after:=[(F.A.V.last:Int)+1,((Ak F.A 0).1.V.last:Int)+1]) hp (TX hi _ _) ho (fun y hy=>by
  rw[l2'];rcases Lv.1 hy with rfl | hy
  ·omega
  ·have:=qA.1 hy
   rw[this,l1];omega)
 rw[hW];refine⟨s3,⟨by rw[v1],?_⟩,by rw[v1],?_⟩
 ·rw[show F.A.s.geo=g by rw[st.s],v1];exact hb
 ·rw[l3,l2']
def tC(F:Fy)(k b:Int)(j:Nat)(e:Dt)(af:List Int):Fy:=Ny F k b ((j*32:Nat):Int) (YQ e) (F.mi k++af)
theorem vX(F:Fy)(k:Int)(i:Nd)(xs:Bk):∀ j,F.A.V.last<=(BR F k i xs j).F.A.V.last
 | 0=>Le _
 | j+1=>by
  have h1:=vX F k i xs j;obtain⟨_,b1,_,_⟩:=QT (BR F k i xs j).F.A (BR F k i xs j).near;have h2:=(Hl (Ak (BR F k i xs j).F.A (BR F k i xs j).near).1.V (Ak (BR F k i xs j).F.A (BR F k i xs j).near).2.1 0 (Wv xs j) []).1;exact QK h1 (QK b1 h2)
section
variable{w w':World}{R R':Nat->Prop}{f a v d D:Nat}{F:Fy}{K:Value->World->Prop}{k b:Int}{i:Nd}{x:Bk}
theorem K1.addUp(_q:K1 F k i):F.A.V.last<=(Gs F k i).A.V.last:=by
 rw[XQ];exact QK (vX F k i BB 1) (Hl _ _ _ _ _).1
set_option maxRecDepth 4000 in
theorem AcO{e:Dt}{j:Nat}{af:List Int}{ad:Addr}{l4 c4:Nat}(h63:k<=9223372036854775807)(hD:Av w D 0 [Yo f])(hnD:¬ R D)(h:Fo R w f a v d F)(q:K2 F k i b x)(hj:j<8)(he:Mo e=true)(hlast:F.A.V.last+1<=1000000)(hml:(F.mi k).length+l4<=1000000)(hal:af.length=l4)(hl4:0<l4)(haf:∀ y∈af,1<=y/\y<=(F.A.V.last:Int))(hra:BG w (some ad) (iL af))(hao:¬ R ad.block)
  (hk:∀ w' R',Ab R w w'->Sb R R' w->Fo R' w' f a v d (tC F k b j e af)->K (.tuple #[Yn ((F.A.V.last:Int)+1),Yn 0]) w') :
  A7 Yt Eb #[Yo D,Yn k,Yn (j:Int),.agg ⟨eV e⟩,.slice (some ad) l4 c4] w K:=by
 apply Mt;unfold Ix;have hlt:=h.lt;have hd:=h.dlt;obtain⟨_,_,hnm⟩:=Ya he;obtain⟨w1,a1,a2,a3,a4⟩:=AB (P:=Yt) (w:=w) (T:=143) (cs:=eV e);refine⟨_,w1,a1,_,a2.at.all AK rfl,eO (by omega) (fun e=>by rw[he]at e;cases e) fun _ w2 qb m2 hqb hat=>⟨_,_,_,_,rfl,ff rfl ?_⟩⟩;have M2:Ab No w (Go.Den.Af w2):=(a3.no m2).drew;have h2:=h.nos M2;have D2:=hD.keep M2 id
 have hDl':D<(Go.Den.Af w2).heap.size:=D2.lt;have hl:=iU he;refine⟨_,rfl,_,D2.at.fld (j:=0) (v:=Yo f) B0 rfl,_,rfl,_,D2.at.fld (j:=0) (v:=Yo f) B0 rfl,PJ h2 (fun y hy=>(q.mu k y hy).1) (by omega) fun w3 R3 a' c' m3 s3 h3 o3 n3=>⟨_,_,_,rfl,?_⟩⟩;have D3:=D2.keep m3 hnD;have L3:=D3.at.fld (P:=Yt) (T:=50) (j:=0) (v:=Yo f) B0 rfl
 have zq:(Go.Den.Af w2).heap.size=w2.heap.size:=rfl;have z2':=M2.size;obtain⟨q',c'',w4,r1,r2,r3,r4⟩:=o3.appG (ty:=75) (m:=l4) (c2:=c4) (ad:=ad) (ys:=iL af) WL (by omega) ((hra.nos M2).keep m3 fun q e=>by cases e;exact hao) (by rw[Bu];omega) hl4 (HD af) (by omega) (by omega) (by have:=m3.size;omega);have eil:iL (F.mi k)++iL af=iL (F.mi k++af):=by simp[iL]
 rw[eil]at r2;have nS:∀{z:Nat},z<(Go.Den.Af w2).heap.size->¬ (fun x=>∃ q,a'=some q/\x=q.block) z:=fun h ⟨q,e,e2⟩=>by have:=(o3.base e).1;omega
 have nR4:∀ z,R3 z->¬ (fun x=>∃ q,a'=some q/\x=q.block) z:=fun z hz ⟨q,e,e2⟩=>n3 q e (e2 ▸ hz);have h4:=h3.keep r3 nR4 fun z ⟨q,e,e2⟩=>by have:=(o3.base e).1;omega
 have D4:=D3.keep r3 (nS hDl');have L4:=D4.at.fld (P:=Yt) (T:=50) (j:=0) (v:=Yo f) B0 rfl;refine⟨L3,_,_,_,w4,r1,L4,?_⟩;have e1:Yw (Int.tdiv (j:Int) 8)=((0:Nat):Int):=by
  rw[cF (by omega),Ag (by omega) (by omega)];omega
 have e2:Yw (Int.tmod (j:Int) 8*32)=((j*32:Nat):Int):=by
  rw[pJ (by omega),Ag (by omega) (by omega)];omega
 rw[e1,e2];have z1:=a3.size;have z3:=m3.size;have z4:=r3.size;have zb:qb<(Go.Den.Af w2).heap.size:=hat.drew.lt;have hbt:=hat.drew.keep m3 fun r=>by have:=hlt _ r;omega
 refine ZQ (data:=YQ e) (after:=F.mi k++af) (b:=b) (f0:=((j*32:Nat):Int)) h63 h4 q.mu (Ua q.dir) (by omega) ((QJ (fun y=>Nd.p (Prod.fst y) |>.getD 0 0) q.sl).trans q.pb) q.gk hlast (by omega) hl (by omega) (by omega) (by omega) (.inr ⟨qb,0,rfl,(hbt.keep r3 (nS zb)).at⟩) (fun q2 e'=>?_) (by rw[Lj];omega) (fun e'=>by cases e') (by omega) (fun y hy=>(Ln.1 hy).elim (fun hy=>(q.mu k y hy).2) (haf y)) r2.rowU.row (fun q2 e2 r=>?_) fun w5 R5 m5 s5 h5=>⟨_,_,rfl,hk w5 R5 ?_ ?_ h5⟩
 ·cases e';refine⟨fun r=>?_,by show qb<_;omega⟩;rcases s3 _ r with r | r
  ·have:=hlt _ r;have r:qb<w.heap.size:=this;omega
  ·have r:(Go.Den.Af w2).heap.size<=qb:=r;omega
 ·cases e2;rcases r4 with ⟨q0,e0,e1⟩ | r4
  ·rw[e1]at r;exact n3 q0 e0 r
  ·have:=h3.lt _ r;omega
 ·refine Ab.sb (((M2.mono fun _ _ e=>e.elim).trans m3 fun _ _ e=>e).trans r3 fun x hx ⟨q0,e0,e1⟩=>by have:=(o3.base e0).1;omega) (s3.up (by omega)) m5
 ·exact(s3.up (by omega)).trans (s5.up (Le _)) (by omega)
set_option maxRecDepth 4000 in
theorem wZ{nm:Bs}{s:Int}{af:List Int}{ad:Addr}{l4 c4:Nat}(h63:k<=9223372036854775807)(hD:Av w D 0 [Yo f])(hnD:¬ R D)(h:Fo R w f a v d F)(q:K1 F k i)(ok:gX F k i)(hnm:Mi nm=true)(hs:s≠0)(he:Mo ⟨s,false,nm⟩=true)(hal:af.length=l4)(hl4:0<l4)(hl5:l4<=1000)(haf0:∀ y∈af,1<=y/\y<=(F.A.V.last:Int))(hra:BG w (some ad) (iL af))(hao:¬ R ad.block/\ad.block<w.heap.size)(hmlk:(F.mi k).length<=900000)
  (hk:∀ w' R' y,Ab R w w'->Sb R R' w->Fo R' w' f a v d (tC (Gs F k i) k (Ak F.A 0).2.1 0 ⟨s,false,nm⟩ af)->K2 (Gs F k i) k (RW F i) (Ak F.A 0).2.1 BB->B2 (Gs F k i).A.V (Gs F k i).A.s.geo (Gs F k i).A.hs->y=((Gs F k i).A.V.last:Int)+1->K (.tuple #[Yn y,Yn 0]) w') :
  A7 Yt FP #[Yo D,Yn k,.string (sB nm),Yn s,.slice (some ad) l4 c4] w K:=by
 apply Uf;unfold MB;have hDl:=hD.lt;have hlt:=h.lt;have hnl:=(Xn hnm).2;have hw:E3 i:=by have:=Br F.A.V F.A.s.geo k;rw[q.sl]at this;exact this
 refine XX h63 hD h fun w1 R1 m1 s1 h1=>⟨_,_,rfl,?_⟩;rw[q.sl,q.dir];obtain⟨w2,b1,b2,b3,b4⟩:=Aw (P:=Yt) (w:=w1) (T:=69) AC;obtain⟨w3,c1,c2,c3,c4⟩:=b2.put (T:=69) (vs:=nV i) Am rfl (A4 hw) (Bl _);have M3:Ab No w1 w3:=b3.own c3 (Le _);refine⟨_,w2,b1,w3,c1,ff rfl (XY (by omega) fun w4 m4=>⟨_,rfl,ff (by rw[hnm];rfl) ?_⟩)⟩;have M4:=M3.no m4;have nD1:¬ R1 D:=fun r=>(s1 _ r).elim hnD fun e=>by omega
 have D4:=(hD.keep m1 hnD).keep M4 id;have h4:=h1.nos M4;refine Yf h63 D4 nD1 h4 (by rw[q.sl]) (fun e=>absurd q.dir e) (fun _=>q.ok) fun _ w5 R5 m5 s5 h5=>?_;rw[q.seek];refine⟨_,_,_,rfl,?_⟩;obtain⟨w6,d1,d2,d3,d4⟩:=Aw (P:=Yt) (w:=w5) (T:=143) CH;obtain⟨w7,e1,e2,e3,e4⟩:=d2.put (T:=143) (vs:=eV RI) AK rfl rfl (EC _);obtain⟨w8,f1,f2,f3,f4⟩:=Aw (P:=Yt) (w:=w7) (T:=143) CH
 obtain⟨w9,g1,g2,g3,g4⟩:=f2.put (T:=143) (vs:=eV ⟨s,false,nm⟩) AK rfl rfl (EC _);have M9:Ab No w5 w9:=(d3.own e3 (Le _)).no (f3.own g3 (Le _));refine⟨_,w6,d1,w7,e1,ff rfl ⟨_,Z8 s nm,_,w8,f1,w9,g1,_,g2.at.all AK rfl,eO (e:=⟨s,false,nm⟩) (by show nm.length<=_;omega) (fun e=>by rw[he]at e;cases e) fun _ w10 qb m10 _ _=>⟨_,_,_,_,rfl,Ad.dup (ff rfl ⟨_,rfl,?_⟩)⟩⟩⟩
 have M10:=M9.no m10;have nD5:¬ R5 D:=fun r=>(s5 _ r).elim nD1 fun e=>by have:=D4.lt;omega
 have D10:=(D4.keep m5 nD1).keep M10 id;have z1:=m1.size;have z4:=M4.size;have z5:=m5.size;have z7:w5.heap.size<=w7.heap.size:=(d3.own e3 (Le _)).size;have n1:¬ R1 w1.heap.size:=fun e=>by have:=h1.lt _ e;omega
 have q10:Av w10 w1.heap.size 0 (nV i):=((c2.keep m4 id).keep m5 n1).keep M10 id;have g10:=g2.keep m10 id;refine ff (by rw[Fm];exact Lh hs) ⟨_,q10.at.all Am (A4 hw),WK h63 D10 nD5 (h5.nos M10) q.dir (by rw[q.sl]) q.ok fun w12 R12 m12 s12 h12=>⟨_,rfl,?_⟩⟩;rw[q.free];have n7:¬ R5 w7.heap.size:=fun e=>by have:=h5.lt _ e;omega
 have n15:¬ R5 w1.heap.size:=fun e=>(s5 _ e).elim n1 fun e=>by have:=(c2.keep m4 id).lt;omega
 have q12:=q10.keep m12 n15;have nD12:¬ R12 D:=fun r=>(s12 _ r).elim nD5 fun e=>by have:=D10.lt;omega
 have D12:=D10.keep m12 nD5;refine Ad.dup (tt (by decide) ⟨_,q12.at.all Am (A4 hw),YR (by rw[q.sz];omega) (by rw[q.sz];omega) fun w13 m13=>⟨_,rfl,_,rfl,_,(D12.keep m13 id).drew.at.fld (j:=0) (v:=Yo f) B0 rfl,0,?_,?_⟩⟩)
 ·have:=(q12.keep m13 id).drew.at.fld (P:=Yt) (T:=2) (j:=2) (v:=Yn i.size) Bq rfl
  rw[q.sz]at this;exact this
 obtain⟨w14,u1,u2,u3,u4⟩:=Vp (w:=Go.Den.Af w13) (n:=256) (by omega);have M14:Ab No w12 w14:=m13.drew.no u3;have q14:=q12.keep M14 id;have h14:=h12.nos M14;refine⟨_,_,_,w14,u1,(D12.keep M14 id).at.fld (j:=0) (v:=Yo f) B0 rfl,?_,?_⟩
 ·have:=q14.at.fld (P:=Yt) (T:=2) (j:=2) (v:=Yn i.size) Bq rfl
  rw[q.sz]at this;exact this
 have zz:w12.heap.size<=(Go.Den.Af w13).heap.size:=m13.size;refine rZ (i:=i) (xs:=BB) h63 h14 q.mu q.sl (.inr q.kd) rfl (by omega) (by omega) (by omega) (.inr ⟨_,0,rfl,u2.at⟩) (fun q' e=>?_) (fun m hm=>?_) (by rw[q.sz];omega) (by rw[q.sz];omega) ok.fr (fun j hj=>?_) ok.no ok.la ok.ml ok.gp fun w15 R15 m15 s15 h15 hM haf hd=>⟨_,rfl,ff rfl ?_⟩
 ·cases e;exact⟨fun r=>by have r:R12 (Go.Den.Af w13).heap.size:=r;have:=h12.lt _ r;omega,by show(Go.Den.Af w13).heap.size<_;have:=u2.lt;exact this⟩
 ·have hm:m<1:=hm;rw[show m=0 by omega];exact q.pb
 ·have hj:j<1:=hj;rw[show j=0 by omega];exact⟨ok.bl,by show(0:Int)<=_;omega⟩
 obtain⟨d1',l1,l2,_⟩:=q.add ok hM haf hd;have h15:Fo R15 w15 f a v d (Gs F k i):=h15;rw[q.nb];refine⟨((0:Nat):Int),rfl,?_⟩;have n12:¬ R12 w7.heap.size:=fun e=>(s12 _ e).elim n7 fun e=>by have:=g10.lt;omega
 have n14:¬ R15 D:=fun r=>(s15 _ r).elim nD12 fun e=>by have:=(D12.keep M14 id).lt;omega
 have hl0:=ok.la;have lup:F.A.V.last<=(Gs F k i).A.V.last:=q.addUp;have nr1:¬ R1 ad.block:=fun r=>(s1 _ r).elim hao.1 fun e=>by have:=hao.2;omega
 have nr5:¬ R5 ad.block:=fun r=>(s5 _ r).elim nr1 fun e=>by have:=hao.2;omega
 have nr12:¬ R12 ad.block:=fun r=>(s12 _ r).elim nr5 fun e=>by have:=hao.2;have:=M10.size;omega
 have kr16:¬ R15 ad.block:=fun r=>(s15 _ r).elim nr12 fun e=>by have:=hao.2;have:=M10.size;have:=m12.size;have:=M14.size;omega
 have kr1:∀ q,some ad=some q->¬ R q.block:=fun q e=>by cases e;exact hao.1
 have kr5:∀ q,some ad=some q->¬ R1 q.block:=fun q e=>by cases e;exact nr1
 have kr12:∀ q,some ad=some q->¬ R5 q.block:=fun q e=>by cases e;exact nr5
 have kr15:∀ q,some ad=some q->¬ R12 q.block:=fun q e=>by cases e;exact nr12
 have hm0:=ok.ml;refine⟨_,(((g10.keep m12 n7).keep M14 id).keep m15 n12).at.all AK rfl,AcO (e:=⟨s,false,nm⟩) (af:=af) h63 ((D12.keep M14 id).keep m15 nD12) n14 h15 d1' (by omega) he (by omega) (by omega) hal hl4 (fun y hy=>⟨(haf0 y hy).1,by have:=(haf0 y hy).2;omega⟩) ((((((hra.keep m1 kr1).nos M4).keep m5 kr5).nos M10).keep m12 kr12 |>.nos M14).keep m15 kr15) kr16 fun w16 R16 m16 s16 h16=>⟨_,_,rfl,hk w16 R16 _ ?_ ?_ h16 d1' h15.hd.1 rfl⟩⟩
 ·exact Ab.sb (Ab.sb (Ab.sb (Ab.sb (m1.no M4) s1 (m5.no M10)) (s1.trans (s5.up z4) z1) (m12.no M14)) (s1.trans ((s5.up z4).trans (s12.up M10.size) (by omega)) z1) m15) (s1.trans (((s5.up z4).trans (s12.up M10.size) (by omega)).trans (s15.up M14.size) (by have:=m12.size;have:=M10.size;omega)) z1) m16
 ·have z12:=m12.size;have z10:=M10.size;have z14:=M14.size;have z15:=m15.size;exact s1.trans ((((s5.up z4).trans (s12.up z10) (by omega)).trans (s15.up z14) (by omega)).trans (s16.up (Le _)) (by omega)) z1
end
section
variable{w w':World}{R R':Nat->Prop}{f a v d n t D mg mb:Nat}{F:Fy}{A:Az}{K:Value->World->Prop}{op:List Int}{Lg Lb:List (Int×Value)}
theorem qK{b m:Int}(h63:b<=9223372036854775807)(h:Ao R w a v d A)(hn:A.W.length<=4999)(hk:∀ w' R' W' r,Ab R w w'->Sb R R' w->Ao R' w' a v d ⟨A.s,A.V,W',A.nx,A.hs,A.fz⟩->K (Yn r) w') :
  A7 Yt Dm #[Yo a,Yn b,Yn m] w K:=by
 have hg:=h.ok;obtain⟨s1,s2,s3,s4⟩:=uZ hg b;obtain⟨k,hkk⟩:=dG s1;obtain⟨j,hj⟩:=dG s3;have hk0:(k:Int)<A.s.geo.gs:=by omega
 have j128:j<128:=by omega
 obtain⟨x,hx1,hx2,hx3,hx4,hx5⟩:=h.hdOf hk0;apply KQ;unfold FI;have hda:=h.dlt;have hkL:∀{w4 w':World}{R3 R':Nat->Prop}{th tk:Bool}{r:Int},Ab R w w4->Sb R R3 w->Ab R3 w4 w'->Sb R3 R' w4->Ao R' w' a v d (GH A (2,b) th tk m).1->K (Yn r) w':=fun {w4 w' R3 R' th tk r} m1 s1 m2 s2 hA=>by
  have:=hk w' R' (GH A (2,b) th tk m).1.W r (Ab.sb m1 s1 m2) (s1.trans s2 m1.size)
  refine this ?_;have e:(GH A (2,b) th tk m).1=⟨A.s,A.V,(GH A (2,b) th tk m).1.W,A.nx,A.hs,A.fz⟩:=by
   unfold GH;split
   ·rfl
   ·split<;>rfl
  rw[<- e];exact hA
 refine ff rfl (qN h63 h fun w1 m1=>⟨_,_,rfl,?_⟩);rw[hkk,hj]at *;generalize (OA A.s.geo b).2.2=t at *;obtain⟨w2,b1,b2,b3,b4⟩:=Aw (P:=Yt) (w:=w1) (T:=112) Ii;obtain⟨w3,c1,c2,c3,c4⟩:=b2.put (T:=112) (vs:=pV ((k:Int),(j:Int))) Bi rfl rfl (IN _);have z1:=m1.size;have m3:Ab No w (Go.Den.Af w3):=(m1.no (b3.own c3 (Le _))).drew;have h3:=h.nos m3;have q1:Av (Go.Den.Af w3) w1.heap.size 0 (pV ((k:Int),(j:Int))):=c2.drew
 have zq:=q1.lt;have z3:=m3.size;have n1:¬ R w1.heap.size:=fun e=>by have:=h.lt _ e;omega
 refine⟨_,w2,b1,w3,c1,_,rfl,_,h3.pv,_,q1.at.fld (v:=Yn (k:Int)) Ah rfl,?pA,?pB⟩
 case' pA =>
  refine NI h3 fun w4 R3 m4 s4 h4 _=>?_;rw[hx1];have z4:=m4.size;obtain⟨w5,d1,d2,d3,d4⟩:=Aw (P:=Yt) (w:=w4) (T:=171) Bh;obtain⟨w6,e1,e2,e3,e4⟩:=d2.put (T:=171) (vs:=hV x) Aq rfl (Ap hx5) (Co _);have T1:Ab R w w6:=(m3.mono fun _ _ e=>e.elim).trans (m4.no (d3.own e3 (Le _))) fun x _ e=>e;have T2:Sb R R3 w:=s4.up z3;have T3:Ao R3 w6 a v d A:=h4.nos (d3.own e3 (Le _))
  have q14:=(q1.keep m4 n1).keep d3 id;have T5:Av w6 w1.heap.size 0 (pV ((k:Int),(j:Int))):=q14.keep e3 (fun e=>by have e:w1.heap.size=w4.heap.size:=e;omega);refine⟨_,_,rfl,_,w5,d1,(h4.nos d3).pv,q14.at.fld (v:=Yn (k:Int)) Ah rfl,w6,e1,?_⟩;generalize w4.heap.size=q at *
 case' pB =>
  obtain⟨w5,d1,d2,d3,d4⟩:=Aw (P:=Yt) (w:=Go.Den.Af w3) (T:=171) Bh;refine⟨_,w5,d1,(h3.nos d3).pv,(q1.keep d3 id).at.fld (v:=Yn (k:Int)) Ah rfl,NI (h3.nos d3) fun w4 R3 m4 s4 h4 _=>?_⟩;rw[hx1];have z4:=m4.size;have nq:¬ R (Go.Den.Af w3).heap.size:=fun e=>by have:=h.lt _ e;omega
  have nq3:¬ R3 (Go.Den.Af w3).heap.size:=fun e=>by
   rcases s4 _ e with e|e
   ·exact nq e
   ·omega
  obtain⟨w6,e1,e2,e3,e4⟩:=(d2.keep m4 nq).put (T:=171) (vs:=hV x) Aq rfl (Ap hx5) (Co _);have T1:Ab R w w6:=(((m3.no d3).mono fun _ _ e=>e.elim).trans m4 fun x _ e=>e).trans e3 fun x hx e=>by have e:x=(Go.Den.Af w3).heap.size:=e;omega
  have T2:Sb R R3 w:=s4.up (by omega);have T3:Ao R3 w6 a v d A:=h4.own e3 nq3 (by omega);have T5:Av w6 w1.heap.size 0 (pV ((k:Int),(j:Int))):=((q1.keep d3 id).keep m4 n1).keep e3 (fun e=>by have e:w1.heap.size=(Go.Den.Af w3).heap.size:=e;omega);refine⟨_,_,rfl,w6,e1,?_⟩;generalize (Go.Den.Af w3).heap.size=q at *
 all_goals
  have ad1:Addr.add ⟨q,0,none⟩ 17=⟨q,17,none⟩:=by rw[Ae]
  rw[ad1];have hb:=e2.drew.at.sub (i:=17) (m:=8) (by rw[Ap hx5];omega);rw[Ve hx5]at hb;refine⟨_,_,_,AN TI,_,T5.drew.at.fld (v:=Yn (j:Int)) Ah rfl,QS (xs:=x.ss) hx5.2 (.inr ⟨_,_,rfl,hb⟩) (by omega) (by omega) fun w7 m7=>⟨_,rfl,Ad.dup ⟨_,lS 2 b,?_⟩⟩⟩;have m67:Ab No w6 w7:=(Ab.refl _ _).drew.no m7;cases t with
  | true=>exact Zu (T3.nos m67) hn fun w8 R8 m8 s8 h8=>⟨_,rfl,_,rfl,hkL (T1.no m67) T2 m8 s8 h8⟩
  | false=>exact Zu (T3.nos m67) hn fun w8 R8 m8 s8 h8=>⟨_,rfl,_,rfl,hkL (T1.no m67) T2 m8 s8 h8⟩
theorem YK{i:Nat}(N:H4 R w n t D f mg mb op Lg Lb)(hi:i<8)(hk:K (.tuple #[Yn (op.getD i 0),Yn (if op.getD i 0=0 then 30 else 0)]) w)(hz:op.getD i 0=0->K (.tuple #[Yn 0,Yn 30]) w):A7 Yt BL #[Yo n,Yn (i:Int)] w K:=by
 apply IW;unfold FJ;obtain⟨ix,ld⟩:=N.ldO hi;refine ff rfl (Ad.dup (ff (Lh (by omega)) (ff (Lh (by omega)) ⟨_,rfl,_,ix,_,ld,_,rfl,?_⟩)));rw[Fm];refine Aa (fun h=>hz (Ld h)) (fun h=>⟨_,rfl,_,ix,_,ld,?_⟩);have h:=Lc h;rw[if_neg h]at hk;exact hk
def Mp(op:List Int)(k:Int):Nat->Int
 | 0=>0
 | i+1=>if op.getD i 0≠0/\op.getD i 0=k then Mp op k i+1 else Mp op k i
theorem tX(op:List Int)(k:Int):∀ i:Nat,0<=Mp op k i/\Mp op k i<=i
 | 0=>⟨qD _,qD _⟩
 | i+1=>by
  have:=tX op k i
  rw[Mp];split<;>omega
theorem bA{k:Int}(N:H4 R w n t D f mg mb op Lg Lb)(hk:K (Yn (Mp op k 8)) w):A7 Yt B9 #[Yo n,Yn k] w K:=by
 apply Im;unfold EZ;refine⟨fun x W=>∃(i:Nat)(y:Value),x=[Yn (Mp op k i),Yn i,y]/\i<=8/\W=w,fun x _=>(8-nI x 1).toNat,⟨0,_,rfl,qE _,rfl⟩,?_⟩;rintro x W ⟨i,y,rfl,hi,rfl⟩;refine⟨_,rfl,Aa (fun hb=>?_) (fun hb=>?_)⟩
 ·have hb:=Ld hb;have hb8:=tX op k i;have nxt:∀ z:Value,∀ m:Int,m=Mp op k (i+1)->(∃(i':Nat)(y:Value),[Yn m,Yn (Yw ((i:Int)+1)),z]=[Yn (Mp op k i'),Yn i',y]/\i'<=8/\W=W)/\(8-nI [Yn m,Yn (Yw ((i:Int)+1)),z] 1).toNat<(8-nI [Yn (Mp op k i),Yn (i:Int),y] 1).toNat:=fun z m hm=>by
   rw[Ag (x:=(i:Int)+1) (by omega) (by omega),hm];exact⟨⟨i+1,_,rfl,by omega,rfl⟩,by simp[nI,A2];omega⟩
  by_cases h0:op.getD i 0=0
  ·have e:Mp op k (i+1)=Mp op k i:=by rw[Mp,if_neg fun x=>x.1 h0]
   have go:∀ m1:Int,∃ n15a n15b:Int,(.tuple #[Yn m1,Yn 30]:Value)=.tuple #[Yn n15a,Yn n15b]/\n15b=30:=fun m1=>⟨_,_,rfl,rfl⟩;refine YK N (by omega) ?_ (fun _=>⟨_,_,rfl,Ad.dup (ff rfl ⟨_,rfl,Ad.dup (ff rfl (nxt _ _ e.symm))⟩)⟩);rw[if_pos h0];exact⟨_,_,rfl,Ad.dup (ff rfl ⟨_,rfl,Ad.dup (ff rfl (nxt _ _ e.symm))⟩)⟩
  ·refine YK N (by omega) ?_ (fun x=>absurd x h0);rw[if_neg h0];refine⟨_,_,rfl,Ad.dup (tt rfl ⟨_,rfl,Ad.dup (Aa (fun h1=>⟨_,rfl,?_⟩) (fun h1=>?_))⟩)⟩
   ·have h1:op.getD i 0=k:=by simpa using h1
    rw[Ag (x:=Mp op k i+1) (by omega) (by omega)];exact nxt _ _ (by rw[Mp,if_pos ⟨h0,h1⟩])
   ·have h1:¬ op.getD i 0=k:=by simpa using h1
    exact nxt _ _ (by rw[Mp,if_neg fun x=>h1 x.2])
 ·have hb:=Lc hb;have:i=8:=by omega
  subst this;exact⟨_,rfl,hk⟩
theorem xX{i:Nd}{p0:Option Addr}{v2:Value}(hv2:v2.cells=⟨[v2]⟩)(hw:E3 i)(hp:∀ m,m<8->i.p.getD m 0=0)(hk:∀ w',Ab No w w'->K (.tuple #[]) w'):A7 Yt FR #[.pointer p0,.agg ⟨nV i⟩,v2] w K:=by
 apply Qs;unfold Jk;have hl:i.p.length=8:=hw;obtain⟨w1,a1,a2,a3,a4⟩:=Md (P:=Yt) (w:=w) (T:=50) (v:=.pointer p0) rfl;obtain⟨w2,b1,b2,b3,b4⟩:=AB (P:=Yt) (w:=w1) (T:=69) (cs:=nV i);obtain⟨w3,c1,c2,c3,c4⟩:=Md (P:=Yt) (w:=w2) (T:=250) (v:=v2) hv2;obtain⟨w4,d1,d2,d3,d4⟩:=Aw (P:=Yt) (w:=w3) (T:=250) wA;obtain⟨w5,e1,e2,e3,e4⟩:=d2.put1 (P:=Yt) (T:=250) (v:=.func (.func CO) #[] #[Yo w2.heap.size,Yo w.heap.size,Yo w3.heap.size]) YF rfl
 have M4:Ab No w w4:=((a3.no b3).no c3).no d3;have M5:Ab No w w5:=M4.own e3 (by omega);have p4:Av w5 w1.heap.size 0 (nV i):=((b2.keep c3 id).keep d3 id).keep e3 (by show ¬ w1.heap.size=w3.heap.size;omega);have hw6:D5 Yt 67=some 6:=by kernel_rfl
 refine⟨_,w1,a1,_,w2,b1,_,w3,c1,_,w4,d1,w5,e1,⟨iL (i.p.take 6)⟩,p4.at.fldA (j:=4) (n:=6) hw6 (by rw[A4 hw];omega) (Ae1 hw),?_⟩;refine⟨fun x W=>∃ m:Nat,x=[Yn m]/\m<=6/\W=w5,fun x _=>(6-nI x 0).toNat,⟨0,rfl,qE _,rfl⟩,?_⟩;rintro x W ⟨m,rfl,hm,rfl⟩;refine⟨_,rfl,Aa (fun hb=>?_) (fun hb=>?_)⟩
 ·have hb:=Ld hb;have hnp:m<(i.p.take 6).length:=by rw[pK];omega
  have ev:(i.p.take 6)[m]=i.p.getD m 0:=by
   rw[List.getElem_take,Lp,XM (by omega)];rfl
  have hix:=Ig (P:=Yt) (k:=.i64) Tryz.underlying67 qT Tryz.underlying3 (by simp) (by simp) (by omega) (Kb hnp);rw[ev]at hix;refine⟨i.p.getD m 0,hix,_,e2.at.one YF,.func _,#[],_,rfl,XZ (hp m (by omega)) ⟨rfl,?_⟩⟩;rw[Ag (x:=(m:Int)+1) (by omega) (by omega)];exact⟨⟨m+1,rfl,by omega,rfl⟩,by simp[nI,A2];omega⟩
 ·exact⟨_,e2.at.one YF,i.p.getD 6 0,p4.at.fld (j:=10) Ah (yY hw (n:=6) (by omega)),.func _,#[],_,rfl,XZ (hp 6 (by omega)) ⟨rfl,_,e2.at.one YF,i.p.getD 7 0,p4.at.fld (j:=11) Ah (yY hw (n:=7) (by omega)),.func _,#[],_,rfl,XZ (hp 7 (by omega)) ⟨rfl,hk _ M5⟩⟩⟩
end
theorem dV(a b c e:Int):Al (Instr.build 29 #[(0,Yn a),(1,Yn b),(2,Yn c),(3,Yn e)]) (.agg ⟨iL [a,b,c,e]⟩):=fun w=>by kernel_rfl
theorem Td:Al (Instr.build 29 #[]) (.agg ⟨iL [0,0,0,0]⟩):=fun w=>by kernel_rfl
theorem KP:Hs Yt 29=some (iL [0,0,0,0]):=by kernel_rfl
theorem IJ:D5 Yt 29=some 4:=by kernel_rfl
section
variable{w w':World}{R R':Nat->Prop}{f a v d n t D mg mb:Nat}{F:Fy}{K:Value->World->Prop}{op:List Int}{Lg Lb:List (Int×Value)}
theorem zH{k:Int}(h63:k<=9223372036854775807)(N:H4 R w n t D f mg mb op Lg Lb)(h:Fo R w f a v d F)(ht:OZ F k=0)(hd:(A1 F.A.V F.A.s.geo k).1.kind=2)(hk:∀ w' R',Ab R w w'->Sb R R' w->Fo R' w' f a v d F->K (.tuple #[Yn 0,Yn 22]) w') :
  A7 Yt BK #[Yo n,Yn k] w K:=by
 apply FH;unfold DP;have hw:=Br F.A.V F.A.s.geo k;refine NB h63 N h fun w1 R1 m1 s1 h1=>⟨_,_,rfl,?_⟩;obtain⟨w2,b1,b2,b3,b4⟩:=Aw (P:=Yt) (w:=w1) (T:=69) AC;obtain⟨w3,c1,c2,c3,c4⟩:=b2.put (T:=69) (vs:=nV (A1 F.A.V F.A.s.geo k).1) Am rfl (A4 hw) (Bl _);have M3:Ab No w1 w3:=b3.own c3 (Le _);refine⟨_,w2,b1,w3,c1,ff (by rw[ht];rfl) ⟨(A1 F.A.V F.A.s.geo k).1.kind,c2.at.fld (j:=0) (v:=Yn (A1 F.A.V F.A.s.geo k).1.kind) Ah rfl,tt (by rw[hd];rfl) (hk w3 R1 (m1.no M3) s1 (h1.nos M3))⟩⟩
theorem zI{k:Int}(h63:k<=9223372036854775807)(N:H4 R w n t D f mg mb op Lg Lb)(h:Fo R w f a v d F)(hdn:d<=n)(hlo:n<w.heap.size)(ht:OZ F k=0)(hd:(A1 F.A.V F.A.s.geo k).1.kind=1)(ho:op.getD 0 0=0)
  (hk:∀ w' R',Ab (fun z=>R z\/z=n) w w'->Sb R R' w->Fo R' w' f a v d F->H4 R' w' n t D f mg mb (op.set 0 k) Lg Lb->K (.tuple #[Yn 0,Yn 0]) w') :
  A7 Yt BK #[Yo n,Yn k] w K:=by
 apply FH;unfold DP;have hw:=Br F.A.V F.A.s.geo k;refine NB h63 N h fun w1 R1 m1 s1 h1=>⟨_,_,rfl,?_⟩;obtain⟨w2,b1,b2,b3,b4⟩:=Aw (P:=Yt) (w:=w1) (T:=69) AC;obtain⟨w3,c1,c2,c3,c4⟩:=b2.put (T:=69) (vs:=nV (A1 F.A.V F.A.s.geo k).1) Am rfl (A4 hw) (Bl _);have M3:Ab No w1 w3:=b3.own c3 (Le _);have N3:=(N.mv m1 s1).nos M3
 obtain⟨ix,ld⟩:=N3.ldO (i:=0) (by omega);obtain⟨w4,u1,N4,h4,m4⟩:=N3.setO (h1.nos M3) hdn (i:=0) (by omega) k;have ld':Ru (Instr.loadAt 3 (.pointer (some ⟨n,3+0,none⟩))) w3 (Yn 0) w3:=by rw[ho]at ld;exact ld
 refine⟨_,w2,b1,w3,c1,ff (by rw[ht];rfl) ⟨_,c2.at.fld (j:=0) (v:=Yn (A1 F.A.V F.A.s.geo k).1.kind) Ah rfl,ff (by rw[hd];rfl) ⟨_,c2.at.fld (j:=0) (v:=Yn (A1 F.A.V F.A.s.geo k).1.kind) Ah rfl,ff (by rw[hd];rfl) ?_⟩⟩⟩;refine⟨fun x W=>x=[Yn 0]/\W=w3,fun _ _=>0,⟨rfl,rfl⟩,?_⟩;rintro x W ⟨rfl,rfl⟩;refine⟨0,rfl,tt rfl ⟨_,rfl,_,ix,0,ld',tt rfl ⟨_,rfl,_,ix,w4,u1,hk w4 R1 ?_ s1 h4 N4⟩⟩⟩
 exact((m1.no M3).mono fun x _ e=>.inl e).trans m4 fun x _ e=>.inr e
theorem mN{k:Int}(h63:k<=9223372036854775807)(N:H4 R w n t D f mg mb op Lg Lb)(h:Fo R w f a v d F)(hE:Dd F k≠0)(hk:∀ w' R',Ab R w w'->Sb R R' w->Fo R' w' f a v d F->K (.bool false) w'):A7 Yt EB #[Yo n,Yn k] w K:=by
 apply Ot;unfold HN;refine⟨_,rfl,_,N.ldD,eU h63 N.De h hE fun w1 R1 m1 s1 h1=>⟨_,_,_,_,rfl,Ad.dup (ff (by rw[Fm];exact Lh hE) ⟨_,rfl,hk w1 R1 m1 s1 h1⟩)⟩⟩
def Mh(i:Nd):Nd:=⟨i.kind,0,i.size,i.id,i.p⟩
set_option maxRecDepth 4000 in
theorem yP{k m:Int}{i:Nd}(h63:k<=9223372036854775807)(N:H4 R w n t D f mg mb op Lg Lb)(h:Fo R w f a v d F)(hdg:d<=mg)(hM:ON F)(ht:OZ F k=0)(hi:(A1 F.A.V F.A.s.geo k).1=i)(hl:i.links=1)(ho:0<Mp op k 8)(hok:O7 (Mh i)=true)(hp:(Au F.A.s.geo k).2.2=0)(hm:1<=m/\m<=(F.A.V.last:Int))(hlast:F.A.V.last+1<=1000000)(hml:(F.mi k).length<=1000000)
  (hk:∀ w' R',Ab (fun z=>R z\/z=mg) w w'->Sb R R' w->Fo R' w' f a v d (Kf F k (Mh i) [m])->H4 R' w' n t D f mg mb op (Kg k (Yn m) Lg) Lb->K (Yn 0) w') :
  A7 Yt DX #[Yo n,Yn k,Yn m] w K:=by
 apply Q1;unfold Ju;have hw:E3 i:=by rw[<- hi];exact Br _ _ _
 refine NB h63 N h fun w1 R1 m1 s1 h1=>⟨_,_,rfl,?_⟩;rw[hi];obtain⟨w2,b1,b2,b3,b4⟩:=Aw (P:=Yt) (w:=w1) (T:=69) AC;obtain⟨w3,c1,c2,c3,c4⟩:=b2.put (T:=69) (vs:=nV i) Am rfl (A4 hw) (Bl _);have M3:Ab No w1 w3:=b3.own c3 (Le _);have h3:=h1.nos M3;have N3:=(N.mv m1 s1).nos M3;have n1:¬ R1 w1.heap.size:=fun e=>by have:=h1.lt _ e;omega
 have dl:=h1.dlt;have l1:Ru (Instr.loadAt 3 (.pointer (some (Addr.add ⟨w1.heap.size,0,none⟩ 1)))) w3 (Yn 1) w3:=by
  have:=c2.at.fld (P:=Yt) (T:=3) (j:=1) (v:=Yn i.links) Ah rfl
  rw[hl]at this;exact this
 refine⟨_,w2,b1,w3,c1,ff (by rw[ht];rfl) (Ad.dup ⟨1,l1,ff rfl (bA N3 ⟨_,rfl,_,rfl,tt (Li (by omega)) ⟨1,l1,?_⟩⟩)⟩)⟩;obtain⟨w6,e1,e2,e3,e4⟩:=c2.putF (P:=Yt) (T:=3) (j:=1) (v:=Yn 0) Ah (by rw[A4 hw];omega) rfl;have e2:Av w6 w1.heap.size 0 (nV (Mh i)):=e2;have hwL:E3 (Mh i):=hw;have ew:(if 0 > (Yw (1-1))then 0 else(Yw (1-1)))=(0:Int):=by rw[Ag (by omega) (by omega)];rfl
 rw[ew];have nn:w1.heap.size≠n/\w1.heap.size≠D/\w1.heap.size≠mg/\w1.heap.size≠mb:=by
  have N1:=N.mv m1 s1
  have:=N1.ce.lt;have:=N1.De.lt;have:=N1.gm.lt;have:=N1.bm.lt
  exact⟨by omega,by omega,by omega,by omega⟩
 have N6:=N3.keep e3 (fun e=>nn.1 e.symm) (fun e=>nn.2.1 e.symm) (fun e=>nn.2.2.1 e.symm) (fun e=>nn.2.2.2 e.symm);have h6:=h3.own e3 n1 (by omega);obtain⟨w7,u1,u2,u3,u4⟩:=Fz (P:=Yt) (k:=k) (v:=Yn m) tH N6.gm;obtain⟨d1,d2,d3,d4,d5,d6⟩:=N6.df;have N7:H4 R1 w7 n t D f mg mb op (Kg k (Yn m) Lg) Lb:=⟨N6.ol,N6.ce.keep u3 d2,N6.De.keep u3 d4,u2,N6.bm.keep u3 fun e=>d6 e.symm,N6.nr,N6.df⟩
 have h7:=h6.own u3 N6.nr.2.2.1 hdg;have md:Ab No w7 (Go.Den.Af w7):=(Ab.refl _ _).drew;have e7:=(e2.keep u3 nn.2.2.1).drew;have ma:Ab No (Go.Den.Af w7) ((Go.Den.Af w7).alloc (.cells ⟨[Yn m]⟩ 2)):=(Ab.refl No _).alloc _;have pa:Av ((Go.Den.Af w7).alloc (.cells ⟨[Yn m]⟩ 2)) (Go.Den.Af w7).heap.size 0 (iL [m]):=Av.new;refine⟨w6,e1,0,e2.at.fld (j:=1) (v:=Yn 0) Ah rfl,Ad.dup (tt rfl ⟨_,rfl,_,N6.ldG,w7,u1,_,rfl,_,(N7.nos md).ldF,_,e7.at.all Am (A4 hwL),_,_,_,_,K7 _ m,?_⟩)⟩
 have N8:=(N7.nos md).nos ma;have h8:=(h7.nos md).nos ma;have e8:=e7.keep ma id;generalize (Go.Den.Af w7).alloc (.cells ⟨[Yn m]⟩ 2)=w8 at *;have z1:=m1.size;have z8:=ma.size;have z7:=u3.size;have z6:=e3.size;have z3:=M3.size;have zd:(Go.Den.Af w7).heap.size=w7.heap.size:=rfl;refine⟨N8.ldF,e8.at.all Am (A4 hwL),Ye (k:=k) (i:=Mh i) (after:=[m]) h63 h8 hM hwL hok hp hlast hml rfl (fun e=>by cases e) (by omega) (fun y hy=>by have:=qA.1 hy;rw[this];exact hm) (.inr ⟨_,0,rfl,pa.at⟩) fun w9 R9 m9 s9 h9=>⟨_,_,rfl,hk w9 R9 ?_ ?_ h9 (N8.mv m9 s9)⟩⟩
 ·refine(((((m1.no M3).mono fun x _ e=>.inl e).trans e3 fun x hx e=>by have e:x=w1.heap.size:=e;omega).trans u3 fun x _ e=>.inr e).no (md.no ma)).trans m9 fun x hx e=>?_;exact(s1 x e).elim .inl fun e=>by omega
 ·exact s1.trans (s9.up (by omega)) z1
theorem Ac3{k:Int}{i:Nd}{b s:Int}{x:Bk}{nm:Bs}{j:Nat}(h63:k<=9223372036854775807)(hs63:s<=9223372036854775807)(N:H4 R w n t D f mg mb op Lg Lb)(h:Fo R w f a v d F)(q:K2 F k i b x)(hf:EH x nm 8=some j)(hes:(H8 (Gf x j)).1.s=s)(hE:Dd F s≠0)(hlast:F.A.V.last+1<=1000000)(hml:(F.mi k).length<=1000000)
  (hk:∀ w' R',Ab R w w'->Sb R R' w->Fo R' w' f a v d (AcP F k b j RI)->H4 R' w' n t D f mg mb op Lg Lb->A7 Yt DX #[Yo n,Yn s,Yn ((F.A.V.last:Int)+1)] w' fun r62 w5=>∃ n62:Int,r62=Yn n62/\K (Yn n62) w5) :
  A7 Yt Ce #[Yo n,Yn k,.string (sB nm)] w K:=by
 apply Gw;unfold Ep;refine ff rfl ⟨_,rfl,_,N.ldD,QW h63 N.De N.nr.2.1 h (by rw[q.sl]) (fun _=>q.ok) fun w1 R1 y m1 s1 h1=>⟨_,_,rfl,?_⟩⟩;have N1:=N.mv m1 s1;refine ff (by rw[q.dir];rfl) ⟨_,rfl,_,N1.ldD,Sl h63 N1.De N1.nr.2.1 h1 (by rw[q.sl]) (fun _=>q.ok) (fun e=>absurd q.dir e) fun _ w2 R2 y2 m2 s2 h2=>⟨_,_,_,rfl,?_⟩⟩;have eS:kK (Gp F i nm (Sx i))=(s,0):=by rw[q.seek,hf];show((H8 (Gf x j)).1.s,(0:Int))=_;rw[hes]
 rw[eS];have N2:=N1.mv m2 s2;refine ff rfl (mN hs63 N2 h2 hE fun w3 R3 m3 s3 h3=>⟨_,rfl,ff rfl ?_⟩);have N3:=N2.mv m3 s3;refine⟨_,rfl,_,N3.ldD,uI h63 N3.De N3.nr.2.1 h3 q hf hlast hml fun w4 R4 m4 s4 h4=>⟨_,_,rfl,ff rfl ?_⟩⟩;exact hk w4 R4 (Ab.sb (Ab.sb (Ab.sb m1 s1 m2) (s1.trans s2 m1.size) m3) (s1.trans (s2.trans s3 m2.size) m1.size) m4) (s1.trans (s2.trans (s3.trans s4 m3.size) m2.size) m1.size) h4 (N3.mv m4 s4)
theorem AcE{k:Int}{s:ByteArray}(h63:k<=9223372036854775807)(N:H4 R w n t D f mg mb op Lg Lb)(h:Fo R w f a v d F)(hE:Dd F k≠0)(hk:∀ w' R',Ab R w w'->Sb R R' w->Fo R' w' f a v d F->K (Yn (Dd F k)) w'):A7 Yt Ce #[Yo n,Yn k,.string s] w K:=by
 apply Gw;unfold Ep;exact ff rfl ⟨_,rfl,_,N.ldD,QW h63 N.De N.nr.2.1 h rfl (fun e=>absurd e hE) fun w1 R1 y m1 s1 h1=>⟨_,_,rfl,tt (by rw[DN];exact Li hE) (hk w1 R1 m1 s1 h1)⟩⟩
theorem kO{k:Int}{i:Nd}(h63:k<=9223372036854775807)(N:H4 R w n t D f mg mb op Lg Lb)(h:Fo R w f a v d F)(hi:(A1 F.A.V F.A.s.geo k).1=i)
  (hk:OZ F k=0->∀ w' R',Ab R w w'->Sb R R' w->Fo R' w' f a v d F->K (.tuple #[.agg ⟨iL [i.id,i.kind,i.size,i.links]⟩,Yn 0]) w') (hk0:OZ F k≠0->∀ w' R',Ab R w w'->Sb R R' w->Fo R' w' f a v d F->K (.tuple #[.agg ⟨iL [0,0,0,0]⟩,Yn (OZ F k)]) w') :
  A7 Yt CA #[Yo n,Yn k] w K:=by
 apply IX;unfold FK;have hw:E3 i:=by rw[<- hi];exact Br _ _ _
 obtain⟨w1,a1,a2,a3,a4⟩:=Aw (P:=Yt) (w:=w) (T:=29) KP;have hlt:=h.lt;have hd:=h.dlt;refine⟨_,w1,a1,NB h63 (N.nos a3) (h.nos a3) fun w2 R2 m2 s2 h2=>⟨_,_,rfl,?_⟩⟩;rw[hi];obtain⟨w3,b1,b2,b3,b4⟩:=Aw (P:=Yt) (w:=w2) (T:=69) AC;obtain⟨w4,c1,c2,c3,c4⟩:=b2.put (T:=69) (vs:=nV i) Am rfl (A4 hw) (Bl _);have M4:Ab No w2 w4:=b3.own c3 (Le _);have n1:¬ R w.heap.size:=fun e=>by have:=hlt _ e;omega
 have n2:¬ R2 w.heap.size:=fun e=>(s2 _ e).elim n1 fun e=>by omega
 have q4:=(a2.keep m2 n1).keep M4 id;have h4:=h2.nos M4;have MM:Ab R w w4:=((a3.mono fun _ _ e=>e.elim).trans m2 fun _ _ e=>e).no M4;have fin:∀ l:List Int,l.length=4->∃ w5,Gr (Instr.storeAt 29 (Yo w.heap.size) (.agg ⟨iL l⟩)) w4 w5/\Ru (Instr.loadAt 29 (Yo w.heap.size)) w5 (.agg ⟨iL l⟩) w5/\Ab R w w5/\Fo R2 w5 f a v d F:=fun l hl=>by
  obtain⟨w5,e1,e2,e3,e4⟩:=q4.put (T:=29) (vs:=iL l) IJ rfl (by rw[Bu,hl]) (HD _);exact⟨w5,e1,e2.at.all IJ (by rw[Bu,hl]),MM.trans e3 fun x hx e=>by have e:x=w.heap.size:=e;omega,h4.own e3 n2 (by omega)⟩
 refine⟨_,w3,b1,w4,c1,?_⟩;rw[DN];refine Aa (fun hE=>?_) (fun hE=>?_)
 ·obtain⟨w5,e1,e2,e3,e4⟩:=fin [0,0,0,0] rfl;exact⟨_,Td,w5,e1,_,e2,hk0 (Ld hE) w5 R2 e3 (s2.up a3.size) e4⟩
 ·obtain⟨w5,e1,e2,e3,e4⟩:=fin [i.id,i.kind,i.size,i.links] rfl;exact⟨_,c2.at.fld (j:=3) (v:=Yn i.id) Bq rfl,_,c2.at.fld (j:=0) (v:=Yn i.kind) Ah rfl,_,c2.at.fld (j:=2) (v:=Yn i.size) Bq rfl,_,c2.at.fld (j:=1) (v:=Yn i.links) Ah rfl,_,dV _ _ _ _,w5,e1,_,e2,hk (VU.1 (Lc hE)) w5 R2 e3 (s2.up a3.size) e4⟩
end
def AdI(F:Fy)(W:List Wt):Fy:=⟨⟨F.A.s,F.A.V,W,F.A.nx,F.A.hs,F.A.fz⟩,F.la,F.mi⟩
theorem AcV:Rq 0 0=0:=by decide
section
variable{w w':World}{R R':Nat->Prop}{f a v d n t D mg mb:Nat}{F:Fy}{K:Value->World->Prop}{op:List Int}{Lg Lb:List (Int×Value)}
set_option maxRecDepth 4000 in
theorem xW{k m:Int}{i:Nd}(h63:k<=9223372036854775807)(h:Fo R w f a v d F)(hM:ON F)(ht:OZ F k=0)(hi:(A1 F.A.V F.A.s.geo k).1=i)(h0:∀ z,z<8->i.p.getD z 0=0)(hp:(Au F.A.s.geo k).2.2=0)(hm:1<=m/\m<=(F.A.V.last:Int))(hlast:F.A.V.last+1<=1000000)(hml:(F.mi k).length<=1000000)(hW:F.A.W.length<=4999)
  (hk:∀ w' R' W',Ab R w w'->Sb R R' w->Fo R' w' f a v d (AdI (Kf F k nZ [m]) W')->K (Yn 0) w') :
  A7 Yt DT #[Yo f,Yn k,Yn m] w K:=by
 apply Qr;unfold Jj;apply Pl;unfold I0;have hw:E3 i:=by rw[<- hi];exact Br _ _ _
 refine Rf h63 h fun w1 R1 m1 s1 h1=>⟨_,_,rfl,?_⟩;rw[hi];obtain⟨w2,b1,b2,b3,b4⟩:=Aw (P:=Yt) (w:=w1) (T:=69) AC;obtain⟨w3,c1,c2,c3,c4⟩:=b2.put (T:=69) (vs:=nV i) Am rfl (A4 hw) (Bl _);obtain⟨w4,d1,d2,d3,d4⟩:=Aw (P:=Yt) (w:=w3) (T:=176) gW;have M4:Ab No w1 w4:=(b3.own c3 (Le _)).no d3;refine⟨_,w2,b1,w3,c1,ff (by rw[ht];rfl) ⟨_,w4,d1,_,(c2.keep d3 id).at.all Am (A4 hw),xX rfl hw h0 fun w5 m5=>⟨rfl,_,_,_,(d2.keep m5 id).at.one bL,?_⟩⟩⟩
 refine qI (base:=w5.heap.size) (zs:=[]) (Ow.nil Fq) (fun w6 o6 m6=>⟨rfl,_,_,_,(d2.keep m5 id |>.keep m6 (by have:=(d2.keep m5 id).lt;omega)).at.one bL,_,_,_,_,rfl,ff rfl ?_⟩) (by simp);have m56:Ab No w5 w6:=m6.mono fun x hx e=>by omega
 have M6:=(M4.no m5).no m56;have h6:=h1.nos M6;have ma:Ab No w6 (w6.alloc (.cells ⟨[Yn m]⟩ 2)):=(Ab.refl No w6).alloc _;have pa:Av (w6.alloc (.cells ⟨[Yn m]⟩ 2)) w6.heap.size 0 (iL [m]):=Av.new;refine⟨_,Eg,_,_,_,_,K7 w6 m,?_⟩;generalize w6.alloc (.cells ⟨[Yn m]⟩ 2)=w7 at *;have M7:=M6.no ma;have z1:=m1.size;have z7:=M7.size;refine Ye (k:=k) (i:=nZ) (after:=[m]) h63 (h6.nos ma) hM jV (by decide) hp hlast hml rfl (fun e=>by cases e) (by omega) (fun y hy=>by have:=qA.1 hy;rw[this];exact hm) (.inr ⟨_,0,rfl,pa.at⟩) fun w8 R8 m8 s8 h8=>⟨_,_,rfl,ff rfl ?_⟩
 have M8:Ab R w w8:=Ab.sb (m1.no M7) s1 m8;have S8:Sb R R8 w:=s1.trans (s8.up z7) z1;refine⟨fun x W=>x=[Yn 0]/\W=w8,fun _ _=>0,⟨rfl,rfl⟩,?_⟩;rintro x W ⟨rfl,rfl⟩;refine⟨0,rfl,ff rfl ⟨_,rfl,_,h8.pa,?_⟩⟩;obtain⟨Ra,hA,hRa,hc⟩:=h8.alc;refine qK h63 hA hW fun w9 R9 W' r m9 s9 hA9=>⟨_,rfl,?_⟩;obtain⟨k1,k2,k3⟩:=hc w9 R9 _ m9 s9 hA9;exact hk w9 _ W' (Ab.sb M8 S8 k1) (S8.trans k2 M8.size) k3
theorem rJ{k m:Int}{i:Nd}(h63:k<=9223372036854775807)(N:H4 R w n t D f mg mb op Lg Lb)(h:Fo R w f a v d F)(hdn:d<=n)(hdg:d<=mg)(hM:ON F)(ht:OZ F k=0)(hi:(A1 F.A.V F.A.s.geo k).1=i)(hl:i.links=0)(h0:∀ z,z<8->i.p.getD z 0=0)(hp:(Au F.A.s.geo k).2.2=0)
  (ho:op.getD 0 0=k) (hk0:k≠0) (ho2:Mp (op.set 0 0) k 8=0) (hg:(Ay Lg k).getD (Yn 0)=Yn m) (hm:1<=m/\m<=(F.A.V.last:Int)) (hlast:F.A.V.last+1<=1000000) (hml:(F.mi k).length<=1000000) (hW:F.A.W.length<=4999)
  (hk:∀ w' R' W',Ab (fun z=>R z\/z=n\/z=mg) w w'->Sb R R' w->Fo R' w' f a v d (AdI (Kf F k nZ [m]) W')->H4 R' w' n t D f mg mb (op.set 0 0) (PG k Lg) Lb->K (Yn 0) w') :
  A7 Yt Dy #[Yo n,Yn 0] w K:=by
 apply Il;unfold EY;have hw:E3 i:=by rw[<- hi];exact Br _ _ _
 obtain⟨ix,_⟩:=N.ldO (i:=0) (by omega);obtain⟨w2,u1,N2,h2,m2⟩:=N.setO h hdn (i:=0) (by omega) 0;refine YK (i:=0) N (by omega) ?_ (fun e=>absurd (ho.symm.trans e) hk0);rw[ho,if_neg hk0];refine⟨_,_,rfl,ff rfl ⟨_,rfl,_,ix,w2,u1,NB h63 N2 h2 fun w3 R3 m3 s3 h3=>⟨_,_,rfl,?_⟩⟩⟩;rw[hi];obtain⟨w4,b1,b2,b3,b4⟩:=Aw (P:=Yt) (w:=w3) (T:=69) AC;obtain⟨w5,c1,c2,c3,c4⟩:=b2.put (T:=69) (vs:=nV i) Am rfl (A4 hw) (Bl _)
 have M5:Ab No w3 w5:=b3.own c3 (Le _);have N5:=(N2.mv m3 s3).nos M5;have h5:=h3.nos M5;obtain⟨w6,e1,e2,e3,e4⟩:=PH (P:=Yt) (T2:=3) (ty:=0) (k:=k) tH N5.gm;obtain⟨d1,d2,d3,d4,d5,d6⟩:=N5.df;have N6:H4 R3 w6 n t D f mg mb (op.set 0 0) (PG k Lg) Lb:=⟨N5.ol,N5.ce.keep e3 d2,N5.De.keep e3 d4,e2,N5.bm.keep e3 fun e=>d6 e.symm,N5.nr,N5.df⟩;have h6:=h5.own e3 N5.nr.2.2.1 hdg
 have lk:Ru (Instr.lookup 52 (.map (some mg)) (Yn k) false) w5 (Yn m) w5:=by
  have:=D7 (P:=Yt) (k:=k) tH N5.gm
  rw[hg]at this;exact this
 have z2:=m2.size;have z3:=m3.size;have z5:=M5.size;refine⟨_,w4,b1,w5,c1,Ad.dup (ff (by rw[ht];rfl) ⟨_,c2.at.fld (j:=1) (v:=Yn i.links) Ah rfl,ff (by rw[hl];rfl) (bA N5 ⟨_,rfl,_,rfl,ff (by rw[ho2];rfl) ⟨_,rfl,_,N5.ldG,m,lk,_,rfl,_,N5.ldG,w6,e1,_,rfl,_,N6.ldF,?_⟩⟩)⟩)⟩;refine xW h63 h6 hM ht hi h0 hp hm hlast hml hW fun w7 R7 W' m7 s7 h7=>⟨_,rfl,hk w7 R7 W' ?_ ?_ h7 (N6.mv m7 s7)⟩
 ·refine((((m2.mono fun x _ e=>.inr (.inl e)).trans m3 fun x _ e=>.inl e).no M5).trans e3 fun x _ e=>.inr (.inr e)).trans m7 fun x hx e=>?_;exact(s3 x e).elim .inl fun e=>by omega
 ·intro z hz;rcases s7 z hz with e | e
  ·exact(s3 z e).imp id fun e=>by omega
  ·have:=e3.size
   exact .inr (by omega)
theorem mL{k:Int}{i:Nd}(h63:k<=9223372036854775807)(h:Fo R w f a v d F)(ht:OZ F k=0)(hi:(A1 F.A.V F.A.s.geo k).1=i)(hd:i.kind=1)(hk:∀ w' R',Ab R w w'->Sb R R' w->Fo R' w' f a v d F->K (Yn 0) w') :
  A7 Yt Cg #[Yo f,Yn k,Yn 0,.slice none 0 0] w K:=by
 apply Ik;unfold EX;have hw:E3 i:=by rw[<- hi];exact Br _ _ _
 refine Rf h63 h fun w1 R1 m1 s1 h1=>⟨_,_,rfl,?_⟩;rw[hi];obtain⟨w2,b1,b2,b3,b4⟩:=Aw (P:=Yt) (w:=w1) (T:=69) AC;obtain⟨w3,c1,c2,c3,c4⟩:=b2.put (T:=69) (vs:=nV i) Am rfl (A4 hw) (Bl _);have M3:Ab No w1 w3:=b3.own c3 (Le _);exact⟨_,w2,b1,w3,c1,ff (by rw[ht];rfl) (Ad.dup (ff rfl ⟨_,rfl,ff rfl (Ad.dup (ff rfl ⟨_,rfl,ff (Lh (by rw[Ag (by omega) (by omega)];omega)) (Ad.dup ⟨_,c2.at.fld (j:=0) (v:=Yn i.kind) Ah rfl,ff (by rw[hd];rfl) ⟨_,rfl,ff rfl (tt rfl (hk w3 R1 (m1.no M3) s1 (h1.nos M3)))⟩⟩)⟩))⟩))⟩
theorem yG{s k m:Int}(N:H4 R w n t D f mg mb op Lg Lb)(h:Fo R w f a v d F)(hdb:d<=mb)(hk:∀ w',Ab (fun z=>z=mb) w w'->Fo R w' f a v d F->H4 R w' n t D f mg mb op Lg (PG s Lb)->K (.tuple #[]) w') :
  A7 Yt FW #[Yo n,Yn s,Yn k,Yn m,Yn 1] w K:=by
 apply Q0;unfold Jt;obtain⟨w1,e1,e2,e3,e4⟩:=PH (P:=Yt) (T2:=3) (ty:=0) (k:=s) AfA N.bm;obtain⟨d1,d2,d3,d4,d5,d6⟩:=N.df;exact⟨_,rfl,_,N.ldB,w1,e1,Ad.dup (ff rfl (hk w1 e3 (h.own e3 N.nr.2.2.2 hdb) ⟨N.ol,N.ce.keep e3 d3,N.De.keep e3 d5,N.gm.keep e3 d6,e2,N.nr,N.df⟩))⟩
theorem yR{k:Int}{nm:Bs}(h63:k<=9223372036854775807)(hx:nm.length<=9223372036854775807)(N:H4 R w n t D f mg mb op Lg Lb)(h:Fo R w f a v d F)(hE:Dd F k=20)(hk:∀ w' R',Ab R w w'->Sb R R' w->Fo R' w' f a v d F->K (.tuple #[Yn 0,Yn 20]) w') :
  A7 Yt BJ #[Yo n,Yn k,.string (sB nm),Yn 1,.slice none 0 0] w K:=by
 apply FG;unfold DO;refine ff rfl (Ad.dup (ff rfl ⟨_,rfl,Ad.dup (ff rfl (Ad.dup (ff rfl ⟨_,rfl,Ad.dup (ff rfl (Ad.dup (tt rfl ⟨_,rfl,ff rfl ?_⟩)))⟩)))⟩));have hn:(Ws F k (A1 F.A.V F.A.s.geo k).1 nm).2=20:=by unfold Ws;rw[if_pos (by rw[hE];decide)];exact hE
 refine iZ h63 hx N h rfl (fun e=>by rw[hE]at e;cases e) hn fun w1 R1 m1 s1 h1=>⟨_,rfl,?_⟩;rw[hE];exact tt rfl (hk w1 R1 m1 s1 h1)
def D8(F:Fy)(s:Int):Fy:=Kf (wG (IV F 1)) s ⟨1,1,0,F.A.nx,[0,0,0,0,0,0,0,0]⟩ [(F.A.V.last:Int)+1]
set_option maxRecDepth 8000 in
theorem yQ{s:Int}{nm:Bs}{rt:Nd}(hx:nm.length<=9223372036854775807)(N:H4 R w n t D f mg mb op Lg Lb)(h:Fo R w f a v d F)(hdb:d<=mb)(hM:ON F)(q0:K1 F 1 rt)(hnm:Mi nm=true)(hr1:4<=(Bv F.A F.A.s.geo.gs.toNat).1)(hr2:1<=(Bv F.A F.A.s.geo.gs.toNat).2)
  (hs:(Db F.A 1).2=(s,(F.A.V.last:Int)+1,0)) (hs63:s<=9223372036854775807) (hs0:s≠0) (hl2:(IV F 1).A.V.last=F.A.V.last+1) (hn2:(IV F 1).A.nx=F.A.nx) (hnx:0<=F.A.nx/\F.A.nx<=4611686018427387904) (hgeo:(IV F 1).A.s=F.A.s) (hp:(Au F.A.s.geo s).2.2=0) (ho:O7 ⟨1,1,0,F.A.nx,[0,0,0,0,0,0,0,0]⟩=true)
  (hlast:F.A.V.last+40<=1000000) (hml:∀ k,(F.mi k).length<=500) (hts:A1 (D8 F s).A.V (D8 F s).A.s.geo s=(⟨1,1,0,F.A.nx,[0,0,0,0,0,0,0,0]⟩,0)) (q3:K1 (D8 F s) 1 rt) (ok3:gX (D8 F s) 1 rt) (he:Mo ⟨s,false,nm⟩=true)
  (hk:∀ w' R',Ab (fun z=>R z\/z=mb) w w'->Sb R R' w->Fo R' w' f a v d (tC (Gs (D8 F s) 1 rt) 1 (Ak (D8 F s).A 0).2.1 0 ⟨s,false,nm⟩ ((D8 F s).mi s))->H4 R' w' n t D f mg mb op Lg (PG s Lb)->K2 (Gs (D8 F s) 1 rt) 1 (RW (D8 F s) rt) (Ak (D8 F s).A 0).2.1 BB->B2 (Gs (D8 F s) 1 rt).A.V (Gs (D8 F s) 1 rt).A.s.geo (Gs (D8 F s) 1 rt).A.hs->K (.tuple #[Yn s,Yn 0]) w') :
  A7 Yt BJ #[Yo n,Yn 1,.string (sB nm),Yn 1,.slice none 0 0] w K:=by
 apply FG;unfold DO;refine ff rfl (Ad.dup (ff rfl ⟨_,rfl,Ad.dup (ff rfl (Ad.dup (ff rfl ⟨_,rfl,Ad.dup (ff rfl (Ad.dup (tt rfl ⟨_,rfl,ff rfl ?_⟩)))⟩)))⟩));have hn:(Ws F 1 rt nm).2=20:=by unfold Ws;rw[if_neg (fun e=>e q0.dir),if_neg (by rw[hnm];decide),q0.seek];rfl
 refine iZ (by omega) hx N h (by rw[q0.sl]) (fun _=>q0.ok) hn fun w1 R1 m1 s1 h1=>⟨_,rfl,ff (by rw[q0.dir];rfl) (dJ ⟨_,rfl,?_⟩)⟩;have N1:=N.mv m1 s1;have e4:Yw (4+Rq 0 ((0:Nat):Int))=4:=by
  rw[show Rq 0 ((0:Nat):Int)=0 from AcV,Ag (by omega) (by omega)];rfl
 rw[e4];refine zS N1 h1 hr1 hr2 fun w2 R2 m2 s2 h2=>⟨_,rfl,ff rfl ?_⟩;have N2:=N1.mv m2 s2;refine⟨_,rfl,_,N2.ldF,Re h2 ⟨_,rfl,yC (by omega) h2 (by omega) fun w3 R3 m3 s3 h3=>⟨_,_,_,rfl,?_⟩⟩⟩;rw[show(Db F.A 1).2.1=s by rw[hs],show(Db F.A 1).2.2.1=(F.A.V.last:Int)+1 by rw[hs],show(Db F.A 1).2.2.2=0 by rw[hs]];have N3:=N2.mv m3 s3;obtain⟨Ra3,hA3,_,_⟩:=h3.alc;refine ff rfl ⟨_,rfl,_,N3.ldF,Re h3 ⟨_,rfl,dK hA3 ⟨_,rfl,rX h3 (by rw[hn2];exact hnx.1) (by rw[hn2];exact hnx.2) fun w4 R4 m4 s4 h4=>⟨_,_,rfl,ff rfl ?_⟩⟩⟩⟩
 rw[hn2];have N4:=N3.mv m4 s4;have z1:=m1.size;have z2:=m2.size;have z3:=m3.size;have z4:=m4.size;have S2:Sb R R2 w:=s1.trans s2 z1;have S3:Sb R R3 w:=S2.trans s3 (by omega);have S4:Sb R R4 w:=S3.trans s4 (by omega);have M4:Ab R w w4:=Ab.sb (Ab.sb (Ab.sb m1 s1 m2) S2 m3) S3 m4;obtain⟨w5,b1,b2,b3,b4⟩:=Aw (P:=Yt) (w:=w4) (T:=69) AC;obtain⟨w6,c1,c2,c3,c4⟩:=b2.put (T:=69) (vs:=nV ⟨1,1,0,F.A.nx,[0,0,0,0,0,0,0,0]⟩) Am rfl rfl (Bl _)
 have md:Ab No w4 (Go.Den.Af w6):=(b3.own c3 (Le _)).drew;have ma:Ab No (Go.Den.Af w6) ((Go.Den.Af w6).alloc (.cells ⟨[Yn ((F.A.V.last:Int)+1)]⟩ 2)):=(Ab.refl No _).alloc _;have pa:Av ((Go.Den.Af w6).alloc (.cells ⟨[Yn ((F.A.V.last:Int)+1)]⟩ 2)) (Go.Den.Af w6).heap.size 0 (iL [(F.A.V.last:Int)+1]):=Av.new;have N6:=N4.nos md;have c6:=c2.drew;refine⟨_,dT 1 1 F.A.nx,_,w5,b1,w6,c1,Ad.dup (ff rfl ⟨_,rfl,_,N6.ldF,_,c6.at.all Am rfl,_,_,_,_,K7 _ _,?_⟩)⟩
 have h6:=(h4.nos md).nos ma;have N7:=N6.nos ma;have c7:=c6.keep ma id;generalize (Go.Den.Af w6).alloc (.cells ⟨[Yn ((F.A.V.last:Int)+1)]⟩ 2)=w7 at *;have M47:=md.no ma;have z7:=M47.size;have hgeo':(wG (IV F 1)).A.s.geo=F.A.s.geo:=by show(IV F 1).A.s.geo=_;rw[hgeo]
 have hM2:ON (wG (IV F 1)):=fun k x hx=>(hM.slt 1) k x hx;have hl2':(wG (IV F 1)).A.V.last=F.A.V.last+1:=hl2;have hms:=hml s;refine⟨N7.ldF,c7.at.all Am rfl,Ye (k:=s) (i:=⟨1,1,0,F.A.nx,[0,0,0,0,0,0,0,0]⟩) (after:=[(F.A.V.last:Int)+1]) hs63 h6 hM2 rfl ho (by rw[hgeo'];exact hp) (by omega) (by show(F.mi s).length<=1000000;omega) rfl (fun e=>by cases e) (by omega) (fun y hy=>by have:=qA.1 hy;rw[this,hl2'];omega) (.inr ⟨_,0,rfl,pa.at⟩) fun w8 R8 m8 s8 h8=>⟨_,_,rfl,?_⟩⟩
 have h8:Fo R8 w8 f a v d (D8 F s):=h8;have N8:=N7.mv m8 s8;have S8:Sb R R8 w:=S4.trans (s8.up z7) (by omega);have M8:Ab R w w8:=Ab.sb (M4.no M47) S4 m8;have z8:=m8.size;have hth:OZ (D8 F s) s=0:=by unfold OZ;rw[hts];rfl
 refine Ad.dup (tt rfl ⟨_,rfl,_,N8.ldF,mL hs63 h8 hth (by rw[hts]) rfl fun w9 R9 m9 s9 h9=>⟨_,rfl,Ad.dup ⟨_,rfl,tt rfl ⟨_,rfl,Ad.dup (ff rfl ⟨_,rfl,ff rfl ?_⟩)⟩⟩⟩⟩);have N9:=N8.mv m9 s9;have S9:Sb R R9 w:=S8.trans s9 M8.size;have M9:Ab R w w9:=Ab.sb M8 S8 m9;have mD:Ab No w9 (Go.Den.Af w9):=(Ab.refl _ _).drew;have N9d:=N9.nos mD;have h9d:=h9.nos mD;have hmk:((D8 F s).mi s).length=(F.mi s).length+1:=by
  show((Kf (wG (IV F 1)) s _ _).mi s).length=_;rw[show(Kf (wG (IV F 1)) s ⟨1,1,0,F.A.nx,[0,0,0,0,0,0,0,0]⟩ [(F.A.V.last:Int)+1]).mi s=F.mi s++[((IV F 1).A.V.last:Int)+1]from if_pos rfl,Lj];rfl
 refine⟨_,rfl,_,N9d.ldD,_,rfl,_,N9d.ldF,PJ h9d (fun y hy=>(q3.mu s y hy).1) (by omega) fun w10 R10 a10 c10 m10 s10 h10 o10 n10=>⟨_,_,_,rfl,?_⟩⟩;have N10:=N9d.mv m10 s10;have S10:Sb R R10 w:=S9.trans s10 M9.size;have M10:Ab R w w10:=Ab.sb (M9.no mD) S9 m10;rcases ha:a10 with _ | ad
 ·rw[ha]at o10
  have:=o10.zero.1;omega
 rw[ha]at o10 n10;have ob:=o10.base rfl;have hm1:((D8 F s).mi 1).length<=900000:=by
  have h1:=hml 1;show(if (1:Int)=s then F.mi s++[((IV F 1).A.V.last:Int)+1]else F.mi 1).length<=_;split
  ·rw[Lj];simp;omega
  ·omega
 refine⟨N10.ldD,wZ (nm:=nm) (s:=s) (af:=(D8 F s).mi s) (by omega) N10.De N10.nr.2.1 h10 q3 ok3 hnm hs0 he rfl (by omega) (by omega) (fun y hy=>(q3.mu s y hy).2) o10.rowU.row ⟨n10 ad rfl,ob.2⟩ hm1 fun w11 R11 y m11 s11 h11 d11 H11 _=>⟨_,_,rfl,?_⟩⟩;have N11:=N10.mv m11 s11;have S11:Sb R R11 w:=S10.trans s11 M10.size;have M11:Ab R w w11:=Ab.sb M10 S10 m11;refine yG N11 h11 hdb fun w12 m12 h12 N12=>⟨rfl,hk w12 R11 ((M11.mono fun x _ e=>.inl e).trans m12 fun x _ e=>.inr e) S11 h12 N12 d11 H11⟩
end
def DZ(g:Gm)(n k:Nat):Az:=⟨⟨1,g⟩,⟨⟨BM (AH n) g,k,[]⟩,0,[]⟩,[],Fs (BM (AH n) g) g (AZ g).toNat+1,(List.range g.gs.toNat).map fun j:Nat=>AE g (j:Int),fun _=>false⟩
theorem Z7(p:Option Addr):Al (Instr.build 104 #[(0,.pointer p)]) (.agg ⟨[.pointer p]⟩):=fun w=>by kernel_rfl
theorem ZD(p:Option Addr):Al (Instr.build 102 #[(0,.pointer p)]) (.agg ⟨[.pointer p]⟩):=fun w=>by kernel_rfl
theorem ZA(p q r:Option Addr)(m n:Option Nat):Al (Instr.build 56 #[(0,.pointer p),(1,.pointer q),(2,.pointer r),(4,.map m),(5,.map n)]) (.agg ⟨.pointer p::.pointer q::.pointer r::(iL (List.replicate 8 0)++[.map m,.map n])⟩):=fun w=>by kernel_rfl
theorem XW:Al (Instr.build 178 #[]) (.agg ⟨[.slice none 0 0,.slice none 0 0,.slice none 0 0]⟩):=fun w=>by kernel_rfl
theorem XV(p q r s:Option Addr):Al (Instr.build 38 #[(0,.pointer p),(1,.pointer q),(2,.pointer r),(3,.pointer s)]) (.agg ⟨[.pointer p,.pointer q,.pointer r,.pointer s]⟩):=fun w=>by kernel_rfl
theorem Aa0:MZ Yt 176 1 8:=QZ (by kernel_rfl)
theorem kI:Cw Yt 176=true:=by kernel_rfl
theorem oG:Cw Yt 22=true:=by kernel_rfl
section
variable{w w':World}{R R':Nat->Prop}{f a v d n t D mg mb:Nat}{F:Fy}{K:Value->World->Prop}{op:List Int}{Lg Lb:List (Int×Value)}
set_option maxRecDepth 8000 in
theorem vD{g:Gm}{n:Nat}{X:Option Addr->Option Addr->Int->Option Addr->World->Prop}(hok:Df g=true)(hn:Bb g=n)(h18:18<=n)(h5:n<=999)
  (hk:∀ w' R f a v d k,Ab No w w'->Fo R w' f a v d (O8 (DZ g n k))->(∀ z,R z->w.heap.size<=z)->X (some ⟨d,0,none⟩) (some ⟨v,0,none⟩) 0 (some ⟨f,0,none⟩) w') :
  A7 Yt KV #[Yn (n:Int)] w fun r8 w1=>∃ p8a:Option Addr,∃ n8b:Int,r8=.tuple #[.pointer p8a,Yn n8b]/\∃ g12:Array Value,Al (Instr.build 83 #[(0,Yn g.gr),(1,Yn g.no),(2,Yn g.gs)]) (.agg g12)/\A7 Yt Id #[.pointer p8a,.agg g12] w1 fun r13 w2=>∃ n13:Int,r13=Yn n13/\A7 Yt JC #[.pointer p8a] w2 fun r16 w3=>∃ p16a:Option Addr,∃ n16b:Int,r16=.tuple #[.pointer p16a,Yn n16b]/\A7 Yt J0 #[.pointer p16a] w3 fun r20 w4=>∃ p20:Option Addr,r20=.pointer p20/\A7 Yt KW #[.pointer p20] w4 fun r21 w5=>∃ p21:Option Addr,r21=.pointer p21/\X p8a p16a n16b p21 w5:=by
 refine AeW (by omega) (by omega) (fun h=>by omega) fun k hk' _ _ w8 d sb mb m8 hD=>⟨_,_,rfl,_,UF g.gr g.no g.gs,?_⟩;have hkn:k=n:=by omega
 subst hkn;have hz8:=m8.size;have hfE:UX (AH k) g=0:=by
  unfold UX;rw[if_neg (by rw[hok];decide),if_neg (by simp[AH];omega)]
 have hrun:(BM (AH k) g).left=-1:=mR rfl _;have hbnd:VX (BM (AH k) g) 1:=mQ rfl _;have hm:fI (BM (AH k) g)=(⟨1,g⟩,0):=yW hok (by omega) h18;refine oT (g:=g) hD rfl (Ag8 k) (fun h=>absurd hfE h) fun _ wa Na w11 ma Xa=>⟨_,rfl,?_⟩;have hza:=ma.size;have hXs:=Xa.mod.size;obtain⟨Ra,sba,mba,sca,La,a1',a2',a3',a4'⟩:=Xa;have hRa:∀ x,Ra x->w.heap.size<=x/\x<w11.heap.size:=fun x hx=>by
  have:=(a2' x hx).2
  rcases(a2' x hx).1 with e|e
  ·have e:w.heap.size<=x/\x<w8.heap.size:=e;omega
  ·omega
 have M11:Ab No w w11:=(m8.no ma).trans a3' fun x hx e=>by have e:w.heap.size<=x/\x<w8.heap.size:=e;omega
 have hsm:Ma (BM (AH k) g):=wH hbnd (by omega);have hdR:=a1'.rb;generalize hDD:BM (AH k) g=DD at *;refine vS (w0:=w) a1' hsm hRa M11 hrun (fun h=>absurd (by rw[hm]) h) fun _ w13 N13 v X13=>⟨_,_,rfl,?_⟩;rw[hm]at X13;have X13:Vg w11 Ra N13 w13 v d ⟨1,g⟩ DD (Fs DD g (AZ g).toNat+1):=X13;have hz13:=X13.mod.size;have M13:Ab No w w13:=M11.trans X13.mod fun x hx e=>by have:=hRa x e;omega
 obtain⟨Rv,kc,hV,hlo⟩:=X13.vu;have hds:=yJ (g:=g) (n:=k) hok (by omega) kc;rw[hDD]at hds;refine Ab1 hV hds fun w16 R16 a m16 s16 h16 ha=>⟨_,rfl,?_⟩;have hlo16:∀ z,R16 z->w.heap.size<=z:=fun z hz=>by
  have hda:=hRa d hdR;rcases s16 z hz with e | e
  ·rcases hlo z e with e|e|e
   ·have:=hRa z e;omega
   ·omega
   ·omega
  ·omega
 have M16:=M13.no m16;have z16:=M16.size;refine AcK h16 fun w17 R17 f m17 s17 h17 hf=>⟨_,rfl,hk w17 R17 f a v d kc (M16.no m17) ?_ fun z hz=>?_⟩
 ·unfold DZ;rw[hDD];exact h17
 rcases s17 z hz with e|e
 ·exact hlo16 z e
 ·omega
theorem uF(hk:∀ w' p,Ab No w w'->K (.pointer (some p)) w'):A7 Yt G2 #[] w K:=by
 apply RT;unfold Kz;obtain⟨w1,b1,b2,b3,b4⟩:=AB (P:=Yt) (w:=w) (T:=178) (cs:=[.slice none 0 0,.slice none 0 0,.slice none 0 0]);refine⟨_,XW,_,w1,b1,?_⟩;refine⟨fun x W=>∃(i:Nat)(q:Option Addr)(c:Nat)(xs:List Value),x=[Yn i]/\i<=8/\Av W w.heap.size 0 [.slice none 0 0,.slice none 0 0,.slice q i c]/\Ow Yt W w1.heap.size 176 1 q i c xs/\Ab No w W/\w1.heap.size<=W.heap.size,fun x _=>(8-nI x 0).toNat,⟨0,none,0,[],rfl,qE _,b2,Ow.nilG Aa0,b3,Le _⟩,?_⟩
 rintro x W ⟨i,q,c,xs,rfl,hi,hc,ho,M,hz⟩;refine⟨_,rfl,Aa (fun hb=>?_) (fun hb=>?_)⟩
 ·have hb:=Ld hb;have ma:Ab No W (W.alloc (.cells ⟨[Yn (-1)]⟩ 3)):=(Ab.refl No W).alloc _;have pa:Av (W.alloc (.cells ⟨[Yn (-1)]⟩ 3)) W.heap.size 0 [Yn (-1)]:=Av.new;have bt:=Sd W (-1);have sz1:(W.alloc (.cells ⟨[Yn (-1)]⟩ 3)).heap.size=W.heap.size+1:=by simp
  generalize W.alloc (.cells ⟨[Yn (-1)]⟩ 3)=w2 at *;obtain⟨q',c',w3,r1,r2,r3,r4⟩:=(ho.nos ma).appG (ty:=176) (m:=1) (c2:=1) (ad:=⟨W.heap.size,0,none⟩) (ys:=[Yn (-1)]) Aa0 (by omega) (.inr ⟨_,_,rfl,pa.at⟩) rfl (by omega) (by simp;rfl) (by omega) (by omega) (by omega);have nq:¬ (fun x=>∃ y,q=some y/\x=y.block) w.heap.size:=fun⟨y,e,e2⟩=>by have:=((ho.base e)).1;omega
  obtain⟨w4,u1,u2,u3,u4⟩:=((hc.keep ma id).keep r3 nq).putF (P:=Yt) (T:=176) (j:=2) (v:=.slice (some q') (i+1) c') kI (by simp) rfl;have zz:=r3.size;refine⟨_,rfl,_,_,_,hc.at.fld (j:=2) kI rfl,_,_,_,w2,bt,_,_,_,w3,r1,_,rfl,w4,u1,?_⟩;rw[Ag (x:=(i:Int)+1) (by omega) (by omega)];refine⟨⟨i+1,some q',c',_,rfl,by omega,u2,r2.keep u3 fun y e x=>?_,?_,by omega⟩,by simp[nI,A2];omega⟩
  ·cases e;have x:q'.block=w.heap.size:=x
   have:=(r2.base rfl).1
   omega
  ·refine((M.no ma).trans r3 fun x hx ⟨y,e,e2⟩=>?_).trans u3 fun x hx e=>?_
   ·have:=(ho.base e).1;omega
   ·have e:x=w.heap.size:=e;omega
 ·exact hk W _ M
def gN:Gm:=⟨24,16,3⟩
theorem aF:Df gN=true:=by decide
set_option maxRecDepth 4000 in
theorem lO(hk:∀ w' R f a v d n t D mg mb p k x2 x3,Ab No w w'->Fo R w' f a v d (O8 (DZ gN 74 k))->H4 R w' n t D f mg mb (List.replicate 8 0) [] []->Av w' p 0 [Yo v,Yo n,x2,x3]->¬ R p->p≠n/\p≠mg/\p≠mb->d<=n/\d<=mg/\d<=mb->(∀ z,R z->w.heap.size<=z)->w.heap.size<=n/\w.heap.size<=mg/\w.heap.size<=mb->K (Yo p) w') :
  A7 Yt Cj #[] w K:=by
 apply Pq;unfold I5;refine vD (g:=gN) (n:=74) aF (by decide) (by omega) (by omega) fun w1 R f a v d k M1 h1 lo1=>?_;apply kW;unfold W0;obtain⟨w2,a1,a2,a3,a4⟩:=AB (P:=Yt) (w:=w1) (T:=104) (cs:=[Yo f]);obtain⟨w3,b1,b2,b3,b4⟩:=AB (P:=Yt) (w:=w2) (T:=102) (cs:=[Yo w1.heap.size]);refine ff rfl ⟨_,Z7 _,_,w2,a1,_,rfl,?_⟩
 apply dA;unfold U5;refine ff rfl ⟨_,ZD _,_,w3,b1,_,rfl,?_⟩;apply Uj;unfold P3;refine ff rfl ?_;apply Km;unfold Gy;refine ff rfl ⟨_,rfl,_,b2.at.fld (j:=0) (v:=Yo w1.heap.size) Nx rfl,_,rfl,?_⟩;apply Km;unfold Gy;refine ff rfl ⟨_,rfl,_,b2.at.fld (j:=0) (v:=Yo w1.heap.size) Nx rfl,_,rfl,?_⟩
 apply RJ;unfold Ko;have a5:=a2.keep b3 id;refine ff rfl ⟨_,rfl,_,a5.at.fld (j:=0) (v:=Yo f) B0 rfl,_,rfl,?_⟩;have m4:Ab No w3 (w3.alloc (.map #[] 0)):=(Ab.refl No w3).alloc _;have p4:AU (w3.alloc (.map #[] 0)) w3.heap.size []:=AU.new;have s4:(w3.alloc (.map #[] 0)).heap.size=w3.heap.size+1:=by simp
 refine⟨_,_,CG,?_⟩;generalize w3.alloc (.map #[] 0)=w4 at *;have m5:Ab No w4 (w4.alloc (.map #[] 0)):=(Ab.refl No w4).alloc _;have p5:AU (w4.alloc (.map #[] 0)) w4.heap.size []:=AU.new;have s5:(w4.alloc (.map #[] 0)).heap.size=w4.heap.size+1:=by simp
 refine⟨_,_,CG,?_⟩;generalize w4.alloc (.map #[] 0)=w5 at *;obtain⟨w6,c1,c2,c3,c4⟩:=AB (P:=Yt) (w:=w5) (T:=56) (cs:=Yy w2.heap.size w1.heap.size f (List.replicate 8 0) w3.heap.size w4.heap.size);have hlt:=h1.lt;have hdl:=h1.dlt;have z1:=M1.size;refine⟨_,ZA _ _ _ _ _,_,w6,c1,_,rfl,Ad.dup (ff rfl (ff rfl ?_))⟩;apply IY;unfold FL;have M36:Ab No w3 w6:=(m4.no m5).no c3
 have M16:Ab No w1 w6:=(a3.no b3).no M36;refine ff rfl ⟨_,rfl,_,c2.at.fld (j:=0) (v:=Yo w2.heap.size) uQ rfl,_,rfl,_,rfl,ff rfl ?_⟩;refine uF fun w7 pr m7=>⟨_,rfl,_,XV _ _ _ _,?_⟩;obtain⟨w8,e1,e2,e3,e4⟩:=AB (P:=Yt) (w:=w7) (T:=38) (cs:=[Yo v,Yo w5.heap.size,Yo w1.heap.size,.pointer (some pr)])
 have M8:Ab No w6 w8:=m7.no e3;have z7:=m7.size;have nr:∀ z,w1.heap.size<=z->¬ R z:=fun z hz e=>by have:=hlt _ e;omega
 refine⟨_,w8,e1,hk w8 R f a v d w5.heap.size w2.heap.size w1.heap.size w3.heap.size w4.heap.size w7.heap.size k _ _ ((M1.no M16).no M8) ((h1.nos M16).nos M8) ⟨rfl,c2.keep M8 id,(a5.keep M36 id).keep M8 id,(p4.keep (m5.no c3) id).keep M8 id,(p5.keep c3 id).keep M8 id,⟨nr _ (by omega),nr _ (by omega),nr _ (by omega),nr _ (by omega)⟩,⟨by omega,by omega,by omega,by omega,by omega,by omega⟩⟩ e2 (nr _ (by omega)) ⟨by omega,by omega,by omega⟩ ⟨by omega,by omega,by omega⟩ lo1 ⟨by omega,by omega,by omega⟩⟩
end
def hsG(g:Gm):List Hd:=(List.range g.gs.toNat).map fun j:Nat=>AE g (j:Int)
theorem zX{g:Gm}{n k:Nat}{s p:Int}(hok:Df g=true)(hn:Bb g=n)(hp:Au g s=(3,p,0))(h1:1<KO g)(h0:(0:Int)<g.gs):A1 (DZ g n k).V g s=Gl (B3 EM 64 (Ek DF)) p:=by
 unfold A1;rw[hp,if_neg (by simp)];show Gl (Gt (BM (AH n) g) 3) p=_
 have:=UD (n:=n) hok (by omega) (k:=0) (i:=1) h0 h1
 have e3:(2+((0:Nat):Int)*g.gr+((1:Nat):Int)).toNat=3:=by simp
 rw[e3]at this;rw[this];rfl
theorem zY{g:Gm}{n k:Nat}{s p:Int}(hok:Df g=true)(hn:Bb g=n)(hp:Au g s=(4,p,0))(h1:2<KO g)(h0:(0:Int)<g.gs):A1 (DZ g n k).V g s=Gl EM p:=by
 unfold A1;rw[hp,if_neg (by simp)];show Gl (Gt (BM (AH n) g) 4) p=_
 have:=UD (n:=n) hok (by omega) (k:=0) (i:=2) h0 h1
 have e3:(2+((0:Nat):Int)*g.gr+((2:Nat):Int)).toNat=4:=by simp
 rw[e3]at this;rw[this];rfl
theorem AfP{g:Gm}{n k:Nat}{R:Nat->Prop}{w:World}{f a v d:Nat}(hok:Df g=true)(hn:Bb g=n)(h:Fo R w f a v d (O8 (DZ g n k))):NH g (O8 (DZ g n k)) (hsG g) (A1 (DZ g n k).V g) (fun b=>A3 (DZ g n k).V b.toNat) 0 where
 s:=rfl
 hh:=rfl
 fz:=rfl
 hd:=h.hd.1
 len:=fun b hb=>QV h.hd.2.1 h.hd.2.2 hb
 la:=Le _
 ml:=fun _=>Le _
 mu:=zA _
 sl:=fun _=>rfl
 ct:=fun _ _=>rfl
 ww:=rfl
theorem ZY{A:Az}{g:Gm}{hs:List Hd}{m:Nat}(h1:A.s=⟨1,g⟩)(h2:A.hs=hs)(h3:A.fz=TO):Bv A m=Bv ⟨⟨1,g⟩,⟨⟨AH 0,0,[]⟩,0,[]⟩,[],0,hs,TO⟩ m:=by
 have e:∀ i,Bv A i=Bv ⟨⟨1,g⟩,⟨⟨AH 0,0,[]⟩,0,[]⟩,[],0,hs,TO⟩ i:=by
  intro i
  induction i with
  | zero=>rfl
  | succ i ih=>rw[Bv,Bv,ih,h1,h2,h3]
 exact e m
def Ae5(x:Nd×Int):Int:=if x.2≠0 then x.2 else if x.1.kind=0 then 20 else if x.1.kind≠2 then 23 else 0
def thT(x:Nd×Int):Int:=if x.2≠0 then x.2 else if x.1.kind=0 then 20 else 0
section
variable{g:Gm}{F:Fy}{hs:List Hd}{T:Int->Nd×Int}{C:Int->Bk}{n:Nat}
theorem NH.sV(st:NH g F hs T C n)(k:Int):A1 F.A.V F.A.s.geo k=T k:=by rw[st.s];exact st.sl k
theorem NH.dE(st:NH g F hs T C n)(k:Int):Dd F k=Ae5 (T k):=by unfold Dd Ae5;rw[st.sV]
theorem NH.tE(st:NH g F hs T C n)(k:Int):OZ F k=thT (T k):=by unfold OZ thT;rw[st.sV]
theorem NH.d0(st:NH g F hs T C n){k:Int}{i:Nd}(h:T k=(i,0))(h1:i.kind=2)(h2:i.size=0)(h3:pB i 0=0):K1 F k i:=⟨(st.sV k).trans h,h1,h2,h3,st.mu⟩
theorem NH.d1(st:NH g F hs T C n){k b:Int}{i:Nd}{x:Bk}(h:T k=(i,0))(h1:i.kind=2)(h2:i.size=256)(h3:pB i 0=b)(h4:(AT g b).1=4)(h5:C b=x):K2 F k i b x:=⟨(st.sV k).trans h,h1,h2,h3,by rw[st.s];exact h4,(st.ct b h4).trans h5,st.mu⟩
end
-- the fixed calls
def aT:Nd:=⟨1,1,0,2,[0,0,0,0,0,0,0,0]⟩
def rt7:Nd:=O4 (FE DF 0 7) 256
def hN1:List Hd:=(hsG gN).set 0 (BW false gN (AE gN 0) 2 true).1
def hN2:List Hd:=hN1.set 0 (BW true gN (BW false gN (AE gN 0) 2 true).1 5 true).1
def en2:Dt:=⟨2,false,[97]⟩
theorem tkS:Cb gN (hsG gN) TO (BD false gN) (OA gN 1).1 (OA gN 1).2.1 (OA gN 1).2.2 gN.gs.toNat=some (0,2):=by decide +kernel
theorem tkB:Cb gN hN1 TO (BD true gN) (N0 gN 0).1 (N0 gN 0).2.1 (N0 gN 0).2.2 gN.gs.toNat=some (0,5):=by decide +kernel
theorem usS:(BW false gN (AE gN 0) 2 true).2=0:=by decide +kernel
theorem usB:(BW true gN (BW false gN (AE gN 0) 2 true).1 5 true).2=0:=by decide +kernel
theorem Ae7:4<=(Bv ⟨⟨1,gN⟩,⟨⟨AH 0,0,[]⟩,0,[]⟩,[],0,hsG gN,TO⟩ gN.gs.toNat).1/\1<=(Bv ⟨⟨1,gN⟩,⟨⟨AH 0,0,[]⟩,0,[]⟩,[],0,hsG gN,TO⟩ gN.gs.toNat).2:=by decide +kernel
theorem AhC:Rq 0 256<=(Bv ⟨⟨1,gN⟩,⟨⟨AH 0,0,[]⟩,0,[]⟩,[],0,hN1,TO⟩ gN.gs.toNat).1:=by decide +kernel
theorem nxN:Fs (BM (AH 74) gN) gN (AZ gN).toNat+1=2:=by decide +kernel
theorem AbG:O7 rt7=true:=by decide +kernel
theorem Aa3:EH (B3 BB 0 (YQ en2)) [97] 8=some 0/\(H8 (Gf (B3 BB 0 (YQ en2)) 0)).1.s=2:=by decide +kernel
theorem gp1:Au gN 1=(3,1,0):=by decide
theorem gp2:Au gN 2=(3,2,0):=by decide
theorem sl1(k:Nat):A1 (DZ gN 74 k).V gN 1=(DF,0):=(zX aF (by decide) gp1 (by decide) (by decide)).trans Xw
theorem sl5(k:Nat):A1 (DZ gN 74 k).V gN 5=(nZ,0):=(zY (p:=1) aF (by decide) (by decide) (by decide) (by decide)).trans (by decide +kernel)
theorem AaX(k:Nat):(DZ gN 74 k).nx=2:=nxN
structure Ag2(F:Fy):Prop where
 hs:(Db F.A 1).2=(2,(F.A.V.last:Int)+1,0)
 l2:(IV F 1).A.V.last=F.A.V.last+1
 n2:(IV F 1).A.nx=F.A.nx
 sg:(IV F 1).A.s=F.A.s
 ts:A1 (D8 F 2).A.V (D8 F 2).A.s.geo 2=(⟨1,1,0,F.A.nx,[0,0,0,0,0,0,0,0]⟩,0)
 q3:K1 (D8 F 2) 1 DF
 ok:gX (D8 F 2) 1 DF
 bl:(Ak (D8 F 2).A 0).2.1=7
theorem AhO{F:Fy}{T:Int->Nd×Int}{C:Int->Bk}(st:NH gN F (hsG gN) T C 0)(hT:T 1=(DF,0))(hx:F.A.nx=2):Ag2 F/\NH gN (Gs (D8 F 2) 1 DF) hN2 (NZ (NZ T 2 (aT,0)) 1 (rt7,0)) (NZ C 7 BB) 5/\RW (D8 F 2) DF=rt7:=by
 obtain⟨s1,e1,l1,n1⟩:=st.slt tkS rfl usS;have s2:=s1.nxt;have e2:(((0:Nat):Int)*gN.no+2:Int)=2:=by decide
 rw[e2]at e1;have l1':(wG (IV F 1)).A.V.last=F.A.V.last+1:=l1;obtain⟨s3,l3⟩:=s2.put (k:=2) (i:=aT) (after:=[(F.A.V.last:Int)+1]) (by rw[gp2]) rfl (by decide) (fun y hy=>by have:=qA.1 hy;rw[this,l1'];omega);have eF:Kf (wG (IV F 1)) 2 aT [(F.A.V.last:Int)+1]=D8 F 2:=by unfold D8 aT;rw[hx]
 rw[eF]at s3 l3;have hla:=st.la;have hr:NZ T 2 (aT,0) 1=(DF,0):=by unfold NZ;rw[if_neg (by decide)];exact hT
 have e3:(2+((0:Nat):Int)*gN.gr+5:Int)=7:=by decide
 obtain⟨s4,ob,b4,l4⟩:=s3.wr (k:=1) (i:=DF) (xs:=BB) (kk:=0) (j:=5) V8 (by rw[IS];decide) (by rw[IS];decide) tkB rfl usB (by rw[e3];decide) (by rw[gp1]) (by rw[e3,IS];exact AbG);rw[e3,IS,AbE]at s4;rw[e3]at b4;have q3:=s3.d0 hr rfl rfl rfl;have ai:RW (D8 F 2) DF=rt7:=by unfold RW;rw[b4];rfl
 refine⟨⟨e1,l1,n1,by rw[s1.s,st.s],?_,q3,⟨?_,ob,by rw[ai];exact AbG,by rw[s3.s];exact QJ (fun x=>x.2.2) gp1,?_,?_⟩,b4⟩,s4,ai⟩
 ·rw[s3.sV,hx];unfold NZ;rw[if_pos rfl];rfl
 ·rw[show(D8 F 2).A.s.geo=gN by rw[s3.s],ZY s3.s s3.hh s3.fz];exact AhC
 ·rw[l3,l1'];omega
 ·have:=s3.ml 1;omega
structure Kn(w0 w:World)(R:Nat->Prop)(f a v d n t D mg mb p:Nat)(x2 x3:Value)(F:Fy)(op:List Int)(Lg Lb:List (Int×Value)):Prop where
 M:Ab No w0 w
 h:Fo R w f a v d F
 N:H4 R w n t D f mg mb op Lg Lb
 P:Av w p 0 [Yo v,Yo n,x2,x3]
 nR:¬ R p
 pd:p≠n/\p≠mg/\p≠mb
 dl:d<=n/\d<=mg/\d<=mb
 lo:∀ z,R z->w0.heap.size<=z
 ls:w0.heap.size<=n/\w0.heap.size<=mg/\w0.heap.size<=mb
section
variable{w0 w w':World}{R R':Nat->Prop}{f a v d n t D mg mb p:Nat}{x2 x3:Value}{F F':Fy}{K:Value->World->Prop}{op op':List Int}{Lg Lb Lg' Lb':List (Int×Value)}
theorem Kn.go{S:Nat->Prop}(k:Kn w0 w R f a v d n t D mg mb p x2 x3 F op Lg Lb)(m:Ab S w w')(hS:∀ z,S z->R z\/z=n\/z=mg\/z=mb)(s:Sb R R' w)(h:Fo R' w' f a v d F')(N:H4 R' w' n t D f mg mb op' Lg' Lb'):Kn w0 w' R' f a v d n t D mg mb p x2 x3 F' op' Lg' Lb' where
 M:=k.M.trans m fun x hx e=>by
  have:=k.ls
  rcases hS x e with e|e|e|e
  ·have:=k.lo x e;omega
  ·omega
  ·omega
  ·omega
 h:=h
 N:=N
 P:=k.P.keep m fun e=>by
  have:=k.pd
  rcases hS p e with e|e|e|e
  ·exact k.nR e
  ·exact this.1 e
  ·exact this.2.1 e
  ·exact this.2.2 e
 nR:=fun e=>(s p e).elim k.nR fun e=>by have:=k.P.lt;omega
 pd:=k.pd
 dl:=k.dl
 lo:=fun z hz=>(s z hz).elim (k.lo z) fun e=>by have:=k.M.size;omega
 ls:=k.ls
theorem Kn.mv(k:Kn w0 w R f a v d n t D mg mb p x2 x3 F op Lg Lb)(m:Ab R w w')(s:Sb R R' w)(h:Fo R' w' f a v d F'):Kn w0 w' R' f a v d n t D mg mb p x2 x3 F' op Lg Lb:=k.go m (fun _=>.inl) s h (k.N.mv m s)
theorem Kn.nos(k:Kn w0 w R f a v d n t D mg mb p x2 x3 F op Lg Lb)(m:Ab No w w'):Kn w0 w' R f a v d n t D mg mb p x2 x3 F op Lg Lb:=k.go m (fun _ e=>e.elim) (Sb.refl _ _) (k.h.nos m) (k.N.nos m)
theorem Kn.ld(k:Kn w0 w R f a v d n t D mg mb p x2 x3 F op Lg Lb):Ru (Instr.loadAt 22 (.pointer (some (Addr.add ⟨p,0,none⟩ 1)))) w (Yo n) w:=k.P.at.fld (j:=1) (v:=Yo n) oG rfl
theorem Z1(hk:∀ w' R f a v d n t D mg mb p k x2 x3,Kn w w' R f a v d n t D mg mb p x2 x3 (O8 (DZ gN 74 k)) (List.replicate 8 0) [] []->K (Yo p) w'):A7 Yt Cj #[] w K :=
 lO fun w' R f a v d n t D mg mb p k x2 x3 M h N P nR pd dl lo ls=>hk w' R f a v d n t D mg mb p k x2 x3 ⟨M,h,N,P,nR,pd,dl,lo,ls⟩
set_option maxRecDepth 8000 in
theorem nD(hk:∀ w',Ab No w w'->K (.bool true) w'):A7 Yt Fh #[] w K:=by
 apply Pr;unfold I6;refine Z1 fun w1 R1 f a v d n t D mg mb p k x2 x3 k1=>⟨_,rfl,ff rfl ⟨_,rfl,_,k1.ld,?_⟩⟩;have st0:=AfP aF (by decide) k1.h;have t1:=sl1 k;obtain⟨mk,st4,eai⟩:=AhO st0 t1 (AaX k);have nx0:(O8 (DZ gN 74 k)).A.nx=2:=AaX k;have la0:(O8 (DZ gN 74 k)).A.V.last=0:=rfl;have ml0:∀ y,((O8 (DZ gN 74 k)).mi y).length=0:=fun _=>rfl
 generalize A1 (DZ gN 74 k).V gN=T at *;generalize (fun b:Int=>A3 (DZ gN 74 k).V b.toNat)=C at *;generalize O8 (DZ gN 74 k)=F0 at *;have fr0:=ZY (m:=gN.gs.toNat) st0.s st0.hh st0.fz;have eg:F0.A.s.geo=gN:=by rw[st0.s]
 refine yQ (s:=2) (nm:=[97]) (rt:=DF) (by decide) k1.N k1.h k1.dl.2.2 st0.mu (st0.d0 t1 rfl rfl rfl) (by decide) (by rw[eg,fr0];exact Ae7.1) (by rw[eg,fr0];exact Ae7.2) mk.hs (by decide) (by decide) mk.l2 mk.n2 (by rw[nx0];decide) mk.sg (by rw[eg,gp2]) (by rw[nx0];decide) (by omega) (fun y=>by rw[ml0];omega) mk.ts mk.q3 mk.ok (by decide) fun w2 R2 m2 s2 h2 N2 d2 H2=>⟨_,_,rfl,?_⟩
 have k2:=k1.go m2 (fun z e=>e.imp id fun e=>.inr (.inr e)) s2 h2 N2;have up4:(D8 F0 2).A.V.last<=(Gs (D8 F0 2) 1 DF).A.V.last:=mk.q3.addUp;have mu3:=mk.q3.mu;rw[mk.bl]at k2;obtain⟨st5,l5⟩:=st4.set (k:=1) (b:=7) (f0:=((0*32:Nat):Int)) (data:=YQ en2) (after:=(Gs (D8 F0 2) 1 DF).mi 1++(D8 F0 2).mi 2) (by decide) (by decide) (by decide) (by decide) (fun y hy=>(Ln.1 hy).elim (fun hy=>(st4.mu 1 y hy).2) fun hy=>by have:=(mu3 2 y hy).2;omega)
 have k2:Kn w w2 R2 f a v d n t D mg mb p x2 x3 (Ny (Gs (D8 F0 2) 1 DF) 1 7 ((0*32:Nat):Int) (YQ en2) ((Gs (D8 F0 2) 1 DF).mi 1++(D8 F0 2).mi 2)) (List.replicate 8 0) [] (PG 2 []):=k2;generalize Ny (Gs (D8 F0 2) 1 DF) 1 7 ((0*32:Nat):Int) (YQ en2) ((Gs (D8 F0 2) 1 DF).mi 1++(D8 F0 2).mi 2)=F5 at *;have tt2:NZ (NZ T 2 (aT,0)) 1 (rt7,0) 2=(aT,0):=by unfold NZ;rw[if_neg (by decide),if_pos rfl]
 have tt1:NZ (NZ T 2 (aT,0)) 1 (rt7,0) 1=(rt7,0):=by unfold NZ;rw[if_pos rfl]
 have cc7:NZ (NZ C 7 BB) 7 (B3 (NZ C 7 BB 7) (((0*32:Nat):Int)).toNat (YQ en2)) 7=B3 BB 0 (YQ en2):=by
  have e:NZ C 7 BB 7=BB:=by unfold NZ;rw[if_pos rfl]
  rw[e];unfold NZ;rw[if_pos rfl];rfl
 generalize NZ (NZ T 2 (aT,0)) 1 (rt7,0)=T4 at *;generalize NZ (NZ C 7 BB) 7 (B3 (NZ C 7 BB 7) (((0*32:Nat):Int)).toNat (YQ en2))=C5 at *;have d1:=st5.d1 (k:=1) tt1 rfl rfl rfl (by decide) cc7;refine⟨_,rfl,_,k2.ld,zI (k:=2) (by omega) k2.N k2.h k2.dl.1 k2.N.ce.lt (by rw[st5.tE,tt2];decide) (by rw[st5.sV,tt2];rfl) rfl fun w3 R3 m3 s3 h3 N3=>⟨_,_,rfl,?_⟩⟩;have k3:=k2.go m3 (fun z e=>e.imp id .inl) s3 h3 N3
 have la5:=st5.la;have ml5:=st5.ml;refine⟨_,rfl,_,k3.ld,Ac3 (k:=1) (s:=2) (nm:=[97]) (by omega) (by omega) k3.N k3.h d1 Aa3.1 Aa3.2 (by rw[st5.dE,tt2];decide) (by omega) (by have:=ml5 1;omega) fun w4 R4 m4 s4 h4 N4=>?_⟩;have k4:=k3.go m4 (fun z=>.inl) s4 h4 N4;obtain⟨st6,l6⟩:=st5.set (k:=1) (b:=7) (f0:=((0*32:Nat):Int)) (data:=YQ RI) (after:=F5.mi 1) (by decide) (by decide) (by decide) (by decide) (fun y hy=>(st5.mu 1 y hy).2)
 have k4:Kn w w4 R4 f a v d n t D mg mb p x2 x3 (Ny F5 1 7 ((0*32:Nat):Int) (YQ RI) (F5.mi 1)) ((List.replicate 8 0).set 0 2) [] (PG 2 []):=k4;generalize Ny F5 1 7 ((0*32:Nat):Int) (YQ RI) (F5.mi 1)=F6 at *;have la6:=st6.la;have ml6:=st6.ml 2;have g6:F6.A.s.geo=gN:=by rw[st6.s]
 refine yP (k:=2) (i:=aT) (by omega) k4.N k4.h k4.dl.2.1 st6.mu (by rw[st6.tE,tt2];decide) (by rw[st6.sV,tt2]) rfl (by decide) (by decide) (by rw[g6,gp2]) (by omega) (by omega) (by omega) fun w5 R5 m5 s5 h5 N5=>⟨_,rfl,_,rfl,?_⟩;have k5:=k4.go m5 (fun z e=>e.imp id fun e=>.inr (.inl e)) s5 h5 N5;obtain⟨st7,l7⟩:=st6.put (k:=2) (i:=Mh aT) (after:=[(F5.A.V.last:Int)+1]) (by rw[gp2]) rfl (by decide) (fun y hy=>by have:=qA.1 hy;omega)
 generalize Kf F6 2 (Mh aT) [(F5.A.V.last:Int)+1]=F7 at *;have tt7:NZ T4 2 (Mh aT,0) 2=(Mh aT,0):=by unfold NZ;rw[if_pos rfl]
 generalize NZ T4 2 (Mh aT,0)=T7 at *;have th7:OZ F7 2=0:=by rw[st7.tE,tt7];decide
 refine⟨_,rfl,_,k5.ld,kO (k:=2) (i:=Mh aT) (by omega) k5.N k5.h (by rw[st7.sV,tt7]) (fun _ w6 R6 m6 s6 h6=>⟨_,_,rfl,?_⟩) fun e=>absurd th7 e⟩;have k6:=k5.mv m6 s6 h6;obtain⟨w7,a1,a2,a3,a4⟩:=Aw (P:=Yt) (w:=w6) (T:=29) KP;obtain⟨w8,b1,b2,b3,b4⟩:=a2.put (T:=29) (vs:=iL [2,1,0,0]) IJ rfl rfl (HD _);have M8:Ab No w6 w8:=a3.own b3 (Le _);have k8:=k6.nos M8
 have la7:=st7.la;have ml7:=st7.ml 2;have g7:F7.A.s.geo=gN:=by rw[st7.s]
 have hnl:=k6.N.ce.lt;have hgl:=k6.N.gm.lt;have hRl:¬ R6 w6.heap.size:=fun e=>by have:=k6.h.lt _ e;omega
 refine⟨_,w7,a1,w8,b1,_,rfl,_,k8.ld,rJ (k:=2) (m:=(F5.A.V.last:Int)+1) (i:=Mh aT) (by omega) k8.N k8.h k8.dl.1 k8.dl.2.1 st7.mu th7 (by rw[st7.sV,tt7]) rfl (by decide) (by rw[g7,gp2]) rfl (by decide) (by decide) (by rfl) (by omega) (by omega) (by omega) (by rw[st7.ww];decide) fun w9 R9 W' m9 s9 h9 N9=>⟨_,rfl,?_⟩⟩;have k9:=k8.go m9 (fun z e=>e.imp id fun e=>e.imp id .inl) s9 h9 N9;obtain⟨st8,l8⟩:=st7.put (k:=2) (i:=nZ) (after:=[(F5.A.V.last:Int)+1]) (by rw[gp2]) rfl (by decide) (fun y hy=>by have:=qA.1 hy;omega)
 have th8:OZ (AdI (Kf F7 2 nZ [(F5.A.V.last:Int)+1]) W') 2=20:=by
  have e:OZ (Kf F7 2 nZ [(F5.A.V.last:Int)+1]) 2=20:=by
   rw[st8.tE];unfold NZ;rw[if_pos rfl];decide
  exact e
 have b9:=b2.keep m9 fun e=>by
  rcases e with e|e|e
  ·exact hRl e
  ·omega
  ·omega
 have hRl9:¬ R9 w6.heap.size:=fun e=>(s9 _ e).elim hRl fun e=>by have:=b2.lt;omega
 refine⟨_,rfl,_,k9.ld,kO (k:=2) (i:=_) (by omega) k9.N k9.h rfl (fun e=>by rw[th8]at e;cases e) fun _ w10 R10 m10 s10 h10=>⟨_,_,rfl,?_⟩⟩;rw[th8];have k10:=k9.mv m10 s10 h10;obtain⟨w11,c1,c2,c3,c4⟩:=Aw (P:=Yt) (w:=w10) (T:=29) KP;obtain⟨w12,e1,e2,e3,e4⟩:=c2.put (T:=29) (vs:=iL [0,0,0,0]) IJ rfl rfl (HD _);have M12:Ab No w10 w12:=c3.own e3 (Le _);have b12:=(b9.keep m10 hRl9).keep M12 id
 refine⟨_,w11,c1,w12,e1,Ad.dup (tt rfl (tt rfl (tt rfl (tt rfl (tt rfl ⟨_,b12.at.fld (j:=3) (v:=Yn 0) Ah rfl,tt rfl (tt rfl (tt rfl ⟨_,rfl,hk w12 (k10.M.no M12)⟩))⟩)))))⟩
end
section
variable{w w':World}{R R':Nat->Prop}{f a v d n t D mg mb p:Nat}{F:Fy}{K:Value->World->Prop}{op:List Int}{Lg Lb:List (Int×Value)}
theorem Sy{k:Int}(hk:∀ w',Ab No w w'->K (.tuple #[.agg ⟨nV nZ⟩,Yn 2]) w'):A7 Yt Bc #[.pointer none,Yn k] w K:=by
 apply Io;unfold Fb;obtain⟨w1,b1,b2,b3,b4⟩:=Aw (P:=Yt) (w:=w) (T:=69) AC;obtain⟨w2,c1,c2,c3,c4⟩:=b2.put (T:=69) (vs:=nV nZ) Am rfl rfl (Bl _);exact⟨_,w1,b1,tt rfl ⟨_,Eg,w2,c1,_,c2.at.all Am rfl,hk w2 (b3.own c3 (Le _))⟩⟩
theorem Vv{k:Int}(hk:K (.tuple #[Yn 0,Yn 2]) w):A7 Yt BL #[.pointer none,Yn k] w K:=by
 apply IW;unfold FJ;exact tt rfl hk
theorem nK{k:Int}(hk:K (Yn 0) w):A7 Yt B9 #[.pointer none,Yn k] w K:=by
 apply Im;unfold EZ;refine⟨fun x W=>∃(i:Nat)(y:Value),x=[Yn 0,Yn i,y]/\i<=8/\W=w,fun x _=>(8-nI x 1).toNat,⟨0,_,rfl,qE _,rfl⟩,?_⟩;rintro x W ⟨i,y,rfl,hi,rfl⟩;refine⟨_,rfl,Aa (fun hb=>?_) (fun hb=>?_)⟩
 ·have hb:=Ld hb;refine Vv ⟨_,_,rfl,Ad.dup (ff rfl ⟨_,rfl,Ad.dup (ff rfl ?_)⟩)⟩;rw[Ag (x:=(i:Int)+1) (by omega) (by omega)];exact⟨⟨i+1,_,rfl,by omega,rfl⟩,by simp[nI,A2];omega⟩
 ·exact⟨_,rfl,hk⟩
theorem uU{k k2:Int}{i:Nd}{nm:Bs}{s:ByteArray}(h63:k<=9223372036854775807)(N:H4 R w n t D f mg mb op Lg Lb)(h:Fo R w f a v d F)(q:K1 F k i)(hk:∀ w' R',Ab R w w'->Sb R R' w->Fo R' w' f a v d F->K (Yn 20) w') :
  A7 Yt Dz #[Yo n,Yn k,.string (sB nm),Yn k2,.string s] w K:=by
 apply In;unfold Fa;refine ff rfl ⟨_,rfl,_,N.ldD,QW h63 N.De N.nr.2.1 h (by rw[q.sl]) (fun _=>q.ok) fun w1 R1 y m1 s1 h1=>⟨_,_,rfl,?_⟩⟩;rw[q.dir];have N1:=N.mv m1 s1;refine ff rfl ⟨_,rfl,_,N1.ldD,Sl h63 N1.De N1.nr.2.1 h1 (by rw[q.sl]) (fun _=>q.ok) (fun e=>absurd q.dir e) fun _ w2 R2 y m2 s2 h2=>⟨_,_,_,rfl,?_⟩⟩;rw[q.seek];exact tt rfl (hk w2 R2 (Ab.sb m1 s1 m2) (s1.trans s2 m1.size) h2)
set_option maxRecDepth 8000 in
theorem lF{s:ByteArray}{m:Int}:A7 Yt GY #[.string s,Yn m] w (fun v w'=>v=.bool true/\Ab No w w'):=by
 apply Mw;unfold GT;apply Uj;unfold P3;refine tt rfl ⟨_,rfl,?_⟩;apply FG;unfold DO;refine tt rfl ⟨_,_,rfl,?_⟩;apply FH;unfold DP;refine Sy fun w1 m1=>⟨_,_,rfl,?_⟩;obtain⟨w2,b1,b2,b3,b4⟩:=Aw (P:=Yt) (w:=w1) (T:=69) AC;obtain⟨w3,c1,c2,c3,c4⟩:=b2.put (T:=69) (vs:=nV nZ) Am rfl rfl (Bl _)
 have M3:Ab No w w3:=m1.no (b3.own c3 (Le _));refine⟨_,w2,b1,w3,c1,tt rfl ⟨_,_,rfl,Vv ⟨_,_,rfl,?_⟩⟩⟩;apply IX;unfold FK;obtain⟨w4,d1,d2,d3,d4⟩:=Aw (P:=Yt) (w:=w3) (T:=29) KP;refine⟨_,w4,d1,Sy fun w5 m5=>⟨_,_,rfl,?_⟩⟩;obtain⟨w6,e1,e2,e3,e4⟩:=Aw (P:=Yt) (w:=w5) (T:=69) AC;obtain⟨w7,f1,f2,f3,f4⟩:=e2.put (T:=69) (vs:=nV nZ) Am rfl rfl (Bl _)
 have M7:Ab No w4 w7:=m5.no (e3.own f3 (Le _));obtain⟨w8,g1,g2,g3,g4⟩:=(d2.keep M7 id).put (T:=29) (vs:=iL [0,0,0,0]) IJ rfl rfl (HD _);have M8:Ab No w3 w8:=(d3.no M7).own g3 (Le _);refine⟨_,w6,e1,w7,f1,tt rfl ⟨_,Td,w8,g1,_,g2.at.all IJ rfl,_,_,rfl,?_⟩⟩;obtain⟨w9,i1,i2,i3,i4⟩:=Aw (P:=Yt) (w:=w8) (T:=29) KP;obtain⟨w10,j1,j2,j3,j4⟩:=i2.put (T:=29) (vs:=iL [0,0,0,0]) IJ rfl rfl (HD _)
 have M10:Ab No w w10:=(M3.no M8).no (i3.own j3 (Le _));refine⟨_,w9,i1,w10,j1,Z1 fun w11 R11 f a v d n t D mg mb p k x2 x3 k1=>⟨_,rfl,ff rfl ⟨_,rfl,_,k1.ld,?_⟩⟩⟩;have st0:=AfP aF (by decide) k1.h;have q0:=st0.d0 (sl1 k) rfl rfl rfl;have dE5:Dd (O8 (DZ gN 74 k)) 5=20:=by rw[st0.dE,sl5];decide
 have th1:OZ (O8 (DZ gN 74 k)) 1=0:=by rw[st0.tE,sl1];decide
 have kd1:(A1 (O8 (DZ gN 74 k)).A.V (O8 (DZ gN 74 k)).A.s.geo 1).1.kind=2:=by rw[st0.sV,sl1];rfl
 generalize O8 (DZ gN 74 k)=F0 at *;refine yR (nm:=[97]) (by omega) (by decide) k1.N k1.h dE5 fun w12 R12 m12 s12 h12=>⟨_,_,rfl,?_⟩;have k2:=k1.mv m12 s12 h12;refine⟨_,rfl,_,k2.ld,zH (by omega) k2.N k2.h th1 kd1 fun w13 R13 m13 s13 h13=>⟨_,_,rfl,?_⟩⟩;have k3:=k2.mv m13 s13 h13;refine⟨_,rfl,_,k3.ld,AcE (by omega) k3.N k3.h (by rw[dE5];decide) fun w14 R14 m14 s14 h14=>⟨_,rfl,?_⟩⟩
 rw[dE5];have k4:=k3.mv m14 s14 h14;refine⟨_,rfl,_,k4.ld,uU (nm:=[110,111,110,101]) (by omega) k4.N k4.h q0 fun w15 R15 m15 s15 h15=>⟨_,rfl,?_⟩⟩;have k5:=k4.mv m15 s15 h15;have M15:=M10.no k5.M;refine Ad.dup (tt rfl ?_);apply IY;unfold FL;refine tt rfl ⟨_,rfl,tt rfl (tt rfl (tt rfl (tt rfl (tt rfl ?_))))⟩;apply Qx;unfold Jq;refine Sy fun w16 m16=>⟨_,_,rfl,?_⟩
 obtain⟨w17,o1,o2,o3,o4⟩:=Aw (P:=Yt) (w:=w16) (T:=69) AC;obtain⟨w18,u1,u2,u3,u4⟩:=o2.put (T:=69) (vs:=nV nZ) Am rfl rfl (Bl _);have M18:=(M15.no m16).no (o3.own u3 (Le _));refine⟨_,w17,o1,w18,u1,tt rfl ⟨_,rfl,tt rfl ?_⟩⟩;apply Gw;unfold Ep;refine tt rfl ⟨_,rfl,tt rfl ?_⟩;apply In;unfold Fa;refine tt rfl ⟨_,rfl,tt rfl ?_⟩
 apply Il;unfold EY;refine Vv ⟨_,_,rfl,tt rfl ⟨_,rfl,tt rfl (nK ⟨_,rfl,tt rfl ?_⟩)⟩⟩;apply Qy;unfold Jr;refine Ad.dup (tt rfl ⟨_,rfl,tt rfl ⟨_,rfl,tt rfl (tt rfl (tt rfl (tt rfl (tt rfl (nD fun w19 m19=>⟨_,rfl,_,rfl,rfl,M18.no m19⟩)))))⟩⟩)
end
end Go.Z
end
