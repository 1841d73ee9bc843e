/- Parts of the proof, in order: what the statement leans on. -/
import Derived.Test.YtbeejkncceejgaaGreatBd
open Go.Proofs Go.Proofs.YtbeejkncceejgaaGreat
section
open Go Go.Den Go.Proofs
namespace Go.Z
def Qd(l:Nat)(p:Int):Int:=if l≠256 then 4 else if p<0\/4<=p then 3 else 0
def Gl(xs:List UInt8)(p:Int):Nd×Int:=if Qd xs.length p≠0 then(nZ,Qd xs.length p)else PO ((xs.drop (64*p.toNat)).take 64)
theorem Vi(xs:List UInt8)(p:Int):E3 (Gl xs p).1:=by unfold Gl;split;rfl;exact jO _
section
variable{w:World}{K:Value->World->Prop}
theorem bU{a:Option Addr}{l c:Nat}{p:Int}(hk:K (Yn (Qd l p)) w):A7 Yt J8 #[.slice a l c,Yn p] w K:=by
 apply Zi;unfold SV;rw[DN];refine Aa (fun h=>?_) (fun h=>?_)
 ·have h:=Ld h;have e:Qd l p=4:=by unfold Qd;rw[if_pos (by omega)]
  rwa [e]at hk
 have h:=Lc h;refine Ad.cut (fun z w4=>w4=w/\z=[.bool (decide (p<0\/4<=p))]) (Aa (fun h1=>⟨rfl,?_⟩) (fun h1=>⟨rfl,?_⟩)) ?_
 ·have h1:=Ld h1;rw[Li (show p<0\/4<=p from .inl h1)]
 ·have h1:=Lc h1;by_cases h2:p >= 4
  ·rw[Li h2,Li (show p<0\/4<=p from .inr h2)]
  ·rw[Lh h2,Lh (show ¬ (p<0\/4<=p) by omega)]
 rintro z w4 ⟨rfl,rfl⟩;refine⟨_,rfl,Aa (fun h1=>?_) (fun h1=>?_)⟩
 ·have e:Qd l p=3:=by unfold Qd;rw[if_neg (by omega),if_pos (Ld h1)]
  rwa [e]at hk
 ·have e:Qd l p=0:=by unfold Qd;rw[if_neg (by omega),if_neg (Lc h1)]
  rwa [e]at hk
theorem X1{l:Nat}{p:Int}(h:Qd l p=0):l=256/\0<=p/\p<4:=by
 unfold Qd at h
 split at h
 ·cases h
 split at h
 ·cases h
 exact⟨by omega,by omega,by omega⟩
theorem Xe{a:Option Addr}{l c:Nat}{p:Int}{xs:List UInt8}(hl:xs.length=l)(hc:l<=c)(hr:BG w a (A6 xs))(h63:l<=1048576)
  (hk:∀ w',Ab No w w'->K (.tuple #[.agg ⟨nV (Gl xs p).1⟩,Yn (Gl xs p).2]) w'):A7 Yt KZ #[.slice a l c,Yn p] w K:=by
 apply XE;unfold QF;obtain⟨w1,b1,b2,b3,b4⟩:=Aw (P:=Yt) (w:=w) (T:=69) AC;have fin:∀(w':World)(i:Nd)(e:Int),Ab No w1 w'->(i,e)=Gl xs p->∃ w3:World,Gr (Instr.storeAt 69 (Yo w.heap.size) (.agg ⟨nV i⟩)) w' w3/\∃ gR2:Array Value,Ru (Instr.loadAt 69 (Yo w.heap.size)) w3 (.agg gR2) w3/\K (.tuple #[.agg gR2,Yn e]) w3:=fun w' i e m he=>by
  have hw:E3 i:=by have:=Vi xs p;rw[<- he]at this;exact this
  obtain⟨w3,c1,c2,c3,c4⟩:=(b2.keep m id).put (T:=69) (vs:=nV i) Am rfl (A4 hw) (Bl _);refine⟨w3,c1,_,c2.at.all Am (A4 hw),?_⟩
  have:=hk w3 ((b3.no m).own c3 (Le _))
  rw[<- he]at this;exact this
 refine⟨_,w1,b1,bU ⟨_,rfl,?_⟩⟩;rw[DN];refine Aa (fun h=>⟨_,Eg,?_⟩) (fun h=>?_)
 ·have h:=Ld h;exact fin w1 nZ _ (Ab.refl _ _) (by unfold Gl;rw[hl,if_pos h])
 have h:=Lc h;have hm:Qd l p=0:=by omega
 obtain⟨rfl,hp0,hp4⟩:=X1 hm;obtain⟨k,rfl⟩:∃ k:Nat,p=k:=⟨p.toNat,by omega⟩;have e1:Yw ((k:Int)*64)=((64*k:Nat):Int):=by rw[Ag (by omega) (by omega)];omega
 have e2:Yw ((Yw ((k:Int)+1))*64)=((64*k+64:Nat):Int):=by rw[Ag (x:=(k:Int)+1) (by omega) (by omega),Ag (by omega) (by omega)];omega
 rw[e1,e2];refine⟨_,_,_,BH Aj (by omega) (by omega) (by omega),?_⟩;rw[show((64*k:Nat):Int).toNat=64*k by omega,show((64*k+64:Nat):Int).toNat-64*k=64 by omega];refine sT (xs:=(xs.drop (64*k)).take 64) (by simp;omega) (by omega) ((hr.nos b3).cut (by omega) (by omega)) (by omega) fun w4 m4=>⟨_,_,rfl,?_⟩;exact fin w4 _ _ m4 (by unfold Gl;rw[hl,if_neg (by omega)];rfl)
theorem sU{a:Option Addr}{l c:Nat}{p:Int}{xs:List UInt8}{i:Nd}(hw:E3 i)(hl:xs.length=l)(hr:BG w a (A6 xs))(h63:l<=1048576)(hm:Qd l p=0)(ho:O7 i=true)
  (hk:∀ w' q,Ab No w w'->w.heap.size<=q->Av w' q 0 (A6 (B3 xs (64*p.toNat) (Ek i)))->K (.tuple #[.slice (some ⟨q,0,none⟩) 256 256,Yn 0]) w'):A7 Yt MQ #[.slice a l c,Yn p,.agg ⟨nV i⟩] w K:=by
 apply Zf;unfold SS;obtain⟨w1,a1,a2,a3,a4⟩:=AB (P:=Yt) (w:=w) (T:=69) (cs:=nV i);refine⟨_,w1,a1,bU ⟨_,rfl,?_⟩⟩;rw[hm];obtain⟨rfl,hp0,hp4⟩:=X1 hm;obtain⟨k,rfl⟩:∃ k:Nat,p=k:=⟨p.toNat,by omega⟩;refine ff rfl ⟨_,a2.at.all Am (A4 hw),aL hw (fun h=>by rw[ho]at h;cases h) fun _ w3 q m3 hq hat=>⟨_,_,_,_,rfl,ff rfl ?_⟩⟩;have e1:Yw ((k:Int)*64)=((64*k:Nat):Int):=by rw[Ag (by omega) (by omega)];omega
 rw[e1];have M3:=a3.no m3;refine pY (b:=xs) (ys:=Ek i) hl (IM hw) (by omega) (by omega) (by omega) (hr.nos M3) (.inr ⟨_,_,rfl,hat.at⟩) fun w4 m4 h4=>⟨_,_,_,_,rfl,?_⟩;exact hk w4 _ (M3.no m4) M3.size h4
end
theorem Cr{xs:List UInt8}{m:Nat}(i:Nat):(xs.drop i).take m++xs.drop (i+m)=xs.drop i:=by
 rw[<- Tb,wC]
theorem AbC(xs:List UInt8):Wu xs 8=[Ft xs 0,Ft xs 1,Ft xs 2,Ft xs 3,Ft xs 4,Ft xs 5,Ft xs 6,Ft xs 7]:=rfl
theorem JM{xs:List UInt8}(k:Nat)(h:18+2*k<=xs.length):AG 2 (Ft xs k).toNat=(xs.drop (16+2*k)).take 2:=by
 unfold Ft;rw[Lz];exact Hq (by omega)
theorem aJ{xs:List UInt8}(hl:xs.length=64):Cn (Wu xs 8)++xs.drop 32=xs.drop 16:=by
 rw[AbC];unfold Cn;simp only[List.flatMap_cons,List.flatMap_nil,iB,VV];rw[JM 0 (by omega),JM 1 (by omega),JM 2 (by omega),JM 3 (by omega),JM 4 (by omega),JM 5 (by omega),JM 6 (by omega),JM 7 (by omega)];rw[Cr (16+2*7),Cr (16+2*6),Cr (16+2*5),Cr (16+2*4),Cr (16+2*3),Cr (16+2*2),Cr (16+2*1),Cr (16+2*0)]
theorem yK{n:Nat}(h:n<18446744073709551616)(h0:0<=Yw (n:Int)):(Yw (n:Int)).toNat=n:=by
 unfold Yw IntKind.wrap at *;simp[IntKind.signed,IntKind.bits]at *
 split at h0<;>omega
theorem oS{xs:List UInt8}(hl:xs.length=64):[xs.getD 0 0,xs.getD 1 0]++xs.drop 2=xs:=by
 match xs,hl with
 | a::b::r,_=>rfl
theorem aI{xs:List UInt8}(hl:xs.length=64)(h:O7 (CZ xs)=true):IL (CZ xs)++xs.drop 16=[xs.getD 0 0,0]++xs.drop 2:=by
 have hid:(Yw (D6 ((xs.drop 8).take 8):Int)).toNat=D6 ((xs.drop 8).take 8):=by
  have h0:0<=Yw (D6 ((xs.drop 8).take 8):Int):=(jU h).2.2.2.2.2.2.1;refine yK ?_ h0
  have:=Yl ((xs.drop 8).take 8)
  rw[show((xs.drop 8).take 8).length=8 by simp;omega]at this;omega
 unfold IL CZ;simp only[Lz,hid,UInt8.ofNat_toNat,VV];rw[Hq (by omega),Hq (by omega),Hq (by omega),Cr 8,Cr 4,Cr 2]
theorem nA{xs:List UInt8}(hl:xs.length=64)(h:O7 (CZ xs)=true):Ek (CZ xs)=xs↔xs.getD 1 0=0/\(xs.drop 32).all (·==0)=true:=by
 have hN:(IL (CZ xs)++Cn (CZ xs).p).length=32:=by
  rw[Lj,PM,LC];rfl
 have hr:(xs.drop 32).all (·==0)=true↔xs.drop 32=List.replicate 32 0:=by
  rw[cI,List.eq_replicate_iff];constructor
  ·intro h;exact⟨by simp;omega,fun b hb=>by simpa using h b hb⟩
  ·intro h b hb;simpa using h.2 b hb
 rw[hr];constructor
 ·intro e;refine⟨?_,?_⟩
  ·rw[<- e];rfl
  ·have e2:(Ek (CZ xs)).drop 32=xs.drop 32:=by rw[e]
   rw[<- e2];unfold Ek;rw[List.drop_append_of_le_length (by omega),Ls (by omega),Ly]
 ·intro⟨e1,e2⟩;have f:=aI hl h;rw[<- aJ hl,e2,<- VV]at f;have:Ek (CZ xs)=IL (CZ xs)++Cn (Wu xs 8)++List.replicate 32 0:=rfl;rw[this,f];have g:=oS hl;rw[e1]at g;exact g
theorem sS{xs:List UInt8}(hl:xs.length=64):PO xs=if O7 (CZ xs)=true/\Ek (CZ xs)=xs then(CZ xs,0)else(nZ,8):=by
 unfold PO;rw[if_neg (by omega)];by_cases h:O7 (CZ xs)=true
 ·have e:=nA hl h;by_cases hb:Ek (CZ xs)=xs
  ·rw[if_pos ⟨(e.1 hb).1,(e.1 hb).2,h⟩,if_pos ⟨h,hb⟩]
  ·rw[if_neg fun x=>hb (e.2 ⟨x.1,x.2.1⟩),if_neg fun x=>hb x.2]
 ·rw[if_neg fun x=>h x.2.2,if_neg fun x=>h x.1]
section
variable{w0 w w':World}{R R':Nat->Prop}{rl:Nat->Nat}{sp c d mo mm:Nat}{ca oa:Nat->Nat}{Lo Lm:List (Int×Value)}{P V:Ps}{K:Value->World->Prop}
theorem Px.lo(h:Px w0 R w sp d P):∀ x,R x->w0.heap.size<=x/\x<w.heap.size:=h.wf.2.2.2.2.2
def Pz(w0:World)(R:Nat->Prop)(w:World)(sp d:Nat)(V:Ps):Prop:=∃ C,C.D=V.C.D/\C.most=V.C.most/\Px w0 R w sp d ⟨C,V.last,V.ons⟩
theorem Pz.nos(h:Pz w0 R w sp d V)(k:Ab No w w'):Pz w0 R w' sp d V:=by
 obtain⟨C,h1,h2,h⟩:=h;exact⟨C,h1,h2,h.nos k⟩
theorem Pz.lo(h:Pz w0 R w sp d V):∀ x,R x->w0.heap.size<=x/\x<w.heap.size:=by
 obtain⟨C,h1,h2,h⟩:=h;exact h.lo
theorem iR{C:Ca}(e:C.D=V.C.D)(b:Nat):A3 ⟨C,V.last,V.ons⟩ b=A3 V b:=by
 unfold A3;show(match CK V b with | some o=>Hr o.base o.l | none=>Gt C.D b)=_;rw[e]
 all_goals cases CK V b<;>rfl
theorem Mb.cache{C:Ca}(h:Mb P)(hD:C.D.vs.length=P.C.D.vs.length)(hm:C.most=P.C.most):Mb ⟨C,P.last,P.ons⟩ where
 full:=by show C.D.vs.length<=C.most;rw[hD,hm];exact h.full
 onsN:=h.onsN
 onlt:=fun o ho=>by show o.b<C.D.vs.length;rw[hD];exact h.onlt o ho
 base:=h.base
 llen:=h.llen
 ids:=h.ids
 idr:=h.idr
 chb:=h.chb
 dat:=h.dat
 aft:=h.aft
 last:=h.last
end
end Go.Z
open Go Go.Den Go.Proofs
namespace Go.Z
theorem rC(w:World)(a:Option Addr)(l cc:Nat):(Instr.build 270 #[(0,.slice a l cc)]).run Yt w=.ok (.agg ⟨[.slice a l cc,.slice none 0 0]⟩) w:=by kernel_rfl
theorem Ab8(w:World)(cs:List Value):(Instr.box 270 (.agg ⟨cs⟩)).run Yt w=.ok (Yo w.heap.size) (w.alloc (.cells ⟨cs⟩ 270)):=rfl
theorem rB(w:World)(i b f:Int)(a:Option Addr)(l cc:Nat):(Instr.build 275 #[(0,Yn i),(1,Yn b),(2,Yn f),(3,.slice a l cc)]).run Yt w=.ok (.agg ⟨[Yn i,Yn b,Yn f,.slice a l cc,.slice none 0 0,.bool false]⟩) w:=by kernel_rfl
theorem Ab7(w:World)(cs:List Value):(Instr.box 275 (.agg ⟨cs⟩)).run Yt w=.ok (Yo w.heap.size) (w.alloc (.cells ⟨cs⟩ 275)):=rfl
theorem K7(w:World)(v:Int):(Instr.buildSlice 75 1 #[(0,Yn v)]).run Yt w=.ok (.slice (some ⟨w.heap.size,0,none⟩) 1 1) (w.alloc (.cells ⟨[Yn v]⟩ 2)):=by kernel_rfl
theorem xL(w:World)(p:Option Addr):(Instr.buildSlice 268 1 #[(0,.pointer p)]).run Yt w=.ok (.slice (some ⟨w.heap.size,0,none⟩) 1 1) (w.alloc (.cells ⟨[.pointer p]⟩ 272)):=by kernel_rfl
section
variable{w0 w w':World}{R R':Nat->Prop}{rl:Nat->Nat}{sp c d mo mm:Nat}{ca oa:Nat->Nat}{Lo Lm:List (Int×Value)}{P V:Ps}{K:Value->World->Prop}
theorem Ht.take(h:Ht w0 R rl w sp c d mo mm ca oa Lo Lm P){g:Nat}(hg:rl g=0)(h0:w0.heap.size<=g)(h1:g<w.heap.size):Ht w0 (fun x=>R x\/x=g) (ro rl g 5) w sp c d mo mm ca oa Lo Lm P:=by
 have hs:∀ z,rl z≠0->ro rl g 5 z=rl z:=fun z hz=>B6 _ fun e=>hz (by rw[e];exact hg)
 exact {
  cx:=by
   have e:(fun x=>ro rl g 5 x=1)=fun x=>rl x=1:=by
    funext x;apply propext;by_cases e:x=g
    ·subst e;rw[BN,hg];omega
    ·rw[B6 _ e]
   rw[e];exact h.cx
  cell:=h.cell
  mapO:=h.mapO
  mapM:=h.mapM
  rsp:=by rw[hs _ (by rw[h.rsp];omega)];exact h.rsp
  rmo:=by rw[hs _ (by rw[h.rmo];omega)];exact h.rmo
  rmm:=by rw[hs _ (by rw[h.rmm];omega)];exact h.rmm
  chs:=fun x hx=>by
   obtain⟨h1,h2,h3⟩:=h.chs x hx;exact⟨h1,by rw[hs _ (by omega)];exact h2,h3.role fun z hz=>by rw[hs z (by omega)];exact hz⟩
  ons:=fun o ho=>by
   obtain⟨h1,h2,h3⟩:=h.ons o ho;exact⟨h1,by rw[hs _ (by omega)];exact h2,h3.role hs fun _ _=>rfl⟩
  keysO:=h.keysO
  keysM:=h.keysM
  wf:=h.wf
  reg:=fun x hx=>by
   by_cases e:x=g
   ·exact .inr e
   ·rw[B6 _ e]at hx;exact .inl (h.reg x hx)
  lo:=fun x hx=>by
   rcases hx with hx|rfl
   ·exact h.lo x hx
   ·exact⟨h0,h1⟩
  mod:=h.mod }
theorem Ht.newOn(h:Ht w0 R rl w sp c d mo mm ca oa Lo Lm P){b g cc:Nat}(hno:CK P b=none)(hb:b<P.C.D.vs.length)(hl:(A3 P b).length=256)(hg:rl g=5)(hat:At w g 0 (A6 (A3 P b))) :
  ∃ w7,Gr (Instr.mapUpdate 236 (.map (some mm)) (Yn b) (Yo w.heap.size)) (w.alloc (.cells ⟨[.slice (some ⟨g,0,none⟩) 256 cc,.slice none 0 0]⟩ 270)) w7 /\
   Ht w0 (D9 R w w7) (ro rl w.heap.size (8+3*b)) w7 sp c d mo mm ca (fun k=>if k=b then w.heap.size else oa k) Lo (Kg b (pV w.heap.size) Lm) (Bt P b)/\Ab (fun z=>z=mm) w w7:=by
 have m1:Ab No w (w.alloc (.cells ⟨[.slice (some ⟨g,0,none⟩) 256 cc,.slice none 0 0]⟩ 270)):=(Ab.refl No w).alloc _;have a1:Av (w.alloc (.cells ⟨[.slice (some ⟨g,0,none⟩) 256 cc,.slice none 0 0]⟩ 270)) w.heap.size 0 [.slice (some ⟨g,0,none⟩) 256 cc,.slice none 0 0]:=Av.new;have s1:(w.alloc (.cells ⟨[.slice (some ⟨g,0,none⟩) 256 cc,.slice none 0 0]⟩ 270)).heap.size=w.heap.size+1:=by simp
 generalize w.alloc (.cells ⟨[.slice (some ⟨g,0,none⟩) 256 cc,.slice none 0 0]⟩ 270)=w1 at *;have h1:=h.nos m1;have hz:=h.out_of (x:=w.heap.size) (Le _);obtain⟨w7,u1,u2,u3,u4⟩:=Fz (P:=Yt) (T:=236) (k:=(b:Int)) (v:=Yo w.heap.size) tJ h1.mapM;have M7:Ab (fun z=>z=mm) w w7:=m1.anys.trans u3 fun _ _ e=>e;refine⟨w7,u1,?_,M7⟩;have hne:∀{z},rl z≠4->z≠mm:=fun hz e=>hz (by rw[e];exact h.rmm)
 have hq:w.heap.size≠mm:=hne (by rw[hz];omega);have hno':=GJ hno;have hnO:Bt P b={ P with ons:=P.ons++[⟨b,A3 P b,[]⟩] }:=by unfold Bt;rw[hno]
 have hx:VT w w7 rl (ro rl w.heap.size (8+3*b)):=(VT.refl _ _ _).ro (.inr ⟨Le _,by omega,hz⟩) (by omega) (by omega);obtain⟨eC,eL⟩:=PR (V:=P) (b:=b);refine h.step (P':=Bt P b) (Lo':=Lo) (Lm':=Kg b (pV w.heap.size) Lm) (ca':=ca) eC M7 hx (fun z e=>?_) (fun z _ e=>by rw[show z=mm from e,h.rmm];omega) ?_ (h.mapO.keep M7 (hne (by rw[h.rmo];omega))) u2 ?_ ?_ ?_ ?_ (h.wf.newO hb hl)
 ·by_cases e1:z=w.heap.size
  ·subst e1;rw[BN]at e;omega
  ·rw[B6 _ e1]at e;exact e
 ·rw[eL];exact h.cell.keep M7 (hne (by rw[h.rsp];omega))
 ·intro x hx;rw[IK]at hx;exact .inl ⟨hx,rfl,rfl,fun q e hq=>by rw[show q=mm from e,h.rmm]at hq;omega⟩
 ·intro o ho;rw[hnO]at ho;rcases Ln.1 ho with ho | ho
  ·left
   have:=hno' o ho
   refine⟨ho,?_,?_,fun _ _=>rfl,fun q e=>by rw[show q=mm from e,h.rmm];omega⟩
   ·rw[CX,if_neg (by omega)]
   ·exact if_neg (by omega)
  ·simp only[qA]at ho;subst ho;right;refine⟨by rw[CX,if_pos rfl];simp,by simp[BN],?_⟩;refine⟨g,cc,none,0,?_,?_,?_,Ow.nil WM,fun q hq=>by cases hq⟩
   ·have:=a1.keep u3 hq
    simpa using this
   ·exact(hat.keep m1 id).keep u3 (hne (by rw[hg];omega))
   ·rw[B6 _ (fun e=>by rw[e,hz]at hg;omega)];exact hg
 ·intro p hp;obtain⟨x,hx,e⟩:=h.keysO p hp;exact⟨x,by rw[IK];exact hx,e⟩
 ·intro p hp;rcases Ry p hp with e | hp
  ·exact⟨⟨b,A3 P b,[]⟩,by rw[hnO];simp,e⟩
  ·obtain⟨o,ho,e⟩:=h.keysM p hp;exact⟨o,by rw[hnO];exact Ln.2 (.inl ho),e⟩
theorem Ht.bump(h:Ht w0 R rl w sp c d mo mm ca oa Lo Lm P)(hl:P.last+1<=1000000):∃ w',Gr (Instr.storeAt 2 (.pointer (some (Addr.add ⟨sp,0,none⟩ 2))) (Yn ((P.last+1:Nat):Int))) w w' /\
  Ht w0 (D9 R w w') rl w' sp c d mo mm ca oa Lo Lm { P with last:=P.last+1 }/\Ab (fun z=>z=sp) w w':=by
 obtain⟨w',u1,u2,u3,u4⟩:=h.cell.store (P:=Yt) (T:=2) (i:=2) (v:=Yn ((P.last+1:Nat):Int)) (by kernel_rfl) (by simp) rfl;have hne:∀{z},rl z≠2->z≠sp:=fun hz e=>hz (by rw[e];exact h.rsp);refine⟨w',by rw[Ae];exact u1,?_,u3⟩;refine h.step (P':={ P with last:=P.last+1 }) rfl u3 (VT.refl _ _ _) (fun _ e=>e) (fun z _ e=>by rw[show z=sp from e,h.rsp];omega) (by simpa using u2) (h.mapO.keep u3 (hne (by rw[h.rmo];omega))) (h.mapM.keep u3 (hne (by rw[h.rmm];omega))) ?_ ?_ h.keysO h.keysM (h.wf.bump hl)
 ·intro x hx;exact .inl ⟨hx,rfl,rfl,fun q e hq=>by rw[show q=sp from e,h.rsp]at hq;omega⟩
 ·intro o ho;exact .inl ⟨ho,rfl,rfl,fun _ _=>rfl,fun q e=>by rw[show q=sp from e,h.rsp];omega⟩
theorem Ht.appX{S:Nat->Prop}{x:Ch}{o:On}{q gd cd g cc:Nat}{aa la':Option Addr}{ac lc':Nat}(h:Ht w0 R rl w sp c d mo mm ca oa Lo Lm P)(ho:o∈P.ons)(hob:o.b=x.b)(hid:P.last=x.id)(hnew:∀ y∈P.all,y.id≠x.id)(hwf:Mb (Hb P x))
  (k:Ab S w w') (hS:∀ z,S z->z=mo\/z=oa x.b\/rl z=9+3*x.b) (hmO:AU w' mo (Kg x.id (pV q) Lo))
  (hq:w.heap.size<=q/\q<w'.heap.size) (hgd:w.heap.size<=gd/\gd<w'.heap.size) (haa:∀ a,aa=some a->w.heap.size<=a.block/\a.block<w'.heap.size/\a.block≠q/\a.block≠gd) (hqg:q≠gd)
  (hla:∀ a,la'=some a->rl a.block=9+3*x.b\/(w.heap.size<=a.block/\a.block<w'.heap.size/\a.block≠q/\a.block≠gd/\∀ e,aa=some e->a.block≠e.block))
  (c1:Av w' q 0 [Yn x.id,Yn x.b,Yn x.frm,.slice (some ⟨gd,0,none⟩) x.data.length cd,.slice aa x.after.length ac,.bool x.out]) (c2:At w' gd 0 (A6 x.data)) (c3:BG w' aa (iL x.after))
  (c4:Av w' (oa x.b) 0 [.slice (some ⟨g,0,none⟩) 256 cc,.slice la' (o.l.length+1) lc']) (hg:rl g=5) (c5:At w' g 0 (A6 o.base)) (c6:Ow Yt w' w0.heap.size 268 1 la' (o.l.length+1) lc' (pL (o.l.map fun y=>ca y.id)++[pV q])) :
  ∃ rl' ca',Ht w0 (D9 R w w') rl' w' sp c d mo mm ca' oa (Kg x.id (pV q) Lo) Lm (Hb P x):=by
 classical
 have hbig:∀{z},w.heap.size<=z->rl z=0:=fun hz=>h.out_of hz;have hon:=h.ons o ho;rw[hob]at hon;have hrS:∀{z},S z->rl z=3\/rl z=8+3*x.b\/rl z=9+3*x.b:=fun {z} e=>by
  rcases hS z e with e|e|e
  ·left;rw[e];exact h.rmo
  ·right;left;rw[e];exact hon.2.1
  ·exact .inr (.inr e)
 -- the roles
 have hx1:VT w w' rl (ro rl gd 5):=(VT.refl _ _ _).ro (.inr ⟨hgd.1,hgd.2,hbig hgd.1⟩) (by omega) (by omega);have e1:ro rl gd 5 q=0:=by rw[B6 _ hqg];exact hbig hq.1
 have hx2:VT w w' rl (ro (ro rl gd 5) q (10+3*x.id)):=hx1.ro (.inr ⟨hq.1,hq.2,e1⟩) (by omega) (by omega);have hx3:∃ r3,VT w w' rl r3/\r3 gd=5/\r3 q=10+3*x.id/\(∀ e,aa=some e->r3 e.block=5)/\∀ z,r3 z≠rl z->z=gd\/z=q\/∃ e,aa=some e/\z=e.block:=by
  cases haa':aa with
  | none =>
   refine⟨_,hx2,by rw[B6 _ (pE hqg),BN],BN _ _ _,(fun e he=>by cases he),fun z hz=>?_⟩;by_cases a1:z=q
   ·exact .inr (.inl a1)
   ·by_cases a2:z=gd
    ·exact .inl a2
    ·rw[B6 _ a1,B6 _ a2]at hz;exact absurd rfl hz
  | some a =>
   obtain⟨b1,b2,b3,b4⟩:=haa a haa';have e2:ro (ro rl gd 5) q (10+3*x.id) a.block=0:=by rw[B6 _ b3,B6 _ b4];exact hbig b1
   refine⟨ro (ro (ro rl gd 5) q (10+3*x.id)) a.block 5,hx2.ro (.inr ⟨b1,b2,e2⟩) (by omega) (by omega),?_,?_,?_,fun z hz=>?_⟩
   ·rw[B6 _ (pE b4),B6 _ (pE hqg),BN]
   ·rw[B6 _ (pE b3),BN]
   ·intro e he;cases he;exact BN _ _ _
   ·by_cases a0:z=a.block
    ·exact .inr (.inr ⟨a,rfl,a0⟩)
    ·by_cases a1:z=q
     ·exact .inr (.inl a1)
     ·by_cases a2:z=gd
      ·exact .inl a2
      ·rw[B6 _ a0,B6 _ a1,B6 _ a2]at hz;exact absurd rfl hz
 obtain⟨r3,x3,r3g,r3q,r3a,r3o⟩:=hx3;have hx4:∃ r4,VT w w' rl r4/\r4 gd=5/\r4 q=10+3*x.id/\(∀ e,aa=some e->r4 e.block=5)/\(∀ e,la'=some e->r4 e.block=9+3*x.b)/\∀ z,r4 z=1->rl z=1:=by
  have h31:∀ z,r3 z=1->rl z=1:=fun z hz=>by
   by_cases e:r3 z=rl z
   ·omega
   ·rcases r3o z e with rfl|rfl|⟨a,ha,rfl⟩
    ·omega
    ·omega
    ·have:=r3a a ha;omega
  cases hla':la' with
  | none=>exact⟨r3,x3,r3g,r3q,r3a,(fun e he=>by cases he),h31⟩
  | some a =>
   rcases hla a hla' with hr|⟨b1,b2,b3,b4,b5⟩
   ·have:r3 a.block=9+3*x.b:=by rw[x3.old _ (by omega)];exact hr
    exact⟨r3,x3,r3g,r3q,r3a,fun e he=>by cases he;exact this,h31⟩
   ·have e3:r3 a.block=0:=by
     by_cases e:r3 a.block=rl a.block
     ·rw[e];exact hbig b1
     ·rcases r3o _ e with e|e|⟨a2,ha2,e⟩
      ·exact absurd e b4
      ·exact absurd e b3
      ·exact absurd e (b5 a2 ha2)
    refine⟨ro r3 a.block (9+3*x.b),x3.ro (.inr ⟨b1,b2,e3⟩) (by omega) (by omega),?_,?_,?_,?_,fun z hz=>?_⟩
    ·rw[B6 _ (pE b4)];exact r3g
    ·rw[B6 _ (pE b3)];exact r3q
    ·intro e he;rw[B6 _ (fun e'=>b5 e he e'.symm)];exact r3a e he
    ·intro e he;cases he;exact BN _ _ _
    ·by_cases a0:z=a.block
     ·rw[a0,BN]at hz;omega
     ·rw[B6 _ a0]at hz;exact h31 z hz
 obtain⟨rl',x4,r4g,r4q,r4a,r4l,r41⟩:=hx4;obtain⟨s,t,d1,d2,d3,d4⟩:=QN h.wf ho hob;refine⟨rl',fun n=>if n=x.id then q else ca n,?_⟩
 refine h.step (P':=Hb P x) rfl k x4 r41 (fun z _ e=>by have:=hrS e;omega) ?_ hmO (h.mapM.keep k fun e=>by have:=hrS e;rw[h.rmm]at this;omega) ?_ ?_ ?_ ?_ hwf
 ·have:(Hb P x).last=P.last:=hid.symm;rw[this];exact h.cell.keep k fun e=>by have:=hrS e;rw[h.rsp]at this;omega
 ·intro y hy;rcases Lv.1 (d4.mem_iff.1 hy)with rfl | hy
  ·right;refine⟨by rw[CX,if_pos rfl,if_pos rfl],by rw[if_pos rfl];exact r4q,?_⟩;rw[if_pos rfl];exact⟨gd,cd,aa,ac,c1,c2,r4g,c3,r4a⟩
  ·left
   have:=hnew y hy
   refine⟨hy,by rw[CX,if_neg (by omega)],if_neg this,fun z e e2=>by have:=hrS e;omega⟩
 ·intro p hp;have hp':p∈s++{ o with l:=o.l++[x] }::t:=by rw[<- d2];exact hp
  have hca:∀ y∈P.all,(if y.id=x.id then q else ca y.id)=ca y.id:=fun y hy=>if_neg (hnew y hy);have hcase:(p∈P.ons/\p.b≠x.b)\/p={ o with l:=o.l++[x] }:=by
   simp only[Ln,Lv]at hp';rcases hp' with hp' | hp' | hp'
   ·exact .inl ⟨by rw[d1];simp[hp'],d3 p (by simp[hp'])⟩
   ·exact .inr hp'
   ·exact .inl ⟨by rw[d1];simp[hp'],d3 p (by simp[hp'])⟩
  rcases hcase with ⟨hp1,hpb⟩|rfl
  ·left;exact⟨hp1,rfl,rfl,fun y hy=>hca y (fK hp1 hy),fun z e=>by have:=hrS e;omega⟩
  ·right;refine⟨by show Ay Lm (o.b:Int)=_;rw[hob];exact hon.1,by show rl' (oa o.b)=8+3*o.b;rw[hob,x4.old _ (by rw[hon.2.1];omega)];exact hon.2.1,?_⟩;refine⟨g,cc,la',lc',?_,c5,by rw[x4.old g (by omega)];exact hg,?_,?_⟩
   ·show Av w' (oa o.b) 0 [_,.slice la' (o.l++[x]).length lc'];rw[hob,Lj];exact c4
   ·show Ow Yt w' w0.heap.size _ 1 la' (o.l++[x]).length lc' (pL ((o.l++[x]).map fun y=>if y.id=x.id then q else ca y.id));have:pL ((o.l++[x]).map fun y=>if y.id=x.id then q else ca y.id)=pL (o.l.map fun y=>ca y.id)++[pV q]:=by
     rw[pM];unfold pL;rw[pM]
     congr 1
     ·congr 1
      exact Ln3 fun y hy=>hca y (fK ho hy)
     ·simp
    rw[this,Lj];exact c6
   ·show ∀ e,la'=some e->rl' e.block=9+3*o.b;rw[hob];exact r4l
 ·intro p hp;rcases Ry p hp with e | hp
  ·exact⟨x,d4.mem_iff.2 (by simp),e⟩
  ·obtain⟨y,hy,e⟩:=h.keysO p hp;exact⟨y,d4.mem_iff.2 (by simp[hy]),e⟩
 ·intro p hp;obtain⟨o',ho',e⟩:=h.keysM p hp;rw[d1]at ho';simp only[Ln,Lv]at ho';show ∃ o''∈(Hb P x).ons,_;rw[d2];rcases ho' with ho' | rfl | ho'
  ·exact⟨o',by simp[ho'],e⟩
  ·exact⟨{ o' with l:=o'.l++[x] },by simp,e⟩
  ·exact⟨o',by simp[ho'],e⟩
theorem bW{q:Nat}{xs:List Int}(h:Ht w0 R rl w sp c d mo mm ca oa Lo Lm P)(hq:At w q 0 [Yo sp]) :
  OO (.func (.func Ct) #[] #[Yo q]) w No (fun k=>!decide (1<=k/\k<=(P.last:Int))) xs:=by
 intro w' k x _ K hK;refine⟨_,_,_,rfl,?_⟩;show A7 Yt Ct #[Yn x,Yo q] w' K;apply Ml;exact⟨_,(hq.keep k id).load (i:=0) (by kernel_rfl) rfl,jD (h.nos k) ⟨_,rfl,hK _ (Ab.refl _ _)⟩⟩
end
end Go.Z
open Go Go.Den Go.Proofs
namespace Go.Z
theorem BG.keep2{w w':World}{S:Nat->Prop}{a:Option Addr}{xs:List Value}(h:BG w a xs)(m:Ab S w w')(hs:∀ q,a=some q->q.block<w.heap.size->¬ S q.block):BG w' a xs:=by
 rcases h with h|⟨b,o,e,hat⟩
 ·exact .inl h
 ·exact .inr ⟨b,o,e,hat.keep m (hs _ e hat.lt)⟩
theorem bX{l:List Bf}{z y:Bf}(h:y.b≠z.b):y∈KN l z↔y∈l:=by
 constructor
 ·intro hy;rcases Np hy with rfl | ⟨hy,_⟩
  ·exact absurd rfl h
  ·exact hy
 ·intro hy;exact VM hy h
theorem nF{C:Ca}{b:Nat}{y:Bf}{ys:Bk}(h:OP C)(hD:WF C.D)(hy:y∈C.l)(hb:y.b=b)(hl:ys.length=256) :
  ∃ C',TM C b ys=(C',0)/\C'.D=C.D/\C'.most=C.most/\(∀ z,z.b≠b->(z∈C'.l↔z∈C.l))/\∃ z∈C'.l,z.b=b/\z.pins=y.pins/\z.data=ys:=by
 have hlt:b<C.D.vs.length:=by rw[<- hb];exact h.lt y hy
 have hf:DE C.l b=some y:=by rw[<- hb];exact DJ h.nodup hy
 have ha:L6 C b=some { C with l:=AW C.l b++[y] }:=by unfold L6;rw[hf]
 have he:AO C.D (b:Int)=0:=(Xv C.D hlt).1;refine⟨{ C with l:=KN (AW C.l b++[y]) ⟨b,ys,LI (AW C.l b++[y]) b⟩ },?_,rfl,rfl,fun z hz=>?_,⟨b,ys,LI (AW C.l b++[y]) b⟩,VL ⟨y,by simp,hb⟩,rfl,?_,rfl⟩
 ·unfold TM;rw[if_neg (by rw[he];simp),if_neg (by omega),Lz,ha]
 ·show z∈KN _ _↔_;rw[bX (by exact hz),Ln,AP];constructor
  ·rintro(hz1|hz1)
   ·exact hz1.1
   ·simp at hz1;subst hz1;exact hy
  ·intro hz1;exact .inl ⟨hz1,hz⟩
 ·show LI (AW C.l b++[y]) b=y.pins;have hn:((AW C.l b++[y]).map (·.b)).Nodup:=Qc (LH h.nodup _) fun z hz=>by rw[hb];exact(AP.1 hz).2
  have:=fO hn (x:=y) (by simp)
  rw[hb]at this;exact this
theorem nX{C:Ca}{b:Nat}{y:Bf}(h:OP C)(hy:y∈C.l)(hb:y.b=b) :
  ∃ C',nW C b=(C',0)/\C'.D=C.D/\C'.most=C.most/\(∀ z,z.b≠b->(z∈C'.l↔z∈C.l))/\∃ z∈C'.l,z.b=b/\z.pins=y.pins+1/\z.data=y.data:=by
 have hf:DE C.l b=some y:=by rw[<- hb];exact DJ h.nodup hy
 have hh:OU C b=some y:=by unfold OU;rw[if_neg (by omega),Lz,hf]
 refine⟨{ C with l:=KN C.l { y with pins:=y.pins+1 } },by unfold nW;rw[hh],rfl,rfl,fun z hz=>bX (by show z.b≠y.b;rw[hb];exact hz),{ y with pins:=y.pins+1 },VL ⟨y,hy,rfl⟩,hb,rfl,rfl⟩
theorem iH.pins{P:Ps}(h:iH P)(hs:Mb P)(hc:OP P.C):∀ x∈P.C.l,x.pins<=1:=by
 intro x hx;by_cases ho:∃ o∈P.ons,o.b=x.b
 ·obtain⟨o,ho,e⟩:=ho;obtain⟨y,hy,e1,e2,_⟩:=h.pin o ho;have:y=x:=LD hc.nodup hy hx (by omega);rw[<- this,e2];omega
 ·rw[(h.unp x hx fun o ho' e=>ho ⟨o,ho',e⟩).1];omega
theorem aU{P:Ps}{C:Ca}(e:C.D=P.C.D)(b:Nat):(Bt (⟨C,P.last,P.ons⟩:Ps) b).ons=(Bt P b).ons:=by
 have hc:=iR (V:=P) (C:=C) e b;cases ho:CK P b with
 | some o =>
  have ho':CK (⟨C,P.last,P.ons⟩:Ps) b=some o:=ho;unfold Bt;rw[ho,ho']
 | none =>
  have ho':CK (⟨C,P.last,P.ons⟩:Ps) b=none:=ho;unfold Bt;rw[ho,ho'];show P.ons++[_]=P.ons++[_];rw[hc]
def Jn(w0:World)(R:Nat->Prop)(w:World)(sp c d mo mm:Nat)(ca:Nat->Nat)(Lo:List (Int×Value))(P1:Ps)(b g:Nat)(x:List Value)(w9:World):Prop :=
 ∃ R9 rl9 C9 oa9 Lm9,Ht w0 R9 rl9 w9 sp c d mo mm ca oa9 Lo Lm9 { Bt P1 b with C:=C9 }/\(∀ z,R9 z->D9 R w w9 z)/\Ab R w w9/\At w9 w.heap.size 0 [Yo sp]/\¬ R9 w.heap.size /\
  At w9 g 0 (A6 (A3 P1 b))/\C9.D=P1.C.D/\C9.most=P1.C.most/\(∀ z,z.b≠b->(z∈C9.l↔z∈P1.C.l))/\(∃ y∈C9.l,y.b=b/\y.pins=1/\y.data=A3 P1 b)/\x=[.pointer (some ⟨oa9 b,0,none⟩)]
section
variable{w0 w w':World}{R R':Nat->Prop}{rl:Nat->Nat}{sp c d mo mm:Nat}{ca oa:Nat->Nat}{Lo Lm:List (Int×Value)}{P V:Ps}{K:Value->World->Prop}
theorem AfE{w3:World}{b g cc q5:Nat}{kk:List Value->World->Prop}{P1:Ps}{R3:Nat->Prop}{rl3:Nat->Nat}
  (hM:Ab R w w3) (hG:∀ z,R3 z->D9 R w w3 z) (hlo:∀ x,R x->w0.heap.size<=x/\x<w.heap.size) (h3:Ht w0 R3 rl3 w3 sp c d mo mm ca oa Lo Lm P1) (hq5:At w3 q5 0 [Yo sp]) (hqn:¬ R3 q5) (hqe:q5=w.heap.size)
  (hat:At w3 g 0 (A6 (A3 P1 b))) (hl:(A3 P1 b).length=256) (hgn:¬ R3 g) (hg0:w0.heap.size<=g) (hgw:w.heap.size<g) (hb:b<P1.C.D.vs.length) (hno:CK P1 b=none) (hw1:iH P1) (hy:∃ y∈P1.C.l,y.b=b)
  (hk:∀ x w9,Jn w0 R w sp c d mo mm ca Lo P1 b g x w9->kk x w9) :
  ∃ g78:Array Value,Al (Instr.build 270 #[(0,.slice (some ⟨g,0,none⟩) 256 cc)]) (.agg g78)/\∃ q79:Addr,∃ w6:World,Ru (Instr.box 270 (.agg g78)) w3 (.pointer (some q79)) w6/\∃ p80:Option Addr,Ru (Instr.loadAt 128 (Yo q5)) w6 (.pointer p80) w6/\∃ q81:Addr,(.pointer p80:Value)=.pointer (some q81)/\∃ m83:Option Nat,Ru (Instr.loadAt 236 (.pointer (some (Addr.add q81 4)))) w6 (.map m83) w6/\∃ w7:World,Gr (Instr.mapUpdate 236 (.map m83) (Yn b) (.pointer (some q79))) w6 w7/\∃ p86:Option Addr,Ru (Instr.loadAt 128 (Yo q5)) w7 (.pointer p86) w7/\∃ q87:Addr,(.pointer p86:Value)=.pointer (some q87)/\∃ p89:Option Addr,Ru (Instr.loadAt 232 (.pointer (some (Addr.add q87 0)))) w7 (.pointer p89) w7/\A7 Yt DQ #[.pointer p89,Yn b] w7 fun r91 w8=>∃ n91:Int,r91=Yn n91/\kk [.pointer (some q79)] w8:=by
 subst hqe;have hz0:rl3 g=0:=by
  by_cases e:rl3 g=0
  ·exact e
  ·exact absurd (h3.reg g e) hgn
 have hq0:rl3 w.heap.size=0:=by
  by_cases e:rl3 w.heap.size=0
  ·exact e
  ·exact absurd (h3.reg _ e) hqn
 have ht:=h3.take hz0 hg0 hat.lt;have hrg:ro rl3 g 5 g=5:=BN _ _ _;obtain⟨w5,u1,h5,M5⟩:=ht.newOn (cc:=cc) hno hb hl hrg hat;have m4:Ab No w3 (w3.alloc (.cells ⟨[.slice (some ⟨g,0,none⟩) 256 cc,.slice none 0 0]⟩ 270)):=(Ab.refl No w3).alloc _;have h4:=ht.nos m4;refine⟨_,fun w=>rC w _ _ _,_,_,Ab8 _ _,_,(hq5.keep m4 id).load (i:=0) (by kernel_rfl) rfl,_,rfl,_,h4.lm,w5,u1,?_⟩;have hqmm:w.heap.size≠mm:=fun e=>by have:=h3.rmm;rw[<- e,hq0]at this;omega
 have hq5':=hq5.keep M5 hqmm;refine⟨_,hq5'.load (i:=0) (by kernel_rfl) rfl,_,rfl,_,h5.lc,?_⟩;obtain⟨y,hyl,hyb⟩:=hy;have hc1:=h3.cx.wf.1;obtain⟨eC,eL⟩:=PR (V:=P1) (b:=b);obtain⟨C9,p1,p2,p3,p4,z,z1,z2,z3,z4⟩:=nX hc1 hyl hyb;have hpins:∀ x∈P1.C.l,x.pins<=1:=hw1.pins h3.wf hc1;refine AcB (n:=(b:Int)) h5.cx (by rw[eC];exact fun x hx=>QK (hpins x hx) (by omega)) fun w6 m6 x6=>⟨_,rfl,?_⟩
 have x6:Cx w0 (D9 (fun x=>ro (ro rl3 g 5) w3.heap.size (8+3*b) x=1) w5 w6) w6 c d (nW P1.C b).1:=by rw[<- eC];exact x6
 rw[p1]at x6;obtain⟨rl6,h6,hr6⟩:=h5.cache m6 (Ab.refl _ _) x6 (by show C9.D.vs.length=_;rw[p2,eC]) (by show C9.most=_;rw[p3,eC]);have hs3:=hM.size;have hs5:=M5.size;have hs6:=m6.size;have hgl:=hat.lt;have hq3:=hq5.lt;have hsz4:w3.heap.size<w5.heap.size:=(h5.lo _ (h5.reg w3.heap.size (by rw[BN];omega))).2;refine hk _ _ ⟨_,rl6,C9,_,_,h6,fun x hx=>?_,?_,?_,fun hx=>?_,?_,by rw[p2],by rw[p3],p4,⟨z,z1,z2,?_,?_⟩,?_⟩
 ·rcases hx with ((hx|hx)|hx)|hx
  ·rcases hG x hx with hx|hx
   ·exact .inl hx
   ·exact .inr (by omega)
  ·exact .inr (by omega)
  ·exact .inr (by omega)
  ·exact .inr (by omega)
 ·have k1:Ab R w w5:=hM.trans M5 fun z hz e=>by
   have:R3 z:=by rw[show z=mm from e];exact h3.reg mm (by rw[h3.rmm];omega)
   rcases hG z this with e2|e2
   ·exact e2
   ·omega
  refine k1.trans m6 fun z hz e=>?_;have e:ro (ro rl3 g 5) w3.heap.size (8+3*b) z=1:=e;rw[B6 _ (by omega),B6 _ (by omega)]at e;rcases hG z (h3.reg z (by omega))with e2 | e2
  ·exact e2
  ·omega
 ·refine hq5'.keep m6 fun e=>?_;have e:ro (ro rl3 g 5) w3.heap.size (8+3*b) w.heap.size=1:=e;rw[B6 _ (by omega),B6 _ (by omega)]at e;omega
 ·rcases hx with ((hx|hx)|hx)|hx
  ·exact hqn hx
  ·omega
  ·omega
  ·omega
 ·refine(hat.keep M5 fun e=>by have:=h3.rmm;rw[<- show g=mm from e,hz0]at this;omega).keep m6 fun e=>?_;have e:ro (ro rl3 g 5) w3.heap.size (8+3*b) g=1:=e;rw[B6 _ (by omega),BN]at e;omega
 ·have:y.pins=0:=by
   refine(hw1.unp y hyl fun o ho e=>?_).1;exact GJ hno o ho (by omega)
  rw[z3,this]
 ·rw[z4]
  have:=Sg hw1 h3.wf hc1 b
  rw[<- this];unfold Sf;have hf:=DJ hc1.nodup hyl;rw[hyb]at hf;rw[hf]
 ·simp
end
end Go.Z
open Go Go.Den Go.Proofs
namespace Go.Z
section
variable{w0 w w':World}{R R':Nat->Prop}{rl:Nat->Nat}{sp c d mo mm:Nat}{ca oa:Nat->Nat}{Lo Lm:List (Int×Value)}{P V:Ps}{K:Value->World->Prop}
theorem ZT{l:List Int}{f:Int->Bool}{i:Nat}(hi:i<l.length):(l.take (i+1)).filter f=(l.take i).filter f++(if f l[i]=true then [l[i]]else []):=by
 rw[Lx hi,Lq3]
 congr 1
 by_cases hf:f l[i]=true
 ·rw[if_pos hf];simp[hf]
 ·rw[if_neg hf];simp[hf]
set_option maxRecDepth 100000 in
theorem uA{n frm:Int}{a3 a4:Option Addr}{l3 c3 l4 c4:Nat}{data:Bk}{after:List Int}(hP:Px w0 R w sp d P)(hlast:P.last+1<=1000000)(hd:data.length=l3)(hrd:BG w a3 (A6 data))(hdo:data≠[]->∀ q,a3=some q->¬ R q.block)(h63:l3<=9223372036854775807)
  (ha:after.length=l4) (ha6:l4<=1000000) (hra:BG w a4 (iL after)) (hao:after≠[]->∀ q,a4=some q->¬ R q.block)
  (hk:∀ w' C',Ab R w w'->Px w0 (D9 R w w') w' sp d ⟨C',(BF P n frm data after).last,(BF P n frm data after).ons⟩->C'.D=P.C.D->C'.most=P.C.most->K (.tuple #[Yn (PS P n frm data after),Yn (E0 P n frm data after)]) w') :
  A7 Yt Bz #[Yo sp,Yn n,Yn frm,.slice a3 l3 c3,.slice a4 l4 c4] w K:=by
 have hP0:=hP;obtain⟨hw,rl,c,mo,mm,ca,oa,Lo,Lm,h⟩:=hP;apply Ou;unfold HO;have m1:Ab No w (w.alloc (.cells ⟨[Yo sp]⟩ 128)):=(Ab.refl No w).alloc _;have a1:At (w.alloc (.cells ⟨[Yo sp]⟩ 128)) w.heap.size 0 [Yo sp]:=Av.new.at;have s1:(w.alloc (.cells ⟨[Yo sp]⟩ 128)).heap.size=w.heap.size+1:=by simp
 refine⟨_,_,lR _ _,?_⟩;generalize w.alloc (.cells ⟨[Yo sp]⟩ 128)=w1 at *;have h1:=h.nos m1;have hlo:=hP0.lo;have hw0:=h.mod.size
 -- an error: nothing cK changed
 have lN:∀ w2 e,Ab No w w2->E0 P n frm data after=e->e≠0->K (.tuple #[Yn 0,Yn e]) w2:=fun w2 e m he hne=>by
  have hS:BF P n frm data after=P:=by unfold BF;rw[if_neg (by rw[he];exact hne)]
  have hN:PS P n frm data after=0:=by unfold PS;rw[if_neg (by rw[he];exact hne)]
  have:=hk w2 P.C m.anys (by rw[hS];exact hP0.gro m) rfl rfl
  rw[hN,he]at this;exact this
 refine⟨_,a1.load (i:=0) (by kernel_rfl) rfl,ff rfl (Ad.cut (fun x w2=>w1=w2/\x=[.bool (decide (AO P.C.D n≠0))]) (Aa (fun hb=>?_) (fun hb=>?_)) ?_)⟩
 ·have hb:=Ld hb;have:AO P.C.D n≠0:=by unfold AO;rw[if_pos (by omega)];omega
  rw[Li this];exact⟨rfl,rfl⟩
 ·have hb:=Lc hb;refine⟨_,a1.load (i:=0) (by kernel_rfl) rfl,_,rfl,_,h1.llen',rfl,?_⟩
  congr 2
  unfold AO;by_cases hn:(P.C.D.vs.length:Int)<=n
  ·rw[if_pos (.inr hn),Li hn];rfl
  ·rw[if_neg (by omega),Lh hn];rfl
 rintro x w2 ⟨rfl,rfl⟩;refine⟨_,rfl,?_⟩;by_cases he:AO P.C.D n≠0
 ·exact tt (Li he) (lN w1 3 m1 (by unfold E0;rw[if_pos he]) (by omega))
 refine ff (Lh he) ?_;have he0:AO P.C.D n=0:=VU.1 he;refine Ad.cut (fun x w2=>w1=w2/\x=[.bool (decide (data.length=0\/frm<0\/256<frm\/256-frm<data.length))]) (Aa (fun hb=>⟨rfl,?_⟩) (fun hb=>Aa (fun hb2=>⟨rfl,?_⟩) (fun hb2=>Aa (fun hb3=>⟨rfl,?_⟩) (fun hb3=>⟨rfl,?_⟩)))) ?_
 ·have:(l3:Int)=0:=by simpa using hb
  rw[Li (.inl (by omega))]
 ·have:=Ld hb2
  rw[Li (.inr (.inl this))]
 ·have:=Ld hb3
  rw[Li (.inr (.inr (.inl (by omega))))]
 ·have hb:¬ (l3:Int)=0:=by simpa using hb
  have hb2:=Lc hb2;have hb3:=Lc hb3;rw[Ag (x:=256-frm) (by omega) (by omega)]
  congr 2
  rw[RH];simp only[RV];omega
 rintro x w2 ⟨rfl,rfl⟩;refine⟨_,rfl,?_⟩;by_cases hsz:data.length=0\/frm<0\/256<frm\/256-frm<data.length
 ·exact tt (Li hsz) (lN w1 4 m1 (by unfold E0;rw[if_neg he,if_pos hsz]) (by omega))
 refine ff (Lh hsz) ?_;refine XI (S:=No) ha (by omega) (hra.nos m1) (bW h1 a1) fun w2 m2=>⟨_,rfl,?_⟩;have M2:=m1.no m2;by_cases hbad:QP P after=true
 ·exact tt hbad (lN w2 1 M2 (by unfold E0;rw[if_neg he,if_neg hsz,if_pos hbad]) (by omega))
 refine ff (by simpa [QP] using hbad) ?_;have hE:E0 P n frm data after=0:=by unfold E0;rw[if_neg he,if_neg hsz,if_neg hbad]
 obtain⟨b,rfl,hblt⟩:=NR he0;obtain⟨f,rfl⟩:∃ f:Nat,frm=f:=⟨frm.toNat,by omega⟩;have h2:=h.nos M2;have a2:=a1.keep m2 id;have hcw:=h2.cx.wf
 -- what is read
 obtain⟨C1,hask⟩:=Z0 hcw.1 h2.wf.full hblt;obtain⟨l0,y,A⟩:=RY hcw.1 hcw.2.1 hblt hask;have hr0:Y7 P.C b=(C1,0,Gv C1.l):=by unfold Y7;rw[if_neg (by rw[he0];simp),Lz,hask]
 have hyl:y∈C1.l:=by rw[A.l];simp
 have hly:Gv C1.l=y.data:=by unfold Gv;rw[A.l];simp
 have hw1:iH ⟨C1,P.last,P.ons⟩:=hw.ask h2.wf hcw.1 A;have hs1:Mb ⟨C1,P.last,P.ons⟩:=Mb.cache h.wf (by rw[A.D]) A.most;have hlen:(Gv C1.l).length=256:=by rw[hly];exact A.wf.data y hyl
 have hold:Gv C1.l=A3 ⟨C1,P.last,P.ons⟩ b:=by
  rw[<- Sg hw1 hs1 A.wf b];unfold Sf
  have:=DJ A.wf.nodup hyl
  rw[A.yb]at this;show _=(match DE C1.l b with | some x=>x.data | none=>Gt C1.D b);rw[this,hly]
 refine⟨_,a2.load (i:=0) (by kernel_rfl) rfl,_,rfl,_,h2.lc,iP h2.cx fun w3a w3 ag cg m3a m3 x3 o3=>⟨_,_,_,_,rfl,?_⟩⟩;simp only[hr0,hlen]at x3 o3 |-;obtain⟨rl3,h3,hr3⟩:=h2.cache m3a m3 x3 (by rw[A.D]) A.most;obtain⟨g,rfl,hg,hat⟩:=o3.sm (by omega);rw[hold]at hat;have hz2:=M2.size;have hz3a:=m3a.size;have hz3:=m3.size;have hzm2:=m2.size;have hq1:=a1.lt;have hR1:∀ z,rl z=1->R z:=fun z hz=>h.reg z (by omega)
 have M3:Ab R w w3:=(M2.anys.trans m3a fun z _ e=>hR1 z e).no m3;have hrq:∀ z,rl z≠0->z<w.heap.size:=fun z hz=>(hlo z (h.reg z hz)).2;have a3':At w3 w.heap.size 0 [Yo sp]:=(a2.keep m3a fun e=>by have:=hrq w.heap.size (by have e:rl w.heap.size=1:=e;omega);omega).keep m3 id;have hlk:=h3.lookM (b:Int);refine ff rfl ⟨_,a3'.load (i:=0) (by kernel_rfl) rfl,_,rfl,_,h3.lm,_,hlk,?_⟩
 have hG3:∀ z,D9 R w2 w3a z->D9 R w w3 z:=fun z hz=>by
  rcases hz with hz|hz
  ·exact .inl hz
  ·exact .inr (by omega)
 have hqn:¬ D9 R w2 w3a w.heap.size:=by
  rintro(e|e)
  ·have:=(hlo _ e).2;omega
  ·omega
 have hgn:¬ D9 R w2 w3a g:=by
  rintro(e|e)
  ·have:=(hlo _ e).2;omega
  ·omega
 have hcl:(A3 ⟨C1,P.last,P.ons⟩ b).length=256:=by rw[<- hold];exact hlen
 have hblt1:b<C1.D.vs.length:=by rw[A.D];exact hblt
 refine Ad.cut (Jn w0 R w sp c d mo mm ca Lo ⟨C1,P.last,P.ons⟩ b g) ?_ ?_
 ·cases ho:CK P b with
  | none =>
   have ho':CK { P with C:=C1 } b=none:=ho;rw[ho'];exact tt rfl (AfE (P1:=⟨C1,P.last,P.ons⟩) M3 hG3 hlo h3 a3' hqn rfl hat.at hcl hgn (by omega) (by omega) hblt1 ho hw1 ⟨y,hyl,A.yb⟩ fun _ _ hj=>hj)
  | some o =>
   have ho':CK { P with C:=C1 } b=some o:=ho;rw[ho'];obtain⟨hom,hob⟩:=GK ho;have hob:o.b=b:=by omega
   refine ff rfl ?_;have hnO:Bt ⟨C1,P.last,P.ons⟩ b=⟨C1,P.last,P.ons⟩:=by unfold Bt;rw[show CK (⟨C1,P.last,P.ons⟩:Ps) b=some o from ho]
   obtain⟨y1,k1,k2,k3,k4⟩:=hw1.pin o hom;refine⟨_,rl3,C1,oa,Lm,by rw[hnO];exact h3,hG3,M3,a3',hqn,hat.at,rfl,rfl,fun _ _=>Iff.rfl,⟨y1,k1,by omega,k3,?_⟩,?_⟩
   ·have hcv:A3 ⟨C1,P.last,P.ons⟩ b=Hr o.base o.l:=by unfold A3;rw[show CK (⟨C1,P.last,P.ons⟩:Ps) b=some o from ho]
    rw[hcv];exact k4
   ·rw[<- hob];rfl
 rintro x w9 ⟨R9,rl9,C9,oa9,Lm9,h9,hG9,M9,a9,hqn9,hat9,eD9,eM9,ht9,⟨y9,hy9,hy9b,hy9p,hy9d⟩,rfl⟩;clear hlk;have hz9:=M9.size;have hq9:=a9.lt
 -- the rows of the call
 have hrow:∀{wz:World}{a:Option Addr}{xs:List Value},BG w a xs->(xs≠[]->∀ q,a=some q->¬ R q.block)->Ab R w wz->BG wz a xs:=fun {wz a xs} hr ho hm=>by
  by_cases hx:xs=[]
  ·exact .inl hx
  ·exact BG.keep2 hr hm fun q hq _=>ho hx q hq
 have hdo:A6 data≠[]->∀ q,a3=some q->¬ R q.block:=fun hne=>hdo fun e=>hne (by rw[e];rfl);have hao:iL after≠[]->∀ q,a4=some q->¬ R q.block:=fun hne=>hao fun e=>hne (by rw[e];rfl);have hd1:1<=data.length:=by omega
 have hfit:f+data.length<=256:=by omega
 refine pY (b:=A3 ⟨C1,P.last,P.ons⟩ b) (ys:=data) hcl hd (by omega) (by omega) (by omega) (.inr ⟨_,_,rfl,hat9⟩) (hrow hrd hdo M9) fun w10 m10 at10=>⟨_,_,_,_,rfl,?_⟩;have h10:=h9.nos m10;have a10:=a9.keep m10 id;refine⟨_,a10.load (i:=0) (by kernel_rfl) rfl,_,rfl,_,h10.lc,?_⟩;obtain⟨C11,e11,eD11,eM11,ht11,y11,hy11,hy11b,hy11p,hy11d⟩:=nF (ys:=B3 (A3 ⟨C1,P.last,P.ons⟩ b) f data) h10.cx.wf.1 h10.cx.wf.2.1 hy9 hy9b (by rw[KF (by omega)];exact hcl)
 have hz10:=m10.size;have hw9:rl9 w9.heap.size=0:=h9.out_of (Le _);refine Ab9 (n:=(b:Int)) (ys:=B3 (A3 ⟨C1,P.last,P.ons⟩ b) f data) h10.cx (by rw[KF (by omega)];exact hcl) (.inr ⟨_,_,rfl,at10.at⟩) (fun _ q hq e=>by cases hq;have e:rl9 w9.heap.size=1:=e;omega) fun w11 m11 x11=>⟨_,rfl,?_⟩;have x11:Cx w0 (D9 (fun z=>rl9 z=1) w10 w11) w11 c d (TM C9 b (B3 (A3 ⟨C1,P.last,P.ons⟩ b) f data)).1:=x11
 rw[e11]at x11;obtain⟨rl11,h11,hr11⟩:=h10.cache m11 (Ab.refl _ _) x11 (by show C11.D.vs.length=C9.D.vs.length;rw[eD11]) (by show C11.most=C9.most;exact eM11);have hz11:=m11.size;have a11:At w11 w.heap.size 0 [Yo sp]:=a10.keep m11 fun e=>hqn9 (h9.reg _ (by have e:rl9 w.heap.size=1:=e;omega));have hqn11:¬ D9 R9 w10 w11 w.heap.size:=by
  rintro(e|e)
  ·exact hqn9 e
  ·omega
 have M11:Ab R w w11:=(M9.no m10).trans m11 fun z hz e=>by
  have e:rl9 z=1:=e;rcases hG9 z (h9.reg z (by omega))with e2 | e2
  ·exact e2
  ·omega
 have hG11:∀ z,D9 R9 w10 w11 z->D9 R w w11 z:=fun z hz=>by
  rcases hz with hz|hz
  ·rcases hG9 z hz with e|e
   ·exact .inl e
   ·exact .inr (by omega)
  ·exact .inr (by omega)
 -- the number
 have eL:(Bt ⟨C1,P.last,P.ons⟩ b).last=P.last:=PR.2;obtain⟨w12,u12,h12,m12⟩:=h11.bump (by show(Bt ⟨C1,P.last,P.ons⟩ b).last+1<=1000000;rw[eL];exact hlast);have hll:=h11.llast;have hz12:=m12.size;have eW:(Yw (((Bt ⟨C1,P.last,P.ons⟩ b).last:Nat)+1:Int))=(((Bt ⟨C1,P.last,P.ons⟩ b).last+1:Nat):Int):=by
  rw[eL,Ag (by omega) (by omega)];omega
 refine⟨_,a11.load (i:=0) (by kernel_rfl) rfl,_,rfl,_,hll,_,rfl,w12,?_,?_⟩
 ·show Gr (Instr.storeAt _ _ (Yn (Yw (((Bt ⟨C1,P.last,P.ons⟩ b).last:Nat)+1:Int)))) w11 w12;rw[eW];exact u12
 -- the change
 have m12d:Ab No w12 (Go.Den.Af w12):=(Ab.refl No w12).drew;have sz12d:(Go.Den.Af w12).heap.size=w12.heap.size:=rfl;have hsp:rl11 sp=2:=h11.rsp;have hrl11q:rl11 w.heap.size=0:=by
  by_cases e:rl11 w.heap.size=0
  ·exact e
  ·exact absurd (h11.reg _ e) hqn11
 have a12:At (Go.Den.Af w12) w.heap.size 0 [Yo sp]:=(a11.keep m12 fun e=>by have e:w.heap.size=sp:=e;rw[e]at hrl11q;omega).keep m12d id
 have M12:Ab R w (Go.Den.Af w12):=(M11.trans m12 fun z hz e=>by
  have e:z=sp:=e;rcases hG11 z (h11.reg z (by rw[e,hsp];omega))with e2 | e2
  ·exact e2
  ·omega).no m12d
 obtain⟨Q,hQ⟩:∃ Q:Ps,Q={ ({ ({ Bt ⟨C1,P.last,P.ons⟩ b with C:=C9 }:Ps)with C:=C11 }:Ps)with last:=(Bt ⟨C1,P.last,P.ons⟩ b).last+1 }:=⟨_,rfl⟩;have h12':Ht w0 (D9 (D9 R9 w10 w11) w11 w12) rl11 w12 sp c d mo mm ca oa9 Lo Lm9 Q:=by rw[hQ];exact h12
 have hQo:Q.ons=(Bt ⟨C1,P.last,P.ons⟩ b).ons:=by rw[hQ]
 have hQl:Q.last=P.last+1:=by rw[hQ];show(Bt ⟨C1,P.last,P.ons⟩ b).last+1=_;rw[eL]
 have hQC:Q.C=C11:=by rw[hQ]
 have hop:Q.opn=P.opn:=by
  have:=bB (V:=⟨C1,P.last,P.ons⟩) (b:=b)
  have e:Q.opn=(Bt ⟨C1,P.last,P.ons⟩ b).opn:=by unfold Ps.opn Ps.all;rw[hQo]
  rw[e,this];rfl
 have h12d:=h12'.nos m12d;clear h12 h12' hQ;have hll2:=h12d.llast;rw[hQl]at hll2;refine⟨_,a12.load (i:=0) (by kernel_rfl) rfl,_,rfl,_,hll2,?_⟩;generalize Go.Den.Af w12=w12d at *;have hrd12:=hrow hrd hdo M12;have ha3:a3≠none:=fun e=>by
  rcases hrd with hr|⟨_,_,e2,_⟩
  ·have:=QJ List.length hr
   rw[Ai]at this;have e0:([]:List Value).length=0:=rfl;omega
  ·rw[e]at e2;cases e2
 refine Up hrd12 hd (fun e=>absurd e ha3) (by omega) fun w13 a13 c13 o13 m13=>?_;have h13:=h12d.nos m13;have hll3:=h13.llast;rw[hQl]at hll3;have a13':=a12.keep m13 id;obtain⟨gd,rfl,hgd,hgat⟩:=o13.sm (by omega);have hgdl:=hgat.lt;refine⟨_,_,_,rfl,a13'.load (i:=0) (by kernel_rfl) rfl,hll3,_,fun w=>rB w _ _ _ _ _ _,_,_,Ab7 _ _,?_⟩;have m14:Ab No w13 (w13.alloc (.cells ⟨[Yn ((P.last+1:Nat):Int),Yn b,Yn f,.slice (some ⟨gd,0,none⟩) l3 c13,.slice none 0 0,.bool false]⟩ 275)):=(Ab.refl No w13).alloc _
 have q14:Av (w13.alloc (.cells ⟨[Yn ((P.last+1:Nat):Int),Yn b,Yn f,.slice (some ⟨gd,0,none⟩) l3 c13,.slice none 0 0,.bool false]⟩ 275)) w13.heap.size 0 [Yn ((P.last+1:Nat):Int),Yn b,Yn f,.slice (some ⟨gd,0,none⟩) l3 c13,.slice none 0 0,.bool false]:=Av.new;have s14:(w13.alloc (.cells ⟨[Yn ((P.last+1:Nat):Int),Yn b,Yn f,.slice (some ⟨gd,0,none⟩) l3 c13,.slice none 0 0,.bool false]⟩ 275)).heap.size=w13.heap.size+1:=by simp
 generalize w13.alloc (.cells ⟨[Yn ((P.last+1:Nat):Int),Yn b,Yn f,.slice (some ⟨gd,0,none⟩) l3 c13,.slice none 0 0,.bool false]⟩ 275)=w14 at *;have hz13:=m13.size
 refine⟨fun x w15=>∃(i k ac:Nat)(aa:Option Addr),i<=l4/\x=[Yn i]/\k=((after.take i).filter P.opn).length/\Av w15 w13.heap.size 0 [Yn ((P.last+1:Nat):Int),Yn b,Yn f,.slice (some ⟨gd,0,none⟩) l3 c13,.slice aa k ac,.bool false] /\
   Ow Yt w15 w14.heap.size 75 1 aa k ac (iL ((after.take i).filter P.opn))/\Ab No w13 w15/\w14.heap.size<=w15.heap.size,
  fun x _=>(l4-nI x 0).toNat,⟨0,0,0,none,by omega,rfl,rfl,q14,Ow.nil Hg,m14,Le _⟩,?_⟩
 rintro x w15 ⟨i,k,ac,aa,hi,rfl,hkl,q15,o15,m15,sz15⟩;have hfl:((after.take i).filter P.opn).length<=i:=by
  have:=Ld3 P.opn (after.take i)
  simp at this;omega
 refine⟨_,rfl,Aa (fun hb=>?_) (fun hb=>?_)⟩
 ·have hi:i<l4:=by have:=Ld hb;omega
  have hix:i<after.length:=by omega
  have hra15:=hrow hra hao ((M12.no m13).no m15);obtain⟨b4,o4,rfl,hat4⟩:=KI hra15 hix;refine⟨_,A8 (k:=1) (by kernel_rfl) (by omega) (by omega),?_⟩;rw[Ae,show(i:Int).toNat*1=i by omega];refine⟨_,hat4.load (by kernel_rfl) (Kb hix),_,(a13'.keep m15 id).load (i:=0) (by kernel_rfl) rfl,_,rfl,_,(h13.nos m15).lo',?_⟩;obtain⟨p,hp,hpn,_⟩:=(h13.nos m15).lookO after[i];rw[hop]at hpn
  have hsplit:=ZT (l:=after) (f:=P.opn) hix
  refine⟨p,hp,Ad.cut (fun _ w19=>∃(k ac:Nat)(aa:Option Addr),k=((after.take (i+1)).filter P.opn).length/\Av w19 w13.heap.size 0 [Yn ((P.last+1:Nat):Int),Yn b,Yn f,.slice (some ⟨gd,0,none⟩) l3 c13,.slice aa k ac,.bool false] /\
   Ow Yt w19 w14.heap.size 75 1 aa k ac (iL ((after.take (i+1)).filter P.opn))/\Ab No w13 w19/\w14.heap.size<=w19.heap.size) (Aa (fun hb=>?_) (fun hb=>?_)) ?_⟩
  ·have hopn:P.opn after[i]=true:=by
    have:p.isNone=false:=by simpa using hb
    rw[hpn]at this;simpa using this
   rw[if_pos hopn]at hsplit;have mA:Ab No w15 (w15.alloc (.cells ⟨[Yn after[i]]⟩ 2)):=(Ab.refl No w15).alloc _;have aA:At (w15.alloc (.cells ⟨[Yn after[i]]⟩ 2)) w15.heap.size 0 [Yn after[i]]:=Av.new.at;have sA:(w15.alloc (.cells ⟨[Yn after[i]]⟩ 2)).heap.size=w15.heap.size+1:=by simp
   refine⟨_,rfl,aa,k,ac,?_,_,_,_,_,K7 _ _,?_⟩
   ·rw[Ae];exact q15.at.load (by kernel_rfl) rfl
   generalize w15.alloc (.cells ⟨[Yn after[i]]⟩ 2)=w16 at *;obtain⟨q',c',w17,t1,t2,t3,t4⟩:=(o15.nos mA).app (ty:=75) (m:=1) (c2:=1) (ad:=⟨w15.heap.size,0,none⟩) (ys:=[Yn after[i]]) Hg (by omega) (.inr ⟨_,_,rfl,aA⟩) rfl (by omega) (by simp;rfl) (by omega) (by omega) (by omega);have t3':Ab (Of aa) w16 w17:=t3;have hnq:¬ Of aa w13.heap.size:=fun⟨q,hq,e⟩=>by have:=(o15.base hq).1;omega
   have q17:=(q15.keep mA id).keep t3' hnq;obtain⟨w18,u1,u2,u3,u4⟩:=q17.store (P:=Yt) (T:=75) (i:=4) (v:=.slice (some q') (k+1) c') (by kernel_rfl) (by simp) rfl;refine⟨_,_,_,w17,t1,_,rfl,w18,by rw[Ae];exact u1,k+1,c',some q',?_,?_,?_,?_,?_⟩
   ·rw[hsplit,Lj,<- hkl];rfl
   ·simpa using u2
   ·have e:iL ((after.take i).filter P.opn)++[Yn after[i]]=iL ((after.take (i+1)).filter P.opn):=by rw[hsplit];simp[iL,I]
    rw[<- e];refine t2.keep u3 fun q hq e=>?_
    have:=(t2.base hq).1
    have e:q.block=w13.heap.size:=e;omega
   ·refine((m15.no mA).trans t3' fun z hz ⟨q,hq,e⟩=>?_).trans u3 fun z hz e=>?_
    ·have:=(o15.base hq).1
     omega
    ·have e:z=w13.heap.size:=e;omega
   ·have:=t3'.size
    have:=u3.size
    omega
  ·have hopn:P.opn after[i]=false:=by
    have:p.isNone=true:=by simpa using hb
    rw[hpn]at this;simpa using this
   rw[if_neg (by rw[hopn];simp),iB]at hsplit;rw[hsplit];exact⟨k,ac,aa,hkl,q15,o15,m15,sz15⟩
  ·rintro z w19 ⟨k,ac,aa,e1,e2,e3,e4,e5⟩;rw[Ag (x:=(i:Int)+1) (by omega) (by omega)];exact⟨⟨i+1,k,ac,aa,by omega,rfl,e1,e2,e3,e4,e5⟩,by simp[nI,A2];omega⟩
 ·have hil:i=after.length:=by have:=Lc hb;omega
  subst hil;rw[Lx4]at hkl o15;have md:Ab No w15 (Go.Den.Af w15):=(Ab.refl No w15).drew;have szd:(Go.Den.Af w15).heap.size=w15.heap.size:=rfl;have m15d:=m15.no md;have q15d:=q15.keep md id;have o15d:=o15.nos md;generalize Go.Den.Af w15=w15d at *;have h15:=h13.nos m15d;refine⟨_,(a13'.keep m15d id).load (i:=0) (by kernel_rfl) rfl,_,rfl,_,h15.lo',_,rfl,_,by rw[Ae];exact q15d.at.load (by kernel_rfl) rfl,?_⟩
  obtain⟨w20,u1,u2,u3,u4⟩:=Fz (P:=Yt) (T:=235) (k:=((P.last+1:Nat):Int)) (v:=Yo w13.heap.size) jQ h15.mapO;obtain⟨o,ho,hob⟩:=Yv (V:=⟨C1,P.last,P.ons⟩) (b:=b);rw[<- hQo]at ho;obtain⟨k1,k2,g9,cc9,la,lc,c1,c2,c3,c4,c5⟩:=h15.ons o ho;rw[hob]at k1 k2 c1 c5;have hrmo:rl11 mo=3:=h15.rmo;have hnmo:∀{z},rl11 z≠3->z≠mo:=fun hz e=>hz (by rw[e];exact hrmo)
  have hout:∀{z},w12d.heap.size<=z->rl11 z=0:=fun hz=>h12d.out_of hz;have d1:=c1.keep u3 (hnmo (by rw[k2];omega));refine⟨w20,u1,_,rfl,_,rfl,la,_,lc,by rw[Ae];exact d1.at.load (by kernel_rfl) rfl,_,_,_,_,xL _ _,?_⟩;have m21:Ab No w20 (w20.alloc (.cells ⟨[Yo w13.heap.size]⟩ 272)):=(Ab.refl No w20).alloc _;have a21:At (w20.alloc (.cells ⟨[Yo w13.heap.size]⟩ 272)) w20.heap.size 0 [Yo w13.heap.size]:=Av.new.at
  have s21:(w20.alloc (.cells ⟨[Yo w13.heap.size]⟩ 272)).heap.size=w20.heap.size+1:=by simp
  generalize w20.alloc (.cells ⟨[Yo w13.heap.size]⟩ 272)=w21 at *;have hlaS:∀{z},rl11 z≠9+3*b->¬ Of la z:=fun hz ⟨q,hq,e⟩=>hz (by rw[e];exact c5 q hq);have hlen2:=h15.wf.llen o ho;have hlast2:=h15.wf.last;have hw023:=h15.mod.size;obtain⟨q',c',w22,t1,t2,t3,t4⟩:=((c4.keep u3 fun q hq=>hnmo (by rw[c5 q hq];omega)).nos m21).app (ty:=268) (m:=1) (c2:=1) (ad:=⟨w20.heap.size,0,none⟩) (ys:=[Yo w13.heap.size]) WM (by omega) (.inr ⟨_,_,rfl,a21⟩) rfl (by omega) (by simp;rfl) (by omega) (by omega) (by omega)
  have t3':Ab (Of la) w21 w22:=t3;have d2:=(d1.keep m21 id).keep t3' (hlaS (by rw[k2];omega));obtain⟨w23,v1,v2,v3,v4⟩:=d2.store (P:=Yt) (T:=268) (i:=1) (v:=.slice (some q') (o.l.length+1) c') (by kernel_rfl) (by simp) rfl;have hrq:rl11 w13.heap.size=0:=hout (by omega);have hnoa:∀{z},rl11 z≠8+3*b->z≠oa9 b:=fun hz e=>hz (by rw[e];exact k2);have q23:=(((q15d.keep u3 (hnmo (by omega))).keep m21 id).keep t3' (hlaS (by omega))).keep v3 (hnoa (by omega))
  refine⟨_,_,_,w22,t1,_,rfl,w23,by rw[Ae];exact v1,_,rfl,_,by rw[Ae];exact q23.at.load (by kernel_rfl) rfl,?_⟩
  -- what it is now
  have hx:HC P b f data after=⟨P.last+1,b,f,data,after.filter P.opn,false⟩:=rfl;have hfl2:(after.filter P.opn).length<=after.length:=Ld3 _ _;have hng:∀ k∈after,1<=k/\k<=(P.last:Int):=fun k hk'=>by
   have:=Lr4.1 (by simpa [QP] using hbad:(after.any fun k=>!decide (1<=k/\k<=(P.last:Int)))=false) k hk'
   simpa using this
  have hF1:Fit (⟨C1,P.last,P.ons⟩:Ps) (HC P b f data after):=⟨rfl,hblt1,⟨hd1,hfit⟩,by show(after.filter P.opn).length<=_;omega,fun k hk'=>by
   have:=hng k (dF.1 hk').1
   show k<((P.last+1:Nat):Int)
   omega,rfl⟩
  have hsN:=hs1.newO hblt1 hcl;have eD11':C11.D=C1.D:=by rw[eD11];exact eD9
  have eM11':C11.most=C1.most:=by rw[eM11];exact eM9
  have eN:=PR (V:=⟨C1,P.last,P.ons⟩) (b:=b);have hsQ:Mb (⟨C11,(Bt ⟨C1,P.last,P.ons⟩ b).last,(Bt ⟨C1,P.last,P.ons⟩ b).ons⟩:Ps):=Mb.cache hsN (by rw[eD11',eN.1]) (by rw[eM11',eN.1]);have eQ:Hb Q (HC P b f data after)=Hb (⟨C11,(Bt ⟨C1,P.last,P.ons⟩ b).last,(Bt ⟨C1,P.last,P.ons⟩ b).ons⟩:Ps) (HC P b f data after):=by
   unfold Hb;rw[hQo,hQC]
  have hwfA:Mb (Hb Q (HC P b f data after)):=by
   rw[eQ];exact hsQ.app (by rw[<- hQo];exact ho) hob ⟨by show P.last+1=_;rw[eL],by show b<C11.D.vs.length;rw[eD11'];exact hblt1,hF1.dat,hF1.aft,hF1.afl,rfl⟩ hlast
  have hM23:Ab (fun z=>z=mo\/z=oa9 b\/rl11 z=9+3*b) w12d w23:=by
   have k0:Ab No w12d w15d:=m13.no m15d;refine(((k0.anys.trans u3 fun z _ e=>.inl e).no m21).trans t3' fun z _ e=>?_).trans v3 fun z _ e=>.inr (.inl e);obtain⟨q,hq,e⟩:=e;exact .inr (.inr (by rw[e];exact c5 q hq))
  have hz15:=m15d.size;have hz20:=u3.size;have hz22:=t3'.size;have hz23:=v3.size;have haaO:∀ e,aa=some e->w14.heap.size<=e.block/\e.block<w15d.heap.size:=fun e he=>o15d.base he;obtain⟨rl',ca',hfin⟩:=h12d.appX (S:=fun z=>z=mo\/z=oa9 b\/rl11 z=9+3*b) (x:=HC P b f data after) (o:=o) (q:=w13.heap.size) (gd:=gd) (cd:=c13) (g:=g9) (cc:=cc9) (aa:=aa) (la':=some q') (ac:=ac) (lc':=c') ho hob hQl
   (fun z hz=>by
    have:z∈P.all:=by
     have e:Q.all=(Bt ⟨C1,P.last,P.ons⟩ b).all:=by unfold Ps.all;rw[hQo]
     rw[e,IK]at hz;exact hz
    have:=h.wf.idr z this
    show z.id≠P.last+1
    omega) hwfA hM23 (fun z e=>e) (by
     refine((u2.keep m21 id).keep t3' (hlaS (by rw[hrmo];omega))).keep v3 (hnoa (by rw[hrmo];omega))) ⟨by omega,by omega⟩ ⟨hgd,by omega⟩
   (fun e he=>by have:=haaO e he;exact⟨by omega,by omega,by omega,by omega⟩) (by omega) (fun e he=>by
    cases he;have hlt:=(t2.base (q:=q') rfl).2;rcases t4 with ⟨q2,hq2,e2⟩ | e2
    ·left;rw[e2];exact c5 q2 hq2
    ·right;refine⟨by omega,by omega,by omega,by omega,fun e he=>?_⟩
     have:=haaO e he
     omega)
   (by
    show Av w23 w13.heap.size 0 [Yn ((P.last+1:Nat):Int),Yn b,Yn f,.slice (some ⟨gd,0,none⟩) data.length c13,.slice aa (after.filter P.opn).length ac,.bool false]
    rw[hd,<- hkl];exact q23)
   ((((((hgat.keep m15d id).keep u3 (hnmo (by rw[hout hgd];omega))).keep m21 id).keep t3' (hlaS (by rw[hout hgd];omega))).keep v3 (hnoa (by rw[hout hgd];omega))).at)
   (by
    show BG w23 aa (iL (after.filter P.opn));have r0:=o15d.rowU.row;have hr:∀ e,aa=some e->rl11 e.block=0:=fun e he=>hout (by have:=haaO e he;omega)
    exact(((r0.keep u3 fun e he=>hnmo (by rw[hr e he];omega)).nos m21).keep t3' fun e he=>hlaS (by rw[hr e he];omega)).keep v3 fun e he=>hnoa (by rw[hr e he];omega))
   (by show Av w23 (oa9 b) 0 _;simpa using v2) c3 ((((c2.keep u3 (hnmo (by rw[c3];omega))).keep m21 id).keep t3' (hlaS (by rw[c3];omega))).keep v3 (hnoa (by rw[c3];omega)))
   (by
    refine(t2.keep v3 fun e he=>?_);cases he;rcases t4 with ⟨q2,hq2,e2⟩ | e2
    ·exact hnoa (by rw[e2,c5 q2 hq2];omega)
    ·exact hnoa (by rw[hout (by omega)];omega))
  have hS:BF P b f data after=K5 P (HC P b f data after):=by unfold BF;rw[if_pos hE];simp
  have hN:PS P b f data after=((P.last+1:Nat):Int):=by unfold PS;rw[if_pos hE]
  have hoE:(K5 (⟨C1,P.last,P.ons⟩:Ps) (HC P b f data after)).ons=(K5 P (HC P b f data after)).ons:=by
   show(Bt ⟨C1,P.last,P.ons⟩ b).ons.map _=(Bt P b).ons.map _;rw[aU A.D]
  have hadd:=hw1.add (x:=HC P b f data after) (C3:=C11) hs1 hF1 hcl hlast eD11' (fun z hz=>(ht11 z hz).trans (ht9 z hz)) (by
   have:=h15.cx.wf.1
   rw[hQC]at this
   exact this.nodup) ⟨y11,hy11,hy11b,by rw[hy11p,hy9p],hy11d⟩
  have:=hk w23 C11 ?_ ?_ (by rw[eD11'];exact A.D) (by rw[eM11'];exact A.most)
  ·rw[hN,hE]at this;exact this
  ·refine M12.trans hM23 fun z hz e=>?_;have hnz:rl11 z≠0:=by
    rcases e with e|e|e
    ·rw[e,hrmo];omega
    ·rw[e,k2];omega
    ·omega
   rcases h12d.reg z hnz with e2|e2
   ·rcases hG11 z e2 with e3|e3
    ·exact e3
    ·omega
   ·omega
  ·rw[hS];refine⟨?_,rl',c,mo,mm,ca',oa9,Kg ((HC P b f data after).id:Int) (pV w13.heap.size) Lo,Lm9,?_⟩
   ·have:(⟨C11,(K5 P (HC P b f data after)).last,(K5 P (HC P b f data after)).ons⟩:Ps)={ K5 (⟨C1,P.last,P.ons⟩:Ps) (HC P b f data after)with C:=C11 }:=by
     rw[<- hoE];rfl
    rw[this];exact hadd
   ·have:(⟨C11,(K5 P (HC P b f data after)).last,(K5 P (HC P b f data after)).ons⟩:Ps)=Hb Q (HC P b f data after):=by
     rw[<- hoE,eQ];rfl
    rw[this];refine hfin.widen (fun z hz=>?_) fun z hz=>?_
    ·rcases hz with (hz|hz)|hz
     ·rcases hG11 z hz with e|e
      ·exact .inl e
      ·exact .inr (by omega)
     ·exact .inr (by omega)
     ·exact .inr (by omega)
    ·rcases hz with hz|hz
     ·have:=hlo z hz;omega
     ·omega
end
end Go.Z
end
section
open Go Go.Den Go.Proofs
namespace Go.Den
section
variable{P:Program}{w:World}
end
end Go.Den
namespace Go.Z
section
variable{w0 w w':World}{R R':Nat->Prop}{rl:Nat->Nat}{sp c d mo mm:Nat}{ca oa:Nat->Nat}{Lo Lm:List (Int×Value)}{P V:Ps}{K:Value->World->Prop}
end
end Go.Z
open Go Go.Den Go.Proofs
namespace Go.Z
section
variable{w0 w w':World}{R R':Nat->Prop}{rl:Nat->Nat}{sp c d mo mm:Nat}{ca oa:Nat->Nat}{Lo Lm:List (Int×Value)}{P V:Ps}{K:Value->World->Prop}
end
end Go.Z
open Go Go.Den Go.Proofs
namespace Go.Z
section
variable{w0 w w':World}{R R':Nat->Prop}{rl:Nat->Nat}{sp c d mo mm:Nat}{ca oa:Nat->Nat}{Lo Lm:List (Int×Value)}{P V:Ps}{K:Value->World->Prop}
end
end Go.Z
open Go Go.Den Go.Proofs
namespace Go.Z
section
variable{w0 w w':World}{R R':Nat->Prop}{rl:Nat->Nat}{sp c d mo mm:Nat}{ca oa:Nat->Nat}{Lo Lm:List (Int×Value)}{P V:Ps}{K:Value->World->Prop}
theorem AcW{C:Ca}{b f:Nat}{data:Bk}{after:List Int}:HC ⟨C,V.last,V.ons⟩ b f data after=HC V b f data after:=rfl
theorem fN{C:Ca}{n f:Int}{data:Bk}{after:List Int}(e:C.D=V.C.D):E0 ⟨C,V.last,V.ons⟩ n f data after=E0 V n f data after:=by
 unfold E0;show(if AO C.D n≠0 then(3:Int)else _)=_;rw[e];rfl
theorem uB{C:Ca}{n f:Int}{data:Bk}{after:List Int}(e:C.D=V.C.D):(BF ⟨C,V.last,V.ons⟩ n f data after).last=(BF V n f data after).last/\(BF ⟨C,V.last,V.ons⟩ n f data after).ons=(BF V n f data after).ons/\(BF V n f data after).C=V.C:=by
 unfold BF;rw[fN e,AcW];by_cases h:E0 V n f data after=0
 ·rw[if_pos h,if_pos h];refine⟨rfl,?_,(PR (V:=V)).1⟩;show(Bt ⟨C,V.last,V.ons⟩ _).ons.map _=(Bt V _).ons.map _;rw[aU e]
 ·rw[if_neg h,if_neg h];exact⟨rfl,rfl,rfl⟩
theorem Ac0{C:Ca}{n f:Int}{data:Bk}{after:List Int}(e:C.D=V.C.D):PS ⟨C,V.last,V.ons⟩ n f data after=PS V n f data after:=by unfold PS;rw[fN e]
theorem V6{n frm:Int}{a3 a4:Option Addr}{l3 c3 l4 c4:Nat}{data:Bk}{after:List Int}(hP:Pz w0 R w sp d V)(hlast:V.last+1<=1000000)(hd:data.length=l3)(hrd:BG w a3 (A6 data))(hdo:data≠[]->∀ q,a3=some q->¬ R q.block)(h63:l3<=9223372036854775807)
  (ha:after.length=l4) (ha6:l4<=1000000) (hra:BG w a4 (iL after)) (hao:after≠[]->∀ q,a4=some q->¬ R q.block)
  (hk:∀ w',Ab R w w'->Pz w0 (D9 R w w') w' sp d (BF V n frm data after)->K (.tuple #[Yn (PS V n frm data after),Yn (E0 V n frm data after)]) w') :
  A7 Yt Bz #[Yo sp,Yn n,Yn frm,.slice a3 l3 c3,.slice a4 l4 c4] w K:=by
 obtain⟨C,eD,eM,hP⟩:=hP;refine uA (n:=n) (frm:=frm) hP hlast hd hrd hdo h63 ha ha6 hra hao fun w' C' M h e1 e2=>?_;obtain⟨p1,p2,p3⟩:=uB (V:=V) (C:=C) (n:=n) (f:=frm) (data:=data) (after:=after) eD;rw[Ac0 eD,fN eD];refine hk w' M ⟨C',?_,?_,?_⟩
 ·rw[p3,e1];exact eD
 ·rw[p3,e2];exact eM
 ·rw[<- p1,<- p2];exact h
def VC(V:Ps)(n:Int):Bool:=decide (1<=n/\n<=(V.last:Int))&&!V.opn n
theorem zO{n:Int}(hP:Pz w0 R w sp d V)(hk:K (.bool (VC V n)) w):A7 Yt Fi #[Yo sp,Yn n] w K:=by
 obtain⟨C,eD,eM,hw,rl,c,mo,mm,ca,oa,Lo,Lm,h⟩:=hP;apply Pv;unfold I9;obtain⟨p,hp,hpn,_⟩:=h.lookO n;refine Ad.cut (fun x w'=>w=w'/\x=[.bool (VC V n)]) (tt rfl (jD h ⟨_,rfl,Aa (fun hb=>?_) (fun hb=>?_)⟩)) ?_
 ·refine⟨_,rfl,_,h.lo',p,hp,rfl,?_⟩;unfold VC;rw[show decide (1<=n/\n<=(V.last:Int))=true from hb,lE];have:p.isNone=!V.opn n:=hpn;rw[this]
 ·refine⟨rfl,?_⟩;unfold VC;rw[show decide (1<=n/\n<=(V.last:Int))=false from hb,Le5]
 ·rintro x w' ⟨rfl,rfl⟩;exact⟨_,rfl,hk⟩
end
end Go.Z
open Go Go.Den Go.Proofs
namespace Go.Z
theorem ZB(w:World)(p:Option Addr)(n:Int)(m1 m2:Option Nat):(Instr.build 238 #[(0,.pointer p),(1,Yn n),(3,.map m1),(4,.map m2)]).run Yt w=.ok (.agg ⟨[.pointer p,Yn n,Yn 0,.map m1,.map m2]⟩) w:=by kernel_rfl
theorem xJ(w:World)(cs:List Value):(Instr.box 238 (.agg ⟨cs⟩)).run Yt w=.ok (Yo w.heap.size) (w.alloc (.cells ⟨cs⟩ 238)):=rfl
def AfX(k n:Nat):Ps:=⟨⟨AH k,n,[]⟩,0,[]⟩
section
variable{w0 w w':World}{R R':Nat->Prop}{sp c d sb mb sc:Nat}{L:List (Int×Value)}{P V:Ps}{K:Value->World->Prop}
set_option maxRecDepth 100000 in
theorem Ac1{D:St}{k:Nat}(hd:AA w R d sb mb sc L D)(hsm:Ma D)(hlo:∀ x,R x->w0.heap.size<=x/\x<w.heap.size)(hm:Ab No w0 w)(hrun:D.left=-1)(h1:1<=k)(h2:k<=4096)(hf:D.vs.length<=k)
  (hk:∀ w' sp,Ab No w w'->Pz w0 (D9 R w w') w' sp d ⟨⟨D,k,[]⟩,0,[]⟩->K (.tuple #[Yo sp,Yn 0]) w'):A7 Yt L1 #[Yo d,Yn k] w K:=by
 classical
 apply XG;unfold QG;refine AcA (w0:=w0) hd hsm hlo hm (fun h=>by omega) fun k' hk' _ _ w2 c m2 x2=>⟨_,_,rfl,ff rfl ?_⟩;have:k'=k:=by omega
 subst this;have hx2:=x2;obtain⟨rl,m,sb',mb',sc',lc',la',L',mp',hC⟩:=x2;refine Zs hC.disk ⟨_,rfl,_,_,CG,_,_,CG,_,fun w=>ZB w _ _ _ _,_,_,xJ _ _,?_⟩;have m3:Ab No w2 (w2.alloc (.map #[] 0)):=(Ab.refl No w2).alloc _;have p3:AU (w2.alloc (.map #[] 0)) w2.heap.size []:=AU.new;have s3:(w2.alloc (.map #[] 0)).heap.size=w2.heap.size+1:=by simp
 generalize w2.alloc (.map #[] 0)=w3 at *;have m4:Ab No w3 (w3.alloc (.map #[] 0)):=(Ab.refl No w3).alloc _;have p4:AU (w3.alloc (.map #[] 0)) w3.heap.size []:=AU.new;have s4:(w3.alloc (.map #[] 0)).heap.size=w3.heap.size+1:=by simp
 generalize w3.alloc (.map #[] 0)=w4 at *;have m5:Ab No w4 (w4.alloc (.cells ⟨[Yo c,Yn D.vs.length,Yn 0,.map (some w2.heap.size),.map (some w3.heap.size)]⟩ 238)):=(Ab.refl No w4).alloc _;have a5:Av (w4.alloc (.cells ⟨[Yo c,Yn D.vs.length,Yn 0,.map (some w2.heap.size),.map (some w3.heap.size)]⟩ 238)) w4.heap.size 0 [Yo c,Yn D.vs.length,Yn 0,.map (some w2.heap.size),.map (some w3.heap.size)]:=Av.new
 have s5:(w4.alloc (.cells ⟨[Yo c,Yn D.vs.length,Yn 0,.map (some w2.heap.size),.map (some w3.heap.size)]⟩ 238)).heap.size=w4.heap.size+1:=by simp
 generalize w4.alloc (.cells ⟨[Yo c,Yn D.vs.length,Yn 0,.map (some w2.heap.size),.map (some w3.heap.size)]⟩ 238)=w5 at *;have M5:Ab No w2 w5:=(m3.no m4).no m5;have hz2:=m2.size;have hw0:=hm.size;have hG:∀ x,D9 R w w2 x->w0.heap.size<=x/\x<w2.heap.size:=fun x hx=>by
  rcases hx with hx|hx
  ·have:=hlo x hx;omega
  ·omega
 refine hk w5 w4.heap.size (m2.no M5) ⟨⟨D,k',[]⟩,rfl,rfl,?_,fun x=>if x=w4.heap.size then 2 else if x=w2.heap.size then 3 else if x=w3.heap.size then 4 else if D9 R w w2 x then 1 else 0,c,w2.heap.size,w3.heap.size,fun _=>0,fun _=>0,[],[],?_⟩
 ·exact {
   lne:=fun o ho=>(by cases ho)
   pin:=fun o ho=>(by cases ho)
   unp:=fun x hx=>(by cases hx)
   run:=hrun
   acc:=fun o ho=>(by cases ho)
   may:=fun o ho=>(by cases ho)
   cls:=fun o ho=>(by cases ho)
   afl:=fun x hx=>(by cases hx) }
 have e1:(fun x=>(if x=w4.heap.size then 2 else if x=w2.heap.size then 3 else if x=w3.heap.size then 4 else if D9 R w w2 x then 1 else 0)=1)=D9 R w w2:=by
  funext x;apply propext;constructor
  ·intro e;by_cases h1:x=w4.heap.size
   ·rw[if_pos h1]at e;omega
   ·rw[if_neg h1]at e;by_cases h2:x=w2.heap.size
    ·rw[if_pos h2]at e;omega
    ·rw[if_neg h2]at e;by_cases h3:x=w3.heap.size
     ·rw[if_pos h3]at e;omega
     ·rw[if_neg h3]at e;by_cases h4:D9 R w w2 x
      ·exact h4
      ·rw[if_neg h4]at e;omega
  ·intro hx
   have:=hG x hx
   rw[if_neg (by omega),if_neg (by omega),if_neg (by omega),if_pos hx]
 exact {
  cx:=by rw[e1];exact hx2.nos M5
  cell:=a5
  mapO:=(p3.keep m4 id).keep m5 id
  mapM:=p4.keep m5 id
  rsp:=if_pos rfl
  rmo:=by rw[if_neg (by omega),if_pos rfl]
  rmm:=by rw[if_neg (by omega),if_neg (by omega),if_pos rfl]
  chs:=fun x hx=>(by cases hx)
  ons:=fun o ho=>(by cases ho)
  keysO:=fun p hp=>(by cases hp)
  keysM:=fun p hp=>(by cases hp)
  wf:={ full:=hf,onsN:=Lf5,onlt:=fun o ho=>(by cases ho),base:=fun o ho=>(by cases ho),llen:=fun o ho=>(by cases ho),ids:=Lf5,idr:=fun x hx=>(by cases hx),chb:=fun o ho=>(by cases ho),dat:=fun x hx=>(by cases hx),aft:=fun x hx=>(by cases hx),last:=qE _ }
  reg:=fun x hx=>by
   by_cases h4:D9 R w w2 x
   ·rcases h4 with h4|h4
    ·exact .inl h4
    ·exact .inr (by omega)
   ·right;by_cases h1:x=w4.heap.size
    ·omega
    ·by_cases h2:x=w2.heap.size
     ·omega
     ·by_cases h3:x=w3.heap.size
      ·omega
      ·rw[if_neg h1,if_neg h2,if_neg h3,if_neg h4]at hx;omega
  lo:=fun x hx=>by
   rcases hx with hx|hx
   ·have:=hlo x hx;omega
   ·omega
  mod:=((hm.no m2).no M5) }
theorem lit(w:World)(v:UInt8):Ab No w (w.alloc (.cells ⟨[.int .u8 (v.toNat:Int)]⟩ 5 (1,2)))/\BG (w.alloc (.cells ⟨[.int .u8 (v.toNat:Int)]⟩ 5 (1,2))) (some ⟨w.heap.size,0,none⟩) (A6 [v]) :=
 ⟨(Ab.refl No w).alloc _,.inr ⟨_,_,rfl,_,_,_,BV w _,by simp[A6],by simp[A6,u8]⟩⟩
def p0:Ps:=AfX 8 8
def p1:Ps:=BF p0 5 0 [97] []
def p2:Ps:=BF p1 6 0 [98] [1]
def p3:Ps:=BF p2 5 1 [99] [2]
def p4:Ps:=wrV p3 5
def p5:Ps:=flV p4
def p6:Ps:=wrV p5 6
def p7:Ps:=flV p6
end
end Go.Z
open Go Go.Den Go.Proofs
namespace Go.Z
section
variable{w w' w0:World}{R:Nat->Prop}{sp d:Nat}{V:Ps}{K:Value->World->Prop}
theorem Pz.wf(h:Pz w0 R w sp d V):Mb V/\(∀ x∈V.all,∀ k∈x.after,k<(x.id:Int))/\(∀ o∈V.ons,o.l≠[])/\V.C.D.left=-1/\WF V.C.D:=by
 obtain⟨C,eD,eM,hP⟩:=h;have hwf:=hP.wf;refine⟨?_,hwf.1.afl,hwf.1.lne,?_,?_⟩
 ·exact Mb.cache (P:=⟨C,V.last,V.ons⟩) (C:=V.C) hwf.2.1 (by rw[eD]) eM.symm
 ·rw[<- eD];exact hwf.1.run
 ·rw[<- eD];exact hwf.2.2.2.1
end
end Go.Z
open Go Go.Den Go.Proofs
namespace Go.Z
section
variable{w w' w0:World}{R:Nat->Prop}{sp d:Nat}{V:Ps}{K:Value->World->Prop}
theorem cN{D:St}(h:D.left=-1){m:Nat}(hm:1<=m):VX (K9 D) m:=by
 intro v hv;have e:K9 D=⟨D.vs.map fun v=>[DY v],rO D.left⟩:=by unfold K9;rw[if_neg (by omega)]
 rw[e]at hv;obtain⟨u,_,rfl⟩:=L2.1 hv;exact hm
end
structure Mk where
 b:Nat
 after:List Nat
theorem Y3{V:Ps}{n:Int}:V.opn n=true↔∃ x∈V.all,(x.id:Int)=n:=by
 unfold Ps.opn;rw[Lj3];constructor
 ·rintro⟨x,hx,e⟩;exact⟨x,hx,by simpa using e⟩
 ·rintro⟨x,hx,e⟩;exact⟨x,hx,by simpa using e⟩
section
variable{w w' w0:World}{R R':Nat->Prop}{sp d base lc:Nat}{la:Option Addr}{ms:List Mk}{V:Ps}{K:Value->World->Prop}
theorem UU{H:List (List Value)}(hH:∀ c∈H,c.length=3):∀{k j:Nat}{c:List Value}{v:Value},H[k]?=some c->c[j]?=some v->H.flatten[k*3+j]?=some v:=by
 induction H with
 | nil=>intro k j c v h;simp at h
 | cons u r ih =>
  intro k j c v h hv;have hu:=hH u (by simp);rw[qB];cases k with
  | zero =>
   simp at h;subst h;rw[Lp5,Tc,Lc2 (by have:=(Lq.1 hv).1;omega)];exact hv
  | succ k =>
   rw[Lr1 (by omega)];have e:(k+1)*3+j-u.length=k*3+j:=by omega
   rw[e];exact ih (fun c hc=>hH c (by simp[hc])) (by simpa using h) hv
end
section
variable{w w' w0:World}{R R':Nat->Prop}{sp d base lc:Nat}{la:Option Addr}{ms:List Mk}{V:Ps}{K:Value->World->Prop}
theorem qU{p q:Prop}[Decidable p][Decidable q](h:p↔q):[Value.bool (decide p)]=[Value.bool (decide q)]:=by rw[qF.2 h]
theorem qV{q:Prop}[Decidable q](h:¬ q):[Value.bool false]=[Value.bool (decide q)]:=by rw[Lh h]
theorem Pz.keep{S:Nat->Prop}(h:Pz w0 R w sp d V)(k:Ab S w w')(hs:∀ x,R x->¬ S x)(hw:∀ x,x<w0.heap.size->¬ S x):Pz w0 R w' sp d V:=by
 obtain⟨C,e1,e2,hw',rl,c,mo,mm,ca,oa,Lo,Lm,h⟩:=h;exact⟨C,e1,e2,hw',rl,c,mo,mm,ca,oa,Lo,Lm,h.keepS k hs hw⟩
end
structure Rs where
 D:St
 base:List Bk
 l:List Ch
 last:Nat
section
variable{w0 w w':World}{R:Nat->Prop}{rl:Nat->Nat}{rp r vb vc bc lc:Nat}{hs:List (Nat×Nat)}{ba la:Option Addr}{H:List (Option Addr×Nat)}{S:Rs}{K:Value->World->Prop}
end
end Go.Z
end
section
open Go Go.Den Go.Proofs
namespace Go.Den
section
variable{P:Program}{w:World}
theorem mG{T:TypeId}{base k l c n:Nat}{a:Option Addr}{xs:List Value}(h:Ow P w base T k a l c xs):CL a n 0 k=a:=by
 obtain⟨e,he,h1,h2⟩:=h;unfold CL;split
 ·rfl
 ·rcases h2 with ⟨hv,_⟩|⟨g,cap,H5,hv,_⟩
  ·simp at hv;rw[hv.1];rfl
  ·simp at hv;rw[hv.1];simp[Ae]
theorem Ow.cut3{T:TypeId}{base k l c:Nat}{a:Option Addr}{xs:List Value}(h:Ow P w base T k a l c xs)(hT:Hf P T=some k)(w':World) :
  (Instr.sliceAt T (.slice a l c) none (some (Yn l)) (some (Yn l))).run P w'=.ok (.slice a l l) w':=by
 have:=kN (a:=a) hT h.cap.1 w'
 rwa [mG h]at this
theorem Ow.full{base k bytes l c c2:Nat}{T ty:TypeId}{a:Option Addr}{ad:Addr}{xs ys:List Value}(hT:MZ P T k bytes)(h:Ow P w base T k a l c xs)(hr:BG w (some ad) ys)(hl:ys.length=k)
  (h63:(l+1)*bytes<=140737488355328) (hb:0<bytes) (hbase:base<=w.heap.size) :
  ∃ c' w',(Builtin.append_ #[T,T] ty #[.slice a l l,.slice (some ad) 1 c2]).run P w=.ok (.slice (some ⟨w.heap.size,0,none⟩) (l+1) c') w'/\Ow P w' base T k (some ⟨w.heap.size,0,none⟩) (l+1) c' (xs++ys)/\Ab No w w'/\w.heap.size<w'.heap.size:=by
 obtain⟨e,i,zv,he,hi,hsz,hz,hzc,hby⟩:=hT;obtain⟨e',he',how⟩:=h;have:e'=e:=by rw[he]at he';simpa using he'.symm
 subst this;have hcell:∀ j u,ys[j]?=some u->w.cell? (ad.add j)=some u:=by
  intro j u hj;rcases hr with hr | ⟨b,o,e,hat⟩
  ·subst hr;simp at hj
  ·simp at e;subst e;exact hat.cell hj
 have hle:l+1<=(l+1)*bytes:=Lh2 _ hb;have hm:∀ o:Obj,Ab No w (w.drew.alloc o):=fun o=>((Ab.refl No w).drew (b:=w)).alloc o;have hlen:(xs++ys).length=(l+1)*k:=by rw[Lj,how.1,hl,Lj4,Nat.one_mul]
 have hcm:∀ old,grownCap w (l+1) old e'<=maxLen:=fun old=>grownCap_le_maxLen w (l+1) old e' (by simp[maxLen];omega);have hown:∀(old:Nat)(arr:Array Value),arr.toList=xs++ys->Ow P (w.drew.alloc (.cells (arr++Builtin.zeroCells zv.cells (grownCap w (l+1) old e'-(l+1))) e')) base T k (some ⟨w.heap.size,0,none⟩) (l+1) (grownCap w (l+1) old e') (xs++ys):=by
  intro old arr harr;have hge:=grownCap_ge w (l+1) old e';have hasz:arr.size=(l+1)*k:=by rw[<- hlen,<- harr,Array.length_toList]
  refine⟨e',he,hlen,.inr ⟨w.heap.size,_,_,rfl,hbase,BV w.drew _,hge,hcm old,?_,?_⟩⟩
  ·rw[Array.size_append,size_zeroCells,hzc,hasz,<- Lj4]
   congr 1;omega
  ·rw[Ll4,harr,<- hlen];exact List.take_left
 rcases how.2 with ⟨hv,hx⟩|⟨g,cap,H5,hv,hbg,hg,hnc,hcm',hcs,htake⟩
 ·simp at hv;obtain⟨rfl,rfl,rfl⟩:=hv;have hx0:xs=[]:=iA (by have:=how.1;omega);subst hx0;have hr2:=run_append_nil (P:=P) w T ty e' i zv he hi hz ad 1 c2 ys (by rw[hsz];omega) hcell (by omega) (by omega) (by rw[hby];omega);refine⟨_,_,hr2,?_,hm _,ET _⟩
  have:=hown 0 ys.toArray (by simp)
  simpa using this
 ·simp at hv;obtain⟨rfl,rfl⟩:=hv;have holds:∀ j u,xs[j]?=some u->w.cell? ((⟨g,0,none⟩:Addr).add j)=some u:=how.cells (g:=g) rfl;have hr2:=run_append_grow (P:=P) w T ty e' i zv he hi hz ⟨g,0,none⟩ l l xs (by rw[hsz];exact how.1) holds ad 1 c2 ys (by rw[hsz];omega) hcell (by omega) (by omega) (growslice_fits (by omega) (by rw[hby];exact h63));exact⟨_,_,hr2,hown l (xs.toArray++ys.toArray) (by simp),hm _,ET _⟩
end
end Go.Den
namespace Go.Z
section
variable{w0 w w':World}{R:Nat->Prop}{rl:Nat->Nat}{rp r vb vc bc lc:Nat}{hs:List (Nat×Nat)}{ba la:Option Addr}{H:List (Option Addr×Nat)}{S:Rs}{K:Value->World->Prop}
end
def DF:Nd:=⟨2,1,0,1,[0,0,0,0,0,0,0,0]⟩
theorem V8:E3 DF:=rfl
theorem uM:O7 DF=true:=by decide
def YN(g:Gm)(k i:Nat):Bk:=if i=0 then H9 g (AE g k)else if k=0/\i=1 then B3 EM 64 (Ek DF)else EM
def TP(g:Gm)(k i:Nat):Int×Bk:=(2+k*g.gr+i,YN g k i)
def RE(g:Gm)(k n:Nat):List (Int×Bk):=(List.range n).map (TP g k)
def KO(g:Gm):Nat:=1+(AV g).toNat
def Mq(g:Gm)(n:Nat):List (Int×Bk):=(List.range n).flatMap fun k=>RE g k (KO g)
def Dc(D:St)(l:List (Int×Bk)):St:=l.foldl (fun D x=>DG D x.1 x.2) D
def Yh(D:St):St:=K9 (DG (DG D 0 EM) 1 EM)
def UW(D:St)(g:Gm):St:=K9 (Dc (Yh D) (Mq g g.gs.toNat))
def BM(D:St)(g:Gm):St:=K9 (DG (UW D g) 1 (Eo ⟨1,g⟩))
def UX(D:St)(g:Gm):Int:=if Df g=false then 1 else if (D.vs.length:Int)<Bb g then 4 else 0
theorem GL:EM.length=256:=Lw
theorem VP(g:Gm)(k i:Nat):(YN g k i).length=256:=by
 unfold YN;split
 ·exact KC (EJ _ _)
 split
 ·rw[KF (by rw[IM V8,GL];omega),GL]
 ·exact GL
theorem oU(g:Gm)(k n:Nat):RE g k (n+1)=RE g k n++[TP g k n]:=by
 unfold RE;rw[List.range_succ,pM];rfl
theorem X4(g:Gm)(n:Nat):Mq g (n+1)=Mq g n++RE g n (KO g):=by
 unfold Mq;rw[List.range_succ,List.flatMap_append];simp
theorem gQ(D:St)(l:List (Int×Bk))(x:Int×Bk):Dc D (l++[x])=DG (Dc D l) x.1 x.2:=by
 unfold Dc;rw[Ly3];rfl
theorem oW(D:St)(l m:List (Int×Bk)):Dc D (l++m)=Dc (Dc D l) m:=Ly3
theorem IR(D:St)(n:Int)(ys:Bk):(DG D n ys).vs.length=D.vs.length:=by
 unfold DG;split
 ·rfl
 ·simp
theorem Cs{D:St}(h:D.left=-1)(n:Int)(ys:Bk):(DG D n ys).left=-1:=by
 unfold DG;split
 ·exact h
 ·show rO D.left=-1;rw[h];rfl
theorem US(D:St):(K9 D).vs.length=D.vs.length:=by
 unfold K9;split
 ·rfl
 ·simp
theorem UT{D:St}(h:D.left=-1):(K9 D).left=-1:=by
 unfold K9;split
 ·exact h
 ·show rO D.left=-1;rw[h];rfl
theorem SC(D:St)(l:List (Int×Bk)):(Dc D l).vs.length=D.vs.length:=by
 induction l generalizing D with
 | nil=>rfl
 | cons x l ih=>exact(ih _).trans (IR _ _ _)
theorem Oa{D:St}(h:D.left=-1)(l:List (Int×Bk)):(Dc D l).left=-1:=by
 induction l generalizing D with
 | nil=>exact h
 | cons x l ih=>exact ih (Cs h _ _)
theorem X5{D:St}{m:Nat}(h:VX D m)(l:List (Int×Bk)):VX (Dc D l) (m+l.length):=by
 induction l generalizing D m with
 | nil=>exact h
 | cons x l ih =>
  have:=ih (cO h x.1 x.2)
  rw[pH];exact this.mono (by omega)
theorem cA(g:Gm)(k n:Nat):(RE g k n).length=n:=by simp[RE]
theorem SB{g:Gm}(h:Df g=true):(KO g:Int)=1+g.no / 4/\KO g<=17:=by
 have e:AV g=g.no / 4:=by unfold AV;rw[if_pos h]
 obtain⟨_,_,_,_,h5,h6,_⟩:=Ax.1 h;unfold KO;rw[e];constructor<;>omega
theorem cB{g:Gm}(h:Df g=true)(n:Nat):(Mq g n).length<=17*n:=by
 induction n with
 | zero=>exact Le _
 | succ n ih =>
  have:=(SB h).2
  rw[X4,Lj,cA];omega
theorem Uc{g:Gm}(h:Df g=true){k i n:Nat}(hk:(k:Int)<g.gs)(hi:i<KO g)(hn:Bb g<=n):2<=(TP g k i).1/\(TP g k i).1<n:=by
 have hv:=(SB h).1;have e:Bb g=2+g.gs*g.gr:=by unfold Bb;rw[if_pos h]
 obtain⟨h1,h2,h3,h4,h5,h6,h7,h8,h9⟩:=Ax.1 h;have hmul:((k:Int)+1)*g.gr<=g.gs*g.gr:=Int.mul_le_mul_of_nonneg_right (by omega) (by omega);have hp:0<=(k:Int)*g.gr:=iC (by omega) (by omega);have hs:((k:Int)+1)*g.gr=k*g.gr+g.gr:=by rw[Int.add_mul,Lg5]
 show 2<=2+(k:Int)*g.gr+i/\2+(k:Int)*g.gr+i<n;omega
theorem KB{D:St}(h:D.left=-1):(Yh D).left=-1:=UT (Cs (Cs h _ _) _ _)
theorem UV(D:St):(Yh D).vs.length=D.vs.length:=by unfold Yh;rw[US,IR,IR]
theorem Nb{D:St}(h:D.left=-1)(g:Gm):(UW D g).left=-1:=UT (Oa (KB h) _)
theorem Ri(D:St)(g:Gm):(UW D g).vs.length=D.vs.length:=by unfold UW;rw[US,SC,UV]
theorem mR{D:St}(h:D.left=-1)(g:Gm):(BM D g).left=-1:=UT (Cs (Nb h g) _ _)
theorem WT(D:St)(g:Gm):(BM D g).vs.length=D.vs.length:=by unfold BM;rw[US,IR,Ri]
theorem ZW{D:St}(h:D.left=-1):VX (Yh D) 1:=cN (Cs (Cs h _ _) _ _) (Le _)
theorem ZX{D:St}(h:D.left=-1)(g:Gm):VX (UW D g) 1:=cN (Oa (KB h) _) (Le _)
theorem mQ{D:St}(h:D.left=-1)(g:Gm):VX (BM D g) 1:=cN (Cs (Nb h g) _ _) (Le _)
def Gj(D:St)(g:Gm)(k:Int):Hd×Int:=if (Bn g k).2≠0 then(hZ,(Bn g k).2)else TK g (PT D (Bn g k).1)
def Cp(D:St)(g:Gm)(s:Int):Nd×Int:=if (Au g s).2.2≠0 then(nZ,(Au g s).2.2)else Gl (PT D (Au g s).1) (Au g s).2.1
theorem Xc(D:St)(g:Gm)(k:Int):FD (Gj D g k).1:=by unfold Gj;split;exact CW;exact jJ _ _
theorem S1(D:St)(g:Gm)(s:Int):E3 (Cp D g s).1:=by unfold Cp;split;exact jV;exact Vi _ _
def Nj(D:St)(g:Gm)(k:Nat):Bool:=decide ((Gj D g k).2=0/\(Gj D g k).1.no=k)
def PU(D:St)(g:Gm):Bool:=decide ((Cp D g 1).2=0/\(Cp D g 1).1.kind=2)
def Nq(D:St)(g:Gm):Bool:=(List.range g.gs.toNat).all (Nj D g)&&PU D g
def Bj(D:St):Sp×Int×Int:=Cy (PT D 0) (PT D 1) D.vs.length
def fI(D:St):Sp×Int:=if (Bj D).2.2≠0 then(sZ,(Bj D).2.2)else if Nq D (Bj D).1.geo=true then((Bj D).1,0)else(sZ,8)
def Fs(D:St)(g:Gm):Nat->Int
 | 0=>0
 | n+1=>if (Cp D g n).1.id > Fs D g n then(Cp D g n).1.id else Fs D g n
theorem Xo(D:St)(g:Gm):∀ n,0<=Fs D g n
 | 0=>qD _
 | n+1=>by
  have:=Xo D g n
  unfold Fs;split<;>omega
theorem yL(xs:List UInt8):0<=(PO xs).1.id/\(PO xs).1.id<=4611686018427387904:=by
 unfold PO;split
 ·decide
 split
 ·rename_i h
  have:=jU h.2.2
  exact⟨this.2.2.2.2.2.2.1,this.2.2.2.2.2.2.2.1⟩
 ·decide
theorem AbB:0<=nZ.id/\nZ.id<=4611686018427387904:=by decide
theorem oM(D:St)(g:Gm)(s:Int):0<=(Cp D g s).1.id/\(Cp D g s).1.id<=4611686018427387904:=by
 unfold Cp;split
 ·exact AbB
 unfold Gl;split
 ·exact AbB
 ·exact yL _
theorem aV(D:St)(g:Gm):∀ n,Fs D g n<=4611686018427387904
 | 0=>by show(0:Int)<=_;decide
 | n+1=>by
  have:=aV D g n
  have:=(oM D g n).2
  unfold Fs;split<;>omega
theorem Vd{g:Gm}(h:Df g=true){k:Int}(h0:0<=k)(h1:k<g.gs):Mg g (AE g k)=true:=by
 have hv:=SB h;have hn:1+(AV g).toNat=KO g:=rfl;obtain⟨g1,g2,g3,g4,g5,g6,g7,g8,g9⟩:=Ax.1 h;refine BZ.2 ⟨h,⟨h0,h1⟩,fun i hi=>⟨fun e=>?_,fun e=>?_⟩,fun i hi=>⟨fun e=>?_,fun e e2=>?_⟩⟩
 ·show Bw (Ef (1+(AV g).toNat)) i=true;rw[hn,NJ (by omega),cH];omega
 ·show Bw (Ef (1+(AV g).toNat)) i=false;rw[hn,NJ (by omega),Lq1];omega
 ·show Bw (QR k) i=false;rw[PD,Ld2,Lq1,Lq1];omega
 ·show Bw (QR k) i=true;have e1:k=0:=e;rw[PD,Li e1,Li e2];rfl
theorem AdG{D:St}{n:Int}{ys:Bk}(h0:0<=n)(h1:n<D.vs.length)(h:ys.length=256):cM D n ys=0:=by
 have e:AO D n=0:=by unfold AO;rw[if_neg (by omega)]
 unfold cM;rw[e,if_neg (by decide),if_neg (by omega)]
def Hi(g:Gm)(h:Hd)(i f t:Int):Int:=if Mg g h=false then 1 else if i<f\/t<=i then 3 else 0
def HV(g:Gm)(h:Hd)(i:Int)(on:Bool):Hd×Int :=
 if Hi g h i (1+AV g) g.gr≠0 then(hZ,Hi g h i (1+AV g) g.gr)else if Bw h.bs i.toNat=on then(hZ,6)else(⟨h.no,Ke h.bs i.toNat on,h.ss⟩,0)
def gG(h:Hd):Int:=if h.no=0 then 2 else 0
def HW(g:Gm)(h:Hd)(i:Int)(on:Bool):Hd×Int :=
 if Hi g h i (gG h) g.no≠0 then(hZ,Hi g h i (gG h) g.no)else if Bw h.ss i.toNat=on then(hZ,6)else(⟨h.no,h.bs,Ke h.ss i.toNat on⟩,0)
theorem TS{g:Gm}{h:Hd}{i f t:Int}(e:Hi g h i f t=0):Mg g h=true/\f<=i/\i<t:=by
 unfold Hi at e
 split at e
 ·cases e
 ·rename_i h1
  split at e
  ·cases e
  ·rename_i h2;exact⟨by simpa using h1,by omega,by omega⟩
theorem vP{g:Gm}{h:Hd}(hw:FD h)(i:Int)(on:Bool):FD (HV g h i on).1:=by
 unfold HV;split
 ·exact CW
 split
 ·exact CW
 ·exact⟨by show(Ke _ _ _).length=16;rw[Hm];exact hw.1,hw.2⟩
theorem vR{g:Gm}{h:Hd}(hw:FD h)(i:Int)(on:Bool):FD (HW g h i on).1:=by
 unfold HW;split
 ·exact CW
 split
 ·exact CW
 ·exact⟨hw.1,by show(Ke _ _ _).length=8;rw[Hm];exact hw.2⟩
theorem Nh{g:Gm}(h:Df g=true):AV g=g.no / 4:=by unfold AV;rw[if_pos h]
theorem vO{g:Gm}{h:Hd}{i:Int}{on:Bool}(hw:FD h)(e:(HV g h i on).2=0) :
  Mg g (HV g h i on).1=true/\(HV g h i on).1=⟨h.no,Ke h.bs i.toNat on,h.ss⟩/\Mg g h=true/\Bw h.bs i.toNat≠on/\1+AV g<=i/\i<g.gr:=by
 unfold HV at e |-
 split at e
 ·rename_i h1;exact absurd e h1
 rename_i h1;have h1:=VU.1 h1
 split at e
 ·cases e
 rename_i h2;rw[if_neg (by rw[h1];decide),if_neg h2];obtain⟨k1,k2,k3⟩:=TS h1;refine⟨?_,rfl,k1,h2,k2,k3⟩;obtain⟨g1,g2,g3,g4⟩:=BZ.1 k1;have hT:=Nh g1;obtain⟨q1,q2,_⟩:=Ax.1 g1;have hi:i.toNat<8*h.bs.length:=by rw[hw.1];omega
 refine BZ.2 ⟨g1,g2,fun j hj=>⟨fun hjt=>?_,fun hjt=>?_⟩,g4⟩
 ·show Bw (Ke h.bs i.toNat on) j=true;rw[NK hi,if_neg (by omega)];exact(g3 j hj).1 hjt
 ·show Bw (Ke h.bs i.toNat on) j=false;rw[NK hi,if_neg (by omega)];exact(g3 j hj).2 hjt
theorem vQ{g:Gm}{h:Hd}{i:Int}{on:Bool}(hw:FD h)(e:(HW g h i on).2=0) :
  Mg g (HW g h i on).1=true/\(HW g h i on).1=⟨h.no,h.bs,Ke h.ss i.toNat on⟩/\Mg g h=true/\Bw h.ss i.toNat≠on/\gG h<=i/\i<g.no:=by
 unfold HW at e |-
 split at e
 ·rename_i h1;exact absurd e h1
 rename_i h1;have h1:=VU.1 h1
 split at e
 ·cases e
 rename_i h2;rw[if_neg (by rw[h1];decide),if_neg h2];obtain⟨k1,k2,k3⟩:=TS h1;refine⟨?_,rfl,k1,h2,k2,k3⟩;obtain⟨g1,g2,g3,g4⟩:=BZ.1 k1;obtain⟨_,_,_,_,q5,q6,_⟩:=Ax.1 g1;have hf:0<=gG h:=by unfold gG;split<;>decide
 have hi:i.toNat<8*h.ss.length:=by rw[hw.2];omega
 refine BZ.2 ⟨g1,g2,g3,fun j hj=>⟨fun hjt=>?_,fun hn hjt=>?_⟩⟩
 ·show Bw (Ke h.ss i.toNat on) j=false;rw[NK hi,if_neg (by omega)];exact(g4 j hj).1 hjt
 ·show Bw (Ke h.ss i.toNat on) j=true;have hn:h.no=0:=hn;have:gG h=2:=by unfold gG;rw[if_pos hn]
  rw[NK hi,if_neg (by omega)];exact(g4 j hj).2 hn hjt
def GC(g:Gm)(h:Hd)(f:Int):Int:=if Mg g h=true then H7 h.bs g.gr f else -1
def GD(g:Gm)(h:Hd)(f:Int):Int:=if Mg g h=true then H7 h.ss g.no f else -1
theorem eZ{g:Gm}{h:Hd}{f:Int}(hw:FD h)(e:0<=GC g h f):(HV g h (GC g h f) true).2=0/\GC g h f<g.gr:=by
 unfold GC at e |-;by_cases ho:Mg g h=true
 ·rw[if_pos ho]at e |-;obtain⟨i,h1,h2,h3,h4⟩:=To e;rw[h1];obtain⟨g1,g2,g3,g4⟩:=BZ.1 ho;have hT:=Nh g1;obtain⟨q1,q2,_⟩:=Ax.1 g1;have hge:1+AV g<=(i:Int):=by
   refine Lh3 fun hn=>?_;rw[(g3 i (by omega)).1 (by omega)]at h2;cases h2
  have hm:Hi g h i (1+AV g) g.gr=0:=by unfold Hi;rw[if_neg (by rw[ho];decide),if_neg (by omega)]
  unfold HV;rw[hm,if_neg (by decide),Lz,if_neg (by rw[h2];decide)];exact⟨rfl,h3⟩
 ·rw[if_neg ho]at e;omega
theorem fA{g:Gm}{h:Hd}{f:Int}(hw:FD h)(e:0<=GD g h f):(HW g h (GD g h f) true).2=0/\GD g h f<g.no:=by
 unfold GD at e |-;by_cases ho:Mg g h=true
 ·rw[if_pos ho]at e |-;obtain⟨i,h1,h2,h3,h4⟩:=To e;rw[h1];obtain⟨g1,g2,g3,g4⟩:=BZ.1 ho;obtain⟨_,_,_,_,q5,q6,_⟩:=Ax.1 g1;have hge:gG h<=(i:Int):=by
   unfold gG;split
   ·rename_i hn;refine Lh3 fun hlt=>?_;rw[(g4 i (by omega)).2 hn (by omega)]at h2;cases h2
   ·omega
  have hm:Hi g h i (gG h) g.no=0:=by unfold Hi;rw[if_neg (by rw[ho];decide),if_neg (by omega)]
  unfold HW;rw[hm,if_neg (by decide),Lz,if_neg (by rw[h2];decide)];exact⟨rfl,h3⟩
 ·rw[if_neg ho]at e;omega
theorem fR{g:Gm}{h:Hd}(hw:FD h)(ho:Mg g h=true):KH (H9 g h)=h:=by
 obtain⟨g1,g2,_⟩:=BZ.1 ho;obtain⟨q1,q2,q3,q4,_⟩:=Ax.1 g1;have hfl:=Ei g h;have e1:(H9 g h).drop 4=AG 2 h.no.toNat++(AG 2 (Dk g h).1.toNat++AG 2 (Dk g h).2.toNat++List.replicate 6 0++h.bs++h.ss++List.replicate 216 0):=by
  unfold H9 Ka Ng;simp only[VV];rfl
 have e16:(H9 g h).drop 16=h.bs++(h.ss++List.replicate 216 0):=by
  unfold H9;have hl16:(Ka g h++List.replicate 6 0).length=16:=by rw[Lj,hfl];rfl
  rw[VV,VV,UB,Ls (by rw[hl16];exact Le _),Ly,hl16];rfl
 have e32:(H9 g h).drop 32=h.ss++List.replicate 216 0:=by
  rw[show 32=16+16 by rfl,<- Tb,e16,UB,Ls (by rw[hw.1];exact Le _),hw.1,Ly];rfl
 unfold KH;rw[e1,e16,e32,Lu (by rw[AL];exact Le _),Lf (by rw[AL];exact Le _),Lu (by rw[hw.1];exact Le _),Lf (by rw[hw.1];exact Le _),Lu (by rw[hw.2];exact Le _),Lf (by rw[hw.2];exact Le _)]
 have:D6 (AG 2 h.no.toNat)=h.no.toNat:=Hj _ _ (by omega);rw[this];cases h;simp only[Hd.mk.injEq,and_true];simp only at g2;omega
theorem WZ{g:Gm}{h:Hd}(hw:FD h)(ho:Mg g h=true):TK g (H9 g h)=(h,0):=by
 have hr:=fR hw ho;unfold TK;rw[if_neg (by rw[(BZ.1 ho).1];decide),if_neg (by rw[KC hw];decide),hr,if_pos ⟨ho,rfl⟩]
theorem sO{g:Gm}{h h':Hd}(hw:FD h)(hw':FD h'):B3 (H9 g h) 0 ((H9 g h').take 64)=H9 g h':=by
 have xN:∀{h:Hd},FD h->(H9 g h).drop 64=List.replicate 192 0:=fun {h} hw=>by
  have:(Ka g h++List.replicate 6 0++h.bs++h.ss).length=40:=by
   rw[Lj,Lj,Lj,Ei,hw.1,hw.2,Lw]
  unfold H9;rw[UB,Ls (by omega),Ly,this];rfl
 have hl:((H9 g h').take 64).length=64:=by rw[pK,KC hw'];rfl
 unfold B3;rw[hl,pX,Ly,Tc,xN hw,<- xN hw',wC]
def Dx(wb:World)(R0:Nat->Prop)(N:Nat)(w:World)(d:Nat)(D:St):Prop :=
 ∃ R sb mb sc L,AA w R d sb mb sc L D/\(∀ x,R x->(R0 x\/wb.heap.size<=x)/\x<N)/\Ab R0 wb w/\N<=w.heap.size
section
variable{wb w w':World}{R0:Nat->Prop}{N d:Nat}{D:St}{K:Value->World->Prop}
theorem Dx.nos(h:Dx wb R0 N w d D)(m:Ab No w w'):Dx wb R0 N w' d D:=by
 obtain⟨R,sb,mb,sc,L,h1,h2,h3,h4⟩:=h;exact⟨R,sb,mb,sc,L,h1.nos m,h2,h3.no m,QK h4 m.size⟩
theorem Dx.mod(h:Dx wb R0 N w d D):Ab R0 wb w:=by obtain⟨_,_,_,_,_,_,_,h,_⟩:=h;exact h
theorem Dx.size(h:Dx wb R0 N w d D):N<=w.heap.size:=by obtain⟨_,_,_,_,_,_,_,_,h⟩:=h;exact h
theorem Dx.start{R:Nat->Prop}{sb mb sc:Nat}{L:List (Int×Value)}(h:AA w R d sb mb sc L D)(m:Ab No w wb):Dx wb R w.heap.size wb d D :=
 ⟨R,sb,mb,sc,L,h.nos m,fun x hx=>⟨.inl hx,h.lt x hx⟩,Ab.refl _ _,m.size⟩
theorem Dx.write(h:Dx wb R0 N w d D)(hs:∀ v∈D.vs,v.length<=999999){n:Int}{a:Option Addr}{l c:Nat}{ys:List UInt8}(hl:ys.length=l)(hr:BG w a (A6 ys))(hdis:∀ q,a=some q->N<=q.block)
  (hk:∀ w',Dx wb R0 w'.heap.size w' d (DG D n ys)->K (Yn (cM D n ys)) w'):A7 Yt AY #[Yo d,Yn n,.slice a l c] w K:=by
 obtain⟨R,sb,mb,sc,L,h1,h2,h3,h4⟩:=h;refine wU h1 hs hl hr (fun q hq hR=>?_) fun w' L' m hd'=>hk w' ⟨D9 R w w',sb,mb,sc,L',hd',fun x hx=>?_,h3.trans m fun x hx hR=>?_,Le _⟩
 ·have:=(h2 _ hR).2
  have:=hdis q hq
  omega
 ·rcases hx with hx|hx
  ·have h5:=h2 x hx;have:=m.size;exact⟨h5.1,by omega⟩
  ·have:=h3.size
   exact⟨.inr (by omega),hx.2⟩
 ·exact((h2 x hR).1).resolve_right (by omega)
theorem Dx.flush(h:Dx wb R0 N w d D)(hs:Ma D)(hk:∀ w',Dx wb R0 w'.heap.size w' d (K9 D)->K (Yn 0) w'):A7 Yt BI #[Yo d] w K:=by
 obtain⟨R,sb,mb,sc,L,h1,h2,h3,h4⟩:=h;refine wJ h1 hs fun w' L' m hd'=>hk w' ⟨R,sb,mb,sc,L',hd',fun x hx=>?_,h3.trans m fun x hx hR=>?_,Le _⟩
 ·have h5:=h2 x hx;have:=m.size;exact⟨h5.1,by omega⟩
 ·exact((h2 x hR).1).resolve_right (by omega)
theorem Dx.len(h:Dx wb R0 N w d D)(hk:K (Yn D.vs.length) w):A7 Yt B1 #[Yo d] w K:=by
 obtain⟨R,sb,mb,sc,L,h1,h2,h3,h4⟩:=h;exact Zs h1 hk
theorem dU:Al (Instr.build 69 #[(0,Yn 2),(1,Yn 1),(3,Yn 1)]) (.agg ⟨nV DF⟩):=fun w=>by kernel_rfl
theorem AeG{m:Nat}(h:VX D m)(hm:m<=999999):∀ v∈D.vs,v.length<=999999:=fun v hv=>QK (h v hv) hm
theorem wH{m:Nat}(h:VX D m)(hm:m<=999999):Ma D:=fun v hv=>QK (h v hv) (by omega)
set_option maxRecDepth 8000 in
theorem AcH{R:Nat->Prop}{sb mb sc:Nat}{L:List (Int×Value)}{g:Gm}(h:AA w R d sb mb sc L D)(hg:Df g=true)(hn:Bb g<=D.vs.length)(hb:VX D 1)
  (hk:∀ w1 N w',Ab No w w1->w.heap.size<=N->Dx w1 R N w' d (Dc D (Mq g g.gs.toNat))->K (Yn 0) w') :
  A7 Yt PC #[.agg ⟨gV g⟩,Yn 0,.func (.func AY) #[Yo d] #[]] w K:=by
 apply dB;unfold U6;obtain⟨w1,a1,a2,a3,a4⟩:=AB (P:=Yt) (w:=w) (T:=83) (cs:=gV g);have hnR:¬ R w.heap.size:=fun e=>Lj5 _ (h.lt _ e);have hq:∀{w2:World}{N:Nat}{D':St},Dx w1 R N w2 d D'->Av w2 w.heap.size 0 (gV g):=fun x=>a2.keep x.mod hnR;obtain⟨g1,g2,g3,g4,g5,g6,g7,g8,g9⟩:=Ax.1 hg;have hvn:=SB hg;have hlen:=h.wf.hi
 refine⟨_,w1,a1,fun x w2=>∃(k N:Nat)(y1 y2 y3:Value),(k:Int)<=g.gs/\x=[Yn k,y1,y2,y3]/\w.heap.size<=N/\Dx w1 R N w2 d (Dc D (Mq g k)),fun x _=>(g.gs-nI x 0).toNat,
  ⟨0,_,undef,undef,undef,by omega,rfl,Le _,Dx.start h a3⟩,?_⟩
 rintro x w2 ⟨k,N,y1,y2,y3,hkg,rfl,hN,hx⟩;refine⟨_,rfl,_,(hq hx).at.fld Ah rfl,Aa (fun hl=>?_) (fun hl=>?_)⟩
 ·have hl:(k:Int)<g.gs:=Ld hl;have eF:Gi g k=(AE g k,0):=by unfold Gi;rw[if_pos ⟨hg,by omega,hl⟩]
  have eH:Bn g k=(2+k*g.gr,0):=by unfold Bn;rw[if_pos hg,if_pos ⟨by omega,hl⟩]
  refine⟨_,(hq hx).at.all A5 rfl,jA fun w3 m3=>⟨_,_,rfl,?_⟩⟩;rw[eF];have x3:=hx.nos m3;obtain⟨w4,b1,b2,b3,b4⟩:=Aw (P:=Yt) (w:=w3) (T:=171) Bh;have x4:=x3.nos b3;obtain⟨w5,c1,c2,c3,c4⟩:=b2.put (T:=171) (vs:=hV (AE g k)) Aq rfl (Ap (EJ _ _)) (Co _);have m5:Ab No w3 w5:=b3.own c3 (Le _);have x5:=x3.nos m5;refine⟨_,w4,b1,w5,c1,_,(hq x5).at.all A5 rfl,_,c2.at.all Aq (Ap (EJ _ _)),fE (EJ _ _) (fun e=>by rw[Vd hg (by omega) hl]at e;cases e) fun _ w6 q m6 hq6 h6=>⟨_,_,_,_,rfl,?_⟩⟩
  have x6:=x5.nos m6;refine⟨_,(hq x6).at.all A5 rfl,GE fun w7 m7=>⟨_,_,rfl,?_⟩⟩;have x7:=x6.nos m7;refine⟨_,(hq x7).at.all A5 rfl,NS fun w8 m8=>⟨_,rfl,?_⟩⟩;have x8:=x7.nos m8;rw[eH];have hNq:N<=q:=by have:=hx.size;have:=m3.size;have:=m5.size;omega
  have hrow:=((h6.keep m7 id).keep m8 id);have eT:Yw (1+AV g)=(KO g:Int):=by
   have e:AV g=g.no / 4:=by unfold AV;rw[if_pos hg]
   rw[Ag (by omega) (by omega),hvn.1,e]
  refine⟨fun x w9=>∃(i N':Nat)(a:Option Addr)(l c:Nat)(y:Value),i<=KO g/\x=[.slice a l c,Yn i,y]/\w.heap.size<=N'/\Dx w1 R N' w9 d (Dc (Dc D (Mq g k)) (RE g k i))/\(i=0->∃ q,a=some ⟨q,0,none⟩/\l=256/\c=256/\N'<=q/\Av w9 q 0 (A6 (H9 g (AE g k)))),
   fun x _=>(KO g-nI x 1).toNat,⟨0,N,_,_,_,_,by omega,rfl,hN,x8,fun _=>⟨q,rfl,rfl,rfl,hNq,hrow⟩⟩,?_⟩
  rintro x w9 ⟨i,N',a,l,c,y,hi,rfl,hN',x9,hi0⟩;rw[eT];refine⟨_,rfl,Aa (fun hl2=>?_) (fun hl2=>?_)⟩
  ·have hl2:i<KO g:=by have:=Ld hl2;omega
   have hvx:=Uc hg (n:=D.vs.length) hl hl2 hn;refine Ad.cut (fun z w11=>∃ q',z=[.slice (some ⟨q',0,none⟩) 256 256]/\N'<=q'/\Av w11 q' 0 (A6 (if i=0 then H9 g (AE g k)else EM))/\Ab No w9 w11) (Aa (fun hp=>?_) (fun hp=>?_)) ?_
   ·have hp:0<i:=by have:=Ld hp;omega
    obtain⟨w10,s1,s2,s3,s4⟩:=Vp (w:=w9) (n:=256) (by omega);exact⟨_,_,_,w10,s1,_,rfl,x9.size,by rw[if_neg (by omega)];exact s2,s3⟩
   ·have hp:i=0:=by have:=Lc hp;omega
    obtain⟨q',e1,e2,e3,e4,e5⟩:=hi0 hp;subst e1 e2 e3;exact⟨q',rfl,e4,by rw[if_pos hp];exact e5,Ab.refl _ _⟩
   rintro z w11 ⟨q',rfl,hq',h11,m11⟩;refine Ad.cut (fun z w12=>z=[.bool (decide (k=0/\i=1))]/\w12=w11) ?_ ?_
   ·rw[Fm];refine Aa (fun hp=>⟨?_,rfl⟩) (fun hp=>⟨?_,rfl⟩)
    ·have hp:k=0:=by have:=Ld hp;omega
     congr 2
     rw[Fm,RH,cH,cH];omega
    ·have hp:¬ k=0:=by have:=Lc hp;omega
     rw[Lh (fun e=>hp e.1)]
   rintro z w12 ⟨rfl,rfl⟩;refine⟨_,rfl,?_⟩;refine Ad.cut (fun z w14=>∃ q',z=[.slice (some ⟨q',0,none⟩) 256 256]/\N'<=q'/\Av w14 q' 0 (A6 (YN g k i))/\Ab No w9 w14) (Aa (fun hp=>?_) (fun hp=>?_)) ?_
   ·have hp:=Ld hp;refine⟨_,_,_,rfl,_,dU,?_⟩;rw[if_neg (by omega)]at h11;refine sU V8 GL (.inr ⟨_,_,rfl,h11.at⟩) (by omega) (by decide) uM fun w13 q'' m13 hq'' h13=>⟨_,_,_,_,rfl,q'',rfl,?_,?_,m11.no m13⟩
    ·have:=x9.size;have:=m11.size;omega
    ·unfold YN;rw[if_neg (by omega),if_pos hp];exact h13
   ·have hp:=Lc hp;refine⟨q',rfl,hq',?_,m11⟩;unfold YN;by_cases h0:i=0
    ·rw[if_pos h0];rw[if_pos h0]at h11;exact h11
    ·rw[if_neg h0,if_neg hp];rw[if_neg h0]at h11;exact h11
   rintro z w14 ⟨q'',rfl,hq'',h14,m14⟩;have x14:=x9.nos m14;have e1:Yw (2+(k:Int)*g.gr+i)=(TP g k i).1:=by
    show _=2+(k:Int)*g.gr+i
    have:=hvx
    unfold TP at this;simp only at this;rw[Ag (by omega) (by omega)]
   refine⟨_,_,_,rfl,?_⟩;rw[e1];have hB:VX (Dc (Dc D (Mq g k)) (RE g k i)) 999999:=by
    have h1:=X5 (X5 hb (Mq g k)) (RE g k i);have h2:=cB hg k;rw[cA]at h1;exact h1.mono (by omega)
   have hvl:(Dc (Dc D (Mq g k)) (RE g k i)).vs.length=D.vs.length:=by rw[SC,SC]
   refine⟨_,_,_,rfl,?_⟩;show A7 Yt AY #[Yo d,Yn (TP g k i).1,.slice (some ⟨q'',0,none⟩) 256 256] w14 _;refine x14.write hB (VP g k i) (.inr ⟨_,_,rfl,h14.at⟩) (fun q3 e3=>by cases e3;exact hq'') fun w15 x15=>⟨_,rfl,ff ?_ ?_⟩
   ·rw[AdG (by omega) (by rw[hvl];omega) (VP g k i)];rfl
   have e2:DG (Dc (Dc D (Mq g k)) (RE g k i)) (TP g k i).1 (YN g k i)=Dc (Dc D (Mq g k)) (RE g k (i+1)):=by
    rw[oU,gQ];rfl
   rw[e2]at x15;rw[Ag (x:=(i:Int)+1) (by omega) (by omega)];exact⟨⟨i+1,_,_,_,_,_,by omega,rfl,by have:=x9.size;have:=m14.size;have:=x15.size;have:=x15.mod.size;have:=a3.size;omega,x15,fun e=>by omega⟩,by simp[nI,A2];omega⟩
  ·have hl2:i=KO g:=by have:=Lc hl2;omega
   subst hl2;rw[Ag (x:=(k:Int)+1) (by omega) (by omega)];refine⟨⟨k+1,N',_,_,_,by omega,rfl,hN',?_⟩,by simp[nI,A2];omega⟩;rw[X4,oW];exact x9
 ·have hl:(k:Int)=g.gs:=by have:=Lc hl;omega
  have e:g.gs.toNat=k:=by omega
  refine hk w1 N w2 a3 hN ?_;rw[e];exact hx
end
section
variable{wb w w':World}{R0:Nat->Prop}{N d:Nat}{D:St}{K:Value->World->Prop}
theorem Dx.comp{R':Nat->Prop}{w1:World}{N':Nat}{D':St}(h2:∀ x,R' x->R0 x\/wb.heap.size<=x)(hm:Ab R0 wb w)(m:Ab No w w1)(k:Dx w1 R' N' w' d D'):Dx wb R0 N' w' d D':=by
 obtain⟨R,sb,mb,sc,L,k1,k2,k3,k4⟩:=k;refine⟨R,sb,mb,sc,L,k1,fun x hx=>⟨?_,(k2 x hx).2⟩,(hm.no m).trans k3 fun x hx e=>(h2 x e).resolve_right (by omega),k4⟩;rcases(k2 x hx).1 with e|e
 ·exact h2 x e
 ·have:=hm.size;have:=m.size;exact .inr (by omega)
def wrZ(D:St):Nat->St
 | 0=>D
 | n+1=>DG (wrZ D n) n EM
theorem YP(hb:VX D 1):∀ n,VX (wrZ D n) (n+1)
 | 0=>hb
 | n+1=>cO (YP hb n) _ _
theorem zT{g:Gm}(h:Df g=true):Wx ⟨1,g⟩=true:=JP.2 ⟨⟨qD _,by show(1:Int)<=4611686018427387904;decide⟩,h⟩
set_option maxRecDepth 8000 in
theorem oT{R:Nat->Prop}{sb mb sc:Nat}{L:List (Int×Value)}{g:Gm}(h:AA w R d sb mb sc L D)(hrun:D.left=-1)(hb:VX D 1)
  (hk0:UX D g≠0->∀ w',Ab No w w'->K (Yn (UX D g)) w')
  (hk:UX D g=0->∀ w1 N w',Ab No w w1->Dx w1 R N w' d (BM D g)->K (Yn 0) w') :
  A7 Yt Id #[Yo d,.agg ⟨gV g⟩] w K:=by
 apply XH;unfold QH;obtain⟨w1,a1,a2,a3,a4⟩:=AB (P:=Yt) (w:=w) (T:=83) (cs:=gV g);have hnR:¬ R w.heap.size:=fun e=>Lj5 _ (h.lt _ e);have hq:∀{w2:World}{N:Nat}{D':St},Dx w1 R N w2 d D'->Av w2 w.heap.size 0 (gV g):=fun x=>a2.keep x.mod hnR;refine⟨_,w1,a1,ff rfl ⟨_,a2.at.all A5 rfl,GF fun w2 m2=>⟨_,rfl,Aa (fun hg=>?_) (fun hg=>?_)⟩⟩⟩
 ·have e:UX D g=1:=by unfold UX;rw[if_pos (by simpa using hg)]
  have:=hk0 (by rw[e];decide) w2 (a3.no m2)
  rwa [e]at this
 have hg:Df g=true:=by simpa using hg
 have md:Ab No w1 (Go.Den.Af w2):=m2.drew;have xd:Dx w1 R w.heap.size (Go.Den.Af w2) d D:=(Dx.start h a3).nos md;refine⟨_,(hq xd).at.all A5 rfl,xd.len ⟨_,rfl,(hq xd).at.all A5 rfl,So fun w4 m4=>⟨_,rfl,Aa (fun hl=>?_) (fun hl=>?_)⟩⟩⟩
 ·have hl:=Ld hl;have e:UX D g=4:=by unfold UX;rw[if_neg (by rw[hg];decide),if_pos hl]
  have:=hk0 (by rw[e];decide) w4 (a3.no (md.no m4))
  rwa [e]at this
 have hl:=Lc hl;have eE:UX D g=0:=by unfold UX;rw[if_neg (by rw[hg];decide),if_neg hl]
 have x4:=xd.nos m4;refine⟨fun x w5=>∃ i N:Nat,i<=2/\x=[Yn i]/\Dx w1 R N w5 d (wrZ D i),fun x _=>(2-nI x 0).toNat,⟨0,_,by omega,rfl,x4⟩,?_⟩;rintro x w5 ⟨i,N,hi,rfl,x5⟩;refine⟨_,rfl,Aa (fun hl2=>?_) (fun hl2=>?_)⟩
 ·have hl2:=Ld hl2;obtain⟨w6,s1,s2,s3,s4⟩:=Vp (w:=w5) (n:=256) (by omega);refine⟨_,_,_,w6,s1,?_⟩;refine(x5.nos s3).write (AeG (YP hb i) (by omega)) GL (.inr ⟨_,_,rfl,s2.at⟩) (fun q e=>by cases e;exact x5.size) fun w7 x7=>⟨_,rfl,?_⟩;rw[Ag (x:=(i:Int)+1) (by omega) (by omega)];exact⟨⟨i+1,_,by omega,by simp,x7⟩,by simp[nI,A2];omega⟩
 have hl2:=Lc hl2;have hi2:i=2:=by omega
 subst hi2;refine x5.flush (wH (YP hb 2) (by omega)) fun w8 x8=>⟨_,rfl,?_⟩;have x8:Dx w1 R w8.heap.size w8 d (Yh D):=x8;refine⟨_,(hq x8).at.all A5 rfl,?_⟩;have hm8:=x8.mod;obtain⟨R8,sb8,mb8,sc8,L8,k1,k2,k3,k4⟩:=x8;refine AcH k1 hg (by rw[UV];omega) (ZW hrun) fun w9 N9 w10 m9 hN9 x10=>⟨_,rfl,?_⟩;have x10:=x10.comp (fun x hx=>(k2 x hx).1) hm8 m9;have hB:VX (Dc (Yh D) (Mq g g.gs.toNat)) 999999:=by
  have h1:=X5 (ZW hrun) (Mq g g.gs.toNat);have h2:=cB hg g.gs.toNat;obtain⟨_,_,_,g4,_⟩:=Ax.1 hg;exact h1.mono (by omega)
 refine x10.flush (wH hB (by omega)) fun w11 x11=>⟨_,rfl,_,(hq x11).at.all A5 rfl,_,WD 1 g,?_⟩;have x11:Dx w1 R w11.heap.size w11 d (UW D g):=x11;refine vG (s:=⟨1,g⟩) (fun e=>by rw[zT hg]at e;cases e) fun _ w12 q m12 hq12 h12=>⟨_,_,_,_,rfl,?_⟩;refine(x11.nos m12).write (AeG (ZX hrun g) (by omega)) (KL _) (.inr ⟨_,_,rfl,h12.at⟩) (fun q' e=>by cases e;exact hq12) fun w13 x13=>⟨_,rfl,?_⟩
 refine x13.flush (wH (cO (ZX hrun g) _ _) (by omega)) fun w14 x14=>⟨_,rfl,?_⟩;exact hk eE w1 _ w14 a3 x14
end
theorem Aa5{w:World}{T:TypeId}{b j i n:Nat}{cs vs:List Value}(h:At w b 0 cs)(hT:D5 Yt T=some n)(hj:j+i+n<=cs.length)(hv:(cs.drop (j+i)).take n=vs):Ru (Instr.loadAt T (.pointer (some (Addr.add (Addr.add ⟨b,0,none⟩ j) i)))) w (.agg ⟨vs⟩) w:=by
 have e:Addr.add (Addr.add ⟨b,0,none⟩ j) i=Addr.add ⟨b,0,none⟩ (j+i):=by
  rw[Ae,Ae,Ae,wM]
 rw[e];exact h.fldA hT hj hv
def vV(s:Sp)(sp wk:Nat)(nx:Int):List Value:=sV s++[Yo sp,Yo wk,Yn nx]
theorem KK:Cw Yt 128=true:=by kernel_rfl
def Wc(w0:World)(R:Nat->Prop)(N:Nat)(w:World)(v d wk:Nat):Prop:=Av w wk 0 [.slice none 0 0]/\¬ R wk/\wk≠v/\w0.heap.size<=wk/\wk<N/\d<=wk/\d<=v
theorem Wc.keep{S R R':Nat->Prop}{w0 w w':World}{N N' v d wk:Nat}(h:Wc w0 R N w v d wk)(m:Ab S w w')(hS:¬ S wk)(hR:¬ R' wk)(hN:N<=N'):Wc w0 R' N' w' v d wk :=
 ⟨h.1.keep m hS,hR,h.2.2.1,h.2.2.2.1,pF h.2.2.2.2.1 hN,h.2.2.2.2.2⟩
def Vg(wb:World)(R0:Nat->Prop)(N:Nat)(w:World)(v d:Nat)(s:Sp)(D:St)(nx:Int):Prop :=
 ∃ R sp wk k w0,Pz w0 R w sp d ⟨⟨D,k,[]⟩,0,[]⟩/\Av w v 0 (vV s sp wk nx)/\(¬ R v/\w0.heap.size<=v/\v<N/\(R0 v\/wb.heap.size<=v))/\(∀ x,R x->(R0 x\/wb.heap.size<=x)/\x<N)/\Ab R0 wb w/\(N<=w.heap.size/\wb.heap.size<=N/\w0.heap.size<=N/\Wc w0 R N w v d wk)
section
variable{w0 wb w w':World}{R R0:Nat->Prop}{N v d sp:Nat}{s:Sp}{D:St}{V:Ps}{nx:Int}{K:Value->World->Prop}
theorem bE{n:Int}(hP:Pz w0 R w sp d V){b:Nat}(hb:n=b)(hlt:b<V.C.D.vs.length)
  (hk:∀ w1 w' g cc,Ab R w w1->Ab No w1 w'->Pz w0 (D9 R w w1) w' sp d V->w1.heap.size<=g->Av w' g 0 (A6 (A3 V b))->256<=cc->K (.tuple #[.slice (some ⟨g,0,none⟩) 256 cc,Yn 0]) w') :
  A7 Yt Bd #[Yo sp,Yn n] w K:=by
 obtain⟨C,eD,eM,hP⟩:=hP;have hwf:=hP.wf;refine zK hP (fun he w' m=>?_) fun b' hb' hlt' w1 w' a cc C' m1 m2 h e1 e2 hc o=>?_
 ·have he:AO C.D n≠0:=he;rw[eD,hb]at he;exact absurd (Xv V.C.D hlt).1 he
 ·have:b'=b:=by omega
  subst this;obtain⟨g,rfl,hg,hat⟩:=o.sm (by omega);rw[Sg hwf.1 hwf.2.1 hwf.2.2.1,iR eD]at hat;exact hk w1 w' g cc m1 m2 ⟨C',e1.trans eD,e2.trans eM,h⟩ hg hat o.cap.1
theorem Vg.nos(h:Vg wb R0 N w v d s D nx)(m:Ab No w w'):Vg wb R0 N w' v d s D nx:=by
 obtain⟨R,sp,wk,k,w0,h1,h2,h3,h4,h5,h6,h7⟩:=h;exact⟨R,sp,wk,k,w0,h1.nos m,h2.keep m id,h3,h4,h5.no m,QK h6 m.size,h7.1,h7.2.1,h7.2.2.keep m id h7.2.2.2.1 (Le _)⟩
theorem Vg.up(h:Vg wb R0 N w v d s D nx):Vg wb R0 w.heap.size w v d s D nx:=by
 obtain⟨R,sp,wk,k,w0,h1,h2,h3,h4,h5,h6,h7,h8,h9⟩:=h;exact⟨R,sp,wk,k,w0,h1,h2,⟨h3.1,h3.2.1,by omega,h3.2.2.2⟩,fun x hx=>⟨(h4 x hx).1,by have:=(h4 x hx).2;omega⟩,h5,Le _,by omega,by omega,h9.keep (Ab.refl No w) id h9.2.1 h6⟩
theorem Vg.put{q:Nat}(h:Vg wb R0 N w v d s D nx)(hq:N<=q)(m:Ab (fun x=>x=q) w w'):Vg wb R0 N w' v d s D nx:=by
 obtain⟨R,sp,wk,k,w0,h1,h2,h3,h4,h5,h6,h7,h8,h9⟩:=h;refine⟨R,sp,wk,k,w0,h1.keep m (fun x hx e=>?_) (fun x hx e=>?_),h2.keep m (fun e=>?_),h3,h4,h5.trans m fun x hx e=>?_,QK h6 m.size,h7,h8,h9.keep m (fun e=>?_) h9.2.1 (Le _)⟩
 ·have:=(h4 x hx).2
  have e:x=q:=e;omega
 ·have e:x=q:=e;omega
 ·have:=h3.2.2.1
  have e:v=q:=e;omega
 ·have e:x=q:=e;omega
 ·have:=h9.2.2.2.2.1
  have e:wk=q:=e;omega
theorem Vg.mod(h:Vg wb R0 N w v d s D nx):Ab R0 wb w:=by obtain⟨_,_,_,_,_,_,_,_,_,h,_⟩:=h;exact h
theorem Vg.size(h:Vg wb R0 N w v d s D nx):N<=w.heap.size:=by obtain⟨_,_,_,_,_,_,_,_,_,_,h,_⟩:=h;exact h
theorem Vg.at(h:Vg wb R0 N w v d s D nx):∃ sp wk,Av w v 0 (vV s sp wk nx):=by obtain⟨_,sp,wk,_,_,_,h,_⟩:=h;exact⟨sp,wk,h⟩
theorem Vg.wf(h:Vg wb R0 N w v d s D nx):WF D:=by obtain⟨_,_,_,_,_,h,_⟩:=h;exact h.wf.2.2.2.2
theorem Vg.geo(h:Vg wb R0 N w v d s D nx):Ru (Instr.loadAt 83 (.pointer (some (Addr.add (Addr.add ⟨v,0,none⟩ 0) 1)))) w (.agg ⟨gV s.geo⟩) w:=by
 obtain⟨sp,wk,h⟩:=h.at;exact Aa5 h.at A5 (by show 4<=7;omega) rfl
theorem Vg.next(h:Vg wb R0 N w v d s D nx):Ru (Instr.loadAt 2 (.pointer (some (Addr.add ⟨v,0,none⟩ 6)))) w (Yn nx) w:=by
 obtain⟨sp,wk,h⟩:=h.at;exact h.at.fld Bq rfl
theorem Vg.set(h:Vg wb R0 N w v d s D nx)(n:Int):∃ w',Gr (Instr.storeAt 2 (.pointer (some (Addr.add ⟨v,0,none⟩ 6))) (Yn n)) w w'/\Vg wb R0 N w' v d s D n:=by
 obtain⟨R,sp,wk,k,w0,h1,h2,h3,h4,h5,h6,h7,h8,h9⟩:=h;obtain⟨w',s1,s2,s3,s4⟩:=h2.putF (P:=Yt) (T:=2) (j:=6) (v:=Yn n) Bq (by show 6<7;omega) rfl;refine⟨w',s1,R,sp,wk,k,w0,h1.keep s3 (fun x hx e=>?_) (fun x hx e=>?_),s2,h3,h4,h5.trans s3 fun x hx e=>?_,by omega,h7,h8,h9.keep s3 (fun e=>h9.2.2.1 e) h9.2.1 (Le _)⟩
 ·have e:x=v:=e;rw[e]at hx;exact h3.1 hx
 ·have e:x=v:=e
  have:=h3.2.1;omega
 ·have e:x=v:=e;rw[e];exact h3.2.2.2.resolve_right (by omega)
theorem Vg.rd(h:Vg wb R0 N w v d s D nx){n:Int}(h0:0<=n)(h1:n<D.vs.length)
  (hk:∀ w' g cc,Vg wb R0 w'.heap.size w' v d s D nx->Ab (fun x=>x<N) w w'->(∀ q w5 w6,N<=q->q<w.heap.size->Ab No w' w5->Ab (fun x=>x=q) w5 w6->Vg wb R0 w6.heap.size w6 v d s D nx)->Av w' g 0 (A6 (PT D n))->(PT D n).length=256->256<=cc->K (.tuple #[.slice (some ⟨g,0,none⟩) 256 cc,Yn 0]) w') :
  ∃ p:Option Addr,Ru (Instr.loadAt 128 (.pointer (some (Addr.add ⟨v,0,none⟩ 4)))) w (.pointer p) w/\A7 Yt Bd #[.pointer p,Yn n] w K:=by
 have hwf:=h.wf;obtain⟨R,sp,wk,k,w0,a1,a2,a3,a4,a5,a6,a7,a8,a9⟩:=h;refine⟨_,a2.at.fld KK rfl,?_⟩;obtain⟨b,rfl⟩:=dG h0;have hb:b<D.vs.length:=by omega
 refine bE a1 rfl hb fun w1 w' g cc m1 m2 hP hg hat hcc=>?_;have e1:PT D b=Gt D b:=(Xv D hb).2;have hz1:=m1.size;have hz2:=m2.size;have hz5:=a5.size;have hv:v<w.heap.size:=by have:=a3.2.2.1;omega
 have hnv:¬ D9 R w w1 v:=by
  rintro(e|e)
  ·exact a3.1 e
  ·omega
 have hwk:¬ D9 R w w1 wk:=by
  rintro(e|e)
  ·exact a9.2.1 e
  ·have:=a9.2.2.2.2.1;omega
 have hR:∀ x,D9 R w w1 x->(R0 x\/wb.heap.size<=x)/\x<w1.heap.size:=fun x hx=>by
  rcases hx with hx|hx
  ·exact⟨(a4 x hx).1,by have:=(a4 x hx).2;omega⟩
  ·exact⟨.inr (by omega),by omega⟩
 have M:Ab R0 wb w':=(a5.trans m1 fun x hx e=>((a4 x e).1).resolve_right (by omega)).no m2;have hV:=(a2.keep m1 a3.1).keep m2 id;refine hk w' g cc ⟨_,sp,wk,k,w0,hP,hV,⟨hnv,a3.2.1,by omega,a3.2.2.2⟩,fun x hx=>⟨(hR x hx).1,by have:=(hR x hx).2;omega⟩,M,Le _,by omega,by omega,(a9.keep m1 a9.2.1 hwk (N':=w'.heap.size) (by omega)).keep m2 id hwk (Le _)⟩ ((m1.mono fun x _ e=>(a4 x e).2).no m2) (fun q w5 w6 hq1 hq2 m5 m6=>?_) ?_ ?_ hcc
 ·have hz3:=m5.size;have hz4:=m6.size;have hnq:∀ x,D9 R w w1 x->x≠q:=fun x hx e=>by
   subst e;rcases hx with hx | hx
   ·have:=(a4 _ hx).2;omega
   ·omega
  refine⟨_,sp,wk,k,w0,(hP.nos m5).keep m6 hnq (fun x hx e=>?_),(hV.keep m5 id).keep m6 (fun e=>?_),⟨hnv,a3.2.1,by omega,a3.2.2.2⟩,fun x hx=>⟨(hR x hx).1,by have:=(hR x hx).2;omega⟩,(M.no m5).trans m6 fun x hx e=>?_,Le _,by omega,by omega,(((a9.keep m1 a9.2.1 hwk (N':=w6.heap.size) (by omega)).keep m2 id hwk (Le _)).keep m5 id hwk (Le _)).keep m6 (fun e=>?_) hwk (Le _)⟩
  ·have e:x=q:=e;omega
  ·have e:v=q:=e
   have:=a3.2.2.1;omega
  ·have e:x=q:=e;omega
  ·have e:wk=q:=e
   have:=a9.2.2.2.2.1;omega
 ·rw[e1];exact hat
 ·rw[e1];unfold Gt;rw[YM hb];exact hwf.lastLen (XM hb)
theorem Va{g:Gm}{k b:Int}(h:Bn g k=(b,0)):0<=b/\b<Bb g:=by
 unfold Bn at h
 split at h
 ·rename_i hg
  split at h
  ·rename_i hk;have e:Bb g=2+g.gs*g.gr:=by unfold Bb;rw[if_pos hg]
   obtain⟨h1,_⟩:=Ax.1 hg;have hmul:(k+1)*g.gr<=g.gs*g.gr:=Int.mul_le_mul_of_nonneg_right (by omega) (by omega);have hp:0<=k*g.gr:=iC hk.1 (by omega);have hs:(k+1)*g.gr=k*g.gr+g.gr:=by rw[Int.add_mul,Lg5]
   cases h;omega
  ·cases h
 ·cases h
theorem AfT{k:Int}(h:Vg wb R0 N w v d s D nx)(hk:∀ w',Ab No w w'->K (.tuple #[Yn (Bn s.geo k).1,Yn (Bn s.geo k).2]) w'):A7 Yt Ed #[Yo v,Yn k] w K:=by
 apply Mz;unfold ID;exact ff rfl ⟨_,rfl,_,h.geo,GE fun w' m=>⟨_,_,rfl,hk w' m⟩⟩
theorem AfU{k:Int}(h63:k<=9223372036854775807)(h:Vg wb R0 N w v d s D nx)(hk:∀ w',Ab No w w'->K (.tuple #[Yn (Au s.geo k).1,Yn (Au s.geo k).2.1,Yn (Au s.geo k).2.2]) w'):A7 Yt DC #[Yo v,Yn k] w K:=by
 apply LP;unfold Hz;exact ff rfl ⟨_,rfl,_,h.geo,Vc h63 fun w' m=>⟨_,_,_,rfl,hk w' m⟩⟩
theorem AaJ{k:Int}(h:Vg wb R0 N w v d s D nx)(hsz:Bb s.geo<=D.vs.length)
  (hk:∀ w',Vg wb R0 w'.heap.size w' v d s D nx->K (.tuple #[.agg ⟨hV (Gj D s.geo k).1⟩,Yn (Gj D s.geo k).2]) w'):A7 Yt Be #[Yo v,Yn k] w K:=by
 apply My;unfold IB;obtain⟨w1,b1,b2,b3,b4⟩:=Aw (P:=Yt) (w:=w) (T:=171) Bh;have hN:=h.size;have fin:∀(w':World)(i:Hd)(e:Int),Av w' w.heap.size 0 (hV hZ)->(∀ w6,Ab (fun x=>x=w.heap.size) w' w6->Vg wb R0 w6.heap.size w6 v d s D nx)->(i,e)=Gj D s.geo k->∃ w3:World,Gr (Instr.storeAt 171 (Yo w.heap.size) (.agg ⟨hV i⟩)) w' w3/\∃ gR2:Array Value,Ru (Instr.loadAt 171 (Yo w.heap.size)) w3 (.agg gR2) w3/\K (.tuple #[.agg gR2,Yn e]) w3:=fun w' i e hat hv he=>by
  have hw:FD i:=by have:=Xc D s.geo k;rw[<- he]at this;exact this
  obtain⟨w3,c1,c2,c3,c4⟩:=hat.put (T:=171) (vs:=hV i) Aq rfl (Ap hw) (Co _);refine⟨w3,c1,_,c2.at.all Aq (Ap hw),?_⟩
  have:=hk w3 (hv w3 c3)
  rw[<- he]at this;exact this
 have h1:=h.nos b3;refine⟨_,w1,b1,AfT h1 fun w2 m2=>⟨_,_,rfl,?_⟩⟩;have h2:=h1.nos m2;rw[DN];refine Aa (fun he=>⟨_,Di,?_⟩) (fun he=>?_)
 ·have he:=Ld he;exact fin w2 hZ _ (b2.keep m2 id) (fun w6 m6=>(h2.put hN m6).up) (by unfold Gj;rw[if_pos he])
 have he:=VU.1 (Lc he);have hin:=Va (g:=s.geo) (k:=k) (b:=(Bn s.geo k).1) (by rw[<- he]);refine⟨_,rfl,?_⟩;have hs1:=b3.size;have hs2:=m2.size;refine h2.rd hin.1 (by omega) fun w4 g cc h4 m4 hput hat hl hcc=>⟨_,_,_,_,rfl,ff rfl ⟨_,rfl,_,h4.geo,?_⟩⟩;refine Xd hl hcc (.inr ⟨_,_,rfl,hat.at⟩) (by omega) fun w6 m6=>⟨_,_,rfl,?_⟩;exact fin w6 _ _ (((b2.keep m2 id).keep m4 (by show ¬ w.heap.size<N;omega)).keep m6 id) (fun w7 m7=>hput _ w6 w7 hN (by omega) m6 m7) (by unfold Gj;rw[if_neg (by rw[he];decide)])
theorem bZ{k:Int}(h63:k<=9223372036854775807)(h:Vg wb R0 N w v d s D nx)(hsz:Bb s.geo<=D.vs.length)
  (hk:∀ w',Vg wb R0 w'.heap.size w' v d s D nx->K (.tuple #[.agg ⟨nV (Cp D s.geo k).1⟩,Yn (Cp D s.geo k).2]) w'):A7 Yt BP #[Yo v,Yn k] w K:=by
 apply LO;unfold Hy;obtain⟨w1,b1,b2,b3,b4⟩:=Aw (P:=Yt) (w:=w) (T:=69) AC;have hN:=h.size;have fin:∀(w':World)(i:Nd)(e:Int),Av w' w.heap.size 0 (nV nZ)->(∀ w6,Ab (fun x=>x=w.heap.size) w' w6->Vg wb R0 w6.heap.size w6 v d s D nx)->(i,e)=Cp D s.geo k->∃ w3:World,Gr (Instr.storeAt 69 (Yo w.heap.size) (.agg ⟨nV i⟩)) w' w3/\∃ gR2:Array Value,Ru (Instr.loadAt 69 (Yo w.heap.size)) w3 (.agg gR2) w3/\K (.tuple #[.agg gR2,Yn e]) w3:=fun w' i e hat hv he=>by
  have hw:E3 i:=by have:=S1 D s.geo k;rw[<- he]at this;exact this
  obtain⟨w3,c1,c2,c3,c4⟩:=hat.put (T:=69) (vs:=nV i) Am rfl (A4 hw) (Bl _);refine⟨w3,c1,_,c2.at.all Am (A4 hw),?_⟩
  have:=hk w3 (hv w3 c3)
  rw[<- he]at this;exact this
 have h1:=h.nos b3;refine⟨_,w1,b1,AfU h63 h1 fun w2 m2=>⟨_,_,_,rfl,?_⟩⟩;have h2:=h1.nos m2;rw[DN];refine Aa (fun he=>⟨_,Eg,?_⟩) (fun he=>?_)
 ·have he:=Ld he;exact fin w2 nZ _ (b2.keep m2 id) (fun w6 m6=>(h2.put hN m6).up) (by unfold Cp;rw[if_pos he])
 have he:=VU.1 (Lc he);have hin:=EI (g:=s.geo) (s:=k) (b:=(Au s.geo k).1) (p:=(Au s.geo k).2.1) (by rw[<- he]);refine⟨_,rfl,?_⟩;have hs1:=b3.size;have hs2:=m2.size;refine h2.rd (by omega) (by omega) fun w4 g cc h4 m4 hput hat hl hcc=>⟨_,_,_,_,rfl,ff rfl ?_⟩;refine Xe hl hcc (.inr ⟨_,_,rfl,hat.at⟩) (by omega) fun w6 m6=>⟨_,_,rfl,?_⟩;exact fin w6 _ _ (((b2.keep m2 id).keep m4 (by show ¬ w.heap.size<N;omega)).keep m6 id) (fun w7 m7=>hput _ w6 w7 hN (by omega) m6 m7) (by unfold Cp;rw[if_neg (by rw[he];decide)])
end
section
variable{V:Ps}{g:Gm}{hs:List Hd}
theorem mP(l:List On)(f:On->On)(hf:∀ o,(f o).b=o.b)(k:Int):(l.map f).find? (fun o=>(o.b:Int)==k)=(l.find? fun o=>(o.b:Int)==k).map f:=by
 rw[List.find?_map]
 congr 2
 funext o;simp only[Function.comp];rw[hf]
theorem aX(V:Ps)(b:Nat)(n:Int):CK (Bt V b) n=match CK V n with | some o=>some o | none=>if (b:Int)=n then some ⟨b,A3 V b,[]⟩else none:=by
 unfold Bt;cases hb:CK V b with
 | some o =>
  show CK V n=_;cases hn:CK V n with
  | some o2=>rfl
  | none =>
   show none=_;rw[if_neg fun e=>by rw[<- e,hb]at hn;cases hn]
 | none =>
  show(V.ons++[(⟨b,A3 V b,[]⟩:On)]).find? (fun o=>(o.b:Int)==n)=_;rw[List.find?_append];show(CK V n).or _=_;cases hn:CK V n with
  | some o2=>rfl
  | none =>
   simp only[Option.none_or,List.find?_cons,List.find?_nil];by_cases e:(b:Int)=n
   ·rw[if_pos e];have:((b:Int)==n)=true:=by simpa using e
    rw[this]
   ·rw[if_neg e];have:((b:Int)==n)=false:=by simpa using e
    rw[this]
theorem mF(V:Ps)(b c:Nat):A3 (Bt V b) c=A3 V c:=by
 have hC:=(PR (V:=V) (b:=b)).1;have e:=aX V b c;unfold A3;cases hc:CK V c with
 | some o =>
  rw[hc]at e;rw[e]
 | none =>
  rw[hc]at e;simp only at e;by_cases hb:(b:Int)=c
  ·rw[if_pos hb]at e;rw[e];have hbc:b=c:=by omega
   subst hbc;show Hr (A3 V b) []=_;unfold A3;rw[hc];rfl
  ·rw[if_neg hb]at e;rw[e];show Gt (Bt V b).C.D c=Gt V.C.D c;rw[hC]
theorem mE(V:Ps)(x:Ch)(c:Nat):A3 (K5 V x) c=if c=x.b then B3 (A3 V c) x.frm x.data else A3 V c:=by
 rw[<- mF V x.b c];show A3 (Hb (Bt V x.b) x) c=_;have hon:∃ o,CK (Bt V x.b) x.b=some o:=by
  rw[aX];cases CK V x.b with
  | some o=>exact⟨o,rfl⟩
  | none=>exact⟨⟨x.b,A3 V x.b,[]⟩,if_pos rfl⟩
 generalize Bt V x.b=W at *;have e:CK (Hb W x) c=(CK W c).map (fun o=>if o.b=x.b then { o with l:=o.l++[x] }else o):=mP W.ons _ (fun o=>by split<;>rfl) c;show A3 (Hb W x) c=_;unfold A3;rw[e];cases hc:CK W c with
 | none =>
  by_cases hcb:c=x.b
  ·obtain⟨o,ho⟩:=hon;rw[hcb,ho]at hc;cases hc
  ·rw[if_neg hcb];rfl
 | some o =>
  have hob:=(GK hc).2;have hob:o.b=c:=by omega
  by_cases hcb:c=x.b
  ·rw[if_pos hcb];simp only[Lt3];rw[if_pos (by omega)];show Hr o.base (o.l++[x])=_;unfold Hr;rw[Ly3];rfl
  ·rw[if_neg hcb];simp only[Lt3];rw[if_neg (by omega)]
theorem Cf{n f:Int}{data:Bk}{after:List Int}(h:E0 V n f data after=0)(c:Nat):A3 (BF V n f data after) c=if c=n.toNat then B3 (A3 V c) f.toNat data else A3 V c:=by
 have e:BF V n f data after=K5 V (HC V n.toNat f.toNat data after):=by unfold BF;rw[if_pos h]
 rw[e,mE];rfl
theorem Rx(V:Ps)(n f:Int)(data:Bk)(after:List Int):(BF V n f data after).C=V.C:=(uB (V:=V) (C:=V.C) rfl).2.2
theorem FA{n f:Int}{data:Bk}{after:List Int}(h:E0 V n f data after=0):(BF V n f data after).last=V.last+1:=by
 unfold BF;rw[if_pos h];rfl
def B2(V:Ps)(g:Gm)(hs:List Hd):Prop :=
 Df g=true/\Bb g<=V.C.D.vs.length/\(hs.length:Int)=g.gs/\∀(k:Nat)(h:Hd),hs[k]?=some h->A3 V (2+k*g.gr).toNat=H9 g h/\Mg g h=true/\h.no=k/\FD h
theorem Nk{g:Gm}(hg:Df g=true){k:Nat}(hk:(k:Int)<g.gs):Bn g k=(2+k*g.gr,0)/\2<=2+(k:Int)*g.gr/\2+(k:Int)*g.gr<Bb g:=by
 have e:Bn g k=(2+k*g.gr,0):=by unfold Bn;rw[if_pos hg,if_pos ⟨by omega,hk⟩]
 obtain⟨h1,_⟩:=Ax.1 hg;have hp:0<=(k:Int)*g.gr:=iC (by omega) (by omega);exact⟨e,by omega,(Va e).2⟩
theorem sQ{g:Gm}(hg:Df g=true){j k:Nat}(h:(2+(j:Int)*g.gr).toNat=(2+(k:Int)*g.gr).toNat):j=k:=by
 obtain⟨h1,_⟩:=Ax.1 hg;have hj:0<=(j:Int)*g.gr:=iC (by omega) (by omega);have hk:0<=(k:Int)*g.gr:=iC (by omega) (by omega);have e:(j:Int)*g.gr=k*g.gr:=by omega
 have:=Int.eq_of_mul_eq_mul_right (by omega) e
 omega
theorem B2.lt(h:B2 V g hs){k:Nat}{x:Hd}(hk:hs[k]?=some x):(k:Int)<g.gs:=by
 have:=(Lq.1 hk).1
 have:=h.2.2.1
 omega
def Rz(g:Gm)(h:Hd):Bk:=(H9 g h).take 64
theorem S0{g:Gm}{h:Hd}(hw:FD h):(Rz g h).length=64:=by unfold Rz;rw[pK,KC hw];rfl
def OX(V:Ps)(g:Gm)(k:Nat)(h:Hd):Ps:=BF V (2+k*g.gr) 0 (Rz g h) []
theorem gC(hV:B2 V g hs){k:Nat}(hk:(k:Int)<g.gs){h:Hd}(hw:FD h):E0 V (2+k*g.gr) 0 (Rz g h) []=0:=by
 obtain⟨_,p1,p2⟩:=Nk hV.1 hk
 have:=hV.2.1
 have e:AO V.C.D (2+k*g.gr)=0:=by unfold AO;rw[if_neg (by omega)]
 unfold E0;rw[e,if_neg (by decide),if_neg (by rw[S0 hw];omega)];rfl
theorem B2.set(hV:B2 V g hs){k:Nat}(hk:(k:Int)<g.gs){h:Hd}(hw:FD h)(ho:Mg g h=true)(hn:h.no=k):B2 (OX V g k h) g (hs.set k h):=by
 have hE:=gC hV hk (h:=h) hw;obtain⟨g1,g2,g3,g4⟩:=hV;refine⟨g1,by unfold OX;rw[Rx];exact g2,by simpa using g3,fun j x hj=>?_⟩;unfold OX;rw[Cf hE];by_cases e:j=k
 ·subst e;have hlt:j<hs.length:=by omega
  rw[wO hlt]at hj;cases hj;rw[if_pos rfl];obtain⟨q1,q2,q3,q4⟩:=g4 j hs[j] (by simp[hlt]);rw[q1];exact⟨sO q4 hw,ho,hn,hw⟩
 ·rw[wR (fun x=>e x.symm)]at hj;rw[if_neg fun x=>e (sQ g1 x)];exact g4 j x hj
end
def El(g:Gm)(s:Int)(i:Nat):Nat:=((s+i) % g.gs).toNat
def Nt(p:Int)(there:Bool)(i:Nat):Int:=if i=0/\there=true then p+1 else 0
def IQ(g:Gm)(hs:List Hd)(fz:Int->Bool)(find:Hd->Int->Int)(s p:Int)(there:Bool)(i:Nat):Option (Nat×Int) :=
 if fz (El g s i)=true then none else
  match hs[El g s i]? with
  | some h=>if 0<=find h (Nt p there i)then some (El g s i,find h (Nt p there i))else none
  | none=>none
def Cb(g:Gm)(hs:List Hd)(fz:Int->Bool)(find:Hd->Int->Int)(s p:Int)(there:Bool):Nat->Option (Nat×Int)
 | 0=>none
 | n+1=>match Cb g hs fz find s p there n with | some x=>some x | none=>IQ g hs fz find s p there n
theorem uK{g:Gm}(hg:Df g=true)(s:Int)(i:Nat):(El g s i:Int)<g.gs:=by
 obtain⟨_,_,h3,_⟩:=Ax.1 hg;unfold El;have h1:=Ly4 (s+i) (show g.gs≠0 by omega);have h2:=Int.emod_lt_of_pos (s+i) (show 0<g.gs by omega);omega
end Go.Z
end
section
open Go Go.Den
namespace Go.Den
theorem Rn{p:Nat->Prop}(h:∃ m,p m):∃ m,p m/\∀ k,p k->m<=k:=by
 obtain⟨m,hm⟩:=h
 induction m using Nat.strongRecOn with
 | _ m ih =>
  by_cases e:∃ k,k<m/\p k
  ·obtain⟨k,hk,hp⟩:=e;exact ih k hk hp
  ·exact⟨m,hm,fun k hk=>Nat.le_of_not_lt fun hl=>e ⟨k,hl,hk⟩⟩
theorem AS.by{B:(List Value->World->Prop)->List Value->World->Prop}(J:Nat->List Value->World->Prop){m:Nat}{x:List Value}{w:World}(h:J m x w)
  (hs:∀ m x w,J m x w->B (fun x' w'=>∃ m',m'<m/\J m' x' w') x w):AS B x w:=by
 classical
 let μ:List Value->World->Nat:=fun x w=>if h:∃ m,J m x w then Classical.choose (Rn h)else 0
 have hμ:∀ x w,(∃ m,J m x w)->J (μ x w) x w/\∀ k,J k x w->μ x w<=k:=fun x w h=>by
  show J (if h:∃ m,J m x w then Classical.choose (Rn h)else 0) x w/\∀ k,J k x w->(if h:∃ m,J m x w then Classical.choose (Rn h)else 0)<=k;rw[dif_pos h];exact Classical.choose_spec (Rn h)
 refine⟨fun x w=>∃ m,J m x w,μ,⟨m,h⟩,fun x w hI=>?_⟩;have e:(fun x' w'=>(∃ m,J m x' w')/\μ x' w'<μ x w)=fun x' w'=>∃ m',m'<μ x w/\J m' x' w':=by
  funext x' w';apply propext;constructor
  ·rintro⟨h1,h2⟩;exact⟨_,h2,(hμ x' w' h1).1⟩
  ·rintro⟨m',hm,hJ⟩;exact⟨⟨m',hJ⟩,Nat.lt_of_le_of_lt ((hμ x' w' ⟨m',hJ⟩).2 m' hJ) hm⟩
 show B (fun x' w'=>(∃ m,J m x' w')/\μ x' w'<μ x w) x w;rw[e];exact hs _ x w (hμ x w hI).1
abbrev Bs:=List UInt8
theorem mI{l:Bs}{i:Nat}{c:UInt8}(h:l[i]?=some c):l.drop i=c::l.drop (i+1):=by
 obtain⟨hi,e⟩:=Lq.1 h;rw[Li3 hi,e]
theorem AhZ{P:Bs}{star p:Nat}(h1:star<p)(h2:p<=P.length)(hs:P[star]?=some 42):P.drop star=42::((P.take p).drop (star+1)++P.drop p):=by
 rw[mI hs]
 congr 1
 conv=>lhs;rw[<- wC p P]
 rw[List.drop_append_of_le_length (by rw[pK];omega)]
theorem xN{S:Bs}{frm k:Nat}(h1:frm<=k)(h2:k<=S.length):S.drop frm=(S.take k).drop frm++S.drop k:=by
 conv=>lhs;rw[<- wC k S]
 rw[List.drop_append_of_le_length (by rw[pK];omega)]
section
variable{P S:Bs}{p k sr frm:Nat}{st:Bool}
end
def bl:Bs->Bs->Bool
 | _,[]=>false
 | [],_::_=>true
 | a::x,b::y=>a<b || (a==b&&bl x y)
abbrev Chg:=Int×Bs
def Sp(PA PB:List Bs)(al:Nat->Nat->Bool)(c:Chg):Prop :=
 (c.1=1/\c.2∈PA/\c.2 ∉ PB)\/(c.1=2/\c.2 ∉ PA/\c.2∈PB)\/(c.1=3/\∃ i k,PA[i]?=some c.2/\PB[k]?=some c.2/\al i k=false)
section
variable{PA PB:List Bs}{al:Nat->Nat->Bool}{i k:Nat}{out:List Chg}
end
def Mi(s:Bs):Bool:=decide (s≠[])&&decide (s≠[46])&&decide (s≠[46,46])&&s.all (fun c=>decide (c≠47)&&decide (c≠0))&&decide (s.length<=24)
theorem Xn{n:Bs}(h:Mi n=true):1<=n.length/\n.length<=24:=by
 unfold Mi at h;simp only[Lr,RV]at h;refine⟨?_,h.2⟩
 have:=h.1.1.1.1
 cases n with
 | nil=>exact absurd rfl this
 | cons a r=>simp
theorem ZM(s:ByteArray)(i:Nat)(h:i<s.size) :
  ((s.get! i).toNat<128/\Utf8.decode s i=((s.get! i).toNat,1)) \/
  (128<=(Utf8.decode s i).1/\(Utf8.decode s i).1<2147483648/\1<=(Utf8.decode s i).2/\i+(Utf8.decode s i).2<=s.size/\∀ k,k<(Utf8.decode s i).2->128<=(s.get! (i+k)).toNat):=by
 have hb:∀ k,(s.get! (i+k)).toNat<256:=fun k=>(s.get! (i+k)).toNat_lt;have hb0:=hb 0;rw[Lb5]at hb0;by_cases h0:(s.get! i).toNat<128
 ·left;refine⟨h0,?_⟩;unfold Utf8.decode;simp only[Lb5];rw[if_pos h0]
 ·right;have c1:∀ k,(decide (i+k<s.size)&&(s.get! (i+k)).toNat / 64==2)=true->i+k<s.size/\128<=(s.get! (i+k)).toNat:=fun k hk=>by
   simp only[Lr,RV,pO]at hk;omega
  have h1:=hb 1;have h2:=hb 2;have h3:=hb 3;have Vx:∀ k,k<1->128<=(s.get! (i+k)).toNat:=fun k hk=>by
   have:k=0:=by omega
   subst this;rw[Lb5];omega
  unfold Utf8.decode;simp only[Lb5];rw[if_neg h0];split
  ·rename_i hc;simp only[Lr]at hc;have k1:=c1 1 (by simpa using hc.2);split
   ·refine⟨by omega,by simp only;omega,by simp,by simp;omega,fun k hk=>?_⟩;simp only at hk;rcases(by omega:k=0\/k=1)with rfl | rfl
    ·exact Vx 0 (by omega)
    ·exact k1.2
   ·exact⟨by simp[Utf8.runeError],by simp[Utf8.runeError],by simp,by simp;omega,Vx⟩
  ·split
   ·rename_i hc;simp only[Lr]at hc;have k1:=c1 1 (by simpa using hc.1.2);have k2:=c1 2 (by simpa using hc.2);split
    ·rename_i hv;simp only[ge_iff_le,Lr,RV]at hv;refine⟨by simp only;omega,by simp only;omega,by simp,by simp;omega,fun k hk=>?_⟩;simp only at hk;rcases(by omega:k=0\/k=1\/k=2)with rfl | rfl | rfl
     ·exact Vx 0 (by omega)
     ·exact k1.2
     ·exact k2.2
    ·exact⟨by simp[Utf8.runeError],by simp[Utf8.runeError],by simp,by simp;omega,Vx⟩
   ·split
    ·rename_i hc;simp only[Lr]at hc;have k1:=c1 1 (by simpa using hc.1.1.2);have k2:=c1 2 (by simpa using hc.1.2);have k3:=c1 3 (by simpa using hc.2);split
     ·rename_i hv;simp only[ge_iff_le,Lr,RV]at hv;refine⟨by simp only;omega,by simp only;omega,by simp,by simp;omega,fun k hk=>?_⟩;simp only at hk;rcases(by omega:k=0\/k=1\/k=2\/k=3)with rfl | rfl | rfl | rfl
      ·exact Vx 0 (by omega)
      ·exact k1.2
      ·exact k2.2
      ·exact k3.2
     ·exact⟨by simp[Utf8.runeError],by simp[Utf8.runeError],by simp,by simp;omega,Vx⟩
    ·exact⟨by simp[Utf8.runeError],by simp[Utf8.runeError],by simp,by simp;omega,Vx⟩
end Go.Den
end
section
open Go Go.Den Go.Proofs
namespace Go.Den
def sB(xs:Bs):ByteArray:=⟨xs.toArray⟩
theorem kG(xs:Bs):(sB xs).size=xs.length:=by simp[sB,ByteArray.size]
theorem kE(xs:Bs):(sB xs).data.toList=xs:=rfl
theorem kF(xs:Bs):(sB xs).toList=xs:=by rw[ByteArray.toList_eq];rfl
theorem Ac5{x y:Bs}:sB x=sB y↔x=y:=⟨fun h=>by rw[<- kE x,h,kE],fun h=>by rw[h]⟩
theorem Ab5(x y:Bs):(x==y)=decide (x=y):=by rw[RH,pO,RV]
theorem XT(x y:Bs):((sB x).toList==(sB y).toList)=decide (x=y):=by rw[kF,kF,Ab5]
theorem lP(x:Bs):((sB x).toList==ByteArray.empty.toList)=decide (x=[]):=XT x []
theorem xF(x:Bs):((sB x).toList==(⟨#[46]⟩:ByteArray).toList)=decide (x=[46]):=XT x [46]
theorem qY(x:Bs):((sB x).toList==(⟨#[46,46]⟩:ByteArray).toList)=decide (x=[46,46]):=XT x [46,46]
theorem qX(c d:UInt8):(((c.toNat:Int))==(d.toNat:Int))=decide (c=d):=by
 rw[RH,pO,RV];exact⟨fun h=>Lu3.1 (by omega),fun h=>by rw[h]⟩
theorem qW(c:UInt8):((c.toNat:Int)==47)=decide (c=47):=qX c 47
theorem Ae4(c:UInt8):((c.toNat:Int)==0)=decide (c=0):=qX c 0
theorem Ab.iter{S:Nat->Prop}{a b:World}(h:Ab S a b)(s:ByteArray)(pos:Nat):Ab S a (b.iter s pos):=h.alloc _
end Go.Den
namespace Go.Z
theorem oB{w:World}{s:ByteArray}:Ru (Instr.range 9 (.string s)) w (Yo w.heap.size) (w.iter s 0):=run_range_string w _ s (by kernel_rfl)
theorem tN{w:World}{s:ByteArray}{pos:Nat}{ty:TypeId}(h:pos<s.size) :
  Ru (Instr.next (Yo w.heap.size) true ty) (w.iter s pos) (.tuple #[.bool true,Yn pos,.int .i32 ((Utf8.decode s pos).1:Int)]) (w.iter s (pos+(Utf8.decode s pos).2)):=by
 unfold Ru;simp only[Instr.next,getObj,setObj,Sem.run_bind,Sem.run,World.iter_heap,Result.andThen,h,lD,World.iter_set];simp[goInt,Sem.run,World.iter_heap,World.iter_set]
theorem xZ{w:World}{s:ByteArray}{pos:Nat}{ty:TypeId}(h:¬ pos<s.size):Ru (Instr.next (Yo w.heap.size) true ty) (w.iter s pos) (.tuple #[.bool false]) (w.iter s pos):=run_next_end w s pos ty h
section
variable{w:World}{K:Value->World->Prop}
theorem Zw{p:UInt8->Bool}{x:Bs}{i:Nat}{c:UInt8}(h:x[i]?=some c):(x.take (i+1)).all p=((x.take i).all p&&p c):=by
 obtain⟨hi,e⟩:=Lq.1 h;rw[Lx hi,List.all_append,e];simp
def nN(c:UInt8):Bool:=decide (c≠47)&&decide (c≠0)
theorem Vt(x:Bs):Mi x=(!decide (x=[]\/x=[46]\/x=[46,46])&&x.all nN&&decide (x.length<=24)):=by
 unfold Mi nN
 congr 2
 by_cases h1:x=[]<;>by_cases h2:x=[46]<;>by_cases h3:x=[46,46]<;>simp[h1,h2,h3]
theorem aE{x:Bs}{i:Nat}{c:UInt8}(h:x[i]?=some c):(sB x).get! i=c:=by
 obtain⟨hi,e⟩:=Lq.1 h;unfold sB ByteArray.get!;simp[hi,e]
theorem XY{x:Bs}(hx:x.length<=9223372036854775807)(hk:∀ w',Ab No w w'->K (.bool (Mi x)) w'):A7 Yt EE #[.string (sB x)] w K:=by
 apply Wa;unfold OC;have hs:=kG x;refine Ad.cut (fun z w1=>w1=w/\z=[.bool (decide (x=[]\/x=[46]\/x=[46,46]))]) ?_ ?_
 ·rw[lP,xF,qY];refine Aa (fun hb=>⟨rfl,?_⟩) (fun hb=>Ad.dup (Aa (fun hb2=>⟨rfl,?_⟩) (fun hb2=>⟨rfl,?_⟩)))
  ·have:=Ld hb;simp[this]
  ·have:=Ld hb2;simp[A2,this]
  ·have h1:=Lc hb;have h2:=Lc hb2;simp[A2,h1,h2]
 rintro z w1 ⟨rfl,rfl⟩;refine⟨_,rfl,Aa (fun hb=>?_) (fun hb=>?_)⟩
 ·have e:Mi x=false:=by rw[Vt,hb];rfl
  rw[<- e];exact hk _ (Ab.refl _ _)
 ·refine⟨_,_,oB,AS.by (fun m z w2=>∃(pos:Nat)(y:Value),z=[y]/\w2=w1.iter (sB x) pos/\pos<=x.length/\m=x.length-pos/\(x.take pos).all nN=true) ⟨0,_,rfl,rfl,qE _,rfl,by simp⟩ ?_⟩;rintro m z w2 ⟨pos,y,rfl,rfl,hpos,rfl,hall⟩;by_cases hp:pos<x.length
  ·refine⟨_,_,tN (by omega),true,fun w=>rfl,tt rfl ⟨_,fun w=>rfl,?_⟩⟩;have hg:x[pos]?=some x[pos]:=XM hp;have hspec:=ZM (sB x) pos (by omega);rw[aE hg]at hspec;rcases hspec with ⟨h128,hd⟩ | ⟨h1,h1',h2,h3,h4⟩
   ·rw[hd];simp only;refine Ad.cut (fun z w3=>w3=w1.iter (sB x) (pos+1)/\z=[.bool (!nN x[pos])]) (Aa (fun hc=>⟨rfl,?_⟩) (fun hc=>⟨rfl,?_⟩)) ?_
    ·rw[qW]at hc
     have:=Ld hc
     simp[nN,this]
    ·rw[qW]at hc
     have:=Lc hc
     rw[Ae4];simp[nN,this]
    rintro z w3 ⟨rfl,rfl⟩;refine⟨_,rfl,Aa (fun hc=>?_) (fun hc=>?_)⟩
    ·have e:Mi x=false:=by
      rw[Vt];have:x.all nN=false:=by
       rw[Bool.eq_false_iff];intro ha
       have:=(cI.1 ha) _ (Lm2 hp)
       simp[this]at hc
      rw[this];simp
     rw[<- e];exact hk _ ((Ab.refl No w1).iter _ _)
    ·exact⟨x.length-(pos+1),by omega,pos+1,_,rfl,rfl,by omega,rfl,by rw[Zw hg,hall];simpa using hc⟩
   ·generalize hdd:Utf8.decode (sB x) pos=dd at *;have e1:((dd.1:Int)==47)=false:=by rw[beq_eq_false_iff_ne];omega
    have e2:((dd.1:Int)==0)=false:=by rw[beq_eq_false_iff_ne];omega
    rw[e1,e2];refine Ad.cut (fun z w3=>w3=w1.iter (sB x) (pos+dd.2)/\z=[.bool false]) ⟨rfl,rfl⟩ ?_;rintro z w3 ⟨rfl,rfl⟩;refine⟨_,rfl,ff rfl ⟨x.length-(pos+dd.2),by omega,pos+dd.2,_,rfl,rfl,by omega,rfl,?_⟩⟩;have hall2:∀ k,k<=dd.2->(x.take (pos+k)).all nN=true:=by
     intro k
     induction k with
     | zero=>intro _;exact hall
     | succ k ih =>
      intro hk';have hpk:pos+k<x.length:=by omega
      have hgk:x[pos+k]?=some x[pos+k]:=XM hpk;have h5:=h4 k (by omega);rw[aE hgk]at h5;rw[<- wM,Zw hgk,ih (by omega)];have n1:x[pos+k]≠47:=fun e=>by rw[e]at h5;simp at h5
      have n2:x[pos+k]≠0:=fun e=>by rw[e]at h5;simp at h5
      simp[nN,n1,n2]
    exact hall2 _ (Le _)
  ·have hpl:pos=x.length:=by omega
   subst hpl;rw[Lx4]at hall;refine⟨_,_,xZ (by omega),false,fun w=>rfl,ff rfl ?_⟩;have e:Mi x=decide (((sB x).size:Int)<=24):=by
    rw[Vt,hb,hall,hs];simp only[Bool.not_false,lE,Bool.and_true,qF];omega
   rw[<- e];exact hk _ ((Ab.refl No w1).iter _ _)
end
structure Dt where
 s:Int
 lv:Bool
 nm:List UInt8
deriving DecidableEq
def RI:Dt:=⟨0,false,[]⟩
def Mo(e:Dt):Bool:=decide (e=RI) || (decide (1<=e.s/\e.s<=1023)&&Mi e.nm)
def YQ(e:Dt):List UInt8:=AG 2 e.s.toNat++[if e.lv=true then 1 else 0]++[UInt8.ofNat e.nm.length]++e.nm++List.replicate (28-e.nm.length) 0
def TN(b:List UInt8):Bool:=b.all fun c=>c==0
def KG(b:List UInt8):Dt:=⟨D6 (b.take 2),b.getD 2 0==1,(b.drop 4).take (b.getD 3 0).toNat⟩
def H8(b:List UInt8):Dt×Int :=
 if b.length≠32 then(RI,4)else if 1<(b.getD 2 0).toNat\/28<(b.getD 3 0).toNat\/TN (b.drop (4+(b.getD 3 0).toNat))=false then(RI,8)else if Mo (KG b)=true then(KG b,0)else(RI,8)
theorem Ya{e:Dt}(h:Mo e=true):0<=e.s/\e.s<=1023/\e.nm.length<=24:=by
 unfold Mo at h;rw[wP,Lr]at h;rcases h with h | ⟨h1,h2⟩
 ·have:=Ld h
  subst this;exact⟨by decide,by decide,by decide⟩
 ·have:=Ld h1
  have:=(Xn h2).2
  omega
theorem iU{e:Dt}(h:Mo e=true):(YQ e).length=32:=by
 have:=(Ya h).2.2
 unfold YQ;simp[AL];omega
def Gf(x:List UInt8)(i:Nat):List UInt8:=(x.drop (i*32)).take 32
def OQ(x:List UInt8)(i:Nat):Option Dt:=if (H8 (Gf x i)).2=0/\(H8 (Gf x i)).1.s≠0 then some (H8 (Gf x i)).1 else none
def rQ(x:List UInt8):Nat->List (Dt×Nat)
 | 0=>[]
 | i+1=>match OQ x i with | some e=>rQ x i++[(e,i)] | none=>rQ x i
def EH(x nm:List UInt8):Nat->Option Nat
 | 0=>none
 | i+1=>match EH x nm i with | some k=>some k | none=>match OQ x i with | some e=>if e.nm=nm then some i else none | none=>none
def IO(x:List UInt8):Nat->Option Nat
 | 0=>none
 | i+1=>match IO x i with | some k=>some k | none=>if TN (Gf x i)=true then some i else none
theorem Zx{a b:Nat}(ha:a<256)(hb:b<256):IntKind.u8.wrap (UG 8 (a:Int) (b:Int))=((a &&& (255-b):Nat):Int):=by
 have:UG 8 (a:Int) (b:Int)=((a &&& (255-b):Nat):Int):=by
  show(((_:BitVec 8).toNat:Nat):Int)=_;rw[iD,iD,BitVec.toNat_and,BitVec.toNat_not,iE,iE,hY ha,hY hb]
 have hlt:a &&& (255-b)<=a:=Nat.and_le_left;rw[this,NC];omega
section
variable{w:World}{K:Value->World->Prop}
theorem qZ{a:Option Addr}{l c i:Nat}{on:Bool}{xs:List UInt8}(hl:xs.length=l)(hr:BG w a (A6 xs))(h63:l<=1048576)(hi:i<8*l)
  (hk:∀ w' q,Ab No w w'->w.heap.size<=q->Av w' q 0 (A6 (Ke xs i on))->K (.tuple #[.slice (some ⟨q,0,none⟩) l l,Yn 0]) w'):A7 Yt P6 #[.slice a l c,Yn i,.bool on] w K:=by
 apply cQ;unfold Ur;apply Qh;unfold KS;refine Ad.dup (tt (Li (by omega)) ⟨_,rfl,_,rfl,ff ?_ ?_⟩)
 ·rw[Ag (x:=8*(l:Int)) (by omega) (by omega),Li (by omega)];rfl
 have hi8:i / 8<xs.length:=by omega
 have d1:Yw (Int.tdiv (i:Int) 8)=((i / 8:Nat):Int):=by rw[cF (by omega),Ag (by omega) (by omega)];omega
 have d2:Int.tmod (i:Int) 8=((i % 8:Nat):Int):=by rw[pJ (by omega)];omega
 rw[d1,d2];have hp8:=uE (k:=i % 8) (by omega);obtain⟨w1,a1,a2,a3,a4⟩:=DK (P:=Yt) (w:=w) (n:=l) CF (by omega) (by omega) (by omega);obtain⟨w2,b1,b2,b3,b4⟩:=ZI (P:=Yt) (T:=57) (T2:=57) (ty:=3) (n:=l) (n2:=l) (c:=l) (c2:=c) Aj a2 (by simp) (hr.nos a3) (by rw[Ai,hl];omega) (Cu _);have e2:A9 (List.replicate (l*1) (Value.int .u8 0)) 0 ((A6 xs).take (Nat.min l l*1))=A6 xs:=by
  unfold A9;rw[pX,Ly,Lf (by rw[Ai,hl];simp),Ls (by rw[Ai,hl];simp),iB]
 rw[e2]at b2;have ix:Al (Instr.indexAt 57 (.slice (some ⟨w.heap.size,0,none⟩) l l) (Yn ((i / 8:Nat):Int))) (.pointer (some ⟨w.heap.size,i / 8,none⟩)):=by
  have:=A8 (P:=Yt) (T:=57) (k:=1) (n:=l) (c:=l) (a:=⟨w.heap.size,0,none⟩) (kk:=.i64) (i:=((i / 8:Nat):Int)) Aj (by omega) (by omega)
  rw[Ae,show 0+((i / 8:Nat):Int).toNat*1=i / 8 by omega]at this;exact this
 have n1:(xs.getD (i / 8) 0).toNat &&& (255-2 ^ (i % 8))<256:=Nat.lt_of_le_of_lt Nat.and_le_left (xs.getD (i / 8) 0).toNat_lt;obtain⟨w4,c1,c2,c3,c4⟩:=b2.drew.store (P:=Yt) (T:=5) (i:=i / 8) (v:=.int .u8 (((xs.getD (i / 8) 0).toNat &&& (255-2 ^ (i % 8)):Nat):Int)) (by kernel_rfl) (by rw[Ai];omega) rfl;rw[LN _ _ _ n1]at c2;have c2:Av w4 w.heap.size 0 (A6 (Se xs i)):=c2;have M2:Ab No w w2:=a3.own b3 (Le _)
 have M4:Ab No w w4:=M2.drew.own c3 (Le _);have g0:xs.getD (i / 8) 0=xs[i / 8]:=by rw[Lp,XM hi8];rfl
 refine⟨_,_,_,w1,a1,_,w2,b1,_,ix,((xs.getD (i / 8) 0).toNat:Int),?_,_,zV (by omega),_,ix,w4,?_,?_⟩
 ·have:=b2.at.drew.load (P:=Yt) (T:=5) (i:=i / 8) (by kernel_rfl) (CR hi8)
  rw[Tc]at this;rw[g0];exact this
 ·rw[TV (wQ _ (by omega)),Zx (UInt8.toNat_lt _) hp8];rw[Tc]at c1;exact c1
 refine Ad.cut (fun z w6=>Av w6 w.heap.size 0 (A6 (Ke xs i on))/\Ab No w w6) ?_ ?_
 ·cases on with
  | false=>exact⟨c2,M4⟩
  | true =>
   have hc8:i / 8<(Se xs i).length:=by rw[UI];exact hi8
   have n2:((Se xs i).getD (i / 8) 0).toNat ||| 2 ^ (i % 8)<256:=Li2 (n:=8) (UInt8.toNat_lt _) hp8;obtain⟨w5,d1,d2,d3,d4⟩:=c2.drew.store (P:=Yt) (T:=5) (i:=i / 8) (v:=.int .u8 ((((Se xs i).getD (i / 8) 0).toNat ||| 2 ^ (i % 8):Nat):Int)) (by kernel_rfl) (by rw[Ai];omega) rfl;rw[LN _ _ _ n2]at d2;have g1:(Se xs i).getD (i / 8) 0=(Se xs i)[i / 8]:=by rw[Lp,XM hc8];rfl
   refine⟨_,ix,(((Se xs i).getD (i / 8) 0).toNat:Int),?_,_,zV (by omega),_,ix,w5,?_,d2,M4.drew.own d3 (Le _)⟩
   ·have:=c2.at.drew.load (P:=Yt) (T:=5) (i:=i / 8) (by kernel_rfl) (CR hc8)
    rw[Tc]at this;rw[g1];exact this
   ·rw[TV (wQ _ (by omega)),TW (UInt8.toNat_lt _) hp8];rw[Tc]at d1;exact d1
 ·rintro z w6 ⟨h1,h2⟩;exact hk w6 _ h2 (Le _) h1
def ZZ(xs:List UInt8)(i:Nat):Int:=match (List.range i).find? (BQ xs)with | some j=>j | none=>-1
theorem UE{a:Option Addr}{l c:Nat}{n f:Int}{xs:List UInt8}(hl:xs.length=l)(hr:BG w a (A6 xs))(h63:l<=1048576)(hk:∀ w',Ab No w w'->K (Yn (H7 xs n f)) w'):A7 Yt Ia #[.slice a l c,Yn n,Yn f] w K:=by
 apply X7;unfold Q8;refine Ad.cut (fun z w1=>w1=w/\z=[.bool (decide (f<0\/n<f))]) (Aa (fun h=>⟨rfl,?_⟩) (fun h=>⟨rfl,?_⟩)) ?_
 ·rw[Li (show f<0\/n<f from .inl (Ld h))]
 ·have h:=Lc h
  congr 2
  exact qF.2 ⟨.inr,fun e=>e.resolve_left h⟩
 rintro z w1 ⟨rfl,rfl⟩;refine⟨_,rfl,Ad.cut (fun z w2=>w2=w1/\z=[Yn (Nf n f)]) (Aa (fun h=>⟨rfl,?_⟩) (fun h=>⟨rfl,?_⟩)) ?_⟩
 ·unfold Nf;rw[if_pos (Ld h)]
 ·unfold Nf;rw[if_neg (Lc h)]
 rintro z w2 ⟨rfl,rfl⟩;apply SE;unfold MA;refine⟨_,rfl,?_⟩;rw[Ag (x:=8*(l:Int)) (by omega) (by omega)];have em:(if 8*(l:Int)<(if 0 > n then 0 else n)then 8*(l:Int)else(if 0 > n then 0 else n))=(upB xs n:Int):=by
  unfold upB;rw[hl];split<;>split<;>omega
 rw[em];have hu:upB xs n<=8*l:=by unfold upB;omega
 generalize hm:upB xs n=m at *;refine⟨fun x w3=>∃ j:Nat,j<=m/\x=[Yn (ZZ xs j),Yn j]/\(List.range j).find? (fun i=>BQ xs i&&decide (Nf n f<=i))=none/\Ab No w2 w3,fun x _=>(m-nI x 1).toNat,⟨0,by omega,rfl,rfl,Ab.refl _ _⟩,?_⟩;rintro x w3 ⟨j,hj,rfl,hno,m3⟩;refine⟨_,rfl,Aa (fun h=>?_) (fun h=>?_)⟩
 ·have h:=Ld h;have hs:=H6 (BQ xs) j;have hs2:=H6 (fun i=>BQ xs i&&decide (Nf n f<=i)) j;rw[hno]at hs2;have hs2:(List.range (j+1)).find? (fun i=>BQ xs i&&decide (Nf n f<=i))=if (BQ xs j&&decide (Nf n f<=j))=true then some j else none:=hs2
  refine Ad.cut (fun z w5=>z=[Yn (ZZ xs (j+1))]/\(List.range (j+1)).find? (fun i=>BQ xs i&&decide (Nf n f<=i))=none/\Ab No w2 w5) ?_ ?_
  ·refine QS (xs:=xs) hl (hr.nos m3) h63 (by omega) fun w5 m5=>⟨_,rfl,Aa (fun h2=>⟨?_,?_,m3.no m5⟩) (fun h2=>⟨_,rfl,Aa (fun h3=>?_) (fun h3=>⟨_,rfl,?_⟩)⟩)⟩
   ·have hc:BQ xs j=false:=by unfold BQ;rw[h2];rfl
    unfold ZZ;rw[hs,hc];cases (List.range j).find? (BQ xs)<;>rfl
   ·have hc:BQ xs j=false:=by unfold BQ;rw[h2];rfl
    rw[hs2,hc];rfl
   ·have h3:=Ld h3;have hc:BQ xs j=true:=by unfold BQ;rw[h2];rfl
    have hc2:(BQ xs j&&decide (Nf n f<=j))=true:=by rw[hc,Li (by omega)];rfl
    rw[if_pos hc2]at hs2;have e:H7 xs n f=j:=by
     unfold H7;rw[hm,TJ hs2 (by omega)]
    rw[<- e];exact hk _ (m3.no m5)
   ·have h3:=Lc h3;have hc:BQ xs j=true:=by unfold BQ;rw[h2];rfl
    have hc2:(BQ xs j&&decide (Nf n f<=j))=false:=by rw[hc,Lh (by omega)];rfl
    rw[hc2]at hs2;rw[hc]at hs;refine Ad.cut (fun z w6=>w6=w5/\z=[Yn (ZZ xs (j+1))]) (Aa (fun h4=>⟨rfl,?_⟩) (fun h4=>⟨rfl,?_⟩)) ?_
    ·have h4:=Ld h4;unfold ZZ at h4 |-;rw[hs];cases hf:(List.range j).find? (BQ xs)with
     | none=>rfl
     | some i=>rw[hf]at h4;simp only at h4;omega
    ·have h4:=Lc h4;unfold ZZ at h4 |-;rw[hs];cases hf:(List.range j).find? (BQ xs)with
     | none=>rw[hf]at h4;simp only at h4;omega
     | some i=>rfl
    ·rintro z w6 ⟨rfl,rfl⟩;exact⟨rfl,hs2,m3.no m5⟩
  ·rintro z w5 ⟨rfl,h1,h2⟩;rw[Ag (x:=(j:Int)+1) (by omega) (by omega)];exact⟨⟨j+1,by omega,rfl,h1,h2⟩,by simp[nI,A2];omega⟩
 ·have h:=Lc h;have:j=m:=by omega
  subst this;refine⟨_,rfl,?_⟩;have e:H7 xs n f=ZZ xs j:=by
   unfold H7 ZZ;rw[hm,hno];cases (List.range j).find? (BQ xs)<;>rfl
  rw[<- e];exact hk _ m3
end
theorem TR{g:Gm}:0<=AV g/\AV g<=16:=by
 unfold AV;split
 ·rename_i h;obtain⟨_,_,_,_,h5,h6,_⟩:=Ax.1 h;omega
 ·omega
section
variable{w:World}{K:Value->World->Prop}
theorem jE{g:Gm}{h:Hd}{i f t:Int}(hw:FD h)(hk:∀ w',Ab No w w'->K (Yn (Hi g h i f t)) w') :
  A7 Yt J4 #[.agg ⟨gV g⟩,.agg ⟨hV h⟩,Yn i,Yn f,Yn t] w K:=by
 apply Zc;unfold SP;obtain⟨w1,a1,a2,a3,a4⟩:=AB (P:=Yt) (w:=w) (T:=83) (cs:=gV g);obtain⟨w2,b1,b2,b3,b4⟩:=AB (P:=Yt) (w:=w1) (T:=171) (cs:=hV h);have m2:=a3.no b3;refine⟨_,w1,a1,_,w2,b1,_,(a2.at.keep b3 id).all A5 rfl,_,b2.at.all Aq (Ap hw),Ni hw fun w3 m3=>⟨_,rfl,Aa (fun ho=>?_) (fun ho=>?_)⟩⟩
 ·have e:Hi g h i f t=1:=by unfold Hi;rw[if_pos (by simpa using ho)]
  rw[<- e];exact hk _ (m2.no m3)
 have ho:Mg g h=true:=by simpa using ho
 refine Ad.cut (fun z w4=>w4=w3/\z=[.bool (decide (i<f\/t<=i))]) (Aa (fun hb=>⟨rfl,?_⟩) (fun hb=>⟨rfl,?_⟩)) ?_
 ·rw[Li (show i<f\/t<=i from .inl (Ld hb))]
 ·have hb:=Lc hb
  congr 2
  exact qF.2 ⟨.inr,fun e=>e.resolve_left hb⟩
 rintro z w4 ⟨rfl,rfl⟩;refine⟨_,rfl,Aa (fun hb=>?_) (fun hb=>?_)⟩
 ·have e:Hi g h i f t=3:=by unfold Hi;rw[if_neg (by rw[ho];decide),if_pos (Ld hb)]
  rw[<- e];exact hk _ (m2.no m3)
 ·have e:Hi g h i f t=0:=by unfold Hi;rw[if_neg (by rw[ho];decide),if_neg (Lc hb)]
  rw[<- e];exact hk _ (m2.no m3)
theorem jF{b o l c i:Nat}{on:Bool}{cs:List Value}{xs:List UInt8}(hl:xs.length=l)(hat:Av w b 0 cs)(hx:(cs.drop o).take l=A6 xs)(hol:o+l<=cs.length)(h63:l<=1048576)(hi:i<8*l)
  (hk:∀ w',Ab (fun x=>x=b) w w'->Av w' b 0 (if Bw xs i=on then cs else A9 cs o (A6 (Ke xs i on)))->K (Yn (if Bw xs i=on then 6 else 0)) w') :
  A7 Yt J5 #[.slice (some ⟨b,o,none⟩) l c,Yn i,.bool on] w K:=by
 apply Zd;unfold SQ
 have hr:BG w (some ⟨b,o,none⟩) (A6 xs):=.inr ⟨b,o,rfl,by
  have:=hat.at.sub (i:=o) (m:=l) (by omega)
  rw[Tc,hx]at this;exact this⟩
 refine QS hl hr h63 (by omega) fun w1 m1=>⟨_,rfl,Aa (fun h=>?_) (fun h=>?_)⟩
 ·have h:Bw xs i=on:=by simpa using h
  rw[if_pos h,if_pos h]at hk;exact hk w1 (m1.mono fun _ _ e=>e.elim) (hat.keep m1 id)
 ·have h:¬ Bw xs i=on:=by simpa using h
  rw[if_neg h,if_neg h]at hk;refine qZ hl (hr.nos m1) h63 hi fun w2 q m2 hq hat2=>⟨_,_,_,_,rfl,?_⟩;obtain⟨w3,p1,p2,p3,p4⟩:=GP (P:=Yt) (T:=57) (T2:=57) (ty:=3) (o:=0) (i:=o) (n:=l) (c:=c) (n2:=l) (c2:=l) (a2:=some ⟨q,0,none⟩) Aj ((hat.keep m1 id).keep m2 id) (by omega) (.inr ⟨q,0,rfl,hat2.at⟩) (by rw[Ai,Hm,hl];omega) (Cu _);rw[Tc]at p1;rw[Lf (by rw[Ai,Hm,hl];simp)]at p2
  exact⟨_,w3,p1,hk w3 (((m1.no m2).mono fun _ _ e=>e.elim).trans p3 fun _ _ e=>e) p2⟩
theorem aG{h:Hd}(hw:FD h):((hV h).drop 1).take 16=A6 h.bs:=by
 unfold hV;rw[pZ,VW,Lu (by rw[Ai,hw.1];omega),Lf (by rw[Ai,hw.1];omega)]
theorem Ve{h:Hd}(hw:FD h):((hV h).drop 17).take 8=A6 h.ss:=by
 unfold hV;rw[show 17=16+1 from rfl,pZ,UB,Ls (by rw[Ai,hw.1];omega),Ai,hw.1,dI,VW,Ly,Lf (by rw[Ai,hw.2];omega)]
theorem AaH{g:Gm}{h:Hd}{i:Int}{on:Bool}(hw:FD h)(hk:∀ w',Ab No w w'->K (.tuple #[.agg ⟨hV (HV g h i on).1⟩,Yn (HV g h i on).2]) w') :
  A7 Yt Ew #[.agg ⟨gV g⟩,.agg ⟨hV h⟩,Yn i,.bool on] w K:=by
 apply RS;unfold Ky;obtain⟨w1,a1,a2,a3,a4⟩:=AB (P:=Yt) (w:=w) (T:=83) (cs:=gV g);obtain⟨w2,b1,b2,b3,b4⟩:=AB (P:=Yt) (w:=w1) (T:=171) (cs:=hV h);obtain⟨w3,c1,c2,c3,c4⟩:=Aw (P:=Yt) (w:=w2) (T:=171) Bh;have m2:=a3.no b3;have m3:=(m2.no c3).drew;have q1:Av (Go.Den.Af w3) w.heap.size 0 (gV g):=((a2.keep b3 id).keep c3 id).drew;have q2:Av (Go.Den.Af w3) w1.heap.size 0 (hV h):=(b2.keep c3 id).drew
 have q3:Av (Go.Den.Af w3) w2.heap.size 0 (hV hZ):=c2.drew;have z1:=a3.size;have z2:=b3.size;have n12:w1.heap.size<w2.heap.size:=b2.lt;refine⟨_,w1,a1,_,w2,b1,_,w3,c1,_,q1.at.all A5 rfl,_,q2.at.all Aq (Ap hw),_,q1.at.all A5 rfl,_,q1.at.fld Ah rfl,NS fun w4 m4=>⟨_,rfl,(q1.keep m4 id).at.all A5 rfl,(q2.keep m4 id).at.all Aq (Ap hw),(q1.keep m4 id).at.fld Ah rfl,?_⟩⟩
 have htb:=TR (g:=g);rw[Ag (x:=1+AV g) (by omega) (by omega)];refine jE hw fun w5 m5=>⟨_,rfl,?_⟩;have m45:=m4.no m5;have p2:=q2.keep m45 id;have p3:=q3.keep m45 id;have M5:=m3.no m45;refine Ad.cut (fun z w7=>∃ e h',z=[Yn e]/\Ab No w w7/\Av w7 w1.heap.size 0 (hV h')/\Av w7 w2.heap.size 0 (hV hZ)/\FD h'/\HV g h i on=if e≠0 then(hZ,e)else(h',0)) ?_ ?_
 ·rw[Fm];refine Aa (fun he=>?_) (fun he=>?_)
  ·have he:=Ld he;obtain⟨ho,f1,f2⟩:=TS he;obtain⟨g1,_⟩:=BZ.1 ho;obtain⟨_,gr2,_⟩:=Ax.1 g1;obtain⟨j,rfl⟩:=dG (show 0<=i by omega);have ad1:Addr.add ⟨w1.heap.size,0,none⟩ 1=⟨w1.heap.size,1,none⟩:=by rw[Ae]
   rw[ad1];refine⟨_,_,_,AN Mc,?_⟩;refine jF (o:=1) (l:=16) (xs:=h.bs) hw.1 p2 (aG hw) (by rw[Ap hw];omega) (by omega) (by omega) fun w6 m6 h6=>⟨_,rfl,?_⟩;have hU:HV g h j on=if Bw h.bs j=on then(hZ,6)else(⟨h.no,Ke h.bs j on,h.ss⟩,0):=by
    unfold HV;rw[if_neg (by rw[he];decide)];rfl
   rw[hU];by_cases hb:Bw h.bs j=on
   ·rw[if_pos hb]at h6 |-;exact⟨_,h,rfl,M5.own m6 (by omega),h6,p3.keep m6 (fun e=>by have e:w2.heap.size=w1.heap.size:=e;omega),hw,by rw[if_pos hb];rfl⟩
   ·rw[if_neg hb]at h6 |-;rw[bO hw (by rw[Hm];exact hw.1)]at h6;exact⟨_,_,rfl,M5.own m6 (by omega),h6,p3.keep m6 (fun e=>by have e:w2.heap.size=w1.heap.size:=e;omega),⟨by show(Ke _ _ _).length=16;rw[Hm];exact hw.1,hw.2⟩,by rw[if_neg hb];rfl⟩
  ·have he:=Lc he;exact⟨_,h,rfl,M5,p2,p3,hw,by unfold HV;rw[if_pos he,if_pos he]⟩
 rintro z w7 ⟨e,h',rfl,m7,x2,x3,hw',hU⟩;refine⟨_,rfl,?_⟩;rw[DN];refine Aa (fun he=>⟨_,Di,?_⟩) (fun he=>?_)
 ·have he:=Ld he;rw[if_pos he]at hU;rw[hU]at hk;obtain⟨w8,y1,y2,y3,y4⟩:=x3.put (T:=171) (vs:=hV hZ) Aq (Ap CW) (Ap CW) (Co _);exact⟨w8,y1,_,y2.at.all Aq (Ap CW),hk w8 (m7.own y3 (by omega))⟩
 ·have he:=Lc he;rw[if_neg he]at hU;rw[hU]at hk;obtain⟨w8,y1,y2,y3,y4⟩:=x3.put (T:=171) (vs:=hV h') Aq (Ap CW) (Ap hw') (Co _);exact⟨_,x2.at.all Aq (Ap hw'),w8,y1,_,y2.at.all Aq (Ap hw'),hk w8 (m7.own y3 (by omega))⟩
theorem AaI{g:Gm}{h:Hd}{i:Int}{on:Bool}(hw:FD h)(hk:∀ w',Ab No w w'->K (.tuple #[.agg ⟨hV (HW g h i on).1⟩,Yn (HW g h i on).2]) w') :
  A7 Yt EP #[.agg ⟨gV g⟩,.agg ⟨hV h⟩,Yn i,.bool on] w K:=by
 apply TD;unfold LV;obtain⟨w1,a1,a2,a3,a4⟩:=AB (P:=Yt) (w:=w) (T:=83) (cs:=gV g);obtain⟨w2,b1,b2,b3,b4⟩:=AB (P:=Yt) (w:=w1) (T:=171) (cs:=hV h);obtain⟨w3,c1,c2,c3,c4⟩:=Aw (P:=Yt) (w:=w2) (T:=171) Bh;have m3:=(a3.no b3).no c3;have q1:Av w3 w.heap.size 0 (gV g):=(a2.keep b3 id).keep c3 id;have q2:Av w3 w1.heap.size 0 (hV h):=b2.keep c3 id
 have q3:Av w3 w2.heap.size 0 (hV hZ):=c2;have z1:=a3.size;have z2:=b3.size;have n12:w1.heap.size<w2.heap.size:=b2.lt;refine⟨_,w1,a1,_,w2,b1,_,w3,c1,_,q2.at.fld Ah rfl,Ad.cut (fun z w4=>w4=w3/\z=[Yn (gG h)]) ?_ ?_⟩
 ·rw[Fm];refine Aa (fun he=>⟨rfl,?_⟩) (fun he=>⟨rfl,?_⟩)
  ·unfold gG;rw[if_pos (Ld he)]
  ·unfold gG;rw[if_neg (Lc he)]
 rintro z w4 ⟨rfl,rfl⟩;refine⟨_,q1.at.all A5 rfl,_,q2.at.all Aq (Ap hw),_,rfl,_,q1.at.fld Ah rfl,?_⟩;refine jE hw fun w5 m5=>⟨_,rfl,?_⟩;have p2:=q2.keep m5 id;have p3:=q3.keep m5 id;have M5:=m3.no m5;refine Ad.cut (fun z w7=>∃ e h',z=[Yn e]/\Ab No w w7/\Av w7 w1.heap.size 0 (hV h')/\Av w7 w2.heap.size 0 (hV hZ)/\FD h'/\HW g h i on=if e≠0 then(hZ,e)else(h',0)) ?_ ?_
 ·rw[Fm];refine Aa (fun he=>?_) (fun he=>?_)
  ·have he:=Ld he;obtain⟨ho,f1,f2⟩:=TS he;obtain⟨g1,_⟩:=BZ.1 ho;obtain⟨_,_,_,_,gn1,gn2,_⟩:=Ax.1 g1;have hf:0<=gG h:=by unfold gG;split<;>decide
   obtain⟨j,rfl⟩:=dG (show 0<=i by omega);have ad1:Addr.add ⟨w1.heap.size,0,none⟩ 17=⟨w1.heap.size,17,none⟩:=by rw[Ae]
   rw[ad1];refine⟨_,_,_,AN TI,?_⟩;refine jF (o:=17) (l:=8) (xs:=h.ss) hw.2 p2 (Ve hw) (by rw[Ap hw];omega) (by omega) (by omega) fun w6 m6 h6=>⟨_,rfl,?_⟩;have hU:HW g h j on=if Bw h.ss j=on then(hZ,6)else(⟨h.no,h.bs,Ke h.ss j on⟩,0):=by
    unfold HW;rw[if_neg (by rw[he];decide)];rfl
   rw[hU];by_cases hb:Bw h.ss j=on
   ·rw[if_pos hb]at h6 |-;exact⟨_,h,rfl,M5.own m6 (by omega),h6,p3.keep m6 (fun e=>by have e:w2.heap.size=w1.heap.size:=e;omega),hw,by rw[if_pos hb];rfl⟩
   ·rw[if_neg hb]at h6 |-;rw[bQ hw (by rw[Hm];exact hw.2)]at h6;exact⟨_,_,rfl,M5.own m6 (by omega),h6,p3.keep m6 (fun e=>by have e:w2.heap.size=w1.heap.size:=e;omega),⟨hw.1,by show(Ke _ _ _).length=8;rw[Hm];exact hw.2⟩,by rw[if_neg hb];rfl⟩
  ·have he:=Lc he;exact⟨_,h,rfl,M5,p2,p3,hw,by unfold HW;rw[if_pos he,if_pos he]⟩
 rintro z w7 ⟨e,h',rfl,m7,x2,x3,hw',hU⟩;refine⟨_,rfl,?_⟩;rw[DN];refine Aa (fun he=>⟨_,Di,?_⟩) (fun he=>?_)
 ·have he:=Ld he;rw[if_pos he]at hU;rw[hU]at hk;obtain⟨w8,y1,y2,y3,y4⟩:=x3.put (T:=171) (vs:=hV hZ) Aq (Ap CW) (Ap CW) (Co _);exact⟨w8,y1,_,y2.at.all Aq (Ap CW),hk w8 (m7.own y3 (by omega))⟩
 ·have he:=Lc he;rw[if_neg he]at hU;rw[hU]at hk;obtain⟨w8,y1,y2,y3,y4⟩:=x3.put (T:=171) (vs:=hV h') Aq (Ap CW) (Ap hw') (Co _);exact⟨_,x2.at.all Aq (Ap hw'),w8,y1,_,y2.at.all Aq (Ap hw'),hk w8 (m7.own y3 (by omega))⟩
theorem sC{g:Gm}{h:Hd}{f:Int}(hw:FD h)(hk:∀ w',Ab No w w'->K (Yn (GC g h f)) w') :
  A7 Yt DV #[.agg ⟨gV g⟩,.agg ⟨hV h⟩,Yn f] w K:=by
 apply Qw;unfold Jp;obtain⟨w1,a1,a2,a3,a4⟩:=AB (P:=Yt) (w:=w) (T:=83) (cs:=gV g);obtain⟨w2,b1,b2,b3,b4⟩:=AB (P:=Yt) (w:=w1) (T:=171) (cs:=hV h);have m2:=a3.no b3;have q1:=a2.keep b3 id;refine⟨_,w1,a1,_,w2,b1,_,q1.at.all A5 rfl,_,b2.at.all Aq (Ap hw),Ni hw fun w3 m3=>⟨_,rfl,Aa (fun ho=>?_) (fun ho=>?_)⟩⟩
 ·have e:GC g h f=-1:=by unfold GC;rw[if_neg (by simpa using ho)]
  rw[<- e];exact hk _ (m2.no m3)
 have e:GC g h f=H7 h.bs g.gr f:=by unfold GC;rw[if_pos (by simpa using ho)]
 have ad1:Addr.add ⟨w1.heap.size,0,none⟩ 1=⟨w1.heap.size,1,none⟩:=by rw[Ae]
 rw[ad1];have hb:=(b2.keep m3 id).drew.at.sub (i:=1) (m:=16) (by rw[Ap hw];omega);rw[aG hw]at hb;refine⟨_,_,_,AN Mc,_,(q1.keep m3 id).drew.at.fld Ah rfl,UE (xs:=h.bs) hw.1 (.inr ⟨_,_,rfl,hb⟩) (by omega) fun w4 m4=>⟨_,rfl,?_⟩⟩;rw[<- e];exact hk _ ((m2.no m3).drew.no m4)
theorem sD{g:Gm}{h:Hd}{f:Int}(hw:FD h)(hk:∀ w',Ab No w w'->K (Yn (GD g h f)) w') :
  A7 Yt Ev #[.agg ⟨gV g⟩,.agg ⟨hV h⟩,Yn f] w K:=by
 apply RR;unfold Kx;obtain⟨w1,a1,a2,a3,a4⟩:=AB (P:=Yt) (w:=w) (T:=83) (cs:=gV g);obtain⟨w2,b1,b2,b3,b4⟩:=AB (P:=Yt) (w:=w1) (T:=171) (cs:=hV h);have m2:=a3.no b3;have q1:=a2.keep b3 id;refine⟨_,w1,a1,_,w2,b1,_,q1.at.all A5 rfl,_,b2.at.all Aq (Ap hw),Ni hw fun w3 m3=>⟨_,rfl,Aa (fun ho=>?_) (fun ho=>?_)⟩⟩
 ·have e:GD g h f=-1:=by unfold GD;rw[if_neg (by simpa using ho)]
  rw[<- e];exact hk _ (m2.no m3)
 have e:GD g h f=H7 h.ss g.no f:=by unfold GD;rw[if_pos (by simpa using ho)]
 have ad1:Addr.add ⟨w1.heap.size,0,none⟩ 17=⟨w1.heap.size,17,none⟩:=by rw[Ae]
 rw[ad1];have hb:=(b2.keep m3 id).drew.at.sub (i:=17) (m:=8) (by rw[Ap hw];omega);rw[Ve hw]at hb;refine⟨_,_,_,AN TI,_,(q1.keep m3 id).drew.at.fld Ah rfl,UE (xs:=h.ss) hw.2 (.inr ⟨_,_,rfl,hb⟩) (by omega) fun w4 m4=>⟨_,rfl,?_⟩⟩;rw[<- e];exact hk _ ((m2.no m3).drew.no m4)
end
end Go.Z
end
section
namespace Go.Z.bulks
theorem Ag4{H:Type}(l r:List (DataW H)):Rows.uptoBulkAll (l++r)=Rows.uptoBulkAll l+Rows.uptoBulkAll r:=by
 induction l with
 | nil=>simp[Rows.uptoBulkAll]
 | cons x l ih=>simp only[Lv4,Rows.uptoBulkAll,ih];omega
end Go.Z.bulks
end
section
open Go Go.Den
namespace Go.Den
open Go.RowKit Go.ChangeShapes Go.WideShapes
section
variable{H:Type}{enc:TypeId×Value->H}{P:Program}
theorem Pa(hl:laidOutB P=true){W W':World}(hb:Below W.heap.size W W'):∀{ts:List TypeId}{vs:List Value}{ds:List (DataW H)} {ps:List MemPlace},
  (ts.all fun t=>P.readableRec t&&decide (t<P.types.size))=true->DataW.TrodAll enc P W 0 (fun _=>true) true ts vs ds ps->(∀ x∈ps,x.block<W.heap.size) ->
  DataW.TrodAll enc P W' 0 (fun b=>decide (b<W.heap.size)) true ts vs ds ps
 | [],[],[],_,_,h,_=>h
 | [],[],_::_,_,_,h,_=>h.elim
 | [],_::_,_,_,_,h,_=>h.elim
 | _::_,[],_,_,_,h,_=>h.elim
 | _::_,_::_,[],_,_,h,_=>h.elim
 | t::ts,v::vs,d::ds,ps,hr,h,hlt=>by
  simp only[List.all_cons,Lr,RV]at hr;obtain⟨p,q,h1,h2,rfl⟩:=h;exact⟨p,q,Below.trod hl hr.1.1 hr.1.2 h1 hb (fun x hx=>hlt x (Lv2 _ hx)),Pa hl hb hr.2 h2 (fun x hx=>hlt x (Lz3 _ hx)),rfl⟩
theorem tB{f:Func}{s:ChangeSpec}{Ha handsOn:Bool}{W W':World}{args:Array Value}{ds gs:List (DataW H)}{before:List MemPlace}{tb:TypeId}(hl:laidOutB P=true)
  (hW:DataW.Whole enc P f.params.toList s.vars Ha W args.toList ds gs before) (hv:s.vars=[]) (hr:(f.params.toList.all fun t=>P.readableRec t&&decide (t<P.types.size))=true)
  (hrt:f.resultTypes=#[tb]) (htb:P.underlying tb=some .bool) (hs:s.fn H ds={ results:=[.lit (.bool true)],args:=ds }) (hb:Below W.heap.size W W') :
  s.post enc P f Ha true handsOn false W args (.bool true) W':=by
 have hlt:∀ p∈before,p.block<W.heap.size:=fun p hp=>hW.lt p hp;have hW0:=hW;obtain⟨p,q,hA,hV,he,_,_⟩:=hW;rw[hv]at hV;have hgs:gs=[]/\q=[]:=by
  cases gs with
  | nil=>exact⟨rfl,hV⟩
  | cons a r=>exact hV.elim
 obtain⟨rfl,rfl⟩:=hgs;rw[iB]at he;subst he;refine⟨ds,[],before,[],before,[],hW0,?_,?_,?_,World.keptBut_mono (fun x hx=>⟨hx,.inr (.inl hx)⟩) (hb.frame (·∈before)),fun h=>Bool.noConfusion h⟩
 ·rw[hrt,iB,hs];exact⟨[],[],shut_bool htb true,rfl,rfl⟩
 ·rw[iB,hs];exact Pa hl hb hr hA hlt
 ·rw[hv,iB,hs];rfl
end
end Go.Den
end
section
open Go Go.Den
namespace Go.Z
open Go.ChangeShapes Go.WideShapes Go.ChangeAt Go.RowKit
theorem tZ:ownKnob Yt.godebug=none:=by kernel_rfl
theorem tA:laidOutB Yt=true:=by kernel_rfl
theorem lY{f:FuncId}{args:Array Value}{w:World}{K:Value->World->Prop}{R:Ending->World->Prop}(h:A7 Yt f args w K)(hk:∀ v w',K v w'->R (.returned v) w'):Calls Yt f args w R :=
 h.2.mono fun e w' he=>by cases e<;>first | exact hk _ _ he | exact he.elim
end Go.Z
end
section
open Go Go.Den Go.Proofs
namespace Go.Den
section
variable{P:Program}{w w':World}
theorem Sm{α:Type}{f:α->List Value}{k:Nat}(h:∀ x,(f x).length=k):∀ L:List α,(L.map f).flatten.length=L.length*k
 | []=>by simp
 | x::r=>by rw[Zr,qB,Lj,h,Sm h r,pH,Lj4];omega
theorem KA{α:Type}{f:α->List Value}{k:Nat}(h:∀ x,(f x).length=k):∀{L:List α}{i:Nat}{x:α},L[i]?=some x->((L.map f).flatten.drop (i*k)).take k=f x
 | [],_,_,e=>by simp at e
 | y::r,0,x,e=>by
  have e:y=x:=by simpa using e
  subst e;rw[Zr,qB,Lp5,VW,Lu (by rw[h];omega),Lf (by rw[h];omega)]
 | y::r,i+1,x,e=>by
  rw[List.getElem?_cons_succ]at e;rw[Zr,qB,show(i+1)*k=(f y).length+i*k by rw[h,Lj4];omega,UB,Ls (by omega),Ly,show(f y).length+i*k-(f y).length=i*k by omega];exact KA h e
theorem WS{α:Type}{f:α->List Value}{k:Nat}(h:∀ x,(f x).length=k){L:List α}{i j:Nat}{x:α}{v:Value}(hx:L[i]?=some x)(hj:(f x)[j]?=some v):(L.map f).flatten[i*k+j]?=some v:=by
 have h1:=KA h hx;have hl:j<k:=by have:=(Lq.1 hj).1;rwa [h]at this
 rw[<- h1,List.getElem?_take_of_lt hl,Lm4]at hj;exact hj
end
end Go.Den
namespace Go.Z
section
variable{w w':World}
theorem AfO{T Te:TypeId}{base k bytes l c:Nat}{a:Option Addr}{xs ys:List Value}(hT:MZ Yt T k bytes)(hk:0<k)(h:Ow Yt w base T k a l c xs)(hl:ys.length=k)(h1:∀ v∈ys,v.oneCell'=true)
  (h63:(l+1)*bytes<=140737488355328) (hb:0<bytes) (hbase:base<=w.heap.size) :
  ∃ q c' w',Ru (Builtin.append_ #[T,T] T #[.slice a l c,.slice (some ⟨w.heap.size,0,none⟩) 1 1]) (w.alloc (.cells ⟨ys⟩ Te)) (.slice (some q) (l+1) c') w'/\Ow Yt w' base T k (some q) (l+1) c' (xs++ys)/\Ab (Of a) w w'/\((∃ q',a=some q'/\q.block=q'.block)\/w.heap.size<=q.block):=by
 have m1:Ab No w (w.alloc (.cells ⟨ys⟩ Te)):=(Ab.refl No w).alloc _;have r1:BG (w.alloc (.cells ⟨ys⟩ Te)) (some ⟨w.heap.size,0,none⟩) ys:=.inr ⟨_,_,rfl,Av.new.at⟩;have s1:(w.alloc (.cells ⟨ys⟩ Te)).heap.size=w.heap.size+1:=by simp
 obtain⟨q,c',w2,run,p,mm,hq⟩:=(h.nos m1).appG (ty:=T) (m:=1) (c2:=1) hT hk r1 (by omega) (by omega) h1 h63 hb (by omega);refine⟨q,c',w2,run,p,(m1.mono fun _ _ h=>h.elim).trans mm fun x _ e=>e,?_⟩;rcases hq with hq|hq
 ·exact .inl hq
 ·exact .inr (by omega)
end
abbrev Wt:=Int×Int×Int
def gT(x:Wt):List Value:=[Yn x.1,Yn x.2.1,Yn x.2.2]
def JD(x:Int×Int):List Value:=[Yn x.1,Yn x.2]
theorem Ud(x:Wt):(gT x).length=3:=rfl
theorem JE(x:Int×Int):(JD x).length=2:=rfl
theorem wY(x:Int×Int):∀ v∈JD x,v.oneCell'=true:=by intro v hv;simp[JD]at hv;rcases hv with rfl | rfl<;>rfl
def Ww(L:List Wt):List Value:=(L.map gT).flatten
def V9(L:List (Int×Int)):List Value:=(L.map JD).flatten
theorem oD(L:List Wt)(x:Wt):Ww (L++[x])=Ww L++gT x:=by simp[Ww]
theorem oC(L:List (Int×Int))(x:Int×Int):V9 (L++[x])=V9 L++JD x:=by simp[V9]
theorem Th:MZ Yt 242 3 24:=QZ (by kernel_rfl)
theorem UM:MZ Yt 328 2 16:=QZ (by kernel_rfl)
theorem Tk:Hf Yt 242=some 3:=by kernel_rfl
theorem qQ:D5 Yt 331=some 3:=by kernel_rfl
theorem Ee:D5 Yt 254=some 2:=by kernel_rfl
theorem dW(w:World)(n k m:Int):(Instr.build 331 #[(0,Yn n),(1,.agg ⟨[Yn k,Yn m]⟩)]).run Yt w=.ok (.agg ⟨[Yn n,Yn k,Yn m]⟩) w:=by kernel_rfl
theorem dY(w:World)(x:Wt):(Instr.buildSlice 242 1 #[(0,.agg ⟨gT x⟩)]).run Yt w=.ok (.slice (some ⟨w.heap.size,0,none⟩) 1 1) (w.alloc (.cells ⟨gT x⟩ 331)):=by kernel_rfl
theorem lX(w:World)(x:Int×Int):(Instr.buildSlice 328 1 #[(0,.agg ⟨JD x⟩)]).run Yt w=.ok (.slice (some ⟨w.heap.size,0,none⟩) 1 1) (w.alloc (.cells ⟨JD x⟩ 254)):=by kernel_rfl
structure QM(T:TypeId)(Z:Nat->Prop)(w:World)(q:Nat)(L:List Wt)(la:Option Addr)(lc:Nat):Prop where
 cell:Av w q 0 [.slice la L.length lc]
 row:Ow Yt w 0 T 3 la L.length lc (Ww L)
 nq:∀ a,la=some a->a.block≠q/\¬ Z a.block
 nz:¬ Z q
def Wk(T:TypeId)(Z:Nat->Prop)(w:World)(q:Nat)(L:List Wt):Prop:=∃ la lc,QM T Z w q L la lc
section
variable{w w' w0:World}{R:Nat->Prop}{sp d:Nat}{V:Ps}{K:Value->World->Prop}{T:TypeId}{Z Z':Nat->Prop}{q lc:Nat}{L:List Wt}{la:Option Addr}
theorem QM.keep{S:Nat->Prop}(h:QM T Z w q L la lc)(m:Ab S w w')(hS:∀ x,S x->Z x)(hZ:∀ x,x<w.heap.size->Z' x->Z x):QM T Z' w' q L la lc where
 cell:=h.cell.keep m fun e=>h.nz (hS _ e)
 row:=h.row.keep m fun a ha e=>(h.nq a ha).2 (hS _ e)
 nq a ha:=⟨(h.nq a ha).1,fun e=>(h.nq a ha).2 (hZ _ (h.row.base ha).2 e)⟩
 nz e:=h.nz (hZ _ h.cell.lt e)
theorem Wk.keep{S:Nat->Prop}(h:Wk T Z w q L)(m:Ab S w w')(hS:∀ x,S x->Z x)(hZ:∀ x,x<w.heap.size->Z' x->Z x):Wk T Z' w' q L:=by
 obtain⟨la,lc,h⟩:=h;exact⟨la,lc,h.keep m hS hZ⟩
theorem QM.nos(h:QM T Z w q L la lc)(m:Ab No w w'):QM T Z w' q L la lc:=h.keep m (fun _ h=>h.elim) fun _ _ h=>h
theorem Wk.nos(h:Wk T Z w q L)(m:Ab No w w'):Wk T Z w' q L:=by obtain⟨la,lc,h⟩:=h;exact⟨la,lc,h.nos m⟩
theorem QM.ld(h:QM T Z w q L la lc)(hT:Cw Yt T=true):Ru (Instr.loadAt T (.pointer (some (Addr.add ⟨q,0,none⟩ 0)))) w (.slice la L.length lc) w:=by
 rw[Ae];exact h.cell.at.load (i:=0) hT rfl
theorem QM.add{Te:TypeId}{x:Wt}(h:QM T Z w q L la lc)(hT:MZ Yt T 3 24)(hs:Cw Yt T=true)(hn:L.length<=5000)(hZ:∀ x,Z x->x<w.heap.size) :
  ∃ c' w4 w5,Ru (Builtin.append_ #[T,T] T #[.slice la L.length L.length,.slice (some ⟨w.heap.size,0,none⟩) 1 1]) (w.alloc (.cells ⟨gT x⟩ Te)) (.slice (some ⟨w.heap.size+1,0,none⟩) (L.length+1) c') w4 /\
   Gr (Instr.storeAt T (.pointer (some (Addr.add ⟨q,0,none⟩ 0))) (.slice (some ⟨w.heap.size+1,0,none⟩) (L.length+1) c')) w4 w5/\QM T Z w5 q (L++[x]) (some ⟨w.heap.size+1,0,none⟩) c'/\Ab (fun z=>z=q) w w5:=by
 have m1:Ab No w (w.alloc (.cells ⟨gT x⟩ Te)):=(Ab.refl No w).alloc _;have r1:BG (w.alloc (.cells ⟨gT x⟩ Te)) (some ⟨w.heap.size,0,none⟩) (gT x):=.inr ⟨_,_,rfl,Av.new.at⟩;have s1:(w.alloc (.cells ⟨gT x⟩ Te)).heap.size=w.heap.size+1:=by simp
 generalize w.alloc (.cells ⟨gT x⟩ Te)=w1 at *;have hqw:=h.cell.lt;obtain⟨c',w4,run,p,m4,z4⟩:=(h.row.nos m1).full (ty:=T) (c2:=1) hT r1 rfl (by omega) (by omega) (by omega);rw[s1]at run p z4;obtain⟨w5,u1,u2,u3,u4⟩:=((h.cell.keep m1 id).keep m4 id).store (P:=Yt) (T:=T) (i:=0) (v:=.slice (some ⟨w.heap.size+1,0,none⟩) (L.length+1) c') hs (by simp) rfl;refine⟨c',w4,w5,run,by rw[Ae];exact u1,⟨?_,?_,?_,h.nz⟩,((m1.no m4).mono fun _ _ h=>h.elim).trans u3 fun _ _ e=>e⟩
 ·have:(L++[x]).length=L.length+1:=by simp
  rw[this];exact u2
 ·rw[oD,show(L++[x]).length=L.length+1 by simp];exact p.keep u3 fun a ha e=>by cases ha;have e:w.heap.size+1=q:=e;omega
 ·intro a ha;cases ha;exact⟨by show w.heap.size+1≠q;omega,fun e=>by have:=hZ _ e;simp only at this;omega⟩
def HA(L:List Wt)(k:Int):Int:=if k<1\/3<k then 1 else if 4096<=L.length then 5 else 0
def Su(L:List Wt)(x:Wt):List Wt:=if HA L x.2.1=0 then L++[x]else L
theorem sX{n k m:Int}(h:Wk 242 Z w q L)(hn:L.length<=5000)(hZ:∀ x,Z x->x<w.heap.size)
  (hk:∀ w',Ab (fun z=>z=q) w w'->Wk 242 Z w' q (Su L (n,k,m))->K (Yn (HA L k)) w') :
  A7 Yt FX #[Yo q,Yn n,.agg ⟨JD (k,m)⟩] w K:=by
 apply Q3;unfold Jw;obtain⟨la,lc,h⟩:=h;refine⟨_,_,JF,?_⟩;have m1:Ab No w (w.alloc (.cells (Value.agg ⟨JD (k,m)⟩).cells 254)):=(Ab.refl No w).alloc _;have a1:Av (w.alloc (.cells (Value.agg ⟨JD (k,m)⟩).cells 254)) w.heap.size 0 (JD (k,m)):=Av.new;generalize w.alloc (.cells (Value.agg ⟨JD (k,m)⟩).cells 254)=w1 at *;have hz1:=m1.size;have h1:=h.nos m1;have l0:Ru (Instr.loadAt 3 (.pointer (some (Addr.add ⟨w.heap.size,0,none⟩ 0)))) w1 (Yn k) w1:=by rw[Ae];exact a1.at.load (i:=0) (by kernel_rfl) rfl
 refine ff rfl (Ad.cut (fun z w2=>w1=w2/\z=[.bool (decide (k<1\/3<k))]) ⟨_,l0,Aa (fun hb=>⟨rfl,?_⟩) (fun hb=>⟨_,l0,rfl,?_⟩)⟩ ?_)
 ·have:=Ld hb
  rw[Li (Or.inl this)]
 ·have:=Lc hb
  exact qU (by omega)
 rintro z w2 ⟨rfl,rfl⟩;have ms:∀{w2:World},Ab No w1 w2->Ab (fun z=>z=q) w w2:=fun mm=>(m1.no mm).mono fun _ _ h=>h.elim;refine⟨_,rfl,Aa (fun hb=>?_) (fun hb=>⟨_,rfl,_,_,_,h1.ld (by kernel_rfl),Aa (fun hb2=>?_) (fun hb2=>?_)⟩)⟩
 ·have hb:=Ld hb;have e:HA L k=1:=if_pos hb
  have:=hk w1 (ms (Ab.refl _ _)) ⟨la,lc,by unfold Su;rw[if_neg (by show ¬ HA L k=0;rw[e];omega)];exact h1⟩
  rwa [e]at this
 ·have hb:=Lc hb;have hb2:=Ld hb2;have e:HA L k=5:=by unfold HA;rw[if_neg hb,if_pos (by omega)]
  have:=hk w1 (ms (Ab.refl _ _)) ⟨la,lc,by unfold Su;rw[if_neg (by show ¬ HA L k=0;rw[e];omega)];exact h1⟩
  rwa [e]at this
 ·have hb:=Lc hb;have hb2:=Lc hb2;have e:HA L k=0:=by unfold HA;rw[if_neg hb,if_neg (by omega)]
  have md:Ab No w1 (Af w1):=(Ab.refl No w1).drew;have hd:=h1.nos md;have ld:=hd.ld (by kernel_rfl);have la0:Ru (Instr.loadAt 254 (Yo w.heap.size)) (Af w1) (.agg ⟨JD (k,m)⟩) (Af w1):=(a1.keep md id).at.loadAgg (i:=0) Ee (by rw[JE];omega);refine⟨_,rfl,_,_,_,ld,_,rfl,_,_,_,ld,_,rfl,_,_,_,ld,_,_,_,fun w'=>hd.row.cut3 Tk w',_,la0,_,fun w=>dW w _ _ _,_,_,_,_,dY _ (n,k,m),?_⟩
  have hZ1:∀ x,Z x->x<(Af w1).heap.size:=fun x hx=>by have:=hZ x hx;have:=md.size;omega
  obtain⟨c',w4,w5,run,sto,h5,m5⟩:=hd.add (Te:=331) (x:=(n,k,m)) Th (by kernel_rfl) hn hZ1;have ma:Ab No (Af w1) ((Af w1).alloc (.cells ⟨gT (n,k,m)⟩ 331)):=(Ab.refl No _).alloc _;have la1:=(hd.nos ma).ld (by kernel_rfl);refine⟨la1,la1,la1,_,_,_,w4,run,_,rfl,w5,sto,?_⟩
  have:=hk w5 (((m1.no md).mono fun _ _ h=>h.elim).trans m5 fun _ _ e=>e) ⟨_,c',by unfold Su;rw[if_pos (show HA L k=0 from e)];exact h5⟩
  rwa [e]at this
theorem AcN(h:Wk 242 Z w q L)(hk:K (Yn L.length) w):A7 Yt H1 #[Yo q] w K:=by
 apply TE;unfold LW;obtain⟨la,lc,h⟩:=h;exact ff rfl ⟨_,rfl,_,_,_,h.ld (by kernel_rfl),hk⟩
theorem QM.at{Te:TypeId}{i:Nat}{x:Wt}(h:QM T Z w q L la lc)(hT:Hf Yt T=some 3)(hE:D5 Yt Te=some 3)(hn:L.length<=5000)(hx:L[i]?=some x):∃ g,la=some ⟨g,0,none⟩/\Al (Instr.indexAt T (.slice la L.length lc) (Yn i)) (.pointer (some ⟨g,i*3,none⟩)) /\
  Ru (Instr.loadAt Te (.pointer (some ⟨g,i*3,none⟩))) w (.agg ⟨gT x⟩) w/\(∀(w':World)(Ta:TypeId),Ab No w w'->D5 Yt Ta=some 2->Ru (Instr.loadAt Ta (.pointer (some (Addr.add ⟨g,i*3,none⟩ 1)))) w' (.agg ⟨JD x.2⟩) w') /\
  ∀(w':World)(Ti:TypeId),Ab No w w'->Cw Yt Ti=true->Ru (Instr.loadAt Ti (.pointer (some (Addr.add ⟨g,i*3,none⟩ 0)))) w' (Yn x.1) w':=by
 have hi:=(Lq.1 hx).1;obtain⟨g,rfl,hg,hat⟩:=h.row.sm (by omega);have hlen:(Ww L).length=L.length*3:=Sm Ud L;refine⟨g,rfl,fun w'=>?_,?_,fun w' Ta m hTa=>?_,fun w' Ti m hTi=>?_⟩
 ·have:=A8 (P:=Yt) (T:=T) (k:=3) (a:=⟨g,0,none⟩) (n:=L.length) (c:=lc) (kk:=.i64) (i:=i) hT (by omega) (by omega) w'
  rw[Ae,show 0+(i:Int).toNat*3=i*3 by omega]at this;exact this
 ·have:=hat.at.loadAgg (P:=Yt) (T:=Te) (i:=i*3) hE (by rw[hlen];omega)
  rw[show((Ww L).drop (i*3)).take 3=gT x from KA Ud hx,Tc]at this;exact this
 ·rw[Ae]
  have:=(hat.keep m id).at.loadAgg (P:=Yt) (T:=Ta) (i:=i*3+1) hTa (by rw[hlen];omega)
  rw[Tc]at this;have e:((Ww L).drop (i*3+1)).take 2=JD x.2:=by
   have h1:((Ww L).drop (i*3)).take 3=gT x:=KA Ud hx;have h2:((Ww L).drop (i*3+1)).take 2=(((Ww L).drop (i*3)).take 3).drop 1:=by
    rw[List.drop_take,Tb]
   rw[h2,h1];rfl
  rw[e]at this;exact this
 ·rw[Ae]
  have:=(hat.keep m id).at.load (P:=Yt) (T:=Ti) (i:=i*3+0) hTi (v:=Yn x.1) (WS Ud hx rfl)
  rw[Tc]at this;exact this
theorem yM(h:Wk 242 Z w q L)(hn:L.length<=5000)(hk:∀ w' a c,Ab No w w'->Ow Yt w' w.heap.size 328 2 a L.length c (V9 (L.map (·.2)))->K (.slice a L.length c) w') :
  A7 Yt G3 #[Yo q] w K:=by
 apply RU;unfold K0;refine AcN h ⟨_,rfl,?_⟩;obtain⟨la,lc,h⟩:=h
 refine⟨fun x w1=>∃(i:Nat)(a5:Option Addr)(c5:Nat),x=[.slice a5 i c5,Yn i]/\i<=L.length/\Ow Yt w1 w.heap.size 328 2 a5 i c5 (V9 ((L.take i).map (·.2)))/\Ab No w w1,fun x _=>(L.length-nI x 1).toNat,
  ⟨0,none,0,rfl,by omega,Ow.nilG UM,Ab.refl _ _⟩,?_⟩
 rintro x w1 ⟨i,a5,c5,rfl,hi,o5,m1⟩;have h1:=h.nos m1;have hz1:=m1.size;refine⟨_,rfl,Aa (fun hb=>?_) (fun hb=>?_)⟩
 ·have hi:i<L.length:=by have:=Ld hb;omega
  have hx:L[i]?=some L[i]:=XM hi;have htk:=Lx hi;obtain⟨g,rfl,hix,_,hag,_⟩:=h1.at (Te:=331) Tk qQ hn hx;generalize L[i]=x at *;obtain⟨q2,c',w7,run,p,mm,hq2⟩:=AfO (Te:=254) (ys:=JD x.2) UM (by omega) o5 rfl (wY _) (by omega) (by omega) (by omega);refine⟨_,_,_,rfl,_,rfl,_,_,_,h1.ld (by kernel_rfl),_,hix,_,hag w1 _ (Ab.refl _ _) Ee,_,_,_,_,lX _ _,_,_,_,w7,run,?_⟩
  rw[Ag (x:=(i:Int)+1) (by omega) (by omega)];refine⟨⟨i+1,some q2,c',rfl,by omega,?_,m1.trans mm fun z hz ⟨q5,e5,e⟩=>by have:=(o5.base e5).1;omega⟩,by simp[nI,A2];omega⟩;have:V9 ((L.take (i+1)).map (·.2))=V9 ((L.take i).map (·.2))++JD x.2:=by rw[htk,pM];exact oC _ _
  rw[this];exact p
 ·have hi:i=L.length:=by have:=Lc hb;omega
  subst hi;rw[Lx4]at o5;exact⟨_,_,_,rfl,hk w1 a5 c5 m1 o5⟩
end
def two(P : Program)(T : TypeId) : Bool :=
  match (P.fieldsOf T).toList with
  | [f, g] => f.name != "_" && g.name != "_" && f.type == 3 && f.offset == 0 && g.type == 3 && g.offset == 1
  | _ => false
theorem AdC {P : Program} {T : TypeId} (h : two P T = true) : ∃ f g, (P.fieldsOf T).toList = [f, g] ∧ f.name ≠ "_" ∧ g.name ≠ "_" ∧ f.type = 3 ∧ f.offset = 0 ∧ g.type = 3 ∧ g.offset = 1 := by
  unfold two at h
  split at h
  · rename_i f g e
    simp only[Lr, bne_iff_ne, pO]at h;exact⟨f, g, e, h.1.1.1.1.1, h.1.1.1.1.2, h.1.1.1.2, h.1.1.2, h.1.2, h.2⟩
  · cases h
section
variable{w w' w0:World}{R:Nat->Prop}{sp d:Nat}{V:Ps}{K:Value->World->Prop}{T:TypeId}{Z Z':Nat->Prop}{q lc:Nat}{L:List Wt}{la:Option Addr}
def JQ(x y:Int×Int):Bool:=x.1==y.1&&x.2==y.2
theorem rR(h2:two Yt T=true)(ht:Yt.underlying T=some (.struct (Yt.fieldsOf T)))(hp:Yt.stoodInHeld T=false)(x y:Int×Int)(w:World) :
  (Op.equalIn 10000 T (.agg ⟨JD x⟩) (.agg ⟨JD y⟩)).run Yt w=.ok (JQ x y) w:=by
 obtain⟨f,g,hfs,nf,ng,tf,of,tg,og⟩:=AdC h2;rw[run_equalIn_agg w 9999 T _ _ ht hp,hfs];unfold Op.eqFields;rw[if_pos nf,tf,of];have p1:∀ x:Int×Int,∀ w:World,(part 3 ⟨JD x⟩ 0).run Yt w=.ok (Yn x.1) w:=fun x w=>by kernel_rfl
 have p2:∀ x:Int×Int,∀ w:World,(part 3 ⟨JD x⟩ 1).run Yt w=.ok (Yn x.2) w:=fun x w=>by kernel_rfl
 have e1:∀ a b:Int,(Op.equalIn 9999 3 (Yn a) (Yn b)).run Yt w=.ok (a==b) w:=fun a b=>run_equalIn_int w 9998 3 .i64 .i64 a b (by kernel_rfl);unfold JQ;cases h1:x.1==y.1 with
 | false=>simp[Sem.run_bind,p1,e1,h1]
 | true =>
  simp[Sem.run_bind,p1,e1,h1,Op.eqFields,ng,tg,og,p2];cases h3:x.2==y.2<;>simpa using h3
theorem yA(h2:two Yt T=true)(ht:Yt.underlying T=some (.struct (Yt.fieldsOf T)))(hp:Yt.stoodInHeld T=false)(hg:Yt.eqGuardType Yt.depth T=false)(o1 o2:Operand)(x y:Int×Int) :
  Al (G9 .eql T o1 o2 (.agg ⟨JD x⟩) (.agg ⟨JD y⟩)) (.bool (JQ x y)):=fun w=>by
 unfold G9;rw[Sem.run_bind,run_eqGuard_agg w _ _ _ _ _ _ hg,Result.andThen_ok,run_eql_struct,rR h2 ht hp,Result.andThen_ok]
theorem AaD:two Yt 254=true:=by kernel_rfl
theorem AaE:Yt.underlying 254=some (.struct (Yt.fieldsOf 254)):=by kernel_rfl
theorem AaB:Yt.stoodInHeld 254=false:=by kernel_rfl
theorem yI:Yt.eqGuardType Yt.depth 254=false:=by kernel_rfl
theorem Ae0{T Te:TypeId}{base l c i:Nat}{a:Option Addr}{xs:List (Int×Int)}{x:Int×Int}(h:Ow Yt w base T 2 a l c (V9 xs))(hl:xs.length=l)(hT:Hf Yt T=some 2)(hE:D5 Yt Te=some 2)(h63:l<=1000000)(hx:xs[i]?=some x) :
  ∃ g,a=some ⟨g,0,none⟩/\base<=g/\Al (Instr.indexAt T (.slice a l c) (Yn i)) (.pointer (some ⟨g,i*2,none⟩))/\(∀ w',Ab No w w'->Ru (Instr.loadAt Te (.pointer (some ⟨g,i*2,none⟩))) w' (.agg ⟨JD x⟩) w') /\
   ∀(w':World)(j:Nat)(v:Value)(Ti:TypeId),Ab No w w'->Cw Yt Ti=true->(JD x)[j]?=some v->Ru (Instr.loadAt Ti (.pointer (some (Addr.add ⟨g,i*2,none⟩ j)))) w' v w':=by
 have hi:=(Lq.1 hx).1;obtain⟨g,rfl,hg,hat⟩:=h.sm (by omega);have hlen:(V9 xs).length=xs.length*2:=Sm JE xs;refine⟨g,rfl,hg,fun w'=>?_,fun w' m=>?_,fun w' j v Ti m hTi hj=>?_⟩
 ·have:=A8 (P:=Yt) (T:=T) (k:=2) (a:=⟨g,0,none⟩) (n:=l) (c:=c) (kk:=.i64) (i:=i) hT (by omega) (by omega) w'
  rw[Ae,show 0+(i:Int).toNat*2=i*2 by omega]at this;exact this
 ·have:=(hat.keep m id).at.loadAgg (P:=Yt) (T:=Te) (i:=i*2) hE (by rw[hlen];omega)
  rw[show((V9 xs).drop (i*2)).take 2=JD x from KA JE hx,Tc]at this;exact this
 ·rw[Ae]
  have:=(hat.keep m id).at.load (P:=Yt) (T:=Ti) (i:=i*2+j) hTi (v:=v) (WS JE hx hj)
  rw[Tc]at this;exact this
theorem eX:Hf Yt 328=some 2:=by kernel_rfl
theorem Zn{base l c:Nat}{a:Option Addr}{xs:List (Int×Int)}{y:Int×Int}(h:Ow Yt w base 328 2 a l c (V9 xs))(hl:xs.length=l)(h63:l<=1000000)
  (hk:∀ w',Ab No w w'->K (.bool (xs.any fun x=>JQ x y)) w'):A7 Yt Ck #[.slice a l c,.agg ⟨JD y⟩] w K:=by
 apply Ip;unfold Ea;refine⟨_,_,JF,?_⟩;have m1:Ab No w (w.alloc (.cells (Value.agg ⟨JD y⟩).cells 254)):=(Ab.refl No w).alloc _;have a1:Av (w.alloc (.cells (Value.agg ⟨JD y⟩).cells 254)) w.heap.size 0 (JD y):=Av.new;generalize w.alloc (.cells (Value.agg ⟨JD y⟩).cells 254)=w1 at *;have la1:Ru (Instr.loadAt 254 (Yo w.heap.size)) w1 (.agg ⟨JD y⟩) w1:=a1.at.loadAgg (i:=0) Ee (by rw[JE];omega)
 refine⟨_,la1,?_⟩;apply Kl;unfold F2;refine⟨_,_,JF,?_⟩;have m2:Ab No w1 (w1.alloc (.cells (Value.agg ⟨JD y⟩).cells 254)):=(Ab.refl No w1).alloc _;have a2:Av (w1.alloc (.cells (Value.agg ⟨JD y⟩).cells 254)) w1.heap.size 0 (JD y):=Av.new;generalize w1.alloc (.cells (Value.agg ⟨JD y⟩).cells 254)=w2 at *;have M2:=m1.no m2;refine⟨fun x w3=>∃ i:Nat,x=[Yn i]/\i<=l/\Ab No w2 w3/\((xs.take i).any fun x=>JQ x y)=false,fun x _=>(l-nI x 0).toNat,⟨0,rfl,by omega,Ab.refl _ _,rfl⟩,?_⟩
 rintro x w3 ⟨i,rfl,hi,m3,hno⟩;refine⟨_,rfl,Aa (fun hb=>?_) (fun hb=>?_)⟩
 ·have hi:i<xs.length:=by have:=Ld hb;omega
  have md:Ab No w2 (Af w3):=m3.drew;obtain⟨g,rfl,_,hix,hag,_⟩:=Ae0 (Te:=254) h hl eX Ee h63 (XM hi);have ht:((xs.take (i+1)).any fun x=>JQ x y)=(((xs.take i).any fun x=>JQ x y) || JQ xs[i] y):=by rw[Lx hi,List.any_append];simp
  refine⟨_,(a2.keep md id).at.loadAgg (i:=0) Ee (by rw[JE];omega),_,hix,_,hag _ (M2.no md),_,yA AaD AaE AaB yI _ _ y xs[i],Aa (fun hb2=>?_) (fun hb2=>?_)⟩
  ·refine⟨_,rfl,?_⟩;have hs:(xs.any fun x=>JQ x y)=true:=Lj3.2 ⟨xs[i],Lm2 hi,by unfold JQ at hb2 |-;simp at hb2 |-;omega⟩;rw[Li (by omega),<- hs];exact hk _ (M2.no md)
  ·rw[Ag (x:=(i:Int)+1) (by omega) (by omega)];refine⟨⟨i+1,rfl,by omega,md,?_⟩,by simp[nI,A2];omega⟩;rw[ht,hno,wD];unfold JQ at hb2 |-;rw[Bool.eq_false_iff]at hb2 |-;intro e;apply hb2;simp at e |-;omega
 ·have hi:i=xs.length:=by have:=Lc hb;omega
  subst hi;rw[Lx4]at hno;refine⟨_,rfl,?_⟩;rw[Lh (by omega),<- hno];exact hk _ (M2.no m3)
theorem sY{y:Int×Int}(h:Wk 242 Z w q L)(hn:L.length<=5000)(hk:∀ w',Ab No w w'->K (.bool (L.any fun x=>JQ x.2 y)) w') :
  A7 Yt FY #[Yo q,.agg ⟨JD y⟩] w K:=by
 apply Q4;unfold Jx;refine⟨_,_,JF,?_⟩;have m1:Ab No w (w.alloc (.cells (Value.agg ⟨JD y⟩).cells 254)):=(Ab.refl No w).alloc _;have a1:Av (w.alloc (.cells (Value.agg ⟨JD y⟩).cells 254)) w.heap.size 0 (JD y):=Av.new;generalize w.alloc (.cells (Value.agg ⟨JD y⟩).cells 254)=w1 at *;have md:Ab No w1 (Af w1):=(Ab.refl No w1).drew;refine⟨_,(a1.keep md id).at.loadAgg (i:=0) Ee (by rw[JE];omega),yM ((h.nos m1).nos md) hn fun w2 a c m2 o2=>⟨_,_,_,rfl,(a1.keep (md.no m2) id).at.loadAgg (i:=0) Ee (by rw[JE];omega),?_⟩⟩
 refine Zn o2 (by simp) (by omega) fun w3 m3=>⟨_,rfl,?_⟩
 have:=hk w3 (((m1.no md).no m2).no m3)
 rw[List.any_map];exact this
end
def Sb(R R':Nat->Prop)(w:World):Prop:=∀ z,R' z->R z\/w.heap.size<=z
theorem Sb.refl(R:Nat->Prop)(w:World):Sb R R w:=fun _ h=>.inl h
theorem Sb.trans{R R' R'':Nat->Prop}{w w':World}(h:Sb R R' w)(k:Sb R' R'' w')(hz:w.heap.size<=w'.heap.size):Sb R R'' w:=fun z hx=>by
 rcases k z hx with h1|h1
 ·exact h z h1
 ·exact .inr (by omega)
theorem Sb.gro{R:Nat->Prop}{w w1:World}:Sb R (D9 R w w1) w:=fun _ h=>by
 rcases h with h|h
 ·exact .inl h
 ·exact .inr (by omega)
theorem Sb.up{R R':Nat->Prop}{w w':World}(k:Sb R R' w')(hz:w.heap.size<=w'.heap.size):Sb R R' w:=fun z h=>(k z h).imp id fun e=>by omega
theorem Ab.sb{R R':Nat->Prop}{a b c:World}(h:Ab R a b)(s:Sb R R' a)(k:Ab R' b c):Ab R a c:=h.trans k fun x hx e=>(s x e).resolve_right (by omega)
theorem Pz.dlo{w0 w:World}{R:Nat->Prop}{sp d:Nat}{V:Ps}(h:Pz w0 R w sp d V):w0.heap.size<=d:=by
 obtain⟨C,_,_,_,rl,c,mo,mm,ca,oa,Lo,Lm,h⟩:=h;have hl:=h.lo d;obtain⟨rl2,m,sb,mb,sc,lc,la,L,mp,hC⟩:=h.cx;have e4:rl2 d=4:=hC.disk.rb;have e1:rl d=1:=hC.reg d (by omega);exact(hl (h.reg d (by omega))).1
structure VuS(w0:World)(Rs Rw:Nat->Prop)(w:World)(v d sp wk:Nat)(s:Sp)(V:Ps)(W:List Wt)(nx:Int):Prop where
 st:Pz w0 Rs w sp d V
 cell:Av w v 0 (vV s sp wk nx)
 wrk:Wk 242 (fun x=>x<w.heap.size/\¬ Rw x) w wk W
 dj:∀ z,Rs z->¬ Rw z
 nv:¬ Rs v/\¬ Rw v
 lo:∀ z,Rw z\/z=v->d<=z/\z<w.heap.size
def Vu(R:Nat->Prop)(w:World)(v d:Nat)(s:Sp)(V:Ps)(W:List Wt)(nx:Int):Prop :=
 ∃ w0 Rs Rw sp wk,VuS w0 Rs Rw w v d sp wk s V W nx/\(∀ z,Rs z\/Rw z\/z=v->R z)/\∀ z,R z->z<w.heap.size
section
variable{w0 w w':World}{R R':Nat->Prop}{v d:Nat}{s:Sp}{V:Ps}{W:List Wt}{nx:Int}{K:Value->World->Prop}
theorem Vu.lt(h:Vu R w v d s V W nx):∀ z,R z->z<w.heap.size:=by obtain⟨_,_,_,_,_,_,_,h⟩:=h;exact h
theorem Vu.vIn(h:Vu R w v d s V W nx):R v:=by obtain⟨_,_,_,_,_,_,h,_⟩:=h;exact h v (.inr (.inr rfl))
theorem Vu.wf(h:Vu R w v d s V W nx):Mb V/\WF V.C.D:=by obtain⟨_,_,_,_,_,h,_⟩:=h;exact⟨h.st.wf.1,h.st.wf.2.2.2.2⟩
theorem Vu.dlo(h:Vu R w v d s V W nx):d<=v:=by obtain⟨_,_,_,_,_,h,_⟩:=h;exact(h.lo v (.inr rfl)).1
theorem Vu.keep{S:Nat->Prop}(h:Vu R w v d s V W nx)(m:Ab S w w')(hS:∀ z,R z->¬ S z)(hd:∀ z,S z->d<=z):Vu R w' v d s V W nx:=by
 obtain⟨w0,Rs,Rw,sp,wk,h,h1,h2⟩:=h;have hz:=m.size;have hd0:=h.st.dlo;have hrw:∀ x,x<w.heap.size->Rw x->¬ S x:=fun x _ e=>hS x (h1 x (.inr (.inl e)));refine⟨w0,Rs,Rw,sp,wk,⟨h.st.keep m (fun x hx=>hS x (h1 x (.inl hx))) fun x hx e=>by have:=hd x e;omega,h.cell.keep m (hS v (h1 v (.inr (.inr rfl)))),?_,h.dj,h.nv,fun z hz=>?_⟩,h1,fun z hz=>?_⟩
 ·refine h.wrk.keep (S:=fun x=>S x/\x<w.heap.size) (m.mono fun x hx e=>⟨e,hx⟩) (fun x e=>⟨e.2,fun r=>hrw x e.2 r e.1⟩) fun x hx e=>⟨hx,e.2⟩
 ·have:=h.lo z hz
  omega
 ·have:=h2 z hz
  omega
theorem Vu.nos(h:Vu R w v d s V W nx)(m:Ab No w w'):Vu R w' v d s V W nx:=h.keep m (fun _ _ e=>e) fun _ e=>e.elim
theorem Vu.op(h:Vu R w v d s V W nx):∃(w0:World)(Rs Z:Nat->Prop)(sp wk:Nat),Pz w0 Rs w sp d V/\Wk 242 Z w wk W/\(∀ x,Z x->x<w.heap.size)/\Av w v 0 (vV s sp wk nx)/\(∀ z,Rs z->R z) /\
  (∀ w1 w' V',Ab Rs w w1->Ab No w1 w'->Pz w0 (D9 Rs w w1) w' sp d V'->Ab R w w'/\Vu (D9 R w w1) w' v d s V' W nx) /\
  (∀ w' (Z':Nat->Prop) W',Ab (fun z=>z=wk) w w'->(∀ x,Z x->Z' x)->Wk 242 Z' w' wk W'->Ab R w w'/\Vu (fun z=>R z\/(w.heap.size<=z/\z<w'.heap.size/\¬ Z' z)) w' v d s V W' nx):=by
 obtain⟨w0,Rs,Rw,sp,wk,h,h1,h2⟩:=h;have hd0:=h.st.dlo;have hlo:=h.st.lo;have hw:=h.wrk;have hRwk:Rw wk:=by
  obtain⟨la,lc,hw⟩:=hw;exact Lh3 fun e=>hw.nz ⟨hw.cell.lt,e⟩
 refine⟨w0,Rs,_,sp,wk,h.st,h.wrk,fun x e=>e.1,h.cell,fun z hz=>h1 z (.inl hz),fun w1 w' V' m1 m2 hP=>?_,fun w' Z' W' m hZ hW=>?_⟩
 ·have m:=m1.no m2;have z1:=m1.size;have z2:=m2.size;refine⟨m.mono fun x _ e=>h1 x (.inl e),w0,D9 Rs w w1,Rw,sp,wk,⟨hP,h.cell.keep m h.nv.1,?_,fun z hz e=>?_,⟨fun e=>?_,h.nv.2⟩,fun z hz=>?_⟩,fun z hz=>?_,fun z hz=>?_⟩
  ·refine h.wrk.keep m (fun x e=>⟨(hlo x e).2,h.dj x e⟩) fun x hx e=>⟨hx,e.2⟩
  ·rcases hz with hz|hz
   ·exact h.dj z hz e
   ·have:=(h.lo z (.inl e)).2;omega
  ·rcases e with e|e
   ·exact h.nv.1 e
   ·have:=(h.lo v (.inr rfl)).2;omega
  ·have:=h.lo z hz;omega
  ·rcases hz with (hz|hz)|hz
   ·exact .inl (h1 z (.inl hz))
   ·exact .inr hz
   ·exact .inl (h1 z (.inr hz))
  ·rcases hz with hz|hz
   ·have:=h2 z hz;omega
   ·omega
 ·have z1:=m.size;have hwkl:=(h.lo wk (.inl hRwk)).2;have e1:¬ v=wk:=fun e=>h.nv.2 (e ▸ hRwk);refine⟨m.mono fun x _ e=>by have e:x=wk:=e;rw[e];exact h1 wk (.inr (.inl hRwk)),w0,Rs,fun z=>Rw z\/(w.heap.size<=z/\z<w'.heap.size/\¬ Z' z),sp,wk,⟨h.st.keep m (fun x hx e=>?_) (fun x hx e=>?_),h.cell.keep m e1,?_,fun z hz e=>?_,⟨h.nv.1,fun e=>?_⟩,fun z hz=>?_⟩,fun z hz=>?_,fun z hz=>?_⟩
  ·have e:x=wk:=e;rw[e]at hx;exact h.dj wk hx hRwk
  ·have e:x=wk:=e
   have:=(h.lo wk (.inl hRwk)).1;omega
  ·refine hW.keep (S:=No) (Ab.refl _ _) (fun _ e=>e.elim) fun x hx e=>?_;by_cases hx2:x<w.heap.size
   ·exact hZ x ⟨hx2,fun r=>e.2 (.inl r)⟩
   ·exact Lh3 fun r=>e.2 (.inr ⟨by omega,hx,r⟩)
  ·rcases e with e|e
   ·exact h.dj z hz e
   ·have:=(hlo z hz).2;omega
  ·rcases e with e|e
   ·exact h.nv.2 e
   ·have:=(h.lo v (.inr rfl)).2;omega
  ·rcases hz with (hz|hz)|hz
   ·have:=h.lo z (.inl hz);omega
   ·have:=(h.lo wk (.inl hRwk)).1;omega
   ·have:=h.lo z (.inr hz);omega
  ·rcases hz with hz|(hz|hz)|hz
   ·exact .inl (h1 z (.inl hz))
   ·exact .inl (h1 z (.inr (.inl hz)))
   ·exact .inr hz
   ·exact .inl (h1 z (.inr (.inr hz)))
  ·rcases hz with hz|hz
   ·have:=h2 z hz;omega
   ·omega
theorem Vu.at(h:Vu R w v d s V W nx):∃ sp wk,Av w v 0 (vV s sp wk nx):=by obtain⟨_,_,_,sp,wk,h,_⟩:=h;exact⟨sp,wk,h.cell⟩
theorem Vu.geo(h:Vu R w v d s V W nx):Ru (Instr.loadAt 83 (.pointer (some (Addr.add (Addr.add ⟨v,0,none⟩ 0) 1)))) w (.agg ⟨gV s.geo⟩) w:=by
 obtain⟨sp,wk,h⟩:=h.at;exact Aa5 h.at A5 (by show 4<=7;omega) rfl
theorem AdE(h:Vu R w v d s V W nx)(hk:∀ w',Ab No w w'->K (.agg ⟨gV s.geo⟩) w'):A7 Yt AR #[Yo v] w K:=by
 apply Wl;unfold OK;obtain⟨w1,b1,b2,b3,b4⟩:=Aw (P:=Yt) (w:=w) (T:=83) ND;obtain⟨w2,c1,c2,c3,c4⟩:=b2.put (T:=83) (vs:=gV s.geo) A5 rfl rfl (Vy _);exact⟨_,w1,b1,ff rfl ⟨_,rfl,_,(h.nos b3).geo,w2,c1,_,c2.at.all A5 rfl,hk w2 (b3.own c3 (Le _))⟩⟩
theorem AbK{k:Int}(h:Vu R w v d s V W nx)(hk:∀ w',Ab No w w'->K (.tuple #[Yn (Bn s.geo k).1,Yn (Bn s.geo k).2]) w'):A7 Yt Ed #[Yo v,Yn k] w K:=by
 apply Mz;unfold ID;exact ff rfl ⟨_,rfl,_,h.geo,GE fun w' m=>⟨_,_,rfl,hk w' m⟩⟩
theorem Vu.rd(h:Vu R w v d s V W nx){n:Int}(h0:0<=n)(h1:n<V.C.D.vs.length)
  (hk:∀ w' R' g cc,Ab R w w'->Sb R R' w->Vu R' w' v d s V W nx->w.heap.size<=g->¬ R' g->Av w' g 0 (A6 (A3 V n.toNat))->(A3 V n.toNat).length=256->256<=cc->K (.tuple #[.slice (some ⟨g,0,none⟩) 256 cc,Yn 0]) w') :
  ∃ p:Option Addr,Ru (Instr.loadAt 128 (.pointer (some (Addr.add ⟨v,0,none⟩ 4)))) w (.pointer p) w/\A7 Yt Bd #[.pointer p,Yn n] w K:=by
 have hwf:=h.wf;have hlt:=h.lt;obtain⟨w0,Rs,Z,sp,wk,a1,a2,a3,a4,a5,a6,a7⟩:=h.op;refine⟨_,a4.at.fld KK rfl,?_⟩;obtain⟨b,rfl⟩:=dG h0;have hb:b<V.C.D.vs.length:=by omega
 refine bE a1 rfl hb fun w1 w' g cc m1 m2 hP hg hat hcc=>?_;obtain⟨M,hV⟩:=a6 w1 w' V m1 m2 hP;have z1:=m1.size;refine hk w' _ g cc M Sb.gro hV (by omega) (fun e=>?_) hat (QV hwf.1 hwf.2 hb) hcc;rcases e with e | e
 ·have:=hlt g e;omega
 ·omega
def TL(g:Gm)(hs:List Hd)(k:Int):Hd×Int:=if (Bn g k).2≠0 then(hZ,(Bn g k).2)else(hs.getD k.toNat hZ,0)
theorem sI{g:Gm}{k:Int}(h:(Bn g k).2=0):Df g=true/\0<=k/\k<g.gs/\(Bn g k).1=2+k*g.gr:=by
 unfold Bn at h |-
 split at h
 ·rename_i hg
  split at h
  ·rename_i hk;rw[if_pos hg,if_pos hk];exact⟨hg,hk.1,hk.2,rfl⟩
  ·cases h
 ·cases h
variable{hs:List Hd}
theorem B2.get(h:B2 V s.geo hs){k:Int}(h0:0<=k)(h1:k<s.geo.gs):∃ x,hs[k.toNat]?=some x/\A3 V (2+k*s.geo.gr).toNat=H9 s.geo x/\Mg s.geo x=true/\x.no=k/\FD x:=by
 have hl:=h.2.2.1;have hlt:k.toNat<hs.length:=by omega
 refine⟨hs[k.toNat],by simp[hlt],?_⟩
 have:=h.2.2.2 k.toNat hs[k.toNat] (by simp[hlt])
 rw[show((k.toNat:Nat):Int)=k by omega]at this;exact this
theorem AaL{k:Int}(h:Vu R w v d s V W nx)(hH:B2 V s.geo hs)
  (hk:∀ w' R',Ab R w w'->Sb R R' w->Vu R' w' v d s V W nx->FD (TL s.geo hs k).1->(k<0\/s.geo.gs<=k->Ab No w w')->K (.tuple #[.agg ⟨hV (TL s.geo hs k).1⟩,Yn (TL s.geo hs k).2]) w'):A7 Yt Be #[Yo v,Yn k] w K:=by
 apply My;unfold IB;obtain⟨w1,b1,b2,b3,b4⟩:=Aw (P:=Yt) (w:=w) (T:=171) Bh;have hdv:=h.dlo;have hvl:=h.lt v h.vIn;have h1:=h.nos b3;refine⟨_,w1,b1,AbK h1 fun w2 m2=>⟨_,_,rfl,?_⟩⟩;have h2:=h1.nos m2;have m02:=b3.no m2;rw[DN];refine Aa (fun he=>⟨_,Di,?_⟩) (fun he=>?_)
 ·have he:=Ld he;obtain⟨w3,c1,c2,c3,c4⟩:=(b2.keep m2 id).put (T:=171) (vs:=hV hZ) Aq rfl (Ap CW) (Co _);refine⟨w3,c1,_,c2.at.all Aq (Ap CW),?_⟩;have e:TL s.geo hs k=(hZ,(Bn s.geo k).2):=by unfold TL;rw[if_pos he]
  rw[e]at hk;have m3:Ab No w w3:=m02.own c3 (Le _);exact hk w3 R (m3.mono fun _ _ e=>e.elim) (Sb.refl _ _) (h.nos m3) CW fun _=>m3
 have he:=VU.1 (Lc he);obtain⟨hg,k0,k1,kb⟩:=sI he;obtain⟨x,hx,hx1,hx2,hx3,hx4⟩:=hH.get k0 k1;have e:TL s.geo hs k=(x,0):=by unfold TL;rw[if_neg (by rw[he];decide),Lp,hx];rfl
 rw[e]at hk;have hin:=Va (g:=s.geo) (k:=k) (b:=(Bn s.geo k).1) (by rw[<- he]);have hsz:=hH.2.1;refine⟨_,rfl,?_⟩;have hs1:=b3.size;have hs2:=m2.size;refine h2.rd hin.1 (by omega) fun w4 R4 g cc m4 s4 h4 hg1 hg2 hat hl hcc=>⟨_,_,_,_,rfl,ff rfl ⟨_,rfl,_,h4.geo,?_⟩⟩;rw[kb,hx1]at hat hl;have q2:=(b2.keep m2 id).keep m4 (fun e=>by have:=h.lt _ e;omega);refine Xd hl hcc (.inr ⟨_,_,rfl,hat.at⟩) (by omega) fun w6 m6=>⟨_,_,rfl,?_⟩
 rw[WZ hx4 hx2];obtain⟨w7,c1,c2,c3,c4⟩:=(q2.keep m6 id).put (T:=171) (vs:=hV x) Aq rfl (Ap hx4) (Co _);have hnR:¬ R4 w.heap.size:=fun e=>by
  rcases s4 _ e with e|e
  ·have:=h.lt _ e;omega
  ·have:=b2.lt;omega
 have M6:Ab R w w6:=((m02.mono fun _ _ e=>e.elim).trans m4 fun x _ e=>e).no m6;refine⟨w7,c1,_,c2.at.all Aq (Ap hx4),?_⟩;refine hk w7 R4 (M6.trans c3 fun x hx e=>by have e:x=w.heap.size:=e;omega) (s4.up (by omega)) ((h4.nos m6).keep c3 (fun z hz e=>by have e:z=w.heap.size:=e;rw[e]at hz;exact hnR hz) fun z e=>by have e:z=w.heap.size:=e;omega) hx4 fun hbad=>by omega
theorem AdF{k:Int}{x:Hd}(h:Vu R w v d s V W nx)(hH:B2 V s.geo hs)(k0:0<=k)(k1:k<s.geo.gs)(hw:FD x)(ho:Mg s.geo x=true)(hn:x.no=k)(hlast:V.last+1<=1000000)
  (hk:∀ w' R',Ab R w w'->Sb R R' w->Vu R' w' v d s (OX V s.geo k.toNat x) W nx->B2 (OX V s.geo k.toNat x) s.geo (hs.set k.toNat x)->(OX V s.geo k.toNat x).last=V.last+1->K (.tuple #[Yn ((V.last:Int)+1),Yn 0]) w') :
  A7 Yt CD #[Yo v,Yn k,.agg ⟨hV x⟩,.slice none 0 0] w K:=by
 apply Q6;unfold Jz;obtain⟨j,rfl⟩:=dG k0;obtain⟨w1,b1,b2,b3,b4⟩:=AB (P:=Yt) (w:=w) (T:=171) (cs:=hV x);have hg:=hH.1;obtain⟨p1,p2,p3⟩:=Nk hg k1;refine⟨_,w1,b1,AbK (h.nos b3) fun w2 m2=>⟨_,_,rfl,?_⟩⟩;rw[p1];have m02:=(b3.no m2).drew;have h2:=h.nos m02;have q2:Av (Go.Den.Af w2) w.heap.size 0 (hV x):=(b2.keep m2 id).drew;refine ff rfl ⟨_,rfl,_,h2.geo,_,q2.at.all Aq (Ap hw),fE hw (fun e=>by rw[ho]at e;cases e) fun _ w3 q m3 hq hat=>⟨_,_,_,_,rfl,?_⟩⟩
 have q3:=q2.keep m3 id;refine Ad.cut (fun z w4=>w4=w3/\z=[.bool false]) (ff rfl ⟨_,q3.at.fld Ah rfl,rfl,?_⟩) ?_
 ·rw[hn,DN,Lh (by simp)]
 rintro z w4 ⟨rfl,rfl⟩;have m04:=(m02.no m3).drew;have h4:=h.nos m04;have hlt:=h.lt;obtain⟨w0,Rs,Z,sp,wk,a1,a2,a3,a4,a5,a6,a7⟩:=h4.op;refine⟨_,rfl,ff rfl ⟨_,rfl,_,a4.at.fld KK rfl,_,_,_,NX Aj (by omega) (by omega),?_⟩⟩;have hE:=gC (V:=V) hH k1 hw;have hN:PS V (2+(j:Int)*s.geo.gr) 0 (Rz s.geo x) []=(V.last:Int)+1:=by unfold PS;rw[if_pos hE];omega
 have hz4:=m04.size
 have hR:BG (Go.Den.Af w4) (some ⟨q,0,none⟩) (A6 (Rz s.geo x)):=.inr ⟨q,0,rfl,by
  have:=hat.at.drew.sub (i:=0) (m:=64) (by rw[Ai,KC hw];omega)
  rw[VW,<- VO]at this;exact this⟩
 refine V6 (data:=Rz s.geo x) (after:=[]) a1 hlast (S0 hw) hR (fun _ q' e=>by
  cases e;intro e;have h1:=hlt q (a5 q e)
  have:=m02.size
  omega) (by omega) rfl (by omega) (.inl rfl) (fun e=>absurd rfl e) fun w5 m5 hP=>⟨_,_,rfl,?_⟩
 rw[hE,hN];obtain⟨M,hV⟩:=a6 w5 w5 _ m5 (Ab.refl _ _) hP;refine hk w5 _ ((m04.mono fun _ _ e=>e.elim).trans M fun x _ e=>e) (Sb.gro.up hz4) hV (hH.set k1 hw ho hn) (FA hE)
end
def AT(g:Gm)(b:Int):Int×Int :=
 if b<0\/Bb g<=b then(0,-1)else if b<2 then(1,-1)else if (b-2) % g.gr=0 then(2,(b-2) / g.gr)else if (b-2) % g.gr<=AV g then(3,(b-2) / g.gr)else(4,(b-2) / g.gr)
def mU(g:Gm)(n:Int):Int:=if n<0\/AZ g<=n then -1 else n / g.no
theorem aB{g:Gm}{b:Int}(h:0<=b)(h1:b<Bb g):Df g=true/\b<2+g.gs*g.gr:=by
 unfold Bb at h1
 split at h1
 ·rename_i h2;exact⟨h2,h1⟩
 ·omega
theorem WW{g:Gm}{b:Int}(h:0<=b)(h1:b<AZ g):Df g=true/\b<g.gs*g.no:=by
 unfold AZ at h1
 split at h1
 ·rename_i h2;exact⟨h2,h1⟩
 ·omega
section
variable{w:World}{K:Value->World->Prop}
theorem WX{g:Gm}{b:Int}(hk:∀ w',Ab No w w'->K (.tuple #[Yn (AT g b).1,Yn (AT g b).2]) w'):A7 Yt KX #[.agg ⟨gV g⟩,Yn b] w K:=by
 apply cU;unfold Uv;obtain⟨w1,a1,a2,a3,a4⟩:=AB (P:=Yt) (w:=w) (T:=83) (cs:=gV g);refine⟨_,w1,a1,Ad.cut (fun z w3=>Ab No w1 w3/\z=[.bool (decide (b<0\/Bb g<=b))]) (Aa (fun h=>⟨Ab.refl _ _,?_⟩) (fun h=>⟨_,a2.at.all A5 rfl,So fun w2 m2=>⟨_,rfl,m2,?_⟩⟩)) ?_⟩
 ·rw[Li (show b<0\/Bb g<=b from .inl (Ld h))]
 ·have h:=Lc h
  congr 2
  exact qF.2 ⟨.inr,fun e=>e.resolve_left h⟩
 rintro z w3 ⟨m3,rfl⟩;have M:=a3.no m3;have hq:=a2.at.keep m3 id;refine⟨_,rfl,Aa (fun h=>?_) (fun h=>Aa (fun h2=>?_) (fun h2=>?_))⟩
 ·have e:AT g b=(0,-1):=by unfold AT;rw[if_pos (Ld h)]
  rw[e]at hk;exact hk _ M
 ·have e:AT g b=(1,-1):=by unfold AT;rw[if_neg (Lc h),if_pos (Ld h2)]
  rw[e]at hk;exact hk _ M
 have h:=Lc h;have h2:=Lc h2;obtain⟨hg,hb⟩:=aB (g:=g) (b:=b) (by omega) (by omega);obtain⟨g1,g2,g3,g4,_⟩:=Ax.1 hg;have hp:=OV (a:=g.gs) (b:=g.gr) (m:=16) (n:=128) (by omega) (by omega) (by omega) (by omega);rw[Ag (x:=b-2) (by omega) (by omega)];refine⟨_,hq.drew.fld Ah rfl,_,Ac2 (by omega) (by omega) (by omega),_,hq.drew.fld Ah rfl,_,zQ (by omega) (by omega) (by omega),?_⟩
 rw[Fm];refine Aa (fun h3=>?_) (fun h3=>⟨_,hq.drew.all A5 rfl,NS fun w4 m4=>⟨_,rfl,Aa (fun h4=>?_) (fun h4=>?_)⟩⟩)
 ·have e:AT g b=(2,(b-2) / g.gr):=by unfold AT;rw[if_neg h,if_neg h2,if_pos (Ld h3)]
  rw[e]at hk;exact hk _ M.drew
 ·have e:AT g b=(3,(b-2) / g.gr):=by unfold AT;rw[if_neg h,if_neg h2,if_neg (Lc h3),if_pos (Ld h4)]
  rw[e]at hk;exact hk _ (M.drew.no m4)
 ·have e:AT g b=(4,(b-2) / g.gr):=by unfold AT;rw[if_neg h,if_neg h2,if_neg (Lc h3),if_neg (Lc h4)]
  rw[e]at hk;exact hk _ (M.drew.no m4)
theorem yF{g:Gm}{n:Int}(h63:n<=9223372036854775807)(hk:∀ w',Ab No w w'->K (Yn (mU g n)) w'):A7 Yt U7 #[.agg ⟨gV g⟩,Yn n] w K:=by
 apply pR;unfold Zo;obtain⟨w1,a1,a2,a3,a4⟩:=AB (P:=Yt) (w:=w) (T:=83) (cs:=gV g);refine⟨_,w1,a1,Ad.cut (fun z w3=>Ab No w1 w3/\z=[.bool (decide (n<0\/AZ g<=n))]) (Aa (fun h=>⟨Ab.refl _ _,?_⟩) (fun h=>⟨_,a2.at.all A5 rfl,PL fun w2 m2=>⟨_,rfl,m2,?_⟩⟩)) ?_⟩
 ·rw[Li (show n<0\/AZ g<=n from .inl (Ld h))]
 ·have h:=Lc h
  congr 2
  exact qF.2 ⟨.inr,fun e=>e.resolve_left h⟩
 rintro z w3 ⟨m3,rfl⟩;have M:=a3.no m3;have hq:=a2.at.keep m3 id;refine⟨_,rfl,Aa (fun h=>?_) (fun h=>?_)⟩
 ·have e:mU g n=-1:=by unfold mU;rw[if_pos (Ld h)]
  rw[e]at hk;exact hk _ M
 have h:=Lc h;obtain⟨hg,hb⟩:=WW (g:=g) (b:=n) (by omega) (by omega);obtain⟨_,_,_,_,g5,g6,_⟩:=Ax.1 hg;have e:mU g n=n / g.no:=by unfold mU;rw[if_neg h]
 rw[e]at hk;exact⟨_,hq.fld Ah rfl,_,Ac2 (by omega) (by omega) h63,hk _ M⟩
theorem yE{g:Gm}{k:Int}:0<=(Bn g k).1/\(Bn g k).1<=4096:=by
 unfold Bn;split
 ·rename_i hg;obtain⟨g1,g2,g3,g4,_⟩:=Ax.1 hg;split
  ·have hp:=OV (a:=k) (b:=g.gr) (m:=16) (n:=128) (by omega) (by omega) (by omega) (by omega);show 0<=2+k*g.gr/\2+k*g.gr<=4096;omega
  ·exact⟨qD 0,by decide⟩
 ·exact⟨qD 0,by decide⟩
end
structure Az where
 s:Sp
 V:Ps
 W:List Wt
 nx:Int
 hs:List Hd
 fz:Int->Bool
def Ao(R:Nat->Prop)(w:World)(a v d:Nat)(A:Az):Prop :=
 ∃ Rv fm L,Vu Rv w v d A.s A.V A.W A.nx/\Av w a 0 [Yo v,.map (some fm)]/\AU w fm L/\(∀ k,(Ay L k).getD (.bool false)=.bool (A.fz k))/\(¬ Rv a/\¬ Rv fm/\a≠fm/\d<=a/\d<=fm)/\(∀ z,Rv z\/z=a\/z=fm->R z)/\(∀ z,R z->z<w.heap.size)/\B2 A.V A.s.geo A.hs
theorem AfB:O6 Yt 122=some (.bool false):=by kernel_rfl
theorem YG:Cw Yt 34=true:=by kernel_rfl
theorem AfK:Cw Yt 122=true:=by kernel_rfl
section
variable{w w':World}{R R':Nat->Prop}{a v d:Nat}{A:Az}{K:Value->World->Prop}
theorem Ao.lt(h:Ao R w a v d A):∀ z,R z->z<w.heap.size:=by obtain⟨_,_,_,_,_,_,_,_,_,h,_⟩:=h;exact h
theorem Ao.hd(h:Ao R w a v d A):B2 A.V A.s.geo A.hs:=by obtain⟨_,_,_,_,_,_,_,_,_,_,h⟩:=h;exact h
theorem Ao.ok(h:Ao R w a v d A):Df A.s.geo=true:=h.hd.1
theorem Ao.at(h:Ao R w a v d A):∃ fm,Av w a 0 [Yo v,.map (some fm)]:=by obtain⟨_,fm,_,_,h,_⟩:=h;exact⟨fm,h⟩
theorem Ao.dlt(h:Ao R w a v d A):d<=a/\a<w.heap.size/\R a:=by obtain⟨_,fm,_,_,h,_,_,h2,h3,h4,_⟩:=h;exact⟨h2.2.2.2.1,h4 a (h3 a (.inr (.inl rfl))),h3 a (.inr (.inl rfl))⟩
theorem Ao.wf(h:Ao R w a v d A):Mb A.V/\WF A.V.C.D:=by obtain⟨_,_,_,h,_⟩:=h;exact h.wf
theorem Ao.pv(h:Ao R w a v d A):Ru (Instr.loadAt 34 (.pointer (some (Addr.add ⟨a,0,none⟩ 0)))) w (Yo v) w:=by
 obtain⟨fm,h⟩:=h.at;exact h.at.fld YG rfl
theorem Ao.keep{S:Nat->Prop}(h:Ao R w a v d A)(m:Ab S w w')(hS:∀ z,R z->¬ S z)(hd:∀ z,S z->d<=z):Ao R w' a v d A:=by
 obtain⟨Rv,fm,L,h1,h2,h3,h4,h5,h6,h7,h8⟩:=h;exact⟨Rv,fm,L,h1.keep m (fun z hz=>hS z (h6 z (.inl hz))) hd,h2.keep m (hS a (h6 a (.inr (.inl rfl)))),h3.keep m (hS fm (h6 fm (.inr (.inr rfl)))),h4,h5,h6,fun z hz=>pF (h7 z hz) m.size,h8⟩
theorem Ao.nos(h:Ao R w a v d A)(m:Ab No w w'):Ao R w' a v d A:=h.keep m (fun _ _ e=>e) fun _ e=>e.elim
theorem Ao.own{q:Nat}(h:Ao R w a v d A)(m:Ab (fun x=>x=q) w w')(hq:¬ R q)(h0:d<=q):Ao R w' a v d A :=
 h.keep m (fun z hz e=>by have e:z=q:=e;rw[e]at hz;exact hq hz) fun z e=>by have e:z=q:=e;omega
theorem Ao.vol(h:Ao R w a v d A):∃ Rv,Vu Rv w v d A.s A.V A.W A.nx/\(∀ z,Rv z->R z)/\∀(w':World)(Rv':Nat->Prop)(V':Ps)(W':List Wt)(nx':Int)(hs':List Hd),Ab Rv w w'->Sb Rv Rv' w->Vu Rv' w' v d A.s V' W' nx'->B2 V' A.s.geo hs' ->
  Ab R w w'/\Sb R (fun z=>R z\/Rv' z) w/\Ao (fun z=>R z\/Rv' z) w' a v d ⟨A.s,V',W',nx',hs',A.fz⟩:=by
 obtain⟨Rv,fm,L,h1,h2,h3,h4,h5,h6,h7,h8⟩:=h;refine⟨Rv,h1,fun z hz=>h6 z (.inl hz),fun w' Rv' V' W' nx' hs' m sb hv hh=>⟨m.mono fun x _ e=>h6 x (.inl e),fun z hz=>?_,Rv',fm,L,hv,h2.keep m h5.1,h3.keep m h5.2.1,h4,⟨fun e=>?_,fun e=>?_,h5.2.2⟩,fun z hz=>?_,fun z hz=>?_,hh⟩⟩
 ·rcases hz with hz|hz
  ·exact .inl hz
  ·exact(sb z hz).imp (fun e=>h6 z (.inl e)) id
 ·rcases sb a e with e|e
  ·exact h5.1 e
  ·have:=h2.lt;omega
 ·rcases sb fm e with e|e
  ·exact h5.2.1 e
  ·have:=h3.lt;omega
 ·rcases hz with hz|hz
  ·exact .inr hz
  ·exact .inl (h6 z (.inr hz))
 ·rcases hz with hz|hz
  ·have:=h7 z hz;have:=m.size;omega
  ·exact hv.lt z hz
theorem JZ(h:Ao R w a v d A)(hk:∀ w',Ab No w w'->K (.agg ⟨gV A.s.geo⟩) w'):A7 Yt AR #[Yo v] w K:=by
 obtain⟨Rv,hv,_⟩:=h.vol;exact AdE hv hk
theorem NI{k:Int}(h:Ao R w a v d A)
  (hk:∀ w' R',Ab R w w'->Sb R R' w->Ao R' w' a v d A->FD (TL A.s.geo A.hs k).1->K (.tuple #[.agg ⟨hV (TL A.s.geo A.hs k).1⟩,Yn (TL A.s.geo A.hs k).2]) w'):A7 Yt Be #[Yo v,Yn k] w K:=by
 obtain⟨Rv,hv,_,hc⟩:=h.vol;refine AaL hv h.hd fun w' R' m sb hv' hw _=>?_;obtain⟨x1,x2,x3⟩:=hc w' R' A.V A.W A.nx A.hs m sb hv' h.hd;exact hk w' _ x1 x2 x3 hw
def EL(A:Az)(k:Nat)(x:Hd):Az:=⟨A.s,OX A.V A.s.geo k x,A.W,A.nx,A.hs.set k x,A.fz⟩
theorem Ab2{k:Int}{x:Hd}(h:Ao R w a v d A)(k0:0<=k)(k1:k<A.s.geo.gs)(hw:FD x)(ho:Mg A.s.geo x=true)(hn:x.no=k)(hlast:A.V.last+1<=1000000)
  (hk:∀ w' R',Ab R w w'->Sb R R' w->Ao R' w' a v d (EL A k.toNat x)->(EL A k.toNat x).V.last=A.V.last+1->K (.tuple #[Yn ((A.V.last:Int)+1),Yn 0]) w') :
  A7 Yt CD #[Yo v,Yn k,.agg ⟨hV x⟩,.slice none 0 0] w K:=by
 obtain⟨Rv,hv,_,hc⟩:=h.vol;refine AdF hv h.hd k0 k1 hw ho hn hlast fun w' R' m sb hv' hh hl=>?_;obtain⟨x1,x2,x3⟩:=hc w' R' _ A.W A.nx _ m sb hv' hh;exact hk w' _ x1 x2 x3 hl
def N0(g:Gm)(b:Int):Int×Int×Bool:=if (AT g b).1≠4 then(0,0,false)else((AT g b).2,b-(Bn g (AT g b).2).1,true)
def OA(g:Gm)(n:Int):Int×Int×Bool:=if mU g n<0 then(0,0,false)else(mU g n,n % g.no,true)
def pV(x:Int×Int):List Value:=[Yn x.1,Yn x.2]
theorem IN(x:Int×Int):∀ u∈pV x,u.oneCell'=true:=by intro u hu;simp[pV]at hu;rcases hu with rfl | rfl<;>rfl
theorem Bi:D5 Yt 112=some 2:=by kernel_rfl
theorem Ii:Hs Yt 112=some (pV (0,0)):=by kernel_rfl
theorem WO(g:Gm):Al (Instr.field 83 (.agg ⟨gV g⟩) 1) (Yn g.no):=fun w=>by kernel_rfl
theorem mM(g:Gm):Al (Instr.field 83 (.agg ⟨gV g⟩) 2) (Yn g.gs):=fun w=>by kernel_rfl
theorem JG:Al (Instr.build 112 #[]) (.agg ⟨pV (0,0)⟩):=fun w=>by kernel_rfl
theorem L9(x y:Int):Al (Instr.build 112 #[(0,Yn x),(1,Yn y)]) (.agg ⟨pV (x,y)⟩):=fun w=>by kernel_rfl
theorem Gh{g:Gm}{b:Int}(h:(AT g b).1=4):Df g=true/\2<=b/\b<Bb g/\0<=(AT g b).2/\(AT g b).2<g.gs/\1+AV g<=b-(2+(AT g b).2*g.gr)/\b-(2+(AT g b).2*g.gr)<g.gr:=by
 unfold AT at h |-
 split at h
 ·cases h
 rename_i h1
 split at h
 ·cases h
 rename_i h2
 split at h
 ·cases h
 rename_i h3
 split at h
 ·cases h
 rename_i h4;rw[if_neg h1,if_neg h2,if_neg h3,if_neg h4];obtain⟨hg,hb⟩:=aB (g:=g) (b:=b) (by omega) (by omega);obtain⟨g1,g2,g3,g4,_⟩:=Ax.1 hg;have hd:=Int.mul_ediv_add_emod (b-2) g.gr;have hm:=Ly4 (b-2) (show g.gr≠0 by omega);have hl:=Int.emod_lt_of_pos (b-2) (show 0<g.gr by omega);have hq:0<=(b-2) / g.gr:=Int.ediv_nonneg (by omega) (by omega);have hq2:(b-2) / g.gr<g.gs:=Int.ediv_lt_of_lt_mul (by omega) (by rw[Lm5]at *;omega)
 rw[Lm5]at hd;refine⟨hg,by omega,by omega,hq,hq2,?_,?_⟩
 ·show 1+AV g<=b-(2+(b-2) / g.gr*g.gr);omega
 ·show b-(2+(b-2) / g.gr*g.gr)<g.gr;omega
theorem Ab0{b:Int}(h63:b<=9223372036854775807)(h:Ao R w a v d A)(hk:∀ w',Ab No w w'->K (.tuple #[.agg ⟨pV ((N0 A.s.geo b).1,(N0 A.s.geo b).2.1)⟩,.bool (N0 A.s.geo b).2.2]) w') :
  A7 Yt E6 #[Yo a,Yn b] w K:=by
 apply Od;unfold HF;obtain⟨w1,c1,c2,c3,c4⟩:=Aw (P:=Yt) (w:=w) (T:=112) Ii;have h1:=h.nos c3;refine⟨_,w1,c1,_,rfl,_,h1.pv,JZ h1 fun w2 m2=>⟨_,rfl,WX fun w3 m3=>⟨_,_,rfl,?_⟩⟩⟩;have q3:=(c2.keep m2 id).keep m3 id;have h3:=(h1.nos m2).nos m3;have M3:=(c3.no m2).no m3;rw[DN];refine Aa (fun he=>⟨_,JG,?_⟩) (fun he=>⟨_,rfl,_,h3.pv,JZ h3 fun w5 m5=>⟨_,rfl,GE fun w6 m6=>⟨_,_,rfl,?_⟩⟩⟩)
 ·have e:N0 A.s.geo b=(0,0,false):=by unfold N0;rw[if_pos (Ld he)]
  rw[e]at hk;obtain⟨w4,y1,y2,y3,y4⟩:=q3.put (T:=112) (vs:=pV (0,0)) Bi rfl rfl (IN _);exact⟨w4,y1,_,y2.at.all Bi rfl,hk w4 (M3.own y3 (Le _))⟩
 ·have he:=VU.1 (Lc he);have e:N0 A.s.geo b=((AT A.s.geo b).2,b-(Bn A.s.geo (AT A.s.geo b).2).1,true):=by unfold N0;rw[if_neg (by omega)]
  rw[e]at hk;obtain⟨_,k1,k2,_⟩:=Gh he;have hb:=yE (g:=A.s.geo) (k:=(AT A.s.geo b).2);have hs:=jB (g:=A.s.geo);rw[Ag (x:=b-(Bn A.s.geo (AT A.s.geo b).2).1) (by omega) (by omega)];obtain⟨w7,y1,y2,y3,y4⟩:=((q3.keep m5 id).keep m6 id).put (T:=112) (vs:=pV ((AT A.s.geo b).2,b-(Bn A.s.geo (AT A.s.geo b).2).1)) Bi rfl rfl (IN _);exact⟨_,L9 _ _,w7,y1,_,y2.at.all Bi rfl,hk w7 (((M3.no m5).no m6).own y3 (Le _))⟩
theorem sJ{g:Gm}{n:Int}(h:0<=mU g n):Df g=true/\0<=n/\n<AZ g/\mU g n=n / g.no:=by
 unfold mU at h |-
 split at h
 ·omega
 ·rename_i h1;rw[if_neg h1];exact⟨(WW (g:=g) (b:=n) (by omega) (by omega)).1,by omega,by omega,rfl⟩
theorem qN{n:Int}(h63:n<=9223372036854775807)(h:Ao R w a v d A)(hk:∀ w',Ab No w w'->K (.tuple #[.agg ⟨pV ((OA A.s.geo n).1,(OA A.s.geo n).2.1)⟩,.bool (OA A.s.geo n).2.2]) w') :
  A7 Yt Dp #[Yo a,Yn n] w K:=by
 apply Pe;unfold Is;obtain⟨w1,c1,c2,c3,c4⟩:=Aw (P:=Yt) (w:=w) (T:=112) Ii;have h1:=h.nos c3;refine⟨_,w1,c1,_,rfl,_,h1.pv,JZ h1 fun w2 m2=>⟨_,rfl,yF h63 fun w3 m3=>⟨_,rfl,?_⟩⟩⟩;have q3:=(c2.keep m2 id).keep m3 id;have h3:=(h1.nos m2).nos m3;have M3:=(c3.no m2).no m3;refine Aa (fun he=>⟨_,JG,?_⟩) (fun he=>⟨_,rfl,_,h3.pv,JZ h3 fun w5 m5=>⟨_,rfl,A.s.geo.no,WO _,?_⟩⟩)
 ·have e:OA A.s.geo n=(0,0,false):=by unfold OA;rw[if_pos (Ld he)]
  rw[e]at hk;obtain⟨w4,y1,y2,y3,y4⟩:=q3.put (T:=112) (vs:=pV (0,0)) Bi rfl rfl (IN _);exact⟨w4,y1,_,y2.at.all Bi rfl,hk w4 (M3.own y3 (Le _))⟩
 ·have he:=Lc he;have e:OA A.s.geo n=(mU A.s.geo n,n % A.s.geo.no,true):=by unfold OA;rw[if_neg he]
  rw[e]at hk;obtain⟨hg,k1,k2,_⟩:=sJ (g:=A.s.geo) (n:=n) (by omega);obtain⟨_,_,_,_,g5,_⟩:=Ax.1 hg;refine⟨_,zQ k1 (by omega) h63,_,L9 _ _,?_⟩;obtain⟨w6,y1,y2,y3,y4⟩:=(q3.keep m5 id).put (T:=112) (vs:=pV (mU A.s.geo n,n % A.s.geo.no)) Bi rfl rfl (IN _);exact⟨w6,y1,_,y2.at.all Bi rfl,hk w6 ((M3.no m5).own y3 (Le _))⟩
def xV(kd:Bool):List Value:=if kd=true then [.func (.func DV) #[] #[],.func (.func Ew) #[] #[]]else [.func (.func Ev) #[] #[],.func (.func EP) #[] #[]]
def BW(kd:Bool)(g:Gm)(h:Hd)(i:Int)(on:Bool):Hd×Int:=if kd=true then HV g h i on else HW g h i on
def BD(kd:Bool)(g:Gm)(h:Hd)(f:Int):Int:=if kd=true then GC g h f else GD g h f
theorem tV(kd:Bool):∀ u∈xV kd,u.oneCell'=true:=by cases kd<;>(intro u hu;simp[xV]at hu;rcases hu with rfl | rfl<;>rfl)
theorem AcQ(kd:Bool):(xV kd).length=2:=by cases kd<;>rfl
theorem K6:D5 Yt 120=some 2:=by kernel_rfl
theorem VR:Hs Yt 120=some [.nilFunc,.nilFunc]:=by kernel_rfl
theorem lG(hk:∀ w',Ab No w w'->K (.agg ⟨xV true⟩) w'):A7 Yt IE #[] w K:=by
 apply Ue;unfold M0;obtain⟨w1,c1,c2,c3,c4⟩:=Aw (P:=Yt) (w:=w) (T:=120) VR;obtain⟨w2,y1,y2,y3,y4⟩:=c2.put (T:=120) (vs:=xV true) K6 rfl rfl (tV _);exact⟨_,w1,c1,_,fun w=>by kernel_rfl,w2,y1,_,y2.at.all K6 rfl,hk w2 (c3.own y3 (Le _))⟩
theorem qM(hk:∀ w',Ab No w w'->K (.agg ⟨xV false⟩) w'):A7 Yt JV #[] w K:=by
 apply VY;unfold OB;obtain⟨w1,c1,c2,c3,c4⟩:=Aw (P:=Yt) (w:=w) (T:=120) VR;obtain⟨w2,y1,y2,y3,y4⟩:=c2.put (T:=120) (vs:=xV false) K6 rfl rfl (tV _);exact⟨_,w1,c1,_,fun w=>by kernel_rfl,w2,y1,_,y2.at.all K6 rfl,hk w2 (c3.own y3 (Le _))⟩
theorem AdD{kd:Bool}{g:Gm}{h:Hd}{i:Int}{on:Bool}(hw:FD h)(hk:∀ w',Ab No w w'->K (.tuple #[.agg ⟨hV (BW kd g h i on).1⟩,Yn (BW kd g h i on).2]) w'){f:Value}(hf:(xV kd)[1]?=some f) :
  TH Yt f #[.agg ⟨gV g⟩,.agg ⟨hV h⟩,Yn i,.bool on] w K:=by
 cases kd with
 | true=>cases hf;exact⟨_,_,_,rfl,AaH hw hk⟩
 | false=>cases hf;exact⟨_,_,_,rfl,AaI hw hk⟩
theorem yD{kd:Bool}{g:Gm}{h:Hd}{p:Int}(hw:FD h)(hk:∀ w',Ab No w w'->K (Yn (BD kd g h p)) w'){f:Value}(hf:(xV kd)[0]?=some f) :
  TH Yt f #[.agg ⟨gV g⟩,.agg ⟨hV h⟩,Yn p] w K:=by
 cases kd with
 | true=>cases hf;exact⟨_,_,_,rfl,sC hw hk⟩
 | false=>cases hf;exact⟨_,_,_,rfl,sD hw hk⟩
theorem Ub{kd:Bool}{g:Gm}{h:Hd}(hw:FD h)(i:Int)(on:Bool):FD (BW kd g h i on).1:=by
 cases kd
 ·exact vR hw i on
 ·exact vP hw i on
theorem kT{kd:Bool}{g:Gm}{h:Hd}{i:Int}{on:Bool}(hw:FD h)(e:(BW kd g h i on).2=0):Mg g (BW kd g h i on).1=true/\(BW kd g h i on).1.no=h.no:=by
 cases kd
 ·obtain⟨h1,h2,_⟩:=vQ (on:=on) (i:=i) hw e;exact⟨h1,by show(HW g h i on).1.no=_;rw[h2]⟩
 ·obtain⟨h1,h2,_⟩:=vO (on:=on) (i:=i) hw e;exact⟨h1,by show(HV g h i on).1.no=_;rw[h2]⟩
end
def JS(kd:Bool)(A:Az)(k:Nat)(i:Int)(on:Bool):Az×Int×Int :=
 if (BW kd A.s.geo (A.hs.getD k hZ) i on).2≠0 then(A,0,(BW kd A.s.geo (A.hs.getD k hZ) i on).2)else(EL A k (BW kd A.s.geo (A.hs.getD k hZ) i on).1,(A.V.last:Int)+1,0)
section
variable{w w':World}{R R':Nat->Prop}{a v d:Nat}{A:Az}{K:Value->World->Prop}
theorem uR:Cw Yt 118=true:=by kernel_rfl
theorem kH:Cw Yt 117=true:=by kernel_rfl
theorem Ao.hdOf(h:Ao R w a v d A){k:Nat}(hk:(k:Int)<A.s.geo.gs):∃ x,TL A.s.geo A.hs k=(x,0)/\A.hs.getD k hZ=x/\Mg A.s.geo x=true/\x.no=k/\FD x:=by
 obtain⟨x,h1,h2,h3,h4,h5⟩:=h.hd.get (k:=(k:Int)) (by omega) hk;obtain⟨p1,_⟩:=Nk h.ok hk;have e:A.hs.getD k hZ=x:=by rw[Lp,show A.hs[k]?=some x from h1];rfl
 exact⟨x,by unfold Go.Z.TL;rw[if_neg (by rw[p1];exact fun e=>e rfl)];exact QJ (·,0) e,e,h3,h4,h5⟩
set_option maxRecDepth 4000 in
theorem AdB{kd:Bool}{k:Nat}{i:Int}{on:Bool}(h:Ao R w a v d A)(hk0:(k:Int)<A.s.geo.gs)(hlast:A.V.last+1<=1000000)
  (hk:∀ w' R',Ab R w w'->Sb R R' w->Ao R' w' a v d (JS kd A k i on).1->K (.tuple #[Yn (JS kd A k i on).2.1,Yn (JS kd A k i on).2.2]) w') :
  A7 Yt Fc #[Yo a,.agg ⟨pV (k,i)⟩,.agg ⟨xV kd⟩,.bool on] w K:=by
 obtain⟨x,hx1,hx2,hx3,hx4,hx5⟩:=h.hdOf hk0;obtain⟨f1,hf1⟩:∃ f,(xV kd)[1]?=some f:=by cases kd<;>exact⟨_,rfl⟩
 apply Pg;unfold It;obtain⟨w1,a1,a2,a3,a4⟩:=AB (P:=Yt) (w:=w) (T:=112) (cs:=pV (k,i));obtain⟨w2,b1,b2,b3,b4⟩:=AB (P:=Yt) (w:=w1) (T:=120) (cs:=xV kd);have m2:=(a3.no b3).drew;have h2:=h.nos m2;have q1:Av (Go.Den.Af w2) w.heap.size 0 (pV (k,i)):=(a2.keep b3 id).drew;have q2:Av (Go.Den.Af w2) w1.heap.size 0 (xV kd):=b2.drew;have n1:¬ R w.heap.size:=fun e=>by have:=h.lt _ e;omega
 have n2:¬ R w1.heap.size:=fun e=>by have:=h.lt _ e;omega
 have zd:(Go.Den.Af w2).heap.size=w2.heap.size:=rfl;have hda:=h.dlt;refine⟨_,w1,a1,_,w2,b1,_,rfl,_,h2.pv,_,q1.at.fld (v:=Yn (k:Int)) Ah rfl,?pA,?pB⟩
 case' pA =>
  refine NI h2 fun w3 R3 m3 s3 h3 _=>?_;rw[hx1];have z3:=m3.size;obtain⟨w4,c1,c2,c3,c4⟩:=Aw (P:=Yt) (w:=w3) (T:=171) Bh;obtain⟨w5,e1,e2,e3,e4⟩:=c2.put (T:=171) (vs:=hV x) Aq rfl (Ap hx5) (Co _);have hn:¬ R3 w3.heap.size:=fun e=>by have:=h3.lt _ e;omega
  have T1:Ab R w w5:=((m2.mono fun _ _ e=>e.elim).trans (m3.no (c3.own e3 (Le _))) fun x _ e=>e);have T2:Sb R R3 w2:=s3;have T3:Ao R3 w5 a v d A:=(h3.nos c3).own e3 hn (by omega);have q14:=(q1.keep m3 n1).keep c3 id;have T5:Av w5 w.heap.size 0 (pV (k,i)):=q14.keep e3 (fun e=>by have e:w.heap.size=w3.heap.size:=e;omega);have T6:Av w5 w1.heap.size 0 (xV kd):=((q2.keep m3 n2).keep c3 id).keep e3 (fun e=>by have e:w1.heap.size=w3.heap.size:=e;omega)
  refine⟨_,_,rfl,_,w4,c1,(h3.nos c3).pv,q14.at.fld Ah rfl,w5,e1,?_⟩;have T7:w2.heap.size<=w3.heap.size/\w3.heap.size<w5.heap.size:=⟨by omega,e2.lt⟩;generalize w3.heap.size=q at *
 case' pB =>
  obtain⟨w4,c1,c2,c3,c4⟩:=Aw (P:=Yt) (w:=Go.Den.Af w2) (T:=171) Bh;refine⟨_,w4,c1,(h2.nos c3).pv,(q1.keep c3 id).at.fld Ah rfl,NI (h2.nos c3) fun w3 R3 m3 s3 h3 _=>?_⟩;rw[hx1];have z3:=m3.size;have hnR:¬ R w2.heap.size:=fun e=>by have:=h.lt _ e;omega
  obtain⟨w5,e1,e2,e3,e4⟩:=(c2.keep m3 hnR).put (T:=171) (vs:=hV x) Aq rfl (Ap hx5) (Co _);have hn:¬ R3 w2.heap.size:=fun e=>by
   rcases s3 _ e with e|e
   ·exact hnR e
   ·omega
  have T1:Ab R w w5:=(((m2.no c3).mono fun _ _ e=>e.elim).trans m3 fun x _ e=>e).trans e3 fun x hx e=>by have e:x=w2.heap.size:=e;omega
  have T2:Sb R R3 w2:=s3.up (by omega);have T3:Ao R3 w5 a v d A:=h3.own e3 hn (by omega);have T5:Av w5 w.heap.size 0 (pV (k,i)):=((q1.keep c3 id).keep m3 n1).keep e3 (fun e=>by have e:w.heap.size=w2.heap.size:=e;omega);have T6:Av w5 w1.heap.size 0 (xV kd):=((q2.keep c3 id).keep m3 n2).keep e3 (fun e=>by have e:w1.heap.size=w2.heap.size:=e;omega);refine⟨_,_,rfl,w5,e1,?_⟩;have T7:w2.heap.size<=w2.heap.size/\w2.heap.size<w5.heap.size:=⟨Le _,e2.lt⟩
  obtain⟨q,hq⟩:∃ q,q=w2.heap.size:=⟨_,rfl⟩;have e2:Av w5 q 0 (hV x):=hq ▸ e2;have hn:¬ R3 q:=hq ▸ hn;have T7:w2.heap.size<=q/\q<w5.heap.size:=hq ▸ T7;rw[zd,<- hq]
 all_goals
  have p1:w.heap.size<w2.heap.size/\w1.heap.size<w2.heap.size/\w.heap.size<w1.heap.size:=⟨by have:=b2.lt;omega,b2.lt,by omega⟩;have hz5:=T1.size;have r1:¬ R3 w.heap.size:=fun e=>by
   rcases T2 _ e with e|e
   ·exact n1 e
   ·omega
  have r2:¬ R3 w1.heap.size:=fun e=>by
   rcases T2 _ e with e|e
   ·exact n2 e
   ·omega
  refine Ad.cut (fun z w9=>∃ e h',z=[Yn e]/\Ab R w w9/\Ao R3 w9 a v d A/\Av w9 q 0 (hV h')/\Av w9 w.heap.size 0 (pV (k,i))/\e=(BW kd A.s.geo x i on).2/\h'=(BW kd A.s.geo x i on).1) ?_ ?_
  ·refine tt rfl ⟨f1,T6.drew.at.fld uR hf1,_,rfl,_,(T3.nos (Ab.refl _ _).drew).pv,_,e2.drew.at.all Aq (Ap hx5),_,T5.drew.at.fld (v:=Yn i) Ah rfl,JZ (T3.nos (Ab.refl _ _).drew) fun w6 m6=>⟨_,rfl,(T6.keep (S:=No) ((Ab.refl _ _).drew.no m6) id).at.fld uR hf1,(e2.keep (S:=No) ((Ab.refl _ _).drew.no m6) id).at.all Aq (Ap hx5),(T5.keep (S:=No) ((Ab.refl _ _).drew.no m6) id).at.fld (v:=Yn i) Ah rfl,?_⟩⟩
   refine AdD hx5 (fun w7 m7=>⟨_,_,rfl,?_⟩) hf1;have M7:Ab No w5 w7:=((Ab.refl No w5).drew.no m6).no m7;obtain⟨w8,y1,y2,y3,y4⟩:=(e2.keep M7 id).put (T:=171) (vs:=hV (BW kd A.s.geo x i on).1) Aq (Ap hx5) (Ap (Ub hx5 i on)) (Co _);exact⟨w8,y1,_,_,rfl,(T1.no M7).trans y3 fun z hz e=>by have e:z=q:=e;omega,(T3.nos M7).own y3 hn (by omega),y2,(T5.keep M7 id).keep y3 (fun e=>by have e:w.heap.size=q:=e;omega),rfl,rfl⟩
  rintro z w9 ⟨e,h',rfl,U1,U2,U3,U4,rfl,rfl⟩;refine⟨_,rfl,?_⟩;rw[DN];have hT:=fun(y:Az×Int×Int)(hy:JS kd A k i on=y)=>hy ▸ hk;unfold JS at hk;rw[hx2]at hk;refine Aa (fun he=>?_) (fun he=>?_)
  ·have he:=Ld he;rw[if_pos he]at hk;exact hk w9 R3 U1 (T2.up (by omega)) U2
  ·have he':=VU.1 (Lc he);rw[if_neg (Lc he)]at hk;obtain⟨o1,o2⟩:=kT hx5 he';refine⟨_,rfl,_,(U2.nos (Ab.refl _ _).drew).pv,_,U4.drew.at.fld (v:=Yn (k:Int)) Ah rfl,_,U3.drew.at.all Aq (Ap (Ub hx5 i on)),?_⟩;refine Ab2 (U2.nos (Ab.refl _ _).drew) (by omega) hk0 (Ub hx5 i on) o1 (by rw[o2];exact hx4) hlast fun w10 R10 m10 s10 h10 _=>⟨_,_,rfl,?_⟩
   rw[show((k:Nat):Int).toNat=k by omega]at h10;have hzU:=U1.size;exact hk w10 R10 ((U1.drew).trans m10 fun z hz e=>(T2 z e).resolve_right (by omega)) ((T2.trans s10 (by show w2.heap.size<=w9.heap.size;have:=U3.lt;omega)).up (by omega)) h10
end
theorem Da:Cw Yt 61=true:=by kernel_rfl
theorem AbH:Cw Yt 4=true:=by kernel_rfl
section
variable{w w':World}{R R':Nat->Prop}{a v d:Nat}{A:Az}{K:Value->World->Prop}
theorem uL{s p : Int}{t : Bool}{q : Option Addr}(hk : ∀ w', Ab No w w' → w'.heap.size = w.heap.size + 3 → Av w' w.heap.size 0 [.pointer q] → Av w' (w.heap.size + 1) 0 (pV (s, p)) → Av w' (w.heap.size + 2) 0 [.bool t] →
      K (.func (.func C0) #[] #[Yo w.heap.size, .pointer (some ⟨w.heap.size + 1, 0, none⟩), .pointer (some ⟨w.heap.size + 2, 0, none⟩)]) w') :
    A7 Yt Do #[.pointer q, .agg ⟨pV (s, p)⟩, .bool t] w K := by
  apply Pd;unfold Ir;obtain⟨w1, a1, a2, a3, a4⟩ := Md (P := Yt) (w := w) (T := 61) (v := .pointer q) rfl;obtain⟨w2, b1, b2, b3, b4⟩ := AB (P := Yt) (w := w1) (T := 112) (cs := pV (s, p));obtain⟨w3, c1, c2, c3, c4⟩ := Md (P := Yt) (w := w2) (T := 4) (v := .bool t) rfl;rw[a4]at b1 b2 b4;rw[b4]at c1 c2 c4;exact⟨_, w1, a1, _, w2, b1, _, w3, c1, hk w3 ((a3.no b3).no c3) c4 ((a2.keep b3 id).keep c3 id) (b2.keep c3 id) c2⟩
theorem kD{l q3 q4 q5 n:Nat}{s p:Int}{t:Bool}(hn:A.s.geo.gs=n)(hg:Df A.s.geo=true)(hs:0<=s/\s<A.s.geo.gs)(hp:0<=p/\p<=100000)(J:Nat->World->Prop)(E:World->Prop)(hJ0:J 0 w)
  (hcell:∀ i W,J i W->∃ R',Ao R' W a v d A/\Av W q3 0 [Yo a]/\Av W q4 0 (pV (s,p))/\Av W q5 0 [.bool t])
  (hno:∀ i W W',J i W->Ab No W W'->J i W')
  (hfz:∀ i W,i<n->J i W->A.fz (El A.s.geo s i)=true->J (i+1) W)
  (hst:∀ i W K,i<n->J i W->A.fz (El A.s.geo s i)=false->(∀ W',J (i+1) W'->K (.bool true) W')->(∀ W',E W'->K (.bool false) W')->Yld Yt l #[Yn (El A.s.geo s i:Int),Yn (Nt p t i)] W K)
  (hk:∀ W,J n W\/E W->K (.tuple #[]) W) :
  A7 Yt C0 (#[.func (.yield l) #[] #[]]++#[Yo q3,Yo q4,Yo q5]) w K:=by
 refine Mr _ _ _ _ w K ?_;unfold GQ;obtain⟨R0,h0,c3,c4,c5⟩:=hcell 0 w hJ0;obtain⟨_,_,g3,g4,_⟩:=Ax.1 hg;refine⟨_,c3.at.one Da,_,rfl,_,h0.pv,JZ h0 fun w1 m1=>⟨_,rfl,_,mM _,?_⟩⟩;refine⟨fun x W=>∃(i:Nat)(y0 y2 y3:Value),x=[y0,Yn i,y2,y3]/\i<=n/\J i W,fun x _=>(n-nI x 1).toNat,⟨0,_,_,_,rfl,qE _,hno 0 _ _ hJ0 m1⟩,?_⟩;rintro x W ⟨i,y0,y2,y3,rfl,hi,hJ⟩
 obtain⟨R1,h1,d3,d4,d5⟩:=hcell i W hJ;refine⟨_,rfl,Aa (fun hb=>?_) (fun hb=>hk W (.inl ?_))⟩
 ·have hb:=Ld hb;have hin:i<n:=by omega
  have hrk:(s+i) % A.s.geo.gs=(El A.s.geo s i:Int):=by
   unfold El
   have:=Ly4 (s+i) (show A.s.geo.gs≠0 by omega)
   omega
  refine⟨_,d4.at.fld (v:=Yn s) Ah rfl,(El A.s.geo s i:Int),?_,?_⟩
  ·rw[Ag (x:=s+i) (by omega) (by omega),<- hrk];exact zQ (by omega) (by omega) (by omega)
  refine Ad.cut (fun z W'=>W'=W/\z=[.bool (decide (i=0)&&t)]) ?_ ?_
  ·rw[Fm];refine Aa (fun h=>⟨_,d5.at.one AbH,rfl,?_⟩) (fun h=>⟨rfl,?_⟩)
   ·have h:=Ld h;rw[Li (by omega),lE]
   ·have h:=Lc h;rw[Lh (by omega),Le5]
  rintro z W' ⟨rfl,rfl⟩;refine⟨_,rfl,Ad.cut (fun z W''=>W''=W'/\z=[Yn (Nt p t i)]) (Aa (fun h=>⟨_,d4.at.fld (v:=Yn p) Ah rfl,rfl,?_⟩) (fun h=>⟨rfl,?_⟩)) ?_⟩
  ·simp only[Lr,RV]at h;rw[Ag (by omega) (by omega)];unfold Nt;rw[if_pos h]
  ·have h':¬ (i=0/\t=true):=fun e=>by rw[Li e.1,e.2]at h;cases h
   unfold Nt;rw[if_neg h']
  rintro z W'' ⟨rfl,rfl⟩;refine Ad.cut (fun z W'=>(z=[.bool false]/\J (i+1) W')\/(z=[.bool true]/\E W')) ?_ ?_
  ·have h1':=h1;obtain⟨Rv,fm,L,_,k2,k3,k4,_⟩:=h1';have hl:=D7 (P:=Yt) (k:=(El A.s.geo s i:Int)) AfB k3;rw[k4]at hl;refine⟨_,d3.at.one Da,_,rfl,_,k2.at.fld AfK rfl,_,hl,Aa (fun h=>⟨_,rfl,.yield l,#[],#[],rfl,rfl,rfl,?_⟩) (fun h=>.inl ⟨rfl,hfz i _ hin hJ (by simpa using h)⟩)⟩;exact hst i _ _ hin hJ (by simpa using h) (fun W' hJ'=>⟨true,rfl,.inl ⟨rfl,hJ'⟩⟩) fun W' hE=>⟨false,rfl,.inr ⟨rfl,hE⟩⟩
  ·rintro z W' (⟨rfl,hJ'⟩|⟨rfl,hE⟩)
   ·refine⟨_,rfl,ff rfl ?_⟩;rw[Ag (x:=(i:Int)+1) (by omega) (by omega)];exact⟨⟨i+1,_,_,_,rfl,by omega,hJ'⟩,by simp[nI,A2];omega⟩
   ·exact⟨_,rfl,tt rfl (hk W' (.inr hE))⟩
 ·have hb:=Lc hb;have:i=n:=by omega
  rw[<- this];exact hJ
def Bv(A:Az):Nat->Int×Int
 | 0=>(0,0)
 | i+1=>if A.fz (i:Int)=true then Bv A i else((Bv A i).1+(Dk A.s.geo (A.hs.getD i hZ)).1,(Bv A i).2+(Dk A.s.geo (A.hs.getD i hZ)).2)
theorem iY(A:Az):∀ i:Nat,0<=(Bv A i).1/\(Bv A i).1<=128*i/\0<=(Bv A i).2/\(Bv A i).2<=64*i
 | 0=>by simp[Bv]
 | i+1=>by
  have h:=iY A i;have hb:=Yk (g:=A.s.geo) (h:=A.hs.getD i hZ);unfold Bv;split
  ·omega
  ·simp only;omega
theorem Ab.putObj(w:World)(k:Nat)(o:Obj):Ab (fun x=>x=k) w (w.putObj k o):=(Ab.refl (fun x=>x=k) w).put (.inr rfl) o
theorem FB{w:World}{k:Nat}{o o':Obj}(h:w.heap[k]?=some o'):(w.putObj k o).heap[k]?=some o:=AX (AM h)
theorem NE:Hs Yt 3=some [Yn 0]:=by kernel_rfl
set_option maxRecDepth 4000 in
theorem iJ(h:Ao R w a v d A)(hk:∀ w' R',Ab R w w'->Sb R R' w->Ao R' w' a v d A->K (.tuple #[Yn (Bv A A.s.geo.gs.toNat).1,Yn (Bv A A.s.geo.gs.toNat).2]) w') :
  A7 Yt Dl #[Yo a] w K:=by
 have hg:=h.ok;obtain⟨_,_,g3,g4,_⟩:=Ax.1 hg;obtain⟨n,hn⟩:=dG (show 0<=A.s.geo.gs by omega);rw[hn,Lz]at hk;apply Pb;unfold EV;obtain⟨w1,a1,a2,a3,a4⟩:=Md (P:=Yt) (w:=w) (T:=61) (v:=Yo a) rfl;obtain⟨w2,b1,b2,b3,b4⟩:=Aw (P:=Yt) (w:=w1) (T:=3) NE;obtain⟨w3,c1,c2,c3,c4⟩:=Aw (P:=Yt) (w:=w2) (T:=3) NE
 obtain⟨w4,e1,e2,e3,e4⟩:=(b2.keep c3 id).put1 (P:=Yt) (T:=3) (v:=Yn 0) Ah rfl;have ne1:¬ w2.heap.size=w1.heap.size:=by have:=b2.lt;omega
 obtain⟨w5,f1,f2,f3,f4⟩:=(c2.keep e3 ne1).put1 (P:=Yt) (T:=3) (v:=Yn 0) Ah rfl;have p4:=e2.keep f3 (fun e=>ne1 e.symm);have s12:=b2.lt;have s23:=c2.lt;have s1:=a2.lt;have p1:Av w5 w.heap.size 0 [Yo a]:=(((a2.keep b3 id).keep c3 id).keep e3 (fun e=>by have e:w.heap.size=w1.heap.size:=e;omega)).keep f3 (fun e=>by have e:w.heap.size=w2.heap.size:=e;omega);have m3:Ab No w w3:=(a3.no b3).no c3
 have m5:Ab No w w5:=(m3.own e3 (by omega)).own f3 (by omega);have s5:w5.heap.size=w.heap.size+3:=by omega
 have h5:=h.nos m5;refine⟨_,w1,a1,_,w2,b1,_,w3,c1,w4,e1,w5,f1,_,p1.at.one Da,ff rfl ⟨_,p1.at.one Da,_,JG,?_⟩⟩;rw[show w1.heap.size=w.heap.size+1 by omega,show w2.heap.size=w.heap.size+2 by omega]at *;refine uL (s:=0) (p:=0) (t:=false) fun w6 m6 s6 x3 x4 x5=>⟨_,rfl,?_⟩;have h6:=h5.nos m6;have M6:Ab No w w6:=m5.no m6;have p16:=p1.keep m6 id;have p46:=p4.keep m6 id;have p56:=f2.keep m6 id
 rw[s5]at x3 x4 x5 |-;intro r0 hs hp hy;obtain⟨hd0,hl0,mW,sW⟩:((w6.alloc (.deferred (some []))).alloc (.loop r0)).heap[w6.heap.size]?=some (.deferred (some []))/\((w6.alloc (.deferred (some []))).alloc (.loop r0)).heap[w6.heap.size+1]?=some (.loop r0)/\Ab No w6 ((w6.alloc (.deferred (some []))).alloc (.loop r0))/\((w6.alloc (.deferred (some []))).alloc (.loop r0)).heap.size=w6.heap.size+2:=by
  refine⟨?_,?_,((Ab.refl No w6).alloc _).alloc _,by simp⟩
  ·rw[Rl (by simp)];exact BV _ _
  ·have:=BV (w6.alloc (.deferred (some []))) (.loop r0)
   rw[World.size_alloc]at this;exact this
 generalize (w6.alloc (.deferred (some []))).alloc (.loop r0)=W2 at *;have hnR:∀ R',Sb R R' W2->∀ q,w.heap.size<=q->q<W2.heap.size->¬ R' q:=fun R' hs q h1 h2 e=>by
  rcases hs q e with e|e
  ·have:=h.lt q e;omega
  ·omega
 have hda:=h.dlt
 refine kD (A:=A) (n:=n) (w:=W2) hn hg (by omega) (by omega) (fun i W=>∃ R',Ao R' W a v d A/\Sb R R' W2/\Ab R w W/\W2.heap.size<=W.heap.size/\Av W w.heap.size 0 [Yo a]/\Av W (w.heap.size+1) 0 [Yn (Bv A i).1]/\Av W (w.heap.size+2) 0 [Yn (Bv A i).2] /\
   (Av W (w.heap.size+3) 0 [Yo a]/\Av W (w.heap.size+3+1) 0 (pV (0,0))/\Av W (w.heap.size+3+2) 0 [.bool false])/\W.heap[w6.heap.size]?=some (.deferred (some []))/\W.heap[w6.heap.size+1]?=some (.loop r0)) (fun _=>False)
  ⟨R,h6.nos mW,Sb.refl _ _,(M6.no mW).mono (fun _ _ e=>e.elim),Le _,p16.keep mW id,p46.keep mW id,p56.keep mW id,⟨x3.keep mW id,x4.keep mW id,x5.keep mW id⟩,hd0,hl0⟩
  (fun i W ⟨R',j1,j2,j3,j4,j5,j6,j7,j8,j9,j10⟩=>⟨R',j1,j8.1,j8.2.1,j8.2.2⟩)
  (fun i W W' ⟨R',j1,j2,j3,j4,j5,j6,j7,j8,j9,j10⟩ m=>⟨R',j1.nos m,j2,j3.no m,QK j4 m.size,j5.keep m id,j6.keep m id,j7.keep m id,⟨j8.1.keep m id,j8.2.1.keep m id,j8.2.2.keep m id⟩,m.keep j9 id,m.keep j10 id⟩) ?_ ?_ ?_
 ·rintro i W hi ⟨R',j1,j2,j3,j4,j5,j6,j7,j8⟩ hf;have e:El A.s.geo 0 i=i:=by
   unfold El;rw[Int.zero_add,wN (by omega) (by omega)];omega
  rw[e]at hf;have e1:Bv A (i+1)=Bv A i:=by rw[Bv,if_pos hf]
  rw[<- e1]at j6 j7;exact⟨R',j1,j2,j3,j4,j5,j6,j7,j8⟩
 ·rintro i W K' hi ⟨R',j1,j2,j3,j4,j5,j6,j7,⟨j8,j9,j10⟩,j11,j12⟩ hf hT _;have e:El A.s.geo 0 i=i:=by
   unfold El;rw[Int.zero_add,wN (by omega) (by omega)];omega
  rw[e]at hf |-;have e1:Bv A (i+1)=((Bv A i).1+(Dk A.s.geo (A.hs.getD i hZ)).1,(Bv A i).2+(Dk A.s.geo (A.hs.getD i hZ)).2):=by rw[Bv,if_neg (by rw[hf];decide)]
  refine hy [Yn (i:Int),Yn (Nt 0 false i)] W K' rfl j12 ?_;refine⟨_,rfl,j12,?_⟩;have ml:=Ab.putObj W (w6.heap.size+1) (.loop { r0 with state:=.busy });have hlb:=FB (o:=.loop { r0 with state:=.busy }) j12;have nl:¬ R' (w6.heap.size+1):=hnR R' j2 _ (by omega) (by omega);have k1:=j1.own ml nl (by omega);have zl:=ml.size;generalize W.putObj (w6.heap.size+1) (.loop { r0 with state:=.busy })=W3 at *
  have hi':(i:Int)<A.s.geo.gs:=by omega
  obtain⟨x,hx1,hx2,hx3,hx4,hx5⟩:=k1.hdOf hi';rw[hx2]at e1;have k5:Av W3 w.heap.size 0 [Yo a]:=j5.keep ml (fun e=>by have e:w.heap.size=w6.heap.size+1:=e;omega);refine⟨_,k5.at.one Da,_,rfl,_,k1.pv,NI k1 fun w9 R9 m9 s9 k9 _=>?_⟩;rw[hx1];have z9:=m9.size;obtain⟨w10,y1,y2,y3,y4⟩:=Aw (P:=Yt) (w:=w9) (T:=171) Bh;obtain⟨w11,u1,u2,u3,u4⟩:=y2.put (T:=171) (vs:=hV x) Aq rfl (Ap hx5) (Co _)
  have m11:Ab No w9 w11:=y3.own u3 (Le _);have m11d:=m11.drew;have M11:Ab R' W3 (Go.Den.Af w11):=m9.no m11d;have k11:=k9.nos m11d;have k5':=k5.keep M11 (hnR R' j2 _ (by omega) (by omega));refine⟨_,_,rfl,_,w10,y1,w11,u1,_,k5'.at.one Da,_,rfl,_,k11.pv,_,u2.drew.at.all Aq (Ap hx5),JZ k11 fun w12 m12=>⟨_,rfl,(u2.drew.keep m12 id).at.all Aq (Ap hx5),jI hx5 fun w13 m13=>⟨_,_,rfl,?_⟩⟩⟩
  have M13:Ab R' W3 (Go.Den.Af w13):=(M11.no (m12.no m13)).drew;have k13:=k9.nos (m11d.no ((m12.no m13).drew));have z13:=M13.size;have far:∀ q,w.heap.size<=q->q<W2.heap.size->¬ R' q:=fun q h1 h2=>hnR R' j2 q h1 h2;have nel:∀ q,q<w6.heap.size+1->¬ (fun x=>x=w6.heap.size+1) q:=fun q hq e=>by have e:q=w6.heap.size+1:=e;omega
  have t6:=(j6.keep ml (nel _ (by omega))).keep M13 (far _ (by omega) (by omega));have t7:=(j7.keep ml (nel _ (by omega))).keep M13 (far _ (by omega) (by omega));obtain⟨w14,v1,v2,v3,v4⟩:=t6.put1 (P:=Yt) (T:=3) (v:=Yn (Bv A (i+1)).1) Ah rfl;have t7':=t7.keep v3 (fun e=>by have e:w.heap.size+2=w.heap.size+1:=e;omega);obtain⟨w15,r1,r2,r3,r4⟩:=t7'.put1 (P:=Yt) (T:=3) (v:=Yn (Bv A (i+1)).2) Ah rfl
  have hfb:=iY A i;have hhb:=Yk (g:=A.s.geo) (h:=x);refine⟨_,t6.at.one Ah,_,t7.at.one Ah,w14,?_,t7'.at.one Ah,w15,?_,?_⟩
  ·rw[Ag (by omega) (by omega)];rw[e1]at v1;exact v1
  ·rw[Ag (by omega) (by omega)];rw[e1]at r1;exact r1
  have S9:Sb R R9 W2:=j2.trans s9 (by omega);have n1:¬ R9 (w.heap.size+1):=hnR R9 S9 _ (by omega) (by omega);have n2:¬ R9 (w.heap.size+2):=hnR R9 S9 _ (by omega) (by omega);have n3:¬ R9 (w6.heap.size+1):=hnR R9 S9 _ (by omega) (by omega);have k15:=(k13.own v3 n1 (by omega)).own r3 n2 (by omega)
  -- all other blocks
  have oth:∀ q,w.heap.size<=q->q<w6.heap.size+1->¬ q=w.heap.size+1->¬ q=w.heap.size+2->∀{o},W.heap[q]?=some o->w15.heap[q]?=some o:=fun q h1 h2 h3 h4 o ho=>r3.keep (v3.keep (M13.keep (ml.keep ho (nel q h2)) (far q h1 (by omega))) h3) h4;have othA:∀ q cs,w.heap.size<=q->q<w6.heap.size+1->¬ q=w.heap.size+1->¬ q=w.heap.size+2->Av W q 0 cs->Av w15 q 0 cs:=fun q cs h1 h2 h3 h4 ho=>(((ho.keep ml (nel q h2)).keep M13 (far q h1 (by omega))).keep v3 h3).keep r3 h4
  have hl15:w15.heap[w6.heap.size+1]?=some (.loop { r0 with state:=.busy }):=r3.keep (v3.keep (M13.keep hlb (far _ (by omega) (by omega))) (by show ¬ w6.heap.size+1=w.heap.size+1;omega)) (by show ¬ w6.heap.size+1=w.heap.size+2;omega);refine⟨hl15,?_⟩;have er:({ r0 with state:=LoopState.ready,pending:=none }:Loop)=r0:=by cases r0;simp only at hs hp;subst hs;subst hp;rfl
  show K' (.bool true) (w15.putObj (w6.heap.size+1) (.loop { r0 with state:=LoopState.ready,pending:=none }));rw[er];have mf:=Ab.putObj w15 (w6.heap.size+1) (.loop r0);have zf:=mf.size;refine hT _ ⟨R9,k15.own mf n3 (by omega),S9,?_,by omega,(othA _ _ (by omega) (by omega) (by omega) (by omega) j5).keep mf (nel _ (by omega)),(v2.keep r3 (by show ¬ w.heap.size+1=w.heap.size+2;omega)).keep mf (nel _ (by omega)),r2.keep mf (nel _ (by omega)),⟨(othA _ _ (by omega) (by omega) (by omega) (by omega) j8).keep mf (nel _ (by omega)),(othA _ _ (by omega) (by omega) (by omega) (by omega) j9).keep mf (nel _ (by omega)),(othA _ _ (by omega) (by omega) (by omega) (by omega) j10).keep mf (nel _ (by omega))⟩,mf.keep (oth _ (by omega) (by omega) (by omega) (by omega) j11) (nel _ (by omega)),FB hl15⟩
  have own:∀{b c:World}{q:Nat},Ab R w b->Ab (fun x=>x=q) b c->w.heap.size<=q->Ab R w c:=fun hb hc hq=>hb.trans hc fun z hz e=>by have e:z=_:=e;omega
  have c1:Ab R w W3:=own j3 ml (by omega);have c2:Ab R w (Go.Den.Af w13):=c1.trans M13 fun z hz e=>(j2 z e).resolve_right (by omega);exact own (own (own c2 v3 (by omega)) r3 (by omega)) mf (by omega)
 ·rintro W (⟨R',j1,j2,j3,j4,j5,j6,j7,⟨j8,j9,j10⟩,j11,j12⟩|e)
  ·refine⟨.ready,none,?_,by simp,?_⟩
   ·have er:({ r0 with state:=LoopState.ready,pending:=none }:Loop)=r0:=by cases r0;simp only at hs hp;subst hs;subst hp;rfl
    rw[er];exact j12
   ·have ml:=Ab.putObj W (w6.heap.size+1) (.loop { r0 with state:=.exhausted,pending:=none });have nl:¬ R' (w6.heap.size+1):=hnR R' j2 _ (by omega) (by omega);have nel:∀ q,q<w6.heap.size+1->¬ (fun x=>x=w6.heap.size+1) q:=fun q hq e=>by have e:q=w6.heap.size+1:=e;omega
    show ∃ n45:Int,_;have k1:=j1.own ml nl (by omega);have k6:=j6.keep ml (nel _ (by omega));have k7:=j7.keep ml (nel _ (by omega));have k11:=ml.keep j11 (nel _ (by omega));have own:∀{b c:World}{q:Nat},Ab R w b->Ab (fun x=>x=q) b c->w.heap.size<=q->Ab R w c:=fun hb hc hq=>hb.trans hc fun z hz e=>by have e:z=_:=e;omega
    have c1:=own j3 ml (by omega);have zl:=ml.size;generalize W.putObj (w6.heap.size+1) (.loop { r0 with state:=.exhausted,pending:=none })=W3 at *;refine⟨_,k6.drew.at.one Ah,_,k7.drew.at.one Ah,k11,?_⟩;have md:=Ab.putObj (Go.Den.Af W3) w6.heap.size (.deferred none);exact hk _ R' (own c1.drew md (by omega)) (j2.up (by omega)) ((k1.nos (Ab.refl _ _).drew).own md (hnR R' j2 _ (by omega) (by omega)) (by omega))
  ·exact e.elim
end
end Go.Z
end
