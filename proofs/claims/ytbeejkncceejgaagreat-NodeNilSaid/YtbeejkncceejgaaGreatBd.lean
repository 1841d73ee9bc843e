/- Parts of the proof, in order: what the statement leans on. -/
import Derived.Test.YtbeejkncceejgaaGreatBc
open Go.Proofs Go.Proofs.YtbeejkncceejgaaGreat
section
open Go Go.Den Go.Proofs
namespace Go.Z
def KH(xs:List UInt8):Hd:=⟨D6 ((xs.drop 4).take 2),(xs.drop 16).take 16,(xs.drop 32).take 8⟩
theorem bG{xs:List UInt8}(h:xs.length=256):FD (KH xs):=⟨by simp[KH,h],by simp[KH,h]⟩
def TK(g:Gm)(xs:List UInt8):Hd×Int:=if Df g=false then(hZ,1)else if xs.length≠256 then(hZ,4)else if Mg g (KH xs)=true/\H9 g (KH xs)=xs then(KH xs,0)else(hZ,8)
theorem jJ(g:Gm)(xs:List UInt8):FD (TK g xs).1:=by
 unfold TK;split
 ·exact CW
 split
 ·exact CW
 split
 ·rename_i h _;exact bG (by omega)
 ·exact CW
section
variable{w:World}{K:Value->World->Prop}
theorem VO(xs:List UInt8)(n:Nat):A6 (xs.take n)=(A6 xs).take n:=by simp[A6,Lh4]
theorem wI{a0:Option Addr}{l c0:Nat}(h63:l<=1000000000)(hk:∀ w' (f la:Int),Ab No w w'->K (.tuple #[Yn f,Yn la]) w'):A7 Yt IG #[.slice a0 l c0,.slice none 0 0] w K:=by
 apply Uk;unfold P4;have e1:(if (l:Int) > ((0:Nat):Int)then(l:Int)else((0:Nat):Int))=l:=by split<;>omega
 have e2:(if (l:Int)<((0:Nat):Int)then(l:Int)else((0:Nat):Int))=0:=by split<;>omega
 refine⟨fun x w1=>∃(i:Nat)(f la:Int)(y:Value),i<=l/\x=[Yn f,Yn la,Yn i,y]/\Ab No w w1,fun x _=>(l-nI x 2).toNat,⟨0,-1,-1,_,by omega,rfl,Ab.refl _ _⟩,?_⟩;rintro x w1 ⟨i,f,la,y,hi,rfl,hm⟩;refine⟨_,rfl,Aa (fun hb=>?_) (fun hb=>?_)⟩
 ·have hb:=Ld hb;have hi:i<l:=by split at hb<;>omega
  have hm':Ab No w (Go.Den.Af w1):=hm.drew;refine Ad.cut (fun z w3=>∃(f' la':Int)(y':Value),z=[Yn f',Yn la',y']/\w3=Go.Den.Af w1) ?_ ?_
  ·refine Ad.cut (fun z w3=>z=[.bool false]/\w3=Go.Den.Af w1) (ff (Lh (by split<;>omega)) ⟨rfl,rfl⟩) ?_;rintro z w3 ⟨rfl,rfl⟩;refine⟨_,rfl,ff rfl ⟨_,rfl,Ad.cut (fun z w3=>(∃ f':Int,z=[Yn f'])/\w3=Go.Den.Af w1) (Aa (fun _=>⟨⟨_,rfl⟩,rfl⟩) (fun _=>⟨⟨_,rfl⟩,rfl⟩)) ?_⟩⟩;rintro z w3 ⟨⟨f',rfl⟩,rfl⟩;exact⟨_,_,_,rfl,rfl⟩
  ·rintro z w3 ⟨f',la',y',rfl,rfl⟩;rw[Ag (x:=(i:Int)+1) (by omega) (by omega)];exact⟨⟨i+1,f',la',y',by omega,by simp[A2],hm'⟩,by simp[nI,A2];omega⟩
 ·exact⟨_,rfl,_,rfl,hk _ _ _ hm⟩
theorem bO{h:Hd}{ys:List UInt8}(hw:FD h)(hy:ys.length=16):A9 (hV h) 1 (A6 ys)=hV ⟨h.no,ys,h.ss⟩:=by
 unfold A9 hV;rw[List.take_succ_cons,pX,Ai,hy,show 1+16=16+1 from rfl,pZ,UB,Ls (by rw[Ai,hw.1];omega),Ai,hw.1,dI,VW];rfl
theorem bQ{h:Hd}{ys:List UInt8}(hw:FD h)(hy:ys.length=8):A9 (hV h) 17 (A6 ys)=hV ⟨h.no,h.bs,ys⟩:=by
 unfold A9 hV;rw[show 17=16+1 from rfl,List.take_succ_cons,Ai,hy,show 16+1+8=24+1 from rfl,pZ,Ls (by rw[Lj,Ai,Ai,hw.1,hw.2];omega),Lu (by rw[Ai,hw.1];omega),Lf (by rw[Ai,hw.1];omega),iB];rfl
set_option maxRecDepth 4000 in
theorem Xd{g:Gm}{a:Option Addr}{l c:Nat}{xs:List UInt8}(hl:xs.length=l)(hc:l<=c)(hr:BG w a (A6 xs))(h63:l<=1048576)
  (hk:∀ w',Ab No w w'->K (.tuple #[.agg ⟨hV (TK g xs).1⟩,Yn (TK g xs).2]) w'):A7 Yt MO #[.agg ⟨gV g⟩,.slice a l c] w K:=by
 apply Za;unfold SN;obtain⟨w1,a1,a2,a3,a4⟩:=AB (P:=Yt) (w:=w) (T:=83) (cs:=gV g);obtain⟨w2,b1,b2,b3,b4⟩:=Aw (P:=Yt) (w:=w1) (T:=171) Bh;have m2:=a3.no b3;have q2:=a2.keep b3 id;have fin:∀(w':World)(h:Hd)(e:Int),Ab No w2 w'->(h,e)=TK g xs->∃ w3:World,Gr (Instr.storeAt 171 (Yo w1.heap.size) (.agg ⟨hV h⟩)) w' w3/\∃ gR2:Array Value,Ru (Instr.loadAt 171 (Yo w1.heap.size)) w3 (.agg gR2) w3/\K (.tuple #[.agg gR2,Yn e]) w3:=fun w' h e m he=>by
  have hw:FD h:=by have:=jJ g xs;rw[<- he]at this;exact this
  obtain⟨w3,c1,c2,c3,c4⟩:=(b2.keep m id).put (T:=171) (vs:=hV h) Aq (Ap CW) (Ap hw) (Co _);refine⟨w3,c1,_,c2.at.all Aq (Ap hw),?_⟩
  have:=hk w3 ((m2.no m).own c3 a3.size)
  rw[<- he]at this;exact this
 refine⟨_,w1,a1,_,w2,b1,_,q2.at.all A5 rfl,GF fun w3 m3=>⟨_,rfl,Aa (fun h=>⟨_,Di,?_⟩) (fun h=>?_)⟩⟩
 ·exact fin w3 hZ 1 m3 (by unfold TK;rw[if_pos (by simpa using h)])
 have hg:Df g=true:=by simpa using h
 rw[DN];refine Aa (fun h=>⟨_,Di,?_⟩) (fun h=>?_)
 ·have h:=Ld h;exact fin w3 hZ 4 m3 (by unfold TK;rw[if_neg (by rw[hg];simp),if_pos (by omega)])
 have hl2:xs.length=256:=by have:=Lc h;omega
 have hl':l=256:=by omega
 subst hl';have hr3:=(hr.nos m2).nos m3;have n4:D6 ((xs.drop 4).take 2)<256 ^ 2:=JK (by omega);refine⟨_,_,_,BH Aj (by omega) (by omega) (by omega),?_⟩;refine Zq (xs:=(xs.drop 4).take 2) (by simp;omega) (hr3.cut (by omega) (by omega)) (by omega) ⟨_,rfl,?_⟩;rw[Lf (i:=8) (by simp;omega),Ag (x:=(D6 ((xs.drop 4).take 2):Int)) (by omega) (by omega)];obtain⟨w7,c1,c2,c3,c4⟩:=Aw (P:=Yt) (w:=w3) (T:=171) Bh
 obtain⟨w8,d1,d2,d3,d4⟩:=c2.put (T:=171) (vs:=hV ⟨D6 ((xs.drop 4).take 2),List.replicate 16 0,List.replicate 8 0⟩) Aq (Ap CW) (Ap ⟨rfl,rfl⟩) (Co _);have m8:Ab No w3 w8:=c3.own d3 (Le _);have ad1:Addr.add ⟨w3.heap.size,0,none⟩ 1=⟨w3.heap.size,1,none⟩:=by rw[Ae]
 have ad17:Addr.add ⟨w3.heap.size,0,none⟩ 17=⟨w3.heap.size,17,none⟩:=by rw[Ae]
 have hr8:BG (Go.Den.Af w8) a (A6 xs):=hr3.nos m8.drew;have l16:((xs.drop 16).take 240).length=240:=by simp;omega
 have l32:((xs.drop 32).take 224).length=224:=by simp;omega
 obtain⟨w9,p1,p2,p3,p4⟩:=GP (P:=Yt) (T:=57) (T2:=57) (ty:=3) (i:=1) (n:=16) (c:=16) (n2:=240) (c2:=c-16) (a2:=CL a c 16 1) (src:=A6 ((xs.drop 16).take 240)) Aj d2.drew
  (by rw[Ap ⟨rfl,rfl⟩];omega) (hr8.cut (by omega) (by omega)) (by rw[Ai,l16]) (Cu _)
 have t16:(A6 ((xs.drop 16).take 240)).take (Nat.min 240 16*1)=A6 ((xs.drop 16).take 16):=by
  rw[show Nat.min 240 16*1=16 by decide,<- VO,La4];rfl
 rw[t16,bO ⟨rfl,rfl⟩ (by simp;omega)]at p2;have M9:Ab No w3 w9:=m8.drew.own p3 (Le _);have hr9:BG (Go.Den.Af w9) a (A6 xs):=hr3.nos M9.drew;obtain⟨w10,r1,r2,r3,r4⟩:=GP (P:=Yt) (T:=57) (T2:=57) (ty:=3) (i:=17) (n:=8) (c:=8) (n2:=224) (c2:=c-32) (a2:=CL a c 32 1) (src:=A6 ((xs.drop 32).take 224)) Aj p2.drew
  (by rw[Ap ⟨by simp;omega,rfl⟩];omega) (hr9.cut (by omega) (by omega)) (by rw[Ai,l32]) (Cu _)
 have t32:(A6 ((xs.drop 32).take 224)).take (Nat.min 224 8*1)=A6 ((xs.drop 32).take 8):=by
  rw[show Nat.min 224 8*1=8 by decide,<- VO,La4];rfl
 rw[t32,bQ ⟨by simp;omega,rfl⟩ (by simp;omega)]at r2;have r2:Av w10 w3.heap.size 0 (hV (KH xs)):=r2;have hwf:=bG hl2;have M10:Ab No w3 w10:=M9.drew.own r3 (Le _);have m210:=m3.no M10;refine⟨_,PE _,_,w7,c1,w8,d1,?_⟩;rw[ad1,ad17];refine⟨_,_,_,AN Mc,_,_,_,Gq Aj (by omega) (by omega),_,w9,p1,_,_,_,AN TI,_,_,_,Gq Aj (by omega) (by omega),_,w10,r1,_,(q2.keep m210 id).at.all A5 rfl,_,r2.at.all Aq (Ap hwf),?_⟩
 have last:∀(w13:World)(b:Bool),Ab No w10 w13->(b=false↔Mg g (KH xs)=true/\H9 g (KH xs)=xs)->∃ b53:Bool,A2 [.bool b] 0=.bool b53/\(bif b53 then
   ∃ g54:Array Value,Al (Instr.build 171 #[]) (.agg g54)/\∃ w14:World,Gr (Instr.storeAt 171 (Yo w1.heap.size) (.agg g54)) w13 w14/\∃ gR4_3:Array Value,Ru (Instr.loadAt 171 (Yo w1.heap.size)) w14 (.agg gR4_3) w14/\K (.tuple #[.agg gR4_3,Yn 8]) w14
   else
   ∃ g55:Array Value,Ru (Instr.loadAt 171 (Yo w3.heap.size)) w13 (.agg g55) w13/\∃ w15:World,Gr (Instr.storeAt 171 (Yo w1.heap.size) (.agg g55)) w13 w15/\∃ gR4_4:Array Value,Ru (Instr.loadAt 171 (Yo w1.heap.size)) w15 (.agg gR4_4) w15/\K (.tuple #[.agg gR4_4,Yn 0]) w15):=by
  intro w13 b m13 hb;refine⟨_,rfl,Aa (fun h=>⟨_,Di,?_⟩) (fun h=>⟨_,(r2.keep m13 id).at.all Aq (Ap hwf),?_⟩)⟩
  ·exact fin w13 hZ 8 (m210.no m13) (by unfold TK;rw[if_neg (by rw[hg];simp),if_neg (by omega),if_neg fun e=>by rw[hb.2 e]at h;cases h])
  ·exact fin w13 (KH xs) 0 (m210.no m13) (by unfold TK;rw[if_neg (by rw[hg];simp),if_neg (by omega),if_pos (hb.1 h)])
 refine fE hwf (fun ho w11 m11=>⟨_,_,_,_,rfl,wI (by omega) fun w12 f la m12=>⟨_,_,rfl,Ad.dup (tt rfl ?_)⟩⟩) (fun ho w11 q m11 hqn hat=>⟨_,_,_,_,rfl,pU (xs:=xs) (ys:=H9 g (KH xs)) hl2 (KC hwf) (by omega) ((hr3.nos M10).nos m11) (.inr ⟨_,_,rfl,hat.at⟩) fun w12 f la m12 hf=>⟨_,_,rfl,Ad.dup (ff rfl ?_)⟩⟩)
 ·refine last w12 true (m11.no m12) ⟨fun e=>(by cases e),fun e=>?_⟩;rw[ho]at e;cases e.1
 ·refine last w12 _ (m11.no m12) ?_;rw[Lq1];constructor
  ·intro h0;refine⟨ho,?_⟩;exact VU.1 fun hn=>h0 (hf.2 fun e=>hn e.symm)
  ·intro h0 h1;exact hf.1 h1 h0.2.symm
end
end Go.Z
end
section
open Go Go.Den Go.Proofs
namespace Go.Den
section
variable{P:Program}{w:World}
def MZ(P:Program)(T:TypeId)(k bytes:Nat):Prop:=∃ e i zv,P.underlying T=some (.slice e)/\P.info? e=some i/\i.size=k/\i.zero=some zv/\zv.cells.size=k/\i.bytes=bytes
def rP(P:Program)(T:TypeId):Option (Nat×Nat×Nat) :=
 match P.underlying T with
 | some (.slice e)=>match P.info? e with
  | some i=>match i.zero with
   | some z=>some (i.size,z.cells.size,i.bytes)
   | none=>none
  | none=>none
 | _=>none
theorem QZ{T:TypeId}{k bytes:Nat}(h:rP P T=some (k,k,bytes)):MZ P T k bytes:=by
 unfold rP at h
 split at h
 ·rename_i e he
  split at h
  ·rename_i i hi
   split at h
   ·rename_i zv hz;have h:=Lk h;simp only[Lu4]at h;exact⟨e,i,zv,he,hi,h.1,hz,h.2.1,h.2.2⟩
   ·cases h
  ·cases h
 ·cases h
theorem Ow.nilG{base k bytes:Nat}{T:TypeId}(hT:MZ P T k bytes):Ow P w base T k none 0 0 []:=by
 obtain⟨e,i,zv,he,_⟩:=hT;exact⟨e,he,World.ownsRow_nil w base e k⟩
theorem Ow.appG{base k bytes l c m c2:Nat}{T ty:TypeId}{a:Option Addr}{ad:Addr}{xs ys:List Value}(hT:MZ P T k bytes)(hk:0<k)(h:Ow P w base T k a l c xs)
  (hr:BG w (some ad) ys) (hl:ys.length=m*k) (hm:0<m) (h1:∀ v∈ys,v.oneCell'=true) (h63:(l+m)*bytes<=140737488355328) (hb:0<bytes) (hbase:base<=w.heap.size) :
  ∃ q c' w',(Builtin.append_ #[T,T] ty #[.slice a l c,.slice (some ad) m c2]).run P w=.ok (.slice (some q) (l+m) c') w'/\Ow P w' base T k (some q) (l+m) c' (xs++ys)/\Ab (fun x=>∃ q,a=some q/\x=q.block) w w' /\
   ((∃ q',a=some q'/\q.block=q'.block)\/w.heap.size<=q.block):=by
 obtain⟨e,i,zv,he,hi,hsz,hz,hzc,hby⟩:=hT;obtain⟨e',he',how⟩:=h;have:e'=e:=by rw[he]at he';simpa using he'.symm
 subst this;have hlm:l+m<=(l+m)*bytes:=Lh2 _ hb;have hmb:m*bytes<=(l+m)*bytes:=pP _ (by omega);have hcell:∀ j u,ys[j]?=some u->w.cell? (ad.add j)=some u:=by
  intro j u hj;rcases hr with hr | ⟨b,o,e,hat⟩
  ·subst hr;simp at hj
  ·simp at e;subst e;exact hat.cell hj
 obtain⟨v',w',hrun,how',hgr,_⟩:=run_append_own w base T ty e' i zv k bytes he hi hz hsz hby hzc hk (.slice a l c) l xs how ad m c2 ys hl hcell h1 (by simp[maxLen];omega) h63 hbase;have hmod:Ab (fun x=>∃ q,a=some q/\x=q.block) w w':=(Ab.grown hgr).mono fun x hx e=>by
  cases a with
  | none=>cases e
  | some q=>exact⟨q,rfl,by simpa [Value.ownBlock] using e.symm⟩
 rcases how.2 with ⟨hv,hx⟩|⟨g,cap,H5,hv,hbg,hg,hnc,hcm,hcs,htake⟩
 ·simp at hv;obtain⟨rfl,rfl,rfl⟩:=hv;have hr2:=run_append_nil (P:=P) w T ty e' i zv he hi hz ad m c2 ys (by rw[hsz];exact hl) hcell hm (by omega) (by rw[hby];omega);have hrun':=hrun;rw[hr2]at hrun';simp only[Result.ok.injEq]at hrun';obtain⟨rfl,_⟩:=hrun';rw[Tc]at how' |-;exact⟨_,_,w',hrun,⟨e',he,how'⟩,hmod,.inr (Le _)⟩
 ·simp at hv;obtain⟨rfl,rfl⟩:=hv;by_cases hroom:l+m<=c
  ·have hr2:=run_append_room (P:=P) w T ty e' i he hi g l c H5 hg ad m c2 ys (by rw[hsz];exact hl) hcell h1 hroom (by rw[hsz,hl,hcs,<- Lj4];exact pP _ hroom);have hrun':=hrun;rw[hr2]at hrun';simp only[Result.ok.injEq]at hrun';obtain⟨rfl,_⟩:=hrun';exact⟨_,_,w',hrun,⟨e',he,how'⟩,hmod,.inl ⟨_,rfl,rfl⟩⟩
  ·have holds:∀ j u,xs[j]?=some u->w.cell? ((⟨g,0,none⟩:Addr).add j)=some u:=how.cells (g:=g) rfl;have hr2:=run_append_grow (P:=P) w T ty e' i zv he hi hz ⟨g,0,none⟩ l c xs (by rw[hsz];exact how.1) holds ad m c2 ys (by rw[hsz];exact hl) hcell (by omega) (by omega) (growslice_fits (by omega) (by rw[hby];exact h63));have hrun':=hrun;rw[hr2]at hrun';simp only[Result.ok.injEq]at hrun';obtain⟨rfl,_⟩:=hrun'
   exact⟨_,_,w',hrun,⟨e',he,how'⟩,hmod,.inr (Le _)⟩
end
end Go.Den
end
section
open Go Go.Den Go.Proofs
namespace Go.Den
def Se(xs:List UInt8)(i:Nat):List UInt8:=xs.set (i / 8) (UInt8.ofNat ((xs.getD (i / 8) 0).toNat &&& (255-2 ^ (i % 8))))
theorem UI(xs:List UInt8)(i:Nat):(Se xs i).length=xs.length:=by simp[Se]
theorem mC(xs:List UInt8)(i:Nat):(UInt8.ofNat ((xs.getD (i / 8) 0).toNat &&& (255-2 ^ (i % 8)))).toNat=(xs.getD (i / 8) 0).toNat &&& (255-2 ^ (i % 8)):=by
 have h:=jC (xs:=xs) (k:=i / 8);have:(xs.getD (i / 8) 0).toNat &&& (255-2 ^ (i % 8))<=(xs.getD (i / 8) 0).toNat:=Nat.and_le_left;rw[Lp2];omega
theorem WC{xs:List UInt8}{i j:Nat}(hi:i<8*xs.length):Bw (Se xs i) j=(Bw xs j&&!decide (i=j)):=by
 unfold Bw Se;by_cases hj:i / 8=j / 8
 ·rw[<- hj,Lp,wO (by omega)];show(UInt8.ofNat _).toNat.testBit _=_;rw[mC,Ls3]
  congr 1
  have hp:=p8 (k:=i);have e:255-2 ^ (i % 8)=2 ^ 8-(2 ^ (i % 8)+1):=by omega
  rw[e,Nat.testBit_two_pow_sub_succ (by omega),Lb3];have h8:j % 8<8:=by omega
  rw[Li h8,lE]
  congr 1
  exact qF.2 ⟨fun h=>by omega,fun h=>by rw[h]⟩
 ·rw[Lp,wR hj,<- Lp,Lh (fun h=>hj (by rw[h]))];simp
def Ke(xs:List UInt8)(i:Nat)(on:Bool):List UInt8:=if on=true then YH (Se xs i) i else Se xs i
theorem Hm(xs:List UInt8)(i:Nat)(on:Bool):(Ke xs i on).length=xs.length:=by
 unfold Ke;split<;>simp[VD,UI]
theorem NK{xs:List UInt8}{i j:Nat}{on:Bool}(hi:i<8*xs.length):Bw (Ke xs i on) j=if i=j then on else Bw xs j:=by
 unfold Ke;cases on
 ·rw[if_neg (by simp),WC hi];by_cases h:i=j
  ·rw[if_pos h,Li h];simp
  ·rw[if_neg h,Lh h];simp
 ·rw[if_pos rfl,NL (by rw[UI];exact hi),WC hi];by_cases h:i=j
  ·rw[if_pos h,Li h];simp
  ·rw[if_neg h,Lh h];simp
def BQ(xs:List UInt8)(i:Nat):Bool:=!Bw xs i
def Nf(n f:Int):Int:=if f<0\/n<f then 0 else f
def upB(xs:List UInt8)(n:Int):Nat:=(min (max n 0) (8*xs.length)).toNat
def H7(xs:List UInt8)(n f:Int):Int :=
 match (List.range (upB xs n)).find? (fun i=>BQ xs i&&decide (Nf n f<=i))with
 | some i=>i
 | none=>match (List.range (upB xs n)).find? (BQ xs)with
  | some i=>i
  | none=>-1
theorem H6(p:Nat->Bool)(n:Nat):(List.range (n+1)).find? p=match (List.range n).find? p with | some i=>some i | none=>if p n=true then some n else none:=by
 rw[List.range_succ,List.find?_append];cases h:(List.range n).find? p with
 | some i=>rfl
 | none=>simp only[Option.none_or,List.find?_cons,List.find?_nil];cases p n<;>rfl
theorem TJ{p : Nat → Bool}{m n i : Nat}(h : (List.range m).find? p = some i)(hm : m ≤ n) : (List.range n).find? p = some i := by
  induction n with
  | zero => have : m = 0 := by omega
            subst this;exact h
  | succ n ih =>
    by_cases e : m = n + 1
    · rw[← e];exact h
    · rw[H6, ih (by omega)]
theorem Mf{p:Nat->Bool}{n i:Nat}(h:(List.range n).find? p=some i):p i=true/\i<n :=
 ⟨Lz4 h,W9.1 (Lq2 h)⟩
theorem To{xs:List UInt8}{n f:Int}(h:0<=H7 xs n f):∃ i:Nat,H7 xs n f=i/\Bw xs i=false/\(i:Int)<n/\i<8*xs.length:=by
 unfold H7 at h |-;have up:∀ i,i<upB xs n->(i:Int)<n/\i<8*xs.length:=fun i hi=>by unfold upB at hi;omega
 split at h
 ·rename_i i hi;obtain⟨h1,h2⟩:=Mf hi;refine⟨i,rfl,?_,up i h2⟩;simp only[BQ,Lr,lC]at h1;exact h1.1
 ·rename_i h0;rw[h0]at *
  split at h
  ·rename_i i hi;obtain⟨h1,h2⟩:=Mf hi;refine⟨i,rfl,?_,up i h2⟩;simpa [BQ] using h1
  ·omega
end Go.Den
end
section
open Go Go.Den Go.Proofs
namespace Go.Z
section
variable{w:World}{K:Value->World->Prop}
theorem Vp{n:Nat}(hn:n<=4096):∃ w',(Instr.makeSlice 57 (Yn n) (Yn n)).run Yt w=.ok (.slice (some ⟨w.heap.size,0,none⟩) n n) w'/\Av w' w.heap.size 0 (A6 (List.replicate n 0))/\Ab No w w'/\w'.heap.size=w.heap.size+1:=by
 obtain⟨w4,c1,c2,c3,c4⟩:=DK (P:=Yt) (w:=w) (n:=n) CF (by omega) (by omega) (by omega);refine⟨w4,c1,?_,c3,c4⟩;have e:List.replicate (n*1) (Value.int .u8 0)=A6 (List.replicate n 0):=by
  rw[A6,List.map_replicate,Lk4];rfl
 rw[<- e];exact c2
end
end Go.Z
end
section
open Go Go.Den Go.Proofs
namespace Go.Den
structure Nd where
 kind:Int
 links:Int
 size:Int
 id:Int
 p:List Int
deriving DecidableEq
theorem sR:∀{x y:List Int},iL x=iL y->x=y
 | [],[],_=>rfl
 | [],_::_,h=>by cases h
 | _::_,[],h=>by cases h
 | a::x,b::y,h=>by
  have h1:(Yn a)::iL x=(Yn b)::iL y:=h;obtain⟨h2,h3⟩:=Li5 h1;have h4:a=b:=by simpa using h2
  rw[sR h3,h4]
def ndL(i:Nd):List Int:=i.kind::i.links::i.size::i.id::i.p
def nV(i:Nd):List Value:=iL (ndL i)
def E3(i:Nd):Prop:=i.p.length=8
def nZ:Nd:=⟨0,0,0,0,[0,0,0,0,0,0,0,0]⟩
theorem jV:E3 nZ:=rfl
theorem A4{i:Nd}(h:E3 i):(nV i).length=12:=by unfold nV;rw[Bu];simp[ndL];exact h
theorem Bl(i:Nd):∀ v∈nV i,v.oneCell'=true:=HD _
def GI(i:Nd):Bool:=decide (0<=i.links/\i.links<=1000/\0<=i.size/\i.size<=1066496/\1<=i.id/\i.id<=4611686018427387904)
def nIn(n:Int):Bool:=decide (0<=n/\n<4096)
def O7(i:Nd):Bool:=i.p.all nIn&&(if i.kind=0 then decide (i=nZ)else if i.kind=2 then decide (i.size % 256=0)&&GI i else if i.kind=1 then GI i else if i.kind=3 then GI i&&decide (1<=i.size/\i.size<=255)else false)
end Go.Den
namespace Go.Z
theorem Am:D5 Yt 69=some 12:=by kernel_rfl
theorem AC:Hs Yt 69=some (nV nZ):=by kernel_rfl
theorem Eg:Al (Instr.build 69 #[]) (.agg ⟨nV nZ⟩):=fun w=>by kernel_rfl
theorem QO:MV Yt 54=some (8,1):=by kernel_rfl
theorem AaV:MV Yt 67=some (6,1):=by kernel_rfl
theorem qP:D5 Yt 54=some 8:=by kernel_rfl
theorem gU:Hs Yt 54=some (iL [0,0,0,0,0,0,0,0]):=by kernel_rfl
theorem UN:Hf Yt 176=some 1:=by kernel_rfl
theorem ieq(s t:Nd)(hs:E3 s)(ht:E3 t){o1 o2:Operand}:Al (G9 .eql 69 o1 o2 (.agg ⟨nV s⟩) (.agg ⟨nV t⟩)) (.bool (decide (s=t))):=fun w=>by
 have hc:∀ s:Nd,E3 s->F4 (List.replicate 12 (.i .i64)) (nV s):=fun s hs=>⟨by rw[A4 hs];rfl,fun j k v hk hv=>by
  have e1:k=.i .i64:=by
   rw[Lo3]at hk
   split at hk
   ·exact(Lk hk).symm
   ·cases hk
  subst e1;unfold nV iL at hv;rw[qC]at hv;cases hx2:(ndL s)[j]? with
  | none=>rw[hx2]at hv;cases hv
  | some c=>rw[hx2]at hv;cases hv;rfl⟩
 obtain⟨b,hb,h1,_⟩:=Rd (P:=Yt) (T:=69) (ks:=List.replicate 12 (.i .i64)) (by kernel_rfl) (by kernel_rfl) Am (o1:=o1) (o2:=o2) (hc s hs) (hc t ht) w;rw[h1];have:b=decide (s=t):=by
  rw[RH,hb,cH];constructor
  ·intro e;have e2:=sR e;obtain⟨a,b,c,d,p⟩:=s;obtain⟨a',b',c',d',p'⟩:=t;simpa [ndL] using e2
  ·intro e;rw[e]
 rw[this]
section
variable{w:World}{K:Value->World->Prop}
theorem kM{i:Nd}(_hw:E3 i)(hk:∀ w',Ab No w w'->K (.bool (GI i)) w'):A7 Yt GO #[.agg ⟨nV i⟩] w K:=by
 apply Wi;unfold OI;obtain⟨w1,a1,a2,a3,a4⟩:=AB (P:=Yt) (w:=w) (T:=69) (cs:=nV i);have l1:Ru (Instr.loadAt 3 (.pointer (some (Addr.add ⟨w.heap.size,0,none⟩ 1)))) w1 (Yn i.links) w1:=a2.at.fld Ah rfl;have l2:Ru (Instr.loadAt 2 (.pointer (some (Addr.add ⟨w.heap.size,0,none⟩ 2)))) w1 (Yn i.size) w1:=a2.at.fld Bq rfl;have l3:Ru (Instr.loadAt 2 (.pointer (some (Addr.add ⟨w.heap.size,0,none⟩ 3)))) w1 (Yn i.id) w1:=a2.at.fld Bq rfl
 have no:∀{p:Prop},(¬ (0<=i.links/\i.links<=1000/\0<=i.size/\i.size<=1066496/\1<=i.id/\i.id<=4611686018427387904))->∃ b2:Bool,A2 [.bool false] 0=.bool b2/\K (.bool b2) w1:=fun h=>⟨_,rfl,by
  have e:false=GI i:=by unfold GI;rw[Lh h]
  rw[e];exact hk _ a3⟩
 refine⟨_,w1,a1,Ad.dup ⟨_,l1,Aa (fun h1=>⟨_,l1,Aa (fun h2=>⟨_,l2,Aa (fun h3=>⟨_,l2,Aa (fun h4=>⟨_,l3,Aa (fun h5=>⟨_,l3,_,rfl,?_⟩) (fun h5=>no (p:=True) fun e=>Lc h5 (by omega))⟩) (fun h4=>no (p:=True) fun e=>Lc h4 (by omega))⟩) (fun h3=>no (p:=True) fun e=>Lc h3 (by omega))⟩) (fun h2=>no (p:=True) fun e=>Lc h2 (by omega))⟩) (fun h1=>no (p:=True) fun e=>Lc h1 (by omega))⟩⟩
 have h1:=Ld h1;have h2:=Ld h2;have h3:=Ld h3;have h4:=Ld h4;have h5:=Ld h5;have e:decide (i.id<=4611686018427387904)=GI i:=by
  unfold GI;by_cases h6:i.id<=4611686018427387904
  ·rw[Li h6,Li (show _/\_/\_/\_/\_/\_ from⟨h1,h2,h3,h4,h5,h6⟩)]
  ·rw[Lh h6,Lh fun e=>h6 e.2.2.2.2.2]
 rw[e];exact hk _ a3
theorem qR{i:Nd}(hw:E3 i)(hk:∀ w',Ab No w w'->K (.agg ⟨iL i.p⟩) w'):A7 Yt J7 #[.agg ⟨nV i⟩] w K:=by
 apply Zh;unfold SU;obtain⟨w1,a1,a2,a3,a4⟩:=AB (P:=Yt) (w:=w) (T:=69) (cs:=nV i);obtain⟨w2,b1,b2,b3,b4⟩:=Aw (P:=Yt) (w:=w1) (T:=54) gU;obtain⟨w3,c1,c2,c3,c4⟩:=Aw (P:=Yt) (w:=w2) (T:=54) gU;have m3:=a3.no (b3.no c3);have q1:=(a2.keep b3 id).keep c3 id;obtain⟨k,l,s,d,p⟩:=i;have hw:p.length=8:=hw
 match p,hw with
 | [p0,p1,p2,p3,p4,p5,p6,p7],_ =>
 have ad4:Addr.add ⟨w.heap.size,0,none⟩ 4=⟨w.heap.size,4,none⟩:=by rw[Ae]
 have hsub:At w3 w.heap.size 4 (iL [p0,p1,p2,p3,p4,p5]):=by
  have:=q1.at.sub (i:=4) (m:=6) (show 4+6<=12 by decide)
  exact this
 obtain⟨w4,d1,d2,d3,d4⟩:=GP (P:=Yt) (T:=176) (T2:=176) (ty:=3) (i:=0) (n:=8) (c:=8) (n2:=6) (c2:=6) (a2:=some ⟨w.heap.size,4,none⟩) (src:=iL [p0,p1,p2,p3,p4,p5]) UN c2.drew (by rw[Bu];decide) (.inr ⟨_,_,rfl,hsub.drew⟩) (by rw[Bu];rfl) (HD _);have d2:Av w4 w2.heap.size 0 (iL [p0,p1,p2,p3,p4,p5,0,0]):=d2;have q4:=q1.drew.keep d3 (fun e=>by have:=a3.size;omega)
 obtain⟨w5,e1,e2,e3,e4⟩:=d2.store (P:=Yt) (T:=3) (i:=6) (v:=Yn p6) Ah (show 6<8 by decide) rfl;obtain⟨w6,f1,f2,f3,f4⟩:=e2.store (P:=Yt) (T:=3) (i:=7) (v:=Yn p7) Ah (show 7<8 by decide) rfl;have f2:Av w6 w2.heap.size 0 (iL [p0,p1,p2,p3,p4,p5,p6,p7]):=f2;have M6:Ab No w2 w6:=((c3.drew.own d3 (Le _)).own e3 (Le _)).own f3 (Le _);have q2:=b2.keep M6 id
 obtain⟨w7,g1,g2,g3,g4⟩:=q2.put (T:=54) (vs:=iL [p0,p1,p2,p3,p4,p5,p6,p7]) qP (by rw[Bu];rfl) (by rw[Bu];rfl) (HD _);refine⟨_,w1,a1,_,w2,b1,_,w3,c1,_,_,_,AN QO,?_⟩;rw[ad4];refine⟨_,_,_,AN AaV,_,w4,d1,_,q4.at.fld (j:=10) Ah rfl,_,q4.at.fld (j:=11) Ah rfl,_,Bo QO (by decide) (by decide),w5,?_,_,Bo QO (by decide) (by decide),w6,?_,_,f2.at.all qP (by rw[Bu];rfl),w7,g1,_,g2.at.all qP (by rw[Bu];rfl),?_⟩
 ·rw[Ae];exact e1
 ·rw[Ae];exact f1
 ·exact hk w7 (a3.no ((b3.no M6).own g3 (Le _)))
theorem Vj{i:Nd}(hw:E3 i)(hk:∀ w',Ab No w w'->K (.bool (O7 i)) w'):A7 Yt Cc #[.agg ⟨nV i⟩] w K:=by
 apply Wh;unfold OH;obtain⟨w1,a1,a2,a3,a4⟩:=AB (P:=Yt) (w:=w) (T:=69) (cs:=nV i);refine⟨_,w1,a1,_,a2.at.all Am (A4 hw),qR hw fun w2 m2=>⟨_,rfl,?_⟩⟩;have M2:=a3.no m2;have q2:=a2.keep m2 id;have hw8:i.p.length=8:=hw;refine⟨fun x w3=>∃(j:Nat)(y z:Value),j<=8/\x=[y,Yn j,z]/\(i.p.take j).all nIn=true/\w3=w2,fun x _=>(8-nI x 1).toNat,⟨0,_,_,by omega,rfl,by simp,rfl⟩,?_⟩
 rintro x w3 ⟨j,y,z,hj,rfl,hall,rfl⟩;refine⟨_,rfl,Aa (fun hl=>?_) (fun hl=>?_)⟩
 ·have hl:=Ld hl;have hjp:j<i.p.length:=by omega
  refine⟨i.p[j],Ig Tryz.underlying54 QO Tryz.underlying3 (by simp) (by simp) (by omega) (Kb hjp),Ad.cut (fun z w4=>w4=w3/\z=[.bool (!nIn i.p[j])]) (Aa (fun h=>⟨rfl,?_⟩) (fun h=>⟨rfl,?_⟩)) ?_⟩
  ·have h:=Ld h;unfold nIn;rw[Lh (by omega)];rfl
  ·have h:=Lc h;have e:decide (i.p[j] >= 4096)=!nIn i.p[j]:=by
    unfold nIn;by_cases h2:i.p[j] >= 4096
    ·rw[Li h2,Lh (show ¬ (0<=i.p[j]/\i.p[j]<4096) by omega)];rfl
    ·rw[Lh h2,Li (show 0<=i.p[j]/\i.p[j]<4096 by omega)];rfl
   rw[e]
  rintro z w4 ⟨rfl,rfl⟩;refine⟨_,rfl,Aa (fun h=>?_) (fun h=>?_)⟩
  ·rw[lC]at h;have e:O7 i=false:=by
    unfold O7;have:i.p.all nIn=false:=List.all_eq_false.2 ⟨i.p[j],Lm2 hjp,by rw[h];simp⟩;rw[this];rfl
   rw[<- e];exact hk _ M2
  ·rw[Lf2]at h;rw[Ag (x:=(j:Int)+1) (by omega) (by omega)];exact⟨⟨j+1,_,_,by omega,by simp[A2];exact⟨rfl,rfl⟩,by rw[Lx hjp,List.all_append,hall];simp[h],rfl⟩,by simp[nI,A2];omega⟩
 have hl:=Lc hl;have hj8:j=8:=by omega
 subst hj8;rw[Lf (by omega)]at hall;have lk:Ru (Instr.loadAt 3 (.pointer (some (Addr.add ⟨w.heap.size,0,none⟩ 0)))) w3 (Yn i.kind) w3:=q2.at.fld Ah rfl;have ls:∀{w':World},Ab No w3 w'->Ru (Instr.loadAt 2 (.pointer (some (Addr.add ⟨w.heap.size,0,none⟩ 2)))) w' (Yn i.size) w':=fun m=>(q2.keep m id).at.fld Bq rfl;have ek:O7 i=(if i.kind=0 then decide (i=nZ)else if i.kind=2 then decide (i.size % 256=0)&&GI i else if i.kind=1 then GI i else if i.kind=3 then GI i&&decide (1<=i.size/\i.size<=255)else false):=by unfold O7;rw[hall,lE]
 rw[ek]at hk;refine⟨_,lk,Ad.cut (fun _ w11=>w11=w3/\i.kind≠0/\i.kind≠2/\i.kind≠1/\i.kind≠3) (Ad.cut (fun _ w9=>w9=w3/\((i.kind=2/\i.size % 256=0)\/i.kind=1)) ?_ ?_) ?_⟩
 ·rw[Fm,Fm,Fm,Fm];refine Aa (fun h=>?_) (fun h=>Aa (fun h2=>⟨_,ls (Ab.refl _ _),?_⟩) (fun h2=>Aa (fun h3=>⟨rfl,.inr (Ld h3)⟩) (fun h3=>Aa (fun h4=>?_) (fun h4=>⟨rfl,Lc h,Lc h2,Lc h3,Lc h4⟩))))
  ·have h:=Ld h;obtain⟨w5,b1,b2,b3,b4⟩:=Aw (P:=Yt) (w:=w3) (T:=69) AC;obtain⟨w6,c1,c2,c3,c4⟩:=b2.put (T:=69) (vs:=nV nZ) Am rfl rfl (Bl _);have m6:Ab No w3 w6:=b3.own c3 (Le _);refine⟨_,Eg,_,w5,b1,w6,c1,_,(q2.keep m6 id).at.all Am (A4 hw),_,c2.at.all Am rfl,_,ieq i nZ hw jV,?_⟩;rw[if_pos h]at hk;exact hk w6 (M2.no m6)
  ·have h:=Lc h;have h2:=Ld h2;rw[DN];have hm:Int.tmod i.size 256=0↔i.size % 256=0:=by
    rw[<- Int.dvd_iff_tmod_eq_zero,Int.dvd_iff_emod_eq_zero]
   refine Aa (fun h3=>?_) (fun h3=>⟨rfl,.inl ⟨h2,hm.1 (VU.1 (Lc h3))⟩⟩);have h3:=Ld h3;rw[if_neg h,if_pos h2,Lh fun e=>h3 (hm.2 e),Le5]at hk;exact hk _ M2
  ·have h:=Lc h;have h2:=Lc h2;have h3:=Lc h3;have h4:=Ld h4;rw[if_neg h,if_neg h2,if_neg h3,if_pos h4]at hk;refine Ad.cut (fun z w8=>Ab No w3 w8/\z=[.bool (GI i&&decide (1<=i.size/\i.size<=255))]) ⟨_,q2.at.all Am (A4 hw),kM hw fun w7 m7=>⟨_,rfl,Aa (fun h5=>⟨_,ls m7,Aa (fun h6=>⟨_,ls m7,m7,?_⟩) (fun h6=>⟨m7,?_⟩)⟩) (fun h5=>⟨m7,?_⟩)⟩⟩ ?_
   ·have h6:=Ld h6;rw[h5,lE];by_cases h7:i.size<=255
    ·rw[Li h7,Li (show _/\_ from⟨h6,h7⟩)]
    ·rw[Lh h7,Lh fun e=>h7 e.2]
   ·have h6:=Lc h6;rw[Lh (show ¬ (1<=i.size/\i.size<=255)from fun e=>h6 e.1),Bool.and_false]
   ·rw[h5];rfl
   ·rintro z w8 ⟨m8,rfl⟩;exact⟨_,rfl,hk _ (M2.no m8)⟩
 ·rintro z w9 ⟨rfl,hc⟩;refine⟨_,q2.at.all Am (A4 hw),kM hw fun w10 m10=>⟨_,rfl,?_⟩⟩;rcases hc with ⟨h2,h3⟩|h1
  ·rw[if_neg (by omega),if_pos h2,Li h3,lE]at hk;exact hk _ (M2.no m10)
  ·rw[if_neg (by omega),if_neg (by omega),if_pos h1]at hk;exact hk _ (M2.no m10)
 ·rintro z w11 ⟨rfl,h1,h2,h3,h4⟩;rw[if_neg h1,if_neg h2,if_neg h3,if_neg h4]at hk;exact hk _ M2
end
end Go.Z
end
section
open Go Go.Den Go.Proofs
namespace Go.Den
theorem jU{i:Nd}(h:O7 i=true):0<=i.kind/\i.kind<=3/\0<=i.links/\i.links<=1000/\0<=i.size/\i.size<=1066496/\0<=i.id/\i.id<=4611686018427387904/\∀ n∈i.p,0<=n/\n<4096:=by
 unfold O7 at h;rw[Lr]at h;obtain⟨h1,h2⟩:=h;have hp:∀ n∈i.p,0<=n/\n<4096:=fun n hn=>Ld (cI.1 h1 n hn);have hs:GI i=true->0<=i.links/\i.links<=1000/\0<=i.size/\i.size<=1066496/\1<=i.id/\i.id<=4611686018427387904:=fun h=>Ld h
 split at h2
 ·have e:=Ld h2;subst e;exact⟨by decide,by decide,by decide,by decide,by decide,by decide,by decide,by decide,hp⟩
 split at h2
 ·rw[Lr]at h2
  have:=hs h2.2
  exact⟨by omega,by omega,by omega,by omega,by omega,by omega,by omega,by omega,hp⟩
 split at h2
 ·have:=hs h2
  exact⟨by omega,by omega,by omega,by omega,by omega,by omega,by omega,by omega,hp⟩
 split at h2
 ·rw[Lr]at h2
  have:=hs h2.1
  exact⟨by omega,by omega,by omega,by omega,by omega,by omega,by omega,by omega,hp⟩
 ·cases h2
end Go.Den
namespace Go.Z
def IL(i:Nd):List UInt8:=[UInt8.ofNat i.kind.toNat,0]++AG 2 i.links.toNat++AG 4 i.size.toNat++AG 8 i.id.toNat
def Cn(p:List Int):List UInt8:=p.flatMap fun n=>AG 2 n.toNat
def Ek(i:Nd):List UInt8:=IL i++Cn i.p++List.replicate 32 0
theorem PM(i:Nd):(IL i).length=16:=by simp[IL]
theorem LC:∀ p:List Int,(Cn p).length=2*p.length
 | []=>rfl
 | a::r=>by
  have e:Cn (a::r)=AG 2 a.toNat++Cn r:=rfl;rw[e,Lj,AL,LC r,pH];omega
theorem IM{i:Nd}(hw:E3 i):(Ek i).length=64:=by
 have hw:i.p.length=8:=hw;unfold Ek;rw[Lj,Lj,PM,LC,hw,Lw]
theorem aK{p:List Int}{j:Nat}(hj:j<p.length):Cn (p.take (j+1))=Cn (p.take j)++AG 2 p[j].toNat:=by
 unfold Cn;rw[Lx hj,List.flatMap_append];simp
section
variable{w:World}{K:Value->World->Prop}
set_option maxRecDepth 4000 in
theorem aL{i:Nd}(hw:E3 i)(h1:O7 i=false->∀ w',Ab No w w'->K (.tuple #[.slice none 0 0,Yn 1]) w')
  (h2:O7 i=true->∀ w' q,Ab No w w'->w.heap.size<=q->Av w' q 0 (A6 (Ek i))->K (.tuple #[.slice (some ⟨q,0,none⟩) 64 64,Yn 0]) w'):A7 Yt J6 #[.agg ⟨nV i⟩] w K:=by
 apply Zg;unfold ST;obtain⟨w1,a1,a2,a3,a4⟩:=AB (P:=Yt) (w:=w) (T:=69) (cs:=nV i);refine⟨_,w1,a1,_,a2.at.all Am (A4 hw),Vj hw fun w2 m2=>⟨_,rfl,Aa (fun h=>h1 (by simpa using h) _ (a3.no m2)) (fun h=>?_)⟩⟩;have ho:O7 i=true:=by simpa using h
 have hb:=jU ho;have hw8:i.p.length=8:=hw;obtain⟨w3,c1,c2,c3,c4⟩:=Vp (w:=w2) (n:=64) (by omega);have hne:¬ (w.heap.size=w2.heap.size):=by have:=m2.size;omega
 have q3:=(a2.keep m2 id).keep c3 id;obtain⟨w4,d1,d2,d3,d4⟩:=c2.store (P:=Yt) (T:=5) (i:=0) (v:=.int .u8 ((i.kind.toNat:Nat):Int)) JR (by rw[Ai,Lw];omega) rfl;have ek:IntKind.u8.wrap i.kind=((i.kind.toNat:Nat):Int):=by rw[NC];omega
 rw[LN _ _ _ (by omega)]at d2;have d2:Av w4 w2.heap.size 0 (A6 ([UInt8.ofNat i.kind.toNat,0]++List.replicate 62 0)):=d2;have M4:Ab No w2 w4:=c3.own d3 (Le _);have q4:=q3.keep d3 (fun e=>hne e);refine⟨_,_,_,w3,c1,_,q3.at.fld Ah rfl,_,A8 Aj (by omega) (by omega),w4,?_,?_⟩
 ·rw[Ae,ek];exact d1
 refine⟨_,_,_,BH Aj (by omega) (by omega) (by omega),_,q4.at.drew.fld Ah rfl,?_⟩;rw[show(2:Int).toNat=2 from rfl,Ge (by omega)];refine V5 (m:=2) d2.drew rfl (by omega) rfl (by omega) (by omega) (by omega) fun w5 m5 z5 d5=>⟨rfl,?_⟩;have q5:=q4.drew.keep m5 (fun e=>hne e);have M5:=M4.drew.own m5 (Le _);refine⟨_,_,_,BH Aj (by omega) (by omega) (by omega),_,q5.at.drew.fld Bq rfl,?_⟩
 rw[show(4:Int).toNat=4 from rfl,Ge (by omega)];refine V5 (m:=4) d5.drew (by simp) (by omega) rfl (by omega) (by omega) (by omega) fun w6 m6 z6 d6=>⟨rfl,?_⟩;have q6:=q5.drew.keep m6 (fun e=>hne e);have M6:=M5.drew.own m6 (Le _);refine⟨_,_,_,BH Aj (by omega) (by omega) (by omega),_,q6.at.drew.fld Bq rfl,?_⟩;rw[show(8:Int).toNat=8 from rfl,Ge (by omega)]
 refine V5 (m:=8) d6.drew (by simp) (by omega) rfl (by omega) (by omega) (by omega) fun w7 m7 z7 d7=>⟨rfl,?_⟩;have q7:=q6.drew.keep m7 (fun e=>hne e);have M7:=M6.drew.own m7 (Le _);refine⟨_,q7.at.all Am (A4 hw),qR hw fun w8 m8=>⟨_,rfl,?_⟩⟩;have M8:=M7.no m8;have d8:Av w8 w2.heap.size 0 (A6 ((IL i++Cn (i.p.take 0))++List.replicate 48 0)):=by
  rw[pX,show Cn []=[]from rfl,iB];exact d7.keep m8 id
 refine⟨fun x w9=>∃ j:Nat,j<=8/\x=[Yn j]/\Av w9 w2.heap.size 0 (A6 ((IL i++Cn (i.p.take j))++List.replicate (48-2*j) 0))/\Ab No w2 w9,fun x _=>(8-nI x 0).toNat,⟨0,by omega,rfl,d8,M8⟩,?_⟩;rintro x w9 ⟨j,hj,rfl,hat,m9⟩;refine⟨_,rfl,Aa (fun hl=>?_) (fun hl=>?_)⟩
 ·have hl:=Ld hl;have hjp:j<i.p.length:=by omega
  have hv:=hb.2.2.2.2.2.2.2.2 _ (Lm2 hjp);have e1:Yw (16+(Yw ((j:Int)*2)))=((16+2*j:Nat):Int):=by rw[Ag (x:=(j:Int)*2) (by omega) (by omega),Ag (by omega) (by omega)];omega
  have e2:Yw (16+(Yw ((Yw ((j:Int)+1))*2)))=((18+2*j:Nat):Int):=by rw[Ag (x:=(j:Int)+1) (by omega) (by omega),Ag (x:=((j:Int)+1)*2) (by omega) (by omega),Ag (by omega) (by omega)];omega
  rw[e1,e2];refine⟨i.p[j],Ig Tryz.underlying54 QO Tryz.underlying3 (by simp) (by simp) (by omega) (Kb hjp),_,_,_,BH Aj (by omega) (by omega) (by omega),?_⟩;rw[show((16+2*j:Nat):Int).toNat=16+2*j by omega,Ge (by omega),show((18+2*j:Nat):Int).toNat-(16+2*j)=2 by omega];refine V5 (m:=2) hat (by rw[Lj,PM,LC,pK];omega) (by omega) rfl hv.1 (by omega) (by omega) fun w10 m10 z10 d10=>⟨rfl,?_⟩
  rw[Ag (x:=(j:Int)+1) (by omega) (by omega)];rw[VV (IL i),<- aK hjp,show 48-2*j-2=48-2*(j+1) by omega]at d10;exact⟨⟨j+1,by omega,by simp,d10,m9.own m10 (Le _)⟩,by simp[nI,A2];omega⟩
 ·have hl:=Lc hl;have hj8:j=8:=by omega
  subst hj8;rw[Lf (by omega)]at hat;exact h2 ho w9 _ (a3.no (m2.no m9)) (QK (by omega) m2.size) hat
end
def Ft(xs:List UInt8)(k:Nat):Int:=D6 ((xs.drop (16+2*k)).take 2)
def Wu(xs:List UInt8)(j:Nat):List Int:=(List.range 8).map fun k=>if k<j then Ft xs k else 0
def CZ(xs:List UInt8):Nd:=⟨(xs.getD 0 0).toNat,D6 ((xs.drop 2).take 2),D6 ((xs.drop 4).take 4),Yw (D6 ((xs.drop 8).take 8)),Wu xs 8⟩
def Y8(xs:List UInt8):Nd:={ CZ xs with p:=[0,0,0,0,0,0,0,0] }
theorem uH(xs:List UInt8):E3 (CZ xs):=rfl
def PO(xs:List UInt8):Nd×Int:=if xs.length≠64 then(nZ,4)else if xs.getD 1 0=0/\(xs.drop 32).all (·==0)=true/\O7 (CZ xs)=true then(CZ xs,0)else(nZ,8)
theorem jO(xs:List UInt8):E3 (PO xs).1:=by
 unfold PO;split
 ·rfl
 split<;>rfl
theorem tO(xs:List UInt8)(j:Nat):(Wu xs j).length=8:=rfl
theorem tP{xs:List UInt8}{j:Nat}(hj:j<8):(iL (Wu xs j)).set j (Yn (Ft xs j))=iL (Wu xs (j+1)):=by
 match j,hj with
 | 0,_=>rfl
 | 1,_=>rfl
 | 2,_=>rfl
 | 3,_=>rfl
 | 4,_=>rfl
 | 5,_=>rfl
 | 6,_=>rfl
 | 7,_=>rfl
theorem dS(a b c d:Int):Al (Instr.build 69 #[(0,Yn a),(1,Yn b),(2,Yn c),(3,Yn d)]) (.agg ⟨nV ⟨a,b,c,d,[0,0,0,0,0,0,0,0]⟩⟩):=fun w=>by kernel_rfl
section
variable{w:World}{K:Value->World->Prop}
theorem sM{a:Option Addr}{l c i m m' c':Nat}{xs:List UInt8}{Q:Value->World->Prop}(hl:xs.length=l)(hc:l<=c)(hr:BG w a (A6 xs))(hi:i+m<=l)(hm:m<=8)(hm':m'=m)(hk:Q (.int .u64 (D6 ((xs.drop i).take m):Int)) w):A7 Yt AF #[.slice (CL a c i 1) m' c'] w Q:=by
 subst hm';refine Zq (xs:=(xs.drop i).take m') (by simp;omega) (hr.cut (by omega) (by omega)) (by omega) ?_;rw[Lf (i:=8) (by simp;omega)];exact hk
set_option maxRecDepth 8000 in
theorem sT{a : Option Addr}{l c : Nat}{xs : List UInt8}(hl : xs.length = l)(hc : l ≤ c)(hr : BG w a (A6 xs))(h63 : l ≤ 1048576)
    (hk : ∀ w', Ab No w w' → K (.tuple #[.agg ⟨nV (PO xs).1⟩, Yn (PO xs).2]) w') : A7 Yt MP #[.slice a l c] w K := by
  apply Ze;unfold SR;obtain⟨w1, b1, b2, b3, b4⟩ := Aw (P := Yt) (w := w) (T := 69) AC;have fin : ∀(w' : World)(i : Nd)(e : Int), Ab No w1 w' → (i, e) = PO xs → ∃ w3 : World, Gr (Instr.storeAt 69 (Yo w.heap.size) (.agg ⟨nV i⟩)) w' w3 ∧ ∃ gR2 : Array Value, Ru (Instr.loadAt 69 (Yo w.heap.size)) w3 (.agg gR2) w3 ∧ K (.tuple #[.agg gR2, Yn e]) w3 := fun w' i e m he => by
    have hw : E3 i := by have := jO xs;rw[← he]at this;exact this
    obtain⟨w3, c1, c2, c3, c4⟩ := (b2.keep m id).put (T := 69) (vs := nV i) Am rfl (A4 hw) (Bl _);refine⟨w3, c1, _, c2.at.all Am (A4 hw), ?_⟩
    have := hk w3 ((b3.no m).own c3 (Le _))
    rw[← he]at this;exact this
  refine⟨_, w1, b1, ?_⟩;rw[DN];refine Aa (fun h => ⟨_, Eg, ?_⟩) (fun h => ?_)
  · have h := Ld h
    exact fin w1 nZ 4 (Ab.refl _ _) (by unfold PO;rw[if_pos (by omega)])
  have hl2 : xs.length = 64 := by have := Lc h;omega
  have hl' : l = 64 := by omega
  subst hl';have hr1 := hr.nos b3;have h00 : 0 < xs.length := by omega
  obtain⟨bb, oo, rfl, _⟩ := PV hr h00;have at0 : ∀{w' : World}, Ab No w1 w' → At w' bb oo (A6 xs) := fun m => by
    obtain⟨b', o', e, h⟩ := PV (hr1.nos m) h00;cases e;exact h
  have ex0 : (xs.getD 0 0) = xs[0] := by rw[Lp, XM h00];rfl
  have ex1 : (xs.getD 1 0) = xs[1]'(by omega) := by rw[Lp, XM (by omega : 1 < xs.length)];rfl
  have l0 : ∀{w' : World}, Ab No w1 w' → Ru (Instr.loadAt 5 (.pointer (some (Addr.add ⟨bb, oo, none⟩ ((0 : Int).toNat * 1))))) w' (.int .u8 (xs[0].toNat : Int)) w' := fun m => by
    rw[Ae];exact(at0 m).load (i := 0) JR (CR h00)
  have l1 : ∀{w' : World}, Ab No w1 w' → Ru (Instr.loadAt 5 (.pointer (some (Addr.add ⟨bb, oo, none⟩ ((1 : Int).toNat * 1))))) w' (.int .u8 ((xs[1]'(by omega)).toNat : Int)) w' := fun m => by
    rw[Ae];exact(at0 m).load (i := 1) JR (CR (by omega))
  have n2 : D6 ((xs.drop 2).take 2) < 256 ^ 2 := JK (by omega);have n4 : D6 ((xs.drop 4).take 4) < 256 ^ 4 := JK (by omega);have hx0 := xs[0].toNat_lt;have eN : (⟨Yw (xs[0].toNat : Int), Yw (D6 ((xs.drop 2).take 2) : Int), Yw (D6 ((xs.drop 4).take 4) : Int), Yw (D6 ((xs.drop 8).take 8) : Int), [0, 0, 0, 0, 0, 0, 0, 0]⟩ : Nd) = Y8 xs := by
    unfold Y8 CZ;rw[Ag (x := (xs[0].toNat : Int)) (by omega) (by omega), Ag (x := (D6 ((xs.drop 2).take 2) : Int)) (by omega) (by omega), Ag (x := (D6 ((xs.drop 4).take 4) : Int)) (by omega) (by omega), ex0]
  have tail : ∀(w5 : World)(q : Nat), Ab No w1 w5 → w1.heap.size ≤ q → Av w5 q 0 (nV nZ) →
      ∃ w7 : World, Gr (Instr.storeAt 69 (Yo q) (.agg ⟨nV (Y8 xs)⟩)) w5 w7 ∧ ∃ q5 : Addr, ∃ w8 : World, Ru (Instr.alloc 54 true (.tuple #[])) w7 (.pointer (some q5)) w8 ∧ AS (fun k x w9 =>
       ∃ n28 : Int, A2 x 0 = Yn n28 ∧ (bif decide (n28 < 8)then
       ∃(a40 : Option Addr)(l40 c40 : Nat), Al (Instr.sliceAt 57 (.slice (some ⟨bb, oo, none⟩) 64 c) (some (Yn (Yw (16 + (Yw (n28 * 2)))))) (some (Yn (Yw (16 + (Yw ((Yw (n28 + 1)) * 2)))))) none) (.slice a40 l40 c40) ∧ A7 Yt AF #[.slice a40 l40 c40] w9 fun r41 w10 => ∃ n41 : Int, r41 = .int .u64 n41 ∧ ∃ q43 : Addr, Al (Instr.indexAt 54 (.pointer (some q5)) (Yn n28)) (.pointer (some q43)) ∧ ∃ w11 : World, Gr (Instr.storeAt 3 (.pointer (some q43)) (Yn (Yw n41))) w10 w11 ∧ k [Yn (Yw (n28 + 1))] w11
       else
       ∃(a46 : Option Addr)(l46 c46 : Nat), Al (Instr.sliceAt 67 (.pointer (some (Addr.add ⟨q, 0, none⟩ 4))) none none none) (.slice a46 l46 c46) ∧ ∃(a47 : Option Addr)(l47 c47 : Nat), Al (Instr.sliceAt 54 (.pointer (some q5)) none none none) (.slice a47 l47 c47) ∧ ∃ n48 : Int, ∃ w12 : World, Ru (Builtin.copy_ #[176, 176] 3 #[.slice a46 l46 c46, .slice a47 l47 c47]) (Af w9) (Yn n48) w12 ∧ ∃ q49 : Addr, Al (Instr.indexAt 54 (.pointer (some q5)) (Yn 6)) (.pointer (some q49)) ∧ ∃ n50 : Int, Ru (Instr.loadAt 3 (.pointer (some q49))) w12 (Yn n50) w12 ∧ ∃ q51 : Addr, Al (Instr.indexAt 54 (.pointer (some q5)) (Yn 7)) (.pointer (some q51)) ∧ ∃ n52 : Int, Ru (Instr.loadAt 3 (.pointer (some q51))) w12 (Yn n52) w12 ∧ ∃ w13 : World, Gr (Instr.storeAt 3 (.pointer (some (Addr.add ⟨q, 0, none⟩ 10))) (Yn n50)) w12 w13 ∧ ∃ w14 : World, Gr (Instr.storeAt 3 (.pointer (some (Addr.add ⟨q, 0, none⟩ 11))) (Yn n52)) w13 w14 ∧ Ad (fun k_2 => ∃ q56 : Addr, Al (Instr.indexAt 57 (.slice (some ⟨bb, oo, none⟩) 64 c) (Yn 1)) (.pointer (some q56)) ∧ ∃ n57 : Int, Ru (Instr.loadAt 5 (.pointer (some q56))) w14 (.int .u8 n57) w14 ∧ (bif n57 != 0 then k_2 [.bool true] w14 else ∃(a61 : Option Addr)(l61 c61 : Nat), Al (Instr.sliceAt 57 (.slice (some ⟨bb, oo, none⟩) 64 c) (some (Yn 32)) none none) (.slice a61 l61 c61) ∧ A7 Yt CJ #[.slice a61 l61 c61] w14 fun r62 w15 => ∃ b62 : Bool, r62 = .bool b62 ∧ (bif !b62 then k_2 [.bool true] w15 else ∃ g66 : Array Value, Ru (Instr.loadAt 69 (Yo q)) w15 (.agg g66) w15 ∧ A7 Yt Cc #[.agg g66] w15 fun r67 w16 => ∃ b67 : Bool, r67 = .bool b67 ∧ k_2 [.bool (!b67)] w16))) fun x_2 w17 =>
       ∃ b69 : Bool, A2 x_2 0 = .bool b69 ∧ (bif b69 then
       ∃ g70 : Array Value, Al (Instr.build 69 #[]) (.agg g70) ∧ ∃ w18 : World, Gr (Instr.storeAt 69 (Yo w.heap.size) (.agg g70)) w17 w18 ∧ ∃ gR2_2 : Array Value, Ru (Instr.loadAt 69 (Yo w.heap.size)) w18 (.agg gR2_2) w18 ∧ K (.tuple #[.agg gR2_2, Yn 8]) w18
       else
       ∃ g71 : Array Value, Ru (Instr.loadAt 69 (Yo q)) w17 (.agg g71) w17 ∧ ∃ w19 : World, Gr (Instr.storeAt 69 (Yo w.heap.size) (.agg g71)) w17 w19 ∧ ∃ gR2_3 : Array Value, Ru (Instr.loadAt 69 (Yo w.heap.size)) w19 (.agg gR2_3) w19 ∧ K (.tuple #[.agg gR2_3, Yn 0]) w19))) [Yn 0] w8 := by
    intro w5 q m5 hq hat;obtain⟨w7, c1, c2, c3, c4⟩ := hat.put (T := 69) (vs := nV (Y8 xs)) Am rfl rfl (Bl _);have m7 : Ab No w1 w7 := m5.own c3 hq;obtain⟨w8, d1, d2, d3, d4⟩ := Aw (P := Yt) (w := w7) (T := 54) gU;have hqn : ¬ (q = w7.heap.size) := by have := c2.lt;omega
    refine⟨w7, c1, _, w8, d1, ?_⟩;refine⟨fun x w9 => ∃ j : Nat, j ≤ 8 ∧ x = [Yn j] ∧ Av w9 w7.heap.size 0 (iL (Wu xs j)) ∧ Ab No w7 w9, fun x _ => (8 - nI x 0).toNat, ⟨0, by omega, rfl, d2, d3⟩, ?_⟩;rintro x w9 ⟨j, hj, rfl, ha, m9⟩;refine⟨_, rfl, Aa (fun hl => ?_) (fun hl => ?_)⟩
    · have hl := Ld hl
      have e1 : Yw (16 + (Yw ((j : Int) * 2))) = ((16 + 2 * j : Nat) : Int) := by rw[Ag (x := (j : Int) * 2) (by omega) (by omega), Ag (by omega) (by omega)];omega
      have e2 : Yw (16 + (Yw ((Yw ((j : Int) + 1)) * 2))) = ((18 + 2 * j : Nat) : Int) := by rw[Ag (x := (j : Int) + 1) (by omega) (by omega), Ag (x := ((j : Int) + 1) * 2) (by omega) (by omega), Ag (by omega) (by omega)];omega
      rw[e1, e2];have nj : D6 ((xs.drop (16 + 2 * j)).take 2) < 256 ^ 2 := JK (by omega);refine⟨_, _, _, BH Aj (by omega) (by omega) (by omega), ?_⟩;rw[show((16 + 2 * j : Nat) : Int).toNat = 16 + 2 * j by omega];refine sM (i := 16 + 2 * j) (m := 2) hl2 hc (hr1.nos (m7.no m9)) (by omega) (by omega) (by omega) ⟨_, rfl, _, Bo QO (by omega) (by omega), ?_⟩;rw[Ag (x := (D6 ((xs.drop (16 + 2 * j)).take 2) : Int)) (by omega) (by omega), Ae, show(j : Int).toNat * 1 = j by omega]
      obtain⟨w11, p1, p2, p3, p4⟩ := ha.store (P := Yt) (T := 3) (i := j) (v := Yn (Ft xs j)) Ah (by rw[Bu, tO];omega) rfl;rw[tP (by omega)]at p2;rw[Ag (x := (j : Int) + 1) (by omega) (by omega)];exact⟨w11, p1, ⟨j + 1, by omega, by simp, p2, m9.own p3 (Le _)⟩, by simp[nI, A2];omega⟩
    have hl := Lc hl;have hj8 : j = 8 := by omega
    subst hj8;have ad4 : Addr.add ⟨q, 0, none⟩ 4 = ⟨q, 4, none⟩ := by rw[Ae]
    have c9 := c2.keep m9 id;have e8 : iL (Wu xs 8) = [Yn (Ft xs 0), Yn (Ft xs 1), Yn (Ft xs 2), Yn (Ft xs 3), Yn (Ft xs 4), Yn (Ft xs 5), Yn (Ft xs 6), Yn (Ft xs 7)] := rfl;obtain⟨w12, r1, r2, r3, r4⟩ := GP (P := Yt) (T := 176) (T2 := 176) (ty := 3) (i := 4) (n := 6) (c := 6) (n2 := 8) (c2 := 8) (a2 := some ⟨w7.heap.size, 0, none⟩) (src := iL (Wu xs 8)) UN c9.drew (show 4 + 6 * 1 ≤ 12 by decide) (.inr ⟨_, _, rfl, ha.at.drew⟩) rfl (HD _)
    have r2 : Av w12 q 0 (nV { CZ xs with p := [Ft xs 0, Ft xs 1, Ft xs 2, Ft xs 3, Ft xs 4, Ft xs 5, 0, 0] }) := r2;have h12 := ha.drew.keep r3 (fun e => hqn e.symm);obtain⟨w13, s1, s2, s3, s4⟩ := r2.putF (P := Yt) (T := 3) (j := 10) (v := Yn (Ft xs 6)) Ah (show 10 < 12 by decide) rfl;obtain⟨w14, t1, t2, t3, t4⟩ := s2.putF (P := Yt) (T := 3) (j := 11) (v := Yn (Ft xs 7)) Ah (show 11 < 12 by decide) rfl
    have t2 : Av w14 q 0 (nV (CZ xs)) := t2;have M14 : Ab No w1 w14 := (((m7.no m9).drew.own r3 hq).own s3 hq).own t3 hq;rw[ad4];refine⟨_, _, _, AN AaV, _, _, _, AN QO, _, w12, r1, _, Bo QO (by decide) (by decide), _, ?_, _, Bo QO (by decide) (by decide), _, ?_, w13, s1, w14, t1, ?_⟩
    · rw[Ae];exact h12.at.load (i := 6) Ah rfl
    · rw[Ae];exact h12.at.load (i := 7) Ah rfl
    refine Ad.cut (fun z w17 => Ab No w14 w17 ∧ z = [.bool (!decide (xs.getD 1 0 = 0 ∧ (xs.drop 32).all (· == 0) = true ∧ O7 (CZ xs) = true))]) ⟨_, A8 Aj (by omega) (by omega), _, l1 M14, ?_⟩ ?_
    · rw[DN]
      refine Aa (fun h1 => ⟨Ab.refl _ _, ?_⟩) (fun h1 => ⟨_, _, _, Gq Aj (by omega) (by omega), ?_⟩)
      · have h1 := Ld h1
        rw[Lh fun e => h1 (by rw[← ex1, e.1];rfl)];rfl
      have h1 : xs.getD 1 0 = 0 := by
        have h1 := VU.1 (Lc h1);rw[ex1];exact Lu3.1 (by show _ = 0;omega)
      have e32 : (xs.drop 32).take 32 = xs.drop 32 := Lf (by simp;omega);refine TU (xs := (xs.drop 32).take 32) (by simp;omega) ((hr1.nos M14).cut (by omega) (by omega)) (by omega) ⟨_, rfl, ?_⟩;rw[e32];refine Aa (fun h2 => ⟨Ab.refl _ _, ?_⟩) (fun h2 => ⟨_, t2.at.all Am rfl, Vj (uH xs) fun w16 m16 => ⟨_, rfl, m16, ?_⟩⟩)
      · rw[lC]at h2
        rw[Lh fun e => by rw[e.2.1]at h2;cases h2];rfl
      · rw[Lf2]at h2
        cases hn : O7 (CZ xs)with
        | true => rw[Li (show _ ∧ _ ∧ _ from⟨h1, h2, rfl⟩)]
        | false => rw[Lh fun e => by cases e.2.2]
    rintro z w17 ⟨m17, rfl⟩;refine⟨_, rfl, Aa (fun h => ⟨_, Eg, ?_⟩) (fun h => ⟨_, (t2.keep m17 id).at.all Am rfl, ?_⟩)⟩
    · rw[lC]at h
      have h := Lc h;exact fin w17 nZ 8 (M14.no m17) (by unfold PO;rw[if_neg (by omega), if_neg h])
    · rw[Lf2]at h
      have h := Ld h;exact fin w17 (CZ xs) 0 (M14.no m17) (by unfold PO;rw[if_neg (by omega), if_pos h])
  have md : Ab No w1 (Go.Den.Af w1) := (Ab.refl No w1).drew;obtain⟨w2, e1, e2, e3, e4⟩ := Aw (P := Yt) (w := Go.Den.Af w1) (T := 69) AC;have m2 : Ab No w1 w2 := md.no e3;have t2 := tail w2 _ m2 (Le _) e2;have bN := dS (Yw (xs[0].toNat : Int)) (Yw (D6 ((xs.drop 2).take 2) : Int)) (Yw (D6 ((xs.drop 4).take 4) : Int)) (Yw (D6 ((xs.drop 8).take 8) : Int))
  rw[eN]at bN;have g2 : ∀{w' : World}{Q : Value → World → Prop}, Ab No w1 w' → Q (.int .u64 (D6 ((xs.drop 2).take 2) : Int)) w' → A7 Yt AF #[.slice (CL (some ⟨bb, oo, none⟩) c (2 : Int).toNat 1) ((4 : Int).toNat - (2 : Int).toNat) (c - (2 : Int).toNat)] w' Q := fun m hq => sM (i := 2) (m := 2) hl2 hc (hr1.nos m) (by omega) (by omega) rfl hq;have g4 : ∀{w' : World}{Q : Value → World → Prop}, Ab No w1 w' → Q (.int .u64 (D6 ((xs.drop 4).take 4) : Int)) w' → A7 Yt AF #[.slice (CL (some ⟨bb, oo, none⟩) c (4 : Int).toNat 1) ((8 : Int).toNat - (4 : Int).toNat) (c - (4 : Int).toNat)] w' Q := fun m hq => sM (i := 4) (m := 4) hl2 hc (hr1.nos m) (by omega) (by omega) rfl hq
  have g8 : ∀{w' : World}{Q : Value → World → Prop}, Ab No w1 w' → Q (.int .u64 (D6 ((xs.drop 8).take 8) : Int)) w' → A7 Yt AF #[.slice (CL (some ⟨bb, oo, none⟩) c (8 : Int).toNat 1) ((16 : Int).toNat - (8 : Int).toNat) (c - (8 : Int).toNat)] w' Q := fun m hq => sM (i := 8) (m := 8) hl2 hc (hr1.nos m) (by omega) (by omega) rfl hq;refine⟨_, A8 Aj (by omega) (by omega), _, l0 md, _, _, _, BH Aj (by omega) (by omega) (by omega), _, _, _, BH Aj (by omega) (by omega) (by omega), _, _, _, BH Aj (by omega) (by omega) (by omega), ?_⟩
  exact⟨g2 md ⟨_, rfl, l0 md, g4 md ⟨_, rfl, l0 md, g8 md ⟨_, rfl, l0 md, _, bN, _, w2, e1, l0 m2, t2⟩, _, w2, e1, l0 m2, g8 m2 ⟨_, rfl, l0 m2, _, bN, t2⟩⟩, _, w2, e1, l0 m2, g4 m2 ⟨_, rfl, l0 m2, g8 m2 ⟨_, rfl, l0 m2, _, bN, t2⟩⟩⟩, _, w2, e1, l0 m2, g2 m2 ⟨_, rfl, l0 m2, g4 m2 ⟨_, rfl, l0 m2, g8 m2 ⟨_, rfl, l0 m2, _, bN, t2⟩⟩⟩⟩
end
end Go.Z
end
section
open Go Go.Den
namespace Go.Den
abbrev VS:=Int×Value×Nat
def Tx(e:VS):MapEntry:=⟨Yn e.1,e.2.1,e.2.2⟩
def kv(e:VS):Int×Value:=(e.1,e.2.1)
def F9(k:Int):List VS->Nat->Option (Nat×Value)
 | [],_=>none
 | e::r,i=>if e.1=k then some (i,e.2.1)else F9 k r (i+1)
def O9(k:Int)(v:Value)(b:Nat):List VS->List VS
 | []=>[(k,v,b)]
 | e::r=>if e.1=k then(k,v,e.2.2)::r else e::O9 k v b r
def Ay:List (Int×Value)->Int->Option Value
 | [],_=>none
 | p::r,k=>if p.1=k then some p.2 else Ay r k
def Kg(k:Int)(v:Value):List (Int×Value)->List (Int×Value)
 | []=>[(k,v)]
 | p::r=>if p.1=k then(k,v)::r else p::Kg k v r
theorem PK(k:Int):∀(Es:List VS)(i:Nat),(F9 k Es i).map (·.2)=Ay (Es.map kv) k
 | [],_=>rfl
 | e::r,i=>by
  simp only[F9,Zr,Ay,kv];by_cases h:e.1=k
  ·rw[if_pos h,if_pos h];rfl
  ·rw[if_neg h,if_neg h];exact PK k r (i+1)
theorem Y6(k:Int)(v:Value)(b:Nat):∀ Es:List VS,(O9 k v b Es).map kv=Kg k v (Es.map kv)
 | []=>rfl
 | e::r=>by
  simp only[O9,Zr,Kg,kv];by_cases h:e.1=k
  ·rw[if_pos h,if_pos h];rfl
  ·rw[if_neg h,if_neg h,Zr,Y6 k v b r];rfl
theorem WR(q:IntKind)(k:Int):∀(Es:List VS)(i:Nat),Instr.findNow (.int q) (Yn k) (Es.map Tx) i=some (F9 k Es i)
 | [],_=>rfl
 | e::r,i=>by
  simp only[Zr,Instr.findNow,Tx,Instr.sameNow,F9,lD];by_cases h:e.1=k
  ·have:(k==e.1)=true:=by simp[h]
   rw[if_pos h,this]
  ·have:(k==e.1)=false:=by simp;exact fun e=>h e.symm
   rw[if_neg h,this];exact WR q k r (i+1)
theorem Rg(k:Int)(v:Value)(b:Nat):∀(Es:List VS)(i j:Nat)(u:Value),F9 k Es i=some (j,u)->i<=j/\(Es.map Tx).modify (j-i) (fun e=>{ e with key:=Yn k,val:=v })=(O9 k v b Es).map Tx/\((Es.map Tx)[j-i]?.map (·.key))=some (Yn k)
 | [],i,j,u,h=>by cases h
 | e::r,i,j,u,h=>by
  simp only[F9]at h;by_cases he:e.1=k
  ·rw[if_pos he]at h;have h:=Lk h;simp only[Lu4]at h;obtain⟨rfl,_⟩:=h;refine⟨Le _,?_,?_⟩
   ·simp only[O9,if_pos he,Zr,dI,List.modify_zero_cons,Tx]
   ·simp[Tx,he]
  ·rw[if_neg he]at h;obtain⟨h1,h2,h3⟩:=Rg k v b r (i+1) j u h;refine⟨by omega,?_,?_⟩
   ·rw[show j-i=(j-(i+1))+1 by omega];simp only[O9,if_neg he,Zr,List.modify_succ_cons,h2]
   ·rw[show j-i=(j-(i+1))+1 by omega];simpa using h3
theorem UR(k:Int)(v:Value)(b:Nat):∀(Es:List VS)(i:Nat),F9 k Es i=none->O9 k v b Es=Es++[(k,v,b)]/\∀ e∈Es,e.1≠k
 | [],_,_=>⟨rfl,by simp⟩
 | e::r,i,h=>by
  simp only[F9]at h;by_cases he:e.1=k
  ·rw[if_pos he]at h;cases h
  ·rw[if_neg he]at h;obtain⟨h1,h2⟩:=UR k v b r (i+1) h;refine⟨by simp only[O9,if_neg he,h1,Lv4],fun x hx=>?_⟩;rcases Lv.1 hx with rfl | hx
   ·exact he
   ·exact h2 x hx
theorem Xu(k:Int)(v:Value)(b:Nat):∀(Es:List VS)(i:Nat),F9 k Es i≠none->(O9 k v b Es).map (·.2.2)=Es.map (·.2.2)/\(O9 k v b Es).map (·.1)=Es.map (·.1)
 | [],_,h=>absurd rfl h
 | e::r,i,h=>by
  simp only[F9]at h;by_cases he:e.1=k
  ·simp[O9,he]
  ·rw[if_neg he]at h;obtain⟨h1,h2⟩:=Xu k v b r (i+1) h;simp[O9,he,h1,h2]
def AU(w:World)(m:Nat)(L:List (Int×Value)):Prop :=
 ∃(Es:List VS)(clock:Nat),w.heap[m]?=some (.map (Es.map Tx).toArray clock)/\Es.map kv=L/\(Es.map (·.1)).Nodup/\(∀ e∈Es,e.2.2<clock)/\(Es.map (·.2.2)).Nodup
section
variable{P:Program}{w:World}
theorem AU.lt{m:Nat}{L:List (Int×Value)}(h:AU w m L):m<w.heap.size:=by obtain⟨_,_,h,_⟩:=h;exact AM h
theorem AU.keep{m:Nat}{L:List (Int×Value)}{S:Nat->Prop}{w':World}(h:AU w m L)(hm:Ab S w w')(hs:¬ S m):AU w' m L:=by
 obtain⟨Es,c,h1,h2⟩:=h;exact⟨Es,c,hm.keep h1 hs,h2⟩
theorem AU.nodup{m:Nat}{L:List (Int×Value)}(h:AU w m L):(L.map (·.1)).Nodup:=by
 obtain⟨Es,c,_,rfl,h,_⟩:=h;rw[Lo4];exact h
theorem AU.ne_cells{m b o:Nat}{L:List (Int×Value)}{cs:List Value}(h:AU w m L)(k:At w b o cs):b≠m:=by
 rintro rfl;obtain⟨Es,c,h,_⟩:=h;obtain⟨l,t,fz,k,_⟩:=k;rw[h]at k;cases k
def O6(P:Program)(T:TypeId):Option Value :=
 match P.underlying T with
 | some (.map k e)=>match P.underlying k with
  | some (.int .i64)=>match P.info? e with | some i=>i.zero | none=>none
  | _=>none
 | _=>none
theorem Ro{T:TypeId}{z:Value}(h:O6 P T=some z):∃ k e i,P.underlying T=some (.map k e)/\P.underlying k=some (.int .i64)/\P.info? e=some i/\i.zero=some z:=by
 unfold O6 at h
 split at h
 ·rename_i k e h1
  split at h
  ·rename_i h2
   split at h
   ·rename_i i h3;exact⟨k,e,i,h1,h2,h3,h⟩
   ·cases h
  ·cases h
 ·cases h
theorem E1{k:TypeId}{empty:Bool}{n:Int}(hk:P.underlying k=some (.int .i64)):(Instr.checkKey empty 10000 k (Yn n)).run P w=.ok () w:=by
 rw[show(10000:Nat)=9999+1 from rfl,Instr.checkKey];simp[AJ hk]
theorem FC{k:TypeId}{n:Int}{Es:List VS}(hk:P.underlying k=some (.int .i64)):(Instr.findKey k (Yn n) (Es.map Tx)).run P w=.ok (F9 n Es 0) w:=by
 simp[Instr.findKey,AJ hk,WR]
theorem Fx{m:Nat}{es:Array MapEntry}{c:Nat}(h:w.heap[m]?=some (.map es c)):(getObj m).run P w=.ok (.map es c) w:=by
 simp[getObj,Sem.run,h]
theorem D7{T:TypeId}{z:Value}{m:Nat}{L:List (Int×Value)}{k:Int}(hT:O6 P T=some z)(h:AU w m L) :
  (Instr.lookup T (.map (some m)) (Yn k) false).run P w=.ok ((Ay L k).getD z) w:=by
 obtain⟨kt,e,i,h1,h2,h3,h4⟩:=Ro hT;obtain⟨Es,c,g1,rfl,_⟩:=h;have hl:=PK k Es 0;have hzero:(zeroValue e).run P w=.ok z w:=by simp[zeroValue,typeInfo,h3,h4]
 simp only[Instr.lookup,Sem.run_bind,AJ h1,Result.andThen_ok,Fx g1,Sem.run_pure,E1 h2,FC h2];cases hf:F9 k Es 0 with
 | none =>
  rw[hf]at hl;simp only[Option.map_none]at hl;simp[<- hl,hzero]
 | some r =>
  rw[hf]at hl;simp only[Lt3]at hl;simp[<- hl]
theorem IP{m:Nat}{es:Array MapEntry}{c:Nat}{o':Obj}(h:w.heap[m]?=some (.map es c)):(setObj m o').run P w=.ok () (Qf w m o'):=by
 have hlt:=AM h;simp only[setObj,Sem.run];rw[h];rfl
theorem Fz{T:TypeId}{z:Value}{m:Nat}{L:List (Int×Value)}{k:Int}{v:Value}(hT:O6 P T=some z)(h:AU w m L) :
  ∃ w',(Instr.mapUpdate T (.map (some m)) (Yn k) v).run P w=.ok () w'/\AU w' m (Kg k v L)/\Ab (fun x=>x=m) w w'/\w'.heap.size=w.heap.size:=by
 obtain⟨kt,e,i,h1,h2,h3,h4⟩:=Ro hT;obtain⟨Es,c,g1,rfl,g3,g4,g5⟩:=h;have hm:∀ o,Ab (fun x=>x=m) w (Qf w m o):=fun o=>(Ab.refl (fun x=>x=m) w).put (.inr rfl) _;cases hf:F9 k Es 0 with
 | none =>
  obtain⟨e1,e2⟩:=UR k v c Es 0 hf;refine⟨Qf w m (.map ((O9 k v c Es).map Tx).toArray (c+1)),?_,⟨O9 k v c Es,c+1,AX (AM g1),Y6 k v c Es,?_,?_,?_⟩,hm _,by simp⟩
  ·simp only[Instr.mapUpdate,Sem.run_bind,AJ h1,Result.andThen_ok,Fx g1,E1 h2,FC h2,hf];rw[IP g1,e1];simp[Tx]
  ·rw[e1,pM];refine Lg3.2 ⟨g3,by simp,?_⟩;intro a ha b hb;simp at hb;subst hb;obtain⟨x,hx,rfl⟩:=L2.1 ha;exact e2 x hx
  ·intro x hx;rw[e1]at hx;rcases Ln.1 hx with hx | hx
   ·have:=g4 x hx;omega
   ·simp at hx;subst hx;simp
  ·rw[e1,pM];refine Lg3.2 ⟨g5,by simp,?_⟩;intro a ha b hb;simp at hb;subst hb;obtain⟨x,hx,rfl⟩:=L2.1 ha
   have:=g4 x hx;omega
 | some r =>
  obtain⟨j,u⟩:=r;obtain⟨_,e1,e2⟩:=Rg k v c Es 0 j u hf;rw[Lo5]at e1 e2;obtain⟨b1,b2⟩:=Xu k v c Es 0 (by rw[hf];simp);refine⟨Qf w m (.map ((O9 k v c Es).map Tx).toArray c),?_,⟨O9 k v c Es,c,AX (AM g1),Y6 k v c Es,by rw[b2];exact g3,?_,by rw[b1];exact g5⟩,hm _,by simp⟩
  ·have hkey:(((Es.map Tx).toArray[j]?).map (·.key)).getD (Yn k)=Yn k:=by
    rw[List.getElem?_toArray,e2];rfl
   have hstay:(Instr.keyThatStays (Yn k) (Yn k)).run P w=.ok (Yn k) w:=by
    have:Instr.sameBits 10000 (Yn k) (Yn k)=true:=by simp[Instr.sameBits]
    simp[Instr.keyThatStays,this]
   simp only[Instr.mapUpdate,Sem.run_bind,AJ h1,Result.andThen_ok,Fx g1,E1 h2,FC h2,hf,hkey,hstay];rw[IP g1,<- e1];simp
  ·intro x hx;have hx':x.2.2∈Es.map (·.2.2):=by rw[<- b1];exact L2.2 ⟨x,hx,rfl⟩
   obtain⟨y,hy,hye⟩:=L2.1 hx';rw[<- hye];exact g4 y hy
theorem mB{T ty:TypeId}{z:Value}{m:Nat}{L:List (Int×Value)}(hT:O6 P T=some z)(h:AU w m L) :
  ∃ w',(Builtin.clear_ #[T] ty #[.map (some m)]).run P w=.ok (.tuple #[]) w'/\AU w' m []/\Ab (fun x=>x=m) w w'/\w'.heap.size=w.heap.size:=by
 obtain⟨kt,e,i,h1,h2,h3,h4⟩:=Ro hT;obtain⟨Es,c,g1,rfl,g3,g4,g5⟩:=h;refine⟨Qf w m (.map #[] c),?_,⟨[],c,AX (AM g1),rfl,by simp,by simp,by simp⟩,(Ab.refl (fun x=>x=m) w).put (.inr rfl) _,by simp⟩;simp[Builtin.clear_,AJ h1,Fx g1,IP g1]
theorem CG{T:TypeId}:(Instr.makeMap T none).run P w=.ok (.map (some w.heap.size)) (w.alloc (.map #[] 0)):=rfl
theorem AU.new:AU (w.alloc (.map #[] 0)) w.heap.size []:=⟨[],0,BV w _,rfl,by simp,by simp,by simp⟩
end
end Go.Den
end
section
open Go Go.Den Go.Proofs
namespace Go.Z
def S7(zs:List Int):List Int:=zs.mergeSort fun x y=>decide (x<=y)
theorem qI{base l c:Nat}{a:Option Addr}{zs:List Int}{w:World}{K:Value->World->Prop}(h:Ow Yt w base 176 1 a l c (iL zs))
  (hk:∀ w',Ow Yt w' base 176 1 a l c (iL (S7 zs))->Ab (fun x=>base<=x) w w'->K (.tuple #[]) w') (hl62:zs.length<4611686018427387904) :
  A7 Yt FZ #[.slice a l c] w K:=by
 refine⟨⟨_,Tryz.func147,by kernel_rfl,by kernel_rfl⟩,?_⟩;have hlen:zs.length=l:=by have:=h.len;simpa using this
 obtain⟨e,he,h1,h2⟩:=h;rcases h2 with ⟨hv,hz⟩|⟨g,cap,H5,hv,hb,hg,hle,hm,hsz,ht⟩
 ·subst hz;simp at hv;obtain⟨rfl,rfl⟩:=hv;have hzs:zs=[]:=iA hlen;subst hzs;refine(Tryz.slices_Sort_int_none none 0 w).mono fun e' w' he'=>?_;obtain⟨rfl,rfl⟩:=he';exact hk w' ⟨e,he,by simp[S7,iL],.inl ⟨rfl,rfl⟩⟩ (Ab.refl _ _)
 ·simp at hv;obtain⟨rfl,rfl⟩:=hv;subst hlen;have hmap:iL zs=zs.map (Value.int .i64):=rfl;rw[Lk4,hmap]at ht;have hH:=holds_of_blockI hg ht;refine(Tryz.slices_Sort_int g 0 c zs w hH (AM hg) hl62).mono fun e' w' he'=>?_;obtain⟨rfl,n,os,rfl⟩:=he';refine hk _ ⟨e,he,?_⟩ ((Ab.grown (grownBy_sortedI _)).mono fun x _ e=>by cases e;exact hb);exact ownsRow_sortedI (ts:=S7 zs) (by simp[S7]) hb hg hle hm hsz
end Go.Z
end
section
open Go Go.Den Go.Proofs
namespace Go.Den
abbrev Bk:=List UInt8
structure St where
 vs:List (List Bk)
 left:Int
structure WF(D:St):Prop where
 ver:∀ v∈D.vs,v≠[]/\∀ x∈v,x.length=256
 lo:1<=D.vs.length
 hi:D.vs.length<=4096
 l0:-1<=D.left
 l1:D.left<=9223372036854775807
def hd(v:List Bk):Bk:=v.headD []
def DY(v:List Bk):Bk:=v.getLastD []
theorem Rh:∀(xs:List Bk),(∀ x∈xs,x.length=256)->xs.flatten.length=xs.length*256
 | [],_=>rfl
 | x::r,h=>by
  rw[qB,Lj,h x (by simp),Rh r (fun y hy=>h y (by simp[hy])),pH];omega
theorem UU:∀(xs:List Bk),(∀ x∈xs,x.length=256)->∀(i:Nat)(x:Bk),xs[i]?=some x->(xs.flatten.drop (i*256)).take 256=x
 | [],_,i,x,h=>by simp at h
 | y::r,hx,i,x,h=>by
  have hy:=hx y (by simp);cases i with
  | zero =>
   simp at h;subst h;rw[Lp5,VW,qB,Lu (by omega),Lf (by omega)]
  | succ i =>
   have h':r[i]?=some x:=by simpa using h
   rw[qB,UB,Ls (by omega),Ly,show(i+1)*256-y.length=i*256 by omega];exact UU r (fun z hz=>hx z (by simp[hz])) i x h'
theorem ZV:∀(xs:List Bk),(∀ x∈xs,x.length=256)->∀(i:Nat)(y:Bk),i<xs.length->y.length=256->xs.flatten.take (i*256)++y++xs.flatten.drop (i*256+256)=(xs.set i y).flatten
 | [],_,i,y,h,_=>by simp at h
 | x::r,hx,i,y,h,hy=>by
  have hxl:=hx x (by simp);cases i with
  | zero =>
   simp only[List.set_cons_zero,qB,Lp5,pX,Ly,Tc];rw[UB,Ls (by omega),Ly,hxl];simp
  | succ i =>
   have ih:=ZV r (fun z hz=>hx z (by simp[hz])) i y (by simpa using h) hy;simp only[List.set_cons_succ,qB];rw[<- ih,Lw4,Lf (by omega),UB,Ls (by omega),hxl];rw[show(i+1)*256-256=i*256 by omega,show(i+1)*256+256-256=i*256+256 by omega];simp
def XP(w:World)(R:Nat->Prop)(b sb:Nat)(L:List (Int×Value))(i:Nat)(v:List Bk):Prop :=
 (v.tail=[]/\Ay L i=none)\/(v.tail≠[]/\∃ vb c,Ay L i=some (.slice (some ⟨vb,0,none⟩) v.tail.length c)/\v.tail.length<=c/\At w vb 0 (A6 v.tail.flatten)/\R vb/\vb≠b/\vb≠sb)
structure AA(w:World)(R:Nat->Prop)(b sb mb sc:Nat)(L:List (Int×Value))(D:St):Prop where
 cell:Av w b 0 [.slice (some ⟨sb,0,none⟩) D.vs.length sc,.map (some mb),Yn D.left]
 cap:D.vs.length<=sc
 safe:Av w sb 0 (A6 (D.vs.map hd).flatten)
 map:AU w mb L
 rb:R b
 rs:R sb
 rm:R mb
 ne:b≠sb
 opn:∀ i v,D.vs[i]?=some v->XP w R b sb L i v
 keys:∀ p∈L,∃ i:Nat,p.1=i/\i<D.vs.length
 wf:WF D
 lt:∀ x,R x->x<w.heap.size
section
variable{w:World}{R:Nat->Prop}{b sb mb sc:Nat}{L:List (Int×Value)}{D:St}
theorem XP.keep{S:Nat->Prop}{w':World}{i:Nat}{v:List Bk}(h:XP w R b sb L i v)(m:Ab S w w')(hs:∀ x,R x->S x->x=b\/x=sb):XP w' R b sb L i v:=by
 rcases h with h|⟨h1,vb,c,h2,h3,h4,h5,h6,h7⟩
 ·exact .inl h
 ·exact .inr ⟨h1,vb,c,h2,h3,h4.keep m (fun e=>by rcases hs vb h5 e with e | e;exact h6 e;exact h7 e),h5,h6,h7⟩
theorem AA.keep{S:Nat->Prop}{w':World}(h:AA w R b sb mb sc L D)(m:Ab S w w')(hs:∀ x,R x->¬ S x):AA w' R b sb mb sc L D where
 cell:=h.cell.keep m (hs _ h.rb)
 cap:=h.cap
 safe:=h.safe.keep m (hs _ h.rs)
 map:=h.map.keep m (hs _ h.rm)
 rb:=h.rb
 rs:=h.rs
 rm:=h.rm
 ne:=h.ne
 opn:=fun i v hv=>(h.opn i v hv).keep m fun x hx e=>absurd e (hs x hx)
 keys:=h.keys
 wf:=h.wf
 lt:=fun x hx=>pF (h.lt x hx) m.size
theorem AA.nos{w':World}(h:AA w R b sb mb sc L D)(m:Ab No w w'):AA w' R b sb mb sc L D:=h.keep m fun _ _=>id
theorem AA.drew(h:AA w R b sb mb sc L D):AA (Af w) R b sb mb sc L D:=h.nos (Ab.refl No w).drew
theorem AA.nbm(h:AA w R b sb mb sc L D):b≠mb:=h.map.ne_cells h.cell.at
theorem AA.nsm(h:AA w R b sb mb sc L D):sb≠mb:=h.map.ne_cells h.safe.at
theorem WF.hd{D:St}(h:WF D):∀ x∈D.vs.map hd,x.length=256:=by
 intro x hx;obtain⟨v,hv,rfl⟩:=L2.1 hx;obtain⟨h1,h2⟩:=h.ver v hv;cases v with
 | nil=>exact absurd rfl h1
 | cons a r=>exact h2 a (by simp)
theorem WF.tl{D:St}(h:WF D){i:Nat}{v:List Bk}(hv:D.vs[i]?=some v):∀ x∈v.tail,x.length=256:=fun x hx=>(h.ver v (XN hv)).2 x (List.mem_of_mem_tail hx)
theorem WF.lastLen{D:St}(h:WF D){i:Nat}{v:List Bk}(hv:D.vs[i]?=some v):(DY v).length=256:=by
 obtain⟨h1,h2⟩:=h.ver v (XN hv);refine h2 _ ?_;unfold DY;rw[List.getLastD_eq_getLast?,List.getLast?_eq_some_getLast h1];exact List.getLast_mem h1
theorem nE{v:List Bk}(h:v.tail≠[]):v.tail[v.tail.length-1]?=some (DY v):=by
 cases v with
 | nil=>exact absurd rfl h
 | cons a r =>
  simp only[List.tail_cons]at h |-;rw[<- List.getLast?_eq_getElem?];unfold DY;rw[List.getLastD_eq_getLast?,List.getLast?_cons];cases r with
  | nil=>exact absurd rfl h
  | cons b r=>simp[List.getLast?_cons]
theorem aN{v:List Bk}(h:v.tail=[]):DY v=hd v:=by
 cases v with
 | nil=>rfl
 | cons a r=>simp only[List.tail_cons]at h;subst h;rfl
end
end Go.Den
namespace Go.Z
section
variable{w:World}{R:Nat->Prop}{b sb mb sc:Nat}{L:List (Int×Value)}{D:St}{K:Value->World->Prop}
theorem TT:O6 Yt 152=some (.slice none 0 0):=by kernel_rfl
theorem Xj{w:World}{m:Nat}{L:List (Int×Value)}{k:Int}(h:AU w m L)(hl:Ay L k=none):Ru (Instr.lookup 152 (.map (some m)) (Yn k) false) w (.slice none 0 0) w:=by
 have:=D7 (P:=Yt) TT h (k:=k)
 rwa [hl]at this
theorem Xk{w:World}{m:Nat}{L:List (Int×Value)}{k:Int}{v:Value}(h:AU w m L)(hl:Ay L k=some v):Ru (Instr.lookup 152 (.map (some m)) (Yn k) false) w v w:=by
 have:=D7 (P:=Yt) TT h (k:=k)
 rwa [hl]at this
theorem LA:EG Yt 151 256 (.int .u8 0) 256:=by unfold EG;kernel_rfl
theorem MU(w:World):(Instr.alloc 223 true (.tuple #[])).run Yt w=.ok (Yo w.heap.size) (w.alloc (.cells ⟨A6 (List.replicate 256 0)⟩ 223)):=by kernel_rfl
theorem G5:D5 Yt 223=some 256:=by kernel_rfl
theorem Tv(q:Addr):Al (Instr.sliceAt 223 (.pointer (some q)) none none none) (.slice (some q) 256 256):=fun _=>by kernel_rfl
theorem _root_.Go.Den.AA.ld(h:AA w R b sb mb sc L D):Ru (Instr.loadAt 3 (.pointer (some (Addr.add ⟨b,0,none⟩ 2)))) w (Yn D.left) w:=by
 rw[Ae];exact h.cell.at.load (by kernel_rfl) rfl
theorem _root_.Go.Den.AA.lm(h:AA w R b sb mb sc L D):Ru (Instr.loadAt 152 (.pointer (some (Addr.add ⟨b,0,none⟩ 1)))) w (.map (some mb)) w:=by
 rw[Ae];exact h.cell.at.load (by kernel_rfl) rfl
theorem _root_.Go.Den.AA.ls(h:AA w R b sb mb sc L D):Ru (Instr.loadAt 151 (.pointer (some (Addr.add ⟨b,0,none⟩ 0)))) w (.slice (some ⟨sb,0,none⟩) D.vs.length sc) w:=by
 rw[Ae];exact h.cell.at.load (by kernel_rfl) rfl
def AO(D:St)(n:Int):Int:=if n<0\/D.vs.length<=n then 3 else 0
theorem tK(h:AA w R b sb mb sc L D){n:Int}(hk:K (Yn (AO D n)) w):A7 Yt EO #[Yo b,Yn n] w K:=by
 apply TC;unfold LU;refine ff rfl (Ad.cut (fun x w'=>x=[.bool (decide (n<0\/D.vs.length<=n))]/\w'=w) (Aa (fun hb=>?_) (fun hb=>?_)) ?_)
 ·have:=Ld hb
  exact⟨by simp[this],rfl⟩
 ·have:=Lc hb
  exact⟨_,rfl,_,_,_,h.ls,by simp[this],rfl⟩
 ·rintro x w' ⟨rfl,rfl⟩;refine⟨_,rfl,Aa (fun hb=>?_) (fun hb=>?_)⟩
  ·have:=Ld hb
   rw[AO,if_pos this]at hk;exact hk
  ·have:=Lc hb
   rw[AO,if_neg this]at hk;exact hk
theorem sN(h : AA w R b sb mb sc L D)(h0 : D.left = 0 → K (.bool false) w)
    (h1 : D.left ≠ 0 → ∀ w', AA w' R b sb mb sc L { D with left := if -1 > D.left - 1 then -1 else D.left - 1 } → Ab (fun x => x = b) w w' → K (.bool true) w') : A7 Yt Er #[Yo b] w K := by
  apply RM;unfold Ks;refine⟨_, rfl, _, h.ld, Aa (fun hb => ?_) (fun hb => ?_)⟩
  · exact h0 (by simpa using hb)
  have hne : D.left ≠ 0 := by simpa using hb
  have hl0 := h.wf.l0;have hl1 := h.wf.l1;obtain⟨w', s1, s2, s3, s4⟩ := h.cell.store (P := Yt) (T := 3) (i := 2) (v := Yn (if -1 > D.left - 1 then -1 else D.left - 1)) (by kernel_rfl) (by simp) rfl;refine⟨_, rfl, _, h.ld, _, rfl, w', ?_, ?_⟩
  · rw[Ag (x := D.left - 1) (by omega) (by omega), Ae];exact s1
  refine h1 hne w' ?_ s3
  exact { cell := by simpa using s2, cap := h.cap, safe := h.safe.keep s3 h.ne.symm, map := h.map.keep s3 h.nbm.symm, rb := h.rb, rs := h.rs, rm := h.rm, ne := h.ne,
          opn := fun i v hv => (h.opn i v hv).keep s3 fun x _ e => .inl e, keys := h.keys,
          wf := { ver := h.wf.ver, lo := h.wf.lo, hi := h.wf.hi, l0 := by show -1 ≤ ite _ _ _;split<;>omega, l1 := by show ite _ _ _ ≤ _;split<;>omega },
          lt := fun x hx => pF (h.lt x hx) s3.size }
theorem Ss{a:Addr}{n c:Nat}{i:Nat}(hi:i<n)(w:World):(Instr.indexAt 151 (.slice (some a) n c) (Yn i)).run Yt w=.ok (.pointer (some (a.add (i*256)))) w:=by
 have:=A8 (P:=Yt) (T:=151) (k:=256) (a:=a) (n:=n) (c:=c) (kk:=.i64) (i:=i) (by kernel_rfl) (by omega) (by omega) w
 rwa [Lz]at this
theorem Vn{b:Nat}{xs:List Bk}(h:At w b 0 (A6 xs.flatten))(hx:∀ x∈xs,x.length=256){i:Nat}{x:Bk}(hi:xs[i]?=some x):Ru (Instr.loadAt 223 (.pointer (some (Addr.add ⟨b,0,none⟩ (i*256))))) w (.agg ⟨A6 x⟩) w:=by
 have hlt:i<xs.length:=(Lq.1 hi).1;have hl:=Rh xs hx
 have:=h.loadAgg (P:=Yt) (i:=i*256) G5 (by rw[Ai,hl];(have:(i+1)*256<=xs.length*256:=pP _ hlt);omega)
 rw[Ae];rw[kR,UU xs hx i x hi]at this;exact this
theorem fH(h:AA w R b sb mb sc L D){i:Nat}{v:List Bk}(hv:D.vs[i]?=some v)(hlen:v.length<=1000000)(hk:∀ w',Ab No w w'->K (.agg ⟨A6 (DY v)⟩) w'):A7 Yt Et #[Yo b,Yn i] w K:=by
 apply RN;unfold Kt;refine⟨_,_,MU w,_,rfl,some mb,?_⟩;have m1:Ab No w (w.alloc (.cells ⟨A6 (List.replicate 256 0)⟩ 223)):=(Ab.refl No w).alloc _;have h':=h.nos m1;refine⟨h'.lm,?_⟩;have hll:=h.wf.lastLen hv;have fin:K (.agg ⟨A6 (DY v)⟩) (w.alloc (.cells ⟨A6 (DY v)⟩ 223)):=hk _ ((Ab.refl No w).alloc _);have st:∃ w2,Gr (Instr.storeAt 223 (Yo w.heap.size) (.agg ⟨A6 (DY v)⟩)) (w.alloc (.cells ⟨A6 (List.replicate 256 0)⟩ 223)) w2 /\
   ∃ g:Array Value,Ru (Instr.loadAt 223 (Yo w.heap.size)) w2 (.agg g) w2/\K (.agg g) w2 :=
  ⟨_,NY G5 (by rw[Ai,Lw]) (by simp[hll]) (Cu _),_,aQ G5 (by simp[hll]),fin⟩
 rcases h'.opn i v hv with ⟨ht,hl⟩|⟨ht,vb,c,hl,hc,hat,_⟩
 ·refine⟨_,_,_,Xj h'.map hl,ff (by simp) ⟨_,rfl,_,_,_,h'.ls,_,fun _=>Ss (Lq.1 hv).1 _,⟨A6 (DY v)⟩,?_,st⟩⟩;rw[aN ht];exact Vn h'.safe.at h.wf.hd (by rw[qC,hv];rfl)
 ·refine⟨_,_,_,Xk h'.map hl,?_⟩;have hpos:0<v.tail.length:=List.length_pos_iff.2 ht;have htl:v.tail.length<=v.length:=by simp
  refine tt (Li (by omega)) ?_;rw[Ag (x:=(v.tail.length:Int)-1) (by omega) (by omega),show(v.tail.length:Int)-1=((v.tail.length-1:Nat):Int) by omega];refine⟨_,fun _=>Ss (by omega) _,_,Vn hat (h.wf.tl hv) (nE ht),st⟩
end
end Go.Z
end
section
open Go Go.Den
namespace Go.Den
section
variable{P:Program}{w:World}
theorem tM{r mb since c0:Nat}{ty:TypeId}{seen:Array Nat}{es:Array MapEntry}{clock:Nat}(hr:w.heap[r]?=some (.mapIter (some mb) since seen c0))(hb:w.heap[mb]?=some (.map es clock))
  (hold:∀ x∈es.toList,x.born<since) (hsc:since<=c0) :
  ((leftOf es seen).size=0/\(Instr.next (Yo r) false ty).run P w=.ok (.tuple #[.bool false]) w) \/
  ∃ e∈(leftOf es seen).toList,∃ w',(Instr.next (Yo r) false ty).run P w=.ok (.tuple #[.bool true,e.key,e.val]) w'/\w'.heap[r]?=some (.mapIter (some mb) since (seen.push e.born) clock) /\
   Ab (fun x=>x=r) w w'/\w'.heap.size=w.heap.size:=by
 simp only[Instr.next,getObj,Sem.run_bind,Sem.run,hr,hb,Result.andThen,next_test_false seen es since c0 hold hsc,cG,Wp];unfold leftOf;have hmem:∀ x∈(Array.filter (fun e=>!seen.contains e.born) es).toList,x.born<since:=fun x hx=>hold x (by simp at hx |-;exact hx.1);generalize Array.filter (fun e=>!seen.contains e.born) es=L at hmem |-;have e1:L.filter (fun x=>decide (x.born<since))=L:=Array.filter_eq_self.2 (fun x hx=>by simpa using hmem x (by simpa using hx))
 have e2:L.filter (fun x=>decide (x.born >= since))=#[]:=by
  rw[Array.filter_eq_empty_iff];intro x hx
  have:=hmem x (by simpa using hx)
  simp;omega
 simp only[e1,e2,Array.append_empty];by_cases h0:L.size=0
 ·left;have:L=#[]:=Array.eq_empty_of_size_eq_zero h0;subst this;refine⟨rfl,?_⟩;simp[choose,Sem.run,Question.forced]
 ·right;have hne:L.isEmpty=false:=by simp[Array.isEmpty,h0]
  simp only[hne,cG,Wp,Array.empty_append,Array.size_map];have hch:∃(j:Nat)(w1:World),j<L.size/\w1.heap=w.heap/\Ab (fun x=>x=r) w w1/\(choose (Question.mapNext L.size)).run P w=.ok j w1:=by
   by_cases hf:L.size<=1
   ·exact⟨0,w,by omega,rfl,Ab.refl _ _,by simp[choose,Sem.run,Question.forced,hf]⟩
   ·exact⟨_,Af w,wQ _ (by omega),rfl,(Ab.refl _ _).drew,by
     simp only[choose,Sem.run,Question.forced,RV,hf,Wp,Question.cut]
     rfl⟩
  obtain⟨j,w1,hj,hh,hm,hrun⟩:=hch;have hr1:w1.heap[r]?=some (.mapIter (some mb) since seen c0):=by rw[hh];exact hr
  refine⟨L[j],by simp,Qf w1 r (.mapIter (some mb) since (seen.push L[j].born) clock),?_,AX (AM hr1),?_,by simp[hh]⟩
  ·simp only[hrun,Array.getElem?_map,Array.getElem?_eq_getElem hj,Lt3,Sem.run_bind,setObj,Sem.run,hr1,Result.andThen];rfl
  ·exact hm.trans ((Ab.refl (fun x=>x=r) w1).put (.inr rfl) _) fun _ _ h=>h
theorem mJ{r mb since:Nat}{seen:Array Nat}{es:Array MapEntry}{clock:Nat}{e:MapEntry}(hr:w.heap[r]?=some (.mapIter (some mb) since (seen.push e.born) clock))(hb:w.heap[mb]?=some (.map es clock))
  (he:e∈es.toList) (hn:(es.toList.map (·.born)).Nodup):(Instr.entry (Yo r)).run P w=.ok (.tuple #[e.key,e.val]) w:=by
 have hf:es.find? (·.born==e.born)=some e:=by rw[<- Array.find?_toList];exact find_born e es.toList hn he
 simp only[Instr.entry,getObj,Sem.run_bind,Sem.run,hr,hb,Result.andThen,Array.back?_push,bne_self_eq_false,cG,Wp,hf];rfl
theorem oA{T k e:TypeId}{mb:Nat}{es:Array MapEntry}{clock:Nat}(ht:P.underlying T=some (.map k e))(hb:w.heap[mb]?=some (.map es clock)) :
  (Instr.range T (.map (some mb))).run P w=.ok (Yo w.heap.size) (w.alloc (.mapIter (some mb) clock #[] clock)):=run_range_map w T k e mb es clock ht hb
theorem aM{r:Nat}{a:Option Nat}{b c:Nat}{s:Array Nat}(h:w.heap[r]?=some (.mapIter a b s c)):w.iterSeen r=s:=by
 unfold World.iterSeen;rw[h]
structure JY(w:World)(r mb:Nat)(Es:List VS)(clock:Nat)(vis:List VS):Prop where
 map:w.heap[mb]?=some (.map (Es.map Tx).toArray clock)
 iter:w.heap[r]?=some (.mapIter (some mb) clock (vis.map (·.2.2)).toArray clock)
 sub:∀ e∈vis,e∈Es
 nodup:(vis.map (·.2.2)).Nodup
 born:∀ e∈Es,e.2.2<clock
 all:(Es.map (·.2.2)).Nodup
def gK(mb r:Nat)(w:World):Nat:=match w.heap[mb]? with | some (.map es _)=>(leftOf es (w.iterSeen r)).size | _=>0
theorem JY.keep{S:Nat->Prop}{r mb clock:Nat}{Es vis:List VS}{w':World}(h:JY w r mb Es clock vis)(m:Ab S w w')(h1:¬ S r)(h2:¬ S mb):JY w' r mb Es clock vis :=
 ⟨m.keep h.map h2,m.keep h.iter h1,h.sub,h.nodup,h.born,h.all⟩
theorem JY.togo{r mb clock:Nat}{Es vis:List VS}(h:JY w r mb Es clock vis):gK mb r w=(leftOf (Es.map Tx).toArray (vis.map (·.2.2)).toArray).size:=by
 unfold Go.Den.gK;rw[h.map,aM h.iter]
theorem Ie{α β:Type}{f:α->β}:∀{l:List α},(l.map f).Nodup->l.Nodup
 | [],_=>Lf5
 | x::r,h=>by
  rw[Zr,pN]at h;exact pN.2 ⟨fun hx=>h.1 (L2.2 ⟨x,hx,rfl⟩),Ie h.2⟩
theorem xI{Es:List VS}(hn:(Es.map (·.2.2)).Nodup):∀{x e:VS},x∈Es->e∈Es->x.2.2=e.2.2->x=e:=by
 induction Es with
 | nil=>intro x e hx;cases hx
 | cons y r ih =>
  rw[Zr,pN]at hn;intro x e hx he h;rcases Lv.1 hx with rfl | hx
  ·rcases Lv.1 he with rfl|he
   ·rfl
   ·exact absurd (L2.2 ⟨e,he,h.symm⟩) hn.1
  ·rcases Lv.1 he with he|he
   ·exact absurd (L2.2 ⟨x,hx,by rw[h,he]⟩) hn.1
   ·exact ih hn.2 hx he h
theorem JY.next{r mb clock:Nat}{ty:TypeId}{Es vis:List VS}(h:JY w r mb Es clock vis) :
  (vis.Perm Es/\(Instr.next (Yo r) false ty).run P w=.ok (.tuple #[.bool false]) w) \/
  ∃ e∈Es,∃ w',(Instr.next (Yo r) false ty).run P w=.ok (.tuple #[.bool true,Yn e.1,e.2.1]) w'/\(Instr.entry (Yo r)).run P w'=.ok (.tuple #[Yn e.1,e.2.1]) w' /\
   JY w' r mb Es clock (vis++[e])/\e ∉ vis/\Ab (fun x=>x=r) w w'/\Go.Den.gK mb r w'<Go.Den.gK mb r w:=by
 have hborn:∀ x∈((Es.map Tx).toArray).toList,x.born<clock:=by
  intro x hx;simp only[L2]at hx;obtain⟨e,he,rfl⟩:=hx;exact h.born e he
 have hnd:(((Es.map Tx).toArray).toList.map (·.born)).Nodup:=by
  have:=h.all
  rw[Lo4];exact this
 rcases tM (P:=P) (ty:=ty) h.iter h.map hborn (Le _)with ⟨h0,hrun⟩|⟨e,he,w',hrun,hit,hm,hsz⟩
 ·refine .inl ⟨?_,hrun⟩;refine(List.perm_ext_iff_of_nodup (Ie h.nodup) (Ie h.all)).2 fun a=>⟨h.sub a,fun ha=>?_⟩
  have:=all_seen _ _ h0 (Tx a) (by simp only[L2];exact⟨a,ha,rfl⟩)
  have hb:a.2.2∈vis.map (·.2.2):=by simpa [Tx] using this
  obtain⟨v,hv,hve⟩:=L2.1 hb;rw[<- xI h.all (h.sub v hv) ha hve];exact hv
 ·right;obtain⟨hin,hns⟩:=mem_left he;simp only[L2]at hin;obtain⟨x,hx,rfl⟩:=hin;have hnx:x.2.2 ∉ vis.map (·.2.2):=by
   intro hc;have:(vis.map (·.2.2)).toArray.contains (Tx x).born=true:=by simpa [Tx] using hc
   rw[this]at hns;cases hns
  have hne:mb≠r:=by
   rintro rfl;have h1:=h.map;rw[h.iter]at h1;cases h1
  have hmap':=hm.keep h.map hne;have hR:JY w' r mb Es clock (vis++[x]):=by
   refine⟨hmap',?_,?_,?_,h.born,h.all⟩
   ·rw[hit];simp[Tx]
   ·intro e he;rcases Ln.1 he with he | he
    ·exact h.sub e he
    ·simp at he;subst he;exact hx
   ·rw[pM];refine Lg3.2 ⟨h.nodup,by simp,?_⟩;intro a ha b hb;simp at hb;subst hb;exact fun e=>hnx (e ▸ ha)
  refine⟨x,hx,w',hrun,?_,hR,fun hc=>hnx (L2.2 ⟨x,hc,rfl⟩),hm,?_⟩
  ·exact mJ (e:=Tx x) hit hmap' (by simp only[L2];exact⟨x,hx,rfl⟩) hnd
  ·rw[hR.togo,h.togo]
   have:=left_shrinks _ _ _ he
   simpa [Tx] using this
end
end Go.Den
end
section
open Go Go.Den Go.Proofs
namespace Go.Den
theorem KE:∀{L:List (Int×Value)} {k:Int} {v:Value},Ay L k=some v->(k,v)∈L
 | p::r,k,v,h=>by
  simp only[Ay]at h;by_cases hp:p.1=k
  ·rw[if_pos hp]at h
   have:=Lk h
   subst hp;subst this;simp
  ·rw[if_neg hp]at h;exact dH _ (KE h)
theorem Vo:∀{L:List (Int×Value)} {k:Int},Ay L k=none->∀ p∈L,p.1≠k
 | p::r,k,h,q,hq=>by
  simp only[Ay]at h;by_cases hp:p.1=k
  ·rw[if_pos hp]at h;cases h
  ·rw[if_neg hp]at h;rcases Lv.1 hq with rfl | hq
   ·exact hp
   ·exact Vo h q hq
def Nl(D:St)(i:Nat):Bool:=!((D.vs[i]?.getD []).tail.isEmpty)
def CY(D:St):List Nat:=(List.range D.vs.length).filter (Nl D)
def Gn(D:St):List Int:=(CY D).map fun i:Nat=>(i:Int)
theorem Y2(D:St):List.Pairwise (fun a b:Int=>a<=b) (Gn D):=by
 unfold Gn;rw[List.pairwise_map];refine Lq4 ?_ ((Lx3 (n:=D.vs.length)).filter (Nl D));intro a b h;omega
theorem aZ(D:St):(Gn D).Nodup:=by
 unfold Gn;rw[List.Nodup,List.pairwise_map];refine Lq4 ?_ ((Lx3 (n:=D.vs.length)).filter (Nl D));intro a b h;omega
theorem Xf{w:World}{R:Nat->Prop}{b sb mb sc:Nat}{L:List (Int×Value)}{D:St}(h:AA w R b sb mb sc L D)(k:Int):k∈L.map (·.1)↔k∈Gn D:=by
 constructor
 ·intro hk;obtain⟨p,hp,rfl⟩:=L2.1 hk;obtain⟨i,hi,hlt⟩:=h.keys p hp;have hv:D.vs[i]?=some (D.vs[i]):=by simp[hlt]
  rcases h.opn i _ hv with ⟨_,hl⟩|⟨ht,_⟩
  ·exact absurd hi (Vo hl p hp)
  ·unfold Gn CY;refine L2.2 ⟨i,dF.2 ⟨W9.2 hlt,?_⟩,hi.symm⟩;unfold Nl;rw[hv];simpa [List.isEmpty_iff] using ht
 ·intro hk;unfold Gn CY at hk;obtain⟨i,hi,rfl⟩:=L2.1 hk;obtain⟨hr,ho⟩:=dF.1 hi;have hlt:=W9.1 hr;have hv:D.vs[i]?=some (D.vs[i]):=by simp[hlt]
  unfold Nl at ho;rw[hv]at ho;rcases h.opn i _ hv with ⟨ht,_⟩ | ⟨_,vb,c,hl,_⟩
  ·simp[ht]at ho
  ·exact L2.2 ⟨_,KE hl,rfl⟩
end Go.Den
namespace Go.Z
section
variable{w:World}{R:Nat->Prop}{b sb mb sc:Nat}{L:List (Int×Value)}{D:St}{K:Value->World->Prop}
theorem bM{zs:List Int}(hn:zs.Nodup)(hm:∀ k,k∈zs↔k∈Gn D):S7 zs=Gn D:=by
 have hp:zs.Perm (Gn D):=(List.perm_ext_iff_of_nodup hn (aZ D)).2 hm;refine List.Perm.eq_of_pairwise (le:=fun a b:Int=>a<=b) (fun a b _ _ h1 h2=>by omega) ?_ (Y2 D) ((List.mergeSort_perm _ _).trans hp)
 have:=List.pairwise_mergeSort (le:=fun x y:Int=>decide (x<=y)) (fun a b c h1 h2=>by simp only[RV]at *;omega) (fun a b=>by simp only[wP,RV];omega) zs
 refine Lq4 ?_ this;intro a b h;exact Ld h
theorem AbW(h:AA w R b sb mb sc L D)(hk:∀ w' a l c,Ab No w w'->Ow Yt w' w.heap.size 176 1 a l c (iL (Gn D))->K (.slice a l c) w'):A7 Yt G0 #[Yo b] w K:=by
 apply RL;unfold Kq;obtain⟨Es,clock,g1,g2,g3,g4,g5⟩:=h.map;have hu:Yt.underlying 152=some (.map 3 151):=by kernel_rfl
 refine ff rfl ⟨_,rfl,some mb,h.lm,_,_,oA hu g1,?_⟩;have m1:Ab No w (w.alloc (.mapIter (some mb) clock #[] clock)):=(Ab.refl No w).alloc _;have hmb:=AM g1;have hlenE:Es.length<=4096:=by
  have hsub:(L.map (·.1)).length<=(Gn D).length:=List.Nodup.length_le_of_subset h.map.nodup fun k hk=>(Xf h k).1 hk;have h1:(Gn D).length<=D.vs.length:=by
   unfold Gn CY;rw[La5];exact QK (Ld3 _ _) (by simp)
  have:=h.wf.hi
  rw[<- g2]at hsub;simp at hsub;omega
 refine⟨fun x w2=>∃ vis a l c,x=[.slice a l c]/\Ow Yt w2 (w.heap.size+1) 176 1 a l c (iL (vis.map (·.1)))/\JY w2 w.heap.size mb Es clock vis/\Ab No w w2/\w.heap.size+1<=w2.heap.size,
  fun _ w2=>gK mb w.heap.size w2,⟨[],none,0,0,rfl,Ow.nil Fq,⟨m1.keep g1 id,BV w _,by simp,by simp,g4,g5⟩,m1,by simp⟩,?_⟩
 rintro x w2 ⟨vis,a,l,c,rfl,how,hR,hm,hsz⟩;have hvl:vis.length<=Es.length:=by
  have:=List.Nodup.length_le_of_subset (Ie hR.nodup) (fun e he=>hR.sub e he);exact this
 have hl:l=vis.length:=by have:=how.len;simpa using this.symm
 rcases hR.next (P:=Yt) (ty:=0)with ⟨hp,hrun⟩|⟨e,he,w3,hrun,hent,hR3,hnin,hm3,hlt⟩
 ·refine⟨_,_,hrun,false,fun _=>rfl,ff rfl ⟨_,_,_,rfl,qI how (fun w4 o4 m4=>⟨rfl,?_⟩) (by rw[La5];omega)⟩⟩;have hs:S7 (vis.map (·.1))=Gn D:=by
   refine bM ?_ fun k=>?_
   ·exact(hp.map (·.1)).nodup_iff.2 g3
   ·rw[(hp.map (·.1)).mem_iff,<- Xf h k,<- g2,Lo4];rfl
  rw[hs]at o4;exact hk w4 a l c (hm.up m4 (by omega)) (o4.mono (by omega))
 ·refine⟨_,w3,hrun,true,fun _=>rfl,tt rfl ⟨_,hent,_,fun _=>rfl,_,_,_,rfl,_,_,_,_,Sd _ _,?_⟩⟩;have how3:=how.keep hm3 (fun q hq e=>by have:=(how.base hq).1;omega);obtain⟨a4,c4,w4,h4,o4,m4⟩:=how3.snoc (ty:=176) (t:=3) (ys:=[Yn e.1]) Fq (by omega) rfl (by simp;rfl) (by omega) (by omega) (by have:=hm3.size;omega);have hmb':mb<w.heap.size+1:=by omega
  have hR4:=hR3.keep m4 (by omega) (by omega);refine⟨_,_,_,w4,h4,⟨vis++[e],a4,_,c4,rfl,?_,hR4,(hm.trans hm3 fun x hx e=>by omega).trans m4 fun x hx e=>by omega,by have:=hm3.size;have:=m4.size;omega⟩,?_⟩
  ·rw[pM];simpa [iL,I] using o4
  ·have e1:gK mb w.heap.size w4=gK mb w.heap.size w3:=by rw[hR4.togo,hR3.togo]
   show gK mb w.heap.size w4<gK mb w.heap.size w2;rw[e1];exact hlt
def HX(D:St)(n:Int):List Bk:=if n<0 then []else D.vs[n.toNat]?.getD []
def UA(w0 w:World)(a:Option Addr)(xs:List UInt8):Prop:=(a=none/\xs=[])\/∃ q,a=some ⟨q,0,none⟩/\w0.heap.size<=q/\Av w q 0 (A6 xs)
theorem UA.row{w0 w:World}{a:Option Addr}{xs:List UInt8}(h:UA w0 w a xs):BG w a (A6 xs):=by
 rcases h with ⟨_,rfl⟩|⟨q,rfl,_,h⟩
 ·exact .inl rfl
 ·exact .inr ⟨q,0,rfl,h.at⟩
theorem UA.nos{w0 w w':World}{a:Option Addr}{xs:List UInt8}(h:UA w0 w a xs)(m:Ab No w w'):UA w0 w' a xs:=by
 rcases h with h|⟨q,rfl,hq,h⟩
 ·exact .inl h
 ·exact .inr ⟨q,rfl,hq,h.keep m id⟩
theorem GA(n:Int):(AO D n=3/\(n<0\/D.vs.length<=n))\/(AO D n=0/\∃ i v,n=(i:Nat)/\D.vs[i]?=some v/\HX D n=v):=by
 unfold AO HX;by_cases h:n<0\/D.vs.length<=n
 ·rw[if_pos h];exact .inl ⟨rfl,h⟩
 ·rw[if_neg h,if_neg (by omega)];refine .inr ⟨rfl,n.toNat,D.vs[n.toNat]'(by omega),by omega,by simp,?_⟩;have:n.toNat<D.vs.length:=by omega
  simp[this]
def PT(D:St)(n:Int):List UInt8:=if AO D n=0 then DY (HX D n)else []
def Ma(D:St):Prop:=∀ v∈D.vs,v.length<=1000000
theorem qH(h:AA w R b sb mb sc L D)(hs:Ma D){n:Int}(hk:∀ w' a c,Ab No w w'->UA w w' a (PT D n)->K (.tuple #[.slice a (PT D n).length c,Yn (AO D n)]) w'):A7 Yt B7 #[Yo b,Yn n] w K:=by
 apply Kj;unfold Gx;refine tK h ⟨_,rfl,?_⟩;rcases GA (D:=D) n with ⟨he,_⟩ | ⟨he,i,v,rfl,hv,hver⟩
 ·have hb:PT D n=[]:=by unfold PT;rw[if_neg (by omega)]
  refine tt (by rw[he];rfl) ?_
  have:=hk w none 0 (Ab.refl _ _) (.inl ⟨rfl,hb⟩)
  rw[hb]at this;exact this
 ·have hb:PT D i=DY v:=by unfold PT;rw[if_pos he,hver]
  have hll:=h.wf.lastLen hv;refine ff (by rw[he];rfl) (fH h hv (hs v (XN hv)) fun w2 m2=>⟨_,rfl,_,_,MU w2,_,NY G5 (by rw[Ai,Lw]) (by simp[hll]) (Cu _),_,_,_,Tv _,?_⟩)
  have:=hk (w2.alloc (.cells ⟨A6 (DY v)⟩ 223)) (some ⟨w2.heap.size,0,none⟩) 256 (m2.alloc _) (.inr ⟨w2.heap.size,rfl,m2.size,by rw[hb];exact Av.new⟩)
  rw[hb,hll,he]at this;exact this
theorem Zs(h:AA w R b sb mb sc L D)(hk:K (Yn D.vs.length) w):A7 Yt B1 #[Yo b] w K:=by
 apply TB;unfold LT;exact ff rfl ⟨_,rfl,_,_,_,h.ls,hk⟩
theorem gL{n:Int}(h:n<0\/D.vs.length<=n):HX D n=[]:=by
 unfold HX;split
 ·rfl
 ·rw[Ln2 (by omega)];rfl
end
end Go.Z
end
section
open Go Go.Den Go.Proofs
namespace Go.Den
section
variable{P:Program}{w:World}
theorem kN{T:TypeId}{k n c:Nat}{a:Option Addr}(hT:Hf P T=some k)(h2:n<=c)(w:World) :
  (Instr.sliceAt T (.slice a n c) none (some (Yn n)) (some (Yn n))).run P w=.ok (.slice (CL a n 0 k) n n) w:=by
 obtain⟨e,inf,he,hi,hk⟩:=JI hT;have hb1:=fun code=>EF (P:=P) (kk:=.i64) (i:=n) (y:=c) (code:=code) (by omega) (by omega) w;have hb2:=fun code=>EF (P:=P) (kk:=.i64) (i:=n) (y:=n) (code:=code) (by omega) (by omega) w;simp only[Instr.sliceAt,Sem.run_bind,AJ he,Result.andThen_ok,Instr.slice,Instr.sliceBounds,Sem.run_pure,lD,hb1,hb2,Lz,Bx hi,hk];unfold CL
 split<;>rfl
theorem CX:∀(L:List (Int×Value)) (k:Int) (v:Value) (k':Int),Ay (Kg k v L) k'=if k=k' then some v else Ay L k'
 | [],k,v,k'=>by simp[Kg,Ay]
 | p::r,k,v,k'=>by
  simp only[Kg];by_cases hp:p.1=k
  ·rw[if_pos hp];simp only[Ay];by_cases hk:k=k'
   ·rw[if_pos hk,if_pos hk]
   ·rw[if_neg hk,if_neg hk,if_neg (by omega)]
  ·rw[if_neg hp];simp only[Ay];by_cases hp':p.1=k'
   ·rw[if_pos hp',if_neg (by omega),if_pos hp']
   ·rw[if_neg hp',if_neg hp',CX r k v k']
theorem Ry{L:List (Int×Value)}{k:Int}{v:Value}:∀ p∈Kg k v L,p.1=k\/p∈L:=by
 induction L with
 | nil=>intro p hp;simp[Kg]at hp;exact .inl (by rw[hp])
 | cons q r ih =>
  intro p hp;simp only[Kg]at hp;by_cases hq:q.1=k
  ·rw[if_pos hq]at hp;rcases Lv.1 hp with rfl | hp
   ·exact .inl rfl
   ·exact .inr (dH _ hp)
  ·rw[if_neg hq]at hp;rcases Lv.1 hp with rfl | hp
   ·exact .inr (by simp)
   ·rcases ih p hp with h|h
    ·exact .inl h
    ·exact .inr (dH _ h)
end
def EM:Bk:=List.replicate 256 0
def AH(n:Nat):St:=⟨List.replicate n [EM],-1⟩
theorem WF.new{n:Nat}(h0:1<=n)(h1:n<=4096):WF (AH n) where
 ver:=by
  intro v hv
  have:=List.eq_of_mem_replicate hv
  subst this;exact⟨by simp,by intro x hx;simp at hx;subst hx;exact Lw⟩
 lo:=by simp[AH];exact h0
 hi:=by simp[AH];exact h1
 l0:=by simp[AH]
 l1:=by simp[AH]
theorem ZU:∀ n:Nat,(List.replicate n EM).flatten=List.replicate (n*256) 0
 | 0=>by simp
 | n+1=>by
  rw[List.replicate_succ,qB,ZU n,EM,List.replicate_append_replicate]
  congr 1;omega
def D9(R:Nat->Prop)(w w':World):Nat->Prop:=fun x=>R x\/(w.heap.size<=x/\x<w'.heap.size)
def rO(l:Int):Int:=if -1 > l-1 then -1 else l-1
end Go.Den
namespace Go.Z
section
variable{w:World}{R:Nat->Prop}{b sb mb sc:Nat}{L:List (Int×Value)}{D:St}{K:Value->World->Prop}
theorem dR(w:World)(a:Option Addr)(l c:Nat)(m:Option Nat):(Instr.build 154 #[(0,.slice a l c),(1,.map m),(2,Yn (-1))]).run Yt w=.ok (.agg ⟨[.slice a l c,.map m,Yn (-1)]⟩) w:=by kernel_rfl
theorem AeW{n : Int}(h0 : -9223372036854775808 ≤ n)(h1 : n ≤ 9223372036854775807)(hbad : n < 1 ∨ 4096 < n → K (.tuple #[.pointer none, Yn 1]) w)
    (hok : ∀ k : Nat, n = k → 1 ≤ k → k ≤ 4096 → ∀ w' b sb mb, Ab No w w' → AA w' (fun x => w.heap.size ≤ x ∧ x < w'.heap.size) b sb mb k [] (AH k) → K (.tuple #[Yo b, Yn 0]) w') :
    A7 Yt KV #[Yn n] w K := by
  apply cR;unfold Us;refine Ad.or ⟨_, rfl, Aa (fun hb => ?_) (fun hb => ?_)⟩
  · exact hbad (by simpa using hb)
  have hn : ¬ (n < 1 ∨ 4096 < n) := by simpa using hb
  obtain⟨k, rfl⟩ := dG (show 0 ≤ n by omega);obtain⟨w1, hm1, hat1, hmod1, hsz1⟩ := DK (P := Yt) (w := w) (n := k) LA (by omega) (by omega) (by omega);refine⟨_, _, _, w1, hm1, _, _, CG, _, fun w => dR w _ _ _ _, _, _, JF, ?_⟩;have m2 : Ab No w1 (w1.alloc (.map #[] 0)) := (Ab.refl No w1).alloc _;have m3 : Ab No (w1.alloc (.map #[] 0)) ((w1.alloc (.map #[] 0)).alloc (.cells ⟨[.slice (some ⟨w.heap.size, 0, none⟩) k k, .map (some w1.heap.size), Yn (-1)]⟩ 154)) := (Ab.refl No _).alloc _
  have hz : List.replicate (k * 256) (Value.int .u8 0) = A6 ((AH k).vs.map hd).flatten := by
    have : (AH k).vs.map hd = List.replicate k EM := by simp[AH, hd]
    rw[this, ZU];simp[A6, u8]
  rw[hz]at hat1;refine hok k rfl (by omega) (by omega) _ _ w.heap.size w1.heap.size ((hmod1.no m2).no m3) ?_;have hs2 : (w1.alloc (.map #[] 0)).heap.size = w.heap.size + 2 := by simp[hsz1]
  have hs3 : ((w1.alloc (.map #[] 0)).alloc (.cells (Value.agg ⟨[.slice (some ⟨w.heap.size, 0, none⟩) k k, .map (some w1.heap.size), Yn (-1)]⟩).cells 154)).heap.size = w.heap.size + 3 := by simp[hsz1]
  exact { cell := by
            have : (AH k).vs.length = k := by simp[AH]
            rw[this];exact Av.new
          cap := by simp[AH]
          safe := (hat1.keep m2 id).keep m3 id
          map := AU.new.keep m3 id
          rb := by rw[hs3];omega
          rs := by rw[hs3];omega
          rm := by rw[hs3];omega
          ne := by omega
          opn := fun i v hv => .inl ⟨by
            have := List.eq_of_mem_replicate (XN hv)
            subst this;rfl, rfl⟩
          keys := by simp
          wf := WF.new (by omega) (by omega)
          lt := fun x hx => hx.2 }
def WP(xs:List UInt8):Bk:=(List.range 256).map fun i=>xs.getD (i % xs.length) 0
@[simp] theorem yO (xs:List UInt8):(WP xs).length=256:=by simp[WP]
end
end Go.Z
end
section
open Go Go.Den Go.Proofs
namespace Go.Den
section
variable{P:Program}{w:World}
theorem At.pre{g:Nat}{e:TypeId}{fz:Nat×Nat}{arr:Array Value}{cs rest:List Value}(h:w.heap[g]?=some (.cells arr e fz))(ha:arr.toList=cs++rest):At w g 0 cs :=
 ⟨arr.toList,e,fz,h,by rw[ha];simp,by rw[ha];simp⟩
theorem ET(o:Obj):w.heap.size<(w.drew.alloc o).heap.size:=by
 show w.heap.size<(w.heap.push o).size;simp
theorem Zy{T ty:TypeId}{k bytes l q:Nat}{z:Value}{a:Option Addr}{xs ys:List Value}(hT:EG P T k z bytes)(hk:0<k)(hx:xs.length=l*k)
  (hr:(l=0/\a=none)\/(0<l/\∃ b,a=some ⟨b,0,none⟩/\At w b 0 xs)) (hy:ys.length=k) (hyr:At w q 0 ys) (h63:(l+1)*bytes<=140737488355328) (hb:0<bytes) :
  ∃ c' w',(Builtin.append_ #[T,T] ty #[.slice a l l,.slice (some ⟨q,0,none⟩) 1 1]).run P w=.ok (.slice (some ⟨w.heap.size,0,none⟩) (l+1) c') w'/\l+1<=c'/\At w' w.heap.size 0 (xs++ys)/\Ab No w w'/\w.heap.size<w'.heap.size:=by
 obtain⟨e,i,zv,he,hi,hsz,hz,hzc,hby⟩:=hT.is;have hnews:∀ j v,ys[j]?=some v->w.cell? (Addr.add ⟨q,0,none⟩ j)=some v:=fun j v hj=>hyr.cell hj;have hle:l+1<=(l+1)*bytes:=Lh2 _ hb;have hm:∀ o:Obj,Ab No w (w.drew.alloc o):=fun o=>((Ab.refl No w).drew (b:=w)).alloc o;rcases hr with ⟨rfl,rfl⟩|⟨hl,b,rfl,hat⟩
 ·have hx0:xs=[]:=iA (by omega);subst hx0;refine⟨_,_,run_append_nil w T ty e i zv he hi hz ⟨q,0,none⟩ 1 1 ys (by rw[hsz];omega) hnews (by omega) (by omega) (by rw[hby];omega),?_,?_,hm _,ET _⟩
  ·exact grownCap_ge w 1 0 e
  ·exact At.pre (BV w.drew _) (by rw[Ll4];rfl)
 ·have holds:∀ j v,xs[j]?=some v->w.cell? (Addr.add ⟨b,0,none⟩ j)=some v:=fun j v hj=>hat.cell hj;refine⟨_,_,run_append_grow w T ty e i zv he hi hz ⟨b,0,none⟩ l l xs (by rw[hsz];exact hx) holds ⟨q,0,none⟩ 1 1 ys (by rw[hsz];omega) hnews (by omega) (by omega) (growslice_fits (by omega) (by rw[hby];exact h63)),?_,?_,hm _,ET _⟩
  ·exact grownCap_ge w (l+1) l e
  ·exact At.pre (BV w.drew _) (by rw[Ll4,Ll4])
end
def Wr(b sb mb:Nat):Nat->Prop:=fun x=>x=b\/x=sb\/x=mb
theorem AA.wr{w:World}{R:Nat->Prop}{b sb mb sc:Nat}{L:List (Int×Value)}{D:St}(h:AA w R b sb mb sc L D){x:Nat}(hx:Wr b sb mb x):R x:=by
 rcases hx with rfl|rfl|rfl
 ·exact h.rb
 ·exact h.rs
 ·exact h.rm
theorem AA.gro{w':World}{R:Nat->Prop}{b sb mb sc:Nat}{L:List (Int×Value)}{D:St}(w0:World)(h:AA w' R b sb mb sc L D):AA w' (D9 R w0 w') b sb mb sc L D where
 cell:=h.cell
 cap:=h.cap
 safe:=h.safe
 map:=h.map
 rb:=.inl h.rb
 rs:=.inl h.rs
 rm:=.inl h.rm
 ne:=h.ne
 opn:=fun i v hv=>by
  rcases h.opn i v hv with h|⟨h1,vb,c,h2,h3,h4,h5,h6⟩
  ·exact .inl h
  ·exact .inr ⟨h1,vb,c,h2,h3,h4,.inl h5,h6⟩
 keys:=h.keys
 wf:=h.wf
 lt:=fun x hx=>by
  rcases hx with hx|hx
  ·exact h.lt x hx
  ·exact hx.2
end Go.Den
namespace Go.Z
section
variable{w:World}{R:Nat->Prop}{b sb mb sc:Nat}{L:List (Int×Value)}{D:St}{K:Value->World->Prop}
def cM(D:St)(n:Int)(ys:List UInt8):Int:=if AO D n≠0 then AO D n else if ys.length≠256 then 4 else 0
def DG(D:St)(n:Int)(ys:List UInt8):St:=if cM D n ys≠0\/D.left=0 then D else⟨D.vs.set n.toNat (HX D n++[ys]),rO D.left⟩
theorem Wq(a:Option Addr)(c:Nat):Al (Instr.arrayAt 223 (.slice a 256 c)) (.pointer a):=fun _=>by kernel_rfl
theorem ZE{ys:List UInt8}(hy:ys.length=256)(w:World):(Instr.buildSlice 151 1 #[(0,.agg ⟨A6 ys⟩)]).run Yt w=.ok (.slice (some ⟨w.heap.size,0,none⟩) 1 1) (w.alloc (.cells ⟨A6 ys⟩ 223)):=by
 obtain⟨e,i,zv,he,hi,hsz,hz,hzc,hby⟩:=LA.is;have hee:e=223:=by
  have:Yt.underlying 151=some (.slice 223):=by kernel_rfl
  rw[this]at he;simpa using he.symm
 subst hee;have hf:=Go.Great.fill_whole (s:=256) (by omega) [Value.agg ⟨A6 ys⟩] ((Array.range (1*i.size)).map (zv.cells[· % zv.cells.size]!)) (by simp[Value.cells,hy]) (by simp[hsz])
 have:=run_buildSlice w 151 223 1 #[(0,.agg ⟨A6 ys⟩)] ⟨A6 ys⟩ i zv he hi hz (by rw[hsz];decide) (by rw[hsz];decide) (by rw[hsz]at hf |-;simpa [Value.cells] using hf)
 exact this
theorem vI{v:List Bk}(hv:v≠[])(y:Bk):(v++[y]).tail=v.tail++[y]/\hd (v++[y])=hd v:=by
 cases v with
 | nil=>exact absurd rfl hv
 | cons a r=>exact⟨rfl,rfl⟩
set_option maxRecDepth 100000 in
theorem wW(h : AA w R b sb mb sc L D)(hs : ∀ v ∈ D.vs, v.length ≤ 999999){n : Int}{a : Option Addr}{l c : Nat}{ys : List UInt8}(hl : ys.length = l)(hr : BG w a (A6 ys))(hdis : ∀ q, a = some q → ¬ R q.block)
    (hk : ∀ w' L', Ab (Wr b sb mb) w w' → AA w' (D9 R w w') b sb mb sc L' (DG D n ys) → K (Yn (cM D n ys)) w') : A7 Yt AY #[Yo b, Yn n, .slice a l c] w K := by
  apply Qq;unfold Ji;refine tK h ⟨_, rfl, ?_⟩;rcases GA (D := D) n with ⟨he, ho⟩ | ⟨he, i, v, rfl, hv, hver⟩
  · have hw : cM D n ys = 3 := by unfold cM;rw[he, if_pos (by omega)]
    have hS : DG D n ys = D := by unfold DG;rw[if_pos (.inl (by omega))]
    refine tt (by rw[he];rfl) ?_
    have := hk w L (Ab.refl _ _) (by rw[hS];exact h.gro w)
    rw[hw]at this;rw[he];exact this
  refine ff (by rw[he];rfl) (Aa (fun hb => ?_) (fun hb => ?_))
  · have hne : ys.length ≠ 256 := by simp at hb;omega
    have hw : cM D i ys = 4 := by unfold cM;rw[he, if_neg (by omega), if_pos hne]
    have hS : DG D i ys = D := by unfold DG;rw[if_pos (.inl (by omega))]
    have := hk w L (Ab.refl _ _) (by rw[hS];exact h.gro w)
    rw[hw]at this;exact this
  have hl2 : l = 256 := by simp at hb;omega
  subst hl2;have hw : cM D i ys = 0 := by unfold cM;rw[he, if_neg (by omega), if_neg (by omega)]
  rw[hw]at hk;have hvlen := hs v (XN hv);have hvne := (h.wf.ver v (XN hv)).1;have hilt : i < D.vs.length := (Lq.1 hv).1;have htl : v.tail.length ≤ v.length := by simp
  -- what stands in the map
  have hopen : ∃ a0 l0 c0, Ru (Instr.lookup 152 (.map (some mb)) (Yn i) false) w (.slice a0 l0 c0) w ∧ l0 = v.tail.length ∧ l0 ≤ c0 ∧ ((l0 = 0 ∧ a0 = none) ∨ (0 < l0 ∧ ∃ vb, a0 = some ⟨vb, 0, none⟩ ∧ At w vb 0 (A6 v.tail.flatten) ∧ vb ≠ b)) := by
    rcases h.opn i v hv with ⟨ht, hl⟩|⟨ht, vb, c, hl, hc, hat, _, hvb, _⟩
    · exact⟨none, 0, 0, Xj h.map hl, by rw[ht];rfl, Le _, .inl ⟨rfl, rfl⟩⟩
    · exact⟨_, _, c, Xk h.map hl, rfl, hc, .inr ⟨List.length_pos_iff.2 ht, vb, rfl, hat, hvb⟩⟩
  obtain⟨a0, l0, c0, hlook, hl0, hc0, hrow0⟩ := hopen;refine⟨_, rfl, some mb, h.lm, a0, l0, c0, hlook, ?_⟩;refine sN h (fun hz => ⟨_, rfl, Ad.dup (ff rfl ?_)⟩) fun hnz w2 h2 m2 => ⟨_, rfl, Ad.dup (tt rfl ?_)⟩
  · have hS : DG D i ys = D := by unfold DG;rw[if_pos (.inr hz)]
    exact hk w L (Ab.refl _ _) (by rw[hS];exact h.gro w)
  have hS : DG D i ys = ⟨D.vs.set i (v ++ [ys]), rO D.left⟩ := by unfold DG;rw[if_neg (by omega), hver];rfl
  rw[hS]at hk;have h2d := h2.drew;have hrne : ¬ A6 ys = [] := fun e => by have := QJ List.length e;simp[hl]at this
  obtain⟨b2, o2, rfl, hat2⟩ := hr.resolve_left hrne;have hb2 : b2 ≠ b := fun e => hdis _ rfl (by rw[e];exact h.rb);have hat2' : At (Go.Den.Af w2) b2 o2 (A6 ys) := (hat2.keep m2 hb2).drew;have hload : Ru (Instr.loadAt 223 (.pointer (some ⟨b2, o2, none⟩))) (Go.Den.Af w2) (.agg ⟨A6 ys⟩) (Go.Den.Af w2) := by
    have := hat2'.loadAgg (P := Yt) (i := 0) G5 (by simp;omega)
    have e : (A6 ys).take 256 = A6 ys := Lf (by simp;omega);simpa [e] using this
  have m3 : Ab No (Go.Den.Af w2) ((Go.Den.Af w2).alloc (.cells ⟨A6 ys⟩ 223)) := (Ab.refl No _).alloc _;refine⟨_, rfl, some mb, h2d.lm, _, _, _, kN (k := 256) (by kernel_rfl) hc0, ⟨b2, o2, none⟩, Wq _ _, ⟨A6 ys⟩, hload, _, _, _, _, ZE hl _, (h2d.nos m3).lm, ?_⟩;have hq : Av ((Go.Den.Af w2).alloc (.cells ⟨A6 ys⟩ 223)) (Go.Den.Af w2).heap.size 0 (A6 ys) := Av.new
  have hsz3 : w2.heap.size < ((Go.Den.Af w2).alloc (.cells ⟨A6 ys⟩ 223)).heap.size := by simp
  have h3 := h2d.nos m3;have hqs : (Go.Den.Af w2).heap.size = w2.heap.size := rfl;generalize (Go.Den.Af w2).alloc (.cells ⟨A6 ys⟩ 223) = w3 at *;have htfl := Rh v.tail (h.wf.tl hv);obtain⟨c4, w4, happ, hc4, hat4, m4, hsz4⟩ := Zy (P := Yt) (w := w3) (T := 151) (ty := 151) (l := l0) (a := CL a0 l0 0 256) (xs := A6 v.tail.flatten) (ys := A6 ys) (q := (Go.Den.Af w2).heap.size) LA (by omega) (by simp[htfl, hl0])
    (by
      rcases hrow0 with ⟨h1, h2⟩|⟨h1, vb, h2, h3, h4⟩
      · refine .inl ⟨h1, ?_⟩
        rw[h2];unfold CL;split<;>rfl
      · refine .inr ⟨h1, vb, ?_, ((h3.keep m2 h4).drew).keep m3 id⟩
        rw[h2];unfold CL;split
        · rfl
        · simp[Ae]) (by simp[hl]) hq.at (by omega) (by omega)
  refine⟨_, _, _, w4, happ, (h3.nos m4).lm, ?_⟩;have h4 := h3.nos m4;obtain⟨w5, hupd, hmap5, m5, hsz5⟩ := Fz (P := Yt) (k := (i : Int)) (v := .slice (some ⟨w3.heap.size, 0, none⟩) (l0 + 1) c4) TT h4.map;refine⟨w5, hupd, ?_⟩;have hb3 := h3.lt b h3.rb;have hs3 := h3.lt sb h3.rs;have hm3 := h3.lt mb h3.rm;have M4 : Ab (fun x => x = b) w w4 := ((m2.drew).no m3).no m4;have M5 : Ab (Wr b sb mb) w w5 := (M4.mono fun x _ e => .inl e).trans m5 fun x _ e => .inr (.inr e)
  have hws := M4.size;have hw23 := m2.size;obtain⟨tl1, tl2⟩ := vI hvne ys;refine hk w5 (Kg (i : Int) (.slice (some ⟨w3.heap.size, 0, none⟩) (l0 + 1) c4) L) M5 ?_;have hset : (D.vs.set i (v ++ [ys])).map hd = D.vs.map hd := by
    rw[Lp4, tl2];apply Lf3;intro j;by_cases hj : i = j
    · subst hj;rw[wO (by simpa using hilt), qC, hv];rfl
    · rw[wR hj]
  exact { cell := by
            have := h4.cell.keep m5 h4.nbm
            simpa [rO] using this
          cap := by simpa using h.cap
          safe := by
            rw[hset];exact h4.safe.keep m5 h4.nsm
          map := hmap5
          rb := .inl h.rb
          rs := .inl h.rs
          rm := .inl h.rm
          ne := h.ne
          opn := fun j v' hv' => by
            by_cases hj : i = j
            · subst hj
              have : v' = v ++ [ys] := by
                rw[wO hilt]at hv';exact(Lk hv').symm
              subst this;refine .inr ⟨by rw[tl1];simp, w3.heap.size, c4, ?_, ?_, ?_, .inr ⟨by omega, by omega⟩, by omega, by omega⟩
              · rw[CX, if_pos rfl, tl1, Lj, ← hl0];rfl
              · rw[tl1, Lj, ← hl0];exact hc4
              · rw[tl1, List.flatten_append, VN]
                have e : [ys].flatten = ys := by simp
                rw[e];exact hat4.keep m5 (by omega)
            · rw[wR hj]at hv'
              rcases h4.opn j v' hv' with ⟨t1, t2⟩|⟨t1, vb, c', t2, t3, t4, t5, t6, t7⟩
              · exact .inl ⟨t1, by rw[CX, if_neg (by omega)];exact t2⟩
              · refine .inr ⟨t1, vb, c', by rw[CX, if_neg (by omega)];exact t2, t3, t4.keep m5 ?_, .inl t5, t6, t7⟩
                exact h4.map.ne_cells t4
          keys := fun p hp => by
            rcases Ry p hp with e|hp
            · exact⟨i, e, by simpa using hilt⟩
            · obtain⟨j, e, hj⟩ := h.keys p hp
              exact⟨j, e, by simpa using hj⟩
          wf := { ver := fun x hx => by
                    rcases List.mem_or_eq_of_mem_set hx with hx|rfl
                    · exact h.wf.ver x hx
                    · refine⟨by simp, fun y hy => ?_⟩
                      rcases Ln.1 hy with hy|hy
                      · exact(h.wf.ver v (XN hv)).2 y hy
                      · simp at hy;subst hy;omega
                  lo := by simpa using h.wf.lo
                  hi := by simpa using h.wf.hi
                  l0 := h2.wf.l0
                  l1 := h2.wf.l1 }
          lt := fun x hx => by
            rcases hx with hx|hx
            · have := h.lt x hx;have := M5.size;omega
            · exact hx.2 }
theorem wU(h:AA w R b sb mb sc L D)(hs:∀ v∈D.vs,v.length<=999999){n:Int}{a:Option Addr}{l c:Nat}{ys:List UInt8}(hl:ys.length=l)(hr:BG w a (A6 ys))(hdis:∀ q,a=some q->¬ R q.block)
  (hk:∀ w' L',Ab R w w'->AA w' (D9 R w w') b sb mb sc L' (DG D n ys)->K (Yn (cM D n ys)) w'):A7 Yt AY #[Yo b,Yn n,.slice a l c] w K :=
 wW h hs hl hr hdis fun w' L' m hd=>hk w' L' (m.mono fun _ _ e=>h.wr e) hd
end
end Go.Z
end
section
open Go Go.Den Go.Proofs
namespace Go.Den
def kS(D:St)(ks:List Nat)(f:Nat->List Bk->Bk):St:=⟨D.vs.mapIdx fun i v=>if i∈ks then f i v::v.tail else v,D.left⟩
def rK(D:St):St:=⟨D.vs.map fun v=>[hd v],D.left⟩
def zL(D:St)(f:Nat->List Bk->Bk):St:=⟨D.vs.mapIdx fun i v=>[f i v],D.left⟩
theorem RD{D:St}{ks:List Nat}{f:Nat->List Bk->Bk}{i:Nat}{v:List Bk}(hv:D.vs[i]?=some v):(kS D ks f).vs[i]?=some (if i∈ks then f i v::v.tail else v):=by
 simp[kS,Lu2,hv]
theorem vN{D:St}{ks:List Nat}{f:Nat->List Bk->Bk}{i:Nat}{v:List Bk}(hv:D.vs[i]?=some v):(kS D ks f).vs.set i (f i v::v.tail)=(kS D (ks++[i]) f).vs:=by
 apply Lf3;intro j;by_cases hj:i=j
 ·subst hj;have hlt:i<(kS D ks f).vs.length:=by simp[kS];exact(Lq.1 hv).1
  rw[wO hlt,RD hv,if_pos (by simp)]
 ·rw[wR hj];cases hw:D.vs[j]? with
  | none=>simp[kS,Lu2,hw]
  | some u =>
   rw[RD hw,RD hw];have:(j∈ks++[i])↔j∈ks:=by simp;intro e;exact absurd e.symm hj
   simp only[this]
theorem xM{D:St}{f:Nat->List Bk->Bk}(hf:∀ i v,D.vs[i]?=some v->v.tail=[]->f i v=hd v):rK (kS D (CY D) f)=zL D f:=by
 unfold rK zL
 congr 1
 apply Lf3;intro j;cases hw:D.vs[j]? with
 | none=>simp[kS,Lu2,hw]
 | some u =>
  rw[qC,RD hw,Lu2,hw];by_cases hj:j∈CY D
  ·rw[if_pos hj];rfl
  ·rw[if_neg hj];have ht:u.tail=[]:=by
    unfold CY at hj;rw[dF]at hj;have hlt:=(Lq.1 hw).1;simp only[W9,hlt,true_and,Nl,hw,Option.getD_some]at hj;simpa [List.isEmpty_iff] using hj
   simp[hf j u hw ht]
theorem AaG(D:St)(f:Nat->List Bk->Bk):kS D [] f=D:=by
 have:(D.vs.mapIdx fun i v=>if i∈([]:List Nat)then f i v::v.tail else v)=D.vs:=by
  apply Lf3;intro i;rw[Lu2];cases D.vs[i]?<;>simp
 unfold kS;rw[this]
theorem fQ(D:St)(g:List Bk->Bk):zL D (fun _ v=>g v)=⟨D.vs.map fun v=>[g v],D.left⟩:=by
 unfold zL;congr 1;apply Lf3;intro i;rw[Lu2,qC]
theorem tW{D:St}{i:Nat}(h:i∈CY D):∃ v,D.vs[i]?=some v/\v.tail≠[]:=by
 unfold CY at h;obtain⟨h1,h2⟩:=dF.1 h;have hlt:=W9.1 h1;refine⟨D.vs[i],by simp[hlt],?_⟩;unfold Nl at h2;simp[hlt,List.isEmpty_iff]at h2;exact fun e=>h2 e
theorem aY(D:St):(CY D).Nodup:=Lq4 (fun h=>by omega) ((Lx3 (n:=D.vs.length)).filter (Nl D))
theorem nM{ks:List Nat}(hn:ks.Nodup){j i:Nat}(hj:ks[j]?=some i):i ∉ ks.take j:=by
 intro hc;obtain⟨hlt,hi⟩:=Lq.1 hj;obtain⟨m,hm,he⟩:=List.getElem_of_mem hc;have hml:m<j:=by simp at hm;omega
 rw[List.getElem_take]at he
 have:=(List.pairwise_iff_getElem.1 hn) m j (by omega) hlt hml
 exact this (by rw[he,hi])
end Go.Den
namespace Go.Z
section
variable{w:World}{R:Nat->Prop}{b sb mb sc:Nat}{L:List (Int×Value)}{D:St}{K:Value->World->Prop}
theorem dD(h : AA w R b sb mb sc L D){i : Nat}{v : List Bk}{x : Bk}{w' : World}(hv : D.vs[i]? = some v)(hx : x.length = 256)(s2 : Av w' sb 0 (A9 (A6 (D.vs.map hd).flatten) (i * 256) (A6 x)))(s3 : Ab (fun x => x = sb) w w') :
    AA w' R b sb mb sc L ⟨D.vs.set i (x :: v.tail), D.left⟩ := by
  have hlt := (Lq.1 hv).1;have hvne := h.wf.ver v (XN hv)
  exact { cell := by
            have := h.cell.keep s3 h.ne
            simpa using this
          cap := by simpa using h.cap
          safe := by
            rw[LM, hx, ZV (D.vs.map hd) h.wf.hd i x (by simpa using hlt) hx]at s2;rw[Lp4];exact s2
          map := h.map.keep s3 h.nsm.symm
          rb := h.rb
          rs := h.rs
          rm := h.rm
          ne := h.ne
          opn := fun j v' hv' => by
            by_cases hj : i = j
            · subst hj
              have e : v' = x :: v.tail := by
                rw[wO hlt]at hv';exact(Lk hv').symm
              subst e
              have := (h.opn i v hv).keep s3 fun y _ e => .inr e
              exact this
            · rw[wR hj]at hv'
              exact(h.opn j v' hv').keep s3 fun y _ e => .inr e
          keys := fun p hp => by
            obtain⟨j, e, hj⟩ := h.keys p hp;exact⟨j, e, by simpa using hj⟩
          wf := { ver := fun y hy => by
                    rcases List.mem_or_eq_of_mem_set hy with hy|rfl
                    · exact h.wf.ver y hy
                    · refine⟨by simp, fun z hz => ?_⟩
                      rcases Lv.1 hz with rfl|hz
                      · exact hx
                      · exact hvne.2 z (List.mem_of_mem_tail hz)
                  lo := by simpa using h.wf.lo
                  hi := by simpa using h.wf.hi
                  l0 := h.wf.l0
                  l1 := h.wf.l1 }
          lt := fun y hy => pF (h.lt y hy) s3.size }
theorem XL(h:AA w R b sb mb sc L D){i:Nat}{v:List Bk}{x:Bk}(hv:D.vs[i]?=some v)(hx:x.length=256) :
  ∃ w',Gr (Instr.storeAt 223 (.pointer (some (Addr.add ⟨sb,0,none⟩ (i*256)))) (.agg ⟨A6 x⟩)) w w'/\AA w' R b sb mb sc L ⟨D.vs.set i (x::v.tail),D.left⟩/\Ab (fun x=>x=sb) w w':=by
 have hlt:=(Lq.1 hv).1;have hfl:=Rh (D.vs.map hd) h.wf.hd;have hfl':(D.vs.map hd).flatten.length=D.vs.length*256:=by rw[hfl,La5]
 have hle:(i+1)*256<=D.vs.length*256:=pP _ hlt;obtain⟨w',s1,s2,s3,s4⟩:=h.safe.storeAgg (P:=Yt) (T:=223) (i:=i*256) (n:=256) (vs:=A6 x) G5 (by simp[hx]) (by rw[Ai,hfl'];omega) (Cu x);exact⟨w',by rw[Ae];exact s1,dD h hv hx s2 s3,s3⟩
theorem XK(h : AA w R b sb mb sc L D){ty : TypeId} : ∃ w', Ru (Builtin.clear_ #[152] ty #[.map (some mb)]) w (.tuple #[]) w' ∧ AA w' R b sb mb sc [] (rK D) ∧ Ab (fun x => x = mb) w w' := by
  obtain⟨w', s1, s2, s3, s4⟩ := mB (P := Yt) (ty := ty) TT h.map;refine⟨w', s1, ?_, s3⟩;have hh : (rK D).vs.map hd = D.vs.map hd := by
    unfold rK;rw[Lo4];rfl
  exact { cell := by
            have := h.cell.keep s3 h.nbm
            simpa [rK] using this
          cap := by simpa [rK] using h.cap
          safe := by rw[hh];exact h.safe.keep s3 h.nsm
          map := s2
          rb := h.rb
          rs := h.rs
          rm := h.rm
          ne := h.ne
          opn := fun j v' hv' => by
            refine .inl ⟨?_, rfl⟩;simp[rK]at hv';obtain⟨u, _, rfl⟩ := hv';rfl
          keys := by simp
          wf := { ver := fun y hy => by
                    simp[rK]at hy;obtain⟨u, hu, rfl⟩ := hy;refine⟨by simp, fun z hz => ?_⟩;simp at hz;subst hz;exact h.wf.hd _ (L2.2 ⟨u, hu, rfl⟩)
                  lo := by simpa [rK] using h.wf.lo
                  hi := by simpa [rK] using h.wf.hi
                  l0 := h.wf.l0
                  l1 := h.wf.l1 }
          lt := fun y hy => pF (h.lt y hy) s3.size }
theorem nP{D:St}{j:Nat}(hj:j<(CY D).length):(iL (Gn D))[j]?=some (Yn ((CY D)[j]:Nat)):=by
 simp[iL,Gn,hj,I]
theorem nO{D:St}:(CY D).length<=D.vs.length:=by
 unfold CY;exact QK (Ld3 _ _) (by simp)
def K9(D:St):St:=if D.left=0 then D else⟨D.vs.map fun v=>[DY v],rO D.left⟩
theorem oP{ks:List Nat}{j:Nat}(hj:j<ks.length):ks.take (j+1)=ks.take j++[ks[j]]:=Lx hj
theorem wJ(h:AA w R b sb mb sc L D)(hs:Ma D)(hk:∀ w' L',Ab R w w'->AA w' R b sb mb sc L' (K9 D)->K (Yn 0) w'):A7 Yt BI #[Yo b] w K:=by
 apply Qp;unfold Jh;refine ff rfl (sN h (fun hz=>⟨_,rfl,tt rfl ?_⟩) fun hnz w2 h2 m2=>⟨_,rfl,ff rfl ?_⟩)
 ·have e:K9 D=D:=by unfold K9;rw[if_pos hz]
  exact hk w L (Ab.refl _ _) (by rw[e];exact h)
 have eF:K9 D=⟨D.vs.map fun v=>[DY v],rO D.left⟩:=by unfold K9;rw[if_neg hnz]
 rw[eF]at hk;have M2:Ab R w w2:=m2.mono fun x _ e=>by subst e;exact h.rb
 have hs2:Ma ⟨D.vs,rO D.left⟩:=hs;have h2':AA w2 R b sb mb sc L ⟨D.vs,rO D.left⟩:=h2;clear h2;generalize hD2:(⟨D.vs,rO D.left⟩:St)=D2 at *;refine AbW h2' fun w3 a l c m3 o3=>⟨_,_,_,rfl,?_⟩;have h3:=h2'.nos m3;have hl:(CY D2).length=l:=by have:=o3.len;simpa [Gn] using this
 have hlb:=nO (D:=D2);have hhi:=h2'.wf.hi
 refine⟨fun x w4=>∃ j:Nat,j<=l/\x=[Yn j]/\AA w4 R b sb mb sc L (kS D2 ((CY D2).take j) fun _ v=>DY v)/\Ow Yt w4 w2.heap.size 176 1 a l c (iL (Gn D2))/\Ab R w2 w4,fun x _=>(l-nI x 0).toNat,
  ⟨0,by omega,rfl,by rw[pX,AaG];exact h3,o3,m3.mono fun _ _ h=>h.elim⟩,?_⟩
 rintro x w4 ⟨j,hj,rfl,h4,o4,M4⟩;refine⟨_,rfl,Aa (fun hb=>?_) (fun hb=>?_)⟩
 ·have hj:j<l:=by have:=Ld hb;omega
  obtain⟨g,rfl,hg,hrow⟩:=o4.sm (by omega);have hjo:j<(CY D2).length:=by omega
  have hget:(CY D2)[j]?=some (CY D2)[j]:=by simp[hjo]
  obtain⟨v,hv,hvt⟩:=tW (Lm2 hjo);have hnt:=nM (aY D2) hget;have hv4:(kS D2 ((CY D2).take j) fun _ v=>DY v).vs[(CY D2)[j]]?=some v:=by rw[RD hv,if_neg hnt]
  refine⟨_,A8 (k:=1) (by kernel_rfl) (by omega) (by omega),?_⟩;rw[Ae,Lz,Lk4];refine⟨_,hrow.at.load (by kernel_rfl) (nP hjo),_,rfl,_,_,_,h4.drew.ls,?_⟩;refine fH h4.drew hv4 (hs2 v (XN hv)) fun w5 m5=>⟨_,rfl,(h4.drew.nos m5).ls,?_⟩;have h5:=h4.drew.nos m5;obtain⟨w6,s1,s2,s3⟩:=XL h5 hv4 (h2'.wf.lastLen hv);have hlt:(CY D2)[j]<(kS D2 ((CY D2).take j) fun _ v=>DY v).vs.length:=(Lq.1 hv4).1
  refine⟨_,fun _=>Ss hlt _,w6,s1,?_⟩;rw[Ag (x:=(j:Int)+1) (by omega) (by omega)];have M45:Ab No w4 w5:=((Ab.refl No w4).drew).no m5;refine⟨⟨j+1,by omega,rfl,?_,(o4.nos M45).keep s3 fun q hq e=>?_,(M4.no M45).trans s3 fun x _ e=>by subst e;exact h.rs⟩,by simp[nI,A2];omega⟩
  ·rw[oP hjo]
   have:=vN (ks:=(CY D2).take j) (f:=fun _ v=>DY v) hv
   rw[this]at s2;exact s2
  ·have:=(o4.base hq).1
   have:=h2'.lt sb h2'.rs
   omega
 ·have hjl:j=l:=by have:=Lc hb;omega
  subst hjl;have e1:(CY D2).take j=CY D2:=Lf (by omega);rw[e1]at h4;obtain⟨w6,s1,s2,s3⟩:=XK h4 (ty:=0);refine⟨_,rfl,some mb,h4.lm,w6,s1,?_⟩;refine hk w6 [] ((M2.trans M4 fun _ _ h=>h).trans s3 fun x _ e=>by subst e;exact h.rm) ?_;rw[xM (fun i v _ ht=>aN ht)]at s2;rw[fQ,<- hD2]at s2;exact s2
end
section
variable{w:World}{R:Nat->Prop}{b sb mb sc:Nat}{L:List (Int×Value)}{D:St}{K:Value->World->Prop}
def kOf(pick:List Int)(j m:Nat):Int:=if j<pick.length then(if (m:Int)<(if 0 > pick.getD j 0 then 0 else pick.getD j 0)then(m:Int)else(if 0 > pick.getD j 0 then 0 else pick.getD j 0))else 0
def Xt(D:St)(pick:List Int)(i:Nat)(v:List Bk):Bk:=v.getD (kOf pick ((CY D).idxOf i) v.tail.length).toNat []
end
section
variable{w0 w:World}{N b:Nat}{D:St}{K:Value->World->Prop}
def D1:St:=DG (AH 3) 1 (WP [65])
def D2:St:=K9 D1
def D3:St:=DG D2 1 (WP [66])
def D4:St:=DG D3 1 (WP [67])
theorem sm(D:St)(h:(D.vs.all fun v=>decide (v.length<=999999))=true):∀ v∈D.vs,v.length<=999999:=by
 intro v hv
 have:=cI.1 h v hv
 exact Ld this
end
end Go.Z
end
section
open Go Go.Den Go.Proofs
namespace Go.Den
theorem LD{α β:Type}{f:α->β}:∀{l:List α},(l.map f).Nodup->∀{x e:α},x∈l->e∈l->f x=f e->x=e
 | [],_,x,e,hx,_,_=>by cases hx
 | y::r,hn,x,e,hx,he,h=>by
  rw[Zr,pN]at hn;rcases Lv.1 hx with hx | hx
  ·rcases Lv.1 he with he|he
   ·rw[hx,he]
   ·exact absurd (L2.2 ⟨e,he,by rw[<- h,hx]⟩) hn.1
  ·rcases Lv.1 he with he|he
   ·exact absurd (L2.2 ⟨x,hx,by rw[h,he]⟩) hn.1
   ·exact LD hn.2 hx he h
end Go.Den
namespace Go.Z
section
variable{D:St}
def VX(D:St)(m:Nat):Prop:=∀ v∈D.vs,v.length<=m
theorem VX.mono{m m':Nat}(h:VX D m)(hm:m<=m'):VX D m':=fun v hv=>QK (h v hv) hm
theorem cO{m:Nat}(h:VX D m)(n:Int)(ys:List UInt8):VX (DG D n ys) (m+1):=by
 unfold DG;split
 ·exact h.mono (by omega)
 ·intro v hv;rcases List.mem_or_eq_of_mem_set hv with hv | rfl
  ·have:=h v hv;omega
  ·have:(HX D n).length<=m:=by
    rcases GA (D:=D) n with ⟨_,ho⟩|⟨_,i,u,rfl,hu,hver⟩
    ·rw[gL ho];simp
    ·rw[hver];exact h u (XN hu)
   simp;omega
end
end Go.Z
end
section
open Go Go.Den
namespace Go.Den
def PG(k:Int)(L:List (Int×Value)):List (Int×Value):=L.filter fun p=>!decide (p.1=k)
theorem Tn(k:Int):∀(Es:List VS)(i j:Nat)(u:Value),(Es.map (·.1)).Nodup->F9 k Es i=some (j,u)->i<=j/\j-i<Es.length/\Es.eraseIdx (j-i)=Es.filter fun e=>!decide (e.1=k)
 | [],_,_,_,_,h=>by cases h
 | e::r,i,j,u,hn,h=>by
  rw[Zr,pN]at hn;simp only[F9]at h;by_cases he:e.1=k
  ·rw[if_pos he]at h;have h:=Lk h;simp only[Lu4]at h;obtain⟨rfl,_⟩:=h;refine⟨Le _,by simp,?_⟩;rw[dI,List.eraseIdx_cons_zero,List.filter_cons_of_neg (by simp[he])];refine(Lm3.2 fun x hx=>?_).symm;have:x.1≠k:=fun e'=>hn.1 (L2.2 ⟨x,hx,by rw[e',he]⟩);simp[this]
  ·rw[if_neg he]at h;obtain⟨h1,h2,h3⟩:=Tn k r (i+1) j u hn.2 h;refine⟨by omega,by simp;omega,?_⟩;rw[show j-i=(j-(i+1))+1 by omega,List.eraseIdx_cons_succ,h3,List.filter_cons_of_pos (by simp[he])]
theorem WQ(k:Int):∀(Es:List VS)(i:Nat),F9 k Es i=none->(Es.filter fun e=>!decide (e.1=k))=Es
 | [],_,_=>rfl
 | e::r,i,h=>by
  simp only[F9]at h;by_cases he:e.1=k
  ·rw[if_pos he]at h;cases h
  ·rw[if_neg he]at h;rw[List.filter_cons_of_pos (by simp[he]),WQ k r (i+1) h]
theorem WN{α β:Type}(f:α->β):∀(l:List α)(j:Nat),(l.map f).eraseIdx j=(l.eraseIdx j).map f
 | [],_=>rfl
 | x::r,0=>rfl
 | x::r,j+1=>by simp[WN f r j]
theorem tG(L:List (Int×Value))(k k':Int):Ay (PG k L) k'=if k'=k then none else Ay L k':=by
 induction L with
 | nil=>simp[PG,Ay]
 | cons p r ih =>
  unfold PG at ih |-;by_cases hp:p.1=k
  ·rw[List.filter_cons_of_neg (by simp[hp]),ih];by_cases hk:k'=k
   ·rw[if_pos hk,if_pos hk]
   ·rw[if_neg hk,if_neg hk];simp only[Ay];rw[if_neg (by omega)]
  ·rw[List.filter_cons_of_pos (by simp[hp])];simp only[Ay];by_cases hk:p.1=k'
   ·rw[if_pos hk,if_pos hk,if_neg (by omega)]
   ·rw[if_neg hk,if_neg hk,ih]
theorem xR{L:List (Int×Value)}{k:Int}{p:Int×Value}:p∈PG k L↔p∈L/\p.1≠k:=by
 unfold PG;rw[dF];simp
section
variable{P:Program}{w:World}
theorem Xi{T:TypeId}{z:Value}{m:Nat}{L:List (Int×Value)}{k:Int}(hT:O6 P T=some z)(h:AU w m L) :
  (Instr.lookup T (.map (some m)) (Yn k) true).run P w=.ok (.tuple #[(Ay L k).getD z,.bool (Ay L k).isSome]) w:=by
 obtain⟨kt,e,i,h1,h2,h3,h4⟩:=Ro hT;obtain⟨Es,c,g1,rfl,_⟩:=h;have hl:=PK k Es 0;have hzero:(zeroValue e).run P w=.ok z w:=by simp[zeroValue,typeInfo,h3,h4]
 simp only[Instr.lookup,Sem.run_bind,AJ h1,Result.andThen_ok,Fx g1,Sem.run_pure,E1 h2,FC h2];cases hf:F9 k Es 0 with
 | none =>
  rw[hf]at hl;simp only[Option.map_none]at hl;simp[<- hl,hzero]
 | some r =>
  rw[hf]at hl;simp only[Lt3]at hl;simp[<- hl]
theorem PH{T T2 ty:TypeId}{z:Value}{m:Nat}{L:List (Int×Value)}{k:Int}(hT:O6 P T=some z)(h:AU w m L) :
  ∃ w',(Builtin.delete_ #[T,T2] ty #[.map (some m),Yn k]).run P w=.ok (.tuple #[]) w'/\AU w' m (PG k L)/\Ab (fun x=>x=m) w w'/\w'.heap.size=w.heap.size:=by
 obtain⟨kt,e,i,h1,h2,h3,h4⟩:=Ro hT;obtain⟨Es,c,g1,rfl,g3,g4,g5⟩:=h;have hund:(underlying T).run P w=.ok (.map kt e) w:=AJ h1 w;have hmod:∀ o,Ab (fun x=>x=m) w (Qf w m o):=fun o=>(Ab.refl (fun x=>x=m) w).put (.inr rfl) _;have hkv:(Es.filter fun e=>!decide (e.1=k)).map kv=PG k (Es.map kv):=by
  unfold PG;rw[List.filter_map];rfl
 have hsub:(Es.filter fun e=>!decide (e.1=k)).Sublist Es:=List.filter_sublist;cases hf:F9 k Es 0 with
 | none =>
  have hall:=WQ k Es 0 hf;refine⟨Qf w m (.map (Es.map Tx).toArray c),?_,⟨Es,c,AX (AM g1),by rw[<- hkv,hall],g3,g4,g5⟩,hmod _,by simp⟩;simp[Builtin.delete_,hund,Fx g1,E1 h2,FC h2,hf,IP g1]
 | some r =>
  obtain⟨j,u⟩:=r;obtain⟨_,e2,e3⟩:=Tn k Es 0 j u g3 hf;rw[Lo5]at e2 e3;refine⟨Qf w m (.map ((Es.eraseIdx j).map Tx).toArray c),?_,⟨Es.eraseIdx j,c,AX (AM g1),by rw[e3,hkv],?_,?_,?_⟩,hmod _,by simp⟩
  ·simp[Builtin.delete_,hund,Fx g1,E1 h2,FC h2,hf,IP g1,WN]
  ·rw[e3];exact(hsub.map _).nodup g3
  ·rw[e3];exact fun x hx=>g4 x (hsub.subset hx)
  ·rw[e3];exact(hsub.map _).nodup g5
end
end Go.Den
end
section
open Go Go.Den Go.Proofs
namespace Go.Z
structure Bf where
 b:Nat
 data:Bk
 pins:Nat
deriving DecidableEq
structure Ca where
 D:St
 most:Nat
 l:List Bf
def Fu(l:List Bf):List Int:=l.map fun x=>(x.b:Int)
def Gt(D:St)(b:Nat):Bk:=DY (HX D b)
def WE(D:St)(x:Bf):Bool:=decide (x.data=Gt D x.b)
def AW(l:List Bf)(b:Nat):List Bf:=l.filter fun x=>!decide (x.b=b)
def DE(l:List Bf)(b:Nat):Option Bf:=l.find? fun x=>decide (x.b=b)
def HU(D:St)(x:Bf):Bool:=decide (x.pins=0)&&WE D x
def Mj(C:Ca):Option Ca:=if C.l.length<C.most then some C else(C.l.find? (HU C.D)).map fun x=>{ C with l:=AW C.l x.b }
def L6(C:Ca)(b:Nat):Option Ca :=
 match DE C.l b with
 | some x=>some { C with l:=AW C.l b++[x] }
 | none=>(Mj C).map fun C'=>{ C' with l:=C'.l++[⟨b,Gt C.D b,0⟩] }
structure OP(C:Ca):Prop where
 small:Ma C.D
 most0:1<=C.most
 most1:C.most<=4096
 len:C.l.length<=C.most
 nodup:(C.l.map (·.b)).Nodup
 lt:∀ x∈C.l,x.b<C.D.vs.length
 data:∀ x∈C.l,x.data.length=256
 pins:∀ x∈C.l,x.pins<=1000000
theorem Eh{l:List Bf}{b:Nat}{x:Bf}(h:DE l b=some x):x∈l/\x.b=b:=by
 unfold DE at h;exact⟨Lq2 h,by simpa using Lz4 h⟩
theorem GB{l:List Bf}{b:Nat}(h:DE l b=none):∀ x∈l,x.b≠b:=by
 unfold DE at h;intro x hx
 have:=List.find?_eq_none.1 h x hx
 simpa using this
theorem DJ{l:List Bf}(hn:(l.map (·.b)).Nodup){x:Bf}(hx:x∈l):DE l x.b=some x:=by
 cases h:DE l x.b with
 | none=>exact absurd rfl (GB h x hx)
 | some y =>
  obtain⟨hy,e⟩:=Eh h;rw[LD hn hy hx e]
theorem AP{l:List Bf}{b:Nat}{x:Bf}:x∈AW l b↔x∈l/\x.b≠b:=by
 unfold AW;rw[dF];simp
theorem aW(l:List Bf)(b:Nat):Fu (AW l b)=(Fu l).filter fun k=>!decide (k=(b:Int)):=by
 unfold Fu AW;rw[List.filter_map]
 congr 1
 apply List.filter_congr;intro x _;simp only[Function.comp]
 congr 2
 rw[eq_iff_iff];omega
theorem LH{l:List Bf}(hn:(l.map (·.b)).Nodup)(b:Nat):((AW l b).map (·.b)).Nodup:=(List.filter_sublist.map _).nodup hn
theorem V1(l:List Bf)(b:Nat):(AW l b).length<=l.length:=Ld3 _ _
theorem Sz{l:List Bf}{x:Bf}(hx:x∈l):(AW l x.b).length<l.length:=by
 unfold AW;rw[List.length_filter_lt_length_iff_exists];exact⟨x,hx,by simp⟩
theorem Qc{l:List Bf}(hn:(l.map (·.b)).Nodup){x:Bf}(hx:∀ y∈l,y.b≠x.b):((l++[x]).map (·.b)).Nodup:=by
 rw[pM];refine Lg3.2 ⟨hn,by simp,?_⟩;intro a ha b hb;simp at hb;subst hb;obtain⟨y,hy,rfl⟩:=L2.1 ha;exact hx y hy
theorem OP.move{C:Ca}(h:OP C){x:Bf}(hx:x∈C.l):OP { C with l:=AW C.l x.b++[x] } where
 small:=h.small
 most0:=h.most0
 most1:=h.most1
 len:=by have:=Sz hx;have:=h.len;simp;omega
 nodup:=Qc (LH h.nodup _) fun y hy=>(AP.1 hy).2
 lt:=fun y hy=>by
  rcases Ln.1 hy with hy|hy
  ·exact h.lt y (AP.1 hy).1
  ·simp at hy;subst hy;exact h.lt _ hx
 data:=fun y hy=>by
  rcases Ln.1 hy with hy|hy
  ·exact h.data y (AP.1 hy).1
  ·simp at hy;subst hy;exact h.data _ hx
 pins:=fun y hy=>by
  rcases Ln.1 hy with hy|hy
  ·exact h.pins y (AP.1 hy).1
  ·simp at hy;subst hy;exact h.pins _ hx
theorem OP.out{C:Ca}(h:OP C)(b:Nat):OP { C with l:=AW C.l b } where
 small:=h.small
 most0:=h.most0
 most1:=h.most1
 len:=QK (V1 _ _) h.len
 nodup:=LH h.nodup _
 lt:=fun y hy=>h.lt y (AP.1 hy).1
 data:=fun y hy=>h.data y (AP.1 hy).1
 pins:=fun y hy=>h.pins y (AP.1 hy).1
theorem OP.add{C:Ca}(h:OP C){x:Bf}(hr:C.l.length<C.most)(hx:∀ y∈C.l,y.b≠x.b)(h1:x.b<C.D.vs.length)(h2:x.data.length=256)(h3:x.pins<=1000000):OP { C with l:=C.l++[x] } where
 small:=h.small
 most0:=h.most0
 most1:=h.most1
 len:=by simp;omega
 nodup:=Qc h.nodup hx
 lt:=fun y hy=>by
  rcases Ln.1 hy with hy|hy
  ·exact h.lt y hy
  ·simp at hy;subst hy;exact h1
 data:=fun y hy=>by
  rcases Ln.1 hy with hy|hy
  ·exact h.data y hy
  ·simp at hy;subst hy;exact h2
 pins:=fun y hy=>by
  rcases Ln.1 hy with hy|hy
  ·exact h.pins y hy
  ·simp at hy;subst hy;exact h3
def KN(l:List Bf)(y:Bf):List Bf:=l.map fun x=>if x.b=y.b then y else x
theorem vK(l:List Bf)(y:Bf):(KN l y).map (·.b)=l.map (·.b):=by
 unfold KN;rw[Lo4];apply Ln3;intro x _;simp only[Function.comp];split
 ·rename_i h;exact h.symm
 ·rfl
theorem oR(l:List Bf)(y:Bf):Fu (KN l y)=Fu l:=by
 have:=vK l y
 unfold Fu;have e:∀ l:List Bf,(l.map fun x=>(x.b:Int))=(l.map (·.b)).map fun n:Nat=>(n:Int):=fun l=>by rw[Lo4];rfl
 rw[e,e,this]
theorem Np{l:List Bf}{y z:Bf}(h:z∈KN l y):z=y\/(z∈l/\z.b≠y.b):=by
 unfold KN at h;obtain⟨x,hx,e⟩:=L2.1 h
 split at e
 ·exact .inl e.symm
 ·rename_i hne;subst e;exact .inr ⟨hx,hne⟩
theorem OP.turn{C:Ca}(h:OP C){y:Bf}(h1:y.b<C.D.vs.length)(h2:y.data.length=256)(h3:y.pins<=1000000):OP { C with l:=KN C.l y } where
 small:=h.small
 most0:=h.most0
 most1:=h.most1
 len:=by have:=h.len;simpa [Go.Z.KN] using this
 nodup:=by rw[vK];exact h.nodup
 lt:=fun z hz=>by
  rcases Np hz with rfl|⟨hz,_⟩
  ·exact h1
  ·exact h.lt z hz
 data:=fun z hz=>by
  rcases Np hz with rfl|⟨hz,_⟩
  ·exact h2
  ·exact h.data z hz
 pins:=fun z hz=>by
  rcases Np hz with rfl|⟨hz,_⟩
  ·exact h3
  ·exact h.pins z hz
structure Hu(w0:World)(R:Nat->Prop)(rl:Nat->Nat)(w:World)(c d m sb mb sc lc:Nat)(la:Option Addr)(L mp:List (Int×Value))(C:Ca):Prop where
 disk:AA w (fun x=>rl x=4) d sb mb sc L C.D
 cell:Av w c 0 [Yo d,Yn C.most,.map (some m),.slice la C.l.length lc]
 map:AU w m mp
 row:Ow Yt w w0.heap.size 176 1 la C.l.length lc (iL (Fu C.l))
 rc:rl c=1
 rm:rl m=2
 rrow:∀ q,la=some q->rl q.block=3
 bufs:∀ x∈C.l,∃ q g cc,Ay mp x.b=some (Yo q)/\rl q=6+x.b/\rl g=5/\Av w q 0 [.slice (some ⟨g,0,none⟩) 256 cc,Yn x.pins]/\At w g 0 (A6 x.data)
 keys:∀ p∈mp,∃ x∈C.l,p.1=(x.b:Int)
 wf:OP C
 reg:∀ x,rl x≠0->R x
 lo:∀ x,R x->w0.heap.size<=x/\x<w.heap.size
 mod:Ab No w0 w
section
variable{w0 w w':World}{R:Nat->Prop}{rl:Nat->Nat}{c d m sb mb sc lc:Nat}{la:Option Addr}{L mp:List (Int×Value)}{C:Ca}
theorem Hu.nos(h:Hu w0 R rl w c d m sb mb sc lc la L mp C)(k:Ab No w w'):Hu w0 R rl w' c d m sb mb sc lc la L mp C where
 disk:=h.disk.nos k
 cell:=h.cell.keep k id
 map:=h.map.keep k id
 row:=h.row.nos k
 rc:=h.rc
 rm:=h.rm
 rrow:=h.rrow
 bufs:=fun x hx=>by
  obtain⟨q,g,cc,h1,h2,h3,h4,h6⟩:=h.bufs x hx;exact⟨q,g,cc,h1,h2,h3,h4.keep k id,h6.keep k id⟩
 keys:=h.keys
 wf:=h.wf
 reg:=h.reg
 lo:=fun x hx=>by have:=h.lo x hx;have:=k.size;omega
 mod:=h.mod.no k
theorem Hu.drew(h:Hu w0 R rl w c d m sb mb sc lc la L mp C):Hu w0 R rl (Go.Den.Af w) c d m sb mb sc lc la L mp C:=h.nos (Ab.refl No w).drew
theorem Hu.widen{R':Nat->Prop}(h:Hu w0 R rl w c d m sb mb sc lc la L mp C)(h1:∀ x,R x->R' x)(h2:∀ x,R' x->w0.heap.size<=x/\x<w.heap.size):Hu w0 R' rl w c d m sb mb sc lc la L mp C :=
 { h with reg:=fun x hx=>h1 x (h.reg x hx),lo:=h2 }
def ro(rl:Nat->Nat)(a r:Nat):Nat->Nat:=fun z=>if z=a then r else rl z
theorem BN(rl:Nat->Nat)(a r:Nat):ro rl a r a=r:=by unfold ro;rw[if_pos rfl]
theorem B6(rl:Nat->Nat){a r x:Nat}(h:x≠a):ro rl a r x=rl x:=by unfold ro;rw[if_neg h]
structure VT(w w':World)(rl rl':Nat->Nat):Prop where
 old:∀ x,rl x≠0->rl' x=rl x
 new:∀ x,rl x=0->rl' x≠0->w.heap.size<=x/\x<w'.heap.size
 dsk:∀ x,rl' x=4->rl x=4
theorem VT.refl(w w':World)(rl:Nat->Nat):VT w w' rl rl:=⟨fun _ _=>rfl,fun _ h k=>absurd h k,fun _ h=>h⟩
theorem VT.ro{rl':Nat->Nat}(h:VT w w' rl rl'){a r:Nat}(ha:rl' a=r\/(w.heap.size<=a/\a<w'.heap.size/\rl' a=0))(h4:r≠4)(h0:r≠0):VT w w' rl (ro rl' a r) where
 old:=fun x hx=>by
  by_cases e:x=a
  ·subst e;rw[BN]
   have:=h.old x hx
   rcases ha with ha|⟨_,_,ha⟩
   ·rw[<- this,ha]
   ·omega
  ·rw[B6 _ e];exact h.old x hx
 new:=fun x hx hn=>by
  by_cases e:x=a
  ·subst e;rcases ha with ha | ⟨h1,h2,_⟩
   ·exact h.new x hx (by omega)
   ·exact⟨h1,h2⟩
  ·rw[B6 _ e]at hn;exact h.new x hx hn
 dsk:=fun x hx=>by
  by_cases e:x=a
  ·subst e;rw[BN]at hx;exact absurd hx h4
  ·rw[B6 _ e]at hx;exact h.dsk x hx
theorem Hu.step{S:Nat->Prop}{rl':Nat->Nat}{lc':Nat}{la':Option Addr}{mp':List (Int×Value)}{l':List Bf}(h:Hu w0 R rl w c d m sb mb sc lc la L mp C)(k:Ab S w w')(hx:VT w w' rl rl')
  (hS:∀ x,x<w.heap.size->S x->rl x≠0/\rl x≠4/\rl x≠5)
  (hcell:Av w' c 0 [Yo d,Yn C.most,.map (some m),.slice la' l'.length lc']) (hmap:AU w' m mp')
  (hrow:Ow Yt w' w0.heap.size 176 1 la' l'.length lc' (iL (Fu l'))) (hla:∀ q,la'=some q->rl' q.block=3)
  (hl:∀ x∈l',(x∈C.l/\Ay mp' x.b=Ay mp x.b/\∀ q,S q->rl q≠6+x.b) \/
   ∃ q g cc,Ay mp' x.b=some (Yo q)/\rl' q=6+x.b/\rl' g=5/\Av w' q 0 [.slice (some ⟨g,0,none⟩) 256 cc,Yn x.pins]/\At w' g 0 (A6 x.data))
  (hk:∀ p∈mp',∃ x∈l',p.1=(x.b:Int)) (hwf:OP { C with l:=l' }) :
  Hu w0 (D9 R w w') rl' w' c d m sb mb sc lc' la' L mp' { C with l:=l' } where
 disk:=by
  have h4:=h.disk.keep k fun x hx e=>by
   have:=hS x (h.disk.lt x hx) e
   omega
  have e:(fun x=>rl' x=4)=fun x=>rl x=4:=by
   funext x;exact propext ⟨hx.dsk x,fun e=>by rw[hx.old x (by omega)];exact e⟩
  rw[e];exact h4
 cell:=hcell
 map:=hmap
 row:=hrow
 rc:=by rw[hx.old c (by rw[h.rc];omega)];exact h.rc
 rm:=by rw[hx.old m (by rw[h.rm];omega)];exact h.rm
 rrow:=hla
 bufs:=fun x hx'=>by
  rcases hl x hx' with ⟨hx1,hx2,hx3⟩|hn
  ·obtain⟨q,g,cc,h1,h2,h3,h4,h6⟩:=h.bufs x hx1;refine⟨q,g,cc,hx2.trans h1,?_,?_,h4.keep k fun e=>hx3 q e h2,h6.keep k fun e=>?_⟩
   ·rw[hx.old q (by omega)];exact h2
   ·rw[hx.old g (by omega)];exact h3
   ·exact(hS g h6.lt e).2.2 h3
  ·exact hn
 keys:=hk
 wf:=hwf
 reg:=fun x hn=>by
  by_cases e:rl x=0
  ·exact .inr (hx.new x e hn)
  ·exact .inl (h.reg x e)
 lo:=fun x hx=>by
  have:=k.size
  have:=h.mod.size
  rcases hx with hx|hx
  ·have:=h.lo x hx;omega
  ·omega
 mod:=h.mod.trans k fun x hx e=>by
  have:=h.mod.size
  have:=hS x (by omega) e
  have:=h.lo x (h.reg x (by omega))
  omega
end
end Go.Z
end
section
open Go Go.Den Go.Proofs
namespace Go.Den
section
variable{P:Program}{w:World}
theorem Ow.app{base k bytes l c m c2:Nat}{T ty:TypeId}{z:Value}{a:Option Addr}{ad:Addr}{xs ys:List Value}(hT:EG P T k z bytes)(hk:0<k)(h:Ow P w base T k a l c xs)
  (hr:BG w (some ad) ys) (hl:ys.length=m*k) (hm:0<m) (h1:∀ v∈ys,v.oneCell'=true) (h63:(l+m)*bytes<=140737488355328) (hb:0<bytes) (hbase:base<=w.heap.size) :
  ∃ q c' w',(Builtin.append_ #[T,T] ty #[.slice a l c,.slice (some ad) m c2]).run P w=.ok (.slice (some q) (l+m) c') w'/\Ow P w' base T k (some q) (l+m) c' (xs++ys)/\Ab (fun x=>∃ q,a=some q/\x=q.block) w w' /\
   ((∃ q',a=some q'/\q.block=q'.block)\/w.heap.size<=q.block):=by
 obtain⟨a',c',w',hrun,ho,hmod⟩:=h.append' (ty:=ty) hT hk hr hl (c2:=c2) (by simp) h1 h63 hb hbase;obtain⟨e,i,zv,he,hi,hsz,hz,hzc,hby⟩:=hT.is;obtain⟨e',he',how⟩:=h;have:e'=e:=by rw[he]at he';simpa using he'.symm
 subst this;have hlm:l+m<=(l+m)*bytes:=Lh2 _ hb;have hmb:m*bytes<=(l+m)*bytes:=pP _ (by omega);have hcell:∀ j u,ys[j]?=some u->w.cell? (ad.add j)=some u:=by
  intro j u hj;rcases hr with hr | ⟨b,o,e,hat⟩
  ·subst hr;simp at hj
  ·simp at e;subst e;exact hat.cell hj
 rcases how.2 with ⟨hv,hx⟩|⟨g,cap,H5,hv,hbg,hg,hnc,hcm,hcs,htake⟩
 ·simp at hv;obtain⟨rfl,rfl,rfl⟩:=hv;have hr2:=run_append_nil (P:=P) w T ty e' i zv he hi hz ad m c2 ys (by rw[hsz];exact hl) hcell hm (by omega) (by rw[hby];omega);have hrun':=hrun;rw[hr2]at hrun';simp only[Result.ok.injEq,Value.slice.injEq]at hrun';obtain⟨⟨rfl,_,_⟩,_⟩:=hrun';exact⟨_,c',w',hrun,ho,hmod,.inr (Le _)⟩
 ·simp at hv;obtain⟨rfl,rfl⟩:=hv;by_cases hroom:l+m<=c
  ·have hr2:=run_append_room (P:=P) w T ty e' i he hi g l c H5 hg ad m c2 ys (by rw[hsz];exact hl) hcell h1 hroom (by rw[hsz,hl,hcs,<- Lj4];exact pP _ hroom);have hrun':=hrun;rw[hr2]at hrun';simp only[Result.ok.injEq,Value.slice.injEq]at hrun';obtain⟨⟨rfl,_,_⟩,_⟩:=hrun';exact⟨_,c',w',hrun,ho,hmod,.inl ⟨_,rfl,rfl⟩⟩
  ·have holds:∀ j u,xs[j]?=some u->w.cell? ((⟨g,0,none⟩:Addr).add j)=some u:=how.cells (g:=g) rfl;have hr2:=run_append_grow (P:=P) w T ty e' i zv he hi hz ⟨g,0,none⟩ l c xs (by rw[hsz];exact how.1) holds ad m c2 ys (by rw[hsz];exact hl) hcell (by omega) (by omega) (growslice_fits (by omega) (by rw[hby];exact h63));have hrun':=hrun;rw[hr2]at hrun';simp only[Result.ok.injEq,Value.slice.injEq]at hrun'
   obtain⟨⟨rfl,_,_⟩,_⟩:=hrun';exact⟨_,c',w',hrun,ho,hmod,.inr (Le _)⟩
end
theorem jG{R:Nat->Prop}{w w1 w2:World}(h1:w.heap.size<=w1.heap.size)(h2:w1.heap.size<=w2.heap.size):D9 (D9 R w w1) w1 w2=D9 R w w2:=by
 funext x;unfold D9;apply propext;constructor
 ·rintro((h|h)|h)
  ·exact .inl h
  ·exact .inr (by omega)
  ·exact .inr (by omega)
 ·rintro(h|h)
  ·exact .inl (.inl h)
  ·by_cases hx:x<w1.heap.size
   ·exact .inl (.inr (by omega))
   ·exact .inr (by omega)
theorem Ab.anys{R:Nat->Prop}{w w1:World}(h1:Ab No w w1):Ab R w w1:=h1.mono fun _ _ h=>h.elim
end Go.Den
namespace Go.Z
section
variable{w0 w w':World}{R:Nat->Prop}{rl:Nat->Nat}{c d m sb mb sc lc:Nat}{la:Option Addr}{L mp:List (Int×Value)}{C:Ca}{K:Value->World->Prop}
theorem Nn:O6 Yt 294=some (.pointer none):=by kernel_rfl
theorem Hu.ld(h:Hu w0 R rl w c d m sb mb sc lc la L mp C):Ru (Instr.loadAt 78 (.pointer (some (Addr.add ⟨c,0,none⟩ 0)))) w (Yo d) w:=by
 rw[Ae];exact h.cell.at.load (by kernel_rfl) rfl
theorem Hu.lmost(h:Hu w0 R rl w c d m sb mb sc lc la L mp C):Ru (Instr.loadAt 3 (.pointer (some (Addr.add ⟨c,0,none⟩ 1)))) w (Yn C.most) w:=by
 rw[Ae];exact h.cell.at.load (by kernel_rfl) rfl
theorem Hu.lm(h:Hu w0 R rl w c d m sb mb sc lc la L mp C):Ru (Instr.loadAt 294 (.pointer (some (Addr.add ⟨c,0,none⟩ 2)))) w (.map (some m)) w:=by
 rw[Ae];exact h.cell.at.load (by kernel_rfl) rfl
theorem Yr{l0:Nat}{v0 v1 v2:Value}(h:Av w c 0 [v0,v1,v2,.slice la l0 lc]):Ru (Instr.loadAt 176 (.pointer (some (Addr.add ⟨c,0,none⟩ 3)))) w (.slice la l0 lc) w:=by
 rw[Ae];exact h.at.load (by kernel_rfl) rfl
theorem Hu.gro(h:Hu w0 R rl w c d m sb mb sc lc la L mp C)(k:Ab No w w'):Hu w0 (D9 R w w') rl w' c d m sb mb sc lc la L mp C :=
 (h.nos k).widen (fun x hx=>.inl hx) fun x hx=>by
  have:=k.size
  have:=h.mod.size
  rcases hx with hx|hx
  ·have:=h.lo x hx;omega
  ·omega
theorem Hu.out_of{x:Nat}(h:Hu w0 R rl w c d m sb mb sc lc la L mp C)(hx:w.heap.size<=x):rl x=0:=by
 by_cases e:rl x=0
 ·exact e
 ·have:=h.lo x (h.reg x e);omega
theorem Xv(D:St){b:Nat}(hb:b<D.vs.length):AO D (b:Int)=0/\PT D (b:Int)=Gt D b:=by
 have e:AO D (b:Int)=0:=by unfold AO;rw[if_neg (by omega)]
 exact⟨e,by unfold PT Gt;rw[if_pos e]⟩
theorem Hu.atLen(h:Hu w0 R rl w c d m sb mb sc lc la L mp C){b:Nat}(hb:b<C.D.vs.length):(Gt C.D b).length=256:=by
 have hv:C.D.vs[b]?=some C.D.vs[b]:=by simp[hb]
 have e:HX C.D b=C.D.vs[b]:=by
  unfold HX;rw[if_neg (by omega),Lz,hv];rfl
 unfold Gt;rw[e];exact h.disk.wf.lastLen hv
theorem Hu.look(h:Hu w0 R rl w c d m sb mb sc lc la L mp C){k:Int}{v:Value}(hl:Ay mp k=some v):Ru (Instr.lookup 294 (.map (some m)) (Yn k) false) w v w:=by
 have:=D7 (P:=Yt) Nn h.map (k:=k)
 rwa [hl]at this
theorem tD{q g cc:Nat}{v:Value}(h:Av w q 0 [.slice (some ⟨g,0,none⟩) 256 cc,v]):Ru (Instr.loadAt 57 (.pointer (some (Addr.add (Addr.add ⟨q,0,none⟩ 0) 0)))) w (.slice (some ⟨g,0,none⟩) 256 cc) w:=by
 rw[Ae,Ae];exact h.at.load (by kernel_rfl) rfl
theorem Aa9{q:Nat}{v:Value}{n:Int}(h:Av w q 0 [v,Yn n]):Ru (Instr.loadAt 3 (.pointer (some (Addr.add ⟨q,0,none⟩ 1)))) w (Yn n) w:=by
 rw[Ae];exact h.at.load (by kernel_rfl) rfl
theorem xU(h:Hu w0 R rl w c d m sb mb sc lc la L mp C){x:Bf}(hx:x∈C.l)(hk:∀ w',Ab No w w'->K (.bool (!WE C.D x)) w'):A7 Yt E7 #[Yo c,Yn x.b] w K:=by
 apply Oh;unfold HH;obtain⟨q,g,cc,b1,b2,b3,b4,b6⟩:=h.bufs x hx;obtain⟨r1,r2⟩:=Xv C.D (h.wf.lt x hx);have hal:=h.atLen (h.wf.lt x hx);have hxl:=h.wf.data x hx;refine⟨_,rfl,_,h.ld,qH h.disk h.wf.small fun w1 a1 c1 m1 f1=>?_⟩;rw[r2]at f1 |-;rw[r1,hal];refine⟨_,_,_,_,rfl,_,rfl,some m,(h.nos m1).lm,_,(h.nos m1).look b1,_,rfl,_,_,_,tD (b4.keep m1 id),?_⟩
 refine pU hal hxl (by omega) f1.row (.inr ⟨_,_,rfl,b6.keep m1 id⟩) fun w2 f la' m2 hf=>⟨_,_,rfl,?_⟩;have e:(decide (f >= 0))=!WE C.D x:=by
  unfold WE;by_cases he:x.data=Gt C.D x.b
  ·have:¬ 0<=f:=fun h=>(hf.1 h) he.symm;simp[he];omega
  ·have:0<=f:=hf.2 fun e=>he e.symm;simp[he];omega
 rw[e];exact hk w2 (m1.no m2)
theorem iO(w:World)(n:Int):(Instr.box 3 (Yn n)).run Yt w=.ok (Yo w.heap.size) (w.alloc (.cells ⟨[Yn n]⟩ 3)):=rfl
theorem lQ(w:World)(p:Option Addr):(Instr.box 232 (.pointer p)).run Yt w=.ok (Yo w.heap.size) (w.alloc (.cells ⟨[.pointer p]⟩ 232)):=rfl
theorem Ha{rl:Nat->Nat}{a b i j:Nat}(h1:rl a=i)(h2:rl b=j)(h:i≠j):a≠b:=fun e=>h (by rw[<- h1,<- h2,e])
theorem oQ{S:Nat->Prop}{q b:Nat}{xs:List Int}(hat:At w q 0 [Yn b])(hS:¬ S q):OO (.func (.func CM) #[] #[Yo q]) w S (fun k=>k==(b:Int)) xs:=by
 intro w' m x _ K hK;refine⟨_,_,_,rfl,?_⟩;show A7 Yt CM #[Yn x,Yo q] w' K;apply Oi;exact⟨_,(hat.keep m hS).load (i:=0) (by kernel_rfl) rfl,hK w' (Ab.refl _ _)⟩
theorem X2{S:Nat->Prop}{q b:Nat}{xs:List Int}(hat:At w q 0 [Yn b])(hS:¬ S q):OO (.func (.func BS) #[] #[Yo q]) w S (fun k=>k==(b:Int)) xs:=by
 intro w' m x _ K hK;refine⟨_,_,_,rfl,?_⟩;show A7 Yt BS #[Yn x,Yo q] w' K;apply Og;exact⟨_,(hat.keep m hS).load (i:=0) (by kernel_rfl) rfl,hK w' (Ab.refl _ _)⟩
theorem OS(l:List Bf)(b:Nat):((Fu l).filter fun x=>!(x==(b:Int)))=Fu (AW l b):=by
 rw[aW];apply List.filter_congr;intro x _
 congr 1
theorem Rt(l:List Bf):(Fu l).length=l.length:=by simp[Fu]
theorem bI{q b:Nat}{f:FuncId}(h:Hu w0 R rl w c d m sb mb sc lc la L mp C)
  (ht:OO (.func (.func f) #[] #[Yo q]) w (Of la) (fun k=>k==(b:Int)) (Fu C.l))
  (hk:∀ w',Ow Yt w' w0.heap.size 176 1 la (AW C.l b).length lc (iL (Fu (AW C.l b)))->Ab (Of la) w w'->K (.slice la (AW C.l b).length lc) w') :
  A7 Yt Ba #[.slice la C.l.length lc,.func (.func f) #[] #[Yo q]] w K:=by
 have h1:=h.wf.len;have h2:=h.wf.most1;refine QI h.row (by omega) ht fun w' l' o hl' m'=>?_;rw[OS]at o hl';rw[Rt]at hl';subst hl';exact hk w' o m'
theorem Hu.of3(h:Hu w0 R rl w c d m sb mb sc lc la L mp C){x:Nat}(hx:Of la x):rl x=3:=by
 obtain⟨q,hq,rfl⟩:=hx;exact h.rrow q hq
def O2(rl:Nat->Nat):Nat->Prop:=fun x=>rl x=1\/rl x=2\/rl x=3
set_option maxRecDepth 100000 in
theorem AfJ(h:Hu w0 R rl w c d m sb mb sc lc la L mp C){b:Nat}
  (hk:∀ w' mp',Hu w0 (D9 R w w') rl w' c d m sb mb sc lc la L mp' { C with l:=AW C.l b }->Ab R w w'->K (.tuple #[]) w'):A7 Yt FO #[Yo c,Yn b] w K:=by
 apply Qm;unfold Je;have m1:Ab No w (w.alloc (.cells ⟨[Yn b]⟩ 3)):=(Ab.refl No w).alloc _;have h1:=(h.nos m1).drew;have hq:At (Af (w.alloc (.cells ⟨[Yn b]⟩ 3))) w.heap.size 0 [Yn b]:=Av.new.at.drew;have hsz:(Af (w.alloc (.cells ⟨[Yn b]⟩ 3))).heap.size=w.heap.size+1:=by simp
 refine⟨_,_,iO _ _,_,rfl,some m,h1.lm,_,hq.load (i:=0) (by kernel_rfl) rfl,?_⟩;have m1':Ab No w (Af (w.alloc (.cells ⟨[Yn b]⟩ 3))):=m1.drew;generalize hW:Af (w.alloc (.cells ⟨[Yn b]⟩ 3))=w1 at *;have hq0:=h.out_of (x:=w.heap.size) (Le _);obtain⟨w2,s1,s2,s3,s4⟩:=PH (P:=Yt) (T2:=334) (ty:=0) (k:=(b:Int)) Nn h1.map;have hc2:=h1.cell.keep s3 (Ha h1.rc h1.rm (by omega))
 refine⟨w2,s1,_,rfl,_,_,_,Yr hc2,?_⟩;have hrow2:=h1.row.keep s3 fun q hq'=>Ha (h1.rrow q hq') h1.rm (by omega);have hq2:=hq.keep s3 (Ha hq0 h1.rm (by omega));have hl1:=h1.wf.len;have hl2:=h1.wf.most1;refine QI hrow2 (by omega) (oQ hq2 fun e=>by have:=h1.of3 e;omega) fun w3 l3 o3 hl3 m3=>⟨_,_,_,rfl,_,rfl,?_⟩;rw[OS]at o3 hl3;rw[Rt]at hl3;subst hl3;have hc3:=hc2.keep m3 fun e=>by have:=h1.of3 e;have:=h1.rc;omega
 obtain⟨w4,t1,t2,t3,t4⟩:=hc3.store (P:=Yt) (T:=176) (i:=3) (v:=.slice la (AW C.l b).length lc) (by kernel_rfl) (by simp) rfl;refine⟨w4,by rw[Ae];exact t1,?_⟩;have M:Ab (O2 rl) w w4:=((m1'.anys.trans (S':=O2 rl) (s3.mono fun x _ e=>.inr (.inl (by rw[e];exact h.rm))) fun _ _ e=>e).trans (m3.mono fun x _ e=>.inr (.inr (h1.of3 e))) fun _ _ e=>e).trans (t3.mono fun x _ e=>.inl (by rw[e];exact h.rc)) fun _ _ e=>e
 refine hk w4 (PG b mp) ?_ (M.mono fun x _ e=>h.reg x (by unfold O2 at e;omega));refine h.step M (VT.refl _ _ _) (fun x _ e=>by unfold O2 at e;omega) (by simpa using t2) ((s2.keep m3 fun e=>by have:=h1.of3 e;have:=h1.rm;omega).keep t3 (Ha h1.rm h1.rc (by omega)))
  (o3.keep t3 fun q hq'=>Ha (h1.rrow q hq') h1.rc (by omega)) h.rrow (fun x hx=>.inl ⟨(AP.1 hx).1,?_,fun q e=>by unfold O2 at e;omega⟩) (fun p hp=>?_) (h.wf.out b)
 ·rw[tG,if_neg (by have:=(AP.1 hx).2;omega)]
 ·obtain⟨hp1,hp2⟩:=xR.1 hp;obtain⟨x,hx,e⟩:=h.keys p hp1;exact⟨x,AP.2 ⟨hx,by omega⟩,e⟩
end
section
variable{w0 w w':World}{R:Nat->Prop}{rl:Nat->Nat}{c d m sb mb sc lc:Nat}{la:Option Addr}{L mp:List (Int×Value)}{C:Ca}{K:Value->World->Prop}
def pI(C:Ca)(k:Int):Bool:=match DE C.l k.toNat with | some x=>HU C.D x | none=>false
theorem Y5(h:OP C){x:Bf}(hx:x∈C.l):pI C (x.b:Int)=HU C.D x:=by
 unfold pI;rw[Lz,DJ h.nodup hx]
theorem gJ{q:Nat}(h:Hu w0 R rl w c d m sb mb sc lc la L mp C)(hq:At w q 0 [Yo c]):OO (.func (.func C4) #[] #[Yo q]) w No (pI C) (Fu C.l):=by
 intro w' k xk hx K hK;unfold Fu at hx;obtain⟨y,hy,rfl⟩:=L2.1 hx;refine⟨_,_,_,rfl,?_⟩;show A7 Yt C4 #[Yn y.b,Yo q] w' K;apply Ms;unfold GR;have h':=h.nos k;have hq':=(hq.keep k id).load (P:=Yt) (T:=232) (i:=0) (v:=Yo c) (by kernel_rfl) rfl;obtain⟨q2,g,cc,b1,b2,b3,b4,b6⟩:=h'.bufs y hy
 refine Ad.cut (fun z w2=>z=[.bool (HU C.D y)]/\Ab No w' w2) ⟨_,hq',_,rfl,some m,h'.lm,_,h'.look b1,_,rfl,_,Aa9 b4,Aa (fun hb=>?_) (fun hb=>?_)⟩ ?_
 ·have hp:y.pins=0:=by simpa using hb
  exact⟨_,hq',xU h' hy fun w2 m2=>⟨_,rfl,by simp[HU,hp],m2⟩⟩
 ·have hp:¬ y.pins=0:=by simpa using hb
  exact⟨by simp[HU,hp],Ab.refl _ _⟩
 ·rintro z w2 ⟨rfl,m2⟩;refine⟨_,rfl,?_⟩
  have:=hK w2 m2
  rwa [Y5 h.wf hy]at this
theorem tS{l:List Bf}{j:Nat}{k:Int}(h:(Fu l)[j]?=some k):∃ x,l[j]?=some x/\k=(x.b:Int):=by
 unfold Fu at h;rw[qC]at h;cases hx:l[j]? with
 | none=>rw[hx]at h;cases h
 | some x=>rw[hx]at h;exact⟨x,rfl,(Lk h).symm⟩
theorem sE(h:OP C):(Gk (pI C) (Fu C.l) 0=-1/\C.l.find? (HU C.D)=none)\/∃(j:Nat)(x:Bf),Gk (pI C) (Fu C.l) 0=(j:Int)/\C.l[j]?=some x/\C.l.find? (HU C.D)=some x:=by
 rcases GG (pI C) (Fu C.l) 0 with ⟨e,hno⟩|⟨j,k,e,hj,hp,hbef⟩
 ·refine .inl ⟨e,List.find?_eq_none.2 fun x hx=>?_⟩
  have:=hno (x.b:Int) (L2.2 ⟨x,hx,rfl⟩)
  rw[Y5 h hx]at this;rw[this];simp
 ·obtain⟨x,hx,rfl⟩:=tS hj;have hxm:=XN hx;obtain⟨hlt,hxe⟩:=Lq.1 hx;refine .inr ⟨j,x,by rw[e,Tc],hx,?_⟩;rw[Y5 h hxm]at hp;refine List.find?_eq_some_iff_append.2 ⟨hp,C.l.take j,C.l.drop (j+1),?_,fun y hy=>?_⟩
  ·conv=>lhs;rw[<- wC j C.l,Li3 hlt,hxe]
  ·have hyl:=List.mem_of_mem_take hy
   have:=hbef (y.b:Int) (by unfold Fu;rw[<- Lh4];exact L2.2 ⟨y,hy,rfl⟩)
   rw[Y5 h hyl]at this;rw[this];rfl
theorem Ac4(h:Hu w0 R rl w c d m sb mb sc lc la L mp C)
  (hk1:∀ C',Mj C=some C'->∀ w' mp',Hu w0 (D9 R w w') rl w' c d m sb mb sc lc la L mp' C'->Ab R w w'->K (Yn 0) w')
  (hk2:Mj C=none->∀ w',Ab No w w'->K (Yn 5) w'):A7 Yt Ff #[Yo c] w K:=by
 apply Pi;unfold Iw;have m1:Ab No w (Af (w.alloc (.cells ⟨[Yo c]⟩ 232))):=((Ab.refl No w).alloc _).drew;have hq:At (Af (w.alloc (.cells ⟨[Yo c]⟩ 232))) w.heap.size 0 [Yo c]:=Av.new.at.drew;have h1:=h.nos m1;refine⟨_,_,lQ _ _,?_⟩;generalize hW:Af (w.alloc (.cells ⟨[Yo c]⟩ 232))=w1 at *
 have lq:∀{w2:World},Ab No w1 w2->Ru (Instr.loadAt 232 (Yo w.heap.size)) w2 (Yo c) w2:=fun k=>(hq.keep k id).load (i:=0) (by kernel_rfl) rfl;have hl1:=h.wf.len;have hl2:=h.wf.most1;refine⟨_,lq (Ab.refl _ _),_,rfl,_,_,_,Yr h1.cell,_,lq (Ab.refl _ _),_,rfl,_,h1.lmost,Aa (fun hb=>?_) (fun hb=>?_)⟩
 ·have hlt:C.l.length<C.most:=by have:=Ld hb;omega
  exact hk1 C (by unfold Mj;rw[if_pos hlt]) w1 mp (h.gro m1) m1.anys
 ·have hge:¬ C.l.length<C.most:=by have:=Lc hb;omega
  refine⟨_,lq (Ab.refl _ _),_,rfl,_,_,_,Yr h1.cell,SZ (S:=No) (Rt _) (by omega) h1.row.rowU.row (gJ h1 hq) fun w2 m2=>⟨_,rfl,?_⟩⟩;rcases sE h.wf with ⟨e,hf⟩ | ⟨j,x,e,hx,hf⟩
  ·rw[e];refine tt rfl (hk2 ?_ w2 (m1.no m2));unfold Mj;rw[if_neg hge,hf];rfl
  ·rw[e];have hlt:=(Lq.1 hx).1;have m2':=m2.drew;have h2:=h1.nos m2';have hrow:=h2.row.rowU.row;obtain⟨b2,o2,hla,hat⟩:=KI (i:=j) hrow (by rw[Rt];exact hlt);subst hla;refine ff (by simp) ⟨_,lq m2',_,lq m2',_,rfl,_,_,_,Yr h2.cell,_,A8 (k:=1) (by kernel_rfl) (by omega) (by omega),?_⟩;rw[Ae,show(j:Int).toNat*1=j by omega];have hv:(iL (Fu C.l))[j]?=some (Yn x.b):=by simp[iL,Fu,hx,I]
   refine⟨_,hat.load (by kernel_rfl) hv,AfJ h2 fun w3 mp' h3 m3=>⟨rfl,?_⟩⟩;have M:Ab No w (Af w2):=m1.no m2';refine hk1 _ (by unfold Mj;rw[if_neg hge,hf];rfl) w3 mp' (h3.widen (fun y hy=>?_) fun y hy=>?_) (M.anys.trans m3 fun y hy e=>e)
   ·have:=M.size
    rcases hy with hy|hy
    ·exact .inl hy
    ·exact .inr (by omega)
   ·have:=M.size
    have:=m3.size
    have:=h.mod.size
    rcases hy with hy|hy
    ·have:=h.lo y hy;omega
    ·omega
theorem iN{S:World->Prop}{w3:World}{z b:Nat}{x:Bf}(h:Hu w0 R rl w c d m sb mb sc lc la L mp C)(M:Ab (Of la) w w3)
  (o3:Ow Yt w3 w0.heap.size 176 1 la (AW C.l b).length lc (iL (Fu (AW C.l b)))) (hz:At w3 z 0 [Yn b]) (hx:x∈C.l) (hxb:x.b=b)
  (hk:∀ w' rl' lc' la',Hu w0 (D9 R w w') rl' w' c d m sb mb sc lc' la' L mp { C with l:=AW C.l b++[x] }->Ab R w w'->S w') :
  ∃(a31:Option Addr)(l31 c31:Nat),∃ w4:World,Ru (Builtin.append_ #[176,176] 176 #[.slice la (AW C.l b).length lc,.slice (some ⟨z,0,none⟩) 1 1]) w3 (.slice a31 l31 c31) w4/\∃ q32:Addr,(Yo c:Value)=.pointer (some q32) /\
   ∃ w5:World,Gr (Instr.storeAt 176 (.pointer (some (Addr.add q32 3))) (.slice a31 l31 c31)) w4 w5/\S w5:=by
 have hl1:=h.wf.len;have hl2:=h.wf.most1;have hol:=V1 C.l b;have hzM:=M.size;have hw0:=h.mod.size;obtain⟨q',c',w4,s1,s2,s3,s4⟩:=o3.app (ty:=176) (m:=1) (c2:=1) (ad:=⟨z,0,none⟩) (ys:=[Yn b]) Fq (by omega) (.inr ⟨_,_,rfl,hz⟩) rfl (by omega) (by simp;rfl) (by omega) (by omega) (by omega);refine⟨_,_,_,w4,s1,_,rfl,?_⟩;have s3':Ab (Of la) w3 w4:=s3;have hc4:=(h.cell.keep M fun e=>by have:=h.of3 e;have:=h.rc;omega).keep s3' fun e=>by have:=h.of3 e;have:=h.rc;omega
 obtain⟨w5,t1,t2,t3,t4⟩:=hc4.store (P:=Yt) (T:=176) (i:=3) (v:=.slice (some q') ((AW C.l b).length+1) c') (by kernel_rfl) (by simp) rfl;refine⟨w5,by rw[Ae];exact t1,?_⟩;have hzs:=s3'.size;have hzt:=t3.size;have M4:Ab (Of la) w w4:=M.trans s3' fun _ _ e=>e;have M5:Ab (O2 rl) w w5:=(M4.mono fun x _ e=>.inr (.inr (h.of3 e))).trans t3 fun x _ e=>.inl (by rw[e];exact h.rc);have hnew:rl q'.block=3\/(w.heap.size<=q'.block/\q'.block<w5.heap.size/\rl q'.block=0):=by
  rcases s4 with ⟨q2,hq2,e⟩|e
  ·left;rw[e];exact h.rrow q2 hq2
  ·right
   have:=(s2.base (q:=q') rfl).2
   exact⟨by omega,by omega,h.out_of (by omega)⟩
 refine hk w5 (ro rl q'.block 3) c' (some q') ?_ (M5.mono fun x _ e=>h.reg x (by unfold O2 at e;omega));have hlen:(AW C.l b++[x]).length=(AW C.l b).length+1:=by simp
 have hnum:iL (Fu (AW C.l b))++[Yn b]=iL (Fu (AW C.l b++[x])):=by simp[Fu,iL,I,hxb]
 subst hxb;refine h.step M5 ((VT.refl _ _ _).ro hnew (by omega) (by omega)) (fun y _ e=>by unfold O2 at e;omega) ?_ (((h.map.keep M4 fun e=>by have:=h.of3 e;have:=h.rm;omega)).keep t3 (Ha h.rm h.rc (by omega))) ?_
  (fun q hq=>by have:=Lk hq;subst this;exact BN _ _ _) (fun y hy=>.inl ⟨?_,rfl,fun q e=>by unfold O2 at e;omega⟩) (fun p hp=>?_) (h.wf.move hx)
 ·rw[hlen];simpa using t2
 ·rw[hlen,<- hnum];refine s2.keep t3 fun q hq e=>?_
  have:=Lk hq
  subst this;have hrc:=h.rc;rcases hnew with hn | ⟨_,_,hn⟩
  ·rw[e]at hn;omega
  ·rw[e]at hn;omega
 ·rcases Ln.1 hy with hy|hy
  ·exact(AP.1 hy).1
  ·simp at hy;subst hy;exact hx
 ·obtain⟨y,hy,e⟩:=h.keys p hp;by_cases hyx:y.b=x.b
  ·exact⟨x,by simp,by rw[e,hyx]⟩
  ·exact⟨y,Ln.2 (.inl (AP.2 ⟨hy,hyx⟩)),e⟩
end
section
variable{w0 w w':World}{R:Nat->Prop}{rl:Nat->Nat}{c d m sb mb sc lc:Nat}{la:Option Addr}{L mp:List (Int×Value)}{C:Ca}{K:Value->World->Prop}
def Cq(w0:World)(R:Nat->Prop)(w:World)(c d b q:Nat)(C:Ca):Prop :=
 ∃ rl m sb mb sc lc la L mp,Hu w0 R rl w c d m sb mb sc lc la L mp C/\Ay mp (b:Int)=some (Yo q)
def Cx(w0:World)(R:Nat->Prop)(w:World)(c d:Nat)(C:Ca):Prop:=∃ rl m sb mb sc lc la L mp,Hu w0 R rl w c d m sb mb sc lc la L mp C
theorem Z5(w:World)(a:Option Addr)(l cc:Nat):(Instr.build 310 #[(0,.slice a l cc)]).run Yt w=.ok (.agg ⟨[.slice a l cc]⟩) w:=by kernel_rfl
theorem XU(w:World)(a:Option Addr)(l cc:Nat):(Instr.build 312 #[(0,.agg ⟨[.slice a l cc]⟩)]).run Yt w=.ok (.agg ⟨[.slice a l cc,Yn 0]⟩) w:=by kernel_rfl
theorem dQ(w:World)(cs:List Value):(Instr.box 312 (.agg ⟨cs⟩)).run Yt w=.ok (Yo w.heap.size) (w.alloc (.cells ⟨cs⟩ 312)):=rfl
theorem Hu.noKey(h:Hu w0 R rl w c d m sb mb sc lc la L mp C){b:Nat}(hf:DE C.l b=none):Ay mp (b:Int)=none:=by
 cases hl:Ay mp (b:Int)with
 | none=>rfl
 | some v =>
  obtain⟨x,hx,e⟩:=h.keys _ (KE hl);have e':(b:Int)=x.b:=e;exact absurd (by omega) (GB hf x hx)
set_option maxRecDepth 100000 in
theorem AaW(h:Hu w0 R rl w c d m sb mb sc lc la L mp C){b:Nat}(hb:b<C.D.vs.length)
  (hk1:∀ C',L6 C b=some C'->∀ w' q,Cq w0 (D9 R w w') w' c d b q C'->Ab R w w'->K (.tuple #[Yo q,Yn 0]) w')
  (hk2:L6 C b=none->∀ w',Ab No w w'->K (.tuple #[.pointer none,Yn 5]) w'):A7 Yt DR #[Yo c,Yn b] w K:=by
 apply Qk;unfold Jc;have m1:Ab No w (Af (w.alloc (.cells ⟨[Yn b]⟩ 3))):=((Ab.refl No w).alloc _).drew;have hq:At (Af (w.alloc (.cells ⟨[Yn b]⟩ 3))) w.heap.size 0 [Yn b]:=Av.new.at.drew;have h1:=h.nos m1;have hz0:=h.out_of (x:=w.heap.size) (Le _);refine⟨_,_,iO _ _,_,rfl,some m,h1.lm,_,hq.load (i:=0) (by kernel_rfl) rfl,?_⟩;have hsz1:(Af (w.alloc (.cells ⟨[Yn b]⟩ 3))).heap.size=w.heap.size+1:=by simp
 generalize hW:Af (w.alloc (.cells ⟨[Yn b]⟩ 3))=w1 at *;have hlk:=Xi (P:=Yt) Nn h1.map (k:=(b:Int));cases hf:DE C.l b with
 | some x =>
  obtain⟨hx,hxb⟩:=Eh hf;obtain⟨q,g,cc,b1,b2,b3,b4,b6⟩:=h.bufs x hx;rw[hxb]at b1;rw[b1]at hlk;have hask:L6 C b=some { C with l:=AW C.l b++[x] }:=by unfold L6;rw[hf]
  have h2:=h1.drew;have m2:Ab No w (Af w1):=m1.drew;have lz:∀{w2:World},Ab (Of la) (Af w1) w2->At w2 w.heap.size 0 [Yn b]:=fun k=>hq.drew.keep k fun e=>by have:=h.of3 e;omega
  have fin:∀ w' rl' lc' la',Hu w0 (D9 R w w') rl' w' c d m sb mb sc lc' la' L mp { C with l:=AW C.l b++[x] }->Ab R w w'->K (.tuple #[Yo q,Yn 0]) w' :=
   fun w' rl' lc' la' hC hM=>hk1 _ hask w' q ⟨rl',m,sb,mb,sc,lc',la',L,mp,hC,b1⟩ hM
  refine⟨some ⟨q,0,none⟩,true,hlk,tt rfl ⟨_,rfl,_,_,_,Yr h2.cell,_,(lz (Ab.refl _ _)).load (i:=0) (by kernel_rfl) rfl,?_,?_⟩⟩
  ·refine bI h2 (X2 (lz (Ab.refl _ _)) fun e=>by have:=h.of3 e;omega) fun w3 o3 m3=>⟨_,_,_,rfl,(lz m3).load (i:=0) (by kernel_rfl) rfl,_,_,_,_,Sd _ _,?_,?_⟩
   ·exact Yr ((h2.cell.keep m3 fun e=>by have:=h.of3 e;have:=h.rc;omega).keep (S:=No) ((Ab.refl No w3).alloc _) id)
   ·have m4:Ab No w3 (w3.alloc (.cells ⟨[Yn b]⟩ 3)):=(Ab.refl No w3).alloc _;exact iN (S:=fun w'=>K (.tuple #[Yo q,Yn 0]) w') h ((m2.anys.trans m3 fun _ _ e=>e).no m4) (o3.nos m4) Av.new.at hx hxb fin
  ·have m3:Ab No (Af w1) ((Af w1).alloc (.cells ⟨[Yn b]⟩ 3)):=(Ab.refl No _).alloc _;have h3:=h2.nos m3;have hz3:At ((Af w1).alloc (.cells ⟨[Yn b]⟩ 3)) (Af w1).heap.size 0 [Yn b]:=Av.new.at;have hzq:=h1.out_of (x:=(Af w1).heap.size) (Le _);refine⟨_,_,_,_,Sd _ _,Yr h3.cell,bI h3 (X2 (lz m3.anys) fun e=>by have:=h.of3 e;omega) fun w4 o4 m4=>⟨_,_,_,rfl,(lz (m3.anys.trans m4 fun _ _ e=>e)).load (i:=0) (by kernel_rfl) rfl,?_⟩⟩
   exact iN (S:=fun w'=>K (.tuple #[Yo q,Yn 0]) w') h ((m2.no m3).anys.trans m4 fun _ _ e=>e) o4 (hz3.keep m4 fun e=>by have:=h.of3 e;omega) hx hxb fin
 | none =>
  rw[h.noKey hf]at hlk;refine⟨none,false,hlk,ff rfl ?_⟩;refine Ac4 h1 (fun C' hr w10 mp' h10 m10=>⟨_,rfl,ff rfl ?_⟩) fun hr w10 m10=>⟨_,rfl,tt rfl (hk2 (by unfold L6;rw[hf];simp only[hr];rfl) w10 (m1.no m10))⟩;have hroom:C'.D=C.D/\(∀ x∈C'.l,x∈C.l)/\C'.l.length<C'.most:=by
   unfold Mj at hr
   split at hr
   ·rename_i hl
    have:=Lk hr
    subst this;exact⟨rfl,fun x hx=>hx,hl⟩
   ·cases hfi:C.l.find? (HU C.D)with
    | none=>rw[hfi]at hr;cases hr
    | some z =>
     rw[hfi]at hr
     have:=Lk hr
     subst this
     have:=Sz (Lq2 hfi)
     have:=h.wf.len
     exact⟨rfl,fun x hx=>(AP.1 hx).1,by show(AW C.l z.b).length<C.most;omega⟩
  obtain⟨hD,hsub,hlt⟩:=hroom;have hask:L6 C b=some { C' with l:=C'.l++[⟨b,Gt C.D b,0⟩] }:=by unfold L6;rw[hf];simp only[hr];rfl
  have hno:∀ y∈C'.l,y.b≠b:=fun y hy=>GB hf y (hsub y hy);have hb':b<C'.D.vs.length:=by rw[hD];exact hb
  have hl1:=h10.wf.len;have hl2:=h10.wf.most1;have hqR:¬ R w.heap.size:=fun e=>by have:=(h.lo _ e).2;omega
  have hq10:=hq.keep m10 hqR;have hlq10:=hq10.lt;obtain⟨r1,r2⟩:=Xv C'.D hb';have hal:=h10.atLen hb';refine⟨_,rfl,_,h10.drew.ld,_,hq10.drew.load (i:=0) (by kernel_rfl) rfl,qH h10.drew.disk h10.wf.small fun w11 a cc m11 f11=>?_⟩;rw[r2]at f11 |-;rw[r1,hal];rcases f11 with ⟨_,e⟩ | ⟨g,rfl,hg,hat⟩
  ·rw[e]at hal;cases hal
  have hgl:=hat.lt;refine⟨_,_,_,_,rfl,ff rfl ⟨_,fun w=>Z5 w _ _ _,_,fun w=>XU w _ _ _,_,_,dQ _ _,_,rfl,some m,?_⟩⟩;have m12:Ab No w11 (Af (w11.alloc (.cells ⟨[.slice (some ⟨g,0,none⟩) 256 cc,Yn 0]⟩ 312))):=((Ab.refl No w11).alloc _).drew;have hbuf:Av (Af (w11.alloc (.cells ⟨[.slice (some ⟨g,0,none⟩) 256 cc,Yn 0]⟩ 312))) w11.heap.size 0 [.slice (some ⟨g,0,none⟩) 256 cc,Yn 0]:=Av.new.drew
  have hsz12:(Af (w11.alloc (.cells ⟨[.slice (some ⟨g,0,none⟩) 256 cc,Yn 0]⟩ 312))).heap.size=w11.heap.size+1:=by simp
  generalize hW12:Af (w11.alloc (.cells ⟨[.slice (some ⟨g,0,none⟩) 256 cc,Yn 0]⟩ 312))=w12 at *;have M12:Ab No w10 w12:=((Ab.refl No w10).drew.no m11).no m12;have h12:=h10.nos M12;have hs11:=m11.size;have hs10d:(Af w10).heap.size=w10.heap.size:=rfl;have hq12:=hq10.keep M12 id;have hzz:=h10.out_of (x:=w12.heap.size);obtain⟨w13,s1,s2,s3,s4⟩:=Fz (P:=Yt) (k:=(b:Int)) (v:=Yo w11.heap.size) Nn h12.map
  have hrm:=h12.rm;have hrc:=h12.rc;have hbR:rl w11.heap.size=0:=h10.out_of (by omega);have hgR:rl g=0:=h10.out_of (by omega);have hc13:=h12.cell.keep s3 (Ha hrc hrm (by omega));have hrlq:rl w.heap.size=0:=hz0;have hq13:=hq12.keep s3 (Ha hrlq hrm (by omega));refine⟨h12.lm,_,hq12.load (i:=0) (by kernel_rfl) rfl,w13,s1,_,rfl,_,_,_,Yr hc13.drew,_,hq13.drew.load (i:=0) (by kernel_rfl) rfl,_,_,_,_,Sd _ _,?_⟩
  have m14:Ab No w13 ((Af w13).alloc (.cells ⟨[Yn b]⟩ 3)):=(Ab.refl No w13).drew.no ((Ab.refl No _).alloc _);have hnew14:At ((Af w13).alloc (.cells ⟨[Yn b]⟩ 3)) (Af w13).heap.size 0 [Yn b]:=Av.new.at;generalize hW14:(Af w13).alloc (.cells ⟨[Yn b]⟩ 3)=w14 at *;have hrow14:=(h12.row.keep s3 fun q hq'=>Ha (h12.rrow q hq') hrm (by omega)).nos m14;have hs14:=m14.size
  have hw0:=h10.mod.size;have hs12:=M12.size;obtain⟨q',c',w15,t1,t2,t3,t4⟩:=hrow14.app (ty:=176) (m:=1) (c2:=1) (ad:=⟨(Af w13).heap.size,0,none⟩) (ys:=[Yn b]) Fq (by omega) (.inr ⟨_,_,rfl,hnew14⟩) rfl (by omega) (by simp;rfl) (by omega) (by omega) (by omega);have t3':Ab (Of la) w14 w15:=t3;have hc15:=(hc13.keep m14 id).keep t3' fun e=>by have:=h12.of3 e;omega
  refine⟨Yr (hc13.keep m14 id),_,_,_,w15,t1,_,rfl,?_⟩;obtain⟨w16,u1,u2,u3,u4⟩:=hc15.store (P:=Yt) (T:=176) (i:=3) (v:=.slice (some q') (C'.l.length+1) c') (by kernel_rfl) (by simp) rfl;refine⟨w16,by rw[Ae];exact u1,?_⟩;have M13:Ab (O2 rl) w10 w13:=M12.anys.trans (s3.mono fun x _ e=>.inr (.inl (by rw[e];exact hrm))) fun _ _ e=>e;have M15:Ab (O2 rl) w10 w15:=(M13.no m14).trans (t3'.mono fun x _ e=>.inr (.inr (h12.of3 e))) fun _ _ e=>e
  have M16:Ab (O2 rl) w10 w16:=M15.trans (u3.mono fun x _ e=>.inl (by rw[e];exact hrc)) fun _ _ e=>e;have hs15:=t3'.size;have hs16:=u3.size;have hs13:=s3.size;have hq'lt:=(t2.base (q:=q') rfl).2;have hq'new:rl q'.block=3\/(w13.heap.size<=q'.block/\rl q'.block=0):=by
   rcases t4 with ⟨q2,hq2,e⟩|e
   ·left;rw[e];exact h12.rrow q2 hq2
   ·right;exact⟨by omega,h10.out_of (by omega)⟩
  have hq'g:q'.block≠g:=fun e=>by
   rcases hq'new with hn|⟨hn,_⟩
   ·rw[e]at hn;omega
   ·omega
  have hq'b:q'.block≠w11.heap.size:=fun e=>by
   rcases hq'new with hn|⟨hn,_⟩
   ·rw[e]at hn;omega
   ·omega
  have hgb:w11.heap.size≠g:=by omega
  have e1:ro rl g 5 w11.heap.size=0:=by rw[B6 _ hgb];exact hbR
  have x1:VT w10 w16 rl (ro rl g 5):=(VT.refl _ _ _).ro (.inr ⟨by omega,by omega,hgR⟩) (by omega) (by omega);have x2:VT w10 w16 rl (ro (ro rl g 5) w11.heap.size (6+b)):=x1.ro (.inr ⟨by omega,by omega,e1⟩) (by omega) (by omega);have e2:ro (ro rl g 5) w11.heap.size (6+b) q'.block=rl q'.block:=by rw[B6 _ hq'b,B6 _ hq'g]
  have x3:VT w10 w16 rl (ro (ro (ro rl g 5) w11.heap.size (6+b)) q'.block 3):=x2.ro (by
   rw[e2];rcases hq'new with hn | ⟨hn,hn2⟩
   ·exact .inl hn
   ·exact .inr ⟨by omega,by omega,hn2⟩) (by omega) (by omega)
  have hlen:(C'.l++[(⟨b,Gt C.D b,0⟩:Bf)]).length=C'.l.length+1:=by simp
  have hnum:iL (Fu C'.l)++[Yn b]=iL (Fu (C'.l++[⟨b,Gt C.D b,0⟩])):=by simp[Fu,iL,I]
  have hS:∀ x,O2 rl x->rl x≠0/\rl x≠4/\rl x≠5/\rl x<4:=fun x e=>by unfold O2 at e;omega
  have hstep:=h10.step (l':=C'.l++[⟨b,Gt C.D b,0⟩]) (la':=some q') (lc':=c') (mp':=Kg (b:Int) (Yo w11.heap.size) mp') M16 x3 (fun x _ e=>⟨(hS x e).1,(hS x e).2.1,(hS x e).2.2.1⟩) (by rw[hlen];simpa using u2)
   (((s2.keep m14 id).keep t3' fun e=>by have:=h12.of3 e;omega).keep u3 (Ha hrm hrc (by omega)))
   (by
    rw[hlen,<- hnum];refine t2.keep u3 fun q hq e=>?_
    have:=Lk hq
    subst this
    rcases hq'new with hn|⟨_,hn⟩<;>(rw[e]at hn;omega))
   (fun q hq=>by have:=Lk hq;subst this;exact BN _ _ _)
   (fun y hy=>by
    rcases Ln.1 hy with hy|hy
    ·refine .inl ⟨hy,?_,fun q e e'=>by have:=hS q e;omega⟩;rw[CX,if_neg (by have:=hno y hy;omega)]
    ·simp only[qA]at hy;subst hy;have n1:¬ O2 rl w11.heap.size:=fun e=>by have:=hS _ e;omega
     have n2:¬ O2 rl g:=fun e=>by have:=hS _ e;omega
     refine .inr ⟨w11.heap.size,g,cc,by rw[CX,if_pos rfl],?_,?_,?_,?_⟩
     ·rw[B6 _ (pE hq'b),BN]
     ·rw[B6 _ (pE hq'g),B6 _ (pE hgb),BN]
     ·refine(((hbuf.keep s3 (Ha hbR hrm (by omega))).keep m14 id).keep t3' fun e=>by have:=h12.of3 e;omega).keep u3 (Ha hbR hrc (by omega))
     ·rw[<- hD]
      refine((((hat.keep m12 id).keep s3 (Ha hgR hrm (by omega))).keep m14 id).keep t3' fun e=>by have:=h12.of3 e;omega).at.keep u3 (Ha hgR hrc (by omega)))
   (fun p hp=>by
    rcases Ry p hp with e|hp
    ·exact⟨⟨b,Gt C.D b,0⟩,by simp,e⟩
    ·obtain⟨y,hy,e⟩:=h10.keys p hp
     exact⟨y,Ln.2 (.inl hy),e⟩)
   (h10.wf.add hlt hno hb' (by rw[<- hD];exact hal) (by simp))
  have hz1:=m1.size;have hz10:=m10.size;have hz16:=M16.size;have MR1:Ab R w w10:=m1.anys.trans m10 fun _ _ e=>e;have hG:D9 (D9 R w1 w10) w10 w16=fun x=>R x\/(w1.heap.size<=x/\x<w16.heap.size):=jG (by omega) (by omega);have hw:=h.mod.size;refine hk1 _ hask w16 w11.heap.size ⟨_,m,sb,mb,sc,c',some q',L,_,hstep.widen (R':=D9 R w w16) (fun x hx=>?_) (fun x hx=>?_),by rw[CX,if_pos rfl]⟩ (MR1.trans M16 fun x hx e=>?_)
  ·rw[hG]at hx;rcases hx with hx | hx
   ·exact .inl hx
   ·exact .inr (by omega)
  ·rcases hx with hx|hx
   ·have:=h.lo x hx;omega
   ·omega
  ·have:=h10.reg x (hS x e).1
   rcases this with this|this
   ·exact this
   ·omega
end
structure pQ(C C':Ca)(b:Nat)(l0:List Bf)(y:Bf):Prop where
 l:C'.l=l0++[y]
 yb:y.b=b
 D:C'.D=C.D
 most:C'.most=C.most
 wf:OP C'
 from_:∀ x∈C'.l,x∈C.l\/(x=⟨b,Gt C.D b,0⟩/\DE C.l b=none)
 keep:∀ x∈C.l,HU C.D x=false->x∈C'.l
 here:∀ x∈C.l,x.b=b->x∈C'.l
 l0:∀ x∈l0,x∈C.l/\x.b≠b
theorem xC{C:Ca}(h:WF C.D){b:Nat}(hb:b<C.D.vs.length):(Gt C.D b).length=256:=by
 have hv:C.D.vs[b]?=some C.D.vs[b]:=by simp[hb]
 have e:HX C.D b=C.D.vs[b]:=by
  unfold HX;rw[if_neg (by omega),Lz,hv];rfl
 unfold Gt;rw[e];exact h.lastLen hv
theorem fT{C C':Ca}(h:OP C)(ha:Mj C=some C'):C'.D=C.D/\C'.most=C.most/\OP C'/\C'.l.length<C'.most/\(∀ x∈C'.l,x∈C.l)/\∀ x∈C.l,HU C.D x=false->x∈C'.l:=by
 unfold Mj at ha
 split at ha
 ·rename_i hl
  have:=Lk ha
  subst this;exact⟨rfl,rfl,h,hl,fun x hx=>hx,fun x hx _=>hx⟩
 ·cases hf:C.l.find? (HU C.D)with
  | none=>rw[hf]at ha;cases ha
  | some z =>
   rw[hf]at ha
   have:=Lk ha
   subst this;have hz:=Lq2 hf;have hi:HU C.D z=true:=Lz4 hf;refine⟨rfl,rfl,h.out _,?_,fun x hx=>(AP.1 hx).1,fun x hx hn=>AP.2 ⟨hx,fun e=>?_⟩⟩
   ·have:=Sz hz;have:=h.len
    show(AW C.l z.b).length<C.most;omega
   ·rw[LD h.nodup hx hz e,hi]at hn;cases hn
theorem RY{C C':Ca}{b:Nat}(h:OP C)(hD:WF C.D)(hb:b<C.D.vs.length)(ha:L6 C b=some C'):∃ l0 y,pQ C C' b l0 y:=by
 unfold L6 at ha
 split at ha
 ·rename_i x hx
  have:=Lk ha
  subst this;obtain⟨h1,h2⟩:=Eh hx;subst h2
  exact⟨AW C.l x.b,x,{
   l:=rfl,yb:=rfl,D:=rfl,most:=rfl,wf:=h.move h1
   from_:=fun z hz=>by
    rcases Ln.1 hz with hz|hz
    ·exact .inl (AP.1 hz).1
    ·simp at hz;subst hz;exact .inl h1
   keep:=fun z hz _=>by
    by_cases e:z.b=x.b
    ·rw[LD h.nodup hz h1 e];simp
    ·exact Ln.2 (.inl (AP.2 ⟨hz,e⟩))
   here:=fun z hz e=>by rw[LD h.nodup hz h1 e];simp
   l0:=fun z hz=>AP.1 hz }⟩
 ·rename_i hx;cases hr:Mj C with
  | none=>rw[hr]at ha;cases ha
  | some C1 =>
   rw[hr]at ha
   have:=Lk ha
   subst this;obtain⟨r1,r2,r3,r4,r5,r6⟩:=fT h hr;have hno:=GB hx
   exact⟨C1.l,⟨b,Gt C.D b,0⟩,{
    l:=rfl,yb:=rfl,D:=r1,most:=r2
    wf:=r3.add r4 (fun y hy=>hno y (r5 y hy)) (by rw[r1];exact hb) (xC hD hb) (by simp)
    from_:=fun z hz=>by
     rcases Ln.1 hz with hz|hz
     ·exact .inl (r5 z hz)
     ·simp at hz;subst hz;exact .inr ⟨rfl,hx⟩
    keep:=fun z hz hi=>Ln.2 (.inl (r6 z hz hi))
    here:=fun z hz e=>absurd e (hno z hz)
    l0:=fun z hz=>⟨r5 z hz,hno z (r5 z hz)⟩ }⟩
def LI(l:List Bf)(n:Nat):Nat:=match DE l n with | some x=>x.pins | none=>0
theorem fO{l:List Bf}(hn:(l.map (·.b)).Nodup){x:Bf}(hx:x∈l):LI l x.b=x.pins:=by
 unfold LI;rw[DJ hn hx]
theorem VL{l:List Bf}{y:Bf}(h:∃ x∈l,x.b=y.b):y∈KN l y:=by
 obtain⟨x,hx,e⟩:=h;exact L2.2 ⟨x,hx,by rw[if_pos e]⟩
theorem VM{l:List Bf}{y x:Bf}(hx:x∈l)(e:x.b≠y.b):x∈KN l y:=L2.2 ⟨x,hx,by rw[if_neg e]⟩
def Gv(l:List Bf):Bk:=match l.getLast? with | some x=>x.data | none=>[]
def Y7(C:Ca)(n:Int):Ca×Int×Bk :=
 if AO C.D n≠0 then(C,AO C.D n,[])else match L6 C n.toNat with | none=>(C,5,[]) | some C'=>(C',0,Gv C'.l)
def TM(C:Ca)(n:Int)(ys:Bk):Ca×Int :=
 if AO C.D n≠0 then(C,AO C.D n)else if ys.length≠256 then(C,4)else match L6 C n.toNat with | none=>(C,5) | some C'=>({ C' with l:=KN C'.l ⟨n.toNat,ys,LI C'.l n.toNat⟩ },0)
def wrX(C:Ca)(n:Int)(ys:Bk):Ca×Int :=
 if AO C.D n≠0 then(C,AO C.D n)else if ys.length≠0/\ys.length≠256 then(C,4)else match L6 C n.toNat with
  | none=>(C,5)
  | some C'=>({ C' with D:=DG C'.D n (if ys.length=0 then Gv C'.l else ys) },cM C'.D n (if ys.length=0 then Gv C'.l else ys))
def OU(C:Ca)(n:Int):Option Bf:=if n<0 then none else DE C.l n.toNat
def nW(C:Ca)(n:Int):Ca×Int:=match OU C n with | none=>(C,20) | some x=>({ C with l:=KN C.l { x with pins:=x.pins+1 } },0)
theorem fF{C:Ca}{n:Int}{x:Bf}(h:OU C n=some x):x∈C.l/\n=(x.b:Int):=by
 unfold OU at h
 split at h
 ·cases h
 ·have:=Eh h;exact⟨this.1,by omega⟩
section
variable{w0 w w':World}{R:Nat->Prop}{rl:Nat->Nat}{c d m sb mb sc lc:Nat}{la:Option Addr}{L mp:List (Int×Value)}{C:Ca}{K:Value->World->Prop}
theorem aH(h:Hu w0 R rl w c d m sb mb sc lc la L mp C)(n:Int):(OU C n=none/\Ay mp n=none)\/∃ x q,OU C n=some x/\Ay mp n=some (Yo q):=by
 unfold OU;by_cases hn:n<0
 ·rw[if_pos hn];refine .inl ⟨rfl,?_⟩;cases hl:Ay mp n with
  | none=>rfl
  | some v =>
   obtain⟨x,_,e⟩:=h.keys _ (KE hl);have e':n=x.b:=e;omega
 ·rw[if_neg hn];obtain⟨b,rfl⟩:=dG (show 0<=n by omega);rw[Lz];cases hf:DE C.l b with
  | none=>exact .inl ⟨rfl,h.noKey hf⟩
  | some x =>
   obtain⟨hx,e⟩:=Eh hf;obtain⟨q,g,cc,b1,_⟩:=h.bufs x hx;rw[e]at b1;exact .inr ⟨x,q,rfl,b1⟩
def Sw(D:St)(n:Int)(l:Nat)(xs:List Int):Int:=if AO D n≠0 then AO D n else if xs≠[]/\(l:Int) ∉ xs then 4 else 0
theorem eG{a2 a3:Option Addr}{l2 c2 l3 c3:Nat}{xs:List Int}{n:Int}(h:Hu w0 R rl w c d m sb mb sc lc la L mp C)(hl:xs.length=l3)(h63:l3<=1000)(hr:BG w a3 (iL xs))
  (hk:K (Yn (Sw C.D n l2 xs)) w):A7 Yt DS #[Yo c,Yn n,.slice a2 l2 c2,.slice a3 l3 c3] w K:=by
 apply Ql;unfold Jd;refine ff rfl (Ad.cut (fun x w'=>x=[.bool (decide (n<0\/C.D.vs.length<=n))]/\w'=w) (Aa (fun hb=>?_) (fun hb=>?_)) ?_)
 ·have:=Ld hb
  exact⟨by simp[this],rfl⟩
 ·have:=Lc hb
  refine⟨_,rfl,_,h.ld,Zs h.disk ⟨_,rfl,?_,rfl⟩⟩
  congr 2;rw[RH];simp only[RV];omega
 rintro x w' ⟨rfl,rfl⟩;refine⟨_,rfl,Aa (fun hb=>?_) (fun hb=>?_)⟩
 ·have:=Ld hb
  have e:AO C.D n=3:=by unfold AO;rw[if_pos this]
  unfold Sw at hk;rw[e]at hk;exact hk
 ·have:=Lc hb
  have e:AO C.D n=0:=by unfold AO;rw[if_neg this]
  unfold Sw at hk;rw[e,if_neg (by omega)]at hk;refine Ad.cut (fun x w2=>x=[.bool (decide (xs≠[]/\(l2:Int) ∉ xs))]/\w2=w') (Aa (fun hb=>?_) (fun hb=>?_)) ?_
  ·have hl3:0<l3:=by have:=Ld hb;omega
   have hne:xs≠[]:=fun e=>by subst e;simp at hl;omega
   refine dC hl (by omega) hr ⟨_,rfl,?_,rfl⟩;simp[hne]
  ·have hl3:l3=0:=by have:=Lc hb;omega
   have hne:xs=[]:=iA (by omega);exact⟨by simp[hne],rfl⟩
  ·rintro x w2 ⟨rfl,rfl⟩;refine⟨_,rfl,Aa (fun hb=>?_) (fun hb=>?_)⟩
   ·rw[if_pos (Ld hb)]at hk;exact hk
   ·rw[if_neg (Lc hb)]at hk;exact hk
theorem Cx.nos(h:Cx w0 R w c d C)(k:Ab No w w'):Cx w0 R w' c d C:=by
 obtain⟨rl,m,sb,mb,sc,lc,la,L,mp,h⟩:=h;exact⟨rl,m,sb,mb,sc,lc,la,L,mp,h.nos k⟩
theorem Cx.gro(h:Cx w0 R w c d C)(k:Ab No w w'):Cx w0 (D9 R w w') w' c d C:=by
 obtain⟨rl,m,sb,mb,sc,lc,la,L,mp,h⟩:=h;exact⟨rl,m,sb,mb,sc,lc,la,L,mp,h.gro k⟩
theorem Cx.wf(h:Cx w0 R w c d C):OP C/\WF C.D/\Ab No w0 w/\(∀ x,R x->w0.heap.size<=x/\x<w.heap.size):=by
 obtain⟨rl,m,sb,mb,sc,lc,la,L,mp,h⟩:=h;exact⟨h.wf,h.disk.wf,h.mod,h.lo⟩
theorem Cq.x{b q:Nat}(h:Cq w0 R w c d b q C):Cx w0 R w c d C:=by
 obtain⟨rl,m,sb,mb,sc,lc,la,L,mp,h,_⟩:=h;exact⟨rl,m,sb,mb,sc,lc,la,L,mp,h⟩
theorem Cx.keep{S:Nat->Prop}(h:Cx w0 R w c d C)(k:Ab S w w')(hs:∀ x,R x->¬ S x)(hw:∀ x,x<w0.heap.size->¬ S x):Cx w0 R w' c d C:=by
 obtain⟨rl,m,sb,mb,sc,lc,la,L,mp,h⟩:=h;have hr:∀{x},rl x≠0->¬ S x:=fun hx=>hs _ (h.reg _ hx)
 exact⟨rl,m,sb,mb,sc,lc,la,L,mp,{
  disk:=h.disk.keep k fun x hx=>hr (by omega)
  cell:=h.cell.keep k (hr (by rw[h.rc];omega))
  map:=h.map.keep k (hr (by rw[h.rm];omega))
  row:=h.row.keep k fun q hq=>hr (by rw[h.rrow q hq];omega)
  rc:=h.rc
  rm:=h.rm
  rrow:=h.rrow
  bufs:=fun x hx=>by
   obtain⟨q,g,cc,h1,h2,h3,h4,h6⟩:=h.bufs x hx;exact⟨q,g,cc,h1,h2,h3,h4.keep k (hr (by omega)),h6.keep k (hr (by omega))⟩
  keys:=h.keys
  wf:=h.wf
  reg:=h.reg
  lo:=fun x hx=>by have:=h.lo x hx;have:=k.size;omega
  mod:=h.mod.trans k fun x hx e=>absurd e (hw x hx) }⟩
theorem Xg{C':Ca}{b:Nat}(h:OP C)(hD:WF C.D)(hb:b<C.D.vs.length)(ha:L6 C b=some C'):∃ x∈C'.l,x.b=b/\Gv C'.l=x.data/\DE C'.l b=some x/\OP C'/\C'.D=C.D:=by
 obtain⟨l0,y,A⟩:=RY h hD hb ha;refine⟨y,by rw[A.l];simp,A.yb,by unfold Gv;rw[A.l];simp,?_,A.wf,A.D⟩
 have:=DJ A.wf.nodup (x:=y) (by rw[A.l];simp)
 rwa [A.yb]at this
theorem NR{D:St}{n:Int}(h:AO D n=0):∃ b:Nat,n=b/\b<D.vs.length:=by
 rcases GA (D:=D) n with ⟨e,_⟩|⟨_,i,v,rfl,hv,_⟩
 ·omega
 ·exact⟨i,rfl,(Lq.1 hv).1⟩
theorem iP{n:Int}(hC:Cx w0 R w c d C)
  (hk:∀ w1 w' a cc,Ab R w w1->Ab No w1 w'->Cx w0 (D9 R w w1) w' c d (Y7 C n).1->Ow Yt w' w1.heap.size 57 1 a (Y7 C n).2.2.length cc (A6 (Y7 C n).2.2)->K (.tuple #[.slice a (Y7 C n).2.2.length cc,Yn (Y7 C n).2.1]) w') :
  A7 Yt Dr #[Yo c,Yn n] w K:=by
 have hX:=hC;obtain⟨rl,m,sb,mb,sc,lc,la,L,mp,h⟩:=hC;apply Ij;unfold Iu;refine eG (xs:=[]) h rfl (by omega) (.inl rfl) ⟨_,rfl,?_⟩;have hm:Sw C.D n 0 []=AO C.D n:=by
  unfold Sw;split
  ·rfl
  ·rename_i e;simp at e |-;exact e.symm
 rw[hm];by_cases he:AO C.D n=0
 ·rw[he];refine ff rfl ?_;obtain⟨b,rfl,hb⟩:=NR he;have hr0:Y7 C b=match L6 C b with | none=>(C,5,[]) | some C'=>(C',0,Gv C'.l):=by unfold Y7;rw[if_neg (by omega),Lz]
  rw[hr0]at hk;refine AaW h hb (fun C' ha w1 q hq m1=>⟨_,_,rfl,ff rfl ⟨_,rfl,?_⟩⟩) fun ha w1 m1=>⟨_,_,rfl,tt rfl ?_⟩
  ·rw[ha]at hk;obtain⟨x,hx,hxb,hxd,hxf,hwf,hD⟩:=Xg h.wf h.disk.wf hb ha;have hxl:=hwf.data x hx;have hqx:=hq.x;obtain⟨rl',m',sb',mb',sc',lc',la',L',mp',h',hl'⟩:=hq;obtain⟨q2,g,cc,b1,b2,b3,b4,b6⟩:=h'.bufs x hx;rw[hxb,hl']at b1;simp only[Lz2,Value.pointer.injEq,Addr.mk.injEq,and_true]at b1;subst b1;refine⟨_,_,_,tD b4,Up (.inr ⟨_,_,rfl,b6⟩) hxl (fun e=>by cases e) (by omega) fun w2 a2 c2 o2 m2=>⟨_,_,_,rfl,?_⟩⟩
   have:=hk w1 w2 a2 c2 m1 m2 (hqx.nos m2)
   simp only[hxd,hxl]at this;exact this o2
  ·rw[ha]at hk;exact hk w1 w1 none 0 m1.anys (Ab.refl _ _) (hX.gro m1) (Ow.nil CF)
 ·have hr0:Y7 C n=(C,AO C.D n,[]):=by unfold Y7;rw[if_pos he]
  rw[hr0]at hk;refine tt (by simpa using he) ?_;exact hk w w none 0 (Ab.refl _ _) (Ab.refl _ _) (hX.gro (Ab.refl _ _)) (Ow.nil CF)
end
section
variable{w0 w w':World}{R:Nat->Prop}{rl:Nat->Nat}{c d m sb mb sc lc:Nat}{la:Option Addr}{L mp:List (Int×Value)}{C:Ca}{K:Value->World->Prop}
theorem bY(l:List Bf)(y:Bf):(KN l y).length=l.length:=by simp[KN]
theorem Hu.turn{S:Nat->Prop}{y:Bf}{q g cc:Nat}(h:Hu w0 R rl w c d m sb mb sc lc la L mp C)(k:Ab S w w')(hS:∀ z,S z->rl z=6+y.b)(hm:∃ x∈C.l,x.b=y.b)
  (hq:Ay mp (y.b:Int)=some (Yo q)) (hrq:rl q=6+y.b) (hg:rl g=5\/(w.heap.size<=g/\g<w'.heap.size)) (h4:Av w' q 0 [.slice (some ⟨g,0,none⟩) 256 cc,Yn y.pins]) (h6:At w' g 0 (A6 y.data))
  (hwf:OP { C with l:=KN C.l y }):∃ rl',Hu w0 (D9 R w w') rl' w' c d m sb mb sc lc la L mp { C with l:=Go.Z.KN C.l y }:=by
 have hrc:=h.rc;have hrm:=h.rm;have hg':rl g=5\/(w.heap.size<=g/\g<w'.heap.size/\rl g=0):=by
  rcases hg with hg|hg
  ·exact .inl hg
  ·exact .inr ⟨hg.1,hg.2,h.out_of hg.1⟩
 have hqg:q≠g:=fun e=>by
  rcases hg' with hg'|⟨_,_,hg'⟩
  ·rw[<- e]at hg';omega
  ·rw[<- e]at hg';omega
 refine⟨ro rl g 5,h.step k ((VT.refl _ _ _).ro hg' (by omega) (by omega)) (fun x _ e=>by have:=hS x e;omega) ?_ (h.map.keep k fun e=>by have:=hS _ e;omega) ?_ (fun q2 hq2=>?_) (fun z hz=>?_) (fun p hp=>?_) hwf⟩
 ·rw[bY];exact h.cell.keep k fun e=>by have:=hS _ e;omega
 ·rw[bY,oR];exact h.row.keep k fun q2 hq2 e=>by have:=hS _ e;have:=h.rrow q2 hq2;omega
 ·have hr:=h.rrow q2 hq2;have:q2.block≠g:=fun e=>by
   rcases hg' with hg'|⟨_,_,hg'⟩
   ·rw[<- e]at hg';omega
   ·rw[<- e]at hg';omega
  rw[B6 _ this];exact hr
 ·rcases Np hz with rfl|⟨hz,hne⟩
  ·exact .inr ⟨q,g,cc,hq,by rw[B6 _ hqg];exact hrq,BN _ _ _,h4,h6⟩
  ·exact .inl ⟨hz,rfl,fun q2 e e'=>by have:=hS q2 e;omega⟩
 ·obtain⟨x,hx,e⟩:=h.keys p hp;obtain⟨x2,hx2,e2⟩:=hm;by_cases hxy:x.b=y.b
  ·exact⟨y,VL ⟨x2,hx2,e2⟩,by rw[e,hxy]⟩
  ·exact⟨x,VM hx hxy,e⟩
theorem Cx.up{w1:World}(h:Cx w0 (D9 R w1 w') w' c d C)(hlo:∀ x,R x->w0.heap.size<=x/\x<w.heap.size)(hw:w0.heap.size<=w.heap.size)(h1:w.heap.size<=w1.heap.size)(h2:w.heap.size<=w'.heap.size):Cx w0 (D9 R w w') w' c d C:=by
 obtain⟨rl,m,sb,mb,sc,lc,la,L,mp,h⟩:=h;refine⟨rl,m,sb,mb,sc,lc,la,L,mp,h.widen (fun x hx=>?_) fun x hx=>?_⟩
 ·rcases hx with hx|hx
  ·exact .inl hx
  ·exact .inr (by omega)
 ·rcases hx with hx|hx
  ·have:=hlo x hx;omega
  ·omega
theorem _root_.Go.Den.BG.region{a:Option Addr}{xs:List Value}(h:BG w a xs)(m:Ab R w w')(hd:xs≠[]->∀ q,a=some q->¬ R q.block):BG w' a xs:=by
 by_cases e:xs=[]
 ·exact .inl e
 ·exact h.keep m (hd e)
theorem Ab9{n:Int}{a2:Option Addr}{l2 c2:Nat}{ys:Bk}(hC:Cx w0 R w c d C)(hl:ys.length=l2)(hr:BG w a2 (A6 ys))(hd:ys≠[]->∀ q,a2=some q->¬ R q.block)
  (hk:∀ w',Ab R w w'->Cx w0 (D9 R w w') w' c d (TM C n ys).1->K (Yn (TM C n ys).2) w'):A7 Yt FN #[Yo c,Yn n,.slice a2 l2 c2] w K:=by
 have hX:=hC;obtain⟨rl,m,sb,mb,sc,lc,la,L,mp,h⟩:=hC;apply Qi;unfold Ja;have m1:Ab No w (w.alloc (.cells ⟨[Yn 256]⟩ 3)):=(Ab.refl No w).alloc _;have hrow:BG (w.alloc (.cells ⟨[Yn 256]⟩ 3)) (some ⟨w.heap.size,0,none⟩) (iL [256]):=.inr ⟨_,_,rfl,Av.new.at⟩;refine⟨_,_,_,_,Sd _ _,eG (xs:=[256]) (h.nos m1) rfl (by omega) hrow ⟨_,rfl,?_⟩⟩;generalize hW:w.alloc (.cells ⟨[Yn 256]⟩ 3)=w1 at *
 have hs1:=m1.size;have hw0:=h.mod.size;by_cases he:AO C.D n=0
 ·by_cases h256:ys.length=256
  ·have hm:Sw C.D n l2 [256]=0:=by unfold Sw;rw[if_neg (by omega),if_neg (by simp;omega)]
   rw[hm];refine ff rfl ?_;obtain⟨b,rfl,hb⟩:=NR he;have hr0:TM C b ys=match L6 C b with | none=>(C,5) | some C'=>({ C' with l:=KN C'.l ⟨b,ys,LI C'.l b⟩ },0):=by unfold TM;rw[if_neg (by omega),if_neg (by omega),Lz]<;>rfl
   rw[hr0]at hk;refine AaW (h.nos m1) hb (fun C' ha w3 q hq m3=>⟨_,_,rfl,Ad.dup (tt rfl ?_)⟩) fun ha w3 m3=>⟨_,_,rfl,Ad.dup (ff rfl ?_)⟩
   ·rw[ha]at hk;obtain⟨x,hx,hxb,hxd,hxf,hwf,hD⟩:=Xg h.wf h.disk.wf hb ha;obtain⟨rl',m',sb',mb',sc',lc',la',L',mp',h',hl'⟩:=hq;obtain⟨q2,g,cc,b1,b2,b3,b4,b6⟩:=h'.bufs x hx;rw[hxb,hl']at b1;simp only[Lz2,Value.pointer.injEq,Addr.mk.injEq,and_true]at b1;subst b1;have hune:A6 ys≠[]:=fun e=>by have:=QJ List.length e;simp at this;rw[this]at h256;simp at h256
    have hyne:ys≠[]:=fun e=>by rw[e]at h256;simp at h256
    have hr3:=BG.region (hr.nos m1) m3 fun _=>hd hyne;have h0:a2≠none:=fun e=>by
     rcases hr with hr|⟨_,_,e2,_⟩
     ·exact hune hr
     ·rw[e]at e2;cases e2
    refine Up hr3 hl (fun e=>absurd e h0) (by omega) fun w4 a4 c4 o4 m4=>⟨_,_,_,rfl,_,rfl,?_⟩;subst hl;obtain⟨g4,rfl,hg4,hat4⟩:=o4.sm (by omega);obtain⟨w5,t1,t2,t3,t4⟩:=(b4.keep m4 id).store (P:=Yt) (T:=57) (i:=0) (v:=.slice (some ⟨g4,0,none⟩) ys.length c4) (by kernel_rfl) (by simp) rfl;refine⟨w5,by rw[Ae,Ae];exact t1,?_⟩;have hp:LI C'.l b=x.pins:=by unfold LI;rw[hxf]
    simp only[hp]at hk;have hx':(⟨b,ys,x.pins⟩:Bf).b=x.b:=hxb.symm;have hg4l:=hat4.lt;have hs5:=t3.size;have hs4:=m4.size;have hs3:=m3.size;have hgq:g4≠q:=fun e=>by have:=h'.out_of (x:=g4) (by omega);rw[e]at this;omega
    have M:Ab (fun z=>z=q) w3 w5:=(m4.anys.trans t3 fun _ _ e=>e);obtain⟨rl5,h5⟩:=h'.turn (y:=⟨b,ys,x.pins⟩) (q:=q) (g:=g4) (cc:=c4) M (fun z e=>by rw[e];rw[b2,hxb]) ⟨x,hx,hxb⟩ hl' (by rw[b2,hxb]) (.inr ⟨by omega,by omega⟩) (by simpa [h256] using t2) (hat4.at.keep t3 hgq)
     (hwf.turn (by show b<C'.D.vs.length;rw[hD];exact hb) h256 (hwf.pins x hx))
    have hgg:=jG (R:=R) (w:=w1) (w1:=w3) (w2:=w5) (by omega) (by omega);rw[hgg]at h5;refine hk w5 ((m1.anys.trans m3 fun _ _ e=>e).trans M fun z hz e=>?_) (Cx.up ⟨rl5,m',sb',mb',sc',lc',la',L',mp',h5⟩ h.lo hw0 hs1 (by omega))
    have:=h'.reg z (by rw[e,b2];omega)
    rcases this with this|this
    ·exact this
    ·omega
   ·rw[ha]at hk;exact hk w3 (m1.no m3).anys (hX.gro (m1.no m3))
  ·have hm:Sw C.D n l2 [256]=4:=by unfold Sw;rw[if_neg (by omega),if_pos (by simp;omega)]
   have hr0:TM C n ys=(C,4):=by unfold TM;rw[if_neg (by omega),if_pos h256]
   rw[hr0]at hk;rw[hm];exact tt rfl (hk w1 m1.anys (hX.gro m1))
 ·have hm:Sw C.D n l2 [256]=AO C.D n:=by unfold Sw;rw[if_pos he]
  have hr0:TM C n ys=(C,AO C.D n):=by unfold TM;rw[if_pos he]
  rw[hr0]at hk;rw[hm];exact tt (by simpa using he) (hk w1 m1.anys (hX.gro m1))
end
section
variable{w0 w w':World}{R:Nat->Prop}{rl:Nat->Nat}{c d m sb mb sc lc:Nat}{la:Option Addr}{L mp:List (Int×Value)}{C:Ca}{K:Value->World->Prop}
theorem AcM{n:Int}(h:Hu w0 R rl w c d m sb mb sc lc la L mp C)(hk1:OU C n=none->K (.tuple #[.pointer none,Yn 20]) w)
  (hk2:∀ x q,OU C n=some x->Ay mp n=some (Yo q)->K (.tuple #[Yo q,Yn 0]) w):A7 Yt Fe #[Yo c,Yn n] w K:=by
 apply Ph;unfold Iv;have hlk:=Xi (P:=Yt) Nn h.map (k:=n);refine ff rfl ⟨_,rfl,some m,h.lm,?_⟩;rcases aH h n with ⟨e1,e2⟩ | ⟨x,q,e1,e2⟩
 ·rw[e2]at hlk;exact⟨none,false,hlk,tt rfl (hk1 e1)⟩
 ·rw[e2]at hlk;exact⟨some ⟨q,0,none⟩,true,hlk,ff rfl (hk2 x q e1 e2)⟩
theorem fP{x:Bf}{q p:Nat}(h:Hu w0 R rl w c d m sb mb sc lc la L mp C)(hx:x∈C.l)(hq:Ay mp (x.b:Int)=some (Yo q))(hp:p<=1000000) :
  ∃ w',Gr (Instr.storeAt 3 (.pointer (some (Addr.add ⟨q,0,none⟩ 1))) (Yn p)) w w'/\Ab R w w'/\Cx w0 (D9 R w w') w' c d { C with l:=KN C.l { x with pins:=p } }:=by
 obtain⟨q2,g,cc,b1,b2,b3,b4,b6⟩:=h.bufs x hx;rw[hq]at b1;simp only[Lz2,Value.pointer.injEq,Addr.mk.injEq,and_true]at b1;subst b1;obtain⟨w1,t1,t2,t3,t4⟩:=b4.store (P:=Yt) (T:=3) (i:=1) (v:=Yn p) (by kernel_rfl) (by simp) rfl;refine⟨w1,by rw[Ae];exact t1,t3.mono fun z _ e=>h.reg z (by rw[e,b2];omega),?_⟩;obtain⟨rl',h'⟩:=h.turn (y:={ x with pins:=p }) (q:=q) (g:=g) (cc:=cc) t3 (fun z e=>by rw[e];exact b2) ⟨x,hx,rfl⟩ hq b2 (.inl b3) (by simpa using t2) (b6.keep t3 fun e=>by rw[e]at b3;omega)
  (h.wf.turn (h.wf.lt x hx) (h.wf.data x hx) hp)
 exact⟨rl',m,sb,mb,sc,lc,la,L,mp,h'⟩
theorem AcB{n:Int}(hC:Cx w0 R w c d C)(hp:∀ x∈C.l,x.pins<=999999)(hk:∀ w',Ab R w w'->Cx w0 (D9 R w w') w' c d (nW C n).1->K (Yn (nW C n).2) w'):A7 Yt DQ #[Yo c,Yn n] w K:=by
 have hX:=hC;obtain⟨rl,m,sb,mb,sc,lc,la,L,mp,h⟩:=hC;apply Qj;unfold Jb;unfold nW at hk;refine AcM h (fun e=>⟨_,_,rfl,Ad.dup (ff rfl ?_)⟩) fun x q e hq=>⟨_,_,rfl,Ad.dup (tt rfl ?_)⟩
 ·rw[e]at hk;exact hk w (Ab.refl _ _) (hX.gro (Ab.refl _ _))
 ·rw[e]at hk;obtain⟨hx,rfl⟩:=fF e;obtain⟨q2,g,cc,b1,b2,b3,b4,b6⟩:=h.bufs x hx;have hpx:=hp x hx;have hq':=hq;rw[hq]at b1;simp only[Lz2,Value.pointer.injEq,Addr.mk.injEq,and_true]at b1;subst b1;obtain⟨w1,t1,t2,t3⟩:=fP (p:=x.pins+1) h hx hq' (by omega);refine⟨_,rfl,_,Aa9 b4,_,rfl,w1,?_,hk w1 t2 t3⟩;rw[Ag (x:=(x.pins:Int)+1) (by omega) (by omega)];exact t1
theorem Z6(w:World)(p:Option Addr)(n:Int)(mm:Option Nat):(Instr.build 296 #[(0,.pointer p),(1,Yn n),(2,.map mm)]).run Yt w=.ok (.agg ⟨[.pointer p,Yn n,.map mm,.slice none 0 0]⟩) w:=by kernel_rfl
theorem AcA{D:St}{n:Int}(hd:AA w R d sb mb sc L D)(hsm:Ma D)(hlo:∀ x,R x->w0.heap.size<=x/\x<w.heap.size)(hm:Ab No w0 w)
  (hk1:n<1\/4096<n->K (.tuple #[.pointer none,Yn 1]) w)
  (hk2:∀ k:Nat,n=k->1<=k->k<=4096->∀ w' c,Ab No w w'->Cx w0 (D9 R w w') w' c d ⟨D,k,[]⟩->K (.tuple #[Yo c,Yn 0]) w'):A7 Yt MK #[Yo d,Yn n] w K:=by
 classical
 apply YT;unfold SG;refine ff rfl (Ad.or ⟨_,rfl,Aa (fun hb=>?_) (fun hb=>?_)⟩)
 ·exact hk1 (by simpa using hb)
 have hn:¬ (n<1\/4096<n):=by simpa using hb
 obtain⟨k,rfl⟩:=dG (show 0<=n by omega);refine⟨_,_,CG,_,fun w=>Z6 w _ _ _,_,_,JF,?_⟩;have m1:Ab No w (w.alloc (.map #[] 0)):=(Ab.refl No w).alloc _;have m2:Ab No (w.alloc (.map #[] 0)) ((w.alloc (.map #[] 0)).alloc (.cells ⟨[Yo d,Yn k,.map (some w.heap.size),.slice none 0 0]⟩ 296)):=(Ab.refl No _).alloc _;have hs1:(w.alloc (.map #[] 0)).heap.size=w.heap.size+1:=by simp
 have hs2:((w.alloc (.map #[] 0)).alloc (.cells ⟨[Yo d,Yn k,.map (some w.heap.size),.slice none 0 0]⟩ 296)).heap.size=w.heap.size+2:=by simp
 refine hk2 k rfl (by omega) (by omega) ((w.alloc (.map #[] 0)).alloc (.cells ⟨[Yo d,Yn k,.map (some w.heap.size),.slice none 0 0]⟩ 296)) _ (m1.no m2) ?_;have hw0:=hm.size;have hR:∀ x,R x->x≠w.heap.size/\x≠w.heap.size+1:=fun x hx=>by have:=hlo x hx;omega
 refine⟨fun x=>if x=w.heap.size+1 then 1 else if x=w.heap.size then 2 else if R x then 4 else 0,w.heap.size,sb,mb,sc,0,none,L,[],?_⟩
 have e4:(fun x=>(if x=w.heap.size+1 then 1 else if x=w.heap.size then 2 else if R x then 4 else 0)=4)=R:=by
  funext x;apply propext;constructor
  ·intro e
   split at e
   ·omega
   ·split at e
    ·omega
    ·split at e
     ·assumption
     ·omega
  ·intro hx;rw[if_neg (hR x hx).2,if_neg (hR x hx).1,if_pos hx]
 exact {
  disk:=by rw[e4];exact(hd.nos m1).nos m2
  cell:=by rw[hs1];rw[<- hs1];exact Av.new
  map:=AU.new.keep m2 id
  row:=Ow.nil Fq
  rc:=by rw[hs1];simp
  rm:=by simp
  rrow:=fun q hq=>by cases hq
  bufs:=fun x hx=>by cases hx
  keys:=fun p hp=>by cases hp
  wf:={ small:=hsm,most0:=by show 1<=k;omega,most1:=by show k<=4096;omega,len:=qE _,nodup:=by simp,lt:=fun x hx=>(by cases hx),data:=fun x hx=>(by cases hx),pins:=fun x hx=>(by cases hx) }
  reg:=fun x hx=>by
   by_cases hRx:R x
   ·exact .inl hRx
   ·right;by_cases e1:x=w.heap.size+1
    ·omega
    ·by_cases e2:x=w.heap.size
     ·omega
     ·simp[e1,e2,hRx]at hx
  lo:=fun x hx=>by
   rcases hx with hx|hx
   ·have:=hlo x hx;omega
   ·omega
  mod:=(hm.no m1).no m2 }
end
section
variable{w0 w w':World}{R:Nat->Prop}{c d:Nat}{C:Ca}{K:Value->World->Prop}
def k0:Ca:=⟨AH 4,2,[]⟩
def k1:Ca:=(Y7 k0 1).1
def k2:Ca:=(Y7 k1 2).1
def k3:Ca:=(Y7 k2 1).1
def k4:Ca:=(Y7 k3 3).1
def k5:Ca:=(TM k4 1 (WP [120])).1
def k6:Ca:=(wrX k5 1 []).1
end
end Go.Z
end
section
open Go Go.Den Go.Proofs
namespace Go.Den
def pV(q:Nat):Value:=Yo q
def pL(qs:List Nat):List Value:=qs.map pV
@[simp] theorem AeE (qs:List Nat):(pL qs).length=qs.length:=by simp[pL]
end Go.Den
namespace Go.Z
theorem WM:EG Yt 268 1 (.pointer none) 8:=by unfold EG;kernel_rfl
theorem Hg:EG Yt 75 1 (Yn 0) 8:=by unfold EG;kernel_rfl
section
variable{w:World}{K:Value->World->Prop}
theorem OM{a:Option Addr}{l c:Nat}{xs:List Int}{v:Value}{p:Int->Bool}{S:Nat->Prop}(hl:xs.length=l)(h63:l<=9223372036854775806)(hr:BG w a (iL xs))(ht:OO v w S p xs)
  (hk:∀ w',Ab No w w'->K (Yn (Gk p xs 0)) w'):A7 Yt BE #[.slice a l c,v] w K:=by
 apply JT;unfold ED;refine⟨fun x w1=>∃ i:Nat,i<=l/\x=[Yn i]/\Ab No w w1/\Gk p xs 0=Gk p (xs.drop i) i,fun x _=>(l-nI x 0).toNat,⟨0,by omega,rfl,Ab.refl _ _,rfl⟩,?_⟩;rintro x w1 ⟨i,hi,rfl,hm,hidx⟩;refine⟨_,rfl,Aa (fun hb=>?_) (fun hb=>?_)⟩
 ·have hi:i<l:=by have:=Ld hb;omega
  have hix:i<xs.length:=by omega
  obtain⟨b,o,rfl,hat⟩:=KI hr hix;refine⟨_,A8 (k:=1) (by kernel_rfl) (by omega) (by omega),?_⟩;rw[Ae,show(i:Int).toNat*1=i by omega];refine⟨_,(hat.keep hm id).load (by kernel_rfl) (Kb hix),ht w1 (hm.mono fun _ _ h=>h.elim) _ (Lm2 hix) _ fun w2 m2=>⟨_,rfl,Aa (fun hp=>?_) (fun hp=>?_)⟩⟩
  ·have e:Gk p xs 0=i:=by rw[hidx,He hix];simp only[Gk];rw[if_pos hp]
   rw[<- e];exact hk w2 (hm.no m2)
  ·rw[Ag (x:=(i:Int)+1) (by omega) (by omega)];refine⟨⟨i+1,by omega,rfl,hm.no m2,?_⟩,by simp[nI,A2];omega⟩;rw[hidx,He hix];simp only[Gk];rw[if_neg (by rw[hp];simp)]
 ·have hil:i=l:=by have:=Lc hb;omega
  have e:Gk p xs 0=-1:=by rw[hidx,Ls (by omega)];rfl
  rw[<- e];exact hk w1 hm
theorem XI{a:Option Addr}{l c:Nat}{xs:List Int}{v:Value}{p:Int->Bool}{S:Nat->Prop}(hl:xs.length=l)(h63:l<=9223372036854775806)(hr:BG w a (iL xs))(ht:OO v w S p xs)
  (hk:∀ w',Ab No w w'->K (.bool (xs.any p)) w'):A7 Yt BX #[.slice a l c,v] w K:=by
 apply HY;refine OM hl h63 hr ht fun w' m=>⟨_,rfl,?_⟩;have e:decide (Gk p xs 0 >= 0)=xs.any p:=by
  rcases GG p xs 0 with ⟨h1,h2⟩|⟨j,x,h1,h2,h3,_⟩
  ·rw[h1]
   symm
   rw[show decide ((-1:Int) >= 0)=false from rfl,Lr4];intro x hx;rw[h2 x hx];simp
  ·rw[h1,Li (by omega)]
   symm
   exact Lj3.2 ⟨x,XN h2,h3⟩
 rw[e];exact hk w' m
def B3(b:List UInt8)(i:Nat)(ys:List UInt8):List UInt8:=b.take i++ys++b.drop (i+ys.length)
theorem KF{b ys:List UInt8}{i:Nat}(h:i+ys.length<=b.length):(B3 b i ys).length=b.length:=by unfold B3;simp;omega
theorem pY{a0 a2:Option Addr}{l0 c0 l2 c2 i:Nat}{b ys:List UInt8}(hb:b.length=l0)(hy:ys.length=l2)(hin:i+l2<=l0)(h63:l0<=1048576)(hl0:0<l0)(h0:BG w a0 (A6 b))(h2:BG w a2 (A6 ys))
  (hk:∀ w',Ab No w w'->Av w' w.heap.size 0 (A6 (B3 b i ys))->K (.tuple #[.slice (some ⟨w.heap.size,0,none⟩) l0 l0,Yn 0]) w'):A7 Yt NF #[.slice a0 l0 c0,Yn i,.slice a2 l2 c2] w K:=by
 apply kY;unfold W5;have hwi:∀{K:Value->World->Prop},K (.bool true) w->A7 Yt L0 #[.slice a0 l0 c0,Yn i,Yn ((l2:Nat):Int)] w K:=fun hk=>by
  apply XF;refine Ad.dup (tt (Li (by omega)) (tt (Li (by omega)) (tt (Li (by omega)) ⟨_,rfl,?_⟩)));rw[Ag (x:=(l0:Int)-i) (by omega) (by omega),Li (by omega)];exact hk
 refine hwi ⟨_,rfl,ff rfl ?_⟩;obtain⟨w1,hm1,hat1,hmod1,hsz1⟩:=DK (P:=Yt) (w:=w) (n:=l0) CF (by omega) (by omega) (by omega);obtain⟨w2,hc1,hc2,hc3,hc4⟩:=ZI (P:=Yt) (T:=57) (T2:=57) (ty:=3) (k:=1) (n:=l0) (c:=l0) (n2:=l0) (c2:=c0) (a2:=a0) (src:=A6 b) (by kernel_rfl) hat1 (by rw[Lw]) (h0.nos hmod1) (by rw[Ai,hb];omega) (Cu b)
 have e1:A9 (List.replicate (l0*1) (Value.int .u8 0)) 0 ((A6 b).take (Nat.min l0 l0*1))=A6 b:=by
  have:(A6 b).take (Nat.min l0 l0*1)=A6 b:=Lf (by rw[Ai,hb,Lk4];exact pG (Nat.min_self l0).symm);rw[this];exact VE (by rw[Ai,hb,Lw];omega)
 rw[e1]at hc2;have M2:Ab No w w2:=hmod1.trans hc3 fun x hx e=>by omega
 have h2':=h2.nos M2;refine⟨_,_,_,w1,hm1,_,w2,hc1,_,_,_,Gq (k:=1) (by kernel_rfl) (by omega) (by omega),?_⟩;rw[Lz];by_cases hil:i=l0
 ·have hy0:ys=[]:=iA (by omega);have hl20:l2=0:=by omega
  subst hy0;have hcut:CL (some ⟨w.heap.size,0,none⟩) l0 i 1=some ⟨w.heap.size,0,none⟩:=by unfold CL;rw[if_pos hil.symm]
  rw[hcut];obtain⟨w3,hd1,hd2,hd3,hd4⟩:=GP (P:=Yt) (T:=57) (T2:=57) (ty:=3) (k:=1) (i:=0) (n:=l0-i) (c:=l0-i) (n2:=l2) (c2:=c2) (a2:=a2) (src:=A6 []) (by kernel_rfl) hc2 (by simp;omega) h2' (by simp[hl20]) (Cu []);refine⟨_,w3,hd1,hk w3 (M2.trans hd3 fun x hx e=>by omega) ?_⟩;have e2:A9 (A6 b) 0 ((A6 []).take (Nat.min l2 (l0-i)*1))=A6 (B3 b i []):=by simp[A9,A6,B3]
  rw[e2]at hd2;exact hd2
 ·have hcut:CL (some ⟨w.heap.size,0,none⟩) l0 i 1=some ⟨w.heap.size,0+i,none⟩:=by
   unfold CL;rw[if_neg (by omega)];simp[Ae]
  rw[hcut];obtain⟨w3,hd1,hd2,hd3,hd4⟩:=GP (P:=Yt) (T:=57) (T2:=57) (ty:=3) (k:=1) (i:=i) (n:=l0-i) (c:=l0-i) (n2:=l2) (c2:=c2) (a2:=a2) (src:=A6 ys) (by kernel_rfl) hc2 (by simp[hb];omega) h2' (by simp[hy]) (Cu ys);refine⟨_,w3,hd1,hk w3 (M2.trans hd3 fun x hx e=>by omega) ?_⟩;have e2:A9 (A6 b) i ((A6 ys).take (Nat.min l2 (l0-i)*1))=A6 (B3 b i ys):=by
   have:(A6 ys).take (Nat.min l2 (l0-i)*1)=A6 ys:=Lf (by rw[Ai,hy,Lk4];exact pG (Lw2 (by omega)).symm);rw[this,LM];rfl
  rw[e2]at hd2;exact hd2
end
end Go.Z
open Go Go.Den Go.Proofs
namespace Go.Z
structure Ch where
 id:Nat
 b:Nat
 frm:Nat
 data:List UInt8
 after:List Int
 out:Bool
structure On where
 b:Nat
 base:Bk
 l:List Ch
structure Ps where
 C:Ca
 last:Nat
 ons:List On
def Ps.all(P:Ps):List Ch:=P.ons.flatMap (·.l)
def Ps.opn(P:Ps)(id:Int):Bool:=P.all.any fun c=>(c.id:Int)==id
def AbA(c o:Ch):Bool:=decide (c.frm<o.frm+o.data.length)&&decide (o.frm<c.frm+c.data.length)
def xE(op:Int->Bool)(pre:List Ch)(ok:List Int)(c:Ch):Bool:=(c.after.any fun id=>op id&&!(ok.contains id)) || (pre.any fun x=>AbA x c&&!(ok.contains (x.id:Int)))
def PQ(op:Int->Bool)(l:List Ch):Nat->List Int
 | 0=>[]
 | n+1=>match l[n]? with
  | some c=>if xE op (l.take n) (PQ op l n) c=true then PQ op l n else PQ op l n++[(c.id:Int)]
  | none=>PQ op l n
def nH(op:Int->Bool)(l:List Ch):List Int:=PQ op l l.length
def Hr(base:Bk)(l:List Ch):Bk:=l.foldl (fun b c=>B3 b c.frm c.data) base
structure Mb(P:Ps):Prop where
 full:P.C.D.vs.length<=P.C.most
 onsN:(P.ons.map (·.b)).Nodup
 onlt:∀ o∈P.ons,o.b<P.C.D.vs.length
 base:∀ o∈P.ons,o.base.length=256
 llen:∀ o∈P.ons,o.l.length<=P.last
 ids:(P.all.map (·.id)).Nodup
 idr:∀ x∈P.all,1<=x.id/\x.id<=P.last
 chb:∀ o∈P.ons,∀ x∈o.l,x.b=o.b
 dat:∀ x∈P.all,1<=x.data.length/\x.frm+x.data.length<=256
 aft:∀ x∈P.all,x.after.length<=1000000
 last:P.last<=1000000
def Cls(l:List Ch):Prop:=l.Pairwise fun x y=>y.out=true->AbA x y=true->x.out=true
structure iH(P:Ps):Prop where
 lne:∀ o∈P.ons,o.l≠[]
 pin:∀ o∈P.ons,∃ x∈P.C.l,x.b=o.b/\x.pins=1/\x.data=Hr o.base o.l
 unp:∀ x∈P.C.l,(∀ o∈P.ons,o.b≠x.b)->x.pins=0/\x.data=Gt P.C.D x.b
 run:P.C.D.left=-1
 acc:∀ o∈P.ons,Gt P.C.D o.b=Hr o.base (o.l.filter (·.out))
 may:∀ o∈P.ons,∀ x∈o.l,x.out=true->(x.id:Int)∈nH P.opn o.l
 cls:∀ o∈P.ons,Cls o.l
 afl:∀ x∈P.all,∀ k∈x.after,k<(x.id:Int)
theorem Yu{P:Ps}{x:Ch}:x∈P.all↔∃ o∈P.ons,x∈o.l:=by unfold Ps.all;rw[List.mem_flatMap]
def Zm(w:World)(rl:Nat->Nat)(q:Nat)(x:Ch):Prop :=
 ∃ gd cd aa ca,Av w q 0 [Yn x.id,Yn x.b,Yn x.frm,.slice (some ⟨gd,0,none⟩) x.data.length cd,.slice aa x.after.length ca,.bool x.out]/\At w gd 0 (A6 x.data)/\rl gd=5/\BG w aa (iL x.after)/\∀ q,aa=some q->rl q.block=5
def Zt(w0 w:World)(rl:Nat->Nat)(ca:Nat->Nat)(q:Nat)(o:On):Prop :=
 ∃ g cc la lc,Av w q 0 [.slice (some ⟨g,0,none⟩) 256 cc,.slice la o.l.length lc]/\At w g 0 (A6 o.base)/\rl g=5/\Ow Yt w w0.heap.size 268 1 la o.l.length lc (pL (o.l.map fun x=>ca x.id))/\∀ q,la=some q->rl q.block=9+3*o.b
structure Ht(w0:World)(R:Nat->Prop)(rl:Nat->Nat)(w:World)(sp c d mo mm:Nat)(ca oa:Nat->Nat)(Lo Lm:List (Int×Value))(P:Ps):Prop where
 cx:Cx w0 (fun x=>rl x=1) w c d P.C
 cell:Av w sp 0 [Yo c,Yn P.C.D.vs.length,Yn P.last,.map (some mo),.map (some mm)]
 mapO:AU w mo Lo
 mapM:AU w mm Lm
 rsp:rl sp=2
 rmo:rl mo=3
 rmm:rl mm=4
 chs:∀ x∈P.all,Ay Lo x.id=some (pV (ca x.id))/\rl (ca x.id)=10+3*x.id/\Zm w rl (ca x.id) x
 ons:∀ o∈P.ons,Ay Lm o.b=some (pV (oa o.b))/\rl (oa o.b)=8+3*o.b/\Zt w0 w rl ca (oa o.b) o
 keysO:∀ p∈Lo,∃ x∈P.all,p.1=(x.id:Int)
 keysM:∀ p∈Lm,∃ o∈P.ons,p.1=(o.b:Int)
 wf:Mb P
 reg:∀ x,rl x≠0->R x
 lo:∀ x,R x->w0.heap.size<=x/\x<w.heap.size
 mod:Ab No w0 w
section
variable{w0 w w':World}{R:Nat->Prop}{rl:Nat->Nat}{sp c d mo mm:Nat}{ca oa:Nat->Nat}{Lo Lm:List (Int×Value)}{P:Ps}
theorem Zm.keep{S:Nat->Prop}{q:Nat}{x:Ch}(h:Zm w rl q x)(k:Ab S w w')(hq:¬ S q)(h5:∀ z,rl z=5->¬ S z):Zm w' rl q x:=by
 obtain⟨gd,cd,aa,ca,h1,h2,h3,h4,h6⟩:=h;exact⟨gd,cd,aa,ca,h1.keep k hq,h2.keep k (h5 _ h3),h3,h4.keep k fun q hq=>h5 _ (h6 q hq),h6⟩
theorem Zm.role{rl':Nat->Nat}{q:Nat}{x:Ch}(h:Zm w rl q x)(hr:∀ z,rl z=5->rl' z=5):Zm w rl' q x:=by
 obtain⟨gd,cd,aa,ca,h1,h2,h3,h4,h6⟩:=h;exact⟨gd,cd,aa,ca,h1,h2,hr _ h3,h4,fun q hq=>hr _ (h6 q hq)⟩
theorem Zt.keep{S:Nat->Prop}{q:Nat}{o:On}(h:Zt w0 w rl ca q o)(k:Ab S w w')(hq:¬ S q)(h5:∀ z,rl z=5->¬ S z)(h9:∀ z,rl z=9+3*o.b->¬ S z):Zt w0 w' rl ca q o:=by
 obtain⟨g,cc,la,lc,h1,h2,h3,h4,h6⟩:=h;exact⟨g,cc,la,lc,h1.keep k hq,h2.keep k (h5 _ h3),h3,h4.keep k fun q hq=>h9 _ (h6 q hq),h6⟩
theorem Zt.role{rl':Nat->Nat}{ca':Nat->Nat}{q:Nat}{o:On}(h:Zt w0 w rl ca q o)(hr:∀ z,rl z≠0->rl' z=rl z)(hc:∀ x∈o.l,ca' x.id=ca x.id):Zt w0 w rl' ca' q o:=by
 obtain⟨g,cc,la,lc,h1,h2,h3,h4,h6⟩:=h;refine⟨g,cc,la,lc,h1,h2,by rw[hr g (by omega)];exact h3,?_,fun q hq=>by rw[hr q.block (by rw[h6 q hq];omega)];exact h6 q hq⟩;have e:(o.l.map fun x=>ca' x.id)=o.l.map fun x=>ca x.id:=Ln3 hc;rw[e];exact h4
theorem Ht.keepS{S:Nat->Prop}(h:Ht w0 R rl w sp c d mo mm ca oa Lo Lm P)(k:Ab S w w')(hsr:∀ x,R x->¬ S x)(hw:∀ x,x<w0.heap.size->¬ S x):Ht w0 R rl w' sp c d mo mm ca oa Lo Lm P:=by
 have hr:∀{x},rl x≠0->¬ S x:=fun hx=>hsr _ (h.reg _ hx)
 exact {
  cx:=h.cx.keep k (fun x hx=>hr (by have e:rl x=1:=hx;omega)) hw
  cell:=h.cell.keep k (hr (by rw[h.rsp];omega))
  mapO:=h.mapO.keep k (hr (by rw[h.rmo];omega))
  mapM:=h.mapM.keep k (hr (by rw[h.rmm];omega))
  rsp:=h.rsp
  rmo:=h.rmo
  rmm:=h.rmm
  chs:=fun x hx=>by
   obtain⟨h1,h2,h3⟩:=h.chs x hx;exact⟨h1,h2,h3.keep k (hr (by omega)) fun z hz=>hr (by omega)⟩
  ons:=fun o ho=>by
   obtain⟨h1,h2,h3⟩:=h.ons o ho;exact⟨h1,h2,h3.keep k (hr (by omega)) (fun z hz=>hr (by omega)) fun z hz=>hr (by omega)⟩
  keysO:=h.keysO
  keysM:=h.keysM
  wf:=h.wf
  reg:=h.reg
  lo:=fun x hx=>by have:=h.lo x hx;have:=k.size;omega
  mod:=h.mod.trans k fun x hx e=>absurd e (hw x hx) }
theorem Ht.nos(h:Ht w0 R rl w sp c d mo mm ca oa Lo Lm P)(k:Ab No w w'):Ht w0 R rl w' sp c d mo mm ca oa Lo Lm P:=h.keepS k (fun _ _=>id) fun _ _=>id
theorem Ht.widen{R':Nat->Prop}(h:Ht w0 R rl w sp c d mo mm ca oa Lo Lm P)(h1:∀ x,R x->R' x)(h2:∀ x,R' x->w0.heap.size<=x/\x<w.heap.size):Ht w0 R' rl w sp c d mo mm ca oa Lo Lm P :=
 { h with reg:=fun x hx=>h1 x (h.reg x hx),lo:=h2 }
theorem Ht.gro(h:Ht w0 R rl w sp c d mo mm ca oa Lo Lm P)(k:Ab No w w'):Ht w0 (D9 R w w') rl w' sp c d mo mm ca oa Lo Lm P :=
 (h.nos k).widen (fun x hx=>.inl hx) fun x hx=>by
  have:=k.size
  have:=h.mod.size
  rcases hx with hx|hx
  ·have:=h.lo x hx;omega
  ·omega
theorem Ht.out_of{x:Nat}(h:Ht w0 R rl w sp c d mo mm ca oa Lo Lm P)(hx:w.heap.size<=x):rl x=0:=by
 by_cases e:rl x=0
 ·exact e
 ·have:=h.lo x (h.reg x e);omega
theorem Ht.cache{w1:World}{C':Ca}(h:Ht w0 R rl w sp c d mo mm ca oa Lo Lm P)(m1:Ab (fun x=>rl x=1) w w1)(m2:Ab No w1 w')(hc:Cx w0 (D9 (fun x=>rl x=1) w w1) w' c d C')(hD:C'.D.vs.length=P.C.D.vs.length)(hm:C'.most=P.C.most) :
  ∃ rl',Ht w0 (D9 R w w1) rl' w' sp c d mo mm ca oa Lo Lm { P with C:=C' }/\(∀ x,rl x≠0->rl' x=rl x):=by
 have hold:∀ x,rl x≠0->x<w.heap.size:=fun x hx=>(h.lo x (h.reg x hx)).2;have hz1:=m1.size;have hz2:=m2.size;have hw0:=h.mod.size;have hsame:∀ x,rl x≠0->(if w.heap.size<=x/\x<w1.heap.size then 1 else rl x)=rl x:=by
  intro x hx;rw[if_neg (by have:=hold x hx;omega)]
 have k:Ab (fun x=>rl x=1) w w':=m1.no m2;have n1:∀{x},rl x≠0->rl x≠1->¬ (rl x=1):=fun _ h=>h;refine⟨fun x=>if w.heap.size<=x/\x<w1.heap.size then 1 else rl x,?_,hsame⟩
 exact {
  cx:=by
   have e:(fun x=>(if w.heap.size<=x/\x<w1.heap.size then 1 else rl x)=1)=D9 (fun x=>rl x=1) w w1:=by
    funext x;unfold D9;apply propext;constructor
    ·intro e
     split at e
     ·rename_i hn;exact .inr hn
     ·exact .inl e
    ·rintro(e|e)
     ·rw[hsame x (by omega)];exact e
     ·rw[if_pos e]
   rw[e];exact hc
  cell:=by
   have:=h.cell.keep k (by rw[h.rsp];omega)
   show Av w' sp 0 [_,Yn C'.D.vs.length,_,_,_];rw[hD];exact this
  mapO:=h.mapO.keep k (by rw[h.rmo];omega)
  mapM:=h.mapM.keep k (by rw[h.rmm];omega)
  rsp:=by show(if _ then 1 else rl sp)=2;rw[hsame sp (by rw[h.rsp];omega)];exact h.rsp
  rmo:=by show(if _ then 1 else rl mo)=3;rw[hsame mo (by rw[h.rmo];omega)];exact h.rmo
  rmm:=by show(if _ then 1 else rl mm)=4;rw[hsame mm (by rw[h.rmm];omega)];exact h.rmm
  chs:=fun x hx=>by
   obtain⟨h1,h2,h3⟩:=h.chs x hx;refine⟨h1,?_,(h3.keep k (by omega) fun z hz=>by omega).role fun z hz=>?_⟩
   ·show(if _ then 1 else rl (ca x.id))=_;rw[hsame _ (by omega)];exact h2
   ·show(if _ then 1 else rl z)=5;rw[hsame z (by omega)];exact hz
  ons:=fun o ho=>by
   obtain⟨h1,h2,h3⟩:=h.ons o ho;refine⟨h1,?_,(h3.keep k (by omega) (fun z hz=>by omega) fun z hz=>by omega).role hsame fun _ _=>rfl⟩;show(if _ then 1 else rl (oa o.b))=_;rw[hsame _ (by omega)];exact h2
  keysO:=h.keysO
  keysM:=h.keysM
  wf:={ full:=(by show C'.D.vs.length<=C'.most;rw[hD,hm];exact h.wf.full),onsN:=h.wf.onsN,onlt:=(fun o ho=>by show o.b<C'.D.vs.length;rw[hD];exact h.wf.onlt o ho),base:=h.wf.base,llen:=h.wf.llen,ids:=h.wf.ids,idr:=h.wf.idr,chb:=h.wf.chb,dat:=h.wf.dat,aft:=h.wf.aft,last:=h.wf.last }
  reg:=fun x hx=>by
   by_cases hn:w.heap.size<=x/\x<w1.heap.size
   ·exact .inr hn
   ·simp only[if_neg hn]at hx;exact .inl (h.reg x hx)
  lo:=fun x hx=>by
   rcases hx with hx|hx
   ·have:=h.lo x hx;omega
   ·omega
  mod:=h.mod.trans k fun x hx e=>by
   have:=h.lo x (h.reg x (by omega))
   omega }
theorem Ht.step{S:Nat->Prop}{rl' ca' oa':Nat->Nat}{Lo' Lm':List (Int×Value)}{P':Ps}(h:Ht w0 R rl w sp c d mo mm ca oa Lo Lm P)(hC:P'.C=P.C)(k:Ab S w w')(hx:VT w w' rl rl')(hx1:∀ x,rl' x=1->rl x=1)
  (hS:∀ x,x<w.heap.size->S x->rl x≠0/\rl x≠1/\rl x≠5)
  (hcell:Av w' sp 0 [Yo c,Yn P.C.D.vs.length,Yn P'.last,.map (some mo),.map (some mm)]) (hO:AU w' mo Lo') (hM:AU w' mm Lm')
  (hch:∀ x∈P'.all,(x∈P.all/\Ay Lo' x.id=Ay Lo x.id/\ca' x.id=ca x.id/\∀ q,S q->rl q≠10+3*x.id)\/(Ay Lo' x.id=some (pV (ca' x.id))/\rl' (ca' x.id)=10+3*x.id/\Zm w' rl' (ca' x.id) x))
  (hon:∀ o∈P'.ons,(o∈P.ons/\Ay Lm' o.b=Ay Lm o.b/\oa' o.b=oa o.b/\(∀ x∈o.l,ca' x.id=ca x.id)/\∀ q,S q->rl q≠8+3*o.b/\rl q≠9+3*o.b)\/(Ay Lm' o.b=some (pV (oa' o.b))/\rl' (oa' o.b)=8+3*o.b/\Zt w0 w' rl' ca' (oa' o.b) o))
  (hkO:∀ p∈Lo',∃ x∈P'.all,p.1=(x.id:Int)) (hkM:∀ p∈Lm',∃ o∈P'.ons,p.1=(o.b:Int)) (hwf:Mb P') :
  Ht w0 (D9 R w w') rl' w' sp c d mo mm ca' oa' Lo' Lm' P' where
 cx:=by
  have e:(fun x=>rl' x=1)=fun x=>rl x=1:=by
   funext x;exact propext ⟨hx1 x,fun e=>by rw[hx.old x (by omega)];exact e⟩
  rw[e,hC];refine h.cx.keep k (fun x hx' e=>?_) fun x hx' e=>?_
  ·have e1:rl x=1:=hx'
   have:=hS x (h.lo x (h.reg x (by omega))).2 e
   omega
  ·have:=h.mod.size
   have:=hS x (by omega) e
   have:=h.lo x (h.reg x (by omega))
   omega
 cell:=by rw[hC];exact hcell
 mapO:=hO
 mapM:=hM
 rsp:=by rw[hx.old sp (by rw[h.rsp];omega)];exact h.rsp
 rmo:=by rw[hx.old mo (by rw[h.rmo];omega)];exact h.rmo
 rmm:=by rw[hx.old mm (by rw[h.rmm];omega)];exact h.rmm
 chs:=fun x hx'=>by
  rcases hch x hx' with ⟨e1,e2,e3,e4⟩|hn
  ·obtain⟨h1,h2,h3⟩:=h.chs x e1;rw[e3];refine⟨e2.trans h1,by rw[hx.old _ (by omega)];exact h2,(h3.keep k (fun e=>e4 _ e h2) fun z hz e=>?_).role fun z hz=>by rw[hx.old z (by omega)];exact hz⟩
   have:=hS z (h.lo z (h.reg z (by omega))).2 e
   omega
  ·exact hn
 ons:=fun o ho=>by
  rcases hon o ho with ⟨e1,e2,e3,e4,e5⟩|hn
  ·obtain⟨h1,h2,h3⟩:=h.ons o e1;rw[e3];refine⟨e2.trans h1,by rw[hx.old _ (by omega)];exact h2,(h3.keep k (fun e=>(e5 _ e).1 h2) (fun z hz e=>?_) fun z hz e=>(e5 _ e).2 hz).role hx.old e4⟩
   have:=hS z (h.lo z (h.reg z (by omega))).2 e
   omega
  ·exact hn
 keysO:=hkO
 keysM:=hkM
 wf:=hwf
 reg:=fun x hn=>by
  by_cases e:rl x=0
  ·exact .inr (hx.new x e hn)
  ·exact .inl (h.reg x e)
 lo:=fun x hx=>by
  have:=k.size
  have:=h.mod.size
  rcases hx with hx|hx
  ·have:=h.lo x hx;omega
  ·omega
 mod:=h.mod.trans k fun x hx e=>by
  have:=h.mod.size
  have:=hS x (by omega) e
  have:=h.lo x (h.reg x (by omega))
  omega
end
end Go.Z
open Go Go.Den Go.Proofs
namespace Go.Z
section
variable{w0 w w':World}{R:Nat->Prop}{rl:Nat->Nat}{sp c d mo mm:Nat}{ca oa:Nat->Nat}{Lo Lm:List (Int×Value)}{P:Ps}{K:Value->World->Prop}
theorem jQ:O6 Yt 235=some (.pointer none):=by kernel_rfl
theorem tJ:O6 Yt 236=some (.pointer none):=by kernel_rfl
theorem Ht.lc(h:Ht w0 R rl w sp c d mo mm ca oa Lo Lm P):Ru (Instr.loadAt 232 (.pointer (some (Addr.add ⟨sp,0,none⟩ 0)))) w (Yo c) w:=by
 rw[Ae];exact h.cell.at.load (by kernel_rfl) rfl
theorem Ht.llen'(h:Ht w0 R rl w sp c d mo mm ca oa Lo Lm P):Ru (Instr.loadAt 3 (.pointer (some (Addr.add ⟨sp,0,none⟩ 1)))) w (Yn P.C.D.vs.length) w:=by
 rw[Ae];exact h.cell.at.load (by kernel_rfl) rfl
theorem Ht.llast(h:Ht w0 R rl w sp c d mo mm ca oa Lo Lm P):Ru (Instr.loadAt 2 (.pointer (some (Addr.add ⟨sp,0,none⟩ 2)))) w (Yn P.last) w:=by
 rw[Ae];exact h.cell.at.load (by kernel_rfl) rfl
theorem Ht.lo'(h:Ht w0 R rl w sp c d mo mm ca oa Lo Lm P):Ru (Instr.loadAt 235 (.pointer (some (Addr.add ⟨sp,0,none⟩ 3)))) w (.map (some mo)) w:=by
 rw[Ae];exact h.cell.at.load (by kernel_rfl) rfl
theorem Ht.lm(h:Ht w0 R rl w sp c d mo mm ca oa Lo Lm P):Ru (Instr.loadAt 236 (.pointer (some (Addr.add ⟨sp,0,none⟩ 4)))) w (.map (some mm)) w:=by
 rw[Ae];exact h.cell.at.load (by kernel_rfl) rfl
theorem Ht.lookO(h:Ht w0 R rl w sp c d mo mm ca oa Lo Lm P)(n:Int):∃ p:Option Addr,Ru (Instr.lookup 235 (.map (some mo)) (Yn n) false) w (.pointer p) w/\p.isNone=!P.opn n/\∀ x∈P.all,(x.id:Int)=n->p=some ⟨ca x.id,0,none⟩:=by
 have hl:=D7 (P:=Yt) jQ h.mapO (k:=n);cases hL:Ay Lo n with
 | none =>
  rw[hL]at hl;have hno:∀ x∈P.all,(x.id:Int)≠n:=fun x hx e=>by
   have:=(h.chs x hx).1
   rw[e,hL]at this;cases this
  refine⟨none,hl,?_,fun x hx e=>absurd e (hno x hx)⟩;have:P.opn n=false:=by
   unfold Ps.opn;rw[Lr4];intro x hx;simpa using hno x hx
  rw[this];rfl
 | some v =>
  rw[hL]at hl;obtain⟨x,hx,e⟩:=h.keysO _ (KE hL);have e2:n=(x.id:Int):=e;have h1:=(h.chs x hx).1;rw[<- e2,hL]at h1
  have:=Lk h1
  subst this;have ho:P.opn n=true:=by
   unfold Ps.opn;rw[Lj3];exact⟨x,hx,by simp[e2]⟩
  refine⟨some ⟨ca x.id,0,none⟩,hl,by rw[ho];rfl,fun y hy ey=>?_⟩;have h2:=(h.chs y hy).1;rw[ey,hL]at h2
  have:=Lk h2
  simp[pV]at this;rw[this]
def CK(P:Ps)(n:Int):Option On:=P.ons.find? fun o=>(o.b:Int)==n
theorem GK{P:Ps}{n:Int}{o:On}(h:CK P n=some o):o∈P.ons/\n=(o.b:Int):=by
 unfold CK at h;refine⟨Lq2 h,?_⟩
 have:=Lz4 h
 simp at this;exact this.symm
theorem GJ{P:Ps}{n:Int}(h:CK P n=none):∀ o∈P.ons,(o.b:Int)≠n:=by
 unfold CK at h;intro o ho
 have:=List.find?_eq_none.1 h o ho
 simpa using this
theorem Ht.lookM(h:Ht w0 R rl w sp c d mo mm ca oa Lo Lm P)(n:Int):Ru (Instr.lookup 236 (.map (some mm)) (Yn n) false) w (.pointer ((CK P n).map fun o=>⟨oa o.b,0,none⟩)) w:=by
 have hl:=D7 (P:=Yt) tJ h.mapM (k:=n);cases ho:CK P n with
 | none =>
  have hL:Ay Lm n=none:=by
   cases hL:Ay Lm n with
   | none=>rfl
   | some v =>
    obtain⟨o,ho',e⟩:=h.keysM _ (KE hL);exact absurd (show(o.b:Int)=n from e.symm) (GJ ho o ho')
  rw[hL]at hl;exact hl
 | some o =>
  obtain⟨h1,rfl⟩:=GK ho;rw[(h.ons o h1).1]at hl;exact hl
theorem jD(h:Ht w0 R rl w sp c d mo mm ca oa Lo Lm P){n:Int}(hk:K (.bool (decide (1<=n/\n<=P.last))) w):A7 Yt CP #[Yo sp,Yn n] w K:=by
 apply Ov;unfold HP;refine Ad.cut (fun x w'=>x=[.bool (decide (1<=n/\n<=P.last))]/\w'=w) (Aa (fun hb=>?_) (fun hb=>?_)) ?_
 ·have:=Ld hb
  refine⟨_,rfl,_,h.llast,?_,rfl⟩
  congr 2;rw[RH];simp only[RV];omega
 ·have:=Lc hb
  refine⟨?_,rfl⟩
  congr 2;rw[RH];simp;omega
 ·rintro x w' ⟨rfl,rfl⟩;exact⟨_,rfl,hk⟩
end
end Go.Z
open Go Go.Den Go.Proofs
namespace Go.Z
theorem fK{P:Ps}{o:On}(ho:o∈P.ons){x:Ch}(hx:x∈o.l):x∈P.all:=Yu.2 ⟨o,ho,hx⟩
section
variable{w0 w w':World}{R:Nat->Prop}{rl:Nat->Nat}{sp c d mo mm:Nat}{ca oa:Nat->Nat}{Lo Lm:List (Int×Value)}{P:Ps}{K:Value->World->Prop}
theorem lR(w:World)(p:Option Addr):(Instr.box 128 (.pointer p)).run Yt w=.ok (Yo w.heap.size) (w.alloc (.cells ⟨[.pointer p]⟩ 128)):=rfl
end
end Go.Z
open Go Go.Den Go.Proofs
namespace Go.Z
theorem gO(base:Bk)(l:List Ch)(c:Ch):Hr base (l++[c])=B3 (Hr base l) c.frm c.data:=by unfold Hr;rw[Ly3];rfl
theorem oV{base:Bk}(hb:base.length=256):∀ l:List Ch,(∀ x∈l,x.frm+x.data.length<=256)->(Hr base l).length=256:=by
 intro l
 induction l generalizing base with
 | nil=>intro _;exact hb
 | cons c l ih =>
  intro h;have h2:=h c (by simp);exact ih (base:=B3 base c.frm c.data) (by rw[KF (by omega),hb]) fun x hx=>h x (by simp[hx])
section
variable{w0 w w':World}{R:Nat->Prop}{rl:Nat->Nat}{sp c d mo mm:Nat}{ca oa:Nat->Nat}{Lo Lm:List (Int×Value)}{P:Ps}{K:Value->World->Prop}
def Px(w0:World)(R:Nat->Prop)(w:World)(sp d:Nat)(P:Ps):Prop:=iH P/\∃ rl c mo mm ca oa Lo Lm,Ht w0 R rl w sp c d mo mm ca oa Lo Lm P
theorem Px.nos(h:Px w0 R w sp d P)(k:Ab No w w'):Px w0 R w' sp d P:=by
 obtain⟨hw,rl,c,mo,mm,ca,oa,Lo,Lm,h⟩:=h;exact⟨hw,rl,c,mo,mm,ca,oa,Lo,Lm,h.nos k⟩
theorem Px.gro(h:Px w0 R w sp d P)(k:Ab No w w'):Px w0 (D9 R w w') w' sp d P:=by
 obtain⟨hw,rl,c,mo,mm,ca,oa,Lo,Lm,h⟩:=h;exact⟨hw,rl,c,mo,mm,ca,oa,Lo,Lm,h.gro k⟩
theorem Px.wf(h:Px w0 R w sp d P):iH P/\Mb P/\OP P.C/\WF P.C.D/\Ab No w0 w/\(∀ x,R x->w0.heap.size<=x/\x<w.heap.size):=by
 obtain⟨hw,rl,c,mo,mm,ca,oa,Lo,Lm,h⟩:=h;exact⟨hw,h.wf,h.cx.wf.1,h.cx.wf.2.1,h.mod,h.lo⟩
def Sf(P:Ps)(b:Nat):Bk:=match DE P.C.l b with | some x=>x.data | none=>Gt P.C.D b
theorem Z0{C:Ca}{b:Nat}(h:OP C)(hf:C.D.vs.length<=C.most)(hb:b<C.D.vs.length):∃ C',L6 C b=some C':=by
 unfold L6;cases hx:DE C.l b with
 | some x=>exact⟨_,rfl⟩
 | none =>
  have hlt:C.l.length<C.most:=by
   have hno:=GB hx;have h1:(b::C.l.map (·.b)).Nodup:=by
    rw[pN];refine⟨fun hm=>?_,h.nodup⟩;obtain⟨x,hx',e⟩:=L2.1 hm;exact hno x hx' e
   have h2:=List.Nodup.length_le_of_subset h1 (l₂:=List.range C.D.vs.length) fun k hk=>by
    rw[W9];rcases Lv.1 hk with rfl | hk
    ·exact hb
    ·obtain⟨x,hx',rfl⟩:=L2.1 hk;exact h.lt x hx'
   simp at h2;omega
  have:Mj C=some C:=by unfold Mj;rw[if_pos hlt]
  rw[this];exact⟨_,rfl⟩
theorem iH.ask{C':Ca}{b:Nat}{l0:List Bf}{y:Bf}(h:iH P)(hs:Mb P)(hc:OP P.C)(A:pQ P.C C' b l0 y):iH { P with C:=C' } where
 lne:=h.lne
 pin:=fun o ho=>by
  obtain⟨x,hx,h1,h2,h3⟩:=h.pin o ho;exact⟨x,A.keep x hx (by simp[HU,h2]),h1,h2,h3⟩
 unp:=fun x hx hno=>by
  show x.pins=0/\x.data=Gt C'.D x.b;rw[A.D];rcases A.from_ x hx with hx' | ⟨rfl,_⟩
  ·exact h.unp x hx' hno
  ·exact⟨rfl,rfl⟩
 run:=by show C'.D.left=-1;rw[A.D];exact h.run
 acc:=fun o ho=>by show Gt C'.D o.b=_;rw[A.D];exact h.acc o ho
 may:=h.may
 cls:=h.cls
 afl:=h.afl
theorem ZG{C':Ca}{b:Nat}{l0:List Bf}{y:Bf}(h:iH P)(hc:OP P.C)(A:pQ P.C C' b l0 y)(n:Nat):Sf { P with C:=C' } n=Sf P n:=by
 unfold Sf;show(match DE C'.l n with | some x=>x.data | none=>Gt C'.D n)=_;rw[A.D];cases hf:DE C'.l n with
 | some x =>
  obtain⟨hx,hxb⟩:=Eh hf;rcases A.from_ x hx with hx'|⟨rfl,hno⟩
  ·have:=DJ hc.nodup hx'
   rw[hxb]at this;rw[this]
  ·have hxb:b=n:=hxb;subst hxb;rw[hno]
 | none =>
  cases hf2:DE P.C.l n with
  | none=>rfl
  | some x =>
   obtain⟨hx,hxb⟩:=Eh hf2;have hno:=GB hf;by_cases hi:HU P.C.D x=true
   ·have hcl:WE P.C.D x=true:=by unfold HU at hi;simp only[Lr]at hi;exact hi.2
    unfold WE at hcl
    have:=Ld hcl
    show Gt P.C.D n=x.data;rw[this,hxb]
   ·exact absurd hxb (hno x (A.keep x hx (by simpa using hi)))
set_option maxRecDepth 100000 in
theorem zK{n:Int}(hP:Px w0 R w sp d P)(hk0:AO P.C.D n≠0->∀ w',Ab No w w'->K (.tuple #[.slice none 0 0,Yn (AO P.C.D n)]) w')
  (hk:∀ b:Nat,n=b->b<P.C.D.vs.length->∀ w1 w' a cc C',Ab R w w1->Ab No w1 w'->Px w0 (D9 R w w1) w' sp d { P with C:=C' }->C'.D=P.C.D->C'.most=P.C.most->(∀ m,Sf { P with C:=C' } m=Sf P m)->Ow Yt w' w1.heap.size 57 1 a 256 cc (A6 (Sf P b))->K (.tuple #[.slice a 256 cc,Yn 0]) w') :
  A7 Yt Bd #[Yo sp,Yn n] w K:=by
 obtain⟨hw,rl,c,mo,mm,ca,oa,Lo,Lm,h⟩:=hP;apply Pu;unfold I8;have hcw:=h.cx.wf;by_cases he:AO P.C.D n=0
 ·obtain⟨b,rfl,hb⟩:=NR he;obtain⟨C',ha⟩:=Z0 hcw.1 h.wf.full hb;obtain⟨l0,y,A⟩:=RY hcw.1 hcw.2.1 hb ha;have hr0:Y7 P.C b=(C',0,Gv C'.l):=by unfold Y7;rw[if_neg (by omega),Lz,ha]
  have hyl:y∈C'.l:=by rw[A.l];simp
  have hld:Gv C'.l=Sf P b:=by
   have h1:Gv C'.l=y.data:=by unfold Gv;rw[A.l];simp
   have h2:=ZG hw hcw.1 A b;unfold Sf at h2;have h3:=DJ A.wf.nodup hyl;rw[A.yb]at h3;have h4:(match DE C'.l b with | some x=>x.data | none=>Gt C'.D b)=Sf P b:=h2;rw[h3]at h4;rw[h1];exact h4
  have hlen:(Gv C'.l).length=256:=by
   have h1:Gv C'.l=y.data:=by unfold Gv;rw[A.l];simp
   rw[h1];exact A.wf.data y hyl
  refine ff rfl ⟨_,rfl,_,h.lc,iP h.cx fun w1 w2 a2 c2 m1 m2 x2 o2=>?_⟩;simp only[hr0,hlen]at x2 o2 |-;obtain⟨rl',h',_⟩:=h.cache m1 m2 x2 (by rw[A.D]) A.most;refine⟨_,_,_,_,rfl,?_⟩;rw[hld]at o2;exact hk b rfl hb w1 w2 a2 c2 C' (m1.mono fun z _ e=>h.reg z (by have e1:rl z=1:=e;omega)) m2 ⟨hw.ask h.wf hcw.1 A,rl',c,mo,mm,ca,oa,Lo,Lm,h'⟩ A.D A.most (ZG hw hcw.1 A) o2
 ·have hr0:Y7 P.C n=(P.C,AO P.C.D n,[]):=by unfold Y7;rw[if_pos he]
  refine ff rfl ⟨_,rfl,_,h.lc,?_⟩;obtain⟨rl3,m3,sb3,mb3,sc3,lc3,la3,L3,mp3,h3⟩:=h.cx;apply Ij;refine eG (xs:=[]) h3 rfl (by omega) (.inl rfl) ⟨_,rfl,?_⟩;have hm:Sw P.C.D n 0 []=AO P.C.D n:=by unfold Sw;rw[if_pos he]
  rw[hm];exact tt (by simpa using he) ⟨_,_,_,_,rfl,hk0 he w (Ab.refl _ _)⟩
end
end Go.Z
open Go Go.Den Go.Proofs
namespace Go.Z
theorem dO{op op':Int->Bool}{pre:List Ch}{ok:List Int}{c:Ch}(h:∀ k∈c.after,op k=op' k):xE op pre ok c=xE op' pre ok c:=by
 unfold xE
 congr 1
 rw[RH,Lj3,Lj3];constructor
 ·rintro⟨k,hk,e⟩;exact⟨k,hk,by rw[<- h k hk];exact e⟩
 ·rintro⟨k,hk,e⟩;exact⟨k,hk,by rw[h k hk];exact e⟩
theorem Vr{op op':Int->Bool}{l:List Ch}(h:∀ x∈l,∀ k∈x.after,op k=op' k):∀ n,PQ op l n=PQ op' l n
 | 0=>rfl
 | n+1=>by
  have ih:=Vr h n;unfold PQ;cases hx:l[n]? with
  | none=>exact ih
  | some c =>
   simp only;rw[ih,dO (h c (XN hx))]
theorem Vq{op op':Int->Bool}{l:List Ch}(h:∀ x∈l,∀ k∈x.after,op k=op' k):nH op l=nH op' l:=Vr h _
theorem Tp{op:Int->Bool}{l r:List Ch}:∀ n,n<=l.length->PQ op (l++r) n=PQ op l n
 | 0,_=>rfl
 | n+1,h=>by
  have ih:=Tp (op:=op) (l:=l) (r:=r) n (by omega);unfold PQ;rw[Lc2 (by omega),Lu (by omega),ih]
theorem nJ{op : Int → Bool}{l : List Ch}{k : Int} : ∀{n m : Nat}, n ≤ m → k ∈ PQ op l n → k ∈ PQ op l m := by
  intro n m h hk
  induction m with
  | zero => have : n = 0 := by omega
            subst this;exact hk
  | succ m ih =>
    by_cases e : n = m + 1
    · subst e;exact hk
    · have hm := ih (by omega)
      unfold PQ;split
      · split
        · exact hm
        · exact Ln.2 (.inl hm)
      · exact hm
end Go.Z
open Go Go.Den Go.Proofs
namespace Go.Z
def A3(V:Ps)(b:Nat):Bk:=match CK V b with | some o=>Hr o.base o.l | none=>Gt V.C.D b
def Bt(V:Ps)(b:Nat):Ps:=match CK V b with | some _=>V | none=>{ V with ons:=V.ons++[⟨b,A3 V b,[]⟩] }
def Hb(V:Ps)(x:Ch):Ps:={ V with last:=x.id,ons:=V.ons.map fun o=>if o.b=x.b then { o with l:=o.l++[x] }else o }
def K5(V:Ps)(x:Ch):Ps:=Hb (Bt V x.b) x
def HC(V:Ps)(b frm:Nat)(data:Bk)(after:List Int):Ch:=⟨V.last+1,b,frm,data,after.filter V.opn,false⟩
def QP(V:Ps)(after:List Int):Bool:=after.any fun k=>!decide (1<=k/\k<=(V.last:Int))
def E0(V:Ps)(n frm:Int)(data:Bk)(after:List Int):Int :=
 if AO V.C.D n≠0 then 3 else if data.length=0\/frm<0\/256<frm\/256-frm<data.length then 4 else if QP V after=true then 1 else 0
def BF(V:Ps)(n frm:Int)(data:Bk)(after:List Int):Ps:=if E0 V n frm data after=0 then K5 V (HC V n.toNat frm.toNat data after)else V
def PS(V:Ps)(n frm:Int)(data:Bk)(after:List Int):Int:=if E0 V n frm data after=0 then(V.last+1:Nat)else 0
def AhM(V:Ps)(b:Nat):List Int:=match CK V b with | some o=>nH V.opn o.l | none=>[]
def AhG(V:Ps)(b:Nat):Bk:=match CK V b with | some o=>Hr o.base (o.l.filter fun x=>(nH V.opn o.l).contains (x.id:Int)) | none=>Gt V.C.D b
def AfD(V:Ps)(b:Nat)(x:Ch):Ch:=if x.b=b then { x with out:=x.out || (AhM V b).contains (x.id:Int) }else x
def AhL(V:Ps)(f:Ch->Ch):List On:=V.ons.map fun o=>{ o with l:=o.l.map f }
def AhS(V:Ps)(n:Int):Int:=if AO V.C.D n≠0 then 3 else if (CK V n).isNone=true then 20 else 0
def wrV(V:Ps)(n:Int):Ps:=if AhS V n=0 then { V with C:={ V.C with D:=DG V.C.D n (AhG V n.toNat) },ons:=AhL V (AfD V n.toNat) }else V
def AhB(o:On):Option On:=if (o.l.filter fun x=>!x.out).isEmpty=true then none else some { o with base:=Hr o.base (o.l.filter (·.out)),l:=o.l.filter fun x=>!x.out }
def flV(V:Ps):Ps:={ V with C:={ V.C with D:=K9 V.C.D },ons:=V.ons.filterMap AhB }
theorem zG{P:Ps}(h:Mb P){o o':On}(ho:o∈P.ons)(ho':o'∈P.ons)(e:o.b=o'.b):o=o':=LD h.onsN ho ho' e
theorem tU{P:Ps}(h:Mb P){o:On}(ho:o∈P.ons):CK P o.b=some o:=by
 cases hf:CK P o.b with
 | none=>exact absurd rfl (GJ hf o ho)
 | some o' =>
  obtain⟨h1,h2⟩:=GK hf;rw[zG h ho h1 (by omega)]
theorem Sg{P:Ps}(h:iH P)(hs:Mb P)(hc:OP P.C)(b:Nat):Sf P b=A3 P b:=by
 unfold Sf A3;cases ho:CK P b with
 | some o =>
  obtain⟨h1,h2⟩:=GK ho;obtain⟨x,hx,e1,e2,e3⟩:=h.pin o h1
  have:=DJ hc.nodup hx
  rw[show x.b=b by omega]at this;rw[this];exact e3
 | none =>
  cases hf:DE P.C.l b with
  | none=>rfl
  | some x =>
   obtain⟨hx,hb⟩:=Eh hf
   have:=(h.unp x hx fun o ho' e=>GJ ho o ho' (by omega)).2
   rw[hb]at this;exact this
theorem vC{l:List On}(hn:(l.map (·.b)).Nodup){o:On}(ho:o∈l)(f:On->On):∃ s t,l=s++o::t/\(l.map fun p=>if p.b=o.b then f p else p)=s++f o::t/\∀ p∈s++t,p.b≠o.b:=by
 obtain⟨s,t,rfl⟩:=List.append_of_mem ho;have hno:∀ p∈s++t,p.b≠o.b:=by
  intro p hp e;rw[pM,Zr]at hn;have h1:=Lg3.1 hn;have h2:=pN.1 h1.2.1;rcases Ln.1 hp with hp | hp
  ·exact h1.2.2 _ (L2.2 ⟨p,hp,rfl⟩) _ (by simp) e
  ·exact h2.1 (L2.2 ⟨p,hp,e⟩)
 have hid:∀ q:List On,(∀ p∈q,p.b≠o.b)->(q.map fun p=>if p.b=o.b then f p else p)=q:=by
  intro q hq
  conv=>rhs;rw[<- List.map_id q]
  apply Ln3;intro p hp;rw[if_neg (hq p hp)];rfl
 refine⟨s,t,rfl,?_,hno⟩;rw[pM,Zr,if_pos rfl,hid s fun p hp=>hno p (Ln.2 (.inl hp)),hid t fun p hp=>hno p (Ln.2 (.inr hp))]
theorem IK{V:Ps}{b:Nat}:(Bt V b).all=V.all:=by
 unfold Bt;split
 ·rfl
 ·unfold Ps.all;simp
theorem bB{V:Ps}{b:Nat}:(Bt V b).opn=V.opn:=by unfold Ps.opn;rw[IK]
theorem PR{V:Ps}{b:Nat}:(Bt V b).C=V.C/\(Bt V b).last=V.last:=by unfold Bt;split<;>exact⟨rfl,rfl⟩
theorem Yv{V:Ps}{b:Nat}:∃ o∈(Bt V b).ons,o.b=b:=by
 unfold Bt;split
 ·rename_i o ho;obtain⟨h1,h2⟩:=GK ho;exact⟨o,h1,by omega⟩
 ·exact⟨⟨b,A3 V b,[]⟩,by simp,rfl⟩
theorem Mb.newO{V:Ps}(h:Mb V){b:Nat}(hb:b<V.C.D.vs.length)(hl:(A3 V b).length=256):Mb (Bt V b):=by
 unfold Go.Z.Bt;cases ho:CK V b with
 | some o=>exact h
 | none =>
  have hno:=GJ ho;have hall:Ps.all { V with ons:=V.ons++[⟨b,A3 V b,[]⟩] }=V.all:=by unfold Ps.all;simp
  exact {
   full:=h.full
   onsN:=by
    rw[pM];refine Lg3.2 ⟨h.onsN,by simp,?_⟩;intro a ha c hc;simp at hc;subst hc;obtain⟨o,ho,rfl⟩:=L2.1 ha
    have:=hno o ho;omega
   onlt:=fun o ho=>by
    rcases Ln.1 ho with ho|ho
    ·exact h.onlt o ho
    ·simp at ho;subst ho;exact hb
   base:=fun o ho=>by
    rcases Ln.1 ho with ho|ho
    ·exact h.base o ho
    ·simp at ho;subst ho;exact hl
   llen:=fun o ho=>by
    rcases Ln.1 ho with ho|ho
    ·exact h.llen o ho
    ·simp at ho;subst ho;simp
   ids:=by rw[hall];exact h.ids
   idr:=by rw[hall];exact h.idr
   chb:=fun o ho=>by
    rcases Ln.1 ho with ho|ho
    ·exact h.chb o ho
    ·simp at ho;subst ho;intro x hx;cases hx
   dat:=by rw[hall];exact h.dat
   aft:=by rw[hall];exact h.aft
   last:=h.last }
theorem Mb.bump{V:Ps}(h:Mb V)(hl:V.last+1<=1000000):Mb { V with last:=V.last+1 } where
 full:=h.full
 onsN:=h.onsN
 onlt:=h.onlt
 base:=h.base
 llen:=fun o ho=>by have:=h.llen o ho;show o.l.length<=V.last+1;omega
 ids:=h.ids
 idr:=fun x hx=>by have:=h.idr x hx;show 1<=x.id/\x.id<=V.last+1;omega
 chb:=h.chb
 dat:=h.dat
 aft:=h.aft
 last:=hl
structure Fit(V:Ps)(x:Ch):Prop where
 id:x.id=V.last+1
 lt:x.b<V.C.D.vs.length
 dat:1<=x.data.length/\x.frm+x.data.length<=256
 aft:x.after.length<=1000000
 afl:∀ k∈x.after,k<(x.id:Int)
 out:x.out=false
theorem QN{V:Ps}(h:Mb V){x:Ch}{o:On}(ho:o∈V.ons)(e:o.b=x.b):∃ s t,V.ons=s++o::t/\(Hb V x).ons=s++{ o with l:=o.l++[x] }::t/\(∀ p∈s++t,p.b≠x.b)/\(Hb V x).all.Perm (x::V.all):=by
 obtain⟨s,t,h1,h2,h3⟩:=vC h.onsN ho fun o=>{ o with l:=o.l++[x] };rw[e]at h3;have h2':(Hb V x).ons=s++{ o with l:=o.l++[x] }::t:=by
  rw[<- h2];unfold Hb;rw[<- e]
 refine⟨s,t,h1,h2',h3,?_⟩;unfold Ps.all;rw[h2',h1];simp only[List.flatMap_append,List.flatMap_cons,VV]
 have:=(List.perm_middle (a:=x) (l₁:=s.flatMap (·.l)++o.l) (l₂:=t.flatMap (·.l)))
 simpa using this
theorem Mb.app{V:Ps}(h:Mb V){x:Ch}{o:On}(ho:o∈V.ons)(e:o.b=x.b)(hx:Fit V x)(hl:x.id<=1000000):Mb (Hb V x):=by
 obtain⟨s,t,h1,h2,h3,hp⟩:=QN h ho e;have hid:=hx.id;have hmem:∀ y∈(Hb V x).all,y=x\/y∈V.all:=fun y hy=>by simpa using hp.mem_iff.1 hy
 have hon:∀ p∈(Hb V x).ons,p∈V.ons\/p={ o with l:=o.l++[x] }:=fun p hp=>by
  rw[h2]at hp;rw[h1];simp only[Ln,Lv]at hp |-;rcases hp with hp | hp | hp
  ·exact .inl (.inl hp)
  ·exact .inr hp
  ·exact .inl (.inr (.inr hp))
 exact {
  full:=h.full
  onsN:=by
   have:(Hb V x).ons.map (·.b)=V.ons.map (·.b):=by rw[h2,h1];simp
   rw[this];exact h.onsN
  onlt:=fun p hp=>by
   rcases hon p hp with hp|rfl
   ·exact h.onlt p hp
   ·exact h.onlt o ho
  base:=fun p hp=>by
   rcases hon p hp with hp|rfl
   ·exact h.base p hp
   ·exact h.base o ho
  llen:=fun p hp=>by
   show p.l.length<=x.id;rcases hon p hp with hp | rfl
   ·have:=h.llen p hp;omega
   ·have:=h.llen o ho;simp;omega
  ids:=by
   rw[(hp.map (·.id)).nodup_iff,Zr,pN];refine⟨fun hm=>?_,h.ids⟩;obtain⟨y,hy,e⟩:=L2.1 hm
   have:=h.idr y hy
   omega
  idr:=fun y hy=>by
   show 1<=y.id/\y.id<=x.id;rcases hmem y hy with rfl | hy
   ·omega
   ·have:=h.idr y hy;omega
  chb:=fun p hp=>by
   rcases hon p hp with hp|rfl
   ·exact h.chb p hp
   ·intro y hy;rcases Ln.1 hy with hy | hy
    ·exact h.chb o ho y hy
    ·simp at hy;subst hy;exact e.symm
  dat:=fun y hy=>by
   rcases hmem y hy with rfl|hy
   ·exact hx.dat
   ·exact h.dat y hy
  aft:=fun y hy=>by
   rcases hmem y hy with rfl|hy
   ·exact hx.aft
   ·exact h.aft y hy
  last:=hl }
theorem zJ{V:Ps}(h:Mb V){x:Ch}{o:On}(ho:o∈V.ons)(e:o.b=x.b)(k:Int):(Hb V x).opn k=(decide ((x.id:Int)=k) || V.opn k):=by
 obtain⟨s,t,h1,h2,h3,hp⟩:=QN h ho e;unfold Ps.opn;rw[hp.any_eq,List.any_cons]
 congr 1
theorem iH.add{P:Ps}{C3:Ca}{x:Ch}(h:iH P)(hs:Mb P)(hx:Fit P x)(hbl:(A3 P x.b).length=256)(hl:x.id<=1000000)(hD:C3.D=P.C.D)(ht:∀ y,y.b≠x.b->(y∈C3.l↔y∈P.C.l))(hn:(C3.l.map (·.b)).Nodup)
  (hy:∃ y∈C3.l,y.b=x.b/\y.pins=1/\y.data=B3 (A3 P x.b) x.frm x.data):iH { K5 P x with C:=C3 }:=by
 have hs1:=hs.newO hx.lt hbl;obtain⟨eC,eL⟩:=PR (V:=P) (b:=x.b)
 -- the store behind Bt,but for pins
 have g1:∀ o∈(Bt P x.b).ons,(o∈P.ons)\/(o=⟨x.b,A3 P x.b,[]⟩/\CK P x.b=none):=by
  intro o ho;unfold Bt at ho
  split at ho
  ·exact .inl ho
  ·rename_i hno;rcases Ln.1 ho with ho | ho
   ·exact .inl ho
   ·simp at ho;exact .inr ⟨ho,hno⟩
 have gs:∀ o∈P.ons,o∈(Bt P x.b).ons:=by
  intro o ho;unfold Bt;split
  ·exact ho
  ·exact Ln.2 (.inl ho)
 obtain⟨o,ho,e⟩:=Yv (V:=P) (b:=x.b);have hx1:Fit (Bt P x.b) x:=⟨by rw[eL];exact hx.id,by rw[eC];exact hx.lt,hx.dat,hx.aft,hx.afl,hx.out⟩;obtain⟨s,t,h1,h2,h3,hp⟩:=QN hs1 ho e;have hop:∀ k,(K5 P x).opn k=(decide ((x.id:Int)=k) || P.opn k):=fun k=>by
  have:=zJ hs1 ho e k
  rw[bB]at this;exact this
 have hoo:∀ k,k<(x.id:Int)->P.opn k=(K5 P x).opn k:=fun k hk=>by
  rw[hop,Lh (by omega),wD]
 have hafl:∀ y∈P.all,∀ k∈y.after,k<(x.id:Int):=fun y hy k hk=>by
  have:=h.afl y hy k hk
  have:=hs.idr y hy
  have:=hx.id
  omega
 have hon:∀ p∈(K5 P x).ons,(p∈(Bt P x.b).ons/\p.b≠x.b)\/p={ o with l:=o.l++[x] }:=fun p hp=>by
  have hp:p∈(Hb (Bt P x.b) x).ons:=hp;rw[h2]at hp;rw[h1];simp only[Ln,Lv]at hp |-;rcases hp with hp | hp | hp
  ·exact .inl ⟨.inl hp,h3 p (by simp[hp])⟩
  ·exact .inr hp
  ·exact .inl ⟨.inr (.inr hp),h3 p (by simp[hp])⟩
 have hcov:∀ p∈(Bt P x.b).ons,∃ p'∈(K5 P x).ons,p'.b=p.b:=fun p hp=>by
  show ∃ p'∈(Hb (Bt P x.b) x).ons,p'.b=p.b;rw[h2];rw[h1]at hp;simp only[Ln,Lv]at hp;rcases hp with hp | rfl | hp
  ·exact⟨p,by simp[hp],rfl⟩
  ·exact⟨{ p with l:=p.l++[x] },by simp,rfl⟩
  ·exact⟨p,by simp[hp],rfl⟩
 have holdo:(Bt P x.b).ons=P.ons\/o.l=[]:=by
  rcases g1 o ho with hm|⟨rfl,_⟩
  ·left;unfold Bt;cases hno:CK P x.b with
   | some _=>rfl
   | none=>exact absurd (by omega) (GJ hno o hm)
  ·exact .inr rfl
 have hcb:Hr o.base o.l=A3 P x.b:=by
  rcases g1 o ho with hm|⟨rfl,_⟩
  ·unfold A3
   have:=tU hs hm
   rw[e]at this;rw[this]
  ·rfl
 have hom:∀ y∈o.l,y∈P.all:=fun y hy=>by
  have:y∈(Bt P x.b).all:=Yu.2 ⟨o,ho,hy⟩
  rwa [IK]at this
 exact {
  lne:=fun p hp=>by
   rcases hon p hp with ⟨hp,hb⟩|rfl
   ·rcases g1 p hp with hp|⟨rfl,_⟩
    ·exact h.lne p hp
    ·exact absurd rfl hb
   ·simp
  pin:=fun p hp=>by
   rcases hon p hp with ⟨hp,hb⟩|rfl
   ·rcases g1 p hp with hp|⟨rfl,_⟩
    ·obtain⟨y,hy1,hy2,hy3,hy4⟩:=h.pin p hp;exact⟨y,(ht y (by rw[hy2];exact hb)).2 hy1,hy2,hy3,hy4⟩
    ·exact absurd rfl hb
   ·obtain⟨y,hy1,hy2,hy3,hy4⟩:=hy;refine⟨y,hy1,by rw[hy2];exact e.symm,hy3,?_⟩;show y.data=Hr o.base (o.l++[x]);rw[gO,hcb];exact hy4
  unp:=fun y hy1 hno=>by
   show y.pins=0/\y.data=Gt C3.D y.b;rw[hD];have hyb:y.b≠x.b:=fun e'=>by
    obtain⟨p',hp',e2⟩:=hcov o ho;exact hno p' hp' (by rw[e2,e,e'])
   refine h.unp y ((ht y hyb).1 hy1) fun p hp e'=>?_;obtain⟨p',hp',e2⟩:=hcov p (gs p hp);exact hno p' hp' (by rw[e2,e'])
  run:=by show C3.D.left=-1;rw[hD];exact h.run
  acc:=fun p hp=>by
   show Gt C3.D p.b=_;rw[hD];rcases hon p hp with ⟨hp,hb⟩ | rfl
   ·rcases g1 p hp with hp|⟨rfl,_⟩
    ·exact h.acc p hp
    ·exact absurd rfl hb
   ·show Gt P.C.D o.b=Hr o.base ((o.l++[x]).filter (·.out));rw[Lq3,List.filter_cons_of_neg (by simp[hx.out]),List.filter_nil,iB];rcases g1 o ho with hm | ⟨rfl,hno⟩
    ·exact h.acc o hm
    ·show _=A3 P x.b;unfold A3;rw[hno]
  may:=fun p hp y hy1 hyo=>by
   show(y.id:Int)∈nH (K5 P x).opn p.l;rcases hon p hp with ⟨hp,hb⟩ | rfl
   ·rcases g1 p hp with hp|⟨rfl,_⟩
    ·rw[<- Vq (op:=P.opn) fun z hz k hk=>hoo k (hafl z (Yu.2 ⟨p,hp,hz⟩) k hk)];exact h.may p hp y hy1 hyo
    ·exact absurd rfl hb
   ·have hyl:y∈o.l:=by
     rcases Ln.1 hy1 with hy1|hy1
     ·exact hy1
     ·simp at hy1;subst hy1;rw[hx.out]at hyo;cases hyo
    have hm:o∈P.ons:=by
     rcases g1 o ho with hm|⟨rfl,_⟩
     ·exact hm
     ·cases hyl
    have h5:=h.may o hm y hyl hyo;rw[Vq (op:=P.opn) (op':=(K5 P x).opn) fun z hz k hk=>hoo k (hafl z (hom z hz) k hk)]at h5;show(y.id:Int)∈PQ (K5 P x).opn (o.l++[x]) (o.l++[x]).length;refine nJ (n:=o.l.length) (by simp) ?_;rw[Tp _ (Le _)];exact h5
  cls:=fun p hp=>by
   rcases hon p hp with ⟨hp,hb⟩|rfl
   ·rcases g1 p hp with hp|⟨rfl,_⟩
    ·exact h.cls p hp
    ·exact absurd rfl hb
   ·show Cls (o.l++[x]);unfold Cls;rw[List.pairwise_append];refine⟨?_,by simp,fun a ha c hc hout=>?_⟩
    ·rcases g1 o ho with hm|⟨rfl,_⟩
     ·exact h.cls o hm
     ·exact List.Pairwise.nil
    ·simp at hc;subst hc;rw[hx.out]at hout;cases hout
  afl:=fun y hy=>by
   have hy:y∈(Hb (Bt P x.b) x).all:=hy
   have:=hp.mem_iff.1 hy
   rw[IK]at this;rcases Lv.1 this with rfl | hy
   ·exact hx.afl
   ·exact h.afl y hy }
end Go.Z
open Go Go.Den Go.Proofs
namespace Go.Z
theorem AfW{D:St}{b:Nat}{ys:Bk}(hb:b<D.vs.length)(hy:ys.length=256)(hl:D.left=-1):cM D b ys=0/\DG D b ys=⟨D.vs.set b (D.vs[b]++[ys]),-1⟩:=by
 rcases GA (D:=D) (b:Int)with ⟨_,ho⟩|⟨he,j,u,hj,hu,hver⟩
 ·omega
 ·have:j=b:=by omega
  subst this;have hv:D.vs[j]?=some D.vs[j]:=by simp[hb]
  have:u=D.vs[j]:=by rw[hu]at hv;exact Lk hv
  subst this;have hw:cM D j ys=0:=by unfold cM;rw[he,if_neg (by omega),if_neg (by omega)]
  refine⟨hw,?_⟩;unfold DG;rw[if_neg (by omega),hver,hl];rfl
theorem YM{D:St}{n:Nat}(h:n<D.vs.length):HX D n=D.vs[n]:=by
 unfold HX;rw[if_neg (by omega),Lz,XM h];rfl
theorem L7{D:St}{b:Nat}{ys:Bk}(hb:b<D.vs.length)(hy:ys.length=256)(hl:D.left=-1)(n:Nat):Gt (DG D b ys) n=if n=b then ys else Gt D n:=by
 obtain⟨_,e2⟩:=AfW hb hy hl;rw[e2];by_cases hn:n<D.vs.length
 ·unfold Gt;rw[YM (D:=⟨_,_⟩) (by simpa using hn)];by_cases h:n=b
  ·subst h;rw[if_pos rfl];simp only[List.getElem_set_self];unfold DY;rw[List.getLastD_eq_getLast?,List.getLast?_append];simp
  ·rw[if_neg h,YM hn];simp only;rw[List.getElem_set_ne (pE h)]
 ·have h:∀ E:St,E.vs.length=D.vs.length->Gt E n=[]:=fun E hE=>by
   unfold Gt HX;rw[if_neg (by omega),Lz,Ln2 (by omega)];rfl
  rw[if_neg (by omega),h _ (by simp),h _ rfl]
theorem RZ{D:St}(hl:D.left=-1)(n:Nat):Gt (K9 D) n=Gt D n:=by
 unfold K9;rw[if_neg (by omega)];unfold Gt HX;rw[if_neg (by omega),if_neg (by omega),Lz];simp only[qC];cases D.vs[n]?<;>rfl
theorem QV{P:Ps}(hs:Mb P)(hD:WF P.C.D){b:Nat}(hb:b<P.C.D.vs.length):(A3 P b).length=256:=by
 unfold A3;cases ho:CK P b with
 | none =>
  show(Gt P.C.D b).length=256;unfold Gt;rw[YM hb];exact hD.lastLen (XM hb)
 | some o =>
  obtain⟨h1,_⟩:=GK ho;exact oV (hs.base o h1) _ fun x hx=>(hs.dat x (fK h1 hx)).2
end Go.Z
end
