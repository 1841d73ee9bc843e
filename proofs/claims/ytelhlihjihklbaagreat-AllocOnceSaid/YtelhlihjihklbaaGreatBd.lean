/- Parts of the proof, in order: what the statement leans on. -/
import Derived.Test.YtelhlihjihklbaaGreatBc
open Go.Proofs Go.Proofs.YtelhlihjihklbaaGreat
section
open Go Go.Den Go.Proofs
namespace Go.Den
theorem Zl:∀{x y:List UInt8},Au x=Au y->x=y
 | [],[],_=>rfl
 | [],_::_,h=>by cases h
 | _::_,[],h=>by cases h
 | a::x,b::y,h=>by
  have h1:u8 a::Au x=u8 b::Au y:=h;obtain⟨h2,h3⟩:=La6 h1;have h4:(a.toNat:Int)=b.toNat:=by simpa [u8] using h2
  rw[Zl h3,Ly4.1 (by omega:a.toNat=b.toNat)]
theorem KZ{P:Program}{T e n:Nat}{d:TypeDesc}{k:IntKind}{cs:List Value}{i:Nat}{v:Value}(hT:P.underlying T=some (.array n e))(hs:PR P T=some (n,1))(he:P.underlying e=some d)(h1:∀ fs,d≠.struct fs)(h2:∀ n e,d≠.array n e)(hi:i<n)(hv:cs[i]?=some v)(w:World) :
  (Instr.index T (.agg ⟨cs⟩) (.int k i)).run P w=.ok v w:=by
 obtain⟨e',inf,he',hinf,hk⟩:=Sz hs;have:e'=e:=by rw[hT]at he';simpa using he'.symm
 subst this;have hp:(part e' ⟨cs⟩ i).run P w=.ok v w:=Ol he h1 h2 (by simpa using hv);simp only[Instr.index,asIntOf,Sem.run_bind,Sem.run_pure,Result.andThen_ok,AI hT];rw[if_pos ⟨by omega,by omega⟩];simp only[Sem.run_bind,Cf hinf,Result.andThen_ok,hk];rw[show(i:Int).toNat*1=i by omega];exact hp
theorem Oh(xs ys:List UInt8)(h:xs.length=ys.length):(TF xs ys).length=xs.length:=by simp[TF,h]
def N8(xs ys:List UInt8)(i:Nat):List UInt8:=(TF xs ys).take i++List.replicate (xs.length-i) 0
theorem VL{xs ys:List UInt8}{i:Nat}(h:xs.length=ys.length)(hi:i<=xs.length):(N8 xs ys i).length=xs.length:=by
 unfold N8;rw[Ls,xF,Oh _ _ h,TV];omega
theorem cJ{xs ys:List UInt8}{i:Nat}(h:xs.length=ys.length)(hi:i<xs.length):(N8 xs ys i).set i (UInt8.ofNat (xs[i].toNat ||| (ys[i]'(by omega)).toNat))=N8 xs ys (i+1):=by
 unfold N8;have hl:=Oh xs ys h;have e:(TF xs ys)[i]'(by omega)=UInt8.ofNat (xs[i].toNat ||| (ys[i]'(by omega)).toNat):=by simp[TF]
 rw[List.set_append_right _ _ (by rw[xF];omega),xF,hl,Le4 (by omega),fG,show xs.length-i=(xs.length-(i+1))+1 by omega,List.replicate_succ,List.set_cons_zero,
  Ll (by omega),e,WB];rfl
theorem cI{xs ys:List UInt8}(h:xs.length=ys.length):N8 xs ys xs.length=TF xs ys:=by
 unfold N8;rw[Lg (by rw[Oh _ _ h];omega),fG];simp
def Bd(g:Gm)(h:Hd):Int×Int:=if I8 g h=true then(g.gr-BK h.bs g.gr.toNat,g.no-BK h.ss g.no.toNat)else(0,0)
end Go.Den
namespace Go.Z
theorem AfS(xs ys:List UInt8)(hx:xs.length=16)(hy:ys.length=16){o1 o2:Operand}:Al (Gp .eql 116 o1 o2 (.agg ⟨Au xs⟩) (.agg ⟨Au ys⟩)) (.bool (decide (xs=ys))):=fun w=>by
 have hc:∀ xs:List UInt8,xs.length=16->G9 (List.replicate 16 (.i .u8)) (Au xs):=fun xs hx=>⟨by simp[hx],fun j k v hk hv=>by
  have e1:k=.i .u8:=by
   rw[Ls4]at hk
   split at hk
   ·exact(Ln hk).symm
   ·cases hk
  subst e1;unfold Au at hv;rw[jK]at hv;cases hx2:xs[j]? with
  | none=>rw[hx2]at hv;cases hv
  | some c=>rw[hx2]at hv;cases hv;rfl⟩
 obtain⟨b,hb,h1,_⟩:=Uu (P:=Tryz.prog) (T:=116) (ks:=List.replicate 16 (.i .u8)) (by kernel_rfl) (by kernel_rfl) jO (o1:=o1) (o2:=o2) (hc xs hx) (hc ys hy) w;rw[h1];have:b=decide (xs=ys):=by
  rw[Lu,hb,Wv];exact⟨fun e=>Zl e,fun e=>by rw[e]⟩
 rw[this]
theorem AhK(xs ys:List UInt8)(hx:xs.length=8)(hy:ys.length=8){o1 o2:Operand}:Al (Gp .eql 117 o1 o2 (.agg ⟨Au xs⟩) (.agg ⟨Au ys⟩)) (.bool (decide (xs=ys))):=fun w=>by
 have hc:∀ xs:List UInt8,xs.length=8->G9 (List.replicate 8 (.i .u8)) (Au xs):=fun xs hx=>⟨by simp[hx],fun j k v hk hv=>by
  have e1:k=.i .u8:=by
   rw[Ls4]at hk
   split at hk
   ·exact(Ln hk).symm
   ·cases hk
  subst e1;unfold Au at hv;rw[jK]at hv;cases hx2:xs[j]? with
  | none=>rw[hx2]at hv;cases hv
  | some c=>rw[hx2]at hv;cases hv;rfl⟩
 obtain⟨b,hb,h1,_⟩:=Uu (P:=Tryz.prog) (T:=117) (ks:=List.replicate 8 (.i .u8)) (by kernel_rfl) (by kernel_rfl) yH (o1:=o1) (o2:=o2) (hc xs hx) (hc ys hy) w;rw[h1];have:b=decide (xs=ys):=by
  rw[Lu,hb,Wv];exact⟨fun e=>Zl e,fun e=>by rw[e]⟩
 rw[this]
theorem AhT{xs:List UInt8}{i:Nat}(hx:xs.length=16)(hi:i<xs.length):Al (Instr.index 116 (.agg ⟨Au xs⟩) (.int .i64 i)) (.int .u8 (xs[i].toNat:Int)):=KZ Tryz.underlying116 KO Tryz.underlying5 (by simp) (by simp) (by omega) (CP hi)
theorem ix8{xs:List UInt8}{i:Nat}(hx:xs.length=8)(hi:i<xs.length):Al (Instr.index 117 (.agg ⟨Au xs⟩) (.int .i64 i)) (.int .u8 (xs[i].toNat:Int)):=KZ Tryz.underlying117 UU Tryz.underlying5 (by simp) (by simp) (by omega) (CP hi)
section
variable{w:World}{K:Value->World->Prop}
theorem At.bs{b:Nat}{h:Hd}(hw:Fq h)(hat:At w b 0 (hV h)):At w b 1 (Au h.bs):=by
 have:=hat.sub (i:=1) (m:=16) (by rw[Aw hw];omega)
 have e:((hV h).drop 1).take 16=Au h.bs:=by
  unfold hV;rw[qT,Uq,Lv (by rw[Ak,hw.1];omega),Lg (by rw[Ak,hw.1];omega)]
 rw[e]at this;exact this
theorem At.ss{b:Nat}{h:Hd}(hw:Fq h)(hat:At w b 0 (hV h)):At w b 17 (Au h.ss):=by
 have:=hat.sub (i:=17) (m:=8) (by rw[Aw hw];omega)
 have e:((hV h).drop 17).take 8=Au h.ss:=by
  unfold hV;rw[show 17=16+1 from rfl,qT,WD,Lt (by rw[Ak,hw.1];omega),QN,Ak,hw.1,fG,Uq,Lg (by rw[Ak,hw.2];omega)]
 rw[e]at this;exact this
theorem N0{g:Gm}{h:Hd}(hw:Fq h)(hk:∀ w',Ab No w w'->K (.bool (I8 g h)) w'):A8 Tryz.prog Dy #[.agg ⟨gV g⟩,.agg ⟨hV h⟩] w K:=by
 apply Wz;unfold Pd;obtain⟨w1,a1,a2,a3,a4⟩:=AC (P:=Tryz.prog) (w:=w) (T:=40) (cs:=gV g);obtain⟨w2,b1,b2,b3,b4⟩:=AC (P:=Tryz.prog) (w:=w1) (T:=119) (cs:=hV h);have m2:=a3.no b3;refine⟨_,w1,a1,_,w2,b1,_,(a2.at.keep b3 id).all Aq rfl,_,b2.at.fld Aj rfl,kC fun w3 m3=>⟨_,_,rfl,?_⟩⟩;obtain⟨w4,c1,c2,c3,c4⟩:=A9 (P:=Tryz.prog) (w:=w3) (T:=119) B7;obtain⟨w5,d1,d2,d3,d4⟩:=c2.put (T:=119) (vs:=hV (GD g h.no).1) Ax (Aw DK) (Aw (Xu _ _)) (Db _)
 have m5:Ab No w2 w5:=m3.no (c3.own d3 (Ld _));refine⟨_,w4,c1,w5,d1,?_⟩;rw[Di];refine Aa (fun hh=>?_) (fun hh=>?_)
 ·have hh:=Lc hh;have e:I8 g h=false:=by
   cases ho:I8 g h with
   | false=>rfl
   | true =>
    obtain⟨h1,h2,_⟩:=Co.1 ho;exact absurd (by unfold GD;rw[if_pos ⟨h1,h2⟩]) hh
  rw[<- e];exact hk _ (m2.no m5)
 have hh:=Lb hh;have hg:CU g=true/\0<=h.no/\h.no<g.gs:=by
  by_cases hc:CU g=true/\0<=h.no/\h.no<g.gs
  ·exact hc
  ·exfalso;apply hh;unfold GD;rw[if_neg hc];decide
 have ef:(GD g h.no).1=AG g h.no:=by unfold GD;rw[if_pos hg]
 rw[ef]at d2;have q2:=(a2.keep b3 id).keep m5 id;have q3:=b2.keep m5 id;obtain⟨w6,e1,e2,e3,e4⟩:=A9 (P:=Tryz.prog) (w:=w5) (T:=119) B7;obtain⟨w7,f1,f2,f3,f4⟩:=e2.put (T:=119) (vs:=hV ⟨h.no,List.replicate 16 0,List.replicate 8 0⟩) Ax (Aw DK) (Aw ⟨rfl,rfl⟩) (Db _);have m7:Ab No w5 w7:=e3.own f3 (Ld _);have q3':=q3.keep m7 id;have hb16:((hV h).drop 1).take 16=Au h.bs:=by
  unfold hV;rw[qT,Uq,Lv (by rw[Ak,hw.1];omega),Lg (by rw[Ak,hw.1];omega)]
 have hs8:((hV h).drop 17).take 8=Au h.ss:=by
  unfold hV;rw[show 17=16+1 from rfl,qT,WD,Lt (by rw[Ak,hw.1];omega),QN,Ak,hw.1,fG,Uq,Lg (by rw[Ak,hw.2];omega)]
 refine⟨_,q3.at.fld Aj rfl,_,PT _,_,w6,e1,w7,f1,_,q3'.at.fldA jO (by rw[Aw hw];omega) hb16,?_⟩;have lb:h.bs.length=(AG g h.no).bs.length:=by rw[hw.1];exact(Ev _).symm
 have ls:h.ss.length=(AG g h.no).ss.length:=by rw[hw.2];exact(S0 _).symm
 have hw1:=hw.1;have hw2:=hw.2;have wf1:∀ i,i<=16->Fq ⟨h.no,N8 h.bs (AG g h.no).bs i,List.replicate 8 0⟩:=fun i hi=>⟨by rw[VL lb (by omega)];exact hw.1,rfl⟩;refine⟨fun x w8=>∃ i:Nat,i<=16/\x=[.int .i64 i]/\A1 w8 w5.heap.size 0 (hV ⟨h.no,N8 h.bs (AG g h.no).bs i,List.replicate 8 0⟩)/\Ab No w5 w8,fun x _=>(16-nI x 0).toNat,⟨0,by omega,rfl,?_,m7⟩,?_⟩
 ·have:N8 h.bs (AG g h.no).bs 0=List.replicate 16 0:=by unfold N8;rw[xE,QN,Lg6,hw.1]
  rw[this];exact f2
 rintro x w8 ⟨i,hi,rfl,hat,m8⟩;refine⟨_,rfl,Aa (fun hl=>?_) (fun hl=>?_)⟩
 ·have hl:=Lc hl;have hi1:i<h.bs.length:=by omega
  have hi2:i<(AG g h.no).bs.length:=by omega
  have hx:=(d2.keep m8 id);obtain⟨w9,p1,p2,p3,p4⟩:=hat.putE (P:=Tryz.prog) (T:=5) (j:=1) (i:=i) (v:=.int .u8 ((h.bs[i].toNat ||| (AG g h.no).bs[i].toNat:Nat):Int)) LC (by rw[Aw (wf1 i hi)];omega) rfl;refine⟨_,AhT hw.1 hi1,_,B5 KO (by omega) (by omega),((AG g h.no).bs[i].toNat:Int),hx.at.elt (j:=1) LC (AfW hi2),_,B5 KO (by omega) (by omega),w9,?_,?_⟩
  ·rw[Uz (h.bs[i].toNat_lt) ((AG g h.no).bs[i].toNat_lt)];exact p1
  ·rw[kO (by rw[VL lb (by omega)];exact hi1) (xX (n:=8) (h.bs[i].toNat_lt) ((AG g h.no).bs[i].toNat_lt)),cJ lb hi1]at p2;rw[Ag (x:=(i:Int)+1) (by omega) (by omega)];exact⟨⟨i+1,by omega,by simp,p2,m8.own p3 (Ld _)⟩,by simp[nI,Ap];omega⟩
 have hl:=Lb hl;have hi16:i=16:=by omega
 subst hi16;have eb:N8 h.bs (AG g h.no).bs 16=TF h.bs (AG g h.no).bs:=by rw[<- hw.1];exact cI lb
 rw[eb]at hat;have wf2:∀ i,i<=8->Fq ⟨h.no,TF h.bs (AG g h.no).bs,N8 h.ss (AG g h.no).ss i⟩:=fun i hi=>⟨by rw[Oh _ _ lb];exact hw.1,by rw[VL ls (by omega)];exact hw.2⟩;refine⟨_,(q3.keep m8 id).at.fldA yH (by rw[Aw hw];omega) hs8,?_⟩;refine⟨fun x w10=>∃ i:Nat,i<=8/\x=[.int .i64 i]/\A1 w10 w5.heap.size 0 (hV ⟨h.no,TF h.bs (AG g h.no).bs,N8 h.ss (AG g h.no).ss i⟩)/\Ab No w5 w10,fun x _=>(8-nI x 0).toNat,⟨0,by omega,rfl,?_,m8⟩,?_⟩
 ·have:N8 h.ss (AG g h.no).ss 0=List.replicate 8 0:=by unfold N8;rw[xE,QN,Lg6,hw.2]
  rw[this];exact hat
 rintro x w10 ⟨i,hi,rfl,hat,m10⟩;refine⟨_,rfl,Aa (fun hl=>?_) (fun hl=>?_)⟩
 ·have hl:=Lc hl;have hi1:i<h.ss.length:=by omega
  have hi2:i<(AG g h.no).ss.length:=by omega
  have hx:=(d2.keep m10 id);obtain⟨w9,p1,p2,p3,p4⟩:=hat.putE (P:=Tryz.prog) (T:=5) (j:=17) (i:=i) (v:=.int .u8 ((h.ss[i].toNat ||| (AG g h.no).ss[i].toNat:Nat):Int)) LC (by rw[Aw (wf2 i hi)];omega) rfl;refine⟨_,ix8 hw.2 hi1,_,B5 UU (by omega) (by omega),((AG g h.no).ss[i].toNat:Int),hx.at.elt (j:=17) LC (AhQ (Ev _) hi2),_,B5 UU (by omega) (by omega),w9,?_,?_⟩
  ·rw[Uz (h.ss[i].toNat_lt) ((AG g h.no).ss[i].toNat_lt)];exact p1
  ·rw[kP (wf2 i hi).1 (xX (n:=8) (h.ss[i].toNat_lt) ((AG g h.no).ss[i].toNat_lt)),cJ ls hi1]at p2;rw[Ag (x:=(i:Int)+1) (by omega) (by omega)];exact⟨⟨i+1,by omega,by simp,p2,m10.own p3 (Ld _)⟩,by simp[nI,Ap];omega⟩
 have hl:=Lb hl;have hi8:i=8:=by omega
 subst hi8;have es:N8 h.ss (AG g h.no).ss 8=TF h.ss (AG g h.no).ss:=by rw[<- hw.2];exact cI ls
 rw[es]at hat;have wf3:Fq ⟨h.no,TF h.bs (AG g h.no).bs,TF h.ss (AG g h.no).ss⟩:=⟨by rw[Oh _ _ lb];exact hw.1,by rw[Oh _ _ ls];exact hw.2⟩;have r2:=q2.keep m10 id;have r3:=q3.keep m10 id;have rowb:∀ w',Ab No w10 w'->Bl w' (some ⟨w1.heap.size,1,none⟩) (Au h.bs):=fun w' m=>.inr ⟨_,_,rfl,At.bs hw (r3.at.keep m id)⟩;have rows:∀ w',Ab No w10 w'->Bl w' (some ⟨w1.heap.size,17,none⟩) (Au h.ss):=fun w' m=>.inr ⟨_,_,rfl,At.ss hw (r3.at.keep m id)⟩
 have ad1:Addr.add ⟨w1.heap.size,0,none⟩ 1=⟨w1.heap.size,1,none⟩:=by rw[Ad]
 have ad17:Addr.add ⟨w1.heap.size,0,none⟩ 17=⟨w1.heap.size,17,none⟩:=by rw[Ad]
 have md:Ab No w10 (Go.Den.Ah w10):=(Ab.refl No w10).drew;refine Ac.cut (fun z w16=>Ab No w10 w16/\z=[.bool (decide (BK h.bs g.gr.toNat=BK h.bs 128/\BK h.ss g.no.toNat=BK h.ss 64))]) ?_ ?_
 ·rw[ad1,ad17];refine⟨_,_,_,Ba KO,_,r2.at.drew.fld Aj rfl,_,_,_,Ba KO,?_⟩;refine Hj (xs:=h.bs) hw.1 (rowb _ md) (by omega) fun w12 m12=>⟨_,rfl,?_⟩;have M12:=md.no m12;refine Hj (xs:=h.bs) (n:=128) hw.1 (rowb _ M12) (by omega) fun w13 m13=>⟨_,rfl,?_⟩;have M13:=M12.no m13;rw[show Int.toNat 128=128 from rfl,GO];refine Aa (fun hc=>⟨_,_,_,Ba UU,_,(r2.keep M13 id).at.fld Aj rfl,_,_,_,Ba UU,?_⟩) (fun hc=>⟨M13,?_⟩)
  ·have hc:=Lc hc;refine Hj (xs:=h.ss) hw.2 (rows _ M13) (by omega) fun w14 m14=>⟨_,rfl,?_⟩;refine Hj (xs:=h.ss) (n:=64) hw.2 (rows _ (M13.no m14)) (by omega) fun w15 m15=>⟨_,rfl,M13.no (m14.no m15),?_⟩;rw[show Int.toNat 64=64 from rfl,GO];have hc':BK h.bs g.gr.toNat=BK h.bs 128:=by omega
   by_cases hE:BK h.ss g.no.toNat=BK h.ss 64
   ·rw[Le (show((BK h.ss g.no.toNat:Nat):Int)=((BK h.ss 64:Nat):Int) by rw[hE]),Le (show _/\_ from⟨hc',hE⟩)]
   ·rw[Lf (show ¬ ((BK h.ss g.no.toNat:Nat):Int)=((BK h.ss 64:Nat):Int) by omega),Lf fun e=>hE e.2]
  ·have hc:=Lb hc;rw[Lf fun e=>hc (by have:=e.1;omega)]
 rintro z w16 ⟨m16,rfl⟩;have s2:=r3.keep m16 id;have s7:=hat.keep m16 id;have hb16':((hV ⟨h.no,TF h.bs (AG g h.no).bs,TF h.ss (AG g h.no).ss⟩).drop 1).take 16=Au (TF h.bs (AG g h.no).bs):=by
  unfold hV;rw[qT,Uq,Lv (by rw[Ak];exact mK wf3.1.symm),Lg (by rw[Ak];exact mK wf3.1)]
 have hs8':((hV ⟨h.no,TF h.bs (AG g h.no).bs,TF h.ss (AG g h.no).ss⟩).drop 17).take 8=Au (TF h.ss (AG g h.no).ss):=by
  unfold hV;rw[show 17=16+1 from rfl,qT,WD,Lt (by rw[Ak];exact mK wf3.1),QN,Ak,wf3.1,fG,Uq,Lg (by rw[Ak];exact mK wf3.2)]
 have M:=(m2.no m5).no (m10.no m16);have fin:∀ b:Bool,(b=true↔(TF h.bs (AG g h.no).bs=h.bs/\TF h.ss (AG g h.no).ss=h.ss)/\BK h.bs g.gr.toNat=BK h.bs 128/\BK h.ss g.no.toNat=BK h.ss 64)->K (.bool b) w16:=fun b hb=>by
  have e:b=I8 g h:=by rw[Lu,hb];exact tB hw hg.1 hg.2
  rw[e];exact hk _ M
 refine Ac.dup ⟨_,s7.at.fldA jO (by rw[Aw wf3];omega) hb16',_,s2.at.fldA jO (by rw[Aw hw];omega) hb16,_,AfS _ _ wf3.1 hw.1,Aa (fun h1=>⟨_,s7.at.fldA yH (by rw[Aw wf3];omega) hs8',_,s2.at.fldA yH (by rw[Aw hw];omega) hs8,_,AhK _ _ wf3.2 hw.2,Aa (fun h2=>⟨_,rfl,_,rfl,fin _ ?_⟩) (fun h2=>⟨_,rfl,fin _ ?_⟩)⟩) (fun h1=>⟨_,rfl,fin _ ?_⟩)⟩
 ·have h1:=Lc h1;have h2:=Lc h2;rw[Wv];exact⟨fun e=>⟨⟨h1,h2⟩,e⟩,fun e=>e.2⟩
 ·have h2:=Lb h2;exact⟨fun e=>(by cases e),fun e=>absurd e.1.2 h2⟩
 ·have h1:=Lb h1;exact⟨fun e=>(by cases e),fun e=>absurd e.1.1 h1⟩
end
theorem BB:Ei Tryz.prog 143=some 4:=by kernel_rfl
theorem Js:HT Tryz.prog 143=some (sV sZ):=by kernel_rfl
theorem FN:Al (Instr.build 143 #[]) (.agg ⟨sV sZ⟩):=fun w=>by kernel_rfl
theorem WY(n:Int)(g:Gm):Al (Instr.build 143 #[(0,.int .i64 n),(1,.agg ⟨gV g⟩)]) (.agg ⟨sV ⟨n,g⟩⟩):=fun w=>by kernel_rfl
theorem Hl(a b c:Int):Al (Instr.build 40 #[(0,.int .i64 a),(1,.int .i64 b),(2,.int .i64 c)]) (.agg ⟨gV ⟨a,b,c⟩⟩):=fun w=>by kernel_rfl
theorem JZ:fX Tryz.prog 88 9=true:=by kernel_rfl
section
variable{w:World}{K:Value->World->Prop}
theorem Wg{s:Sp}(hk:∀ w',Ab No w w'->K (.bool (OZ s)) w'):A8 Tryz.prog DB #[.agg ⟨sV s⟩] w K:=by
 apply OQ;unfold Iw;obtain⟨w1,a1,a2,a3,a4⟩:=AC (P:=Tryz.prog) (w:=w) (T:=143) (cs:=sV s);have l0:Ru (Instr.loadAt 2 (.pointer (some (Addr.add ⟨w.heap.size,0,none⟩ 0)))) w1 (.int .i64 s.gen) w1:=a2.at.fld BL rfl;have no:¬ (1<=s.gen/\s.gen<=4611686018427387904)->false=OZ s:=fun h=>by unfold OZ;rw[Lf h];rfl
 refine⟨_,w1,a1,Ac.dup ⟨_,l0,Aa (fun h=>⟨_,l0,Aa (fun h2=>⟨_,a2.at.fldA (n:=3) (vs:=gV s.geo) Aq (by simp[sV,gV]) rfl,Hr fun w2 m2=>⟨_,rfl,_,rfl,?_⟩⟩) (fun h2=>⟨_,rfl,?_⟩)⟩) (fun h=>⟨_,rfl,?_⟩)⟩⟩
 ·have h:=Lc h;have h2:=Lc h2;have e:CU s.geo=OZ s:=by unfold OZ;rw[Le ⟨h,h2⟩];rfl
  rw[e];exact hk _ (a3.no m2)
 ·rw[no fun e=>Lb h2 e.2];exact hk _ a3
 ·rw[no fun e=>Lb h e.1];exact hk _ a3
theorem Wf{s:Sp}(h0:0<=s.gen)(hk:∀ w',Ab No w w'->K (.int .i64 (s.gen % 2)) w'):A8 Tryz.prog CI #[.agg ⟨sV s⟩] w K:=by
 apply OP;unfold Iv;obtain⟨w1,a1,a2,a3,a4⟩:=AC (P:=Tryz.prog) (w:=w) (T:=143) (cs:=sV s);refine⟨_,w1,a1,_,a2.at.fld BL rfl,?_⟩;rw[mL h0];exact hk _ a3
theorem WI{b n i m l c:Nat}{pre:List UInt8}{v:Int}{K:Value->World->Prop}(hat:A1 w b 0 (Au (pre++List.replicate n 0)))(hi:pre.length=i)(hm:m<=n)(hl:l=m)(hv0:0<=v)(hv:v<=18446744073709551615)(h63:m<=9223372036854775807)
  (hk:∀ w',Ab (fun x=>x=b) w w'->w'.heap.size=w.heap.size->A1 w' b 0 (Au ((pre++Bg m v.toNat)++List.replicate (n-m) 0))->K (.tuple #[]) w') :
  A8 Tryz.prog CA #[.slice (some ⟨b,0+i*1,none⟩) l c,.int .u64 (IntKind.u64.wrap v)] w K:=by
 obtain⟨k,rfl⟩:∃ k:Nat,v=k:=⟨v.toNat,by omega⟩;subst hl;rw[El hv0 hv,qI];refine AfP hat (by simp;omega) h63 fun w' h1 h2 h3=>hk w' h1 h3 ?_
 have:=zs (pre:=pre) (ys:=Bg l k) (n:=n) hi (by simp;omega)
 rw[Cm]at this;rw[this]at h2;exact h2
theorem wF{s:Sp}(h1:OZ s=false->∀ w',Ab No w w'->K (.tuple #[.slice none 0 0,.int .i64 1]) w')
  (h2:OZ s=true->∀ w' q,Ab No w w'->w.heap.size<=q->A1 w' q 0 (Au (DR s))->K (.tuple #[.slice (some ⟨q,0,none⟩) 256 256,.int .i64 0]) w'):A8 Tryz.prog Np #[.agg ⟨sV s⟩] w K:=by
 apply ZA;unfold Tt;obtain⟨w1,a1,a2,a3,a4⟩:=AC (P:=Tryz.prog) (w:=w) (T:=143) (cs:=sV s);refine⟨_,w1,a1,_,a2.at.all BB rfl,Wg fun w2 m2=>⟨_,rfl,Aa (fun h=>h1 (by simpa using h) _ (a3.no m2)) (fun h=>?_)⟩⟩;have hs:OZ s=true:=by simpa using h
 obtain⟨⟨hg1,hg2⟩,hgeo⟩:=H3.1 hs;have hg:=Av.1 hgeo;have hA:PR Tryz.prog 277=some (256,1):=by kernel_rfl
 obtain⟨w3,b1,b2,b3,b4⟩:=A9 (P:=Tryz.prog) (w:=w2) (T:=277) (cs:=Au ([]++List.replicate 256 0)) (by kernel_rfl);obtain⟨w4,c1,c2,c3,c4⟩:=aL (T:=88) (S:=9) (ty:=3) (i:=0) (n:=256) (c:=256) (xs:=DX) (by kernel_rfl) b2 (by rw[Ak,Ls,TV];exact Ld _) (by simp[DX]);rw[zs (pre:=[]) (i:=0) rfl (by simp[DX])]at c2;refine⟨_,w3,b1,_,_,_,Ba hA,_,w4,c1,?_⟩
 have hq0:=(a2.at.keep (m2.no b3) id);have ne:¬ (w.heap.size=w2.heap.size):=by have:=m2.size;omega
 have q4:=hq0.keep c3 (fun e=>ne e);have M4:Ab No w2 w4:=b3.own c3 (Ld _);refine⟨_,_,_,Oo hA (by omega) (by omega) (by omega) (by omega),_,q4.drew.fld BL rfl,?_⟩;refine WI (m:=8) c2.drew rfl (by simp[DX]) rfl (by omega) (by omega) (by omega) fun w5 m5 z5 d5=>⟨rfl,?_⟩;have q5:=q4.drew.keep m5 (fun e=>ne e);have M5:=M4.drew.own m5 (Ld _);refine⟨_,_,_,Oo hA (by omega) (by omega) (by omega) (by omega),_,q5.drew.fld2 Aj rfl,?_⟩
 refine WI (m:=2) d5.drew (by simp[DX]) (by simp[DX]) rfl (by omega) (by omega) (by omega) fun w6 m6 z6 d6=>⟨rfl,?_⟩;have q6:=q5.drew.keep m6 (fun e=>ne e);have M6:=M5.drew.own m6 (Ld _);refine⟨_,_,_,Oo hA (by omega) (by omega) (by omega) (by omega),_,q6.drew.fld2 Aj rfl,?_⟩;refine WI (m:=2) d6.drew (by simp[DX]) (by simp[DX]) rfl (by omega) (by omega) (by omega) fun w7 m7 z7 d7=>⟨rfl,?_⟩
 have q7:=q6.drew.keep m7 (fun e=>ne e);have M7:=M6.drew.own m7 (Ld _);refine⟨_,_,_,Oo hA (by omega) (by omega) (by omega) (by omega),_,q7.drew.fld2 Aj rfl,?_⟩;refine WI (m:=2) d7.drew (by simp[DX]) (by simp[DX]) rfl (by omega) (by omega) (by omega) fun w8 m8 z8 d8=>⟨rfl,?_⟩;have M8:=M7.drew.own m8 (Ld _);have e8:(DX++Bg 8 s.gen.toNat++Bg 2 s.geo.gr.toNat++Bg 2 s.geo.no.toNat++Bg 2 s.geo.gs.toNat)++List.replicate (256-DX.length-8-2-2-2) 0=DW s++List.replicate 4 (0:UInt8):=by
  unfold DW Ic;rw[WB _ (List.replicate 234 0),List.replicate_append_replicate];rfl
 have d8':A1 w8 w2.heap.size 0 (Au (DW s++List.replicate 4 0)):=by rw[<- e8];exact d8
 refine⟨_,_,_,vY hA (by omega) (by omega),_,_,_,vX hA (by omega) (by omega),?_⟩
 have hrow:Bl (Go.Den.Ah w8) (some ⟨w2.heap.size,0,none⟩) (Au (DW s)):=.inr ⟨_,_,rfl,by
  have:=d8'.at.drew.sub (i:=0) (m:=252) (by rw[Ak,Ls,DO];simp)
  rw[Uq,EM,Lv (mK ((Ak _).trans (DO s)).symm),Lg (mK ((Ak _).trans (DO s)))]at this
  exact this⟩
 refine uB (xs:=DW s) (DO s) hrow (by omega) fun w9 m9=>⟨_,rfl,?_⟩;have hc:=Vh (DW s);refine WI (m:=4) (d8'.drew.keep m9 id) (DO s) (by omega) rfl (by omega) (by omega) (by omega) fun w10 m10 z10 d10=>⟨rfl,_,_,_,Ba hA,?_⟩;have M10:=(M8.drew.no m9).own m10 (Ld _);refine h2 hs _ _ (a3.no (m2.no M10)) (Up (by omega) m2.size) ?_;have e:DR s=DW s++Bg 4 ((Zs (DW s):Nat):Int).toNat++List.replicate (4-4) 0:=by simp[DR]
 rw[e];exact d10
end
theorem cU:(⟨#[76,86,69,69]⟩:ByteArray)=⟨DX.toArray⟩:=rfl
theorem Jl(x y:List UInt8):(ByteArray.toList ⟨x.toArray⟩==ByteArray.toList ⟨y.toArray⟩)=decide (x=y):=by
 rw[ByteArray.toList_mk,ByteArray.toList_mk,Lu,xH,Wv]
theorem Am:Ge Tryz.prog 88=some 1:=by kernel_rfl
theorem Bn:DQ Tryz.prog 88=true:=by kernel_rfl
section
variable{w:World}{K:Value->World->Prop}
theorem Zh{a:Option Addr}{l c q:Nat}{xs:List UInt8}{at':Nat}{v:Value}(hl:xs.length=l)(hc:l<=c)(hr:Bl w a (Au xs))(hb:A1 w q 0 [.slice a l c])(hi:at'+2<=l)(h63:l<=1048576)
  (hv:v=.func (.func Eu) #[] #[.pointer (some ⟨q,0,none⟩)]) (hk:K (.int .i64 (BW ((xs.drop at').take 2):Int)) w):WN Tryz.prog v #[.int .i64 at'] w K:=by
 refine⟨_,_,_,hv,?_⟩;show A8 Tryz.prog Eu #[.int .i64 at',.pointer (some ⟨q,0,none⟩)] w K;apply W5;unfold Pg;rw[Ag (x:=(at':Int)+2) (by omega) (by omega)];refine⟨_,_,_,hb.at.one Bn,_,_,_,Be Am (by omega) (by omega) (by omega),?_⟩;have e1:(at':Int).toNat=at':=by omega
 have e2:((at':Int)+2).toNat-at'=2:=by omega
 rw[e1,e2];have hn:BW ((xs.drop at').take 2)<256 ^ 2:=Dv (by omega);refine ZF (xs:=(xs.drop at').take 2) (by simp;omega) (hr.cut (by omega) (by omega)) (by omega) ⟨_,rfl,?_⟩;rw[Lg (by simp;omega),Ag (by omega) (by omega)];exact hk
theorem wE{a:Option Addr}{l c:Nat}{xs:List UInt8}(hl:xs.length=l)(hc:l<=c)(hr:Bl w a (Au xs))(h63:l<=1048576)
  (hk:∀ w',Ab No w w'->K (.tuple #[.agg ⟨sV (CT xs).1⟩,.int .i64 (CT xs).2]) w'):A8 Tryz.prog JQ #[.slice a l c] w K:=by
 apply Z9;unfold Ts;obtain⟨w1,a1,a2,a3,a4⟩:=ZU (P:=Tryz.prog) (w:=w) (T:=88) (v:=.slice a l c) rfl;obtain⟨w2,b1,b2,b3,b4⟩:=A9 (P:=Tryz.prog) (w:=w1) (T:=143) Js;have m2:=a3.no b3;have q2:=a2.keep b3 id;have fin:∀(w':World)(s:Sp)(e:Int),Ab No w2 w'->(s,e)=CT xs->∃ w3:World,Eh (Instr.storeAt 143 (.pointer (some ⟨w1.heap.size,0,none⟩)) (.agg ⟨sV s⟩)) w' w3/\∃ gR2:Array Value,Ru (Instr.loadAt 143 (.pointer (some ⟨w1.heap.size,0,none⟩))) w3 (.agg gR2) w3/\K (.tuple #[.agg gR2,.int .i64 e]) w3:=fun w' s e m he=>by
  obtain⟨w3,c1,c2,c3,c4⟩:=(b2.keep m id).put (T:=143) (vs:=sV s) BB rfl rfl (Ft s);refine⟨w3,c1,_,c2.at.all BB rfl,?_⟩
  have:=hk w3 ((m2.no m).own c3 a3.size)
  rw[<- he]at this;exact this
 refine⟨_,w1,a1,_,w2,b1,_,_,_,q2.at.one Bn,Aa (fun h=>⟨_,FN,?_⟩) (fun h=>?_)⟩
 ·rw[Di]at h;have h:=Lc h;exact fin w2 sZ 4 (Ab.refl _ _) (by unfold CT;rw[if_pos (by omega)])
 rw[Di]at h;have hl2:xs.length=256:=by have:=Lb h;omega
 have hl':l=256:=by omega
 subst hl';have hr2:=hr.nos m2;refine⟨_,_,_,q2.at.one Bn,_,_,_,H4 Am (by omega) (by omega),_,GL (xs:=(xs.drop 0).take 4) JZ (hr2.cut (by omega) (by omega)) (by simp;omega),?_⟩;rw[Uq,cU,Jl];refine Aa (fun h=>⟨_,FN,?_⟩) (fun h=>?_)
 ·have h:xs.take 4≠DX:=by simpa using h
  exact fin w2 sZ 8 (Ab.refl _ _) (by unfold CT;rw[if_neg (by omega),if_pos h])
 have h4:xs.take 4=DX:=by simpa using h
 refine⟨_,_,_,q2.drew.at.one Bn,_,_,_,F7 Am (by omega) (by omega),_,_,_,q2.drew.at.one Bn,_,_,_,H4 Am (by omega) (by omega),?_⟩;have hs4:BW ((xs.drop 252).take 4)<256 ^ 4:=Dv (by omega);have e252:(xs.drop 252).take 4=xs.drop 252:=Lg (by simp;omega);have hr2d:Bl (Go.Den.Ah w2) a (Au xs):=hr.nos m2.drew;refine ZF (xs:=(xs.drop 252).take 4) (by simp;omega) (hr2d.cut (by omega) (by omega)) (by omega) ⟨_,rfl,q2.drew.at.one Bn,?_⟩
 refine uB (xs:=(xs.drop 0).take 252) (by simp;omega) (hr2d.cut (by omega) (by omega)) (by omega) fun w6 m6=>⟨_,rfl,?_⟩;have m6':Ab No w2 w6:=(Ab.refl No w2).drew.no m6;have q6:=q2.keep m6' id;have hc0:=Vh ((xs.drop 0).take 252);rw[El (by omega) (by omega),Lg (i:=8) (by simp;omega),e252,Uq,Di];rw[Uq]at hc0;rw[e252]at hs4;refine Aa (fun h=>⟨_,FN,?_⟩) (fun h=>?_)
 ·have h:=Lc h;exact fin w6 sZ 7 m6' (by unfold CT;rw[if_neg (by omega),if_neg (by simpa using h4),if_pos (by omega)])
 have hsum:BW (xs.drop 252)=Zs (xs.take 252):=by have:=Lb h;omega
 have hr6:=hr2.nos m6';refine⟨_,_,_,q6.at.one Bn,_,_,_,Be Am (by omega) (by omega) (by omega),?_⟩;refine ZF (xs:=(xs.drop 4).take 8) (by simp;omega) (hr6.cut (by omega) (by omega)) (by omega) ⟨_,rfl,?_⟩;rw[Lg (i:=8) (by simp;omega)];refine Zh (at':=12) (xs:=xs) (by omega) hc hr6 q6 (by omega) (by omega) rfl ⟨_,rfl,?_⟩;refine Zh (at':=14) (xs:=xs) (by omega) hc hr6 q6 (by omega) (by omega) rfl ⟨_,rfl,?_⟩
 refine Zh (at':=16) (xs:=xs) (by omega) hc hr6 q6 (by omega) (by omega) rfl ⟨_,rfl,?_⟩;refine⟨_,Hl _ _ _,_,WY _ _,?_⟩;obtain⟨w12,d1,d2,d3,d4⟩:=A9 (P:=Tryz.prog) (w:=w6) (T:=143) Js;obtain⟨w13,e1,e2,e3,e4⟩:=d2.put (T:=143) (vs:=sV (Gl xs)) BB rfl rfl (Ft _);have m13:Ab No w6 w13:=d3.own e3 (Ld _);refine⟨_,w12,d1,w13,e1,_,e2.at.all BB rfl,Wg fun w14 m14=>⟨_,rfl,Aa (fun h=>⟨_,FN,?_⟩) (fun h=>?_)⟩⟩
 ·exact fin w14 sZ 1 (m6'.no (m13.no m14)) (by unfold CT;rw[if_neg (by omega),if_neg (by simpa using h4),if_neg (by omega),if_pos (by simpa using h)])
 have hok:OZ (Gl xs)=true:=by simpa using h
 have m14':Ab No w2 w14:=m6'.no (m13.no m14);refine⟨_,_,_,(q2.keep m14' id).at.one Bn,_,_,_,Be Am (by omega) (by omega) (by omega),?_⟩;refine kZ (xs:=(xs.drop 18).take 234) (by simp;omega) ((hr2.nos m14').cut (by omega) (by omega)) (by omega) ⟨_,rfl,Aa (fun h=>⟨_,FN,?_⟩) (fun h=>⟨_,(e2.keep m14 id).at.all BB rfl,?_⟩)⟩
 ·exact fin w14 sZ 8 m14' (by unfold CT;rw[if_neg (by omega),if_neg (by simpa using h4),if_neg (by omega),if_neg (by rw[hok];simp),if_pos (by simpa using h)])
 ·exact fin w14 (Gl xs) 0 m14' (by unfold CT;rw[if_neg (by omega),if_neg (by simpa using h4),if_neg (by omega),if_neg (by rw[hok];simp),if_neg (by simpa using h)])
theorem nB(a a':Option Addr)(l c l' c':Nat):Al (Instr.build 287 #[(0,.slice a l c),(1,.slice a' l' c')]) (.agg ⟨[.slice a l c,.slice a' l' c']⟩):=fun w=>by kernel_rfl
theorem Af8(a a':Option Addr)(l c l' c':Nat):Al (Instr.index 287 (.agg ⟨[.slice a l c,.slice a' l' c']⟩) (.int .i64 0)) (.slice a l c):=fun w=>by kernel_rfl
theorem Af9(a a':Option Addr)(l c l' c':Nat):Al (Instr.index 287 (.agg ⟨[.slice a l c,.slice a' l' c']⟩) (.int .i64 1)) (.slice a' l' c'):=fun w=>by kernel_rfl
theorem seq(s t:Sp){o1 o2:Operand}:∃ b,(b=true↔s=t)/\Al (Gp .eql 143 o1 o2 (.agg ⟨sV s⟩) (.agg ⟨sV t⟩)) (.bool b):=by
 refine⟨decide (s=t),Wv,fun w=>?_⟩
 have hc:∀ s:Sp,G9 [.i .i64,.i .i64,.i .i64,.i .i64] (sV s):=fun s=>⟨rfl,fun j k v hk hv=>by
  match j with
  | 0=>cases hk;cases hv;rfl
  | 1=>cases hk;cases hv;rfl
  | 2=>cases hk;cases hv;rfl
  | 3=>cases hk;cases hv;rfl
  | j+4=>cases hk⟩
 obtain⟨b,hb,h1,_⟩:=Uu (P:=Tryz.prog) (T:=143) (by kernel_rfl) (by kernel_rfl) BB (o1:=o1) (o2:=o2) (hc s) (hc t) w;rw[h1];have:b=decide (s=t):=by
  rw[Lu,hb,Wv];obtain⟨g,a,b,c⟩:=s;obtain⟨g',a',b',c'⟩:=t;simp[sV,gV]
 rw[this]
theorem RI{i n:Int}{xs:List UInt8}{b:Sp}(hb:0<=b.gen):0<=(B6 i xs n b).gen:=by
 unfold B6;split
 ·rename_i h;omega
 ·exact hb
def Ns(xs ys:List UInt8)(n:Int):Nat->Sp
 | 0=>sZ
 | 1=>B6 0 xs n sZ
 | _=>Cz xs ys n
theorem dC{a1 a2:Option Addr}{l1 l2 c1 c2:Nat}{xs ys:List UInt8}{n:Int}(hl1:xs.length=l1)(hc1:l1<=c1)(hr1:Bl w a1 (Au xs))(h631:l1<=1048576)(hl2:ys.length=l2)(hc2:l2<=c2)(hr2:Bl w a2 (Au ys))(h632:l2<=1048576)
  (hk:∀ w',Ab No w w'->K (.tuple #[.agg ⟨sV (BR xs ys n).1⟩,.int .i64 (BR xs ys n).2.1,.int .i64 (BR xs ys n).2.2]) w'):A8 Tryz.prog Jh #[.slice a1 l1 c1,.slice a2 l2 c2,.int .i64 n] w K:=by
 apply UA;unfold MZ;obtain⟨w1,x1,x2,x3,x4⟩:=A9 (P:=Tryz.prog) (w:=w) (T:=143) Js;obtain⟨w2,y1,y2,y3,y4⟩:=A9 (P:=Tryz.prog) (w:=w1) (T:=143) Js;obtain⟨w3,z1,z2,z3,z4⟩:=y2.put (T:=143) (vs:=sV sZ) BB rfl rfl (Ft _);have m3:Ab No w1 w3:=y3.own z3 (Ld _);have m03:Ab No w w3:=x3.no m3;have ne:w.heap.size<w1.heap.size:=by omega
 refine⟨_,w1,x1,_,FN,_,w2,y1,w3,z1,_,nB _ _ _ _ _ _,?_⟩;have round:∀(i:Nat)(a:Option Addr)(l c:Nat)(xs:List UInt8)(b:Sp)(w4:World)(R:List Value->World->Prop),i<2->xs.length=l->l<=c->Bl w a (Au xs)->l<=1048576->0<=b.gen->A1 w4 w1.heap.size 0 (sV b)->Ab No w1 w4 ->
   (∀ w' y,A1 w' w1.heap.size 0 (sV (B6 i xs n b))->Ab No w1 w'->R [.int .i64 ((i+1:Nat):Int),y] w')->A8 Tryz.prog JQ #[.slice a l c] w4 fun r25 w5=>∃ g25a:Array Value,∃ n25b:Int,r25=.tuple #[.agg g25a,.int .i64 n25b]/\∃ q12:Addr,∃ w6:World,Ru (Instr.alloc 143 true (.tuple #[])) w5 (.pointer (some q12)) w6/\∃ w7:World,Eh (Instr.storeAt 143 (.pointer (some q12)) (.agg g25a)) w6 w7/\Ac (fun k_2=>(bif n25b==0 then ∃ g31:Array Value,Ru (Instr.loadAt 143 (.pointer (some q12))) w7 (.agg g31) w7/\A8 Tryz.prog CI #[.agg g31] w7 fun r32 w8=>∃ n32:Int,r32=.int .i64 n32/\(bif n32==(i:Int)then ∃ g38:Array Value,Ru (Instr.loadAt 40 (.pointer (some (Addr.add q12 1)))) w8 (.agg g38) w8/\A8 Tryz.prog GZ #[.agg g38] w8 fun r39 w9=>∃ n39:Int,r39=.int .i64 n39/\(bif decide (n39<=n)then ∃ n45:Int,Ru (Instr.loadAt 2 (.pointer (some (Addr.add q12 0)))) w9 (.int .i64 n45) w9/\∃ n47:Int,Ru (Instr.loadAt 2 (.pointer (some (Addr.add ⟨w1.heap.size,0,none⟩ 0)))) w9 (.int .i64 n47) w9/\k_2 [.bool (decide (n45 > n47))] w9 else k_2 [.bool false] w9)else k_2 [.bool false] w8)else k_2 [.bool false] w7)) fun x_2 w10 =>
     ∃ b49:Bool,Ap x_2 0=.bool b49/\Ac (fun k_3=>(bif b49 then
      ∃ g50:Array Value,Ru (Instr.loadAt 143 (.pointer (some q12))) w10 (.agg g50) w10/\∃ w11:World,Eh (Instr.storeAt 143 (.pointer (some ⟨w1.heap.size,0,none⟩)) (.agg g50)) w10 w11/\k_3 [] w11
      else k_3 [] w10)) fun x_3 w12=>R [.int .i64 (IntKind.i64.wrap ((i:Int)+1)),.bool b49] w12:=by
  intro i a l c xs b w4 R hi hl hc hr h63 hb hat m4 hend;refine wE (xs:=xs) hl hc (hr.nos (x3.no m4)) h63 fun w5 m5=>⟨_,_,rfl,?_⟩;obtain⟨w6,d1,d2,d3,d4⟩:=A9 (P:=Tryz.prog) (w:=w5) (T:=143) Js;obtain⟨w7,e1,e2,e3,e4⟩:=d2.put (T:=143) (vs:=sV (CT xs).1) BB rfl rfl (Ft _);have m7:Ab No w5 w7:=d3.own e3 (Ld _);have m47:Ab No w4 w7:=m5.no m7;have hb7:=hat.keep m47 id
  refine⟨_,w6,d1,w7,e1,Ac.cut (fun z w10=>Ab No w7 w10/\z=[.bool (decide ((CT xs).2=0/\(CT xs).1.gen % 2=(i:Int)/\AJ (CT xs).1.geo<=n/\(CT xs).1.gen > b.gen))]) ?_ ?_⟩
  ·have no:∀{p:Prop} [Decidable p],¬ p->[Value.bool false]=[.bool (decide p)]:=fun h=>by rw[Lf h]
   rw[GO];refine Aa (fun h=>⟨_,e2.at.all BB rfl,?_⟩) (fun h=>⟨Ab.refl _ _,no fun e=>Lb h e.1⟩);have h:=Lc h;have hok:=(U6 h).1;have hg:=(H3.1 hok).1.1;refine Wf (by omega) fun w8 m8=>⟨_,rfl,?_⟩;have q8:=e2.keep m8 id;rw[GO];refine Aa (fun h2=>⟨_,q8.at.fldA (n:=3) (vs:=gV (CT xs).1.geo) Aq (by simp[sV,gV]) rfl,SC fun w9 m9=>⟨_,rfl,?_⟩⟩) (fun h2=>⟨m8,no fun e=>Lb h2 e.2.1⟩)
   have h2:=Lc h2;have m79:=m8.no m9;refine Aa (fun h3=>⟨_,(q8.keep m9 id).at.fld BL rfl,_,(hb7.keep m79 id).at.fld BL rfl,m79,?_⟩) (fun h3=>⟨m79,no fun e=>Lb h3 e.2.2.1⟩);have h3:=Lc h3;by_cases h4:(CT xs).1.gen > b.gen
   ·rw[Le h4,Le (show _/\_/\_/\_ from⟨h,h2,h3,h4⟩)]
   ·rw[Lf h4];exact no fun e=>h4 e.2.2.2
  rintro z w10 ⟨m10,rfl⟩;have M10:Ab No w1 w10:=m4.no (m47.no m10);rw[Ag (x:=(i:Int)+1) (by omega) (by omega)];refine⟨_,rfl,Ac.dup (Aa (fun h=>⟨_,(e2.keep m10 id).at.all BB rfl,?_⟩) (fun h=>?_))⟩
  ·have h:=Lc h;obtain⟨w11,f1,f2,f3,f4⟩:=((hb7.keep m10 id)).put (T:=143) (vs:=sV (CT xs).1) BB rfl rfl (Ft _);have e:B6 i xs n b=(CT xs).1:=by unfold B6;rw[if_pos h]
   refine⟨w11,f1,?_⟩
   have:=hend w11 (.bool true) (by rw[e];exact f2) (M10.own f3 (Ld _))
   rwa [Le h]
  ·have h:=Lb h;have e:B6 i xs n b=b:=by unfold B6;rw[if_neg h]
   have:=hend w10 (.bool false) (by rw[e];exact hb7.keep m10 id) M10
   rwa [Lf h]
 obtain⟨I,hI⟩:∃ I:List Value->World->Prop,I=fun x w4=>∃(i:Nat)(y:Value),i<=2/\x=[.int .i64 i,y]/\A1 w4 w1.heap.size 0 (sV (Ns xs ys n i))/\Ab No w1 w4:=⟨_,rfl⟩;refine⟨I,fun x _=>(2-nI x 0).toNat,by rw[hI];exact⟨0,_,by omega,rfl,z2,m3⟩,?_⟩;intro x w4 hx;have hx':=hx;rw[hI]at hx';obtain⟨i,y,hi,rfl,hat,m4⟩:=hx';refine⟨_,rfl,Aa (fun h=>?_) (fun h=>?_)⟩
 ·have h:=Lc h;rcases(by omega:i=0\/i=1)with rfl | rfl
  ·refine⟨_,_,_,Af8 _ _ _ _ _ _,round 0 a1 l1 c1 xs sZ w4 (fun x' w'=>I x' w'/\(2-nI x' 0).toNat<(2-nI [.int .i64 ((0:Nat):Int),y] 0).toNat) (by omega) hl1 hc1 hr1 h631 (by decide) hat m4 fun w' y f1 f2=>⟨?_,by simp[nI,Ap]⟩⟩;rw[hI];exact⟨1,y,by omega,rfl,f1,f2⟩
  ·refine⟨_,_,_,Af9 _ _ _ _ _ _,round 1 a2 l2 c2 ys (B6 0 xs n sZ) w4 (fun x' w'=>I x' w'/\(2-nI x' 0).toNat<(2-nI [.int .i64 ((1:Nat):Int),y] 0).toNat) (by omega) hl2 hc2 hr2 h632 (RI (by decide)) hat m4 fun w' y f1 f2=>⟨?_,by simp[nI,Ap]⟩⟩;rw[hI];exact⟨2,y,by omega,rfl,f1,f2⟩
 ·have h:=Lb h;have hi2:i=2:=by omega
  subst hi2;have hat:A1 w4 w1.heap.size 0 (sV (Cz xs ys n)):=hat;obtain⟨w13,d1,d2,d3,d4⟩:=A9 (P:=Tryz.prog) (w:=w4) (T:=143) Js;obtain⟨w14,e1,e2,e3,e4⟩:=d2.put (T:=143) (vs:=sV sZ) BB rfl rfl (Ft _);have m14:Ab No w4 w14:=d3.own e3 (Ld _);have M14:Ab No w1 w14:=m4.no m14;have q9:=hat.keep m14 id;have q6:=x2.keep M14 id;obtain⟨b,hb,he⟩:=seq (Cz xs ys n) sZ (o1:=.tmp 53) (o2:=.tmp 54)
  refine⟨_,FN,_,w13,d1,w14,e1,_,q9.at.all BB rfl,_,e2.at.all BB rfl,b,he,Aa (fun h=>⟨_,q9.at.all BB rfl,?_⟩) (fun h=>⟨_,q9.drew.at.all BB rfl,_,q9.drew.at.all BB rfl,?_⟩)⟩
  ·have hz:=hb.1 h;obtain⟨w15,f1,f2,f3,f4⟩:=q6.put (T:=143) (vs:=sV (Cz xs ys n)) BB rfl rfl (Ft _);refine⟨w15,f1,_,f2.at.all BB rfl,?_⟩;have hr:=hk w15 ((x3.no M14).own f3 (Ld _));unfold BR at hr;rw[if_pos hz]at hr;rw[hz];exact hr
  ·have hz:Cz xs ys n≠sZ:=fun e=>by rw[hb.2 e]at h;cases h
   refine Wf (RI (RI (by decide))) fun w16 m16=>⟨_,rfl,(q9.drew.keep m16 id).at.all BB rfl,?_⟩;have m16':Ab No w14 w16:=(Ab.refl No w14).drew.no m16;obtain⟨w17,f1,f2,f3,f4⟩:=(q6.keep m16' id).put (T:=143) (vs:=sV (Cz xs ys n)) BB rfl rfl (Ft _);refine⟨w17,f1,_,f2.at.all BB rfl,?_⟩;have hr:=hk w17 ((x3.no (M14.no m16')).own f3 (Ld _));unfold BR at hr
   rw[if_neg hz]at hr;exact hr
end
end Go.Z
end
section
open Go Go.Den Go.Proofs
namespace Go.Den
section
variable{P:Program}{w:World}
theorem Ow.set{base l c g i:Nat}{T T':TypeId}{ys:List Value}{v:Value}(h:Ow P w base T 1 (some ⟨g,0,none⟩) l c ys)(hT:DQ P T'=true)(hi:i<l)(hv:v.oneCell'=true) :
  ∃ w',(Instr.storeAt T' (.pointer (some ⟨g,i,none⟩)) v).run P w=.ok () w'/\Ow P w' base T 1 (some ⟨g,0,none⟩) l c (ys.set i v)/\Ab (fun x=>x=g) w w':=by
 have hlen:=h.len;obtain⟨e,he,h1,h2⟩:=h;rcases h2 with ⟨hn,_⟩ | ⟨g',cap,GT,hw,hb,hg,hle,hm,hsz,ht⟩
 ·cases hn
 ·simp at hw;obtain⟨rfl,rfl⟩:=hw;have hcur:w.heap[g]?=some (.cells ⟨GT.toList⟩ e (0,0)):=hg;have hci:i<GT.toList.length:=by simp[hsz];omega
  refine⟨_,Mn hT hcur hci (by simp) hv,⟨e,he,by simpa using h1,.inr ⟨g,c,⟨GT.toList.set i v⟩,rfl,hb,AZ (AK hg),hle,hm,by simp[hsz],?_⟩⟩,(Ab.refl (fun x=>x=g) w).put (.inr rfl) _⟩;show(GT.toList.set i v).take (l*1)=ys.set i v;rw[List.take_set,ht]
theorem Ow.shrink{base l c i:Nat}{T:TypeId}{a:Option Addr}{ys:List Value}(h:Ow P w base T 1 a l c ys)(hi:i<=l)(ha:a≠none):Ow P w base T 1 a i c (ys.take i):=by
 have hlen:=h.len;obtain⟨e,he,h1,h2⟩:=h;rcases h2 with ⟨hn,_⟩ | ⟨g',cap,GT,hw,hb,hg,hle,hm,hsz,ht⟩
 ·simp at hn;exact absurd hn.1 ha
 ·simp at hw;obtain⟨rfl,rfl⟩:=hw;refine⟨e,he,by simp;omega,.inr ⟨g',c,GT,rfl,hb,hg,by omega,hm,hsz,?_⟩⟩;rw[<- ht,Lv5,Le4 (by omega)];simp
theorem Ow.clear{base bytes l c g i:Nat}{T ty:TypeId}{z:Value}{ys:List Value}(hT:D5 P T 1 z bytes)(h:Ow P w base T 1 (some ⟨g,0,none⟩) l c ys)(hi:i<=l)(hz:z.oneCell'=true) :
  ∃ w' zs,(Builtin.clear_ #[T] ty #[.slice (Cb (some ⟨g,0,none⟩) c i 1) (l-i) (c-i)]).run P w=.ok (.tuple #[]) w'/\Ow P w' base T 1 (some ⟨g,0,none⟩) l c (ys.take i++zs)/\Ab (fun x=>x=g) w w':=by
 have hlen:=h.len;have hcap:=h.cap;obtain⟨e0,inf,zv,he0,hinf,hsz0,hz0,hzc,hby⟩:=hT.is;by_cases h0:l-i=0
 ·refine⟨w,[],?_,?_,Ab.refl _ _⟩
  ·rw[h0];unfold Cb;split<;>simp[Builtin.clear_,AI he0]
  ·have:ys.take i=ys:=Lg (by omega);rw[this,fH];exact h
 ·obtain⟨e,he,h1,h2⟩:=h;have hee:e=e0:=by rw[he0]at he;simpa using he.symm
  subst hee;rcases h2 with ⟨hn,_⟩ | ⟨g',cap,GT,hw,hb,hg,hle,hm,hsz,ht⟩
  ·cases hn
  ·simp at hw;obtain⟨rfl,rfl⟩:=hw;have hcur:w.heap[g]?=some (.cells ⟨GT.toList⟩ e (0,0)):=hg;have hcut:Cb (some ⟨g,0,none⟩) c i 1=some ⟨g,i,none⟩:=by
    unfold Cb;rw[if_neg (by omega)];simp[Ad]
   have hzl:(Builtin.zeroCells zv.cells (l-i)).toList.length=l-i:=by
    rw[Array.length_toList,size_zeroCells,hzc];simp
   have hzone:∀ v∈(Builtin.zeroCells zv.cells (l-i)).toList,v.oneCell'=true:=by
    intro v hv;have:v=z:=by
     unfold Builtin.zeroCells at hv;rw[hzc]at hv;simp at hv;obtain⟨_,_,rfl⟩:=hv;rw[Nat.mod_one];rfl
    rw[this];exact hz
   have hs:=HQ (P:=P) (Builtin.zeroCells zv.cells (l-i)).toList (o:=i) (i:=0) hcur (by rw[hzl];simp[hsz];omega) (fun j _ _=>by simp) hzone;refine⟨_,(Builtin.zeroCells zv.cells (l-i)).toList,?_,⟨e,he,by simp[hzl];omega,.inr ⟨g,c,⟨AA GT.toList i (Builtin.zeroCells zv.cells (l-i)).toList⟩,rfl,hb,AZ (AK hg),hle,hm,?_,?_⟩⟩,(Ab.refl (fun x=>x=g) w).put (.inr rfl) _⟩
   ·rw[hcut];obtain⟨k,hk⟩:∃ k,l-i=k+1:=⟨l-i-1,by omega⟩;rw[hk]at hs |-;have hund:(underlying T).run P w=.ok (.slice e) w:=AI he w;simp[Builtin.clear_,hund,zeroValue,typeInfo,hinf,hz0,hs]
   ·show(AA GT.toList i _).length=c*1;rw[BD (by rw[hzl];simp[hsz];omega)];simp[hsz]
   ·show(AA GT.toList i _).take (l*1)=_;unfold AA;rw[qI]at ht |-;have e1:ys.take i=GT.toList.take i:=by rw[<- ht,Lv5,Le4 hi]
    have hl2:(GT.toList.take i++(Builtin.zeroCells zv.cells (l-i)).toList).length=l:=by rw[Ls,hzl];simp[hsz];omega
    rw[e1,Lv (by omega),Lg (by omega)]
end
end Go.Den
end
section
open Go Go.Den Go.Proofs
namespace Go.Den
def E2{α:Type}(p:α->Bool):List α->Nat->Int
 | [],_=>-1
 | x::r,i=>if p x=true then i else E2 p r (i+1)
theorem FQ{α:Type}(p:α->Bool):∀(xs:List α)(i:Nat),(E2 p xs i=-1/\∀ x∈xs,p x=false)\/∃ j x,E2 p xs i=((i+j:Nat):Int)/\xs[j]?=some x/\p x=true/\∀ y∈xs.take j,p y=false
 | [],_=>.inl ⟨rfl,by simp⟩
 | x::r,i=>by
  simp only[E2];by_cases hp:p x=true
  ·rw[if_pos hp];exact .inr ⟨0,x,by simp,rfl,hp,by simp⟩
  ·rw[if_neg hp];have hp:p x=false:=by simpa using hp
   rcases FQ p r (i+1)with ⟨h1,h2⟩|⟨j,y,h1,h2,h3,h4⟩
   ·refine .inl ⟨h1,fun y hy=>?_⟩;rcases Lz.1 hy with rfl | hy
    ·exact hp
    ·exact h2 y hy
   ·refine .inr ⟨j+1,y,by rw[h1];congr 1;omega,by simpa using h2,h3,fun z hz=>?_⟩;rw[List.take_succ_cons]at hz;rcases Lz.1 hz with rfl | hz
    ·exact hp
    ·exact h4 z hz
theorem Em{α:Type}{xs:List α}{i:Nat}(hi:i<xs.length):xs.drop i=xs[i]::xs.drop (i+1):=List.drop_eq_getElem_cons hi
theorem LB{w:World}{a:Option Addr}{xs:List Int}{i:Nat}(h:Bl w a (iL xs))(hi:i<xs.length):∃ b o,a=some ⟨b,o,none⟩/\At w b o (iL xs):=by
 refine h.resolve_left fun e=>?_
 have:=Pi List.length e
 simp at this;rw[this]at hi;simp at hi
end Go.Den
namespace Go.Z
def Pk(v:Value)(w0:World)(S:Nat->Prop)(p:Int->Bool)(xs:List Int):Prop :=
 ∀ w',Ab S w0 w'->∀ x∈xs,∀ K:Value->World->Prop,(∀ w'',Ab No w' w''->K (.bool (p x)) w'')->WN Tryz.prog v #[.int .i64 x] w' K
section
variable{w:World}{K:Value->World->Prop}
theorem Tv{a:Option Addr}{l c:Nat}{xs:List Int}{v:Value}{p:Int->Bool}{S:Nat->Prop}(hl:xs.length=l)(h63:l<=9223372036854775806)(hr:Bl w a (iL xs))(ht:Pk v w S p xs)
  (hk:∀ w',Ab No w w'->K (.int .i64 (E2 p xs 0)) w'):A8 Tryz.prog CO #[.slice a l c,v] w K:=by
 apply LK;unfold Gv;refine⟨fun x w1=>∃ i:Nat,i<=l/\x=[.int .i64 i]/\Ab No w w1/\E2 p xs 0=E2 p (xs.drop i) i,fun x _=>(l-nI x 0).toNat,⟨0,by omega,rfl,Ab.refl _ _,rfl⟩,?_⟩;rintro x w1 ⟨i,hi,rfl,hm,hidx⟩;refine⟨_,rfl,Aa (fun hb=>?_) (fun hb=>?_)⟩
 ·have hi:i<l:=by have:=Lc hb;omega
  have hix:i<xs.length:=by omega
  obtain⟨b,o,rfl,hat⟩:=LB hr hix;refine⟨_,Ar (k:=1) (by kernel_rfl) (by omega) (by omega),?_⟩;rw[Ad,show(i:Int).toNat*1=i by omega];refine⟨_,(hat.keep hm id).load (by kernel_rfl) (Ma hix),ht w1 (hm.mono fun _ _ h=>h.elim) _ (Tx hix) _ fun w2 m2=>⟨_,rfl,Aa (fun hp=>?_) (fun hp=>?_)⟩⟩
  ·have e:E2 p xs 0=i:=by rw[hidx,Em hix];simp only[E2];rw[if_pos hp]
   rw[<- e];exact hk w2 (hm.no m2)
  ·rw[Ag (x:=(i:Int)+1) (by omega) (by omega)];refine⟨⟨i+1,by omega,rfl,hm.no m2,?_⟩,by simp[nI,Ap];omega⟩;rw[hidx,Em hix];simp only[E2];rw[if_neg (by rw[hp];simp)]
 ·have hil:i=l:=by have:=Lb hb;omega
  have e:E2 p xs 0=-1:=by rw[hidx,Lt (by omega)];rfl
  rw[<- e];exact hk w1 hm
def Of(a:Option Addr):Nat->Prop:=fun x=>∃ q,a=some q/\x=q.block
theorem X1{α:Type}{p:α->Bool}{xs ys:List α}{i j:Nat}(h1:ys.take i=(xs.take j).filter fun x=>!p x)(h2:ys.drop j=xs.drop j)(h3:ys.length=xs.length)(hij:i<j)(hj:j<xs.length)(hp:p xs[j]=false) :
  (ys.set i xs[j]).take (i+1)=(xs.take (j+1)).filter (fun x=>!p x)/\(ys.set i xs[j]).drop (j+1)=xs.drop (j+1):=by
 constructor
 ·rw[Ll (by simp;omega),List.take_set_of_le (by omega),h1,Ll hj,jG];simp[hp]
 ·rw[List.drop_set_of_lt (by omega),<- UO,h2,UO]
theorem QJ{base:Nat}{a:Option Addr}{l c:Nat}{xs:List Int}{v:Value}{p:Int->Bool}(h:Ow Tryz.prog w base 80 1 a l c (iL xs))(h63:l<=1000000000)(ht:Pk v w (Of a) p xs)
  (hk:∀ w' l',Ow Tryz.prog w' base 80 1 a l' c (iL (xs.filter fun x=>!p x))->l'=(xs.filter fun x=>!p x).length->Ab (Of a) w w'->K (.slice a l' c) w'):A8 Tryz.prog Bx #[.slice a l c,v] w K:=by
 have hlen:xs.length=l:=by have:=h.len;simpa using this
 apply Kw;unfold Ga;refine Tv hlen (by omega) h.rowU.row ht fun w1 m1=>⟨_,rfl,?_⟩;rcases FQ p xs 0 with ⟨e,hno⟩ | ⟨i0,x0,e,hx0,hp0,hbef⟩
 ·rw[e];refine tt rfl ?_;have hf:xs.filter (fun x=>!p x)=xs:=qU.2 fun x hx=>by simp[hno x hx]
  exact hk w1 l (by rw[hf];exact h.nos m1) (by rw[hf];exact hlen.symm) (m1.mono fun _ _ h=>h.elim)
 rw[e,Pj];obtain⟨hi0,hx0'⟩:=Lh.1 hx0;have hla:0<l:=by omega
 obtain⟨g,rfl,hg,_⟩:=h.sm hla;have hcap:=h.cap
 refine ff (by simp<;>omega) ⟨fun x w2=>∃(i j:Nat)(ys:List Int),x=[.int .i64 i,.int .i64 j]/\i<j/\j<=l/\Ow Tryz.prog w2 base 80 1 (some ⟨g,0,none⟩) l c (iL ys)/\ys.take i=((xs.take j).filter fun x=>!p x)/\ys.drop j=xs.drop j/\Ab (Of (some ⟨g,0,none⟩)) w w2,
  fun x _=>(l-nI x 1).toNat,⟨i0,i0+1,xs,?_,by omega,by omega,h.nos m1,?_,rfl,m1.mono fun _ _ h=>h.elim⟩,?_⟩
 ·rw[Ag (x:=(i0:Int)+1) (by omega) (by omega)];rfl
 ·rw[Ll hi0,jG,hx0'];have e1:(xs.take i0).filter (fun x=>!p x)=xs.take i0:=qU.2 fun x hx=>by simp[hbef x hx]
  rw[e1];simp[hp0]
 rintro x w2 ⟨i,j,ys,rfl,hij,hjl,o2,h1,h2,M2⟩;have hyl:ys.length=l:=by have:=o2.len;simpa using this
 refine⟨_,rfl,Aa (fun hb=>?_) (fun hb=>?_)⟩
 ·have hj:j<l:=by have:=Lc hb;omega
  have hjx:j<xs.length:=by omega
  have hjy:j<ys.length:=by omega
  have hyx:ys[j]=xs[j]:=by
   have e1:=(Em hjy).symm.trans (h2.trans (Em hjx));exact(La6 e1).1
  obtain⟨b2,o,e2,hat⟩:=LB o2.rowU.row hjy;simp at e2;obtain⟨rfl,rfl⟩:=e2;refine⟨_,Ar (k:=1) (by kernel_rfl) (by omega) (by omega),?_⟩;rw[Ad,show(j:Int).toNat*1=j by omega];refine⟨_,hat.load (by kernel_rfl) (Ma hjy),ht w2 M2 _ (by rw[hyx];exact Tx hjx) _ fun w3 m3=>⟨_,rfl,?_⟩⟩;rw[hyx];refine Ac.cut (fun z w4=>∃(i':Nat)(ys':List Int),z=[.int .i64 i']/\i'<j+1/\Ow Tryz.prog w4 base 80 1 (some ⟨g,0,none⟩) l c (iL ys')/\ys'.take i'=((xs.take (j+1)).filter fun x=>!p x)/\ys'.drop (j+1)=xs.drop (j+1)/\Ab (Of (some ⟨g,0,none⟩)) w w4)
   (Aa (fun hp=>?_) (fun hp=>?_)) ?_
  ·have hp:p xs[j]=false:=by simpa using hp
   refine⟨_,rfl,_,Ar (k:=1) (by kernel_rfl) (by omega) (by omega),?_⟩;rw[Ad,show 0+(i:Int).toNat*1=i by omega];obtain⟨w4,s1,s2,s3⟩:=(o2.nos m3).set (T':=3) (i:=i) (v:=.int .i64 xs[j]) (by kernel_rfl) (by omega) rfl;refine⟨w4,s1,?_⟩;obtain⟨k1,k2⟩:=X1 h1 h2 (by omega) hij hjx hp;rw[Ag (x:=(i:Int)+1) (by omega) (by omega)];refine⟨i+1,ys.set i xs[j],rfl,by omega,?_,k1,k2,(M2.no m3).trans s3 fun x _ e=>⟨_,rfl,e⟩⟩
   have e3:(iL ys).set i (.int .i64 xs[j])=iL (ys.set i xs[j]):=by simp[iL,Lt5,I]
   rw[e3]at s2;exact s2
  ·have hp:p xs[j]=true:=by simpa using hp
   refine⟨i,ys,rfl,by omega,o2.nos m3,?_,?_,M2.no m3⟩
   ·rw[h1,Ll hjx,jG];simp[hp]
   ·rw[<- UO,h2,UO]
  ·rintro z w4 ⟨i',ys',rfl,hij',o4,k1,k2,M4⟩;rw[Ag (x:=(j:Int)+1) (by omega) (by omega)];exact⟨⟨i',j+1,ys',rfl,hij',by omega,o4,k1,k2,M4⟩,by simp[nI,Ap];omega⟩
 ·have hjl:j=l:=by have:=Lb hb;omega
  subst hjl;refine⟨_,rfl,_,_,_,F7 (k:=1) (by kernel_rfl) (by omega) (by omega),?_⟩;rw[Lr];obtain⟨w3,zs,s1,s2,s3⟩:=o2.clear (ty:=0) Hn (i:=i) (by omega) rfl;refine⟨w3,s1,_,_,_,H4 (k:=1) (by kernel_rfl) (by omega) (by omega),?_⟩;have hcut:Cb (some ⟨g,0,none⟩) c 0 1=some ⟨g,0,none⟩:=by
   unfold Cb;rw[if_neg (by omega)];simp[Ad]
  rw[hcut,Lr];have hxall:xs.take j=xs:=Lg (by omega);rw[hxall]at h1;have hsh:=s2.shrink (i:=i) (by omega) (by simp);have e5:((iL ys).take i++zs).take i=iL (xs.filter fun x=>!p x):=by
   rw[<- h1];have:((iL ys).take i).length=i:=by simp;omega
   rw[Lv (by omega),Lg (by omega)];simp[iL,Lf4]
  rw[e5]at hsh;refine hk w3 i hsh ?_ (M2.trans s3 fun x _ e=>⟨_,rfl,e⟩);rw[<- h1];simp;omega
end
section
variable{w:World}{K:Value->World->Prop}
theorem oS:Al (Gp .eql 88 (.tmp 3) (.const (.slice none 0 0)) (.slice none 0 0) (.slice none 0 0)) (.bool true):=fun _=>by kernel_rfl
theorem iS(a:Addr)(l c:Nat):Al (Gp .eql 88 (.tmp 3) (.const (.slice none 0 0)) (.slice (some a) l c) (.slice none 0 0)) (.bool false):=fun _=>by kernel_rfl
theorem yU(w:World):(Instr.buildSlice 88 0 #[]).run Tryz.prog w=.ok (.slice (some ⟨w.heap.size,0,none⟩) 0 0) (w.alloc (.cells #[] 5)):=by kernel_rfl
theorem oW{T e:TypeId}{k:Nat}(hu:Tryz.prog.underlying T=some (.slice e)):Ow Tryz.prog (w.alloc (.cells #[] e)) w.heap.size T k (some ⟨w.heap.size,0,none⟩) 0 0 [] :=
 ⟨_,hu,by simp,.inr ⟨w.heap.size,0,#[],rfl,Ld _,BC w _,Ld _,Lz5 _,by simp,by simp⟩⟩
theorem Q8{a:Option Addr}{l c:Nat}{xs:List UInt8}(hr:Bl w a (Au xs))(hl:xs.length=l)(h0:a=none->l=0/\c=0)(h63:l<=1000000000)
  (hk:∀ w' a' c',Ow Tryz.prog w' w.heap.size 88 1 a' l c' (Au xs)->Ab No w w'->K (.slice a' l c') w'):A8 Tryz.prog Cj #[.slice a l c] w K:=by
 apply OO;unfold Iu;cases a with
 | none =>
  obtain⟨rfl,rfl⟩:=h0 rfl;have hx:xs=[]:=fE hl;subst hx;exact⟨_,oS,tt rfl (hk w none 0 (Ow.nil AE) (Ab.refl _ _))⟩
 | some q =>
  refine⟨_,iS _ _ _,ff rfl ⟨_,_,_,_,yU w,?_⟩⟩;have m1:Ab No w (w.alloc (.cells #[] 5)):=(Ab.refl No w).alloc _;have hu:Tryz.prog.underlying 88=some (.slice 5):=by kernel_rfl
  obtain⟨a',c',w2,h2,o2,m2⟩:=(oW (w:=w) (k:=1) hu).append (ty:=88) AE (by omega) (a2:=some q) (m:=l) (c2:=c) (ys:=Au xs) (hr.nos m1) (by simp[hl]) (fun e=>by cases e) (BF xs) (by omega) (by omega) (by simp);rw[Pj,QN]at *;exact⟨_,_,_,w2,h2,hk w2 a' c' o2 (m1.up m2 (Ld _))⟩
theorem xO{a:Option Addr}{l c:Nat}{xs:List Int}{n:Int}(hl:xs.length=l)(h63:l<=9223372036854775806)(hr:Bl w a (iL xs))
  (hk:K (.int .i64 (E2 (fun x=>n==x) xs 0)) w):A8 Tryz.prog FM #[.slice a l c,.int .i64 n] w K:=by
 apply PM;unfold Jd;refine⟨fun x w1=>w1=w/\∃ i:Nat,i<=l/\x=[.int .i64 i]/\E2 (fun x=>n==x) xs 0=E2 (fun x=>n==x) (xs.drop i) i,fun x _=>(l-nI x 0).toNat,⟨rfl,0,by omega,rfl,rfl⟩,?_⟩;rintro x w1 ⟨rfl,i,hi,rfl,hidx⟩;refine⟨_,rfl,Aa (fun hb=>?_) (fun hb=>?_)⟩
 ·have hi:i<l:=by have:=Lc hb;omega
  have hix:i<xs.length:=by omega
  obtain⟨b,o,rfl,hat⟩:=LB hr hix;refine⟨_,Ar (k:=1) (by kernel_rfl) (by omega) (by omega),?_⟩;rw[Ad,show(i:Int).toNat*1=i by omega];refine⟨_,hat.load (by kernel_rfl) (Ma hix),Aa (fun hp=>?_) (fun hp=>?_)⟩
  ·have e:E2 (fun x=>n==x) xs 0=i:=by rw[hidx,Em hix];simp only[E2];rw[if_pos hp]
   rw[<- e];exact hk
  ·rw[Ag (x:=(i:Int)+1) (by omega) (by omega)];refine⟨⟨rfl,i+1,by omega,rfl,?_⟩,by simp[nI,Ap];omega⟩;rw[hidx,Em hix];simp only[E2];rw[if_neg (by rw[hp];simp)]
 ·have hil:i=l:=by have:=Lb hb;omega
  have e:E2 (fun x=>n==x) xs 0=-1:=by rw[hidx,Lt (by omega)];rfl
  rw[<- e];exact hk
theorem fA{a:Option Addr}{l c:Nat}{xs:List Int}{n:Int}(hl:xs.length=l)(h63:l<=9223372036854775806)(hr:Bl w a (iL xs))
  (hk:K (.bool (decide (n∈xs))) w):A8 Tryz.prog E0 #[.slice a l c,.int .i64 n] w K:=by
 apply MH;unfold GR;refine xO hl h63 hr ⟨_,rfl,?_⟩;have e:decide (E2 (fun x=>n==x) xs 0 >= 0)=decide (n∈xs):=by
  rcases FQ (fun x=>n==x) xs 0 with ⟨h1,h2⟩|⟨j,x,h1,h2,h3,_⟩
  ·have:n ∉ xs:=fun h=>by have:=h2 n h;simp at this
   simp[h1,this]
  ·have:n=x:=by simpa using h3
   subst this;have hm:=Ly h2;simp[h1,hm]
 rw[e];exact hk
theorem qN{a0 a1:Option Addr}{l c0 c1:Nat}{xs ys:List UInt8}(hx:xs.length=l)(hy:ys.length=l)(h63:l<=1000000000)(h0:Bl w a0 (Au xs))(h1:Bl w a1 (Au ys))
  (hk:∀ w' (f la:Int),Ab No w w'->(0<=f↔xs≠ys)->K (.tuple #[.int .i64 f,.int .i64 la]) w'):A8 Tryz.prog Jg #[.slice a0 l c0,.slice a1 l c1] w K:=by
 apply U9;unfold PN;refine⟨fun x w1=>∃(i:Nat)(f la:Int)(y:Value),i<=l/\x=[.int .i64 f,.int .i64 la,.int .i64 i,y]/\Ab No w w1/\(0<=f↔xs.take i≠ys.take i),fun x _=>(l-nI x 2).toNat,⟨0,-1,-1,_,by omega,rfl,Ab.refl _ _,by simp⟩,?_⟩;rintro x w1 ⟨i,f,la,y,hi,rfl,hm,hf⟩;have hself:(if (l:Int) > (l:Int)then(l:Int)else(l:Int))=l:=by simp
 have hself2:(if (l:Int)<(l:Int)then(l:Int)else(l:Int))=l:=by simp
 refine⟨_,rfl,Aa (fun hb=>?_) (fun hb=>?_)⟩
 ·rw[hself]at hb;have hi:i<l:=by have:=Lc hb;omega
  have hix:i<xs.length:=by omega
  have hiy:i<ys.length:=by omega
  obtain⟨b0,o0,rfl,hat0⟩:=h0.resolve_left (by intro e;have:=Pi List.length e;simp at this;rw[this]at hix;simp at hix);obtain⟨b1,o1,rfl,hat1⟩:=h1.resolve_left (by intro e;have:=Pi List.length e;simp at this;rw[this]at hiy;simp at hiy);have hm':Ab No w (Ah w1):=hm.drew;have tk:(xs.take (i+1)≠ys.take (i+1))↔(xs.take i≠ys.take i\/xs[i]≠ys[i]):=by
   rw[Ll hix,Ll hiy];constructor
   ·intro h;by_cases e:xs.take i=ys.take i
    ·right;intro e2;exact h (by rw[e,e2])
    ·exact .inl e
   ·intro h e
    have:=List.append_inj e (by simp;omega)
    simp at this;rcases h with h | h
    ·exact h this.1
    ·exact h this.2
  refine Ac.cut (fun z w3=>∃(f' la':Int)(y':Value),z=[.int .i64 f',.int .i64 la',y']/\Ab No w w3/\(0<=f'↔xs.take (i+1)≠ys.take (i+1))) ?_ ?_
  ·refine Ac.cut (fun z w3=>z=[.bool (decide (xs[i]=ys[i]))]/\w3=Ah w1) (tt (by rw[hself2];exact Le (by omega)) ?_) ?_
   ·refine⟨_,Ar (k:=1) (by kernel_rfl) (by omega) (by omega),?_⟩;rw[Ad,show(i:Int).toNat*1=i by omega];refine⟨_,(hat0.keep hm' id).load (by kernel_rfl) (CP hix),_,Ar (k:=1) (by kernel_rfl) (by omega) (by omega),?_⟩;rw[Ad,show(i:Int).toNat*1=i by omega];refine⟨_,(hat1.keep hm' id).load (by kernel_rfl) (CP hiy),?_,rfl⟩
    congr 2
    rw[Lu];simp only[xH,Lw];constructor
    ·intro e;exact Ly4.1 (by omega)
    ·intro e;rw[e]
   rintro z w3 ⟨rfl,rfl⟩;refine⟨_,rfl,Aa (fun hb=>?_) (fun hb=>?_)⟩
   ·have he:xs[i]=ys[i]:=Lc hb;refine⟨f,la,_,rfl,hm',?_⟩;rw[hf,tk];exact⟨fun h=>.inl h,fun h=>h.resolve_right fun h=>h he⟩
   ·have he:xs[i]≠ys[i]:=Lb hb;refine⟨_,rfl,Ac.cut (fun z w4=>∃ f':Int,z=[.int .i64 f']/\0<=f'/\w4=Ah w1) (Aa (fun hb=>⟨_,rfl,by omega,rfl⟩) (fun hb=>⟨_,rfl,by have:=Lb hb;omega,rfl⟩)) ?_⟩;rintro z w4 ⟨f',rfl,hf',rfl⟩;refine⟨f',_,_,rfl,hm',?_⟩;rw[tk];exact⟨fun _=>.inr he,fun _=>hf'⟩
  ·rintro z w3 ⟨f',la',y',rfl,hm3,hf3⟩;rw[Ag (x:=(i:Int)+1) (by omega) (by omega)];exact⟨⟨i+1,f',la',y',by omega,rfl,hm3,hf3⟩,by simp[nI,Ap];omega⟩
 ·rw[hself]at hb;have hil:i=l:=by have:=Lb hb;omega
  subst hil;refine⟨_,rfl,_,rfl,hk w1 f la hm ?_⟩;rw[hf,Lg (by omega),Lg (by omega)]
end
end Go.Z
end
section
open Go Go.Den Go.Proofs
namespace Go.Den
theorem Jm{b o c l k:Nat}(h:l≠c):Cb (some ⟨b,o,none⟩) c l k=some ⟨b,o+l*k,none⟩:=by
 unfold Cb;rw[if_neg (fun e=>h e.symm)];simp[Ad]
end Go.Den
namespace Go.Z
def KW:List UInt8:=[76,71,82,80]
def HY(g:Gm)(h:Hd):List UInt8:=KW++Bg 2 h.no.toNat++Bg 2 (Bd g h).1.toNat++Bg 2 (Bd g h).2.toNat
def Fz(g:Gm)(h:Hd):List UInt8:=HY g h++List.replicate 6 0++h.bs++h.ss++List.replicate 216 0
theorem EJ(g:Gm)(h:Hd):(HY g h).length=10:=by simp[HY,KW]
theorem Jo{g:Gm}{h:Hd}(hw:Fq h):(Fz g h).length=256:=by
 unfold Fz;rw[Ls,Ls,Ls,Ls,EJ,hw.1,hw.2,TV,TV]
theorem Od{g:Gm}{h:Hd}:0<=(Bd g h).1/\(Bd g h).1<=128/\0<=(Bd g h).2/\(Bd g h).2<=64:=by
 unfold Bd;split
 ·rename_i ho;have hq:=Av.1 (Co.1 ho).1;have h1:=I7 h.bs g.gr.toNat;have h2:=I7 h.ss g.no.toNat;exact⟨by omega,by omega,by omega,by omega⟩
 ·exact⟨by decide,by decide,by decide,by decide⟩
section
variable{w:World}{K:Value->World->Prop}
theorem kL{g:Gm}{h:Hd}(hw:Fq h)(hk:∀ w',Ab No w w'->K (.tuple #[.int .i64 (Bd g h).1,.int .i64 (Bd g h).2]) w'):A8 Tryz.prog I3 #[.agg ⟨gV g⟩,.agg ⟨hV h⟩] w K:=by
 apply Yk;unfold QE;obtain⟨w1,a1,a2,a3,a4⟩:=AC (P:=Tryz.prog) (w:=w) (T:=40) (cs:=gV g);obtain⟨w2,b1,b2,b3,b4⟩:=AC (P:=Tryz.prog) (w:=w1) (T:=119) (cs:=hV h);have m2:=a3.no b3;refine⟨_,w1,a1,_,w2,b1,_,(a2.at.keep b3 id).all Aq rfl,_,b2.at.all Ax (Aw hw),N0 hw fun w3 m3=>⟨_,rfl,Aa (fun ho=>?_) (fun ho=>?_)⟩⟩
 ·have e:Bd g h=(0,0):=by unfold Bd;rw[if_neg (by simpa using ho)]
  rw[e]at hk;exact hk _ (m2.no m3)
 have ho:I8 g h=true:=by simpa using ho
 have hq:=Av.1 (Co.1 ho).1;have q2:=(a2.keep b3 id).keep m3 id;have q3:=b2.keep m3 id;have h1:=I7 h.bs g.gr.toNat;have h2:=I7 h.ss g.no.toNat;have md:Ab No w3 (Go.Den.Ah w3):=(Ab.refl No w3).drew;have ad1:Addr.add ⟨w1.heap.size,0,none⟩ 1=⟨w1.heap.size,1,none⟩:=by rw[Ad]
 have ad17:Addr.add ⟨w1.heap.size,0,none⟩ 17=⟨w1.heap.size,17,none⟩:=by rw[Ad]
 rw[ad1,ad17];refine⟨_,q2.at.drew.fld Aj rfl,_,_,_,Ba KO,_,q2.at.drew.fld Aj rfl,_,q2.at.drew.fld Aj rfl,_,_,_,Ba UU,_,q2.at.drew.fld Aj rfl,?_⟩;refine Hj (xs:=h.bs) hw.1 (.inr ⟨_,_,rfl,At.bs hw q3.at.drew⟩) (by omega) fun w4 m4=>⟨_,rfl,?_⟩;have M4:=md.no m4;have r2:=q2.keep M4 id;refine⟨r2.at.fld Aj rfl,r2.at.fld Aj rfl,r2.at.fld Aj rfl,?_⟩
 refine Hj (xs:=h.ss) hw.2 (.inr ⟨_,_,rfl,At.ss hw (q3.keep M4 id).at⟩) (by omega) fun w5 m5=>⟨_,rfl,?_⟩;have M5:=M4.no m5;have s2:=q2.keep M5 id;refine⟨s2.at.fld Aj rfl,s2.at.fld Aj rfl,?_⟩;have e:Bd g h=(g.gr-BK h.bs g.gr.toNat,g.no-BK h.ss g.no.toNat):=by unfold Bd;rw[if_pos ho]
 rw[e]at hk;rw[Ag (by omega) (by omega),Ag (by omega) (by omega)];exact hk _ (m2.no (m3.no M5))
theorem aB(a b c:Int):Al (Instr.build 312 #[(0,.int .i64 a),(1,.int .i64 b),(2,.int .i64 c)]) (.agg ⟨[.int .i64 a,.int .i64 b,.int .i64 c]⟩):=fun w=>by kernel_rfl
theorem AhJ:PR Tryz.prog 312=some (3,1):=by kernel_rfl
def gG(g:Gm)(h:Hd):Nat->List UInt8
 | 0=>KW
 | 1=>KW++Bg 2 h.no.toNat
 | 2=>KW++Bg 2 h.no.toNat++Bg 2 (Bd g h).1.toNat
 | _=>HY g h
theorem sR(g:Gm)(h:Hd){i:Nat}(hi:i<=3):(gG g h i).length=4+2*i:=by
 match i,hi with
 | 0,_=>rfl
 | 1,_=>simp[gG,KW]
 | 2,_=>simp[gG,KW]
 | 3,_=>exact EJ g h
set_option maxRecDepth 4000 in
theorem gK{g:Gm}{h:Hd}(hw:Fq h)(h1:I8 g h=false->∀ w',Ab No w w'->K (.tuple #[.slice none 0 0,.int .i64 1]) w')
  (h2:I8 g h=true->∀ w' q,Ab No w w'->w.heap.size<=q->A1 w' q 0 (Au (Fz g h))->K (.tuple #[.slice (some ⟨q,0,none⟩) 256 256,.int .i64 0]) w'):A8 Tryz.prog HD #[.agg ⟨gV g⟩,.agg ⟨hV h⟩] w K:=by
 apply Z1;unfold Tk;obtain⟨w1,a1,a2,a3,a4⟩:=AC (P:=Tryz.prog) (w:=w) (T:=40) (cs:=gV g);obtain⟨w2,b1,b2,b3,b4⟩:=AC (P:=Tryz.prog) (w:=w1) (T:=119) (cs:=hV h);have m2:=a3.no b3;refine⟨_,w1,a1,_,w2,b1,_,(a2.at.keep b3 id).all Aq rfl,_,b2.at.all Ax (Aw hw),N0 hw fun w3 m3=>⟨_,rfl,Aa (fun ho=>h1 (by simpa using ho) _ (m2.no m3)) (fun ho=>?_)⟩⟩;have ho:I8 g h=true:=by simpa using ho
 have hno:=(Co.1 ho).2.1;have hq:=Av.1 (Co.1 ho).1;have hf:=Od (g:=g) (h:=h);obtain⟨w4,c1,c2,c3,c4⟩:=D3 (P:=Tryz.prog) (w:=w3) (n:=256) AE (by omega) (by omega) (by omega);have c2':A1 w4 w3.heap.size 0 (Au ([]++List.replicate 256 0)):=by
  have e:List.replicate (256*1) (Value.int .u8 0)=Au ([]++List.replicate 256 0):=by
   rw[QN,Au,Ls5];rfl
  rw[<- e];exact c2
 obtain⟨w5,d1,d2,d3,d4⟩:=aL (T:=88) (S:=9) (ty:=3) (i:=0) (n:=256) (c:=256) (xs:=KW) (by kernel_rfl) c2' (by rw[Ak,Ls,TV];exact Ld _) (by simp[KW]);rw[zs (pre:=[]) (i:=0) rfl (by simp[KW])]at d2;have m5:Ab No w3 w5:=c3.own d3 (Ld _);have q2:=((a2.keep b3 id).keep m3 id).keep m5 id;have q3:=(b2.keep m3 id).keep m5 id
 refine⟨_,_,_,w4,c1,_,w5,d1,_,q2.at.all Aq rfl,_,q3.at.all Ax (Aw hw),kL hw fun w6 m6=>⟨_,_,rfl,?_⟩⟩;have m36:Ab No w3 w6:=m5.no m6;refine⟨_,(q3.keep m6 id).at.fld Aj rfl,_,aB _ _ _,?_⟩;refine⟨fun x w7=>∃ i:Nat,i<=3/\x=[.int .i64 i]/\A1 w7 w3.heap.size 0 (Au (gG g h i++List.replicate (252-2*i) 0))/\Ab No w3 w7,fun x _=>(3-nI x 0).toNat,⟨0,by omega,rfl,d2.keep m6 id,m36⟩,?_⟩
 rintro x w7 ⟨i,hi,rfl,hat,m7⟩;refine⟨_,rfl,Aa (fun hl=>?_) (fun hl=>?_)⟩
 ·have hl:=Lc hl;have hi3:i<3:=by omega
  have hlen:=sR g h hi;have step:∀ v:Int,0<=v->v<=4096->([Value.int .i64 h.no,.int .i64 (Bd g h).1,.int .i64 (Bd g h).2]:List Value)[i]?=some (.int .i64 v)->gG g h (i+1)=gG g h i++Bg 2 v.toNat ->
    ∃ n32:Int,Al (Instr.index 312 (.agg ⟨[.int .i64 h.no,.int .i64 (Bd g h).1,.int .i64 (Bd g h).2]⟩) (.int .i64 i)) (.int .i64 n32)/\∃(a41:Option Addr)(l41 c41:Nat),Al (Instr.sliceAt 88 (.slice (some ⟨w3.heap.size,0,none⟩) 256 256) (some (.int .i64 (IntKind.i64.wrap (4+(IntKind.i64.wrap ((i:Int)*2)))))) (some (.int .i64 (IntKind.i64.wrap (4+(IntKind.i64.wrap ((IntKind.i64.wrap ((i:Int)+1))*2)))))) none) (.slice a41 l41 c41)/\A8 Tryz.prog CA #[.slice a41 l41 c41,.int .u64 (IntKind.u64.wrap n32)] w7 fun r44 w8=>r44=.tuple #[] /\
     ((∃ i':Nat,i'<=3/\[Value.int .i64 (IntKind.i64.wrap ((i:Int)+1))]=[.int .i64 i']/\A1 w8 w3.heap.size 0 (Au (gG g h i'++List.replicate (252-2*i') 0))/\Ab No w3 w8)/\(3-nI [Value.int .i64 (IntKind.i64.wrap ((i:Int)+1))] 0).toNat<(3-nI [Value.int .i64 i] 0).toNat):=by
   intro v hv0 hv hg hp;have e1:IntKind.i64.wrap (4+(IntKind.i64.wrap ((i:Int)*2)))=((4+2*i:Nat):Int):=by rw[Ag (x:=(i:Int)*2) (by omega) (by omega),Ag (by omega) (by omega)];omega
   have e2:IntKind.i64.wrap (4+(IntKind.i64.wrap ((IntKind.i64.wrap ((i:Int)+1))*2)))=((6+2*i:Nat):Int):=by rw[Ag (x:=(i:Int)+1) (by omega) (by omega),Ag (x:=((i:Int)+1)*2) (by omega) (by omega),Ag (by omega) (by omega)];omega
   rw[e1,e2];refine⟨v,KZ Tryz.underlying312 AhJ Tryz.underlying3 (by simp) (by simp) hi3 hg,_,_,_,Be Am (by omega) (by omega) (by omega),?_⟩;rw[show((4+2*i:Nat):Int).toNat=4+2*i by omega,Jm (by omega),show((6+2*i:Nat):Int).toNat-(4+2*i)=2 by omega];refine WI (m:=2) hat hlen (by omega) rfl hv0 (by omega) (by omega) fun w8 m8 z8 d8=>⟨rfl,?_⟩;rw[Ag (x:=(i:Int)+1) (by omega) (by omega)]
   rw[<- hp,show 252-2*i-2=252-2*(i+1) by omega]at d8;exact⟨⟨i+1,by omega,by simp,d8,m7.own m8 (Ld _)⟩,by simp[nI,Ap];omega⟩
  match i,hi3 with
  | 0,_=>exact step h.no hno.1 (by omega) rfl rfl
  | 1,_=>exact step (Bd g h).1 (by omega) (by omega) rfl rfl
  | 2,_=>exact step (Bd g h).2 (by omega) (by omega) rfl rfl
 have hl:=Lb hl;have hi3:i=3:=by omega
 subst hi3;have hat:A1 w7 w3.heap.size 0 (Au (HY g h++List.replicate 246 0)):=hat;have e6:HY g h++List.replicate 246 (0:UInt8)=(HY g h++List.replicate 6 0)++List.replicate 240 0:=by
  rw[WB,List.replicate_append_replicate]
 rw[e6]at hat;have m37:Ab No w3 w7:=m7;have q3':=(b2.keep m3 id).keep m37 id;have ad1:Addr.add ⟨w1.heap.size,0,none⟩ 1=⟨w1.heap.size,1,none⟩:=by rw[Ad]
 have ad17:Addr.add ⟨w1.heap.size,0,none⟩ 17=⟨w1.heap.size,17,none⟩:=by rw[Ad]
 rw[ad1,ad17];have hne:w1.heap.size≠w3.heap.size:=by have:=m3.size;omega
 obtain⟨w9,p1,p2,p3,p4⟩:=H1 (P:=Tryz.prog) (T:=88) (T2:=88) (ty:=3) (i:=16) (n:=240) (c:=240) (n2:=16) (c2:=16) (a2:=some ⟨w1.heap.size,1,none⟩) (src:=Au h.bs) Am hat.drew
  (by rw[Ak,Ls,Ls,EJ,TV,TV];omega) (.inr ⟨_,_,rfl,At.bs hw q3'.at.drew⟩) (by simp[hw.1]) (BF _)
 rw[show Nat.min 16 240*1=16 by decide,Lg (by rw[Ak,hw.1];omega),zs (i:=16) (by rw[Ls,EJ,TV]) (by rw[hw.1];omega),hw.1]at p2;have M9:Ab No w3 w9:=m37.drew.own p3 (Ld _);have q9:=q3'.drew.keep p3 (fun e=>hne e);obtain⟨w10,r1,r2,r3,r4⟩:=H1 (P:=Tryz.prog) (T:=88) (T2:=88) (ty:=3) (i:=32) (n:=224) (c:=224) (n2:=8) (c2:=8) (a2:=some ⟨w1.heap.size,17,none⟩) (src:=Au h.ss) Am p2.drew
  (by rw[Ak,Ls,Ls,Ls,EJ,hw.1,TV,TV];omega) (.inr ⟨_,_,rfl,At.ss hw q9.at.drew⟩) (by simp[hw.2]) (BF _)
 rw[show Nat.min 8 224*1=8 by decide,Lg (by rw[Ak,hw.2];omega),zs (i:=32) (by rw[Ls,Ls,EJ,hw.1,TV]) (by rw[hw.2];omega),hw.2]at r2;have M10:Ab No w3 w10:=M9.drew.own r3 (Ld _);refine⟨_,_,_,F7 Am (by omega) (by omega),_,_,_,Ba KO,?_⟩;rw[show(16:Int).toNat=16 from rfl,Jm (by omega)]
 refine⟨_,w9,p1,_,_,_,F7 Am (by omega) (by omega),_,_,_,Ba UU,?_⟩;rw[show(32:Int).toNat=32 from rfl,Jm (by omega)];exact⟨_,w10,r1,h2 ho w10 _ (m2.no (m3.no M10)) (Up m2.size m3.size) r2⟩
end
def DM(xs:List UInt8):Hd:=⟨BW ((xs.drop 4).take 2),(xs.drop 16).take 16,(xs.drop 32).take 8⟩
theorem VQ{xs:List UInt8}(h:xs.length=256):Fq (DM xs):=⟨by simp[DM,h],by simp[DM,h]⟩
def HL(g:Gm)(xs:List UInt8):Hd×Int:=if CU g=false then(hZ,1)else if xs.length≠256 then(hZ,4)else if I8 g (DM xs)=true/\Fz g (DM xs)=xs then(DM xs,0)else(hZ,8)
theorem kM(g:Gm)(xs:List UInt8):Fq (HL g xs).1:=by
 unfold HL;split
 ·exact DK
 split
 ·exact DK
 split
 ·rename_i h _;exact VQ (by omega)
 ·exact DK
section
variable{w:World}{K:Value->World->Prop}
theorem Wl(xs:List UInt8)(n:Nat):Au (xs.take n)=(Au xs).take n:=by simp[Au,Lf4]
theorem xM{a0:Option Addr}{l c0:Nat}(h63:l<=1000000000)(hk:∀ w' (f la:Int),Ab No w w'->K (.tuple #[.int .i64 f,.int .i64 la]) w'):A8 Tryz.prog Jg #[.slice a0 l c0,.slice none 0 0] w K:=by
 apply U9;unfold PN;have e1:(if (l:Int) > ((0:Nat):Int)then(l:Int)else((0:Nat):Int))=l:=by split<;>omega
 have e2:(if (l:Int)<((0:Nat):Int)then(l:Int)else((0:Nat):Int))=0:=by split<;>omega
 refine⟨fun x w1=>∃(i:Nat)(f la:Int)(y:Value),i<=l/\x=[.int .i64 f,.int .i64 la,.int .i64 i,y]/\Ab No w w1,fun x _=>(l-nI x 2).toNat,⟨0,-1,-1,_,by omega,rfl,Ab.refl _ _⟩,?_⟩;rintro x w1 ⟨i,f,la,y,hi,rfl,hm⟩;refine⟨_,rfl,Aa (fun hb=>?_) (fun hb=>?_)⟩
 ·have hb:=Lc hb;have hi:i<l:=by split at hb<;>omega
  have hm':Ab No w (Go.Den.Ah w1):=hm.drew;refine Ac.cut (fun z w3=>∃(f' la':Int)(y':Value),z=[.int .i64 f',.int .i64 la',y']/\w3=Go.Den.Ah w1) ?_ ?_
  ·refine Ac.cut (fun z w3=>z=[.bool false]/\w3=Go.Den.Ah w1) (ff (Lf (by split<;>omega)) ⟨rfl,rfl⟩) ?_;rintro z w3 ⟨rfl,rfl⟩;refine⟨_,rfl,ff rfl ⟨_,rfl,Ac.cut (fun z w3=>(∃ f':Int,z=[.int .i64 f'])/\w3=Go.Den.Ah w1) (Aa (fun _=>⟨⟨_,rfl⟩,rfl⟩) (fun _=>⟨⟨_,rfl⟩,rfl⟩)) ?_⟩⟩;rintro z w3 ⟨⟨f',rfl⟩,rfl⟩;exact⟨_,_,_,rfl,rfl⟩
  ·rintro z w3 ⟨f',la',y',rfl,rfl⟩;rw[Ag (x:=(i:Int)+1) (by omega) (by omega)];exact⟨⟨i+1,f',la',y',by omega,by simp[Ap],hm'⟩,by simp[nI,Ap];omega⟩
 ·exact⟨_,rfl,_,rfl,hk _ _ _ hm⟩
theorem cW{h:Hd}{ys:List UInt8}(hw:Fq h)(hy:ys.length=16):AA (hV h) 1 (Au ys)=hV ⟨h.no,ys,h.ss⟩:=by
 unfold AA hV;rw[List.take_succ_cons,xE,Ak,hy,show 1+16=16+1 from rfl,qT,WD,Lt (by rw[Ak,hw.1];omega),Ak,hw.1,fG,Uq];rfl
theorem cY{h:Hd}{ys:List UInt8}(hw:Fq h)(hy:ys.length=8):AA (hV h) 17 (Au ys)=hV ⟨h.no,h.bs,ys⟩:=by
 unfold AA hV;rw[show 17=16+1 from rfl,List.take_succ_cons,Ak,hy,show 16+1+8=24+1 from rfl,qT,Lt (by rw[Ls,Ak,Ak,hw.1,hw.2];omega),Lv (by rw[Ak,hw.1];omega),Lg (by rw[Ak,hw.1];omega),fH];rfl
set_option maxRecDepth 4000 in
theorem X0{g:Gm}{a:Option Addr}{l c:Nat}{xs:List UInt8}(hl:xs.length=l)(hc:l<=c)(hr:Bl w a (Au xs))(h63:l<=1048576)
  (hk:∀ w',Ab No w w'->K (.tuple #[.agg ⟨hV (HL g xs).1⟩,.int .i64 (HL g xs).2]) w'):A8 Tryz.prog Nk #[.agg ⟨gV g⟩,.slice a l c] w K:=by
 apply Z0;unfold Tj;obtain⟨w1,a1,a2,a3,a4⟩:=AC (P:=Tryz.prog) (w:=w) (T:=40) (cs:=gV g);obtain⟨w2,b1,b2,b3,b4⟩:=A9 (P:=Tryz.prog) (w:=w1) (T:=119) B7;have m2:=a3.no b3;have q2:=a2.keep b3 id;have fin:∀(w':World)(h:Hd)(e:Int),Ab No w2 w'->(h,e)=HL g xs->∃ w3:World,Eh (Instr.storeAt 119 (.pointer (some ⟨w1.heap.size,0,none⟩)) (.agg ⟨hV h⟩)) w' w3/\∃ gR2:Array Value,Ru (Instr.loadAt 119 (.pointer (some ⟨w1.heap.size,0,none⟩))) w3 (.agg gR2) w3/\K (.tuple #[.agg gR2,.int .i64 e]) w3:=fun w' h e m he=>by
  have hw:Fq h:=by have:=kM g xs;rw[<- he]at this;exact this
  obtain⟨w3,c1,c2,c3,c4⟩:=(b2.keep m id).put (T:=119) (vs:=hV h) Ax (Aw DK) (Aw hw) (Db _);refine⟨w3,c1,_,c2.at.all Ax (Aw hw),?_⟩
  have:=hk w3 ((m2.no m).own c3 a3.size)
  rw[<- he]at this;exact this
 refine⟨_,w1,a1,_,w2,b1,_,q2.at.all Aq rfl,Hr fun w3 m3=>⟨_,rfl,Aa (fun h=>⟨_,DT,?_⟩) (fun h=>?_)⟩⟩
 ·exact fin w3 hZ 1 m3 (by unfold HL;rw[if_pos (by simpa using h)])
 have hg:CU g=true:=by simpa using h
 rw[Di];refine Aa (fun h=>⟨_,DT,?_⟩) (fun h=>?_)
 ·have h:=Lc h;exact fin w3 hZ 4 m3 (by unfold HL;rw[if_neg (by rw[hg];simp),if_pos (by omega)])
 have hl2:xs.length=256:=by have:=Lb h;omega
 have hl':l=256:=by omega
 subst hl';have hr3:=(hr.nos m2).nos m3;have n4:BW ((xs.drop 4).take 2)<256 ^ 2:=Dv (by omega);refine⟨_,_,_,Be Am (by omega) (by omega) (by omega),?_⟩;refine ZF (xs:=(xs.drop 4).take 2) (by simp;omega) (hr3.cut (by omega) (by omega)) (by omega) ⟨_,rfl,?_⟩;rw[Lg (i:=8) (by simp;omega),Ag (x:=(BW ((xs.drop 4).take 2):Int)) (by omega) (by omega)];obtain⟨w7,c1,c2,c3,c4⟩:=A9 (P:=Tryz.prog) (w:=w3) (T:=119) B7
 obtain⟨w8,d1,d2,d3,d4⟩:=c2.put (T:=119) (vs:=hV ⟨BW ((xs.drop 4).take 2),List.replicate 16 0,List.replicate 8 0⟩) Ax (Aw DK) (Aw ⟨rfl,rfl⟩) (Db _);have m8:Ab No w3 w8:=c3.own d3 (Ld _);have ad1:Addr.add ⟨w3.heap.size,0,none⟩ 1=⟨w3.heap.size,1,none⟩:=by rw[Ad]
 have ad17:Addr.add ⟨w3.heap.size,0,none⟩ 17=⟨w3.heap.size,17,none⟩:=by rw[Ad]
 have hr8:Bl (Go.Den.Ah w8) a (Au xs):=hr3.nos m8.drew;have l16:((xs.drop 16).take 240).length=240:=by simp;omega
 have l32:((xs.drop 32).take 224).length=224:=by simp;omega
 obtain⟨w9,p1,p2,p3,p4⟩:=H1 (P:=Tryz.prog) (T:=88) (T2:=88) (ty:=3) (i:=1) (n:=16) (c:=16) (n2:=240) (c2:=c-16) (a2:=Cb a c 16 1) (src:=Au ((xs.drop 16).take 240)) Am d2.drew
  (by rw[Aw ⟨rfl,rfl⟩];omega) (hr8.cut (by omega) (by omega)) (by rw[Ak,l16]) (BF _)
 have t16:(Au ((xs.drop 16).take 240)).take (Nat.min 240 16*1)=Au ((xs.drop 16).take 16):=by
  rw[show Nat.min 240 16*1=16 by decide,<- Wl,Lv5];rfl
 rw[t16,cW ⟨rfl,rfl⟩ (by simp;omega)]at p2;have M9:Ab No w3 w9:=m8.drew.own p3 (Ld _);have hr9:Bl (Go.Den.Ah w9) a (Au xs):=hr3.nos M9.drew;obtain⟨w10,r1,r2,r3,r4⟩:=H1 (P:=Tryz.prog) (T:=88) (T2:=88) (ty:=3) (i:=17) (n:=8) (c:=8) (n2:=224) (c2:=c-32) (a2:=Cb a c 32 1) (src:=Au ((xs.drop 32).take 224)) Am p2.drew
  (by rw[Aw ⟨by simp;omega,rfl⟩];omega) (hr9.cut (by omega) (by omega)) (by rw[Ak,l32]) (BF _)
 have t32:(Au ((xs.drop 32).take 224)).take (Nat.min 224 8*1)=Au ((xs.drop 32).take 8):=by
  rw[show Nat.min 224 8*1=8 by decide,<- Wl,Lv5];rfl
 rw[t32,cY ⟨by simp;omega,rfl⟩ (by simp;omega)]at r2;have r2:A1 w10 w3.heap.size 0 (hV (DM xs)):=r2;have hwf:=VQ hl2;have M10:Ab No w3 w10:=M9.drew.own r3 (Ld _);have m210:=m3.no M10;refine⟨_,PT _,_,w7,c1,w8,d1,?_⟩;rw[ad1,ad17];refine⟨_,_,_,Ba KO,_,_,_,F7 Am (by omega) (by omega),_,w9,p1,_,_,_,Ba UU,_,_,_,F7 Am (by omega) (by omega),_,w10,r1,_,(q2.keep m210 id).at.all Aq rfl,_,r2.at.all Ax (Aw hwf),?_⟩
 have last:∀(w13:World)(b:Bool),Ab No w10 w13->(b=false↔I8 g (DM xs)=true/\Fz g (DM xs)=xs)->∃ b53:Bool,Ap [.bool b] 0=.bool b53/\(bif b53 then
   ∃ g54:Array Value,Al (Instr.build 119 #[]) (.agg g54)/\∃ w14:World,Eh (Instr.storeAt 119 (.pointer (some ⟨w1.heap.size,0,none⟩)) (.agg g54)) w13 w14/\∃ gR4_3:Array Value,Ru (Instr.loadAt 119 (.pointer (some ⟨w1.heap.size,0,none⟩))) w14 (.agg gR4_3) w14/\K (.tuple #[.agg gR4_3,.int .i64 8]) w14
   else
   ∃ g55:Array Value,Ru (Instr.loadAt 119 (.pointer (some ⟨w3.heap.size,0,none⟩))) w13 (.agg g55) w13/\∃ w15:World,Eh (Instr.storeAt 119 (.pointer (some ⟨w1.heap.size,0,none⟩)) (.agg g55)) w13 w15/\∃ gR4_4:Array Value,Ru (Instr.loadAt 119 (.pointer (some ⟨w1.heap.size,0,none⟩))) w15 (.agg gR4_4) w15/\K (.tuple #[.agg gR4_4,.int .i64 0]) w15):=by
  intro w13 b m13 hb;refine⟨_,rfl,Aa (fun h=>⟨_,DT,?_⟩) (fun h=>⟨_,(r2.keep m13 id).at.all Ax (Aw hwf),?_⟩)⟩
  ·exact fin w13 hZ 8 (m210.no m13) (by unfold HL;rw[if_neg (by rw[hg];simp),if_neg (by omega),if_neg fun e=>by rw[hb.2 e]at h;cases h])
  ·exact fin w13 (DM xs) 0 (m210.no m13) (by unfold HL;rw[if_neg (by rw[hg];simp),if_neg (by omega),if_pos (hb.1 h)])
 refine gK hwf (fun ho w11 m11=>⟨_,_,_,_,rfl,xM (by omega) fun w12 f la m12=>⟨_,_,rfl,Ac.dup (tt rfl ?_)⟩⟩) (fun ho w11 q m11 hqn hat=>⟨_,_,_,_,rfl,qN (xs:=xs) (ys:=Fz g (DM xs)) hl2 (Jo hwf) (by omega) ((hr3.nos M10).nos m11) (.inr ⟨_,_,rfl,hat.at⟩) fun w12 f la m12 hf=>⟨_,_,rfl,Ac.dup (ff rfl ?_)⟩⟩)
 ·refine last w12 true (m11.no m12) ⟨fun e=>(by cases e),fun e=>?_⟩;rw[ho]at e;cases e.1
 ·refine last w12 _ (m11.no m12) ?_;rw[xZ];constructor
  ·intro h0;refine⟨ho,?_⟩;exact Tw.1 fun hn=>h0 (hf.2 fun e=>hn e.symm)
  ·intro h0 h1;exact hf.1 h1 h0.2.symm
end
end Go.Z
end
section
open Go Go.Den Go.Proofs
namespace Go.Den
theorem AaL{P:Program}{w:World}{base n:Nat}{T e:TypeId}{cs:List Value}(he:P.underlying T=some (.slice e))(hn:cs.length=n)(h63:n<=maxLen)(hb:base<=w.heap.size):Ow P (w.alloc (.cells ⟨cs⟩ e)) base T 1 (some ⟨w.heap.size,0,none⟩) n n cs :=
 ⟨e,he,by omega,.inr ⟨w.heap.size,n,⟨cs⟩,rfl,hb,BC w _,Ld _,h63,by simp[hn],by simp[<- hn]⟩⟩
end Go.Den
namespace Go.Z
theorem CX:Ei Tryz.prog 232=some 4:=by kernel_rfl
theorem IG:HT Tryz.prog 232=some (sV sZ):=by kernel_rfl
theorem Gd:Al (Instr.build 232 #[]) (.agg ⟨sV sZ⟩):=fun w=>by kernel_rfl
theorem Hm(n:Int)(g:Gm):Al (Instr.build 232 #[(0,.int .i64 n),(1,.agg ⟨gV g⟩)]) (.agg ⟨sV ⟨n,g⟩⟩):=fun w=>by kernel_rfl
theorem aF(w:World):(Instr.buildSlice 88 4 #[(0,.int .u8 76),(1,.int .u8 86),(2,.int .u8 69),(3,.int .u8 69)]).run Tryz.prog w=.ok (.slice (some ⟨w.heap.size,0,none⟩) 4 4) (w.alloc (.cells ⟨Au DX⟩ 5)):=by kernel_rfl
theorem Xg{w:World}{cs:List Value}{n:Nat}:∃ w2,(convert 88 88 (.slice (some ⟨w.heap.size,0,none⟩) n n)).run Tryz.prog (w.alloc (.cells ⟨cs⟩ 5))=.ok (.slice (some ⟨w.heap.size,0,none⟩) n n) w2/\At w2 w.heap.size 0 cs/\Ab No w w2:=by
 have e:(convert 88 88 (.slice (some ⟨w.heap.size,0,none⟩) n n)).run Tryz.prog (w.alloc (.cells ⟨cs⟩ 5))=.ok (.slice (some ⟨w.heap.size,0,none⟩) n n) ((w.alloc (.cells ⟨cs⟩ 5)).freeze ⟨w.heap.size,cs.length,none⟩ 1):=by
  have hs:(w.alloc (.cells ⟨cs⟩ 5)).shape? w.heap.size=some (5,cs.length):=by unfold World.shape?;rw[BC];rfl
  simp[convert,AI Tryz.underlying88,AI Tryz.underlying5,markStringish,hs]
 have hb:((w.alloc (.cells ⟨cs⟩ 5)).freeze ⟨w.heap.size,cs.length,none⟩ 1).heap[w.heap.size]?=some (.cells ⟨cs⟩ 5 (cs.length,cs.length+1)):=by
  unfold World.freeze;rw[if_neg (by omega)];dsimp only;rw[Array.getElem?_modify,if_pos rfl,BC];rfl
 have ho:∀ k,k<w.heap.size->((w.alloc (.cells ⟨cs⟩ 5)).freeze ⟨w.heap.size,cs.length,none⟩ 1).heap[k]?=w.heap[k]?:=fun k hk=>by
  unfold World.freeze;rw[if_neg (by omega)];dsimp only;rw[Array.getElem?_modify,if_neg (by omega),Ro hk]
 refine⟨_,e,⟨cs,_,_,hb,by simp,by simp⟩,⟨?_,?_,?_,?_,fun k hk _=>ho k hk⟩⟩
 ·unfold World.freeze;rw[if_neg (by omega)];rfl
 ·unfold World.freeze;rw[if_neg (by omega)];rfl
 ·unfold World.freeze;rw[if_neg (by omega)];rfl
 ·have:=(Lk3.1 hb).1;omega
theorem rG{w:World}{base b l m c2:Nat}{a2:Addr}{xs ys:List UInt8}(hat:At w b 0 (Au xs))(hx:xs.length=l)(hr:Bl w (some a2) (Au ys))(hm:ys.length=m)(h0:0<m)(h63:l+m<=1048576)(hb:base<=w.heap.size) :
  ∃ a' c' w',(Builtin.append_ #[88,88] 88 #[.slice (some ⟨b,0,none⟩) l l,.slice (some a2) m c2]).run Tryz.prog w=.ok (.slice a' (l+m) c') w'/\Ow Tryz.prog w' base 88 1 a' (l+m) c' (Au (xs++ys))/\Ab No w w':=by
 obtain⟨e,i,zv,he,hi,hsz,hz,hzc,hby⟩:=AE.is;have hcell:∀ j u,(Au ys)[j]?=some u->w.cell? (a2.add j)=some u:=by
  intro j u hj;rcases hr with hr | ⟨b,o,e,hat⟩
  ·rw[hr]at hj;cases hj
  ·simp at e;subst e;exact hat.cell hj
 have h:=run_append_grow (P:=Tryz.prog) w 88 88 e i zv he hi hz ⟨b,0,none⟩ l l (Au xs) (by simp[hsz,hx]) (fun j v hj=>hat.cell hj) a2 m c2 (Au ys) (by simp[hsz,hm]) hcell (by omega) (by omega)
  (growslice_fits (by omega) (by rw[hby];omega))
 have hge:=grownCap_ge w (l+m) l e;have hcm:grownCap w (l+m) l e<=maxLen:=grownCap_le_maxLen w (l+m) l e (by simp[maxLen];omega);refine⟨_,_,_,h,⟨e,he,by simp[hx,hm],.inr ⟨w.heap.size,_,_,rfl,hb,BC (Ah w) _,hge,hcm,?_,?_⟩⟩,((Ab.refl No w).drew.alloc _)⟩
 ·simp only[Array.size_append,List.size_toArray,size_zeroCells,Ak,hx,hm];rw[hzc];simp;omega
 ·simp only[Lp4,EM];rw[Lv (by simp[hx,hm]),Lg (by simp[hx,hm])]
section
variable{w:World}{K:Value->World->Prop}
theorem Ac3{base l c m c2:Nat}{a a2:Option Addr}{xs ys:List UInt8}(h:Ow Tryz.prog w base 88 1 a l c (Au xs))(hr:Bl w a2 (Au ys))(hm:ys.length=m)(h0:a2=none->m=0/\c2=0)(h63:l+m<=1048576)(hb:base<=w.heap.size) :
  ∃ a' c' w',(Builtin.append_ #[88,88] 88 #[.slice a l c,.slice a2 m c2]).run Tryz.prog w=.ok (.slice a' (l+m) c') w'/\Ow Tryz.prog w' base 88 1 a' (l+m) c' (Au (xs++ys))/\Ab (fun x=>base<=x) w w':=by
 obtain⟨a',c',w',h1,h2,h3⟩:=h.append (ty:=88) AE (by omega) hr (by simp[hm]) h0 (BF ys) (by omega) (by omega) hb;rw[<- EM]at h2;exact⟨a',c',w',h1,h2,h3⟩
theorem pM{s:Sp}(hk:∀ w',Ab No w w'->K (.bool (OZ s)) w'):A8 Tryz.prog FH #[.agg ⟨sV s⟩] w K:=by
 apply PD;unfold IV;obtain⟨w1,a1,a2,a3,a4⟩:=AC (P:=Tryz.prog) (w:=w) (T:=232) (cs:=sV s);have l0:Ru (Instr.loadAt 2 (.pointer (some (Addr.add ⟨w.heap.size,0,none⟩ 0)))) w1 (.int .i64 s.gen) w1:=a2.at.fld BL rfl;have no:¬ (1<=s.gen/\s.gen<=4611686018427387904)->false=OZ s:=fun h=>by unfold OZ;rw[Lf h];rfl
 refine⟨_,w1,a1,Ac.dup ⟨_,l0,Aa (fun h=>⟨_,l0,Aa (fun h2=>⟨_,a2.at.fldA (n:=3) (vs:=gV s.geo) Aq (by simp[sV,gV]) rfl,DN fun w2 m2=>⟨_,rfl,_,rfl,?_⟩⟩) (fun h2=>⟨_,rfl,?_⟩)⟩) (fun h=>⟨_,rfl,?_⟩)⟩⟩
 ·have h:=Lc h;have h2:=Lc h2;have e:CU s.geo=OZ s:=by unfold OZ;rw[Le ⟨h,h2⟩];rfl
  rw[e];exact hk _ (a3.no m2)
 ·rw[no fun e=>Lb h2 e.2];exact hk _ a3
 ·rw[no fun e=>Lb h e.1];exact hk _ a3
theorem Uj{base l c m:Nat}{a:Option Addr}{xs:List UInt8}{v:Int}{Q:Value->World->Prop}(h:Ow Tryz.prog w base 88 1 a l c (Au xs))(hv0:0<=v)(hv:v<=18446744073709551615)(h63:l+m<=1048576)(hb:base<=w.heap.size)
  (hk:∀ w5 a2 c2 a' c' w',(Builtin.append_ #[88,88] 88 #[.slice a l c,.slice a2 m c2]).run Tryz.prog w5=.ok (.slice a' (l+m) c') w'->Ab (fun x=>base<=x) w w'->Ow Tryz.prog w' base 88 1 a' (l+m) c' (Au (xs++Bg m v.toNat))->Q (.slice a2 m c2) w5) :
  A8 Tryz.prog A2 #[.int .u64 (IntKind.u64.wrap v),.int .i64 m] w Q:=by
 obtain⟨k,rfl⟩:∃ k:Nat,v=k:=⟨v.toNat,by omega⟩;rw[El hv0 hv];refine jD (by omega) (by omega) fun w' a2 c2 m1 o1=>?_;obtain⟨a',c',w'',h1,h2,h3⟩:=Ac3 (h.nos m1) o1.rowU.row (by simp) (fun e=>by subst e;exact o1.zero) h63 (Up hb m1.size);exact hk w' a2 c2 a' c' w'' h1 ((m1.mono fun _ _ h=>h.elim).trans h3 fun _ _ h=>h) h2
theorem Af4{base l b m:Nat}{xs:List UInt8}{v:Int}{Q:Value->World->Prop}(h:At w b 0 (Au xs))(hx:xs.length=l)(h0:0<m)(hv0:0<=v)(hv:v<=18446744073709551615)(h63:l+m<=1048576)(hb:base<=w.heap.size)
  (hk:∀ w5 a2 c2 a' c' w',(Builtin.append_ #[88,88] 88 #[.slice (some ⟨b,0,none⟩) l l,.slice a2 m c2]).run Tryz.prog w5=.ok (.slice a' (l+m) c') w'->Ab (fun x=>base<=x) w w'->Ow Tryz.prog w' base 88 1 a' (l+m) c' (Au (xs++Bg m v.toNat))->Q (.slice a2 m c2) w5) :
  A8 Tryz.prog A2 #[.int .u64 (IntKind.u64.wrap v),.int .i64 m] w Q:=by
 obtain⟨k,rfl⟩:∃ k:Nat,v=k:=⟨v.toNat,by omega⟩;rw[El hv0 hv];refine jD (by omega) (by omega) fun w' a2 c2 m1 o1=>?_;cases a2 with
 | none=>have:=o1.zero;omega
 | some a2 =>
  obtain⟨a',c',w'',h1,h2,h3⟩:=rG (base:=base) (h.keep m1 id) hx o1.rowU.row (by simp) h0 h63 (Up hb m1.size);exact hk w' (some a2) c2 a' c' w'' h1 ((m1.no h3).mono fun _ _ h=>h.elim) h2
def Zf(n:Nat)(x:List Value):Nat:=match x with | [.slice _ l _]=>n-l | _=>0
set_option maxRecDepth 4000 in
theorem lL{s:Sp}(h1:OZ s=false->∀ w',Ab No w w'->K (.tuple #[.slice none 0 0,.int .i64 1]) w')
  (h2:OZ s=true->∀ w' a c,Ab No w w'->Ow Tryz.prog w' w.heap.size 88 1 a 256 c (Au (DR s))->K (.tuple #[.slice a 256 c,.int .i64 0]) w'):A8 Tryz.prog B4 #[.agg ⟨sV s⟩] w K:=by
 apply Sm;unfold K8;obtain⟨w1,a1,a2,a3,a4⟩:=AC (P:=Tryz.prog) (w:=w) (T:=232) (cs:=sV s);refine⟨_,w1,a1,_,a2.at.all CX rfl,pM fun w2 m2=>⟨_,rfl,Aa (fun h=>h1 (by simpa using h) _ (a3.no m2)) (fun h=>?_)⟩⟩;have hs:OZ s=true:=by simpa using h
 obtain⟨⟨hg1,hg2⟩,hgeo⟩:=H3.1 hs;have hg:=Av.1 hgeo;obtain⟨w3,c1,c2,c3⟩:=Xg (w:=w2) (cs:=Au DX) (n:=4);refine⟨_,_,_,_,aF _,_,_,_,w3,c1,?_⟩;have nb:¬ (w1.heap.size<=w.heap.size):=by omega
 have m3:Ab (fun x=>w1.heap.size<=x) w1 w3:=(m2.no c3).mono fun _ _ h=>h.elim;have ld:∀(j:Nat)(v:Value)(w':World)(T:TypeId),DQ Tryz.prog T=true->(sV s)[j]?=some v->Ab (fun x=>w1.heap.size<=x) w1 w'->Ru (Instr.loadAt T (.pointer (some (Addr.add ⟨w.heap.size,0,none⟩ j)))) w' v w':=fun j v w' T hT hv m=>(a2.at.keep m nb).fld hT hv;have ld2:∀(j:Nat)(v:Value)(w':World),(sV s)[1+j]?=some v->Ab (fun x=>w1.heap.size<=x) w1 w'->Ru (Instr.loadAt 3 (.pointer (some (Addr.add (Addr.add ⟨w.heap.size,0,none⟩ 1) j)))) w' v w':=fun j v w' hv m=>(a2.at.keep m nb).fld2 Aj hv
 have tr:∀{a b:World},Ab (fun x=>w1.heap.size<=x) w1 a->Ab (fun x=>w1.heap.size<=x) a b->Ab (fun x=>w1.heap.size<=x) w1 b:=fun h k=>h.trans k fun _ _ h=>h;refine⟨_,ld 0 (.int .i64 s.gen) w3 2 BL rfl m3,?_⟩;refine Af4 (m:=8) (l:=4) (base:=w1.heap.size) c2 rfl (by omega) (by omega) (by omega) (by omega) m3.size fun w5 e2 f2 e' f' w6 p6 m6 o6=>⟨_,_,_,rfl,_,_,_,w6,p6,?_⟩;have M6:=tr m3 m6;refine⟨_,ld2 0 (.int .i64 s.geo.gr) w6 rfl M6,?_⟩
 refine Uj (m:=2) (l:=12) o6 (by omega) (by omega) (by omega) M6.size fun w7 e2 f2 e' f' w8 p8 m8 o8=>⟨_,_,_,rfl,_,_,_,w8,p8,?_⟩;have M8:=tr M6 m8;refine⟨_,ld2 1 (.int .i64 s.geo.no) w8 rfl M8,?_⟩;refine Uj (m:=2) (l:=14) o8 (by omega) (by omega) (by omega) M8.size fun w9 e2 f2 e' f' w10 p10 m10 o10=>⟨_,_,_,rfl,_,_,_,w10,p10,?_⟩;have M10:=tr M8 m10;refine⟨_,ld2 2 (.int .i64 s.geo.gs) w10 rfl M10,?_⟩
 refine Uj (m:=2) (l:=16) o10 (by omega) (by omega) (by omega) M10.size fun w11 e2 f2 e3 f3 w12 p12 m12 o12=>⟨_,_,_,rfl,_,_,_,w12,p12,?_⟩;have M12:=tr M10 m12;have o12':Ow Tryz.prog w12 w1.heap.size 88 1 e3 18 f3 (Au (Ic s++List.replicate 0 0)):=by
  rw[List.replicate_zero,fH];exact o12
 refine⟨fun x w13=>∃(i l:Nat)(a:Option Addr)(c:Nat),i<=234/\l=18+i/\x=[.slice a l c]/\Ow Tryz.prog w13 w1.heap.size 88 1 a l c (Au (Ic s++List.replicate i 0))/\Ab (fun x=>w1.heap.size<=x) w1 w13,
  fun x _=>Zf 252 x,⟨0,18,_,_,by omega,rfl,rfl,o12',M12⟩,?_⟩
 rintro x w13 ⟨i,l,a,c,hi,hl,rfl,o13,M13⟩;refine⟨_,_,_,rfl,Aa (fun hb=>?_) (fun hb=>?_)⟩
 ·have hb:=Lc hb;obtain⟨a',c',w',q1,q2,q3⟩:=o13.snoc (ty:=88) (t:=5) (ys:=[.int .u8 0]) AE (by omega) rfl (by simp;rfl) (by omega) (by omega) M13.size;refine⟨_,_,_,_,Y6 _ _,_,_,_,w',q1,⟨i+1,l+1,a',c',by omega,by omega,rfl,?_,tr M13 q3⟩,by simp only[Zf];omega⟩;have e:Au (Ic s++List.replicate i 0)++[.int .u8 0]=Au (Ic s++List.replicate (i+1) 0):=by
   rw[List.replicate_succ',<- WB,EM (Ic s++List.replicate i 0)];rfl
  rw[e]at q2;exact q2
 ·have hb:=Lb hb;have hi:i=234:=by omega
  have hl:l=252:=by omega
  subst hi;subst hl;have o13:Ow Tryz.prog w13 w1.heap.size 88 1 a 252 c (Au (DW s)):=o13;refine uX (xs:=DW s) (DO s) o13.rowU.row (by omega) ⟨_,rfl,?_⟩;have hc:=Vh (DW s);refine Uj (m:=4) (l:=252) o13 (by omega) (by omega) (by omega) M13.size fun w16 e2 f2 e3 f3 w18 p18 m18 o18=>⟨_,_,_,rfl,_,_,_,w18,p18,?_⟩;have o18:Ow Tryz.prog w18 w1.heap.size 88 1 e3 256 f3 (Au (DR s)):=o18
  exact h2 hs w18 e3 f3 (a3.up (tr M13 m18) (by omega)) (o18.mono (by omega))
end
section
variable{w:World}{K:Value->World->Prop}
theorem Ud{a:Option Addr}{l c i m m' c':Nat}{xs:List UInt8}{Q:Value->World->Prop}(hl:xs.length=l)(hc:l<=c)(hr:Bl w a (Au xs))(hi:i+m<=l)(hm:m<=8)(hm':m'=m)(hk:Q (.int .u64 (BW ((xs.drop i).take m):Int)) w):A8 Tryz.prog Ai #[.slice (Cb a c i 1) m' c'] w Q:=by
 subst hm';refine vD (xs:=(xs.drop i).take m') (by simp;omega) (hr.cut (by omega) (by omega)) (by omega) ?_;rw[Lg (i:=8) (by simp;omega)];exact hk
set_option maxRecDepth 4000 in
theorem AaW{a:Option Addr}{l c:Nat}{xs:List UInt8}(hl:xs.length=l)(hc:l<=c)(hr:Bl w a (Au xs))(h63:l<=1048576)
  (hk:∀ w',Ab No w w'->K (.tuple #[.agg ⟨sV (CT xs).1⟩,.int .i64 (CT xs).2]) w'):A8 Tryz.prog EW #[.slice a l c] w K:=by
 apply Sl;unfold K7;obtain⟨w1,b1,b2,b3,b4⟩:=A9 (P:=Tryz.prog) (w:=w) (T:=232) IG;have fin:∀(w':World)(s:Sp)(e:Int),Ab No w1 w'->(s,e)=CT xs->∃ w3:World,Eh (Instr.storeAt 232 (.pointer (some ⟨w.heap.size,0,none⟩)) (.agg ⟨sV s⟩)) w' w3/\∃ gR2:Array Value,Ru (Instr.loadAt 232 (.pointer (some ⟨w.heap.size,0,none⟩))) w3 (.agg gR2) w3/\K (.tuple #[.agg gR2,.int .i64 e]) w3:=fun w' s e m he=>by
  obtain⟨w3,c1,c2,c3,c4⟩:=(b2.keep m id).put (T:=232) (vs:=sV s) CX rfl rfl (Ft s);refine⟨w3,c1,_,c2.at.all CX rfl,?_⟩
  have:=hk w3 ((b3.no m).own c3 (Ld _))
  rw[<- he]at this;exact this
 refine⟨_,w1,b1,Aa (fun h=>⟨_,Gd,?_⟩) (fun h=>?_)⟩
 ·rw[Di]at h;have h:=Lc h;exact fin w1 sZ 4 (Ab.refl _ _) (by unfold CT;rw[if_pos (by omega)])
 rw[Di]at h;have hl2:xs.length=256:=by have:=Lb h;omega
 have hl':l=256:=by omega
 subst hl';have hr1:=hr.nos b3;refine⟨_,_,_,H4 Am (by omega) (by omega),_,GL (xs:=(xs.drop 0).take 4) JZ (hr1.cut (by omega) (by omega)) (by simp;omega),?_⟩;rw[Uq,cU,Jl];refine Aa (fun h=>⟨_,Gd,?_⟩) (fun h=>?_)
 ·have h:xs.take 4≠DX:=by simpa using h
  exact fin w1 sZ 8 (Ab.refl _ _) (by unfold CT;rw[if_neg (by omega),if_pos h])
 have h4:xs.take 4=DX:=by simpa using h
 refine⟨_,_,_,F7 Am (by omega) (by omega),_,_,_,H4 Am (by omega) (by omega),?_⟩;have hs4:BW ((xs.drop 252).take 4)<256 ^ 4:=Dv (by omega);have e252:(xs.drop 252).take 4=xs.drop 252:=Lg (by simp;omega);have hrd:Bl (Go.Den.Ah w1) a (Au xs):=hr.nos b3.drew;refine Ud (i:=252) (m:=4) hl2 hc hrd (by omega) (by omega) rfl ⟨_,rfl,?_⟩;refine uX (xs:=(xs.drop 0).take 252) (by simp;omega) (hrd.cut (by omega) (by omega)) (by omega) ⟨_,rfl,?_⟩
 have hc0:=Vh ((xs.drop 0).take 252);rw[El (by omega) (by omega),e252,Uq,Di];rw[Uq]at hc0;rw[e252]at hs4;have md:Ab No w1 (Go.Den.Ah w1):=(Ab.refl No w1).drew;refine Aa (fun h=>⟨_,Gd,?_⟩) (fun h=>?_)
 ·have h:=Lc h;exact fin _ sZ 7 md (by unfold CT;rw[if_neg (by omega),if_neg (by simpa using h4),if_pos (by omega)])
 have hsum:BW (xs.drop 252)=Zs (xs.take 252):=by have:=Lb h;omega
 have n12:BW ((xs.drop 12).take 2)<256 ^ 2:=Dv (by omega);have n14:BW ((xs.drop 14).take 2)<256 ^ 2:=Dv (by omega);have n16:BW ((xs.drop 16).take 2)<256 ^ 2:=Dv (by omega);have eR:(⟨IntKind.i64.wrap (BW ((xs.drop 4).take 8)),⟨IntKind.i64.wrap (BW ((xs.drop 12).take 2)),IntKind.i64.wrap (BW ((xs.drop 14).take 2)),IntKind.i64.wrap (BW ((xs.drop 16).take 2))⟩⟩:Sp)=Gl xs:=by
  rw[Ag (x:=(BW ((xs.drop 12).take 2):Int)) (by omega) (by omega),Ag (x:=(BW ((xs.drop 14).take 2):Int)) (by omega) (by omega),Ag (x:=(BW ((xs.drop 16).take 2):Int)) (by omega) (by omega)];rfl
 have tail:∀(w11:World)(q4:Nat),Ab No w1 w11->w1.heap.size<=q4->A1 w11 q4 0 (sV sZ)->∃ w12:World,Eh (Instr.storeAt 232 (.pointer (some ⟨q4,0,none⟩)) (.agg ⟨sV ⟨IntKind.i64.wrap (BW ((xs.drop 4).take 8)),⟨IntKind.i64.wrap (BW ((xs.drop 12).take 2)),IntKind.i64.wrap (BW ((xs.drop 14).take 2)),IntKind.i64.wrap (BW ((xs.drop 16).take 2))⟩⟩⟩)) w11 w12 /\
   ∃ g44:Array Value,Ru (Instr.loadAt 232 (.pointer (some ⟨q4,0,none⟩))) w12 (.agg g44) w12/\A8 Tryz.prog B4 #[.agg g44] w12 fun r45 w13=>∃(a45a:Option Addr)(l45a c45a:Nat),∃ n45b:Int,r45=.tuple #[.slice a45a l45a c45a,.int .i64 n45b]/\(bif n45b != 0 then
    ∃ g50:Array Value,Al (Instr.build 232 #[]) (.agg g50)/\∃ w14:World,Eh (Instr.storeAt 232 (.pointer (some ⟨w.heap.size,0,none⟩)) (.agg g50)) w13 w14/\∃ gR2_4:Array Value,Ru (Instr.loadAt 232 (.pointer (some ⟨w.heap.size,0,none⟩))) w14 (.agg gR2_4) w14/\K (.tuple #[.agg gR2_4,.int .i64 1]) w14
    else
    ∃ s52:ByteArray,Ru (convert 88 9 (.slice a45a l45a c45a)) w13 (.string s52) w13/\∃ s54:ByteArray,Ru (convert 88 9 (.slice a 256 c)) w13 (.string s54) w13/\(bif !((ByteArray.toList s52)==(ByteArray.toList s54))then
    ∃ g56:Array Value,Al (Instr.build 232 #[]) (.agg g56)/\∃ w15:World,Eh (Instr.storeAt 232 (.pointer (some ⟨w.heap.size,0,none⟩)) (.agg g56)) w13 w15/\∃ gR2_5:Array Value,Ru (Instr.loadAt 232 (.pointer (some ⟨w.heap.size,0,none⟩))) w15 (.agg gR2_5) w15/\K (.tuple #[.agg gR2_5,.int .i64 8]) w15
    else
    ∃ g57:Array Value,Ru (Instr.loadAt 232 (.pointer (some ⟨q4,0,none⟩))) w13 (.agg g57) w13/\∃ w16:World,Eh (Instr.storeAt 232 (.pointer (some ⟨w.heap.size,0,none⟩)) (.agg g57)) w13 w16/\∃ gR2_6:Array Value,Ru (Instr.loadAt 232 (.pointer (some ⟨w.heap.size,0,none⟩))) w16 (.agg gR2_6) w16/\K (.tuple #[.agg gR2_6,.int .i64 0]) w16)):=by
  intro w11 q4 m11 hq hat;rw[eR];obtain⟨w12,d1,d2,d3,d4⟩:=hat.put (T:=232) (vs:=sV (Gl xs)) CX rfl rfl (Ft _);have m12:Ab No w1 w12:=m11.own d3 hq;refine⟨w12,d1,_,d2.at.all CX rfl,lL (fun h w13 m13=>⟨_,_,_,_,rfl,tt rfl ⟨_,Gd,?_⟩⟩) (fun h w13 a' c' m13 o13=>⟨_,_,_,_,rfl,ff rfl ⟨_,GL (xs:=DR (Gl xs)) JZ o13.rowU.row (HR _),_,GL (xs:=xs) JZ (hr1.nos (m12.no m13)) hl2,?_⟩⟩)⟩
  ·exact fin w13 sZ 1 (m12.no m13) (by unfold CT;rw[if_neg (by omega),if_neg (by simpa using h4),if_neg (by omega),if_pos h])
  ·rw[Jl];have hb:=dD hl2 h4 hsum h;refine Aa (fun h2=>⟨_,Gd,?_⟩) (fun h2=>⟨_,(d2.keep m13 id).at.all CX rfl,?_⟩)
   ·have h2:¬ DR (Gl xs)=xs:=by simpa using h2
    refine fin w13 sZ 8 (m12.no m13) ?_;unfold CT;rw[if_neg (by omega),if_neg (by simpa using h4),if_neg (by omega),if_neg (by rw[h];simp),if_pos];cases hz:((xs.drop 18).take 234).all (·==0)with
    | true=>exact absurd (hb.2 hz) h2
    | false=>rfl
   ·have h2:DR (Gl xs)=xs:=by simpa using h2
    exact fin w13 (Gl xs) 0 (m12.no m13) (by unfold CT;rw[if_neg (by omega),if_neg (by simpa using h4),if_neg (by omega),if_neg (by rw[h];simp),if_neg (by rw[hb.1 h2];simp)])
 refine⟨_,_,_,Be Am (by omega) (by omega) (by omega),_,_,_,Be Am (by omega) (by omega) (by omega),_,_,_,Be Am (by omega) (by omega) (by omega),_,_,_,Be Am (by omega) (by omega) (by omega),?_⟩;have g4:∀{w':World}{Q:Value->World->Prop},Bl w' a (Au xs)->Q (.int .u64 (BW ((xs.drop 4).take 8):Int)) w'->A8 Tryz.prog Ai #[.slice (Cb a c (4:Int).toNat 1) ((12:Int).toNat-(4:Int).toNat) (c-(4:Int).toNat)] w' Q:=fun hr' hq=>Ud (i:=4) (m:=8) hl2 hc hr' (by omega) (by omega) rfl hq
 have g12:∀{w':World}{Q:Value->World->Prop},Bl w' a (Au xs)->Q (.int .u64 (BW ((xs.drop 12).take 2):Int)) w'->A8 Tryz.prog Ai #[.slice (Cb a c (12:Int).toNat 1) ((14:Int).toNat-(12:Int).toNat) (c-(12:Int).toNat)] w' Q:=fun hr' hq=>Ud (i:=12) (m:=2) hl2 hc hr' (by omega) (by omega) rfl hq;have g14:∀{w':World}{Q:Value->World->Prop},Bl w' a (Au xs)->Q (.int .u64 (BW ((xs.drop 14).take 2):Int)) w'->A8 Tryz.prog Ai #[.slice (Cb a c (14:Int).toNat 1) ((16:Int).toNat-(14:Int).toNat) (c-(14:Int).toNat)] w' Q:=fun hr' hq=>Ud (i:=14) (m:=2) hl2 hc hr' (by omega) (by omega) rfl hq
 have g16:∀{w':World}{Q:Value->World->Prop},Bl w' a (Au xs)->Q (.int .u64 (BW ((xs.drop 16).take 2):Int)) w'->A8 Tryz.prog Ai #[.slice (Cb a c (16:Int).toNat 1) ((18:Int).toNat-(16:Int).toNat) (c-(16:Int).toNat)] w' Q:=fun hr' hq=>Ud (i:=16) (m:=2) hl2 hc hr' (by omega) (by omega) rfl hq;obtain⟨w2,e1,e2,e3,e4⟩:=A9 (P:=Tryz.prog) (w:=Go.Den.Ah (Go.Den.Ah w1)) (T:=232) IG
 have hrd:Bl (Go.Den.Ah (Go.Den.Ah w1)) a (Au xs):=hrd.nos (Ab.refl No _).drew;have hr2:=hrd.nos e3;have t2:=tail w2 _ (md.drew.no e3) (Ld _) e2;refine⟨g4 hrd ⟨_,rfl,g12 hrd ⟨_,rfl,g14 hrd ⟨_,rfl,g16 hrd ⟨_,rfl,_,Hl _ _ _,_,Hm _ _,_,w2,e1,t2⟩,_,w2,e1,g16 hr2 ⟨_,rfl,_,Hl _ _ _,_,Hm _ _,t2⟩⟩,_,w2,e1,g14 hr2 ⟨_,rfl,g16 hr2 ⟨_,rfl,_,Hl _ _ _,_,Hm _ _,t2⟩⟩⟩,_,w2,e1,g12 hr2 ⟨_,rfl,g14 hr2 ⟨_,rfl,g16 hr2 ⟨_,rfl,_,Hl _ _ _,_,Hm _ _,t2⟩⟩⟩⟩,_,w2,e1,g4 hr2 ⟨_,rfl,g12 hr2 ⟨_,rfl,g14 hr2 ⟨_,rfl,g16 hr2 ⟨_,rfl,_,Hl _ _ _,_,Hm _ _,t2⟩⟩⟩⟩⟩
theorem nF(w:World)(a a':Option Addr)(l c l' c':Nat):(Instr.buildSlice 295 2 #[(0,.slice a l c),(1,.slice a' l' c')]).run Tryz.prog w=.ok (.slice (some ⟨w.heap.size,0,none⟩) 2 2) (w.alloc (.cells ⟨[.slice a l c,.slice a' l' c']⟩ 88)):=by kernel_rfl
set_option maxRecDepth 4000 in
theorem iJ{a1 a2:Option Addr}{l1 l2 c1 c2:Nat}{xs ys:List UInt8}{n:Int}(hl1:xs.length=l1)(hc1:l1<=c1)(hr1:Bl w a1 (Au xs))(h631:l1<=1048576)(hl2:ys.length=l2)(hc2:l2<=c2)(hr2:Bl w a2 (Au ys))(h632:l2<=1048576)
  (hk:∀ w',Ab No w w'->K (.tuple #[.agg ⟨sV (BR xs ys n).1⟩,.int .i64 (BR xs ys n).2.1,.int .i64 (BR xs ys n).2.2]) w'):A8 Tryz.prog Fl #[.slice a1 l1 c1,.slice a2 l2 c2,.int .i64 n] w K:=by
 apply OE;unfold Im;obtain⟨w1,x1,x2,x3,x4⟩:=A9 (P:=Tryz.prog) (w:=w) (T:=232) IG;obtain⟨w2,hw2⟩:∃ w2,w2=w1.alloc (.cells ⟨[.slice a1 l1 c1,.slice a2 l2 c2]⟩ 88):=⟨_,rfl⟩;have r2:A1 w2 w1.heap.size 0 [.slice a1 l1 c1,.slice a2 l2 c2]:=by rw[hw2];exact A1.new
 have m2:Ab No w1 w2:=by rw[hw2];exact(Ab.refl No w1).alloc _
 have s2:w2.heap.size=w1.heap.size+1:=by rw[hw2];exact World.size_alloc _ _
 have hbt:=nF w1 a1 a2 l1 c1 l2 c2;rw[<- hw2]at hbt;obtain⟨w3,y1,y2,y3,y4⟩:=A9 (P:=Tryz.prog) (w:=w2) (T:=232) IG;refine⟨_,w1,x1,_,_,_,w2,hbt,_,w3,y1,?_⟩;have eN:Ge Tryz.prog 295=some 1:=by kernel_rfl
 have round:∀(i:Nat)(a:Option Addr)(l c:Nat)(xs:List UInt8)(b:Sp)(pl:Value)(w4:World)(R:List Value->World->Prop),i<2->xs.length=l->l<=c->Bl w a (Au xs)->l<=1048576->0<=b.gen->A1 w4 w2.heap.size 0 (sV b)->Ab No w2 w4 ->
   (∀ w' p y,A1 w' w2.heap.size 0 (sV (B6 i xs n b))->Ab No w2 w'->(p=.int .i64 (i:Int)/\OZ (B6 i xs n b)=true/\(B6 i xs n b).gen % 2=i\/p=pl/\B6 i xs n b=b)->R [p,.int .i64 ((i+1:Nat):Int),y] w')->A8 Tryz.prog EW #[.slice a l c] w4 fun r27 w5=>∃ g27a:Array Value,∃ n27b:Int,r27=.tuple #[.agg g27a,.int .i64 n27b]/\∃ q13:Addr,∃ w6:World,Ru (Instr.alloc 232 true (.tuple #[])) w5 (.pointer (some q13)) w6/\∃ w7:World,Eh (Instr.storeAt 232 (.pointer (some q13)) (.agg g27a)) w6 w7/\Ac (fun k_2=>(bif n27b==0 then ∃ n34:Int,Ru (Instr.loadAt 2 (.pointer (some (Addr.add q13 0)))) w7 (.int .i64 n34) w7/\(bif (Int.tmod n34 2)==(i:Int)then ∃ g41:Array Value,Ru (Instr.loadAt 40 (.pointer (some (Addr.add q13 1)))) w7 (.agg g41) w7/\A8 Tryz.prog Bu #[.agg g41] w7 fun r42 w8=>∃ n42:Int,r42=.int .i64 n42/\(bif decide (n42<=n)then ∃ n48:Int,Ru (Instr.loadAt 2 (.pointer (some (Addr.add q13 0)))) w8 (.int .i64 n48) w8/\∃ n50:Int,Ru (Instr.loadAt 2 (.pointer (some (Addr.add ⟨w2.heap.size,0,none⟩ 0)))) w8 (.int .i64 n50) w8/\k_2 [.bool (decide (n48 > n50))] w8 else k_2 [.bool false] w8)else k_2 [.bool false] w7)else k_2 [.bool false] w7)) fun x_2 w9 =>
     ∃ b52:Bool,Ap x_2 0=.bool b52/\Ac (fun k_3=>(bif b52 then
      ∃ g53:Array Value,Ru (Instr.loadAt 232 (.pointer (some q13))) w9 (.agg g53) w9/\∃ w10:World,Eh (Instr.storeAt 232 (.pointer (some ⟨w2.heap.size,0,none⟩)) (.agg g53)) w9 w10/\k_3 [.int .i64 (i:Int)] w10
      else k_3 [pl] w9)) fun x_3 w11=>R [Ap x_3 0,.int .i64 (IntKind.i64.wrap ((i:Int)+1)),.bool b52] w11:=by
  intro i a l c xs b pl w4 R hi hl hc hr h63 hb hat m4 hend;have M4:=x3.no (m2.no m4);refine AaW (xs:=xs) hl hc (hr.nos M4) h63 fun w5 m5=>⟨_,_,rfl,?_⟩;obtain⟨w6,d1,d2,d3,d4⟩:=A9 (P:=Tryz.prog) (w:=w5) (T:=232) IG;obtain⟨w7,e1,e2,e3,e4⟩:=d2.put (T:=232) (vs:=sV (CT xs).1) CX rfl rfl (Ft _);have m47:Ab No w4 w7:=m5.no (d3.own e3 (Ld _));have hb7:=hat.keep m47 id
  refine⟨_,w6,d1,w7,e1,Ac.cut (fun z w10=>Ab No w7 w10/\z=[.bool (decide ((CT xs).2=0/\(CT xs).1.gen % 2=(i:Int)/\AJ (CT xs).1.geo<=n/\(CT xs).1.gen > b.gen))]) ?_ ?_⟩
  ·have no:∀{p:Prop} [Decidable p],¬ p->[Value.bool false]=[.bool (decide p)]:=fun h=>by rw[Lf h]
   rw[GO];refine Aa (fun h=>⟨_,e2.at.fld BL rfl,?_⟩) (fun h=>⟨Ab.refl _ _,no fun e=>Lb h e.1⟩);have h:=Lc h;have hok:=(U6 h).1;have hg:=(H3.1 hok).1.1;rw[GO,mL (by omega)];refine Aa (fun h2=>⟨_,e2.at.fldA (n:=3) (vs:=gV (CT xs).1.geo) Aq (by simp[sV,gV]) rfl,L7 fun w8 m8=>⟨_,rfl,?_⟩⟩) (fun h2=>⟨Ab.refl _ _,no fun e=>Lb h2 e.2.1⟩)
   have h2:=Lc h2;refine Aa (fun h3=>⟨_,(e2.keep m8 id).at.fld BL rfl,_,(hb7.keep m8 id).at.fld BL rfl,m8,?_⟩) (fun h3=>⟨m8,no fun e=>Lb h3 e.2.2.1⟩);have h3:=Lc h3;by_cases h4:(CT xs).1.gen > b.gen
   ·rw[Le h4,Le (show _/\_/\_/\_ from⟨h,h2,h3,h4⟩)]
   ·rw[Lf h4];exact no fun e=>h4 e.2.2.2
  rintro z w10 ⟨m10,rfl⟩;have M10:Ab No w2 w10:=m4.no (m47.no m10);rw[Ag (x:=(i:Int)+1) (by omega) (by omega)];refine⟨_,rfl,Ac.dup (Aa (fun h=>⟨_,(e2.keep m10 id).at.all CX rfl,?_⟩) (fun h=>?_))⟩
  ·have h:=Lc h;obtain⟨w11,f1,f2,f3,f4⟩:=((hb7.keep m10 id)).put (T:=232) (vs:=sV (CT xs).1) CX rfl rfl (Ft _);have e:B6 i xs n b=(CT xs).1:=by unfold B6;rw[if_pos h]
   refine⟨w11,f1,?_⟩
   have:=hend w11 (.int .i64 (i:Int)) (.bool true) (by rw[e];exact f2) (M10.own f3 (Ld _)) (.inl ⟨rfl,by rw[e];exact(U6 h.1).1,by rw[e];exact h.2.1⟩)
   rwa [Le h]
  ·have h:=Lb h;have e:B6 i xs n b=b:=by unfold B6;rw[if_neg h]
   have:=hend w10 pl (.bool false) (by rw[e];exact hb7.keep m10 id) M10 (.inr ⟨rfl,e⟩)
   rwa [Lf h]
 obtain⟨I,hI⟩:∃ I:List Value->World->Prop,I=fun x w4=>∃(i:Nat)(p:Int)(y:Value),i<=2/\x=[.int .i64 p,.int .i64 i,y]/\A1 w4 w2.heap.size 0 (sV (Ns xs ys n i))/\Ab No w2 w4/\(p=-1/\Ns xs ys n i=sZ\/0<=p/\OZ (Ns xs ys n i)=true/\(Ns xs ys n i).gen % 2=p):=⟨_,rfl⟩;refine⟨I,fun x _=>(2-nI x 1).toNat,by rw[hI];exact⟨0,-1,_,by omega,rfl,y2,y3,.inl ⟨rfl,rfl⟩⟩,?_⟩;intro x w4 hx;have hx':=hx
 rw[hI]at hx';obtain⟨i,p,y,hi,rfl,hat,m4,hp⟩:=hx';refine⟨_,rfl,Aa (fun h=>?_) (fun h=>?_)⟩
 ·have h:=Lc h;have hsl:=r2.keep m4 id;refine⟨_,Ar eN (by omega) (by omega) ,?_⟩;rcases(by omega:i=0\/i=1)with rfl | rfl
  ·refine⟨_,_,_,hsl.at.fld Bn rfl,round 0 a1 l1 c1 xs sZ _ w4 (fun x' w'=>I x' w'/\(2-nI x' 1).toNat<(2-nI [.int .i64 p,.int .i64 ((0:Nat):Int),y] 1).toNat) (by omega) hl1 hc1 hr1 h631 (by decide) hat m4 fun w' p' y' f1 f2 f3=>⟨?_,by simp[nI,Ap]⟩⟩;rw[hI];rcases f3 with ⟨rfl,f4,f5⟩ | ⟨rfl,f4⟩
   ·exact⟨1,0,y',by omega,rfl,f1,f2,.inr ⟨by omega,f4,f5⟩⟩
   ·refine⟨1,p,y',by omega,rfl,f1,f2,?_⟩;have e:Ns xs ys n 1=sZ:=f4;rw[e];exact hp
  ·refine⟨_,_,_,hsl.at.fld Bn rfl,round 1 a2 l2 c2 ys (B6 0 xs n sZ) _ w4 (fun x' w'=>I x' w'/\(2-nI x' 1).toNat<(2-nI [.int .i64 p,.int .i64 ((1:Nat):Int),y] 1).toNat) (by omega) hl2 hc2 hr2 h632 (RI (by decide)) hat m4 fun w' p' y' f1 f2 f3=>⟨?_,by simp[nI,Ap]⟩⟩;rw[hI];rcases f3 with ⟨rfl,f4,f5⟩ | ⟨rfl,f4⟩
   ·exact⟨2,1,y',by omega,rfl,f1,f2,.inr ⟨by omega,f4,f5⟩⟩
   ·refine⟨2,p,y',by omega,rfl,f1,f2,?_⟩;have e:Ns xs ys n 2=Ns xs ys n 1:=f4;rw[e];exact hp
 ·have h:=Lb h;have hi2:i=2:=by omega
  subst hi2;have hat:A1 w4 w2.heap.size 0 (sV (Cz xs ys n)):=hat;have hp:p=-1/\Cz xs ys n=sZ\/0<=p/\OZ (Cz xs ys n)=true/\(Cz xs ys n).gen % 2=p:=hp;have M4:Ab No w1 w4:=m2.no m4;have q6:=x2.keep M4 id;refine⟨_,rfl,Aa (fun h=>⟨_,Gd,?_⟩) (fun h=>⟨_,hat.at.all CX rfl,?_⟩)⟩
  ·have h:=Lc h;have hz:Cz xs ys n=sZ:=by rcases hp with h1 | h1;exact h1.2;omega
   obtain⟨w15,f1,f2,f3,f4⟩:=q6.put (T:=232) (vs:=sV sZ) CX rfl rfl (Ft _);refine⟨w15,f1,_,f2.at.all CX rfl,?_⟩;have hr:=hk w15 ((x3.no M4).own f3 (Ld _));unfold BR at hr;rw[if_pos hz]at hr;exact hr
  ·have h:=Lb h;obtain⟨h1,h2,h3⟩:0<=p/\OZ (Cz xs ys n)=true/\(Cz xs ys n).gen % 2=p:=by rcases hp with h1 | h1;omega;exact h1
   have hz:Cz xs ys n≠sZ:=fun e=>by rw[e]at h2;cases h2
   obtain⟨w15,f1,f2,f3,f4⟩:=q6.put (T:=232) (vs:=sV (Cz xs ys n)) CX rfl rfl (Ft _);refine⟨w15,f1,_,f2.at.all CX rfl,?_⟩;have hr:=hk w15 ((x3.no M4).own f3 (Ld _));unfold BR at hr;rw[if_neg hz,h3]at hr;exact hr
end
end Go.Z
end
section
open Go Go.Den Go.Proofs
namespace Go.Den
section
variable{P:Program}{w:World}
def Nt(P:Program)(T:TypeId)(k bytes:Nat):Prop:=∃ e i zv,P.underlying T=some (.slice e)/\P.info? e=some i/\i.size=k/\i.zero=some zv/\zv.cells.size=k/\i.bytes=bytes
def sC(P:Program)(T:TypeId):Option (Nat×Nat×Nat) :=
 match P.underlying T with
 | some (.slice e)=>match P.info? e with
  | some i=>match i.zero with
   | some z=>some (i.size,z.cells.size,i.bytes)
   | none=>none
  | none=>none
 | _=>none
theorem Nu{T:TypeId}{k bytes:Nat}(h:sC P T=some (k,k,bytes)):Nt P T k bytes:=by
 unfold sC at h
 split at h
 ·rename_i e he
  split at h
  ·rename_i i hi
   split at h
   ·rename_i zv hz;have h:=Ln h;simp only[Lc6]at h;exact⟨e,i,zv,he,hi,h.1,hz,h.2.1,h.2.2⟩
   ·cases h
  ·cases h
 ·cases h
theorem Ow.nilG{base k bytes:Nat}{T:TypeId}(hT:Nt P T k bytes):Ow P w base T k none 0 0 []:=by
 obtain⟨e,i,zv,he,_⟩:=hT;exact⟨e,he,World.ownsRow_nil w base e k⟩
theorem Ow.appG{base k bytes l c m c2:Nat}{T ty:TypeId}{a:Option Addr}{ad:Addr}{xs ys:List Value}(hT:Nt P T k bytes)(hk:0<k)(h:Ow P w base T k a l c xs)
  (hr:Bl w (some ad) ys) (hl:ys.length=m*k) (hm:0<m) (h1:∀ v∈ys,v.oneCell'=true) (h63:(l+m)*bytes<=140737488355328) (hb:0<bytes) (hbase:base<=w.heap.size) :
  ∃ q c' w',(Builtin.append_ #[T,T] ty #[.slice a l c,.slice (some ad) m c2]).run P w=.ok (.slice (some q) (l+m) c') w'/\Ow P w' base T k (some q) (l+m) c' (xs++ys)/\Ab (fun x=>∃ q,a=some q/\x=q.block) w w' /\
   ((∃ q',a=some q'/\q.block=q'.block)\/w.heap.size<=q.block):=by
 obtain⟨e,i,zv,he,hi,hsz,hz,hzc,hby⟩:=hT;obtain⟨e',he',how⟩:=h;have:e'=e:=by rw[he]at he';simpa using he'.symm
 subst this;have hlm:l+m<=(l+m)*bytes:=Lf3 _ hb;have hmb:m*bytes<=(l+m)*bytes:=mI _ (by omega);have hcell:∀ j u,ys[j]?=some u->w.cell? (ad.add j)=some u:=by
  intro j u hj;rcases hr with hr | ⟨b,o,e,hat⟩
  ·subst hr;simp at hj
  ·simp at e;subst e;exact hat.cell hj
 obtain⟨v',w',hrun,how',hgr,_⟩:=run_append_own w base T ty e' i zv k bytes he hi hz hsz hby hzc hk (.slice a l c) l xs how ad m c2 ys hl hcell h1 (by simp[maxLen];omega) h63 hbase;have hmod:Ab (fun x=>∃ q,a=some q/\x=q.block) w w':=(Ab.grown hgr).mono fun x hx e=>by
  cases a with
  | none=>cases e
  | some q=>exact⟨q,rfl,by simpa [Value.ownBlock] using e.symm⟩
 rcases how.2 with ⟨hv,hx⟩|⟨g,cap,GT,hv,hbg,hg,hnc,hcm,hcs,htake⟩
 ·simp at hv;obtain⟨rfl,rfl,rfl⟩:=hv;have hr2:=run_append_nil (P:=P) w T ty e' i zv he hi hz ad m c2 ys (by rw[hsz];exact hl) hcell hm (by omega) (by rw[hby];omega);have hrun':=hrun;rw[hr2]at hrun';simp only[Result.ok.injEq]at hrun';obtain⟨rfl,_⟩:=hrun';rw[Pj]at how' |-;exact⟨_,_,w',hrun,⟨e',he,how'⟩,hmod,.inr (Ld _)⟩
 ·simp at hv;obtain⟨rfl,rfl⟩:=hv;by_cases hroom:l+m<=c
  ·have hr2:=run_append_room (P:=P) w T ty e' i he hi g l c GT hg ad m c2 ys (by rw[hsz];exact hl) hcell h1 hroom (by rw[hsz,hl,hcs,<- Ln5];exact mI _ hroom);have hrun':=hrun;rw[hr2]at hrun';simp only[Result.ok.injEq]at hrun';obtain⟨rfl,_⟩:=hrun';exact⟨_,_,w',hrun,⟨e',he,how'⟩,hmod,.inl ⟨_,rfl,rfl⟩⟩
  ·have holds:∀ j u,xs[j]?=some u->w.cell? ((⟨g,0,none⟩:Addr).add j)=some u:=how.cells (g:=g) rfl;have hr2:=run_append_grow (P:=P) w T ty e' i zv he hi hz ⟨g,0,none⟩ l c xs (by rw[hsz];exact how.1) holds ad m c2 ys (by rw[hsz];exact hl) hcell (by omega) (by omega) (growslice_fits (by omega) (by rw[hby];exact h63));have hrun':=hrun;rw[hr2]at hrun';simp only[Result.ok.injEq]at hrun';obtain⟨rfl,_⟩:=hrun'
   exact⟨_,_,w',hrun,⟨e',he,how'⟩,hmod,.inr (Ld _)⟩
theorem Ow.setK{base k l c g i:Nat}{T T':TypeId}{ys:List Value}{v:Value}(h:Ow P w base T k (some ⟨g,0,none⟩) l c ys)(hT:DQ P T'=true)(hi:i<l*k)(hv:v.oneCell'=true) :
  ∃ w',(Instr.storeAt T' (.pointer (some ⟨g,i,none⟩)) v).run P w=.ok () w'/\Ow P w' base T k (some ⟨g,0,none⟩) l c (ys.set i v)/\Ab (fun x=>x=g) w w':=by
 have hlen:=h.len;obtain⟨e,he,h1,h2⟩:=h;rcases h2 with ⟨hn,_⟩ | ⟨g',cap,GT,hw,hb,hg,hle,hm,hsz,ht⟩
 ·cases hn
 ·simp at hw;obtain⟨rfl,rfl⟩:=hw;have hcur:w.heap[g]?=some (.cells ⟨GT.toList⟩ e (0,0)):=hg;have hmul:l*k<=c*k:=mI _ hle;have hci:i<GT.toList.length:=by simp[hsz];omega
  refine⟨_,Mn hT hcur hci (by simp) hv,⟨e,he,by simpa using h1,.inr ⟨g,c,⟨GT.toList.set i v⟩,rfl,hb,AZ (AK hg),hle,hm,by simp[hsz],?_⟩⟩,(Ab.refl (fun x=>x=g) w).put (.inr rfl) _⟩;show(GT.toList.set i v).take (l*k)=ys.set i v;rw[List.take_set,ht]
end
end Go.Den
end
section
open Go Go.Den Go.Proofs
namespace Go.Den
theorem AeA{a k:Nat}(h:a.testBit k=false):a ^^^ 2 ^ k=a ||| 2 ^ k:=by
 apply Lz3;intro i;rw[Nat.testBit_xor,Lc4,Ls2];by_cases hi:k=i
 ·subst hi;rw[h];simp
 ·rw[Lf hi];simp
theorem pQ{xs:List UInt8}{i:Nat}(hi:i<8*xs.length)(h:AN xs i=true):Pa xs i=xs:=by
 unfold Pa;have h8:i / 8<xs.length:=by omega
 apply mM;intro j;by_cases hj:i / 8=j
 ·subst hj;rw[Zp h8,Lk h8]
  congr 1
  apply Ly4.1;rw[XW];unfold AN at h;rw[Lj,Lk h8]at h |-;apply Lz3;intro k;rw[Lc4,Ls2];by_cases hk:i % 8=k
  ·subst hk;have h:xs[i / 8].toNat.testBit (i % 8)=true:=h;show(xs[i / 8].toNat.testBit (i % 8) || _)=_;rw[h];rfl
  ·rw[Lf hk,Lt4];rfl
 ·rw[ZK hj]
def Ww(no:Int)(a:Option Addr)(c:Nat)(a':Option Addr)(c':Nat):List Value:=[.int .i64 no,.slice a 16 c,.slice a' 8 c']
theorem RG(no:Int)(a:Option Addr)(c:Nat)(a':Option Addr)(c':Nat):∀ v∈Ww no a c a' c',v.oneCell'=true:=by
 intro v hv;simp only[Ww,Lz,Li5,or_false]at hv;rcases hv with rfl | rfl | rfl<;>rfl
end Go.Den
namespace Go.Z
theorem Bs:Ei Tryz.prog 183=some 3:=by kernel_rfl
section
variable{w:World}{K:Value->World->Prop}
theorem lI{a:Option Addr}{l c i:Nat}{xs:List UInt8}(hl:xs.length=l)(hr:Bl w a (Au xs))(h0:a=none->l=0/\c=0)(h63:l<=1048576)(hi:i<8*l)
  (hk:∀ w' a' c',Ab No w w'->Ow Tryz.prog w' w.heap.size 88 1 a' l c' (Au (Pa xs i))->K (.tuple #[.slice a' l c',.int .i64 0]) w'):A8 Tryz.prog AB #[.slice a l c,.int .i64 i,.bool true] w K:=by
 apply So;unfold KA;have hi8:i / 8<xs.length:=by omega
 have d1:IntKind.i64.wrap (Int.tdiv (i:Int) 8)=((i / 8:Nat):Int):=by rw[jI (by omega),Ag (by omega) (by omega)];omega
 have d2:IntKind.u64.wrap (Int.tmod (i:Int) 8)=((i % 8:Nat):Int):=by rw[mL (by omega),El (by omega) (by omega)];omega
 rw[d1,d2];refine Ac.dup (ff (Lf (by omega)) ⟨_,rfl,ff (Lf (by omega)) ?_⟩);obtain⟨a',c',w2,p1,p2,p3⟩:=(Ow.nil (P:=Tryz.prog) (w:=w) (base:=w.heap.size) AE).append (ty:=88) (m:=l) (c2:=c) AE (by omega) hr (by simp[hl]) h0 (BF xs) (by omega) (by omega) (Ld _);rw[Pj,QN]at *;have M2:Ab No w w2:=(Ab.refl No w).up p3 (Ld _)
 refine⟨_,_,_,w2,p1,Mg (xs:=xs) hl (hr.nos M2) h63 (by omega) ⟨_,rfl,?_⟩⟩;have hlt:0<l:=by omega
 obtain⟨g,rfl,hg,hat⟩:=p2.sm hlt;refine Ac.cut (fun z w5=>Ow Tryz.prog w5 w.heap.size 88 1 (some ⟨g,0,none⟩) l c' (Au (Pa xs i))/\Ab No w w5) (Aa (fun hb=>?_) (fun hb=>?_)) ?_
 ·have hb:AN xs i=false:=by cases hx:AN xs i with | false=>rfl | true=>rw[hx]at hb;cases hb
  refine⟨_,Ar Am (by omega) (by omega),(xs[i / 8].toNat:Int),?_,_,vR (by omega),_,Ar Am (by omega) (by omega),?_⟩
  ·rw[Ad,show((i / 8:Nat):Int).toNat*1=i / 8 by omega];exact hat.at.load LC (CP hi8)
  rw[RH (mJ _ (by omega)),wZ (xs[i / 8].toNat_lt) (iA (mJ _ (by omega))),Ad,show((i / 8:Nat):Int).toNat*1=i / 8 by omega];have hbit:xs[i / 8].toNat.testBit (i % 8)=false:=by
   unfold AN at hb;rw[Lj,Lk hi8]at hb;exact hb
  rw[AeA hbit];obtain⟨w4,r1,r2,r3⟩:=Ow.setK (v:=.int .u8 ((xs[i / 8].toNat ||| 2 ^ (i % 8):Nat):Int)) p2 LC (i:=i / 8) (by omega) rfl;refine⟨w4,?_,?_,?_⟩
  ·simpa using r1
  ·have e:(Au xs).set (i / 8) (.int .u8 ((xs[i / 8].toNat ||| 2 ^ (i % 8):Nat):Int))=Au (Pa xs i):=by
    rw[Ov _ _ _ (xX (n:=8) (xs[i / 8].toNat_lt) (iA (mJ _ (by omega))))];unfold Pa;rw[Lj,Lk hi8];rfl
   rw[<- e];exact r2
  ·exact M2.own r3 hg
 ·have hb:AN xs i=true:=by cases hx:AN xs i with | true=>rfl | false=>rw[hx]at hb;cases hb
  rw[pQ (by omega) hb];exact⟨p2,M2⟩
 ·rintro z w5 ⟨h5,m5⟩;exact hk w5 _ _ m5 h5
end
end Go.Z
end
section
open Go Go.Den Go.Proofs
namespace Go.Den
def S2(xs:List UInt8)(i:Nat):List UInt8:=xs.set (i / 8) (UInt8.ofNat ((xs.getD (i / 8) 0).toNat &&& (255-2 ^ (i % 8))))
theorem Ve(xs:List UInt8)(i:Nat):(S2 xs i).length=xs.length:=by simp[S2]
theorem nL(xs:List UInt8)(i:Nat):(UInt8.ofNat ((xs.getD (i / 8) 0).toNat &&& (255-2 ^ (i % 8)))).toNat=(xs.getD (i / 8) 0).toNat &&& (255-2 ^ (i % 8)):=by
 have h:=kE (xs:=xs) (k:=i / 8);have:(xs.getD (i / 8) 0).toNat &&& (255-2 ^ (i % 8))<=(xs.getD (i / 8) 0).toNat:=Nat.and_le_left;rw[Lr3];omega
theorem WV{xs:List UInt8}{i j:Nat}(hi:i<8*xs.length):AN (S2 xs i) j=(AN xs j&&!decide (i=j)):=by
 unfold AN S2;by_cases hj:i / 8=j / 8
 ·rw[<- hj,Lj,Zp (by omega)];show(UInt8.ofNat _).toNat.testBit _=_;rw[nL,Lx4]
  congr 1
  have hp:=p8 (k:=i);have e:255-2 ^ (i % 8)=2 ^ 8-(2 ^ (i % 8)+1):=by omega
  rw[e,Nat.testBit_two_pow_sub_succ (by omega),Ls2];have h8:j % 8<8:=by omega
  rw[Le h8,Ws]
  congr 1
  exact ZH.2 ⟨fun h=>by omega,fun h=>by rw[h]⟩
 ·rw[Lj,ZK hj,<- Lj,Lf (fun h=>hj (by rw[h]))];simp
def HO(xs:List UInt8)(i:Nat)(on:Bool):List UInt8:=if on=true then Pa (S2 xs i) i else S2 xs i
theorem HP(xs:List UInt8)(i:Nat)(on:Bool):(HO xs i on).length=xs.length:=by
 unfold HO;split<;>simp[RM,Ve]
theorem IB{xs:List UInt8}{i j:Nat}{on:Bool}(hi:i<8*xs.length):AN (HO xs i on) j=if i=j then on else AN xs j:=by
 unfold HO;cases on
 ·rw[if_neg (by simp),WV hi];by_cases h:i=j
  ·rw[if_pos h,Le h];simp
  ·rw[if_neg h,Lf h];simp
 ·rw[if_pos rfl,NS (by rw[Ve];exact hi),WV hi];by_cases h:i=j
  ·rw[if_pos h,Le h];simp
  ·rw[if_neg h,Lf h];simp
def C0(xs:List UInt8)(i:Nat):Bool:=!AN xs i
def Nz(n f:Int):Int:=if f<0\/n<f then 0 else f
def xK(xs:List UInt8)(n:Int):Nat:=(min (max n 0) (8*xs.length)).toNat
def GA(xs:List UInt8)(n f:Int):Int :=
 match (List.range (xK xs n)).find? (fun i=>C0 xs i&&decide (Nz n f<=i))with
 | some i=>i
 | none=>match (List.range (xK xs n)).find? (C0 xs)with
  | some i=>i
  | none=>-1
theorem HX(p:Nat->Bool)(n:Nat):(List.range (n+1)).find? p=match (List.range n).find? p with | some i=>some i | none=>if p n=true then some n else none:=by
 rw[Lw4,List.find?_append];cases h:(List.range n).find? p with
 | some i=>rfl
 | none=>simp only[Option.none_or,List.find?_cons,List.find?_nil];cases p n<;>rfl
theorem Ua{p : Nat → Bool}{m n i : Nat}(h : (List.range m).find? p = some i)(hm : m ≤ n) : (List.range n).find? p = some i := by
  induction n with
  | zero => have : m = 0 := by omega
            subst this;exact h
  | succ n ih =>
    by_cases e : m = n + 1
    · rw[← e];exact h
    · rw[HX, ih (by omega)]
theorem M0{p:Nat->Bool}{n i:Nat}(h:(List.range n).find? p=some i):p i=true/\i<n :=
 ⟨Lq5 h,Ty.1 (Lt2 h)⟩
theorem TA{xs:List UInt8}{n f:Int}(h:0<=GA xs n f):∃ i:Nat,GA xs n f=i/\AN xs i=false/\(i:Int)<n/\i<8*xs.length:=by
 unfold GA at h |-;have up:∀ i,i<xK xs n->(i:Int)<n/\i<8*xs.length:=fun i hi=>by unfold xK at hi;omega
 split at h
 ·rename_i i hi;obtain⟨h1,h2⟩:=M0 hi;refine⟨i,rfl,?_,up i h2⟩;simp only[C0,Lp,TW]at h1;exact h1.1
 ·rename_i h0;rw[h0]at *
  split at h
  ·rename_i i hi;obtain⟨h1,h2⟩:=M0 hi;refine⟨i,rfl,?_,up i h2⟩;simpa [C0] using h1
  ·omega
end Go.Den
end
section
open Go Go.Den Go.Proofs
namespace Go.Den
def gJ(g:Gm)(h:Hd)(i:Nat):Bool:=(!decide ((i:Int)<1+g.no / 4) || AN h.bs i)&&(!decide (g.gr<=(i:Int)) || !AN h.bs i)
def kK(g:Gm)(h:Hd)(i:Nat):Bool:=(!decide (g.no<=(i:Int)) || !AN h.ss i)&&(!decide (h.no=0/\i<2) || AN h.ss i)
theorem Ab7(g:Gm)(h:Hd):I8 g h=(CU g&&decide (0<=h.no/\h.no<g.gs)&&(List.range 128).all (gJ g h)&&(List.range 64).all (kK g h)):=rfl
theorem Y4(f:Nat->Bool)(i:Nat):(List.range (i+1)).all f=((List.range i).all f&&f i):=by
 rw[Lw4,Lv3];simp
end Go.Den
namespace Go.Z
section
variable{w:World}{K:Value->World->Prop}
set_option maxRecDepth 4000 in
theorem XQ{g:Gm}{h:Hd}{a a':Option Addr}{c c':Nat}(hw:Fq h)(ra:Bl w a (Au h.bs))(rs:Bl w a' (Au h.ss))(hk:∀ w',Ab No w w'->K (.bool (I8 g h)) w'):A8 Tryz.prog Eg #[.agg ⟨gV g⟩,.agg ⟨Ww h.no a c a' c'⟩] w K:=by
 apply PG;unfold IY;obtain⟨w1,a1,a2,a3,a4⟩:=AC (P:=Tryz.prog) (w:=w) (T:=40) (cs:=gV g);obtain⟨w2,b1,b2,b3,b4⟩:=AC (P:=Tryz.prog) (w:=w1) (T:=183) (cs:=Ww h.no a c a' c');have m2:=a3.no b3;have q2:=a2.keep b3 id;have hw1:=hw.1;have hw2:=hw.2;refine⟨_,w1,a1,_,w2,b1,Ac.cut (fun z w4=>Ab No w2 w4/\z=[.bool (!(CU g&&decide (0<=h.no/\h.no<g.gs)))]) ⟨_,q2.at.all Aq rfl,DN fun w3 m3=>⟨_,rfl,?_⟩⟩ ?_⟩
 ·have p2:=q2.keep m3 id;have p3:=b2.keep m3 id;refine Aa (fun hg=>⟨m3,?_⟩) (fun hg=>⟨_,p3.at.fld Aj rfl,Aa (fun h1=>⟨m3,?_⟩) (fun h1=>⟨_,p3.at.fld Aj rfl,_,p2.at.fld Aj rfl,Aa (fun h2=>⟨m3,?_⟩) (fun h2=>⟨_,_,_,p3.at.fld Bn rfl,ff (by decide) ⟨_,_,_,p3.at.fld Bn rfl,m3,?_⟩⟩)⟩)⟩)
  ·rw[TW]at hg;rw[hg];rfl
  ·have h1:=Lc h1;rw[Lf (by omega),qR];rfl
  ·have h2:=Lc h2;rw[Lf (by omega),qR];rfl
  ·have h1:=Lb h1;have h2:=Lb h2;rw[Zq]at hg;rw[hg,Le (show 0<=h.no/\h.no<g.gs by omega)];rfl
 rintro z w4 ⟨m4,rfl⟩;have M4:=m2.no m4;have p2:=q2.keep m4 id;have p3:=b2.keep m4 id;refine⟨_,rfl,Aa (fun hc=>?_) (fun hc=>?_)⟩
 ·have e:I8 g h=false:=by
   rw[Ab7];rw[TW]at hc;rw[hc];rfl
  rw[<- e];exact hk _ M4
 rw[Zq]at hc;have hgo:CU g=true:=by rw[Lp]at hc;exact hc.1
 have hg:=Av.1 hgo;refine⟨fun x w5=>∃(i:Nat)(y:Value),i<=128/\x=[.bool ((List.range i).all (gJ g h)),.int .i64 i,y]/\w5=w4,fun x _=>(128-nI x 1).toNat,⟨0,_,by omega,rfl,rfl⟩,?_⟩;rintro x w5 ⟨i,y,hi,rfl,rfl⟩;have rb:=fun(w':World)(m:Ab No w5 w')=>ra.nos (M4.no m);have rsl:=fun(w':World)(m:Ab No w5 w')=>rs.nos (M4.no m);refine⟨_,rfl,Aa (fun hl=>?_) (fun hl=>?_)⟩
 ·have hl:=Lc hl;refine Ac.cut (fun z w9=>w9=w5/\z=[.bool (!gJ g h i)]) ⟨_,p2.at.fld Aj rfl,?_⟩ ?_
  ·rw[jI (by omega),Ag (x:=g.no / 4) (by omega) (by omega),Ag (x:=1+g.no / 4) (by omega) (by omega)];refine Aa (fun h1=>⟨_,_,_,p3.at.fld Bn rfl,Mg (xs:=h.bs) hw.1 (rb _ (Ab.refl _ _)) (by omega) (by omega) ⟨_,rfl,Aa (fun h2=>⟨rfl,?_⟩) (fun h2=>⟨_,p2.at.fld Aj rfl,Aa (fun h3=>⟨_,_,_,p3.at.fld Bn rfl,Mg (xs:=h.bs) hw.1 (rb _ (Ab.refl _ _)) (by omega) (by omega) ⟨_,rfl,rfl,?_⟩⟩) (fun h3=>⟨rfl,?_⟩)⟩)⟩⟩)
    (fun h1=>⟨_,p2.at.fld Aj rfl,Aa (fun h3=>⟨_,_,_,p3.at.fld Bn rfl,Mg (xs:=h.bs) hw.1 (rb _ (Ab.refl _ _)) (by omega) (by omega) ⟨_,rfl,rfl,?_⟩⟩) (fun h3=>⟨rfl,?_⟩)⟩)
   ·rw[TW]at h2;unfold gJ;rw[h1,h2];rfl
   ·rw[Zq]at h2;unfold gJ;rw[h1,h2,show decide (g.gr<=(i:Int))=true from h3];rfl
   ·rw[Zq]at h2;unfold gJ;rw[h1,h2,show decide (g.gr<=(i:Int))=false from h3];rfl
   ·unfold gJ;rw[h1,show decide (g.gr<=(i:Int))=true from h3];cases AN h.bs i<;>rfl
   ·unfold gJ;rw[h1,show decide (g.gr<=(i:Int))=false from h3];rfl
  rintro z w9 ⟨rfl,rfl⟩;rw[Ag (x:=(i:Int)+1) (by omega) (by omega)];refine⟨_,rfl,Ac.cut (fun z w10=>w10=w9/\z=[.bool ((List.range (i+1)).all (gJ g h))]) (Aa (fun h1=>⟨rfl,?_⟩) (fun h1=>⟨rfl,?_⟩)) ?_⟩
  ·rw[TW]at h1;rw[Y4,h1,qR]
  ·rw[Zq]at h1;rw[Y4,h1,Lk5];rfl
  ·rintro z w10 ⟨rfl,rfl⟩;exact⟨⟨i+1,.bool (!gJ g h i),by omega,by simp[Ap],rfl⟩,by simp[nI,Ap];omega⟩
 have hl:=Lb hl;have hi128:i=128:=by omega
 subst hi128;refine⟨fun x w11=>∃(i:Nat)(y:Value),i<=64/\x=[.bool ((List.range 128).all (gJ g h)&&(List.range i).all (kK g h)),.int .i64 i,y]/\w11=w5,fun x _=>(64-nI x 1).toNat,⟨0,undef,by omega,by simp[Ap],rfl⟩,?_⟩;rintro x w11 ⟨i,y,hi,rfl,rfl⟩;refine⟨_,rfl,Aa (fun hl=>?_) (fun hl=>⟨_,rfl,?_⟩)⟩
 ·have hl:=Lc hl;have second:∀(R:List Value->World->Prop),(g.no<=(i:Int)->AN h.ss i=false)->(R [.bool (!kK g h i)] w11)->(bif h.no==0 then(bif decide ((i:Int)<2)then ∃(a88:Option Addr)(l88 c88:Nat),Ru (Instr.loadAt 88 (.pointer (some (Addr.add ⟨w1.heap.size,0,none⟩ 2)))) w11 (.slice a88 l88 c88) w11/\A8 Tryz.prog Bi #[.slice a88 l88 c88,.int .i64 i] w11 fun r90 w13=>∃ b90:Bool,r90=.bool b90/\R [.bool (!b90)] w13 else R [.bool false] w11)else R [.bool false] w11):=by
   intro R hfirst hR;have e0:∀ b:Bool,(b=decide (h.no=0/\i<2))->kK g h i=(!b || AN h.ss i):=fun b hb=>by
    unfold kK;rw[<- hb];by_cases h1:g.no<=(i:Int)
    ·rw[hfirst h1];simp
    ·rw[Lf h1];simp
   rw[GO];refine Aa (fun h1=>Aa (fun h2=>⟨_,_,_,p3.at.fld Bn rfl,Mg (xs:=h.ss) hw.2 (rsl _ (Ab.refl _ _)) (by omega) (by omega) ⟨_,rfl,?_⟩⟩) (fun h2=>?_)) (fun h1=>?_)
   ·have h1:=Lc h1;have h2:=Lc h2;rw[e0 true (Le (show _/\_ from⟨h1,by omega⟩)).symm]at hR;simpa using hR
   ·have h2:=Lb h2;rw[e0 false (Lf (fun e=>h2 (by omega))).symm]at hR;simpa using hR
   ·have h1:=Lb h1;rw[e0 false (Lf (fun e=>h1 e.1)).symm]at hR;simpa using hR
  refine Ac.cut (fun z w15=>w15=w11/\z=[.bool (!kK g h i)]) ⟨_,p2.at.fld Aj rfl,Aa (fun h1=>⟨_,_,_,p3.at.fld Bn rfl,Mg (xs:=h.ss) hw.2 (rsl _ (Ab.refl _ _)) (by omega) (by omega) ⟨_,rfl,Aa (fun h2=>⟨rfl,?_⟩) (fun h2=>⟨_,p3.at.fld Aj rfl,second (fun z w15=>w15=w11/\z=[.bool (!kK g h i)]) (fun _=>h2) ⟨rfl,rfl⟩⟩)⟩⟩) (fun h1=>⟨_,p3.at.fld Aj rfl,second (fun z w15=>w15=w11/\z=[.bool (!kK g h i)]) (fun e=>absurd e (Lb h1)) ⟨rfl,rfl⟩⟩)⟩ ?_
  ·have h1:decide (g.no<=(i:Int))=true:=h1;unfold kK;rw[h1,h2];rfl
  rintro z w15 ⟨rfl,rfl⟩;rw[Ag (x:=(i:Int)+1) (by omega) (by omega)];refine⟨_,rfl,Ac.cut (fun z w10=>w10=w15/\z=[.bool ((List.range 128).all (gJ g h)&&(List.range (i+1)).all (kK g h))]) (Aa (fun h1=>⟨rfl,?_⟩) (fun h1=>⟨rfl,?_⟩)) ?_⟩
  ·rw[TW]at h1;rw[Y4 (kK g h) i,h1,qR,qR]
  ·rw[Zq]at h1;rw[Y4 (kK g h) i,h1,Lk5];rfl
  ·rintro z w10 ⟨rfl,rfl⟩;exact⟨⟨i+1,.bool (!kK g h i),by omega,by simp[Ap],rfl⟩,by simp[nI,Ap];omega⟩
 ·have hl:=Lb hl;have hi64:i=64:=by omega
  subst hi64;have e:((List.range 128).all (gJ g h)&&(List.range 64).all (kK g h))=I8 g h:=by
   rw[Ab7,hc,Ws]
  rw[e];exact hk _ M4
theorem vI{g:Gm}{h:Hd}{a a':Option Addr}{c c':Nat}(hw:Fq h)(ra:Bl w a (Au h.bs))(rs:Bl w a' (Au h.ss))(hk:∀ w',Ab No w w'->K (.tuple #[.int .i64 (Bd g h).1,.int .i64 (Bd g h).2]) w'):A8 Tryz.prog G3 #[.agg ⟨gV g⟩,.agg ⟨Ww h.no a c a' c'⟩] w K:=by
 apply Qz;unfold JC;obtain⟨w1,a1,a2,a3,a4⟩:=AC (P:=Tryz.prog) (w:=w) (T:=40) (cs:=gV g);obtain⟨w2,b1,b2,b3,b4⟩:=AC (P:=Tryz.prog) (w:=w1) (T:=183) (cs:=Ww h.no a c a' c');have m2:=a3.no b3;refine⟨_,w1,a1,_,w2,b1,_,(a2.at.keep b3 id).all Aq rfl,_,b2.at.all Bs rfl,XQ hw (ra.nos m2) (rs.nos m2) fun w3 m3=>⟨_,rfl,Aa (fun ho=>?_) (fun ho=>?_)⟩⟩
 ·have e:Bd g h=(0,0):=by unfold Bd;rw[if_neg (by simpa using ho)]
  rw[e]at hk;exact hk _ (m2.no m3)
 have ho:I8 g h=true:=by simpa using ho
 have hq:=Av.1 (Co.1 ho).1;have q2:=(a2.keep b3 id).keep m3 id;have q3:=b2.keep m3 id;have h1:=I7 h.bs g.gr.toNat;have h2:=I7 h.ss g.no.toNat;have M3:Ab No w (Go.Den.Ah w3):=(m2.no m3).drew;refine⟨_,q2.at.drew.fld Aj rfl,_,_,_,q3.at.drew.fld Bn rfl,_,q2.at.drew.fld Aj rfl,_,q2.at.drew.fld Aj rfl,_,_,_,q3.at.drew.fld Bn rfl,_,q2.at.drew.fld Aj rfl,?_⟩
 refine XN (xs:=h.bs) hw.1 (ra.nos M3) (by omega) ⟨_,rfl,q2.at.drew.fld Aj rfl,q2.at.drew.fld Aj rfl,q3.at.drew.fld Bn rfl,q2.at.drew.fld Aj rfl,?_⟩;refine XN (xs:=h.ss) hw.2 (rs.nos M3) (by omega) ⟨_,rfl,q2.at.drew.fld Aj rfl,q2.at.drew.fld Aj rfl,?_⟩;have e:Bd g h=(g.gr-BK h.bs g.gr.toNat,g.no-BK h.ss g.no.toNat):=by unfold Bd;rw[if_pos ho]
 rw[e]at hk;rw[Ag (by omega) (by omega),Ag (by omega) (by omega)];exact hk _ M3
end
end Go.Z
end
section
open Go Go.Den Go.Proofs
namespace Go.Den
def qK:List Value:=[.int .i64 0,.slice none 0 0,.slice none 0 0]
def Zi:Nat->List UInt8
 | 0=>List.replicate 8 0
 | i+1=>Pa (Zi i) i
theorem dA:∀ i,(Zi i).length=8
 | 0=>rfl
 | i+1=>by rw[Zi,RM,dA i]
theorem wC:Zi 2=My 0:=by decide
end Go.Den
namespace Go.Z
theorem Cg:HT Tryz.prog 183=some qK:=by kernel_rfl
theorem G8:Al (Instr.build 183 #[]) (.agg ⟨qK⟩):=fun w=>by kernel_rfl
theorem CR(n:Int)(a:Option Addr)(c:Nat)(a':Option Addr)(c':Nat):Al (Instr.build 183 #[(0,.int .i64 n),(1,.slice a 16 c),(2,.slice a' 8 c')]) (.agg ⟨Ww n a c a' c'⟩):=fun w=>by kernel_rfl
section
variable{w:World}{K:Value->World->Prop}
theorem Fs{n:Nat}(hn:n<=4096):∃ w',(Instr.makeSlice 88 (.int .i64 n) (.int .i64 n)).run Tryz.prog w=.ok (.slice (some ⟨w.heap.size,0,none⟩) n n) w'/\A1 w' w.heap.size 0 (Au (List.replicate n 0))/\Ab No w w'/\w'.heap.size=w.heap.size+1:=by
 obtain⟨w4,c1,c2,c3,c4⟩:=D3 (P:=Tryz.prog) (w:=w) (n:=n) AE (by omega) (by omega) (by omega);refine⟨w4,c1,?_,c3,c4⟩;have e:List.replicate (n*1) (Value.int .u8 0)=Au (List.replicate n 0):=by
  rw[Au,Ls5,qI];rfl
 rw[<- e];exact c2
set_option maxRecDepth 8000 in
theorem pF{g : Gm}{no : Int}(h1 : ¬ (CU g = true ∧ 0 ≤ no ∧ no < g.gs) → ∀ w', Ab No w w' → K (.tuple #[.agg ⟨qK⟩, .int .i64 1]) w')
    (h2 : (CU g = true ∧ 0 ≤ no ∧ no < g.gs) → ∀ w' a c a' c', Ab No w w' → Bl w' a (Au (AG g no).bs) → Bl w' a' (Au (AG g no).ss) → K (.tuple #[.agg ⟨Ww no a c a' c'⟩, .int .i64 0]) w') : A8 Tryz.prog FI #[.agg ⟨gV g⟩, .int .i64 no] w K := by
  apply PF;unfold IX;obtain⟨w1, a1, a2, a3, a4⟩ := AC (P := Tryz.prog) (w := w) (T := 40) (cs := gV g);obtain⟨w2, b1, b2, b3, b4⟩ := A9 (P := Tryz.prog) (w := w1) (T := 183) Cg;have m2 := a3.no b3;have q2 := a2.keep b3 id;refine⟨_, w1, a1, _, w2, b1, ?_⟩;have tail : ∀(w5 : World)(q p p2 : Nat), Ab No w2 w5 → w2.heap.size ≤ q → A1 w5 q 0 qK → w2.heap.size ≤ p → p ≠ q → At w5 p 0 (Au (List.replicate 16 0)) → w2.heap.size ≤ p2 → p2 ≠ q → At w5 p2 0 (Au (List.replicate 8 0)) →
      ∃ w6 : World, Eh (Instr.storeAt 183 (.pointer (some ⟨q, 0, none⟩)) (.agg ⟨Ww no (some ⟨p, 0, none⟩) 16 (some ⟨p2, 0, none⟩) 8⟩)) w5 w6 ∧ Ac (fun k => ∃ g13 : Array Value, Ru (Instr.loadAt 40 (.pointer (some ⟨w.heap.size, 0, none⟩))) w6 (.agg g13) w6 ∧ A8 Tryz.prog A0 #[.agg g13] w6 fun r14 w7 => ∃ b14 : Bool, r14 = .bool b14 ∧ (bif !b14 then k [.bool true] w7 else(bif decide (no < 0)then k [.bool true] w7 else ∃ n23 : Int, Ru (Instr.loadAt 3 (.pointer (some (Addr.add ⟨w.heap.size, 0, none⟩ 2)))) w7 (.int .i64 n23) w7 ∧ k [.bool (decide (no ≥ n23))] w7))) fun x w8 =>
       ∃ b25 : Bool, Ap x 0 = .bool b25 ∧ (bif b25 then
       ∃ g26 : Array Value, Al (Instr.build 183 #[]) (.agg g26) ∧ ∃ w9 : World, Eh (Instr.storeAt 183 (.pointer (some ⟨w1.heap.size, 0, none⟩)) (.agg g26)) w8 w9 ∧ ∃ gR4 : Array Value, Ru (Instr.loadAt 183 (.pointer (some ⟨w1.heap.size, 0, none⟩))) w9 (.agg gR4) w9 ∧ K (.tuple #[.agg gR4, .int .i64 1]) w9
       else
       A6 (fun k_2 x_2 w10 =>
       ∃ n7 : Int, Ap x_2 0 = .int .i64 n7 ∧ ∃ n29 : Int, Ru (Instr.loadAt 3 (.pointer (some (Addr.add ⟨w.heap.size, 0, none⟩ 1)))) w10 (.int .i64 n29) w10 ∧ (bif decide (n7 < (IntKind.i64.wrap (1 + (IntKind.i64.wrap (Int.tdiv n29 4)))))then
       ∃(a37 : Option Addr)(l37 c37 : Nat), Ru (Instr.loadAt 88 (.pointer (some (Addr.add ⟨q, 0, none⟩ 1)))) w10 (.slice a37 l37 c37) w10 ∧ A8 Tryz.prog AB #[.slice a37 l37 c37, .int .i64 n7, .bool true] w10 fun r39 w11 => ∃(a39a : Option Addr)(l39a c39a : Nat), ∃ n39b : Int, r39 = .tuple #[.slice a39a l39a c39a, .int .i64 n39b] ∧ ∃ w12 : World, Eh (Instr.storeAt 88 (.pointer (some (Addr.add ⟨q, 0, none⟩ 1))) (.slice a39a l39a c39a)) w11 w12 ∧ k_2 [.int .i64 (IntKind.i64.wrap (n7 + 1))] w12
       else
       A6 (fun k_3 x_3 w13 =>
       Ac (fun k_4 => ∃ n8 : Int, Ap x_3 0 = .int .i64 n8 ∧ (bif decide (n8 < 2)then k_4 [.bool (no == 0)] w13 else k_4 [.bool false] w13)) fun x_4 w14 =>
       ∃ b48 : Bool, Ap x_4 0 = .bool b48 ∧ (bif b48 then
       ∃(a53 : Option Addr)(l53 c53 : Nat), Ru (Instr.loadAt 88 (.pointer (some (Addr.add ⟨q, 0, none⟩ 2)))) w14 (.slice a53 l53 c53) w14 ∧ ∃ n8_2 : Int, Ap x_3 0 = .int .i64 n8_2 ∧ A8 Tryz.prog AB #[.slice a53 l53 c53, .int .i64 n8_2, .bool true] w14 fun r55 w15 => ∃(a55a : Option Addr)(l55a c55a : Nat), ∃ n55b : Int, r55 = .tuple #[.slice a55a l55a c55a, .int .i64 n55b] ∧ ∃ w16 : World, Eh (Instr.storeAt 88 (.pointer (some (Addr.add ⟨q, 0, none⟩ 2))) (.slice a55a l55a c55a)) w15 w16 ∧ k_3 [.int .i64 (IntKind.i64.wrap (n8_2 + 1)), .bool b48] w16
       else
       ∃ g59 : Array Value, Ru (Instr.loadAt 183 (.pointer (some ⟨q, 0, none⟩))) w14 (.agg g59) w14 ∧ ∃ w17 : World, Eh (Instr.storeAt 183 (.pointer (some ⟨w1.heap.size, 0, none⟩)) (.agg g59)) w14 w17 ∧ ∃ gR4_2 : Array Value, Ru (Instr.loadAt 183 (.pointer (some ⟨w1.heap.size, 0, none⟩))) w17 (.agg gR4_2) w17 ∧ K (.tuple #[.agg gR4_2, .int .i64 0]) w17)) [.int .i64 0, undef] w10)) [.int .i64 0] w8) := by
    intro w5 q p p2 m5 hq hat hp hpq hap hp2 hpq2 Xx;obtain⟨w6, c1, c2, c3, c4⟩ := hat.put (T := 183) (vs := Ww no (some ⟨p, 0, none⟩) 16 (some ⟨p2, 0, none⟩) 8) Bs rfl rfl (RG _ _ _ _ _);have m6 : Ab No w2 w6 := m5.own c3 hq;refine⟨w6, c1, Ac.cut (fun z w8 => Ab No w6 w8 ∧ z = [.bool (decide (¬ (CU g = true ∧ 0 ≤ no ∧ no < g.gs)))]) ⟨_, (q2.keep m6 id).at.all Aq rfl, DN fun w7 m7 => ⟨_, rfl, Aa (fun hg => ⟨m7, ?_⟩) (fun hg => Aa (fun h0 => ⟨m7, ?_⟩) (fun h0 => ⟨_, (q2.keep (m6.no m7) id).at.fld Aj rfl, m7, ?_⟩))⟩⟩ ?_⟩
    · rw[TW]at hg;rw[Le (show ¬ (CU g = true ∧ 0 ≤ no ∧ no < g.gs) by rw[hg];simp)]
    · have h0 := Lc h0;rw[Le (show ¬ (CU g = true ∧ 0 ≤ no ∧ no < g.gs) by omega)]
    · rw[Zq]at hg
      have h0 := Lb h0;by_cases hn : no ≥ g.gs
      · rw[Le hn, Le (show ¬ (CU g = true ∧ 0 ≤ no ∧ no < g.gs) by omega)]
      · rw[Lf hn, Lf (show ¬ ¬ (CU g = true ∧ 0 ≤ no ∧ no < g.gs)from fun e => e ⟨hg, by omega, by omega⟩)]
    rintro z w8 ⟨m68, rfl⟩;have m8 : Ab No w2 w8 := m6.no m68;refine⟨_, rfl, Aa (fun hb => ⟨_, G8, ?_⟩) (fun hb => ?_)⟩
    · have hb := Lc hb
      obtain⟨w9, e1, e2, e3, e4⟩ := (b2.keep m8 id).put (T := 183) (vs := qK) Bs rfl rfl (by intro v hv;simp only[qK, Lz, Li5, or_false]at hv;rcases hv with rfl|rfl|rfl<;>rfl);exact⟨w9, e1, _, e2.at.all Bs rfl, h1 hb w9 ((m2.no m8).own e3 a3.size)⟩
    have hb := Tw.1 (Lb hb);have hgo := Av.1 hb.1;have et : AM g = g.no / 4 := by unfold AM;rw[if_pos hb.1]
    have ok0 : ∀ x, (some ⟨p, 0, none⟩ : Option Addr) = some x → w2.heap.size ≤ x.block ∧ x.block ≠ q := fun x e => by cases e;exact⟨hp, hpq⟩
    have ok1 : ∀ x, (some ⟨p2, 0, none⟩ : Option Addr) = some x → w2.heap.size ≤ x.block ∧ x.block ≠ q := fun x e => by cases e;exact⟨hp2, hpq2⟩
    have rw0 : Bl w8 (some ⟨p, 0, none⟩) (Au (DG 0)) := .inr ⟨_, _, rfl, (hap.keep c3 (fun e => hpq e)).keep m68 id⟩;have rw1 : Bl w8 (some ⟨p2, 0, none⟩) (Au (Zi 0)) := .inr ⟨_, _, rfl, (Xx.keep c3 (fun e => hpq2 e)).keep m68 id⟩
    refine⟨fun x w10 => ∃(i : Nat)(a : Option Addr)(c : Nat), i ≤ 1 + (AM g).toNat ∧ x = [.int .i64 i] ∧ A1 w10 q 0 (Ww no a c (some ⟨p2, 0, none⟩) 8) ∧ Bl w10 a (Au (DG i)) ∧ Bl w10 (some ⟨p2, 0, none⟩) (Au (Zi 0)) ∧ (∀ x, a = some x → w2.heap.size ≤ x.block ∧ x.block ≠ q) ∧ a ≠ none ∧ Ab No w2 w10, fun x _ => (1 + (AM g).toNat - nI x 0).toNat,
      ⟨0, _, _, by omega, rfl, c2.keep m68 id, rw0, rw1, ok0, by simp, m8⟩, ?_⟩
    rintro x w10 ⟨i, a, c, hi, rfl, hat, ra, rs, oka, hna, m10⟩;refine⟨_, rfl, _, (q2.keep m10 id).at.fld Aj rfl, ?_⟩;rw[jI (by omega), Ag (x := g.no / 4) (by omega) (by omega), Ag (x := 1 + g.no / 4) (by omega) (by omega)];refine Aa (fun hl => ⟨_, _, _, hat.at.fld Bn rfl, ?_⟩) (fun hl => ?_)
    · have hl := Lc hl
      refine lI (xs := DG i) (Ev i) ra (fun e => absurd e hna) (by omega) (by omega) fun w11 a' c' m11 o11 => ⟨_, _, _, _, rfl, ?_⟩;obtain⟨w12, d1, d2, d3, d4⟩ := (hat.keep m11 id).putF (P := Tryz.prog) (T := 88) (j := 1) (v := .slice a' 16 c') Bn (by simp[Ww]) rfl;refine⟨w12, d1, ?_⟩;rw[Ag (x := (i : Int) + 1) (by omega) (by omega)];have okn : ∀ x, a' = some x → w2.heap.size ≤ x.block ∧ x.block ≠ q := fun x e => by
        have h3 := (o11.base e).1;have h4 := hat.lt;have h5 := m10.size;exact⟨by omega, by omega⟩
      obtain⟨gg, hgg, _, _⟩ := o11.sm (by omega);exact⟨⟨i + 1, a', c', by omega, by simp, d2, o11.rowU.row.keep d3 (fun x e hx => (okn x e).2 hx), (rs.nos m11).keep d3 (fun x e hx => (ok1 x e).2 hx), okn, by rw[hgg];simp, (m10.no m11).own d3 hq⟩, by simp[nI, Ap];omega⟩
    have hl := Lb hl;have hi2 : i = 1 + (AM g).toNat := by omega
    subst hi2
    refine⟨fun x w13 => ∃(i : Nat)(y : Value)(a' : Option Addr)(c' : Nat), i ≤ 2 ∧ (no ≠ 0 → i = 0) ∧ x = [.int .i64 i, y] ∧ A1 w13 q 0 (Ww no a c a' c') ∧ Bl w13 a (Au (DG (1 + (AM g).toNat))) ∧ Bl w13 a' (Au (Zi i)) ∧ (∀ x, a' = some x → w2.heap.size ≤ x.block ∧ x.block ≠ q) ∧ a' ≠ none ∧ Ab No w2 w13, fun x _ => (2 - nI x 0).toNat,
      ⟨0, _, _, _, by omega, fun _ => rfl, rfl, hat, ra, rs, ok1, by simp, m10⟩, ?_⟩
    rintro x w13 ⟨i, y, a', c', hi, hz, rfl, hat, ra, rs, oks, hns, m13⟩;refine Ac.cut (fun z w14 => w14 = w13 ∧ z = [.bool (decide (i < 2 ∧ no = 0))]) ⟨_, rfl, Aa (fun hl => ⟨rfl, ?_⟩) (fun hl => ⟨rfl, ?_⟩)⟩ ?_
    · have hl := Lc hl
      rw[GO];by_cases hn : no = 0
      · rw[Le hn, Le (show _ ∧ _ from⟨by omega, hn⟩)]
      · rw[Lf hn, Lf fun e => hn e.2]
    · have hl := Lb hl
      rw[Lf fun e => hl (by omega)]
    rintro z w14 ⟨rfl, rfl⟩;refine⟨_, rfl, Aa (fun hl => ⟨_, _, _, hat.at.fld Bn rfl, _, rfl, ?_⟩) (fun hl => ⟨_, hat.at.all Bs rfl, ?_⟩)⟩
    · have hl := Lc hl
      refine lI (xs := Zi i) (dA i) rs (fun e => absurd e hns) (by omega) (by omega) fun w15 a2' c2' m15 o15 => ⟨_, _, _, _, rfl, ?_⟩;obtain⟨w16, d1, d2, d3, d4⟩ := (hat.keep m15 id).putF (P := Tryz.prog) (T := 88) (j := 2) (v := .slice a2' 8 c2') Bn (by simp[Ww]) rfl;refine⟨w16, d1, ?_⟩;rw[Ag (x := (i : Int) + 1) (by omega) (by omega)];have okn : ∀ x, a2' = some x → w2.heap.size ≤ x.block ∧ x.block ≠ q := fun x e => by
        have h3 := (o15.base e).1;have h4 := hat.lt;have h5 := m13.size;exact⟨by omega, by omega⟩
      obtain⟨gg, hgg, _, _⟩ := o15.sm (by omega);exact⟨⟨i + 1, .bool (decide (i < 2 ∧ no = 0)), a2', c2', by omega, fun hn => absurd hl.2 hn, by simp, d2, (ra.nos m15).keep d3 (fun x e hx => (oka x e).2 hx), o15.rowU.row.keep d3 (fun x e hx => (okn x e).2 hx), okn, by rw[hgg];simp, (m13.no m15).own d3 hq⟩, by simp[nI, Ap];omega⟩
    · have hl := Lb hl
      obtain⟨w17, e1, e2, e3, e4⟩ := (b2.keep m13 id).put (T := 183) (vs := Ww no a c a' c') Bs rfl rfl (RG _ _ _ _ _);have hlow : ∀(x : Addr), w2.heap.size ≤ x.block → ¬ (x.block = w1.heap.size) := fun x hx e => by omega
      refine⟨w17, e1, _, e2.at.all Bs rfl, h2 hb w17 a c a' c' ((m2.no m13).own e3 a3.size) (ra.keep e3 fun x e hx => hlow x (oka x e).1 hx) ?_⟩;have es : (AG g no).ss = Zi i := by
        by_cases hn : no = 0
        · have hi2 : i = 2 := by
            by_cases h2 : i < 2
            · exact absurd ⟨h2, hn⟩ hl
            · omega
          rw[hi2, wC, ← hn];rfl
        · rw[hz hn]
          show My no = _;unfold My;rw[if_neg hn];rfl
      rw[es];exact rs.keep e3 fun x e hx => hlow x (oks x e).1 hx
  have md : Ab No w2 (Go.Den.Ah w2) := (Ab.refl No w2).drew;have hd : (Go.Den.Ah w2).heap.size = w2.heap.size := rfl
  -- sixteen bytes first
  obtain⟨x3, s1, s2, s3, s4⟩ := Fs (w := Go.Den.Ah w2) (n := 16) (by omega);obtain⟨x4, t1, t2, t3, t4⟩ := Fs (w := x3) (n := 8) (by omega);obtain⟨x5, u1, u2, u3, u4⟩ := A9 (P := Tryz.prog) (w := x4) (T := 183) Cg;obtain⟨y4, v1, v2, v3, v4⟩ := A9 (P := Tryz.prog) (w := x3) (T := 183) Cg;obtain⟨y5, z1, z2, z3, z4⟩ := Fs (w := y4) (n := 8) (by omega)
  -- eight bytes first
  obtain⟨x3', s1', s2', s3', s4'⟩ := Fs (w := Go.Den.Ah w2) (n := 8) (by omega);obtain⟨x4', t1', t2', t3', t4'⟩ := Fs (w := x3') (n := 16) (by omega);obtain⟨x5', u1', u2', u3', u4'⟩ := A9 (P := Tryz.prog) (w := x4') (T := 183) Cg;obtain⟨y4', v1', v2', v3', v4'⟩ := A9 (P := Tryz.prog) (w := x3') (T := 183) Cg;obtain⟨y5', z1', z2', z3', z4'⟩ := Fs (w := y4') (n := 16) (by omega)
  -- the header first
  obtain⟨r3, f1, f2, f3, f4⟩ := A9 (P := Tryz.prog) (w := Go.Den.Ah w2) (T := 183) Cg;obtain⟨r4, g1, g2, g3, g4⟩ := Fs (w := r3) (n := 16) (by omega);obtain⟨r5, k1, k2, k3, k4⟩ := Fs (w := r4) (n := 8) (by omega);obtain⟨r4', g1', g2', g3', g4'⟩ := Fs (w := r3) (n := 8) (by omega);obtain⟨r5', k1', k2', k3', k4'⟩ := Fs (w := r4') (n := 16) (by omega);refine⟨⟨_, _, _, x3, s1, ⟨_, _, _, x4, t1, _, CR _ _ _ _ _, _, x5, u1, ?_⟩, ⟨_, y4, v1, _, _, _, y5, z1, _, CR _ _ _ _ _, ?_⟩⟩, ⟨_, _, _, x3', s1', ⟨_, _, _, x4', t1', _, CR _ _ _ _ _, _, x5', u1', ?_⟩, ⟨_, y4', v1', _, _, _, y5', z1', _, CR _ _ _ _ _, ?_⟩⟩, ⟨_, r3, f1, ⟨_, _, _, r4, g1, _, _, _, r5, k1, _, CR _ _ _ _ _, ?_⟩, ⟨_, _, _, r4', g1', _, _, _, r5', k1', _, CR _ _ _ _ _, ?_⟩⟩⟩
  · exact tail x5 _ _ _ (md.no (s3.no (t3.no u3))) (by omega) u2 (by omega) (by omega) ((s2.at.keep t3 id).keep u3 id) (by omega) (by omega) (t2.at.keep u3 id)
  · exact tail y5 _ _ _ (md.no (s3.no (v3.no z3))) (by omega) (v2.keep z3 id) (by omega) (by omega) ((s2.at.keep v3 id).keep z3 id) (by omega) (by omega) z2.at
  · exact tail x5' _ _ _ (md.no (s3'.no (t3'.no u3'))) (by omega) u2' (by omega) (by omega) (t2'.at.keep u3' id) (by omega) (by omega) ((s2'.at.keep t3' id).keep u3' id)
  · exact tail y5' _ _ _ (md.no (s3'.no (v3'.no z3'))) (by omega) (v2'.keep z3' id) (by omega) (by omega) z2'.at (by omega) (by omega) ((s2'.at.keep v3' id).keep z3' id)
  · exact tail r5 _ _ _ (md.no (f3.no (g3.no k3))) (by omega) ((f2.keep g3 id).keep k3 id) (by omega) (by omega) (g2.at.keep k3 id) (by omega) (by omega) k2.at
  · exact tail r5' _ _ _ (md.no (f3.no (g3'.no k3'))) (by omega) ((f2.keep g3' id).keep k3' id) (by omega) (by omega) k2'.at (by omega) (by omega) (g2'.at.keep k3' id)
end
theorem aD(w:World):(Instr.buildSlice 88 4 #[(0,.int .u8 76),(1,.int .u8 71),(2,.int .u8 82),(3,.int .u8 80)]).run Tryz.prog w=.ok (.slice (some ⟨w.heap.size,0,none⟩) 4 4) (w.alloc (.cells ⟨Au KW⟩ 5)):=by kernel_rfl
section
variable{w:World}{K:Value->World->Prop}
theorem sI{base l c N:Nat}{n:Int}{a:Option Addr}{xs:List UInt8}{C:Option Addr->Nat->Nat->World->Prop}(o:Ow Tryz.prog w base 88 1 a l c (Au xs))(hl:l<=N)(hn:n=(N:Int))(hN:N<=4096)(hb:base<=w.heap.size)
  (hC:∀ w' a' c',Ab (fun x=>base<=x) w w'->Ow Tryz.prog w' base 88 1 a' N c' (Au (xs++List.replicate (N-l) 0))->C a' N c' w') :
  A6 (fun k x w13=>∃(a8:Option Addr)(l8 c8:Nat),Ap x 0=.slice a8 l8 c8/\(bif decide ((l8:Int)<n)then
   ∃(a41:Option Addr)(l41 c41:Nat),∃ w14:World,Ru (Instr.buildSlice 88 1 #[(0,.int .u8 0)]) w13 (.slice a41 l41 c41) w14/\∃(a42:Option Addr)(l42 c42:Nat),∃ w15:World,Ru (Builtin.append_ #[88,88] 88 #[.slice a8 l8 c8,.slice a41 l41 c41]) w14 (.slice a42 l42 c42) w15/\k [.slice a42 l42 c42] w15
   else C a8 l8 c8 w13)) [.slice a l c] w:=by
 subst hn
 refine⟨fun x w13=>∃(i l':Nat)(a:Option Addr)(c:Nat),l'=l+i/\l'<=N/\x=[.slice a l' c]/\Ow Tryz.prog w13 base 88 1 a l' c (Au (xs++List.replicate i 0))/\Ab (fun x=>base<=x) w w13,
  fun x _=>Zf N x,⟨0,l,_,_,rfl,hl,rfl,by simpa using o,Ab.refl _ _⟩,?_⟩
 rintro x w13 ⟨i,l',a,c,hi,hlN,rfl,o13,M13⟩;refine⟨_,_,_,rfl,Aa (fun hb=>?_) (fun hb=>?_)⟩
 ·have hb:=Lc hb;obtain⟨a',c',w',q1,q2,q3⟩:=o13.snoc (ty:=88) (t:=5) (ys:=[.int .u8 0]) AE (by omega) rfl (by simp;rfl) (by omega) (by omega) (Up ‹base<=w.heap.size› M13.size);refine⟨_,_,_,_,Y6 _ _,_,_,_,w',q1,⟨i+1,l'+1,a',c',by omega,by omega,rfl,?_,M13.trans q3 fun _ _ h=>h⟩,by simp only[Zf];omega⟩;have e:Au (xs++List.replicate i 0)++[.int .u8 0]=Au (xs++List.replicate (i+1) 0):=by
   rw[List.replicate_succ',<- WB,EM (xs++List.replicate i 0)];rfl
  rw[e]at q2;exact q2
 ·have hb:=Lb hb;have hi:i=N-l:=by omega
  have hl:l'=N:=by omega
  subst hi;subst hl;exact hC _ _ _ M13 o13
set_option maxRecDepth 8000 in
theorem lJ{g:Gm}{h:Hd}{a a':Option Addr}{c c':Nat}(hw:Fq h)(ra:Bl w a (Au h.bs))(rs:Bl w a' (Au h.ss))(h1:I8 g h=false->∀ w',Ab No w w'->K (.tuple #[.slice none 0 0,.int .i64 1]) w')
  (h2:I8 g h=true->∀ w' b d,Ab No w w'->Ow Tryz.prog w' w.heap.size 88 1 b 256 d (Au (Fz g h))->K (.tuple #[.slice b 256 d,.int .i64 0]) w'):A8 Tryz.prog BN #[.agg ⟨gV g⟩,.agg ⟨Ww h.no a c a' c'⟩] w K:=by
 apply Sr;unfold KC;obtain⟨w1,a1,a2,a3,a4⟩:=AC (P:=Tryz.prog) (w:=w) (T:=40) (cs:=gV g);obtain⟨w2,b1,b2,b3,b4⟩:=AC (P:=Tryz.prog) (w:=w1) (T:=183) (cs:=Ww h.no a c a' c');have m2:=a3.no b3;refine⟨_,w1,a1,_,w2,b1,_,(a2.at.keep b3 id).all Aq rfl,_,b2.at.all Bs rfl,XQ hw (ra.nos m2) (rs.nos m2) fun w3 m3=>⟨_,rfl,Aa (fun ho=>h1 (by simpa using ho) _ (m2.no m3)) (fun ho=>?_)⟩⟩
 have ho:I8 g h=true:=by simpa using ho
 have hno:=(Co.1 ho).2.1;have hq:=Av.1 (Co.1 ho).1;have hf:=Od (g:=g) (h:=h);have M3:=m2.no m3;have q3:=b2.keep m3 id;refine⟨_,((a2.keep b3 id).keep m3 id).at.all Aq rfl,_,q3.at.all Bs rfl,vI hw (ra.nos M3) (rs.nos M3) fun w4 m4=>⟨_,_,rfl,?_⟩⟩;obtain⟨w6,c1,c2,c3⟩:=Xg (w:=w4) (cs:=Au KW) (n:=4);refine⟨_,_,_,_,aD _,_,_,_,w6,c1,?_⟩;have hB:w2.heap.size<=w4.heap.size:=(m3.no m4).size
 have m26:Ab (fun x=>w2.heap.size<=x) w2 w6:=((m3.no m4).no c3).mono fun _ _ h=>h.elim;have nb:¬ (w2.heap.size<=w1.heap.size):=by omega
 have up:∀{w':World},Ab (fun x=>w2.heap.size<=x) w2 w'->Ab No w w':=fun m=>m2.up m m2.size;have tr:∀{x y:World},Ab (fun x=>w2.heap.size<=x) w2 x->Ab (fun x=>w2.heap.size<=x) x y->Ab (fun x=>w2.heap.size<=x) w2 y:=fun h k=>h.trans k fun _ _ h=>h;refine⟨_,(b2.at.keep m26 nb).fld Aj rfl,?_⟩;refine Af4 (m:=2) (l:=4) (base:=w2.heap.size) c2 rfl (by omega) (by omega) (by omega) (by omega) m26.size fun w7 e2 f2 e3 f3 w8 p8 m8 o8=>⟨_,_,_,rfl,_,_,_,w8,p8,?_⟩
 have M8:=tr m26 m8;refine Uj (m:=2) (l:=6) o8 (by omega) (by omega) (by omega) M8.size fun w9 e2 f2 e3 f3 w10 p10 m10 o10=>⟨_,_,_,rfl,_,_,_,w10,p10,?_⟩;have M10:=tr M8 m10;refine Uj (m:=2) (l:=8) o10 (by omega) (by omega) (by omega) M10.size fun w11 e2 f2 e3 f3 w12 p12 m12 o12=>⟨_,_,_,rfl,_,_,_,w12,p12,?_⟩;have M12:=tr M10 m12;have o12:Ow Tryz.prog w12 w2.heap.size 88 1 e3 10 f3 (Au (HY g h)):=o12
 refine sI (N:=16) o12 (by omega) rfl (by omega) M12.size fun w13 b8 d8 m13 o13=>?_;have M13:=tr M12 m13;have o13:Ow Tryz.prog w13 w2.heap.size 88 1 b8 16 d8 (Au (HY g h++List.replicate 6 0)):=o13;have hra:a≠none:=fun e=>by
  rcases ra with h|⟨b,o,h,_⟩
  ·have:=Pi List.length h;simp[hw.1]at this
  ·rw[h]at e;cases e
 have hrs:a'≠none:=fun e=>by
  rcases rs with h|⟨b,o,h,_⟩
  ·have:=Pi List.length h;simp[hw.2]at this
  ·rw[h]at e;cases e
 obtain⟨b9,d9,w16,p16,o16,m16⟩:=Ac3 o13 (ra.nos (up M13)) hw.1 (c2:=c) (fun e=>absurd e hra) (by omega) M13.size;have M16:=tr M13 m16;obtain⟨b10,d10,w17,p17,o17,m17⟩:=Ac3 o16 (rs.nos (up M16)) hw.2 (c2:=c') (fun e=>absurd e hrs) (by omega) M16.size;have M17:=tr M16 m17;refine⟨_,_,_,(b2.at.keep M13 nb).fld Bn rfl,_,_,_,w16,p16,_,_,_,(b2.at.keep M16 nb).fld Bn rfl,_,_,_,w17,p17,?_⟩;refine sI (N:=256) o17 (by omega) rfl (by omega) M17.size fun w18 b11 d11 m18 o18=>?_
 exact h2 ho w18 b11 d11 (up (tr M17 m18)) (o18.mono m2.size)
theorem AaH:∀ v∈qK,v.oneCell'=true:=by
 intro v hv;simp only[qK,Lz,Li5,or_false]at hv;rcases hv with rfl | rfl | rfl<;>rfl
set_option maxRecDepth 8000 in
theorem AaV{g : Gm}{a : Option Addr}{l c : Nat}{xs : List UInt8}(hl : xs.length = l)(hc : l ≤ c)(hr : Bl w a (Au xs))(h63 : l ≤ 1048576)
    (h1 : (HL g xs).2 ≠ 0 → ∀ w', Ab No w w' → K (.tuple #[.agg ⟨qK⟩, .int .i64 (HL g xs).2]) w')
    (h2 : (HL g xs).2 = 0 → ∀ w' b d b' d', Ab No w w' → Bl w' b (Au (HL g xs).1.bs) → Bl w' b' (Au (HL g xs).1.ss) → K (.tuple #[.agg ⟨Ww (HL g xs).1.no b d b' d'⟩, .int .i64 0]) w') : A8 Tryz.prog Hb #[.agg ⟨gV g⟩, .slice a l c] w K := by
  apply Sq;unfold KB;obtain⟨w1, a1, a2, a3, a4⟩ := AC (P := Tryz.prog) (w := w) (T := 40) (cs := gV g);obtain⟨w2, b1, b2, b3, b4⟩ := A9 (P := Tryz.prog) (w := w1) (T := 183) Cg;have m2 := a3.no b3;have q2 := a2.keep b3 id;have fin : ∀(w' : World)(e : Int), Ab No w2 w' → e ≠ 0 → (HL g xs).2 = e → ∃ w3 : World, Eh (Instr.storeAt 183 (.pointer (some ⟨w1.heap.size, 0, none⟩)) (.agg ⟨qK⟩)) w' w3 ∧ ∃ gR2 : Array Value, Ru (Instr.loadAt 183 (.pointer (some ⟨w1.heap.size, 0, none⟩))) w3 (.agg gR2) w3 ∧ K (.tuple #[.agg gR2, .int .i64 e]) w3 := fun w' e m he0 he => by
    obtain⟨w3, c1, c2, c3, c4⟩ := (b2.keep m id).put (T := 183) (vs := qK) Bs rfl rfl AaH
    have := h1 (by rw[he];exact he0) w3 ((m2.no m).own c3 a3.size)
    rw[he]at this;exact⟨w3, c1, _, c2.at.all Bs rfl, this⟩
  refine⟨_, w1, a1, _, w2, b1, _, q2.at.all Aq rfl, DN fun w3 m3 => ⟨_, rfl, Aa (fun h => ⟨_, G8, ?_⟩) (fun h => ?_)⟩⟩
  · exact fin w3 1 m3 (by decide) (by unfold HL;rw[if_pos (by simpa using h)])
  have hg : CU g = true := by simpa using h
  rw[Di];refine Aa (fun h => ⟨_, G8, ?_⟩) (fun h => ?_)
  · have h := Lc h
    exact fin w3 4 m3 (by decide) (by unfold HL;rw[if_neg (by rw[hg];simp), if_pos (by omega)])
  have hl2 : xs.length = 256 := by have := Lb h;omega
  have hl' : l = 256 := by omega
  subst hl';have hwf := VQ hl2;have n4 : BW ((xs.drop 4).take 2) < 256 ^ 2 := Dv (by omega);have hr2 := hr.nos m2;have tail : ∀(w9 : World)(q p e1 p2 e2 : Nat), Ab No w2 w9 → w2.heap.size ≤ q → A1 w9 q 0 qK → w2.heap.size ≤ p → p ≠ q → Bl w9 (some ⟨p, 0, none⟩) (Au (DM xs).bs) → w2.heap.size ≤ p2 → p2 ≠ q → Bl w9 (some ⟨p2, 0, none⟩) (Au (DM xs).ss) →
      ∃ w10 : World, Eh (Instr.storeAt 183 (.pointer (some ⟨q, 0, none⟩)) (.agg ⟨Ww (IntKind.i64.wrap (BW ((xs.drop 4).take 2) : Int)) (some ⟨p, 0, none⟩) e1 (some ⟨p2, 0, none⟩) e2⟩)) w9 w10 ∧ ∃ g29 : Array Value, Ru (Instr.loadAt 40 (.pointer (some ⟨w.heap.size, 0, none⟩))) w10 (.agg g29) w10 ∧ ∃ g30 : Array Value, Ru (Instr.loadAt 183 (.pointer (some ⟨q, 0, none⟩))) w10 (.agg g30) w10 ∧ A8 Tryz.prog BN #[.agg g29, .agg g30] w10 fun r31 w11 => ∃(a31a : Option Addr)(l31a c31a : Nat), ∃ n31b : Int, r31 = .tuple #[.slice a31a l31a c31a, .int .i64 n31b] ∧ Ac (fun k => (bif n31b != 0 then k [.bool true] w11 else ∃ s38 : ByteArray, Ru (convert 88 9 (.slice a31a l31a c31a)) w11 (.string s38) w11 ∧ ∃ s40 : ByteArray, Ru (convert 88 9 (.slice a 256 c)) w11 (.string s40) w11 ∧ k [.bool (!((ByteArray.toList s38) == (ByteArray.toList s40)))] w11)) fun x w12 =>
       ∃ b42 : Bool, Ap x 0 = .bool b42 ∧ (bif b42 then
       ∃ g43 : Array Value, Al (Instr.build 183 #[]) (.agg g43) ∧ ∃ w13 : World, Eh (Instr.storeAt 183 (.pointer (some ⟨w1.heap.size, 0, none⟩)) (.agg g43)) w12 w13 ∧ ∃ gR4_3 : Array Value, Ru (Instr.loadAt 183 (.pointer (some ⟨w1.heap.size, 0, none⟩))) w13 (.agg gR4_3) w13 ∧ K (.tuple #[.agg gR4_3, .int .i64 8]) w13
       else
       ∃ g44 : Array Value, Ru (Instr.loadAt 183 (.pointer (some ⟨q, 0, none⟩))) w12 (.agg g44) w12 ∧ ∃ w14 : World, Eh (Instr.storeAt 183 (.pointer (some ⟨w1.heap.size, 0, none⟩)) (.agg g44)) w12 w14 ∧ ∃ gR4_4 : Array Value, Ru (Instr.loadAt 183 (.pointer (some ⟨w1.heap.size, 0, none⟩))) w14 (.agg gR4_4) w14 ∧ K (.tuple #[.agg gR4_4, .int .i64 0]) w14) := by
    intro w9 q p e1 p2 e2 m9 hq hat hp hpq hap hp2 hpq2 Xx;rw[Ag (x := (BW ((xs.drop 4).take 2) : Int)) (by omega) (by omega)];obtain⟨w10, c1, c2, c3, c4⟩ := hat.put (T := 183) (vs := Ww (DM xs).no (some ⟨p, 0, none⟩) e1 (some ⟨p2, 0, none⟩) e2) Bs rfl rfl (RG _ _ _ _ _);have m10 : Ab No w2 w10 := m9.own c3 hq;have ra : Bl w10 (some ⟨p, 0, none⟩) (Au (DM xs).bs) := hap.keep c3 fun x e hx => by cases e;exact hpq hx
    have rs : Bl w10 (some ⟨p2, 0, none⟩) (Au (DM xs).ss) := Xx.keep c3 fun x e hx => by cases e;exact hpq2 hx
    refine⟨w10, c1, _, (q2.keep m10 id).at.all Aq rfl, _, c2.at.all Bs rfl, ?_⟩
    have last : ∀(w12 : World)(b : Bool), Ab No w10 w12 → (b = false ↔ I8 g (DM xs) = true ∧ Fz g (DM xs) = xs) → ∃ b42 : Bool, Ap [.bool b] 0 = .bool b42 ∧ (bif b42 then
        ∃ g43 : Array Value, Al (Instr.build 183 #[]) (.agg g43) ∧ ∃ w13 : World, Eh (Instr.storeAt 183 (.pointer (some ⟨w1.heap.size, 0, none⟩)) (.agg g43)) w12 w13 ∧ ∃ gR4_3 : Array Value, Ru (Instr.loadAt 183 (.pointer (some ⟨w1.heap.size, 0, none⟩))) w13 (.agg gR4_3) w13 ∧ K (.tuple #[.agg gR4_3, .int .i64 8]) w13
        else
        ∃ g44 : Array Value, Ru (Instr.loadAt 183 (.pointer (some ⟨q, 0, none⟩))) w12 (.agg g44) w12 ∧ ∃ w14 : World, Eh (Instr.storeAt 183 (.pointer (some ⟨w1.heap.size, 0, none⟩)) (.agg g44)) w12 w14 ∧ ∃ gR4_4 : Array Value, Ru (Instr.loadAt 183 (.pointer (some ⟨w1.heap.size, 0, none⟩))) w14 (.agg gR4_4) w14 ∧ K (.tuple #[.agg gR4_4, .int .i64 0]) w14) := by
      intro w12 b m12 hb;refine⟨_, rfl, Aa (fun h => ⟨_, G8, ?_⟩) (fun h => ⟨_, (c2.keep m12 id).at.all Bs rfl, ?_⟩)⟩
      · exact fin w12 8 (m10.no m12) (by decide) (by unfold HL;rw[if_neg (by rw[hg];simp), if_neg (by omega), if_neg fun e => by rw[hb.2 e]at h;cases h])
      · obtain⟨w14, f1, f2, f3, f4⟩ := ((b2.keep m10 id).keep m12 id).put (T := 183) (vs := Ww (DM xs).no (some ⟨p, 0, none⟩) e1 (some ⟨p2, 0, none⟩) e2) Bs rfl rfl (RG _ _ _ _ _)
        refine⟨w14, f1, _, f2.at.all Bs rfl, ?_⟩;have eh : HL g xs = (DM xs, 0) := by unfold HL;rw[if_neg (by rw[hg];simp), if_neg (by omega), if_pos (hb.1 h)]
        have := h2 (by rw[eh]) w14 (some ⟨p, 0, none⟩) e1 (some ⟨p2, 0, none⟩) e2 ((m2.no (m10.no m12)).own f3 a3.size)
        rw[eh]at this;exact this ((ra.nos m12).keep f3 fun x e hx => by cases e;have hx : p = w1.heap.size := hx;omega) ((rs.nos m12).keep f3 fun x e hx => by cases e;have hx : p2 = w1.heap.size := hx;omega)
    refine lJ hwf ra rs (fun ho w11 m11 => ⟨_, _, _, _, rfl, Ac.dup (tt rfl ?_)⟩) (fun ho w11 b d m11 o11 => ⟨_, _, _, _, rfl, Ac.dup (ff rfl ⟨_, GL (xs := Fz g (DM xs)) JZ o11.rowU.row (Jo hwf), _, GL (xs := xs) JZ (hr2.nos (m10.no m11)) hl2, ?_⟩)⟩)
    · refine last w11 true m11 ⟨fun e => (by cases e), fun e => ?_⟩
      rw[ho]at e;cases e.1
    · rw[Jl]
      refine last w11 _ m11 ?_;rw[Zq, Wv];exact⟨fun e => ⟨ho, e⟩, fun e => e.2⟩
  have na : a ≠ none := fun e => by
    rcases hr with h|⟨b, o, h, _⟩
    · have := Pi List.length h;simp[hl2]at this
    · rw[h]at e;cases e
  have hrd : Bl (Go.Den.Ah w3) a (Au xs) := hr2.nos m3.drew;have md : Ab No w2 (Go.Den.Ah w3) := m3.drew;have g4 : ∀{w' : World}{Q : Value → World → Prop}, Bl w' a (Au xs) → Q (.int .u64 (BW ((xs.drop 4).take 2) : Int)) w' → A8 Tryz.prog Ai #[.slice (Cb a c (4 : Int).toNat 1) ((6 : Int).toNat - (4 : Int).toNat) (c - (4 : Int).toNat)] w' Q := fun hr' hq => Ud (i := 4) (m := 2) hl2 hc hr' (by omega) (by omega) rfl hq
  have l16 : ∀{w' : World}{Q : Value → World → Prop}, Bl w' a (Au xs) → (∀ w'' b cap, w'.heap.size ≤ b → Ab No w' w'' → Bl w'' (some ⟨b, 0, none⟩) (Au (DM xs).bs) → b < w''.heap.size → Q (.slice (some ⟨b, 0, none⟩) 16 cap) w'') → A8 Tryz.prog AT #[.slice (Cb a c (16 : Int).toNat 1) ((32 : Int).toNat - (16 : Int).toNat) (c - (16 : Int).toNat)] w' Q := fun hr' hq =>
    qQ (xs := (DM xs).bs) hwf.1 (hr'.cut (by omega) (by omega)) (fun e => absurd (Xh e) na) (by decide) fun w'' b cap hb m hlent => hq w'' b cap hb m hlent.row hlent.2.2.lt
  have l8 : ∀{w' : World}{Q : Value → World → Prop}, Bl w' a (Au xs) → (∀ w'' b cap, w'.heap.size ≤ b → Ab No w' w'' → Bl w'' (some ⟨b, 0, none⟩) (Au (DM xs).ss) → b < w''.heap.size → Q (.slice (some ⟨b, 0, none⟩) 8 cap) w'') → A8 Tryz.prog AT #[.slice (Cb a c (32 : Int).toNat 1) ((40 : Int).toNat - (32 : Int).toNat) (c - (32 : Int).toNat)] w' Q := fun hr' hq =>
    qQ (xs := (DM xs).ss) hwf.2 (hr'.cut (by omega) (by omega)) (fun e => absurd (Xh e) na) (by decide) fun w'' b cap hb m hlent => hq w'' b cap hb m hlent.row hlent.2.2.lt
  have hs3 : w2.heap.size ≤ (Go.Den.Ah w3).heap.size := md.size;refine⟨_, _, _, Be Am (by omega) (by omega) (by omega), _, _, _, Be Am (by omega) (by omega) (by omega), _, _, _, Be Am (by omega) (by omega) (by omega), ?_⟩;refine⟨g4 hrd ⟨_, rfl, l16 hrd fun w7 p e1 hp m7 rp lp => ⟨_, _, _, rfl, l8 (hrd.nos m7) fun w8 p2 e2 hp2 m8 rp2 lp2 => ⟨_, _, _, rfl, _, CR _ _ _ _ _, ?_⟩, ?_⟩, ?_⟩, ?_⟩
  · obtain⟨w9, u1, u2, u3, u4⟩ := A9 (P := Tryz.prog) (w := w8) (T := 183) Cg
    have k7 := m7.size;have k8 := m8.size;exact⟨_, w9, u1, tail w9 _ p e1 p2 e2 (md.no (m7.no (m8.no u3))) (by omega) u2 (by omega) (by omega) ((rp.nos m8).nos u3) (by omega) (by omega) (rp2.nos u3)⟩
  · obtain⟨w9, u1, u2, u3, u4⟩ := A9 (P := Tryz.prog) (w := w7) (T := 183) Cg
    have k7 := m7.size;refine⟨_, w9, u1, l8 ((hrd.nos m7).nos u3) fun w8 p2 e2 hp2 m8 rp2 lp2 => ⟨_, _, _, rfl, _, CR _ _ _ _ _, ?_⟩⟩;exact tail w8 _ p e1 p2 e2 (md.no (m7.no (u3.no m8))) (by omega) (u2.keep m8 id) (by omega) (by omega) ((rp.nos u3).nos m8) (by omega) (by omega) rp2
  · obtain⟨w9, u1, u2, u3, u4⟩ := A9 (P := Tryz.prog) (w := Go.Den.Ah w3) (T := 183) Cg
    refine⟨_, w9, u1, l16 (hrd.nos u3) fun w7 p e1 hp m7 rp lp => ⟨_, _, _, rfl, l8 ((hrd.nos u3).nos m7) fun w8 p2 e2 hp2 m8 rp2 lp2 => ⟨_, _, _, rfl, _, CR _ _ _ _ _, ?_⟩⟩⟩;have k7 := m7.size;exact tail w8 _ p e1 p2 e2 (md.no (u3.no (m7.no m8))) (by omega) ((u2.keep m7 id).keep m8 id) (by omega) (by omega) (rp.nos m8) (by omega) (by omega) rp2
  · obtain⟨w9, u1, u2, u3, u4⟩ := A9 (P := Tryz.prog) (w := Go.Den.Ah w3) (T := 183) Cg
    refine⟨_, w9, u1, g4 (hrd.nos u3) ⟨_, rfl, l16 (hrd.nos u3) fun w7 p e1 hp m7 rp lp => ⟨_, _, _, rfl, l8 ((hrd.nos u3).nos m7) fun w8 p2 e2 hp2 m8 rp2 lp2 => ⟨_, _, _, rfl, _, CR _ _ _ _ _, ?_⟩⟩⟩⟩;have k7 := m7.size;exact tail w8 _ p e1 p2 e2 (md.no (u3.no (m7.no m8))) (by omega) ((u2.keep m7 id).keep m8 id) (by omega) (by omega) (rp.nos m8) (by omega) (by omega) rp2
end
end Go.Z
end
section
open Go Go.Den Go.Proofs
namespace Go.Den
structure Nd where
 kind:Int
 links:Int
 size:Int
 id:Int
 p:List Int
deriving DecidableEq
theorem tG:∀{x y:List Int},iL x=iL y->x=y
 | [],[],_=>rfl
 | [],_::_,h=>by cases h
 | _::_,[],h=>by cases h
 | a::x,b::y,h=>by
  have h1:(Value.int .i64 a)::iL x=(Value.int .i64 b)::iL y:=h;obtain⟨h2,h3⟩:=La6 h1;have h4:a=b:=by simpa using h2
  rw[tG h3,h4]
def ndL(i:Nd):List Int:=i.kind::i.links::i.size::i.id::i.p
def nV(i:Nd):List Value:=iL (ndL i)
def Ui(i:Nd):Prop:=i.p.length=8
def nZ:Nd:=⟨0,0,0,0,[0,0,0,0,0,0,0,0]⟩
theorem uC:Ui nZ:=rfl
theorem C4{i:Nd}(h:Ui i):(nV i).length=12:=by unfold nV;rw[Gh];simp[ndL];exact h
theorem Ht(i:Nd):∀ v∈nV i,v.oneCell'=true:=YW _
def EL(i:Nd):Bool:=decide (0<=i.links/\i.links<=1000/\0<=i.size/\i.size<=1066496/\1<=i.id/\i.id<=4611686018427387904)
def Uh(n:Int):Bool:=decide (0<=n/\n<4096)
def RC(i:Nd):Bool:=i.p.all Uh&&(if i.kind=0 then decide (i=nZ)else if i.kind=2 then decide (i.size % 256=0)&&EL i else if i.kind=1 then EL i else if i.kind=3 then EL i&&decide (1<=i.size/\i.size<=255)else false)
end Go.Den
namespace Go.Z
theorem AS:Ei Tryz.prog 218=some 12:=by kernel_rfl
theorem DP:HT Tryz.prog 218=some (nV nZ):=by kernel_rfl
theorem CY:Al (Instr.build 218 #[]) (.agg ⟨nV nZ⟩):=fun w=>by kernel_rfl
theorem QT:PR Tryz.prog 64=some (8,1):=by kernel_rfl
theorem WU:PR Tryz.prog 216=some (6,1):=by kernel_rfl
theorem rC:Ei Tryz.prog 64=some 8:=by kernel_rfl
theorem jB:HT Tryz.prog 64=some (iL [0,0,0,0,0,0,0,0]):=by kernel_rfl
theorem Vm:Ge Tryz.prog 80=some 1:=by kernel_rfl
theorem ieq(s t:Nd)(hs:Ui s)(ht:Ui t){o1 o2:Operand}:Al (Gp .eql 218 o1 o2 (.agg ⟨nV s⟩) (.agg ⟨nV t⟩)) (.bool (decide (s=t))):=fun w=>by
 have hc:∀ s:Nd,Ui s->G9 (List.replicate 12 (.i .i64)) (nV s):=fun s hs=>⟨by rw[C4 hs];rfl,fun j k v hk hv=>by
  have e1:k=.i .i64:=by
   rw[Ls4]at hk
   split at hk
   ·exact(Ln hk).symm
   ·cases hk
  subst e1;unfold nV iL at hv;rw[jK]at hv;cases hx2:(ndL s)[j]? with
  | none=>rw[hx2]at hv;cases hv
  | some c=>rw[hx2]at hv;cases hv;rfl⟩
 obtain⟨b,hb,h1,_⟩:=Uu (P:=Tryz.prog) (T:=218) (ks:=List.replicate 12 (.i .i64)) (by kernel_rfl) (by kernel_rfl) AS (o1:=o1) (o2:=o2) (hc s hs) (hc t ht) w;rw[h1];have:b=decide (s=t):=by
  rw[Lu,hb,Wv];constructor
  ·intro e;have e2:=tG e;obtain⟨a,b,c,d,p⟩:=s;obtain⟨a',b',c',d',p'⟩:=t;simpa [ndL] using e2
  ·intro e;rw[e]
 rw[this]
section
variable{w:World}{K:Value->World->Prop}
theorem lS{i:Nd}(_hw:Ui i)(hk:∀ w',Ab No w w'->K (.bool (EL i)) w'):A8 Tryz.prog H0 #[.agg ⟨nV i⟩] w K:=by
 apply W4;unfold Pf;obtain⟨w1,a1,a2,a3,a4⟩:=AC (P:=Tryz.prog) (w:=w) (T:=218) (cs:=nV i);have l1:Ru (Instr.loadAt 3 (.pointer (some (Addr.add ⟨w.heap.size,0,none⟩ 1)))) w1 (.int .i64 i.links) w1:=a2.at.fld Aj rfl;have l2:Ru (Instr.loadAt 2 (.pointer (some (Addr.add ⟨w.heap.size,0,none⟩ 2)))) w1 (.int .i64 i.size) w1:=a2.at.fld BL rfl;have l3:Ru (Instr.loadAt 2 (.pointer (some (Addr.add ⟨w.heap.size,0,none⟩ 3)))) w1 (.int .i64 i.id) w1:=a2.at.fld BL rfl
 have no:∀{p:Prop},(¬ (0<=i.links/\i.links<=1000/\0<=i.size/\i.size<=1066496/\1<=i.id/\i.id<=4611686018427387904))->∃ b2:Bool,Ap [.bool false] 0=.bool b2/\K (.bool b2) w1:=fun h=>⟨_,rfl,by
  have e:false=EL i:=by unfold EL;rw[Lf h]
  rw[e];exact hk _ a3⟩
 refine⟨_,w1,a1,Ac.dup ⟨_,l1,Aa (fun h1=>⟨_,l1,Aa (fun h2=>⟨_,l2,Aa (fun h3=>⟨_,l2,Aa (fun h4=>⟨_,l3,Aa (fun h5=>⟨_,l3,_,rfl,?_⟩) (fun h5=>no (p:=True) fun e=>Lb h5 (by omega))⟩) (fun h4=>no (p:=True) fun e=>Lb h4 (by omega))⟩) (fun h3=>no (p:=True) fun e=>Lb h3 (by omega))⟩) (fun h2=>no (p:=True) fun e=>Lb h2 (by omega))⟩) (fun h1=>no (p:=True) fun e=>Lb h1 (by omega))⟩⟩
 have h1:=Lc h1;have h2:=Lc h2;have h3:=Lc h3;have h4:=Lc h4;have h5:=Lc h5;have e:decide (i.id<=4611686018427387904)=EL i:=by
  unfold EL;by_cases h6:i.id<=4611686018427387904
  ·rw[Le h6,Le (show _/\_/\_/\_/\_/\_ from⟨h1,h2,h3,h4,h5,h6⟩)]
  ·rw[Lf h6,Lf fun e=>h6 e.2.2.2.2.2]
 rw[e];exact hk _ a3
theorem rE{i:Nd}(hw:Ui i)(hk:∀ w',Ab No w w'->K (.agg ⟨iL i.p⟩) w'):A8 Tryz.prog JN #[.agg ⟨nV i⟩] w K:=by
 apply Z7;unfold Tq;obtain⟨w1,a1,a2,a3,a4⟩:=AC (P:=Tryz.prog) (w:=w) (T:=218) (cs:=nV i);obtain⟨w2,b1,b2,b3,b4⟩:=A9 (P:=Tryz.prog) (w:=w1) (T:=64) jB;obtain⟨w3,c1,c2,c3,c4⟩:=A9 (P:=Tryz.prog) (w:=w2) (T:=64) jB;have m3:=a3.no (b3.no c3);have q1:=(a2.keep b3 id).keep c3 id;obtain⟨k,l,s,d,p⟩:=i;have hw:p.length=8:=hw
 match p,hw with
 | [p0,p1,p2,p3,p4,p5,p6,p7],_ =>
 have ad4:Addr.add ⟨w.heap.size,0,none⟩ 4=⟨w.heap.size,4,none⟩:=by rw[Ad]
 have hsub:At w3 w.heap.size 4 (iL [p0,p1,p2,p3,p4,p5]):=by
  have:=q1.at.sub (i:=4) (m:=6) (show 4+6<=12 by decide)
  exact this
 obtain⟨w4,d1,d2,d3,d4⟩:=H1 (P:=Tryz.prog) (T:=80) (T2:=80) (ty:=3) (i:=0) (n:=8) (c:=8) (n2:=6) (c2:=6) (a2:=some ⟨w.heap.size,4,none⟩) (src:=iL [p0,p1,p2,p3,p4,p5]) Vm c2.drew (by rw[Gh];decide) (.inr ⟨_,_,rfl,hsub.drew⟩) (by rw[Gh];rfl) (YW _);have d2:A1 w4 w2.heap.size 0 (iL [p0,p1,p2,p3,p4,p5,0,0]):=d2;have q4:=q1.drew.keep d3 (fun e=>by have:=a3.size;omega)
 obtain⟨w5,e1,e2,e3,e4⟩:=d2.store (P:=Tryz.prog) (T:=3) (i:=6) (v:=.int .i64 p6) Aj (show 6<8 by decide) rfl;obtain⟨w6,f1,f2,f3,f4⟩:=e2.store (P:=Tryz.prog) (T:=3) (i:=7) (v:=.int .i64 p7) Aj (show 7<8 by decide) rfl;have f2:A1 w6 w2.heap.size 0 (iL [p0,p1,p2,p3,p4,p5,p6,p7]):=f2;have M6:Ab No w2 w6:=((c3.drew.own d3 (Ld _)).own e3 (Ld _)).own f3 (Ld _);have q2:=b2.keep M6 id
 obtain⟨w7,g1,g2,g3,g4⟩:=q2.put (T:=64) (vs:=iL [p0,p1,p2,p3,p4,p5,p6,p7]) rC (by rw[Gh];rfl) (by rw[Gh];rfl) (YW _);refine⟨_,w1,a1,_,w2,b1,_,w3,c1,_,_,_,Ba QT,?_⟩;rw[ad4];refine⟨_,_,_,Ba WU,_,w4,d1,_,q4.at.fld (j:=10) Aj rfl,_,q4.at.fld (j:=11) Aj rfl,_,B5 QT (by decide) (by decide),w5,?_,_,B5 QT (by decide) (by decide),w6,?_,_,f2.at.all rC (by rw[Gh];rfl),w7,g1,_,g2.at.all rC (by rw[Gh];rfl),?_⟩
 ·rw[Ad];exact e1
 ·rw[Ad];exact f1
 ·exact hk w7 (a3.no ((b3.no M6).own g3 (Ld _)))
theorem V8{i:Nd}(hw:Ui i)(hk:∀ w',Ab No w w'->K (.bool (RC i)) w'):A8 Tryz.prog CQ #[.agg ⟨nV i⟩] w K:=by
 apply W0;unfold Pe;obtain⟨w1,a1,a2,a3,a4⟩:=AC (P:=Tryz.prog) (w:=w) (T:=218) (cs:=nV i);refine⟨_,w1,a1,_,a2.at.all AS (C4 hw),rE hw fun w2 m2=>⟨_,rfl,?_⟩⟩;have M2:=a3.no m2;have q2:=a2.keep m2 id;have hw8:i.p.length=8:=hw;refine⟨fun x w3=>∃(j:Nat)(y z:Value),j<=8/\x=[y,.int .i64 j,z]/\(i.p.take j).all Uh=true/\w3=w2,fun x _=>(8-nI x 1).toNat,⟨0,_,_,by omega,rfl,by simp,rfl⟩,?_⟩
 rintro x w3 ⟨j,y,z,hj,rfl,hall,rfl⟩;refine⟨_,rfl,Aa (fun hl=>?_) (fun hl=>?_)⟩
 ·have hl:=Lc hl;have hjp:j<i.p.length:=by omega
  refine⟨i.p[j],KZ Tryz.underlying64 QT Tryz.underlying3 (by simp) (by simp) (by omega) (Ma hjp),Ac.cut (fun z w4=>w4=w3/\z=[.bool (!Uh i.p[j])]) (Aa (fun h=>⟨rfl,?_⟩) (fun h=>⟨rfl,?_⟩)) ?_⟩
  ·have h:=Lc h;unfold Uh;rw[Lf (by omega)];rfl
  ·have h:=Lb h;have e:decide (i.p[j] >= 4096)=!Uh i.p[j]:=by
    unfold Uh;by_cases h2:i.p[j] >= 4096
    ·rw[Le h2,Lf (show ¬ (0<=i.p[j]/\i.p[j]<4096) by omega)];rfl
    ·rw[Lf h2,Le (show 0<=i.p[j]/\i.p[j]<4096 by omega)];rfl
   rw[e]
  rintro z w4 ⟨rfl,rfl⟩;refine⟨_,rfl,Aa (fun h=>?_) (fun h=>?_)⟩
  ·rw[TW]at h;have e:RC i=false:=by
    unfold RC;have:i.p.all Uh=false:=List.all_eq_false.2 ⟨i.p[j],Tx hjp,by rw[h];simp⟩;rw[this];rfl
   rw[<- e];exact hk _ M2
  ·rw[Zq]at h;rw[Ag (x:=(j:Int)+1) (by omega) (by omega)];exact⟨⟨j+1,_,_,by omega,by simp[Ap];exact⟨rfl,rfl⟩,by rw[Ll hjp,Lv3,hall];simp[h],rfl⟩,by simp[nI,Ap];omega⟩
 have hl:=Lb hl;have hj8:j=8:=by omega
 subst hj8;rw[Lg (by omega)]at hall;have lk:Ru (Instr.loadAt 3 (.pointer (some (Addr.add ⟨w.heap.size,0,none⟩ 0)))) w3 (.int .i64 i.kind) w3:=q2.at.fld Aj rfl;have ls:∀{w':World},Ab No w3 w'->Ru (Instr.loadAt 2 (.pointer (some (Addr.add ⟨w.heap.size,0,none⟩ 2)))) w' (.int .i64 i.size) w':=fun m=>(q2.keep m id).at.fld BL rfl;have ek:RC i=(if i.kind=0 then decide (i=nZ)else if i.kind=2 then decide (i.size % 256=0)&&EL i else if i.kind=1 then EL i else if i.kind=3 then EL i&&decide (1<=i.size/\i.size<=255)else false):=by unfold RC;rw[hall,Ws]
 rw[ek]at hk;refine⟨_,lk,Ac.cut (fun _ w11=>w11=w3/\i.kind≠0/\i.kind≠2/\i.kind≠1/\i.kind≠3) (Ac.cut (fun _ w9=>w9=w3/\((i.kind=2/\i.size % 256=0)\/i.kind=1)) ?_ ?_) ?_⟩
 ·rw[GO,GO,GO,GO];refine Aa (fun h=>?_) (fun h=>Aa (fun h2=>⟨_,ls (Ab.refl _ _),?_⟩) (fun h2=>Aa (fun h3=>⟨rfl,.inr (Lc h3)⟩) (fun h3=>Aa (fun h4=>?_) (fun h4=>⟨rfl,Lb h,Lb h2,Lb h3,Lb h4⟩))))
  ·have h:=Lc h;obtain⟨w5,b1,b2,b3,b4⟩:=A9 (P:=Tryz.prog) (w:=w3) (T:=218) DP;obtain⟨w6,c1,c2,c3,c4⟩:=b2.put (T:=218) (vs:=nV nZ) AS rfl rfl (Ht _);have m6:Ab No w3 w6:=b3.own c3 (Ld _);refine⟨_,CY,_,w5,b1,w6,c1,_,(q2.keep m6 id).at.all AS (C4 hw),_,c2.at.all AS rfl,_,ieq i nZ hw uC,?_⟩;rw[if_pos h]at hk;exact hk w6 (M2.no m6)
  ·have h:=Lb h;have h2:=Lc h2;rw[Di];have hm:Int.tmod i.size 256=0↔i.size % 256=0:=by
    rw[<- Int.dvd_iff_tmod_eq_zero,Int.dvd_iff_emod_eq_zero]
   refine Aa (fun h3=>?_) (fun h3=>⟨rfl,.inl ⟨h2,hm.1 (Tw.1 (Lb h3))⟩⟩);have h3:=Lc h3;rw[if_neg h,if_pos h2,Lf fun e=>h3 (hm.2 e),Ln4]at hk;exact hk _ M2
  ·have h:=Lb h;have h2:=Lb h2;have h3:=Lb h3;have h4:=Lc h4;rw[if_neg h,if_neg h2,if_neg h3,if_pos h4]at hk;refine Ac.cut (fun z w8=>Ab No w3 w8/\z=[.bool (EL i&&decide (1<=i.size/\i.size<=255))]) ⟨_,q2.at.all AS (C4 hw),lS hw fun w7 m7=>⟨_,rfl,Aa (fun h5=>⟨_,ls m7,Aa (fun h6=>⟨_,ls m7,m7,?_⟩) (fun h6=>⟨m7,?_⟩)⟩) (fun h5=>⟨m7,?_⟩)⟩⟩ ?_
   ·have h6:=Lc h6;rw[h5,Ws];by_cases h7:i.size<=255
    ·rw[Le h7,Le (show _/\_ from⟨h6,h7⟩)]
    ·rw[Lf h7,Lf fun e=>h7 e.2]
   ·have h6:=Lb h6;rw[Lf (show ¬ (1<=i.size/\i.size<=255)from fun e=>h6 e.1),qR]
   ·rw[h5];rfl
   ·rintro z w8 ⟨m8,rfl⟩;exact⟨_,rfl,hk _ (M2.no m8)⟩
 ·rintro z w9 ⟨rfl,hc⟩;refine⟨_,q2.at.all AS (C4 hw),lS hw fun w10 m10=>⟨_,rfl,?_⟩⟩;rcases hc with ⟨h2,h3⟩|h1
  ·rw[if_neg (by omega),if_pos h2,Le h3,Ws]at hk;exact hk _ (M2.no m10)
  ·rw[if_neg (by omega),if_neg (by omega),if_pos h1]at hk;exact hk _ (M2.no m10)
 ·rintro z w11 ⟨rfl,h1,h2,h3,h4⟩;rw[if_neg h1,if_neg h2,if_neg h3,if_neg h4]at hk;exact hk _ M2
end
end Go.Z
end
section
open Go Go.Den Go.Proofs
namespace Go.Den
theorem kX{i:Nd}(h:RC i=true):0<=i.kind/\i.kind<=3/\0<=i.links/\i.links<=1000/\0<=i.size/\i.size<=1066496/\0<=i.id/\i.id<=4611686018427387904/\∀ n∈i.p,0<=n/\n<4096:=by
 unfold RC at h;rw[Lp]at h;obtain⟨h1,h2⟩:=h;have hp:∀ n∈i.p,0<=n/\n<4096:=fun n hn=>Lc (dR.1 h1 n hn);have hs:EL i=true->0<=i.links/\i.links<=1000/\0<=i.size/\i.size<=1066496/\1<=i.id/\i.id<=4611686018427387904:=fun h=>Lc h
 split at h2
 ·have e:=Lc h2;subst e;exact⟨by decide,by decide,by decide,by decide,by decide,by decide,by decide,by decide,hp⟩
 split at h2
 ·rw[Lp]at h2
  have:=hs h2.2
  exact⟨by omega,by omega,by omega,by omega,by omega,by omega,by omega,by omega,hp⟩
 split at h2
 ·have:=hs h2
  exact⟨by omega,by omega,by omega,by omega,by omega,by omega,by omega,by omega,hp⟩
 split at h2
 ·rw[Lp]at h2
  have:=hs h2.1
  exact⟨by omega,by omega,by omega,by omega,by omega,by omega,by omega,by omega,hp⟩
 ·cases h2
end Go.Den
namespace Go.Z
def GE(i:Nd):List UInt8:=[UInt8.ofNat i.kind.toNat,0]++Bg 2 i.links.toNat++Bg 4 i.size.toNat++Bg 8 i.id.toNat
def Ej(p:List Int):List UInt8:=p.flatMap fun n=>Bg 2 n.toNat
def MN(i:Nd):List UInt8:=GE i++Ej i.p++List.replicate 32 0
theorem PY(i:Nd):(GE i).length=16:=by simp[GE]
theorem Mb:∀ p:List Int,(Ej p).length=2*p.length
 | []=>rfl
 | a::r=>by
  have e:Ej (a::r)=Bg 2 a.toNat++Ej r:=rfl;rw[e,Ls,Cm,Mb r,mO];omega
theorem Rq{i:Nd}(hw:Ui i):(MN i).length=64:=by
 have hw:i.p.length=8:=hw;unfold MN;rw[Ls,Ls,PY,Mb,hw,TV]
theorem TB{p:List Int}{j:Nat}(hj:j<p.length):Ej (p.take (j+1))=Ej (p.take j)++Bg 2 p[j].toNat:=by
 unfold Ej;rw[Ll hj,List.flatMap_append];simp
section
variable{w:World}{K:Value->World->Prop}
set_option maxRecDepth 4000 in
theorem tL{i:Nd}(hw:Ui i)(h1:RC i=false->∀ w',Ab No w w'->K (.tuple #[.slice none 0 0,.int .i64 1]) w')
  (h2:RC i=true->∀ w' q,Ab No w w'->w.heap.size<=q->A1 w' q 0 (Au (MN i))->K (.tuple #[.slice (some ⟨q,0,none⟩) 64 64,.int .i64 0]) w'):A8 Tryz.prog Nn #[.agg ⟨nV i⟩] w K:=by
 apply Z6;unfold Tp;obtain⟨w1,a1,a2,a3,a4⟩:=AC (P:=Tryz.prog) (w:=w) (T:=218) (cs:=nV i);refine⟨_,w1,a1,_,a2.at.all AS (C4 hw),V8 hw fun w2 m2=>⟨_,rfl,Aa (fun h=>h1 (by simpa using h) _ (a3.no m2)) (fun h=>?_)⟩⟩;have ho:RC i=true:=by simpa using h
 have hb:=kX ho;have hw8:i.p.length=8:=hw;obtain⟨w3,c1,c2,c3,c4⟩:=Fs (w:=w2) (n:=64) (by omega);have hne:¬ (w.heap.size=w2.heap.size):=by have:=m2.size;omega
 have q3:=(a2.keep m2 id).keep c3 id;obtain⟨w4,d1,d2,d3,d4⟩:=c2.store (P:=Tryz.prog) (T:=5) (i:=0) (v:=.int .u8 ((i.kind.toNat:Nat):Int)) LC (by rw[Ak,TV];omega) rfl;have ek:IntKind.u8.wrap i.kind=((i.kind.toNat:Nat):Int):=by rw[Ko];omega
 rw[Ov _ _ _ (by omega)]at d2;have d2:A1 w4 w2.heap.size 0 (Au ([UInt8.ofNat i.kind.toNat,0]++List.replicate 62 0)):=d2;have M4:Ab No w2 w4:=c3.own d3 (Ld _);have q4:=q3.keep d3 (fun e=>hne e);refine⟨_,_,_,w3,c1,_,q3.at.fld Aj rfl,_,Ar Am (by omega) (by omega),w4,?_,?_⟩
 ·rw[Ad,ek];exact d1
 refine⟨_,_,_,Be Am (by omega) (by omega) (by omega),_,q4.at.drew.fld Aj rfl,?_⟩;rw[show(2:Int).toNat=2 from rfl,Jm (by omega)];refine WI (m:=2) d2.drew rfl (by omega) rfl (by omega) (by omega) (by omega) fun w5 m5 z5 d5=>⟨rfl,?_⟩;have q5:=q4.drew.keep m5 (fun e=>hne e);have M5:=M4.drew.own m5 (Ld _);refine⟨_,_,_,Be Am (by omega) (by omega) (by omega),_,q5.at.drew.fld BL rfl,?_⟩
 rw[show(4:Int).toNat=4 from rfl,Jm (by omega)];refine WI (m:=4) d5.drew (by simp) (by omega) rfl (by omega) (by omega) (by omega) fun w6 m6 z6 d6=>⟨rfl,?_⟩;have q6:=q5.drew.keep m6 (fun e=>hne e);have M6:=M5.drew.own m6 (Ld _);refine⟨_,_,_,Be Am (by omega) (by omega) (by omega),_,q6.at.drew.fld BL rfl,?_⟩;rw[show(8:Int).toNat=8 from rfl,Jm (by omega)]
 refine WI (m:=8) d6.drew (by simp) (by omega) rfl (by omega) (by omega) (by omega) fun w7 m7 z7 d7=>⟨rfl,?_⟩;have q7:=q6.drew.keep m7 (fun e=>hne e);have M7:=M6.drew.own m7 (Ld _);refine⟨_,q7.at.all AS (C4 hw),rE hw fun w8 m8=>⟨_,rfl,?_⟩⟩;have M8:=M7.no m8;have d8:A1 w8 w2.heap.size 0 (Au ((GE i++Ej (i.p.take 0))++List.replicate 48 0)):=by
  rw[xE,show Ej []=[]from rfl,fH];exact d7.keep m8 id
 refine⟨fun x w9=>∃ j:Nat,j<=8/\x=[.int .i64 j]/\A1 w9 w2.heap.size 0 (Au ((GE i++Ej (i.p.take j))++List.replicate (48-2*j) 0))/\Ab No w2 w9,fun x _=>(8-nI x 0).toNat,⟨0,by omega,rfl,d8,M8⟩,?_⟩;rintro x w9 ⟨j,hj,rfl,hat,m9⟩;refine⟨_,rfl,Aa (fun hl=>?_) (fun hl=>?_)⟩
 ·have hl:=Lc hl;have hjp:j<i.p.length:=by omega
  have hv:=hb.2.2.2.2.2.2.2.2 _ (Tx hjp);have e1:IntKind.i64.wrap (16+(IntKind.i64.wrap ((j:Int)*2)))=((16+2*j:Nat):Int):=by rw[Ag (x:=(j:Int)*2) (by omega) (by omega),Ag (by omega) (by omega)];omega
  have e2:IntKind.i64.wrap (16+(IntKind.i64.wrap ((IntKind.i64.wrap ((j:Int)+1))*2)))=((18+2*j:Nat):Int):=by rw[Ag (x:=(j:Int)+1) (by omega) (by omega),Ag (x:=((j:Int)+1)*2) (by omega) (by omega),Ag (by omega) (by omega)];omega
  rw[e1,e2];refine⟨i.p[j],KZ Tryz.underlying64 QT Tryz.underlying3 (by simp) (by simp) (by omega) (Ma hjp),_,_,_,Be Am (by omega) (by omega) (by omega),?_⟩;rw[show((16+2*j:Nat):Int).toNat=16+2*j by omega,Jm (by omega),show((18+2*j:Nat):Int).toNat-(16+2*j)=2 by omega];refine WI (m:=2) hat (by rw[Ls,PY,Mb,xF];omega) (by omega) rfl hv.1 (by omega) (by omega) fun w10 m10 z10 d10=>⟨rfl,?_⟩
  rw[Ag (x:=(j:Int)+1) (by omega) (by omega)];rw[WB (GE i),<- TB hjp,show 48-2*j-2=48-2*(j+1) by omega]at d10;exact⟨⟨j+1,by omega,by simp,d10,m9.own m10 (Ld _)⟩,by simp[nI,Ap];omega⟩
 ·have hl:=Lb hl;have hj8:j=8:=by omega
  subst hj8;rw[Lg (by omega)]at hat;exact h2 ho w9 _ (a3.no (m2.no m9)) (Up (by omega) m2.size) hat
end
def Fa(xs:List UInt8)(k:Nat):Int:=BW ((xs.drop (16+2*k)).take 2)
def WH(xs:List UInt8)(j:Nat):List Int:=(List.range 8).map fun k=>if k<j then Fa xs k else 0
def CS(xs:List UInt8):Nd:=⟨(xs.getD 0 0).toNat,BW ((xs.drop 2).take 2),BW ((xs.drop 4).take 4),IntKind.i64.wrap (BW ((xs.drop 8).take 8)),WH xs 8⟩
def NC(xs:List UInt8):Nd:={ CS xs with p:=[0,0,0,0,0,0,0,0] }
theorem VR(xs:List UInt8):Ui (CS xs):=rfl
def Kk(xs:List UInt8):Nd×Int:=if xs.length≠64 then(nZ,4)else if xs.getD 1 0=0/\(xs.drop 32).all (·==0)=true/\RC (CS xs)=true then(CS xs,0)else(nZ,8)
theorem YM(xs:List UInt8):Ui (Kk xs).1:=by
 unfold Kk;split
 ·rfl
 split<;>rfl
theorem uD(xs:List UInt8)(j:Nat):(WH xs j).length=8:=rfl
theorem uE{xs:List UInt8}{j:Nat}(hj:j<8):(iL (WH xs j)).set j (.int .i64 (Fa xs j))=iL (WH xs (j+1)):=by
 match j,hj with
 | 0,_=>rfl
 | 1,_=>rfl
 | 2,_=>rfl
 | 3,_=>rfl
 | 4,_=>rfl
 | 5,_=>rfl
 | 6,_=>rfl
 | 7,_=>rfl
theorem UZ(a b c d:Int):Al (Instr.build 218 #[(0,.int .i64 a),(1,.int .i64 b),(2,.int .i64 c),(3,.int .i64 d)]) (.agg ⟨nV ⟨a,b,c,d,[0,0,0,0,0,0,0,0]⟩⟩):=fun w=>by kernel_rfl
section
variable{w:World}{K:Value->World->Prop}
theorem zI{a:Option Addr}{l c i m m' c':Nat}{xs:List UInt8}{Q:Value->World->Prop}(hl:xs.length=l)(hc:l<=c)(hr:Bl w a (Au xs))(hi:i+m<=l)(hm:m<=8)(hm':m'=m)(hk:Q (.int .u64 (BW ((xs.drop i).take m):Int)) w):A8 Tryz.prog Bb #[.slice (Cb a c i 1) m' c'] w Q:=by
 subst hm';refine ZF (xs:=(xs.drop i).take m') (by simp;omega) (hr.cut (by omega) (by omega)) (by omega) ?_;rw[Lg (i:=8) (by simp;omega)];exact hk
set_option maxRecDepth 8000 in
theorem tJ{a : Option Addr}{l c : Nat}{xs : List UInt8}(hl : xs.length = l)(hc : l ≤ c)(hr : Bl w a (Au xs))(h63 : l ≤ 1048576)
    (hk : ∀ w', Ab No w w' → K (.tuple #[.agg ⟨nV (Kk xs).1⟩, .int .i64 (Kk xs).2]) w') : A8 Tryz.prog Nl #[.slice a l c] w K := by
  apply Z4;unfold Tn;obtain⟨w1, b1, b2, b3, b4⟩ := A9 (P := Tryz.prog) (w := w) (T := 218) DP;have fin : ∀(w' : World)(i : Nd)(e : Int), Ab No w1 w' → (i, e) = Kk xs → ∃ w3 : World, Eh (Instr.storeAt 218 (.pointer (some ⟨w.heap.size, 0, none⟩)) (.agg ⟨nV i⟩)) w' w3 ∧ ∃ gR2 : Array Value, Ru (Instr.loadAt 218 (.pointer (some ⟨w.heap.size, 0, none⟩))) w3 (.agg gR2) w3 ∧ K (.tuple #[.agg gR2, .int .i64 e]) w3 := fun w' i e m he => by
    have hw : Ui i := by have := YM xs;rw[← he]at this;exact this
    obtain⟨w3, c1, c2, c3, c4⟩ := (b2.keep m id).put (T := 218) (vs := nV i) AS rfl (C4 hw) (Ht _);refine⟨w3, c1, _, c2.at.all AS (C4 hw), ?_⟩
    have := hk w3 ((b3.no m).own c3 (Ld _))
    rw[← he]at this;exact this
  refine⟨_, w1, b1, ?_⟩;rw[Di];refine Aa (fun h => ⟨_, CY, ?_⟩) (fun h => ?_)
  · have h := Lc h
    exact fin w1 nZ 4 (Ab.refl _ _) (by unfold Kk;rw[if_pos (by omega)])
  have hl2 : xs.length = 64 := by have := Lb h;omega
  have hl' : l = 64 := by omega
  subst hl';have hr1 := hr.nos b3;have h00 : 0 < xs.length := by omega
  obtain⟨bb, oo, rfl, _⟩ := Mi hr h00;have at0 : ∀{w' : World}, Ab No w1 w' → At w' bb oo (Au xs) := fun m => by
    obtain⟨b', o', e, h⟩ := Mi (hr1.nos m) h00;cases e;exact h
  have ex0 : (xs.getD 0 0) = xs[0] := by rw[Lj, Lk h00];rfl
  have ex1 : (xs.getD 1 0) = xs[1]'(by omega) := by rw[Lj, Lk (by omega : 1 < xs.length)];rfl
  have l0 : ∀{w' : World}, Ab No w1 w' → Ru (Instr.loadAt 5 (.pointer (some (Addr.add ⟨bb, oo, none⟩ ((0 : Int).toNat * 1))))) w' (.int .u8 (xs[0].toNat : Int)) w' := fun m => by
    rw[Ad];exact(at0 m).load (i := 0) LC (CP h00)
  have l1 : ∀{w' : World}, Ab No w1 w' → Ru (Instr.loadAt 5 (.pointer (some (Addr.add ⟨bb, oo, none⟩ ((1 : Int).toNat * 1))))) w' (.int .u8 ((xs[1]'(by omega)).toNat : Int)) w' := fun m => by
    rw[Ad];exact(at0 m).load (i := 1) LC (CP (by omega))
  have n2 : BW ((xs.drop 2).take 2) < 256 ^ 2 := Dv (by omega);have n4 : BW ((xs.drop 4).take 4) < 256 ^ 4 := Dv (by omega);have hx0 := xs[0].toNat_lt;have eN : (⟨IntKind.i64.wrap (xs[0].toNat : Int), IntKind.i64.wrap (BW ((xs.drop 2).take 2) : Int), IntKind.i64.wrap (BW ((xs.drop 4).take 4) : Int), IntKind.i64.wrap (BW ((xs.drop 8).take 8) : Int), [0, 0, 0, 0, 0, 0, 0, 0]⟩ : Nd) = NC xs := by
    unfold NC CS;rw[Ag (x := (xs[0].toNat : Int)) (by omega) (by omega), Ag (x := (BW ((xs.drop 2).take 2) : Int)) (by omega) (by omega), Ag (x := (BW ((xs.drop 4).take 4) : Int)) (by omega) (by omega), ex0]
  have tail : ∀(w5 : World)(q : Nat), Ab No w1 w5 → w1.heap.size ≤ q → A1 w5 q 0 (nV nZ) →
      ∃ w7 : World, Eh (Instr.storeAt 218 (.pointer (some ⟨q, 0, none⟩)) (.agg ⟨nV (NC xs)⟩)) w5 w7 ∧ ∃ q5 : Addr, ∃ w8 : World, Ru (Instr.alloc 64 true (.tuple #[])) w7 (.pointer (some q5)) w8 ∧ A6 (fun k x w9 =>
       ∃ n28 : Int, Ap x 0 = .int .i64 n28 ∧ (bif decide (n28 < 8)then
       ∃(a40 : Option Addr)(l40 c40 : Nat), Al (Instr.sliceAt 88 (.slice (some ⟨bb, oo, none⟩) 64 c) (some (.int .i64 (IntKind.i64.wrap (16 + (IntKind.i64.wrap (n28 * 2)))))) (some (.int .i64 (IntKind.i64.wrap (16 + (IntKind.i64.wrap ((IntKind.i64.wrap (n28 + 1)) * 2)))))) none) (.slice a40 l40 c40) ∧ A8 Tryz.prog Bb #[.slice a40 l40 c40] w9 fun r41 w10 => ∃ n41 : Int, r41 = .int .u64 n41 ∧ ∃ q43 : Addr, Al (Instr.indexAt 64 (.pointer (some q5)) (.int .i64 n28)) (.pointer (some q43)) ∧ ∃ w11 : World, Eh (Instr.storeAt 3 (.pointer (some q43)) (.int .i64 (IntKind.i64.wrap n41))) w10 w11 ∧ k [.int .i64 (IntKind.i64.wrap (n28 + 1))] w11
       else
       ∃(a46 : Option Addr)(l46 c46 : Nat), Al (Instr.sliceAt 216 (.pointer (some (Addr.add ⟨q, 0, none⟩ 4))) none none none) (.slice a46 l46 c46) ∧ ∃(a47 : Option Addr)(l47 c47 : Nat), Al (Instr.sliceAt 64 (.pointer (some q5)) none none none) (.slice a47 l47 c47) ∧ ∃ n48 : Int, ∃ w12 : World, Ru (Builtin.copy_ #[80, 80] 3 #[.slice a46 l46 c46, .slice a47 l47 c47]) (Ah w9) (.int .i64 n48) w12 ∧ ∃ q49 : Addr, Al (Instr.indexAt 64 (.pointer (some q5)) (.int .i64 6)) (.pointer (some q49)) ∧ ∃ n50 : Int, Ru (Instr.loadAt 3 (.pointer (some q49))) w12 (.int .i64 n50) w12 ∧ ∃ q51 : Addr, Al (Instr.indexAt 64 (.pointer (some q5)) (.int .i64 7)) (.pointer (some q51)) ∧ ∃ n52 : Int, Ru (Instr.loadAt 3 (.pointer (some q51))) w12 (.int .i64 n52) w12 ∧ ∃ w13 : World, Eh (Instr.storeAt 3 (.pointer (some (Addr.add ⟨q, 0, none⟩ 10))) (.int .i64 n50)) w12 w13 ∧ ∃ w14 : World, Eh (Instr.storeAt 3 (.pointer (some (Addr.add ⟨q, 0, none⟩ 11))) (.int .i64 n52)) w13 w14 ∧ Ac (fun k_2 => ∃ q56 : Addr, Al (Instr.indexAt 88 (.slice (some ⟨bb, oo, none⟩) 64 c) (.int .i64 1)) (.pointer (some q56)) ∧ ∃ n57 : Int, Ru (Instr.loadAt 5 (.pointer (some q56))) w14 (.int .u8 n57) w14 ∧ (bif n57 != 0 then k_2 [.bool true] w14 else ∃(a61 : Option Addr)(l61 c61 : Nat), Al (Instr.sliceAt 88 (.slice (some ⟨bb, oo, none⟩) 64 c) (some (.int .i64 32)) none none) (.slice a61 l61 c61) ∧ A8 Tryz.prog EE #[.slice a61 l61 c61] w14 fun r62 w15 => ∃ b62 : Bool, r62 = .bool b62 ∧ (bif !b62 then k_2 [.bool true] w15 else ∃ g66 : Array Value, Ru (Instr.loadAt 218 (.pointer (some ⟨q, 0, none⟩))) w15 (.agg g66) w15 ∧ A8 Tryz.prog CQ #[.agg g66] w15 fun r67 w16 => ∃ b67 : Bool, r67 = .bool b67 ∧ k_2 [.bool (!b67)] w16))) fun x_2 w17 =>
       ∃ b69 : Bool, Ap x_2 0 = .bool b69 ∧ (bif b69 then
       ∃ g70 : Array Value, Al (Instr.build 218 #[]) (.agg g70) ∧ ∃ w18 : World, Eh (Instr.storeAt 218 (.pointer (some ⟨w.heap.size, 0, none⟩)) (.agg g70)) w17 w18 ∧ ∃ gR2_2 : Array Value, Ru (Instr.loadAt 218 (.pointer (some ⟨w.heap.size, 0, none⟩))) w18 (.agg gR2_2) w18 ∧ K (.tuple #[.agg gR2_2, .int .i64 8]) w18
       else
       ∃ g71 : Array Value, Ru (Instr.loadAt 218 (.pointer (some ⟨q, 0, none⟩))) w17 (.agg g71) w17 ∧ ∃ w19 : World, Eh (Instr.storeAt 218 (.pointer (some ⟨w.heap.size, 0, none⟩)) (.agg g71)) w17 w19 ∧ ∃ gR2_3 : Array Value, Ru (Instr.loadAt 218 (.pointer (some ⟨w.heap.size, 0, none⟩))) w19 (.agg gR2_3) w19 ∧ K (.tuple #[.agg gR2_3, .int .i64 0]) w19))) [.int .i64 0] w8 := by
    intro w5 q m5 hq hat;obtain⟨w7, c1, c2, c3, c4⟩ := hat.put (T := 218) (vs := nV (NC xs)) AS rfl rfl (Ht _);have m7 : Ab No w1 w7 := m5.own c3 hq;obtain⟨w8, d1, d2, d3, d4⟩ := A9 (P := Tryz.prog) (w := w7) (T := 64) jB;have hqn : ¬ (q = w7.heap.size) := by have := c2.lt;omega
    refine⟨w7, c1, _, w8, d1, ?_⟩;refine⟨fun x w9 => ∃ j : Nat, j ≤ 8 ∧ x = [.int .i64 j] ∧ A1 w9 w7.heap.size 0 (iL (WH xs j)) ∧ Ab No w7 w9, fun x _ => (8 - nI x 0).toNat, ⟨0, by omega, rfl, d2, d3⟩, ?_⟩;rintro x w9 ⟨j, hj, rfl, ha, m9⟩;refine⟨_, rfl, Aa (fun hl => ?_) (fun hl => ?_)⟩
    · have hl := Lc hl
      have e1 : IntKind.i64.wrap (16 + (IntKind.i64.wrap ((j : Int) * 2))) = ((16 + 2 * j : Nat) : Int) := by rw[Ag (x := (j : Int) * 2) (by omega) (by omega), Ag (by omega) (by omega)];omega
      have e2 : IntKind.i64.wrap (16 + (IntKind.i64.wrap ((IntKind.i64.wrap ((j : Int) + 1)) * 2))) = ((18 + 2 * j : Nat) : Int) := by rw[Ag (x := (j : Int) + 1) (by omega) (by omega), Ag (x := ((j : Int) + 1) * 2) (by omega) (by omega), Ag (by omega) (by omega)];omega
      rw[e1, e2];have nj : BW ((xs.drop (16 + 2 * j)).take 2) < 256 ^ 2 := Dv (by omega);refine⟨_, _, _, Be Am (by omega) (by omega) (by omega), ?_⟩;rw[show((16 + 2 * j : Nat) : Int).toNat = 16 + 2 * j by omega];refine zI (i := 16 + 2 * j) (m := 2) hl2 hc (hr1.nos (m7.no m9)) (by omega) (by omega) (by omega) ⟨_, rfl, _, B5 QT (by omega) (by omega), ?_⟩;rw[Ag (x := (BW ((xs.drop (16 + 2 * j)).take 2) : Int)) (by omega) (by omega), Ad, show(j : Int).toNat * 1 = j by omega]
      obtain⟨w11, p1, p2, p3, p4⟩ := ha.store (P := Tryz.prog) (T := 3) (i := j) (v := .int .i64 (Fa xs j)) Aj (by rw[Gh, uD];omega) rfl;rw[uE (by omega)]at p2;rw[Ag (x := (j : Int) + 1) (by omega) (by omega)];exact⟨w11, p1, ⟨j + 1, by omega, by simp, p2, m9.own p3 (Ld _)⟩, by simp[nI, Ap];omega⟩
    have hl := Lb hl;have hj8 : j = 8 := by omega
    subst hj8;have ad4 : Addr.add ⟨q, 0, none⟩ 4 = ⟨q, 4, none⟩ := by rw[Ad]
    have c9 := c2.keep m9 id;have e8 : iL (WH xs 8) = [.int .i64 (Fa xs 0), .int .i64 (Fa xs 1), .int .i64 (Fa xs 2), .int .i64 (Fa xs 3), .int .i64 (Fa xs 4), .int .i64 (Fa xs 5), .int .i64 (Fa xs 6), .int .i64 (Fa xs 7)] := rfl;obtain⟨w12, r1, r2, r3, r4⟩ := H1 (P := Tryz.prog) (T := 80) (T2 := 80) (ty := 3) (i := 4) (n := 6) (c := 6) (n2 := 8) (c2 := 8) (a2 := some ⟨w7.heap.size, 0, none⟩) (src := iL (WH xs 8)) Vm c9.drew (show 4 + 6 * 1 ≤ 12 by decide) (.inr ⟨_, _, rfl, ha.at.drew⟩) rfl (YW _)
    have r2 : A1 w12 q 0 (nV { CS xs with p := [Fa xs 0, Fa xs 1, Fa xs 2, Fa xs 3, Fa xs 4, Fa xs 5, 0, 0] }) := r2;have h12 := ha.drew.keep r3 (fun e => hqn e.symm);obtain⟨w13, s1, s2, s3, s4⟩ := r2.putF (P := Tryz.prog) (T := 3) (j := 10) (v := .int .i64 (Fa xs 6)) Aj (show 10 < 12 by decide) rfl;obtain⟨w14, t1, t2, t3, t4⟩ := s2.putF (P := Tryz.prog) (T := 3) (j := 11) (v := .int .i64 (Fa xs 7)) Aj (show 11 < 12 by decide) rfl
    have t2 : A1 w14 q 0 (nV (CS xs)) := t2;have M14 : Ab No w1 w14 := (((m7.no m9).drew.own r3 hq).own s3 hq).own t3 hq;rw[ad4];refine⟨_, _, _, Ba WU, _, _, _, Ba QT, _, w12, r1, _, B5 QT (by decide) (by decide), _, ?_, _, B5 QT (by decide) (by decide), _, ?_, w13, s1, w14, t1, ?_⟩
    · rw[Ad];exact h12.at.load (i := 6) Aj rfl
    · rw[Ad];exact h12.at.load (i := 7) Aj rfl
    refine Ac.cut (fun z w17 => Ab No w14 w17 ∧ z = [.bool (!decide (xs.getD 1 0 = 0 ∧ (xs.drop 32).all (· == 0) = true ∧ RC (CS xs) = true))]) ⟨_, Ar Am (by omega) (by omega), _, l1 M14, ?_⟩ ?_
    · rw[Di]
      refine Aa (fun h1 => ⟨Ab.refl _ _, ?_⟩) (fun h1 => ⟨_, _, _, F7 Am (by omega) (by omega), ?_⟩)
      · have h1 := Lc h1
        rw[Lf fun e => h1 (by rw[← ex1, e.1];rfl)];rfl
      have h1 : xs.getD 1 0 = 0 := by
        have h1 := Tw.1 (Lb h1);rw[ex1];exact Ly4.1 (by show _ = 0;omega)
      have e32 : (xs.drop 32).take 32 = xs.drop 32 := Lg (by simp;omega);refine kZ (xs := (xs.drop 32).take 32) (by simp;omega) ((hr1.nos M14).cut (by omega) (by omega)) (by omega) ⟨_, rfl, ?_⟩;rw[e32];refine Aa (fun h2 => ⟨Ab.refl _ _, ?_⟩) (fun h2 => ⟨_, t2.at.all AS rfl, V8 (VR xs) fun w16 m16 => ⟨_, rfl, m16, ?_⟩⟩)
      · rw[TW]at h2
        rw[Lf fun e => by rw[e.2.1]at h2;cases h2];rfl
      · rw[Zq]at h2
        cases hn : RC (CS xs)with
        | true => rw[Le (show _ ∧ _ ∧ _ from⟨h1, h2, rfl⟩)]
        | false => rw[Lf fun e => by cases e.2.2]
    rintro z w17 ⟨m17, rfl⟩;refine⟨_, rfl, Aa (fun h => ⟨_, CY, ?_⟩) (fun h => ⟨_, (t2.keep m17 id).at.all AS rfl, ?_⟩)⟩
    · rw[TW]at h
      have h := Lb h;exact fin w17 nZ 8 (M14.no m17) (by unfold Kk;rw[if_neg (by omega), if_neg h])
    · rw[Zq]at h
      have h := Lc h;exact fin w17 (CS xs) 0 (M14.no m17) (by unfold Kk;rw[if_neg (by omega), if_pos h])
  have md : Ab No w1 (Go.Den.Ah w1) := (Ab.refl No w1).drew;obtain⟨w2, e1, e2, e3, e4⟩ := A9 (P := Tryz.prog) (w := Go.Den.Ah w1) (T := 218) DP;have m2 : Ab No w1 w2 := md.no e3;have t2 := tail w2 _ m2 (Ld _) e2;have bN := UZ (IntKind.i64.wrap (xs[0].toNat : Int)) (IntKind.i64.wrap (BW ((xs.drop 2).take 2) : Int)) (IntKind.i64.wrap (BW ((xs.drop 4).take 4) : Int)) (IntKind.i64.wrap (BW ((xs.drop 8).take 8) : Int))
  rw[eN]at bN;have g2 : ∀{w' : World}{Q : Value → World → Prop}, Ab No w1 w' → Q (.int .u64 (BW ((xs.drop 2).take 2) : Int)) w' → A8 Tryz.prog Bb #[.slice (Cb (some ⟨bb, oo, none⟩) c (2 : Int).toNat 1) ((4 : Int).toNat - (2 : Int).toNat) (c - (2 : Int).toNat)] w' Q := fun m hq => zI (i := 2) (m := 2) hl2 hc (hr1.nos m) (by omega) (by omega) rfl hq;have g4 : ∀{w' : World}{Q : Value → World → Prop}, Ab No w1 w' → Q (.int .u64 (BW ((xs.drop 4).take 4) : Int)) w' → A8 Tryz.prog Bb #[.slice (Cb (some ⟨bb, oo, none⟩) c (4 : Int).toNat 1) ((8 : Int).toNat - (4 : Int).toNat) (c - (4 : Int).toNat)] w' Q := fun m hq => zI (i := 4) (m := 4) hl2 hc (hr1.nos m) (by omega) (by omega) rfl hq
  have g8 : ∀{w' : World}{Q : Value → World → Prop}, Ab No w1 w' → Q (.int .u64 (BW ((xs.drop 8).take 8) : Int)) w' → A8 Tryz.prog Bb #[.slice (Cb (some ⟨bb, oo, none⟩) c (8 : Int).toNat 1) ((16 : Int).toNat - (8 : Int).toNat) (c - (8 : Int).toNat)] w' Q := fun m hq => zI (i := 8) (m := 8) hl2 hc (hr1.nos m) (by omega) (by omega) rfl hq;refine⟨_, Ar Am (by omega) (by omega), _, l0 md, _, _, _, Be Am (by omega) (by omega) (by omega), _, _, _, Be Am (by omega) (by omega) (by omega), _, _, _, Be Am (by omega) (by omega) (by omega), ?_⟩
  exact⟨g2 md ⟨_, rfl, l0 md, g4 md ⟨_, rfl, l0 md, g8 md ⟨_, rfl, l0 md, _, bN, _, w2, e1, l0 m2, t2⟩, _, w2, e1, l0 m2, g8 m2 ⟨_, rfl, l0 m2, _, bN, t2⟩⟩, _, w2, e1, l0 m2, g4 m2 ⟨_, rfl, l0 m2, g8 m2 ⟨_, rfl, l0 m2, _, bN, t2⟩⟩⟩, _, w2, e1, l0 m2, g2 m2 ⟨_, rfl, l0 m2, g4 m2 ⟨_, rfl, l0 m2, g8 m2 ⟨_, rfl, l0 m2, _, bN, t2⟩⟩⟩⟩
end
end Go.Z
end
section
open Go Go.Den
namespace Go.Den
abbrev OV:=Int×Value×Nat
def Jt(e:OV):MapEntry:=⟨.int .i64 e.1,e.2.1,e.2.2⟩
def kv(e:OV):Int×Value:=(e.1,e.2.1)
def Fy(k:Int):List OV->Nat->Option (Nat×Value)
 | [],_=>none
 | e::r,i=>if e.1=k then some (i,e.2.1)else Fy k r (i+1)
def OY(k:Int)(v:Value)(b:Nat):List OV->List OV
 | []=>[(k,v,b)]
 | e::r=>if e.1=k then(k,v,e.2.2)::r else e::OY k v b r
def Ay:List (Int×Value)->Int->Option Value
 | [],_=>none
 | p::r,k=>if p.1=k then some p.2 else Ay r k
def Km(k:Int)(v:Value):List (Int×Value)->List (Int×Value)
 | []=>[(k,v)]
 | p::r=>if p.1=k then(k,v)::r else p::Km k v r
theorem PW(k:Int):∀(Es:List OV)(i:Nat),(Fy k Es i).map (·.2)=Ay (Es.map kv) k
 | [],_=>rfl
 | e::r,i=>by
  simp only[Fy,Wu,Ay,kv];by_cases h:e.1=k
  ·rw[if_pos h,if_pos h];rfl
  ·rw[if_neg h,if_neg h];exact PW k r (i+1)
theorem Za(k:Int)(v:Value)(b:Nat):∀ Es:List OV,(OY k v b Es).map kv=Km k v (Es.map kv)
 | []=>rfl
 | e::r=>by
  simp only[OY,Wu,Km,kv];by_cases h:e.1=k
  ·rw[if_pos h,if_pos h];rfl
  ·rw[if_neg h,if_neg h,Wu,Za k v b r];rfl
theorem Xn(q:IntKind)(k:Int):∀(Es:List OV)(i:Nat),Instr.findNow (.int q) (.int .i64 k) (Es.map Jt) i=some (Fy k Es i)
 | [],_=>rfl
 | e::r,i=>by
  simp only[Wu,Instr.findNow,Jt,Instr.sameNow,Fy,qH];by_cases h:e.1=k
  ·have:(k==e.1)=true:=by simp[h]
   rw[if_pos h,this]
  ·have:(k==e.1)=false:=by simp;exact fun e=>h e.symm
   rw[if_neg h,this];exact Xn q k r (i+1)
theorem Rb(k:Int)(v:Value)(b:Nat):∀(Es:List OV)(i j:Nat)(u:Value),Fy k Es i=some (j,u)->i<=j/\(Es.map Jt).modify (j-i) (fun e=>{ e with key:=.int .i64 k,val:=v })=(OY k v b Es).map Jt/\((Es.map Jt)[j-i]?.map (·.key))=some (.int .i64 k)
 | [],i,j,u,h=>by cases h
 | e::r,i,j,u,h=>by
  simp only[Fy]at h;by_cases he:e.1=k
  ·rw[if_pos he]at h;have h:=Ln h;simp only[Lc6]at h;obtain⟨rfl,_⟩:=h;refine⟨Ld _,?_,?_⟩
   ·simp only[OY,if_pos he,Wu,fG,List.modify_zero_cons,Jt]
   ·simp[Jt,he]
  ·rw[if_neg he]at h;obtain⟨h1,h2,h3⟩:=Rb k v b r (i+1) j u h;refine⟨by omega,?_,?_⟩
   ·rw[show j-i=(j-(i+1))+1 by omega];simp only[OY,if_neg he,Wu,List.modify_succ_cons,h2]
   ·rw[show j-i=(j-(i+1))+1 by omega];simpa using h3
theorem Vq(k:Int)(v:Value)(b:Nat):∀(Es:List OV)(i:Nat),Fy k Es i=none->OY k v b Es=Es++[(k,v,b)]/\∀ e∈Es,e.1≠k
 | [],_,_=>⟨rfl,by simp⟩
 | e::r,i,h=>by
  simp only[Fy]at h;by_cases he:e.1=k
  ·rw[if_pos he]at h;cases h
  ·rw[if_neg he]at h;obtain⟨h1,h2⟩:=Vq k v b r (i+1) h;refine⟨by simp only[OY,if_neg he,h1,Ld6],fun x hx=>?_⟩;rcases Lz.1 hx with rfl | hx
   ·exact he
   ·exact h2 x hx
theorem XK(k:Int)(v:Value)(b:Nat):∀(Es:List OV)(i:Nat),Fy k Es i≠none->(OY k v b Es).map (·.2.2)=Es.map (·.2.2)/\(OY k v b Es).map (·.1)=Es.map (·.1)
 | [],_,h=>absurd rfl h
 | e::r,i,h=>by
  simp only[Fy]at h;by_cases he:e.1=k
  ·simp[OY,he]
  ·rw[if_neg he]at h;obtain⟨h1,h2⟩:=XK k v b r (i+1) h;simp[OY,he,h1,h2]
def Bj(w:World)(m:Nat)(L:List (Int×Value)):Prop :=
 ∃(Es:List OV)(clock:Nat),w.heap[m]?=some (.map (Es.map Jt).toArray clock)/\Es.map kv=L/\(Es.map (·.1)).Nodup/\(∀ e∈Es,e.2.2<clock)/\(Es.map (·.2.2)).Nodup
section
variable{P:Program}{w:World}
theorem Bj.lt{m:Nat}{L:List (Int×Value)}(h:Bj w m L):m<w.heap.size:=by obtain⟨_,_,h,_⟩:=h;exact AK h
theorem Bj.keep{m:Nat}{L:List (Int×Value)}{S:Nat->Prop}{w':World}(h:Bj w m L)(hm:Ab S w w')(hs:¬ S m):Bj w' m L:=by
 obtain⟨Es,c,h1,h2⟩:=h;exact⟨Es,c,hm.keep h1 hs,h2⟩
theorem Bj.nodup{m:Nat}{L:List (Int×Value)}(h:Bj w m L):(L.map (·.1)).Nodup:=by
 obtain⟨Es,c,_,rfl,h,_⟩:=h;rw[qJ];exact h
theorem Bj.ne_cells{m b o:Nat}{L:List (Int×Value)}{cs:List Value}(h:Bj w m L)(k:At w b o cs):b≠m:=by
 rintro rfl;obtain⟨Es,c,h,_⟩:=h;obtain⟨l,t,fz,k,_⟩:=k;rw[h]at k;cases k
def RA(P:Program)(T:TypeId):Option Value :=
 match P.underlying T with
 | some (.map k e)=>match P.underlying k with
  | some (.int .i64)=>match P.info? e with | some i=>i.zero | none=>none
  | _=>none
 | _=>none
theorem Og{T:TypeId}{z:Value}(h:RA P T=some z):∃ k e i,P.underlying T=some (.map k e)/\P.underlying k=some (.int .i64)/\P.info? e=some i/\i.zero=some z:=by
 unfold RA at h
 split at h
 ·rename_i k e h1
  split at h
  ·rename_i h2
   split at h
   ·rename_i i h3;exact⟨k,e,i,h1,h2,h3,h⟩
   ·cases h
  ·cases h
 ·cases h
theorem Dw{k:TypeId}{empty:Bool}{n:Int}(hk:P.underlying k=some (.int .i64)):(Instr.checkKey empty 10000 k (.int .i64 n)).run P w=.ok () w:=by
 rw[show(10000:Nat)=9999+1 from rfl,Instr.checkKey];simp[AI hk]
theorem DV{k:TypeId}{n:Int}{Es:List OV}(hk:P.underlying k=some (.int .i64)):(Instr.findKey k (.int .i64 n) (Es.map Jt)).run P w=.ok (Fy n Es 0) w:=by
 simp[Instr.findKey,AI hk,Xn]
theorem Ek{m:Nat}{es:Array MapEntry}{c:Nat}(h:w.heap[m]?=some (.map es c)):(getObj m).run P w=.ok (.map es c) w:=by
 simp[getObj,Sem.run,h]
theorem FR{T:TypeId}{z:Value}{m:Nat}{L:List (Int×Value)}{k:Int}(hT:RA P T=some z)(h:Bj w m L) :
  (Instr.lookup T (.map (some m)) (.int .i64 k) false).run P w=.ok ((Ay L k).getD z) w:=by
 obtain⟨kt,e,i,h1,h2,h3,h4⟩:=Og hT;obtain⟨Es,c,g1,rfl,_⟩:=h;have hl:=PW k Es 0;have hzero:(zeroValue e).run P w=.ok z w:=by simp[zeroValue,typeInfo,h3,h4]
 simp only[Instr.lookup,Sem.run_bind,AI h1,Result.andThen_ok,Ek g1,Sem.run_pure,Dw h2,DV h2];cases hf:Fy k Es 0 with
 | none =>
  rw[hf]at hl;simp only[Option.map_none]at hl;simp[<- hl,hzero]
 | some r =>
  rw[hf]at hl;simp only[La4]at hl;simp[<- hl]
theorem FU{m:Nat}{es:Array MapEntry}{c:Nat}{o':Obj}(h:w.heap[m]?=some (.map es c)):(setObj m o').run P w=.ok () (NA w m o'):=by
 have hlt:=AK h;simp only[setObj,Sem.run];rw[h];rfl
theorem Hw{T:TypeId}{z:Value}{m:Nat}{L:List (Int×Value)}{k:Int}{v:Value}(hT:RA P T=some z)(h:Bj w m L) :
  ∃ w',(Instr.mapUpdate T (.map (some m)) (.int .i64 k) v).run P w=.ok () w'/\Bj w' m (Km k v L)/\Ab (fun x=>x=m) w w'/\w'.heap.size=w.heap.size:=by
 obtain⟨kt,e,i,h1,h2,h3,h4⟩:=Og hT;obtain⟨Es,c,g1,rfl,g3,g4,g5⟩:=h;have hm:∀ o,Ab (fun x=>x=m) w (NA w m o):=fun o=>(Ab.refl (fun x=>x=m) w).put (.inr rfl) _;cases hf:Fy k Es 0 with
 | none =>
  obtain⟨e1,e2⟩:=Vq k v c Es 0 hf;refine⟨NA w m (.map ((OY k v c Es).map Jt).toArray (c+1)),?_,⟨OY k v c Es,c+1,AZ (AK g1),Za k v c Es,?_,?_,?_⟩,hm _,by simp⟩
  ·simp only[Instr.mapUpdate,Sem.run_bind,AI h1,Result.andThen_ok,Ek g1,Dw h2,DV h2,hf];rw[FU g1,e1];simp[Jt]
  ·rw[e1,dT];refine Li4.2 ⟨g3,by simp,?_⟩;intro a ha b hb;simp at hb;subst hb;obtain⟨x,hx,rfl⟩:=Li.1 ha;exact e2 x hx
  ·intro x hx;rw[e1]at hx;rcases Lq.1 hx with hx | hx
   ·have:=g4 x hx;omega
   ·simp at hx;subst hx;simp
  ·rw[e1,dT];refine Li4.2 ⟨g5,by simp,?_⟩;intro a ha b hb;simp at hb;subst hb;obtain⟨x,hx,rfl⟩:=Li.1 ha
   have:=g4 x hx;omega
 | some r =>
  obtain⟨j,u⟩:=r;obtain⟨_,e1,e2⟩:=Rb k v c Es 0 j u hf;rw[Lg6]at e1 e2;obtain⟨b1,b2⟩:=XK k v c Es 0 (by rw[hf];simp);refine⟨NA w m (.map ((OY k v c Es).map Jt).toArray c),?_,⟨OY k v c Es,c,AZ (AK g1),Za k v c Es,by rw[b2];exact g3,?_,by rw[b1];exact g5⟩,hm _,by simp⟩
  ·have hkey:(((Es.map Jt).toArray[j]?).map (·.key)).getD (.int .i64 k)=.int .i64 k:=by
    rw[List.getElem?_toArray,e2];rfl
   have hstay:(Instr.keyThatStays (.int .i64 k) (.int .i64 k)).run P w=.ok (.int .i64 k) w:=by
    have:Instr.sameBits 10000 (.int .i64 k) (.int .i64 k)=true:=by simp[Instr.sameBits]
    simp[Instr.keyThatStays,this]
   simp only[Instr.mapUpdate,Sem.run_bind,AI h1,Result.andThen_ok,Ek g1,Dw h2,DV h2,hf,hkey,hstay];rw[FU g1,<- e1];simp
  ·intro x hx;have hx':x.2.2∈Es.map (·.2.2):=by rw[<- b1];exact Li.2 ⟨x,hx,rfl⟩
   obtain⟨y,hy,hye⟩:=Li.1 hx';rw[<- hye];exact g4 y hy
theorem nK{T ty:TypeId}{z:Value}{m:Nat}{L:List (Int×Value)}(hT:RA P T=some z)(h:Bj w m L) :
  ∃ w',(Builtin.clear_ #[T] ty #[.map (some m)]).run P w=.ok (.tuple #[]) w'/\Bj w' m []/\Ab (fun x=>x=m) w w'/\w'.heap.size=w.heap.size:=by
 obtain⟨kt,e,i,h1,h2,h3,h4⟩:=Og hT;obtain⟨Es,c,g1,rfl,g3,g4,g5⟩:=h;refine⟨NA w m (.map #[] c),?_,⟨[],c,AZ (AK g1),rfl,by simp,by simp,by simp⟩,(Ab.refl (fun x=>x=m) w).put (.inr rfl) _,by simp⟩;simp[Builtin.clear_,AI h1,Ek g1,FU g1]
theorem Gi{T:TypeId}:(Instr.makeMap T none).run P w=.ok (.map (some w.heap.size)) (w.alloc (.map #[] 0)):=rfl
theorem Bj.new:Bj (w.alloc (.map #[] 0)) w.heap.size []:=⟨[],0,BC w _,rfl,by simp,by simp,by simp⟩
end
end Go.Den
end
section
open Go Go.Den Go.Proofs
namespace Go.Z
def SR(zs:List Int):List Int:=zs.mergeSort fun x y=>decide (x<=y)
theorem AcX{base l c:Nat}{a:Option Addr}{zs:List Int}{w:World}{K:Value->World->Prop}(h:Ow Tryz.prog w base 80 1 a l c (iL zs))
  (hk:∀ w',Ow Tryz.prog w' base 80 1 a l c (iL (SR zs))->Ab (fun x=>base<=x) w w'->K (.tuple #[]) w') (hl62:zs.length<4611686018427387904) :
  A8 Tryz.prog JP #[.slice a l c] w K:=by
 refine⟨⟨_,Tryz.func242,by kernel_rfl,by kernel_rfl⟩,?_⟩;have hlen:zs.length=l:=by have:=h.len;simpa using this
 obtain⟨e,he,h1,h2⟩:=h;rcases h2 with ⟨hv,hz⟩|⟨g,cap,GT,hv,hb,hg,hle,hm,hsz,ht⟩
 ·subst hz;simp at hv;obtain⟨rfl,rfl⟩:=hv;have hzs:zs=[]:=fE hlen;subst hzs;refine(Tryz.slices_Sort_int_none none 0 w).mono fun e' w' he'=>?_;obtain⟨rfl,rfl⟩:=he';exact hk w' ⟨e,he,by simp[SR,iL],.inl ⟨rfl,rfl⟩⟩ (Ab.refl _ _)
 ·simp at hv;obtain⟨rfl,rfl⟩:=hv;subst hlen;have hmap:iL zs=zs.map (Value.int .i64):=rfl;rw[qI,hmap]at ht;have hH:=holds_of_blockI hg ht;refine(Tryz.slices_Sort_int g 0 c zs w hH (AK hg) hl62).mono fun e' w' he'=>?_;obtain⟨rfl,n,os,rfl⟩:=he';refine hk _ ⟨e,he,?_⟩ ((Ab.grown (grownBy_sortedI _)).mono fun x _ e=>by cases e;exact hb);exact ownsRow_sortedI (ts:=SR zs) (by simp[SR]) hb hg hle hm hsz
end Go.Z
end
section
open Go Go.Den Go.Proofs
namespace Go.Den
abbrev Bk:=List UInt8
structure St where
 vs:List (List Bk)
 left:Int
structure WF(D:St):Prop where
 ver:∀ v∈D.vs,v≠[]/\∀ x∈v,x.length=256
 lo:1<=D.vs.length
 hi:D.vs.length<=4096
 l0:-1<=D.left
 l1:D.left<=9223372036854775807
def hd(v:List Bk):Bk:=v.headD []
def BU(v:List Bk):Bk:=v.getLastD []
theorem Rd:∀(xs:List Bk),(∀ x∈xs,x.length=256)->xs.flatten.length=xs.length*256
 | [],_=>rfl
 | x::r,h=>by
  rw[mN,Ls,h x (by simp),Rd r (fun y hy=>h y (by simp[hy])),mO];omega
theorem Vt:∀(xs:List Bk),(∀ x∈xs,x.length=256)->∀(i:Nat)(x:Bk),xs[i]?=some x->(xs.flatten.drop (i*256)).take 256=x
 | [],_,i,x,h=>by simp at h
 | y::r,hx,i,x,h=>by
  have hy:=hx y (by simp);cases i with
  | zero =>
   simp at h;subst h;rw[Lq6,Uq,mN,Lv (by omega),Lg (by omega)]
  | succ i =>
   have h':r[i]?=some x:=by simpa using h
   rw[mN,WD,Lt (by omega),QN,show(i+1)*256-y.length=i*256 by omega];exact Vt r (fun z hz=>hx z (by simp[hz])) i x h'
theorem aX:∀(xs:List Bk),(∀ x∈xs,x.length=256)->∀(i:Nat)(y:Bk),i<xs.length->y.length=256->xs.flatten.take (i*256)++y++xs.flatten.drop (i*256+256)=(xs.set i y).flatten
 | [],_,i,y,h,_=>by simp at h
 | x::r,hx,i,y,h,hy=>by
  have hxl:=hx x (by simp);cases i with
  | zero =>
   simp only[List.set_cons_zero,mN,Lq6,xE,QN,Pj];rw[WD,Lt (by omega),QN,hxl];simp
  | succ i =>
   have ih:=aX r (fun z hz=>hx z (by simp[hz])) i y (by simpa using h) hy;simp only[List.set_cons_succ,mN];rw[<- ih,Lf6,Lg (by omega),WD,Lt (by omega),hxl];rw[show(i+1)*256-256=i*256 by omega,show(i+1)*256+256-256=i*256+256 by omega];simp
def Yy(w:World)(R:Nat->Prop)(b sb:Nat)(L:List (Int×Value))(i:Nat)(v:List Bk):Prop :=
 (v.tail=[]/\Ay L i=none)\/(v.tail≠[]/\∃ vb c,Ay L i=some (.slice (some ⟨vb,0,none⟩) v.tail.length c)/\v.tail.length<=c/\At w vb 0 (Au v.tail.flatten)/\R vb/\vb≠b/\vb≠sb)
structure AF(w:World)(R:Nat->Prop)(b sb mb sc:Nat)(L:List (Int×Value))(D:St):Prop where
 cell:A1 w b 0 [.slice (some ⟨sb,0,none⟩) D.vs.length sc,.map (some mb),.int .i64 D.left]
 cap:D.vs.length<=sc
 safe:A1 w sb 0 (Au (D.vs.map hd).flatten)
 map:Bj w mb L
 rb:R b
 rs:R sb
 rm:R mb
 ne:b≠sb
 opn:∀ i v,D.vs[i]?=some v->Yy w R b sb L i v
 keys:∀ p∈L,∃ i:Nat,p.1=i/\i<D.vs.length
 wf:WF D
 lt:∀ x,R x->x<w.heap.size
section
variable{w:World}{R:Nat->Prop}{b sb mb sc:Nat}{L:List (Int×Value)}{D:St}
theorem Yy.keep{S:Nat->Prop}{w':World}{i:Nat}{v:List Bk}(h:Yy w R b sb L i v)(m:Ab S w w')(hs:∀ x,R x->S x->x=b\/x=sb):Yy w' R b sb L i v:=by
 rcases h with h|⟨h1,vb,c,h2,h3,h4,h5,h6,h7⟩
 ·exact .inl h
 ·exact .inr ⟨h1,vb,c,h2,h3,h4.keep m (fun e=>by rcases hs vb h5 e with e | e;exact h6 e;exact h7 e),h5,h6,h7⟩
theorem AF.keep{S:Nat->Prop}{w':World}(h:AF w R b sb mb sc L D)(m:Ab S w w')(hs:∀ x,R x->¬ S x):AF w' R b sb mb sc L D where
 cell:=h.cell.keep m (hs _ h.rb)
 cap:=h.cap
 safe:=h.safe.keep m (hs _ h.rs)
 map:=h.map.keep m (hs _ h.rm)
 rb:=h.rb
 rs:=h.rs
 rm:=h.rm
 ne:=h.ne
 opn:=fun i v hv=>(h.opn i v hv).keep m fun x hx e=>absurd e (hs x hx)
 keys:=h.keys
 wf:=h.wf
 lt:=fun x hx=>jJ (h.lt x hx) m.size
theorem AF.nos{w':World}(h:AF w R b sb mb sc L D)(m:Ab No w w'):AF w' R b sb mb sc L D:=h.keep m fun _ _=>id
theorem AF.drew(h:AF w R b sb mb sc L D):AF (Ah w) R b sb mb sc L D:=h.nos (Ab.refl No w).drew
theorem AF.nbm(h:AF w R b sb mb sc L D):b≠mb:=h.map.ne_cells h.cell.at
theorem AF.nsm(h:AF w R b sb mb sc L D):sb≠mb:=h.map.ne_cells h.safe.at
theorem WF.hd{D:St}(h:WF D):∀ x∈D.vs.map hd,x.length=256:=by
 intro x hx;obtain⟨v,hv,rfl⟩:=Li.1 hx;obtain⟨h1,h2⟩:=h.ver v hv;cases v with
 | nil=>exact absurd rfl h1
 | cons a r=>exact h2 a (by simp)
theorem WF.tl{D:St}(h:WF D){i:Nat}{v:List Bk}(hv:D.vs[i]?=some v):∀ x∈v.tail,x.length=256:=fun x hx=>(h.ver v (Ly hv)).2 x (List.mem_of_mem_tail hx)
theorem WF.lastLen{D:St}(h:WF D){i:Nat}{v:List Bk}(hv:D.vs[i]?=some v):(BU v).length=256:=by
 obtain⟨h1,h2⟩:=h.ver v (Ly hv);refine h2 _ ?_;unfold BU;rw[Lj4,List.getLast?_eq_some_getLast h1];exact List.getLast_mem h1
theorem oO{v:List Bk}(h:v.tail≠[]):v.tail[v.tail.length-1]?=some (BU v):=by
 cases v with
 | nil=>exact absurd rfl h
 | cons a r =>
  simp only[List.tail_cons]at h |-;rw[<- List.getLast?_eq_getElem?];unfold BU;rw[Lj4,List.getLast?_cons];cases r with
  | nil=>exact absurd rfl h
  | cons b r=>simp[List.getLast?_cons]
theorem bO{v:List Bk}(h:v.tail=[]):BU v=hd v:=by
 cases v with
 | nil=>rfl
 | cons a r=>simp only[List.tail_cons]at h;subst h;rfl
end
end Go.Den
namespace Go.Z
section
variable{w:World}{R:Nat->Prop}{b sb mb sc:Nat}{L:List (Int×Value)}{D:St}{K:Value->World->Prop}
theorem Uy:RA Tryz.prog 207=some (.slice none 0 0):=by kernel_rfl
theorem X7{w:World}{m:Nat}{L:List (Int×Value)}{k:Int}(h:Bj w m L)(hl:Ay L k=none):Ru (Instr.lookup 207 (.map (some m)) (.int .i64 k) false) w (.slice none 0 0) w:=by
 have:=FR (P:=Tryz.prog) Uy h (k:=k)
 rwa [hl]at this
theorem X9{w:World}{m:Nat}{L:List (Int×Value)}{k:Int}{v:Value}(h:Bj w m L)(hl:Ay L k=some v):Ru (Instr.lookup 207 (.map (some m)) (.int .i64 k) false) w v w:=by
 have:=FR (P:=Tryz.prog) Uy h (k:=k)
 rwa [hl]at this
theorem LW:D5 Tryz.prog 206 256 (.int .u8 0) 256:=by unfold D5;kernel_rfl
theorem Nr(w:World):(Instr.alloc 278 true (.tuple #[])).run Tryz.prog w=.ok (.pointer (some ⟨w.heap.size,0,none⟩)) (w.alloc (.cells ⟨Au (List.replicate 256 0)⟩ 278)):=by kernel_rfl
theorem Hi:Ei Tryz.prog 278=some 256:=by kernel_rfl
theorem TI(q:Addr):Al (Instr.sliceAt 278 (.pointer (some q)) none none none) (.slice (some q) 256 256):=fun _=>by kernel_rfl
theorem _root_.Go.Den.AF.ld(h:AF w R b sb mb sc L D):Ru (Instr.loadAt 3 (.pointer (some (Addr.add ⟨b,0,none⟩ 2)))) w (.int .i64 D.left) w:=by
 rw[Ad];exact h.cell.at.load (by kernel_rfl) rfl
theorem _root_.Go.Den.AF.lm(h:AF w R b sb mb sc L D):Ru (Instr.loadAt 207 (.pointer (some (Addr.add ⟨b,0,none⟩ 1)))) w (.map (some mb)) w:=by
 rw[Ad];exact h.cell.at.load (by kernel_rfl) rfl
theorem _root_.Go.Den.AF.ls(h:AF w R b sb mb sc L D):Ru (Instr.loadAt 206 (.pointer (some (Addr.add ⟨b,0,none⟩ 0)))) w (.slice (some ⟨sb,0,none⟩) D.vs.length sc) w:=by
 rw[Ad];exact h.cell.at.load (by kernel_rfl) rfl
def AD(D:St)(n:Int):Int:=if n<0\/D.vs.length<=n then 3 else 0
theorem tW(h:AF w R b sb mb sc L D){n:Int}(hk:K (.int .i64 (AD D n)) w):A8 Tryz.prog F1 #[.pointer (some ⟨b,0,none⟩),.int .i64 n] w K:=by
 apply TN;unfold Mr;refine ff rfl (Ac.cut (fun x w'=>x=[.bool (decide (n<0\/D.vs.length<=n))]/\w'=w) (Aa (fun hb=>?_) (fun hb=>?_)) ?_)
 ·have:=Lc hb
  exact⟨by simp[this],rfl⟩
 ·have:=Lb hb
  exact⟨_,rfl,_,_,_,h.ls,by simp[this],rfl⟩
 ·rintro x w' ⟨rfl,rfl⟩;refine⟨_,rfl,Aa (fun hb=>?_) (fun hb=>?_)⟩
  ·have:=Lc hb
   rw[AD,if_pos this]at hk;exact hk
  ·have:=Lb hb
   rw[AD,if_neg this]at hk;exact hk
theorem sU(h : AF w R b sb mb sc L D)(h0 : D.left = 0 → K (.bool false) w)
    (h1 : D.left ≠ 0 → ∀ w', AF w' R b sb mb sc L { D with left := if -1 > D.left - 1 then -1 else D.left - 1 } → Ab (fun x => x = b) w w' → K (.bool true) w') : A8 Tryz.prog EP #[.pointer (some ⟨b, 0, none⟩)] w K := by
  apply Sd;unfold Kz;refine⟨_, rfl, _, h.ld, Aa (fun hb => ?_) (fun hb => ?_)⟩
  · exact h0 (by simpa using hb)
  have hne : D.left ≠ 0 := by simpa using hb
  have hl0 := h.wf.l0;have hl1 := h.wf.l1;obtain⟨w', s1, s2, s3, s4⟩ := h.cell.store (P := Tryz.prog) (T := 3) (i := 2) (v := .int .i64 (if -1 > D.left - 1 then -1 else D.left - 1)) (by kernel_rfl) (by simp) rfl;refine⟨_, rfl, _, h.ld, _, rfl, w', ?_, ?_⟩
  · rw[Ag (x := D.left - 1) (by omega) (by omega), Ad];exact s1
  refine h1 hne w' ?_ s3
  exact { cell := by simpa using s2, cap := h.cap, safe := h.safe.keep s3 h.ne.symm, map := h.map.keep s3 h.nbm.symm, rb := h.rb, rs := h.rs, rm := h.rm, ne := h.ne,
          opn := fun i v hv => (h.opn i v hv).keep s3 fun x _ e => .inl e, keys := h.keys,
          wf := { ver := h.wf.ver, lo := h.wf.lo, hi := h.wf.hi, l0 := by show -1 ≤ ite _ _ _;split<;>omega, l1 := by show ite _ _ _ ≤ _;split<;>omega },
          lt := fun x hx => jJ (h.lt x hx) s3.size }
theorem SG{a:Addr}{n c:Nat}{i:Nat}(hi:i<n)(w:World):(Instr.indexAt 206 (.slice (some a) n c) (.int .i64 i)).run Tryz.prog w=.ok (.pointer (some (a.add (i*256)))) w:=by
 have:=Ar (P:=Tryz.prog) (T:=206) (k:=256) (a:=a) (n:=n) (c:=c) (kk:=.i64) (i:=i) (by kernel_rfl) (by omega) (by omega) w
 rwa [Lr]at this
theorem VE{b:Nat}{xs:List Bk}(h:At w b 0 (Au xs.flatten))(hx:∀ x∈xs,x.length=256){i:Nat}{x:Bk}(hi:xs[i]?=some x):Ru (Instr.loadAt 278 (.pointer (some (Addr.add ⟨b,0,none⟩ (i*256))))) w (.agg ⟨Au x⟩) w:=by
 have hlt:i<xs.length:=(Lh.1 hi).1;have hl:=Rd xs hx
 have:=h.loadAgg (P:=Tryz.prog) (i:=i*256) Hi (by rw[Ak,hl];(have:(i+1)*256<=xs.length*256:=mI _ hlt);omega)
 rw[Ad];rw[lV,Vt xs hx i x hi]at this;exact this
theorem gO(h:AF w R b sb mb sc L D){i:Nat}{v:List Bk}(hv:D.vs[i]?=some v)(hlen:v.length<=1000000)(hk:∀ w',Ab No w w'->K (.agg ⟨Au (BU v)⟩) w'):A8 Tryz.prog EQ #[.pointer (some ⟨b,0,none⟩),.int .i64 i] w K:=by
 apply Se;unfold K0;refine⟨_,_,Nr w,_,rfl,some mb,?_⟩;have m1:Ab No w (w.alloc (.cells ⟨Au (List.replicate 256 0)⟩ 278)):=(Ab.refl No w).alloc _;have h':=h.nos m1;refine⟨h'.lm,?_⟩;have hll:=h.wf.lastLen hv;have fin:K (.agg ⟨Au (BU v)⟩) (w.alloc (.cells ⟨Au (BU v)⟩ 278)):=hk _ ((Ab.refl No w).alloc _);have st:∃ w2,Eh (Instr.storeAt 278 (.pointer (some ⟨w.heap.size,0,none⟩)) (.agg ⟨Au (BU v)⟩)) (w.alloc (.cells ⟨Au (List.replicate 256 0)⟩ 278)) w2 /\
   ∃ g:Array Value,Ru (Instr.loadAt 278 (.pointer (some ⟨w.heap.size,0,none⟩))) w2 (.agg g) w2/\K (.agg g) w2 :=
  ⟨_,Ot Hi (by rw[Ak,TV]) (by simp[hll]) (BF _),_,tS Hi (by simp[hll]),fin⟩
 rcases h'.opn i v hv with ⟨ht,hl⟩|⟨ht,vb,c,hl,hc,hat,_⟩
 ·refine⟨_,_,_,X7 h'.map hl,ff (by simp) ⟨_,rfl,_,_,_,h'.ls,_,fun _=>SG (Lh.1 hv).1 _,⟨Au (BU v)⟩,?_,st⟩⟩;rw[bO ht];exact VE h'.safe.at h.wf.hd (by rw[jK,hv];rfl)
 ·refine⟨_,_,_,X9 h'.map hl,?_⟩;have hpos:0<v.tail.length:=Lr4.2 ht;have htl:v.tail.length<=v.length:=by simp
  refine tt (Le (by omega)) ?_;rw[Ag (x:=(v.tail.length:Int)-1) (by omega) (by omega),show(v.tail.length:Int)-1=((v.tail.length-1:Nat):Int) by omega];refine⟨_,fun _=>SG (by omega) _,_,VE hat (h.wf.tl hv) (oO ht),st⟩
end
end Go.Z
end
section
open Go Go.Den
namespace Go.Den
section
variable{P:Program}{w:World}
theorem bZ{r mb since c0:Nat}{ty:TypeId}{seen:Array Nat}{es:Array MapEntry}{clock:Nat}(hr:w.heap[r]?=some (.mapIter (some mb) since seen c0))(hb:w.heap[mb]?=some (.map es clock))
  (hold:∀ x∈es.toList,x.born<since) (hsc:since<=c0) :
  ((leftOf es seen).size=0/\(Instr.next (.pointer (some ⟨r,0,none⟩)) false ty).run P w=.ok (.tuple #[.bool false]) w) \/
  ∃ e∈(leftOf es seen).toList,∃ w',(Instr.next (.pointer (some ⟨r,0,none⟩)) false ty).run P w=.ok (.tuple #[.bool true,e.key,e.val]) w'/\w'.heap[r]?=some (.mapIter (some mb) since (seen.push e.born) clock) /\
   Ab (fun x=>x=r) w w'/\w'.heap.size=w.heap.size:=by
 simp only[Instr.next,getObj,Sem.run_bind,Sem.run,hr,hb,Result.andThen,next_test_false seen es since c0 hold hsc,dX,WA];unfold leftOf;have hmem:∀ x∈(Array.filter (fun e=>!seen.contains e.born) es).toList,x.born<since:=fun x hx=>hold x (by simp at hx |-;exact hx.1);generalize Array.filter (fun e=>!seen.contains e.born) es=L at hmem |-;have e1:L.filter (fun x=>decide (x.born<since))=L:=Array.filter_eq_self.2 (fun x hx=>by simpa using hmem x (by simpa using hx))
 have e2:L.filter (fun x=>decide (x.born >= since))=#[]:=by
  rw[Array.filter_eq_empty_iff];intro x hx
  have:=hmem x (by simpa using hx)
  simp;omega
 simp only[e1,e2,Array.append_empty];by_cases h0:L.size=0
 ·left;have:L=#[]:=Array.eq_empty_of_size_eq_zero h0;subst this;refine⟨rfl,?_⟩;simp[choose,Sem.run,Question.forced]
 ·right;have hne:L.isEmpty=false:=by simp[Array.isEmpty,h0]
  simp only[hne,dX,WA,Array.empty_append,Array.size_map];have hch:∃(j:Nat)(w1:World),j<L.size/\w1.heap=w.heap/\Ab (fun x=>x=r) w w1/\(choose (Question.mapNext L.size)).run P w=.ok j w1:=by
   by_cases hf:L.size<=1
   ·exact⟨0,w,by omega,rfl,Ab.refl _ _,by simp[choose,Sem.run,Question.forced,hf]⟩
   ·exact⟨_,Ah w,mJ _ (by omega),rfl,(Ab.refl _ _).drew,by
     simp only[choose,Sem.run,Question.forced,Lw,hf,WA,Question.cut]
     rfl⟩
  obtain⟨j,w1,hj,hh,hm,hrun⟩:=hch;have hr1:w1.heap[r]?=some (.mapIter (some mb) since seen c0):=by rw[hh];exact hr
  refine⟨L[j],by simp,NA w1 r (.mapIter (some mb) since (seen.push L[j].born) clock),?_,AZ (AK hr1),?_,by simp[hh]⟩
  ·simp only[hrun,Array.getElem?_map,Array.getElem?_eq_getElem hj,La4,Sem.run_bind,setObj,Sem.run,hr1,Result.andThen];rfl
  ·exact hm.trans ((Ab.refl (fun x=>x=r) w1).put (.inr rfl) _) fun _ _ h=>h
theorem Xk{r mb since:Nat}{seen:Array Nat}{es:Array MapEntry}{clock:Nat}{e:MapEntry}(hr:w.heap[r]?=some (.mapIter (some mb) since (seen.push e.born) clock))(hb:w.heap[mb]?=some (.map es clock))
  (he:e∈es.toList) (hn:(es.toList.map (·.born)).Nodup):(Instr.entry (.pointer (some ⟨r,0,none⟩))).run P w=.ok (.tuple #[e.key,e.val]) w:=by
 have hf:es.find? (·.born==e.born)=some e:=by rw[<- Array.find?_toList];exact find_born e es.toList hn he
 simp only[Instr.entry,getObj,Sem.run_bind,Sem.run,hr,hb,Result.andThen,Array.back?_push,bne_self_eq_false,dX,WA,hf];rfl
theorem XM{T k e:TypeId}{mb:Nat}{es:Array MapEntry}{clock:Nat}(ht:P.underlying T=some (.map k e))(hb:w.heap[mb]?=some (.map es clock)) :
  (Instr.range T (.map (some mb))).run P w=.ok (.pointer (some ⟨w.heap.size,0,none⟩)) (w.alloc (.mapIter (some mb) clock #[] clock)):=run_range_map w T k e mb es clock ht hb
theorem TC{r:Nat}{a:Option Nat}{b c:Nat}{s:Array Nat}(h:w.heap[r]?=some (.mapIter a b s c)):w.iterSeen r=s:=by
 unfold World.iterSeen;rw[h]
structure Ki(w:World)(r mb:Nat)(Es:List OV)(clock:Nat)(vis:List OV):Prop where
 map:w.heap[mb]?=some (.map (Es.map Jt).toArray clock)
 iter:w.heap[r]?=some (.mapIter (some mb) clock (vis.map (·.2.2)).toArray clock)
 sub:∀ e∈vis,e∈Es
 nodup:(vis.map (·.2.2)).Nodup
 born:∀ e∈Es,e.2.2<clock
 all:(Es.map (·.2.2)).Nodup
def Mo(mb r:Nat)(w:World):Nat:=match w.heap[mb]? with | some (.map es _)=>(leftOf es (w.iterSeen r)).size | _=>0
theorem Ki.keep{S:Nat->Prop}{r mb clock:Nat}{Es vis:List OV}{w':World}(h:Ki w r mb Es clock vis)(m:Ab S w w')(h1:¬ S r)(h2:¬ S mb):Ki w' r mb Es clock vis :=
 ⟨m.keep h.map h2,m.keep h.iter h1,h.sub,h.nodup,h.born,h.all⟩
theorem Ki.togo{r mb clock:Nat}{Es vis:List OV}(h:Ki w r mb Es clock vis):Mo mb r w=(leftOf (Es.map Jt).toArray (vis.map (·.2.2)).toArray).size:=by
 unfold Go.Den.Mo;rw[h.map,TC h.iter]
theorem GG{α β:Type}{f:α->β}:∀{l:List α},(l.map f).Nodup->l.Nodup
 | [],_=>Lk6
 | x::r,h=>by
  rw[Wu,mP]at h;exact mP.2 ⟨fun hx=>h.1 (Li.2 ⟨x,hx,rfl⟩),GG h.2⟩
theorem jQ{Es:List OV}(hn:(Es.map (·.2.2)).Nodup):∀{x e:OV},x∈Es->e∈Es->x.2.2=e.2.2->x=e:=by
 induction Es with
 | nil=>intro x e hx;cases hx
 | cons y r ih =>
  rw[Wu,mP]at hn;intro x e hx he h;rcases Lz.1 hx with rfl | hx
  ·rcases Lz.1 he with rfl|he
   ·rfl
   ·exact absurd (Li.2 ⟨e,he,h.symm⟩) hn.1
  ·rcases Lz.1 he with he|he
   ·exact absurd (Li.2 ⟨x,hx,by rw[h,he]⟩) hn.1
   ·exact ih hn.2 hx he h
theorem Ki.next{r mb clock:Nat}{ty:TypeId}{Es vis:List OV}(h:Ki w r mb Es clock vis) :
  (vis.Perm Es/\(Instr.next (.pointer (some ⟨r,0,none⟩)) false ty).run P w=.ok (.tuple #[.bool false]) w) \/
  ∃ e∈Es,∃ w',(Instr.next (.pointer (some ⟨r,0,none⟩)) false ty).run P w=.ok (.tuple #[.bool true,.int .i64 e.1,e.2.1]) w'/\(Instr.entry (.pointer (some ⟨r,0,none⟩))).run P w'=.ok (.tuple #[.int .i64 e.1,e.2.1]) w' /\
   Ki w' r mb Es clock (vis++[e])/\e ∉ vis/\Ab (fun x=>x=r) w w'/\Go.Den.Mo mb r w'<Go.Den.Mo mb r w:=by
 have hborn:∀ x∈((Es.map Jt).toArray).toList,x.born<clock:=by
  intro x hx;simp only[Li]at hx;obtain⟨e,he,rfl⟩:=hx;exact h.born e he
 have hnd:(((Es.map Jt).toArray).toList.map (·.born)).Nodup:=by
  have:=h.all
  rw[qJ];exact this
 rcases bZ (P:=P) (ty:=ty) h.iter h.map hborn (Ld _)with ⟨h0,hrun⟩|⟨e,he,w',hrun,hit,hm,hsz⟩
 ·refine .inl ⟨?_,hrun⟩;refine(List.perm_ext_iff_of_nodup (GG h.nodup) (GG h.all)).2 fun a=>⟨h.sub a,fun ha=>?_⟩
  have:=all_seen _ _ h0 (Jt a) (by simp only[Li];exact⟨a,ha,rfl⟩)
  have hb:a.2.2∈vis.map (·.2.2):=by simpa [Jt] using this
  obtain⟨v,hv,hve⟩:=Li.1 hb;rw[<- jQ h.all (h.sub v hv) ha hve];exact hv
 ·right;obtain⟨hin,hns⟩:=mem_left he;simp only[Li]at hin;obtain⟨x,hx,rfl⟩:=hin;have hnx:x.2.2 ∉ vis.map (·.2.2):=by
   intro hc;have:(vis.map (·.2.2)).toArray.contains (Jt x).born=true:=by simpa [Jt] using hc
   rw[this]at hns;cases hns
  have hne:mb≠r:=by
   rintro rfl;have h1:=h.map;rw[h.iter]at h1;cases h1
  have hmap':=hm.keep h.map hne;have hR:Ki w' r mb Es clock (vis++[x]):=by
   refine⟨hmap',?_,?_,?_,h.born,h.all⟩
   ·rw[hit];simp[Jt]
   ·intro e he;rcases Lq.1 he with he | he
    ·exact h.sub e he
    ·simp at he;subst he;exact hx
   ·rw[dT];refine Li4.2 ⟨h.nodup,by simp,?_⟩;intro a ha b hb;simp at hb;subst hb;exact fun e=>hnx (e ▸ ha)
  refine⟨x,hx,w',hrun,?_,hR,fun hc=>hnx (Li.2 ⟨x,hc,rfl⟩),hm,?_⟩
  ·exact Xk (e:=Jt x) hit hmap' (by simp only[Li];exact⟨x,hx,rfl⟩) hnd
  ·rw[hR.togo,h.togo]
   have:=left_shrinks _ _ _ he
   simpa [Jt] using this
end
end Go.Den
end
section
open Go Go.Den Go.Proofs
namespace Go.Den
theorem Jp:∀{L:List (Int×Value)} {k:Int} {v:Value},Ay L k=some v->(k,v)∈L
 | p::r,k,v,h=>by
  simp only[Ay]at h;by_cases hp:p.1=k
  ·rw[if_pos hp]at h
   have:=Ln h
   subst hp;subst this;simp
  ·rw[if_neg hp]at h;exact dV _ (Jp h)
theorem VF:∀{L:List (Int×Value)} {k:Int},Ay L k=none->∀ p∈L,p.1≠k
 | p::r,k,h,q,hq=>by
  simp only[Ay]at h;by_cases hp:p.1=k
  ·rw[if_pos hp]at h;cases h
  ·rw[if_neg hp]at h;rcases Lz.1 hq with rfl | hq
   ·exact hp
   ·exact VF h q hq
def N3(D:St)(i:Nat):Bool:=!((D.vs[i]?.getD []).tail.isEmpty)
def DL(D:St):List Nat:=(List.range D.vs.length).filter (N3 D)
def GJ(D:St):List Int:=(DL D).map fun i:Nat=>(i:Int)
theorem YX(D:St):List.Pairwise (fun a b:Int=>a<=b) (GJ D):=by
 unfold GJ;rw[List.pairwise_map];refine Lx5 ?_ ((Lc5 (n:=D.vs.length)).filter (N3 D));intro a b h;omega
theorem cF(D:St):(GJ D).Nodup:=by
 unfold GJ;rw[List.Nodup,List.pairwise_map];refine Lx5 ?_ ((Lc5 (n:=D.vs.length)).filter (N3 D));intro a b h;omega
theorem X2{w:World}{R:Nat->Prop}{b sb mb sc:Nat}{L:List (Int×Value)}{D:St}(h:AF w R b sb mb sc L D)(k:Int):k∈L.map (·.1)↔k∈GJ D:=by
 constructor
 ·intro hk;obtain⟨p,hp,rfl⟩:=Li.1 hk;obtain⟨i,hi,hlt⟩:=h.keys p hp;have hv:D.vs[i]?=some (D.vs[i]):=by simp[hlt]
  rcases h.opn i _ hv with ⟨_,hl⟩|⟨ht,_⟩
  ·exact absurd hi (VF hl p hp)
  ·unfold GJ DL;refine Li.2 ⟨i,QM.2 ⟨Ty.2 hlt,?_⟩,hi.symm⟩;unfold N3;rw[hv];simpa [Ln3] using ht
 ·intro hk;unfold GJ DL at hk;obtain⟨i,hi,rfl⟩:=Li.1 hk;obtain⟨hr,ho⟩:=QM.1 hi;have hlt:=Ty.1 hr;have hv:D.vs[i]?=some (D.vs[i]):=by simp[hlt]
  unfold N3 at ho;rw[hv]at ho;rcases h.opn i _ hv with ⟨ht,_⟩ | ⟨_,vb,c,hl,_⟩
  ·simp[ht]at ho
  ·exact Li.2 ⟨_,Jp hl,rfl⟩
end Go.Den
namespace Go.Z
section
variable{w:World}{R:Nat->Prop}{b sb mb sc:Nat}{L:List (Int×Value)}{D:St}{K:Value->World->Prop}
theorem cV{zs:List Int}(hn:zs.Nodup)(hm:∀ k,k∈zs↔k∈GJ D):SR zs=GJ D:=by
 have hp:zs.Perm (GJ D):=(List.perm_ext_iff_of_nodup hn (cF D)).2 hm;refine List.Perm.eq_of_pairwise (le:=fun a b:Int=>a<=b) (fun a b _ _ h1 h2=>by omega) ?_ (YX D) ((List.mergeSort_perm _ _).trans hp)
 have:=List.pairwise_mergeSort (le:=fun x y:Int=>decide (x<=y)) (fun a b c h1 h2=>by simp only[Lw]at *;omega) (fun a b=>by simp only[Ls3,Lw];omega) zs
 refine Lx5 ?_ this;intro a b h;exact Lc h
theorem AcV(h:AF w R b sb mb sc L D)(hk:∀ w' a l c,Ab No w w'->Ow Tryz.prog w' w.heap.size 80 1 a l c (iL (GJ D))->K (.slice a l c) w'):A8 Tryz.prog GY #[.pointer (some ⟨b,0,none⟩)] w K:=by
 apply Sc;unfold Ky;obtain⟨Es,clock,g1,g2,g3,g4,g5⟩:=h.map;have hu:Tryz.prog.underlying 207=some (.map 3 206):=by kernel_rfl
 refine ff rfl ⟨_,rfl,some mb,h.lm,_,_,XM hu g1,?_⟩;have m1:Ab No w (w.alloc (.mapIter (some mb) clock #[] clock)):=(Ab.refl No w).alloc _;have hmb:=AK g1;have hlenE:Es.length<=4096:=by
  have hsub:(L.map (·.1)).length<=(GJ D).length:=Lu3 h.map.nodup fun k hk=>(X2 h k).1 hk;have h1:(GJ D).length<=D.vs.length:=by
   unfold GJ DL;rw[jL];exact Up (Lg2 _ _) (by simp)
  have:=h.wf.hi
  rw[<- g2]at hsub;simp at hsub;omega
 refine⟨fun x w2=>∃ vis a l c,x=[.slice a l c]/\Ow Tryz.prog w2 (w.heap.size+1) 80 1 a l c (iL (vis.map (·.1)))/\Ki w2 w.heap.size mb Es clock vis/\Ab No w w2/\w.heap.size+1<=w2.heap.size,
  fun _ w2=>Mo mb w.heap.size w2,⟨[],none,0,0,rfl,Ow.nil Hn,⟨m1.keep g1 id,BC w _,by simp,by simp,g4,g5⟩,m1,by simp⟩,?_⟩
 rintro x w2 ⟨vis,a,l,c,rfl,how,hR,hm,hsz⟩;have hvl:vis.length<=Es.length:=by
  have:=Lu3 (GG hR.nodup) (fun e he=>hR.sub e he);exact this
 have hl:l=vis.length:=by have:=how.len;simpa using this.symm
 rcases hR.next (P:=Tryz.prog) (ty:=0)with ⟨hp,hrun⟩|⟨e,he,w3,hrun,hent,hR3,hnin,hm3,hlt⟩
 ·refine⟨_,_,hrun,false,fun _=>rfl,ff rfl ⟨_,_,_,rfl,AcX how (fun w4 o4 m4=>⟨rfl,?_⟩) (by rw[jL];omega)⟩⟩;have hs:SR (vis.map (·.1))=GJ D:=by
   refine cV ?_ fun k=>?_
   ·exact(hp.map (·.1)).nodup_iff.2 g3
   ·rw[(hp.map (·.1)).mem_iff,<- X2 h k,<- g2,qJ];rfl
  rw[hs]at o4;exact hk w4 a l c (hm.up m4 (by omega)) (o4.mono (by omega))
 ·refine⟨_,w3,hrun,true,fun _=>rfl,tt rfl ⟨_,hent,_,fun _=>rfl,_,_,_,rfl,_,_,_,_,Vb _ _,?_⟩⟩;have how3:=how.keep hm3 (fun q hq e=>by have:=(how.base hq).1;omega);obtain⟨a4,c4,w4,h4,o4,m4⟩:=how3.snoc (ty:=80) (t:=3) (ys:=[.int .i64 e.1]) Hn (by omega) rfl (by simp;rfl) (by omega) (by omega) (by have:=hm3.size;omega);have hmb':mb<w.heap.size+1:=by omega
  have hR4:=hR3.keep m4 (by omega) (by omega);refine⟨_,_,_,w4,h4,⟨vis++[e],a4,_,c4,rfl,?_,hR4,(hm.trans hm3 fun x hx e=>by omega).trans m4 fun x hx e=>by omega,by have:=hm3.size;have:=m4.size;omega⟩,?_⟩
  ·rw[dT];simpa [iL,I] using o4
  ·have e1:Mo mb w.heap.size w4=Mo mb w.heap.size w3:=by rw[hR4.togo,hR3.togo]
   show Mo mb w.heap.size w4<Mo mb w.heap.size w2;rw[e1];exact hlt
def Iz(D:St)(n:Int):List Bk:=if n<0 then []else D.vs[n.toNat]?.getD []
def QK(w0 w:World)(a:Option Addr)(xs:List UInt8):Prop:=(a=none/\xs=[])\/∃ q,a=some ⟨q,0,none⟩/\w0.heap.size<=q/\A1 w q 0 (Au xs)
theorem QK.row{w0 w:World}{a:Option Addr}{xs:List UInt8}(h:QK w0 w a xs):Bl w a (Au xs):=by
 rcases h with ⟨_,rfl⟩|⟨q,rfl,_,h⟩
 ·exact .inl rfl
 ·exact .inr ⟨q,0,rfl,h.at⟩
theorem QK.nos{w0 w w':World}{a:Option Addr}{xs:List UInt8}(h:QK w0 w a xs)(m:Ab No w w'):QK w0 w' a xs:=by
 rcases h with h|⟨q,rfl,hq,h⟩
 ·exact .inl h
 ·exact .inr ⟨q,rfl,hq,h.keep m id⟩
theorem Ew(n:Int):(AD D n=3/\(n<0\/D.vs.length<=n))\/(AD D n=0/\∃ i v,n=(i:Nat)/\D.vs[i]?=some v/\Iz D n=v):=by
 unfold AD Iz;by_cases h:n<0\/D.vs.length<=n
 ·rw[if_pos h];exact .inl ⟨rfl,h⟩
 ·rw[if_neg h,if_neg (by omega)];refine .inr ⟨rfl,n.toNat,D.vs[n.toNat]'(by omega),by omega,by simp,?_⟩;have:n.toNat<D.vs.length:=by omega
  simp[this]
def HU(D:St)(n:Int):List UInt8:=if AD D n=0 then BU (Iz D n)else []
def Fd(D:St):Prop:=∀ v∈D.vs,v.length<=1000000
theorem qW(h:AF w R b sb mb sc L D)(hs:Fd D){n:Int}(hk:∀ w' a c,Ab No w w'->QK w w' a (HU D n)->K (.tuple #[.slice a (HU D n).length c,.int .i64 (AD D n)]) w'):A8 Tryz.prog Cs #[.pointer (some ⟨b,0,none⟩),.int .i64 n] w K:=by
 apply Kr;unfold GX;refine tW h ⟨_,rfl,?_⟩;rcases Ew (D:=D) n with ⟨he,_⟩ | ⟨he,i,v,rfl,hv,hver⟩
 ·have hb:HU D n=[]:=by unfold HU;rw[if_neg (by omega)]
  refine tt (by rw[he];rfl) ?_
  have:=hk w none 0 (Ab.refl _ _) (.inl ⟨rfl,hb⟩)
  rw[hb]at this;exact this
 ·have hb:HU D i=BU v:=by unfold HU;rw[if_pos he,hver]
  have hll:=h.wf.lastLen hv;refine ff (by rw[he];rfl) (gO h hv (hs v (Ly hv)) fun w2 m2=>⟨_,rfl,_,_,Nr w2,_,Ot Hi (by rw[Ak,TV]) (by simp[hll]) (BF _),_,_,_,TI _,?_⟩)
  have:=hk (w2.alloc (.cells ⟨Au (BU v)⟩ 278)) (some ⟨w2.heap.size,0,none⟩) 256 (m2.alloc _) (.inr ⟨w2.heap.size,rfl,m2.size,by rw[hb];exact A1.new⟩)
  rw[hb,hll,he]at this;exact this
theorem ZI(h:AF w R b sb mb sc L D)(hk:K (.int .i64 D.vs.length) w):A8 Tryz.prog Ck #[.pointer (some ⟨b,0,none⟩)] w K:=by
 apply TM;unfold Mq;exact ff rfl ⟨_,rfl,_,_,_,h.ls,hk⟩
theorem jA{n:Int}(h:n<0\/D.vs.length<=n):Iz D n=[]:=by
 unfold Iz;split
 ·rfl
 ·rw[xR (by omega)];rfl
end
end Go.Z
end
section
open Go Go.Den Go.Proofs
namespace Go.Den
section
variable{P:Program}{w:World}
theorem lT{T:TypeId}{k n c:Nat}{a:Option Addr}(hT:Ge P T=some k)(h2:n<=c)(w:World) :
  (Instr.sliceAt T (.slice a n c) none (some (.int .i64 n)) (some (.int .i64 n))).run P w=.ok (.slice (Cb a n 0 k) n n) w:=by
 obtain⟨e,inf,he,hi,hk⟩:=JW hT;have hb1:=fun code=>Fx (P:=P) (kk:=.i64) (i:=n) (y:=c) (code:=code) (by omega) (by omega) w;have hb2:=fun code=>Fx (P:=P) (kk:=.i64) (i:=n) (y:=n) (code:=code) (by omega) (by omega) w;simp only[Instr.sliceAt,Sem.run_bind,AI he,Result.andThen_ok,Instr.slice,Instr.sliceBounds,Sem.run_pure,qH,hb1,hb2,Lr,Cf hi,hk];unfold Cb
 split<;>rfl
theorem Ep:∀(L:List (Int×Value)) (k:Int) (v:Value) (k':Int),Ay (Km k v L) k'=if k=k' then some v else Ay L k'
 | [],k,v,k'=>by simp[Km,Ay]
 | p::r,k,v,k'=>by
  simp only[Km];by_cases hp:p.1=k
  ·rw[if_pos hp];simp only[Ay];by_cases hk:k=k'
   ·rw[if_pos hk,if_pos hk]
   ·rw[if_neg hk,if_neg hk,if_neg (by omega)]
  ·rw[if_neg hp];simp only[Ay];by_cases hp':p.1=k'
   ·rw[if_pos hp',if_neg (by omega),if_pos hp']
   ·rw[if_neg hp',if_neg hp',Ep r k v k']
theorem RJ{L:List (Int×Value)}{k:Int}{v:Value}:∀ p∈Km k v L,p.1=k\/p∈L:=by
 induction L with
 | nil=>intro p hp;simp[Km]at hp;exact .inl (by rw[hp])
 | cons q r ih =>
  intro p hp;simp only[Km]at hp;by_cases hq:q.1=k
  ·rw[if_pos hq]at hp;rcases Lz.1 hp with rfl | hp
   ·exact .inl rfl
   ·exact .inr (dV _ hp)
  ·rw[if_neg hq]at hp;rcases Lz.1 hp with rfl | hp
   ·exact .inr (by simp)
   ·rcases ih p hp with h|h
    ·exact .inl h
    ·exact .inr (dV _ h)
end
def Dk:Bk:=List.replicate 256 0
def Bp(n:Nat):St:=⟨List.replicate n [Dk],-1⟩
theorem WF.new{n:Nat}(h0:1<=n)(h1:n<=4096):WF (Bp n) where
 ver:=by
  intro v hv
  have:=List.eq_of_mem_replicate hv
  subst this;exact⟨by simp,by intro x hx;simp at hx;subst hx;exact TV⟩
 lo:=by simp[Bp];exact h0
 hi:=by simp[Bp];exact h1
 l0:=by simp[Bp]
 l1:=by simp[Bp]
theorem aW:∀ n:Nat,(List.replicate n Dk).flatten=List.replicate (n*256) 0
 | 0=>by simp
 | n+1=>by
  rw[List.replicate_succ,mN,aW n,Dk,List.replicate_append_replicate]
  congr 1;omega
def BJ(R:Nat->Prop)(w w':World):Nat->Prop:=fun x=>R x\/(w.heap.size<=x/\x<w'.heap.size)
def Ut(l:Int):Int:=if -1 > l-1 then -1 else l-1
end Go.Den
namespace Go.Z
section
variable{w:World}{R:Nat->Prop}{b sb mb sc:Nat}{L:List (Int×Value)}{D:St}{K:Value->World->Prop}
theorem fR(w:World)(a:Option Addr)(l c:Nat)(m:Option Nat):(Instr.build 209 #[(0,.slice a l c),(1,.map m),(2,.int .i64 (-1))]).run Tryz.prog w=.ok (.agg ⟨[.slice a l c,.map m,.int .i64 (-1)]⟩) w:=by kernel_rfl
theorem AfO{n : Int}(h0 : -9223372036854775808 ≤ n)(h1 : n ≤ 9223372036854775807)(hbad : n < 1 ∨ 4096 < n → K (.tuple #[.pointer none, .int .i64 1]) w)
    (hok : ∀ k : Nat, n = k → 1 ≤ k → k ≤ 4096 → ∀ w' b sb mb, Ab No w w' → AF w' (fun x => w.heap.size ≤ x ∧ x < w'.heap.size) b sb mb k [] (Bp k) → K (.tuple #[.pointer (some ⟨b, 0, none⟩), .int .i64 0]) w') :
    A8 Tryz.prog PP #[.int .i64 n] w K := by
  apply eO;unfold UF;refine Ac.or ⟨_, rfl, Aa (fun hb => ?_) (fun hb => ?_)⟩
  · exact hbad (by simpa using hb)
  have hn : ¬ (n < 1 ∨ 4096 < n) := by simpa using hb
  obtain⟨k, rfl⟩ := Wq (show 0 ≤ n by omega);obtain⟨w1, hm1, hat1, hmod1, hsz1⟩ := D3 (P := Tryz.prog) (w := w) (n := k) LW (by omega) (by omega) (by omega);refine⟨_, _, _, w1, hm1, _, _, Gi, _, fun w => fR w _ _ _ _, _, _, I6, ?_⟩;have m2 : Ab No w1 (w1.alloc (.map #[] 0)) := (Ab.refl No w1).alloc _;have m3 : Ab No (w1.alloc (.map #[] 0)) ((w1.alloc (.map #[] 0)).alloc (.cells ⟨[.slice (some ⟨w.heap.size, 0, none⟩) k k, .map (some w1.heap.size), .int .i64 (-1)]⟩ 209)) := (Ab.refl No _).alloc _
  have hz : List.replicate (k * 256) (Value.int .u8 0) = Au ((Bp k).vs.map hd).flatten := by
    have : (Bp k).vs.map hd = List.replicate k Dk := by simp[Bp, hd]
    rw[this, aW];simp[Au, u8]
  rw[hz]at hat1;refine hok k rfl (by omega) (by omega) _ _ w.heap.size w1.heap.size ((hmod1.no m2).no m3) ?_;have hs2 : (w1.alloc (.map #[] 0)).heap.size = w.heap.size + 2 := by simp[hsz1]
  have hs3 : ((w1.alloc (.map #[] 0)).alloc (.cells (Value.agg ⟨[.slice (some ⟨w.heap.size, 0, none⟩) k k, .map (some w1.heap.size), .int .i64 (-1)]⟩).cells 209)).heap.size = w.heap.size + 3 := by simp[hsz1]
  exact { cell := by
            have : (Bp k).vs.length = k := by simp[Bp]
            rw[this];exact A1.new
          cap := by simp[Bp]
          safe := (hat1.keep m2 id).keep m3 id
          map := Bj.new.keep m3 id
          rb := by rw[hs3];omega
          rs := by rw[hs3];omega
          rm := by rw[hs3];omega
          ne := by omega
          opn := fun i v hv => .inl ⟨by
            have := List.eq_of_mem_replicate (Ly hv)
            subst this;rfl, rfl⟩
          keys := by simp
          wf := WF.new (by omega) (by omega)
          lt := fun x hx => hx.2 }
def kB(xs:List UInt8):Bk:=(List.range 256).map fun i=>xs.getD (i % xs.length) 0
@[simp] theorem zT (xs:List UInt8):(kB xs).length=256:=by simp[kB]
end
end Go.Z
end
