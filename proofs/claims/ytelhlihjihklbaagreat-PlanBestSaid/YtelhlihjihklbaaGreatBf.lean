/- Parts of the proof, in order: what the statement leans on. -/
import Derived.Test.YtelhlihjihklbaaGreatBe
section
open Go Go.Den Go.Proofs
namespace Go.Proofs.YtelhlihjihklbaaGreat
abbrev Ab:=Int×Int×Bool
def abV (x:Ab):List Value:=[.int .i64 x.1,.int .i64 x.2.1,.bool x.2.2]
def rowB (L:List Ab):List Value:=(L.map abV).flatten
theorem abV_len (x:Ab):(abV x).length=3:=rfl
def abAt (L:List Ab) (i:Nat):Ab:=L.getD i (0,0,false)
def stepAb (A:Az) (x:Ab):Az:=if 0<=x.1/\x.1<=3 then (blockA A x.2.1).1 else if x.1=4\/x.1=5 then settleA (giveA A x.2.1 0).1 else if x.1=6 then (freezeA A x.2.1 x.2.2).1 else A
def openTo (A:Az) (acts:List Ab):Nat->Az
 | 0=>A
 | i+1=>stepAb (openTo A acts i) (abAt acts i)
def openA (g:Gm) (acts:List Ab) (k:Nat):Az:=openTo (aE g (hsE g) k) acts (min acts.length 80)
theorem blockA_s (A:Az) (b:Int):(blockA A b).1.s=A.s/\(blockA A b).1.V.last<=A.V.last+1/\(blockA A b).1.W=A.W/\(blockA A b).1.fz=A.fz:=by
 unfold blockA
 split
 ·exact ⟨rfl,setHV_last _ _ _ _,rfl,rfl⟩
 ·exact ⟨rfl,by simp only; omega,rfl,rfl⟩
theorem freezeA_s (A:Az) (k:Int) (on:Bool):(freezeA A k on).1.s=A.s/\(freezeA A k on).1.V=A.V/\(freezeA A k on).1.W=A.W:=by
 unfold freezeA
 split <;> exact ⟨rfl,rfl,rfl⟩
theorem giveA_W {A:Az} (h:A.W=[]) (b:Int):((giveA A b 0).1=A/\(giveA A b 0).2≠0)\/((giveA A b 0).1=wrkA A [(0,1,b)]/\(giveA A b 0).2=0/\(spB A.s.geo b).2.2=true/\takenA A b=true):=by
 unfold giveA laterA
 by_cases h1:(spB A.s.geo b).2.2=false
 ·rw [if_pos h1]; exact .inl ⟨rfl,by show (3:Int)≠0; decide⟩
 rw [if_neg h1,h]
 by_cases h2:takenA A b=true
 ·rw [h2]
  exact .inr ⟨rfl,rfl,by simpa using h1,rfl⟩
 ·have h2:takenA A b=false:=by simpa using h2
  rw [h2]; exact .inl ⟨rfl,by show (6:Int)≠0; decide⟩
theorem settle_give {A:Az} (h:A.W=[]) (b:Int):(settleA (giveA A b 0).1=A/\¬ ((spB A.s.geo b).2.2=true/\takenA A b=true))\/(settleA (giveA A b 0).1=actA (wrkA A []) (1,b)/\(spB A.s.geo b).2.2=true/\takenA A b=true):=by
 rcases giveA_W h b with ⟨e1,e2⟩ | ⟨e1,_,e3,e4⟩
 ·refine .inl ⟨?_,fun e=>e2 ?_⟩
  ·rw [e1]
   unfold settleA ripeA
   rw [h]
   show wrkA A []=A
   rw [<- h]; rfl
  ·unfold giveA laterA
   rw [if_neg (by rw [e.1]; decide),h,e.2]; rfl
 ·refine .inr ⟨?_,e3,e4⟩
  rw [e1]; rfl
theorem settle_s {A:Az} (h:A.W=[]) (b:Int):(settleA (giveA A b 0).1).s=A.s/\(settleA (giveA A b 0).1).V.last<=A.V.last+1/\(settleA (giveA A b 0).1).W=[]/\(settleA (giveA A b 0).1).fz=A.fz:=by
 rcases settle_give h b with ⟨e,_⟩ | ⟨e,_⟩
 ·rw [e]; exact ⟨rfl,by omega,h,rfl⟩
 ·rw [e]
  obtain ⟨h1,h2,h3,h4⟩:=actA_s (wrkA A []) (1,b)
  exact ⟨h1,h2,h3,h4⟩
theorem stepAb_s {A:Az} (h:A.W=[]) (x:Ab):(stepAb A x).s=A.s/\(stepAb A x).V.last<=A.V.last+1/\(stepAb A x).W=[]:=by
 unfold stepAb
 split
 ·obtain ⟨h1,h2,h3,_⟩:=blockA_s A x.2.1
  exact ⟨h1,h2,h3.trans h⟩
 split
 ·obtain ⟨h1,h2,h3,_⟩:=settle_s h x.2.1
  exact ⟨h1,h2,h3⟩
 split
 ·obtain ⟨h1,h2,h3⟩:=freezeA_s A x.2.1 x.2.2
  exact ⟨h1,by rw [h2]; omega,h3.trans h⟩
 ·exact ⟨rfl,by omega,h⟩
theorem openTo_s {A:Az} (h:A.W=[]) (acts:List Ab):∀ i,(openTo A acts i).s=A.s/\(openTo A acts i).V.last<=A.V.last+i/\(openTo A acts i).W=[]
 | 0=>⟨rfl,Nat.le_refl _,h⟩
 | i+1=>by
  obtain ⟨h1,h2,h3⟩:=openTo_s h acts i
  obtain ⟨k1,k2,k3⟩:=stepAb_s h3 (abAt acts i)
  exact ⟨k1.trans h1,by show (stepAb (openTo A acts i) (abAt acts i)).V.last<=_; omega,k3⟩
theorem elemN_abs:elemN Tryz.prog 41=some 3:=by kernel_rfl
section
variable {w w':World} {R R':Nat->Prop} {a v d:Nat} {A:Az} {K:Value->World->Prop}
theorem abRow {a1:Option Addr} {l1 c1 i:Nat} {acts:List Ab} (hr:Row w a1 (rowB acts)) (hl:acts.length=l1) (hi:i<l1) (h63:i<=1000):∃ q o,Al (Instr.indexAt 41 (.slice a1 l1 c1) (.int .i64 i)) (.pointer (some ⟨q,o,none⟩)) /\
  ∀ w',Mod No w w'->Ru (Instr.loadAt 3 (.pointer (some (Addr.add ⟨q,o,none⟩ 0)))) w' (.int .i64 (abAt acts i).1) w'/\Ru (Instr.loadAt 3 (.pointer (some (Addr.add ⟨q,o,none⟩ 1)))) w' (.int .i64 (abAt acts i).2.1) w'/\Ru (Instr.loadAt 4 (.pointer (some (Addr.add ⟨q,o,none⟩ 2)))) w' (.bool (abAt acts i).2.2) w':=by
 have hx:acts[i]?=some (abAt acts i):=by unfold abAt; rw [List.getD_eq_getElem?_getD,List.getElem?_eq_getElem (by omega)]; rfl
 have hlen:(rowB acts).length=acts.length*3:=flat_len' abV_len acts
 rcases hr with hr | ⟨b,o,rfl,hat⟩
 ·rw [hr] at hlen
  have hlen:0=acts.length*3:=hlen
  omega
 refine ⟨b,o+i*3,fun w'=>?_,fun w' m=>?_⟩
 ·have:=index_slice (P:=Tryz.prog) (T:=41) (k:=3) (a:=⟨b,o,none⟩) (n:=l1) (c:=c1) (kk:=.i64) (i:=i) elemN_abs (by omega) (by omega) w'
  rw [add_none,show o+(i:Int).toNat*3=o+i*3 by omega] at this
  exact this
 ·have hk:=hat.keep m id
  refine ⟨?_,?_,?_⟩
  ·rw [add_none,Nat.add_assoc]; exact hk.load (P:=Tryz.prog) (T:=3) (i:=i*3+0) sc_int (flat_cell abV_len hx rfl)
  ·rw [add_none,Nat.add_assoc]; exact hk.load (P:=Tryz.prog) (T:=3) (i:=i*3+1) sc_int (flat_cell abV_len hx rfl)
  ·rw [add_none,Nat.add_assoc]; exact hk.load (P:=Tryz.prog) (T:=4) (i:=i*3+2) sc_bl (flat_cell abV_len hx rfl)
set_option maxRecDepth 8000 in
set_option maxHeartbeats 1000000 in
theorem open31_c {g:Gm} {a1:Option Addr} {l1 c1:Nat} {acts:List Ab} (hr:Row w a1 (rowB acts)) (hl:acts.length=l1) (h63:∀ x∈acts,x.2.1<=9223372036854775807)
  (hk:∀ w' R a v d k,Mod No w w'->Ao R w' a v d (openA g acts k)->(∀ z,R z->w.heap.size<=z)->K (.pointer (some ⟨a,0,none⟩)) w') :
  Cal Tryz.prog F_leveelaw31_open #[.agg ⟨gV g⟩,.slice a1 l1 c1] w K:=by
 apply C_leveelaw31_open
 unfold D_leveelaw31_open
 obtain ⟨w1,b1,b2,b3,b4⟩:=box_u (P:=Tryz.prog) (w:=w) (T:=40) (cs:=gV g)
 obtain ⟨hok,h200⟩:=gE_ok g
 obtain ⟨hsz,h18⟩:=gE_sz g
 refine ⟨_,w1,b1,Share.cut (fun z w4=>Mod No w1 w4/\z=[.bool (decide (¬ (gOk g=true/\gSize g<=200)))]) ⟨_,b2.at.all agg_geo rfl,rgRight_c fun w2 m2=>⟨_,rfl,cond_of (fun h=>⟨m2,?_⟩) (fun h=>⟨_,(b2.keep m2 id).at.all agg_geo rfl,rgSize_c fun w3 m3=>⟨_,rfl,m2.no m3,?_⟩⟩)⟩⟩ ?_⟩
 ·rw [decide_eq_true (show ¬ (gOk g=true/\gSize g<=200) from fun e=>by rw [e.1] at h; cases h)]
 ·have h:gOk g=true:=by simpa using h
  congr 2
  exact decide_eq_decide.2 ⟨fun e x=>by omega,fun e=>by
   have:¬ gSize g<=200:=fun x=>e ⟨h,x⟩
   omega⟩
 rintro z w4 ⟨m4,rfl⟩
 refine ⟨_,rfl,Share.cut (fun z w6=>Mod No w w6/\AtU w6 w.heap.size 0 (gV (gE g))) ?_ ?_⟩
 ·refine cond_of (fun h=>⟨_,build_g16,?_⟩) (fun h=>?_)
  ·have h:=of_decide_eq_true h
   have e:gE g=gKn:=by unfold gE; rw [if_neg h]
   obtain ⟨w5,c1,c2,c3,c4⟩:=(b2.keep m4 id).put (T:=40) (vs:=gV gKn) agg_geo rfl rfl (one_gV _)
   rw [e]
   exact ⟨w5,c1,(b3.no m4).own c3 (Nat.le_refl _),c2⟩
  ·have h:=Classical.not_not.1 (of_decide_eq_false h)
   have e:gE g=g:=by unfold gE; rw [if_pos h]
   rw [e]
   exact ⟨b3.no m4,b2.keep m4 id⟩
 rintro z w6 ⟨m6,q6⟩
 refine ⟨_,q6.at.all agg_geo rfl,rgSize_c fun w7 m7=>⟨_,rfl,?_⟩⟩
 have hz6:=m6.size
 have hz7:=m7.size
 have hql:=q6.lt
 refine New_c (by omega) (by omega) (fun h=>by omega) fun k hk' _ _ w8 d sb mb m8 hD=>⟨_,_,rfl,_,((q6.keep m7 id).keep m8 id).at.all agg_geo rfl,?_⟩
 have hkn:(gSize (gE g)).toNat=k:=by omega
 have hz8:=m8.size
 have q8:=(q6.keep m7 id).keep m8 id
 have hfE:fmtE (newSt k) (gE g)=0:=by
  unfold fmtE
  rw [if_neg (by rw [hok]; decide),if_neg (by simp [newSt]; omega)]
 have eD:dE g=fmtSt (newSt k) (gE g):=by unfold dE; rw [hkn]
 have hlen:(dE g).vs.length=k:=by rw [eD,fmtSt_len]; simp [newSt]
 have hrun:(dE g).left=-1:=by rw [eD]; exact fmtSt_run rfl _
 have hbnd:Bnd (dE g) 1:=by rw [eD]; exact fmtSt_bnd rfl _
 refine vFormat_c (g:=gE g) hD rfl (bndN k) (fun h=>absurd hfE h) fun _ wa Na w11 ma Xa=>⟨_,rfl,?_⟩
 rw [<- eD] at Xa
 have hza:=ma.size
 have hXs:=Xa.mod.size
 obtain ⟨Ra,sba,mba,sca,La,a1',a2',a3',a4'⟩:=Xa
 have hRa:∀ x,Ra x->w7.heap.size<=x/\x<w11.heap.size:=fun x hx=>by
  have:=(a2' x hx).2
  rcases (a2' x hx).1 with e | e
  ·have e:w7.heap.size<=x/\x<w8.heap.size:=e
   omega
  ·omega
 have M8:Mod No w w8:=(m6.no m7).no m8
 have M11:Mod No w w11:=(M8.no ma).trans a3' fun x hx e=>by have e:w7.heap.size<=x/\x<w8.heap.size:=e; omega
 have hsm:Small (dE g):=BndS hbnd (by omega)
 have hdR:=a1'.rb
 have hm:=mnt_E g
 refine vMount_c (w0:=w) a1' hsm (fun x hx=>⟨by have:=hRa x hx; omega,a1'.lt x hx⟩) M11 hrun (fun h=>absurd (by rw [hm]) h) fun _ w13 N13 v X13=>⟨_,_,rfl,?_⟩
 rw [hm] at X13
 have X13:Vg w11 Ra N13 w13 v d ⟨1,gE g⟩ (dE g) (nE g):=X13
 have hz13:=X13.mod.size
 have M13:Mod No w w13:=M11.trans X13.mod fun x hx e=>by have:=hRa x e; omega
 refine ff rfl ?_
 obtain ⟨Rv,kc,hV,hlo⟩:=X13.vu
 refine aNew_c hV (hds_E g kc) fun w16 R16 a m16 s16 h16 ha=>⟨_,rfl,?_⟩
 have hlo16:∀ z,R16 z->w.heap.size<=z:=fun z hz=>by
  have hda:=hRa d hdR
  rcases s16 z hz with e | e
  ·rcases hlo z e with e | e | e
   ·have:=hRa z e; omega
   ·omega
   ·omega
  ·omega
 have M16:=M13.no m16
 have h16:Ao R16 w16 a v d (openTo (aE g (hsE g) kc) acts 0):=h16
 refine ⟨fun x W=>∃ (i:Nat) (y1 y2 y3:Value) (R':Nat->Prop),x=[.int .i64 i,y1,y2,y3]/\i<=min acts.length 80/\Ao R' W a v d (openTo (aE g (hsE g) kc) acts i)/\(∀ z,R' z->w.heap.size<=z)/\Mod No w W,fun x _=>(80-nI x 0).toNat,
  ⟨0,_,_,_,R16,rfl,Nat.zero_le _,h16,hlo16,M16⟩,?_⟩
 rintro x W ⟨i,y1,y2,y3,R',rfl,hi,h1,lo1,m1⟩
 refine Share.cut (fun z w13=>w13=W/\z=[.bool (decide (i<min acts.length 80))]) ⟨_,rfl,cond_of (fun hb=>⟨rfl,?_⟩) (fun hb=>⟨rfl,?_⟩)⟩ ?_
 ·have hb:=of_decide_eq_true hb
  congr 2
  exact decide_eq_decide.2 ⟨fun e=>by omega,fun e=>by omega⟩
 ·have hb:=of_decide_eq_false hb
  rw [decide_eq_false (show ¬ i<min acts.length 80 by omega)]
 rintro z w13 ⟨rfl,rfl⟩
 refine ⟨_,rfl,cond_of (fun hlt=>?_) (fun hlt=>?_)⟩
 ·have hlt:=of_decide_eq_true hlt
  obtain ⟨q,o,ix,ld⟩:=abRow (i:=i) (c1:=c1) hr hl (by omega) (by omega)
  have hin:abAt acts i∈acts:=by
   have:acts[i]?=some (abAt acts i):=by unfold abAt; rw [List.getD_eq_getElem?_getD,List.getElem?_eq_getElem (by omega)]; rfl
   exact List.mem_of_getElem? this
  have hb63:=h63 _ hin
  obtain ⟨s1,s2,s3⟩:=openTo_s (A:=aE g (hsE g) kc) rfl acts i
  have s2:(openTo (aE g (hsE g) kc) acts i).V.last<=0+i:=s2
  have eT:openTo (aE g (hsE g) kc) acts (i+1)=stepAb (openTo (aE g (hsE g) kc) acts i) (abAt acts i):=rfl
  generalize abAt acts i=y at *
  generalize openTo (aE g (hsE g) kc) acts i=A1 at *
  refine ⟨_,rfl,_,ix,_,(ld _ m1).1,Share.cut (fun z w16=>w16=w13/\z=[.bool (decide (0<=y.1/\y.1<=3))]) ?_ ?_⟩
  ·refine cond_of (fun e=>⟨rfl,?_⟩) (fun e=>Share.cut (fun z w16=>w16=w13/\z=[.bool (decide (0<=y.1/\y.1<=3))]) (cond_of (fun e2=>⟨rfl,?_⟩) (fun e2=>Share.cut (fun z w16=>w16=w13/\z=[.bool (decide (0<=y.1/\y.1<=3))]) (cond_of (fun e3=>⟨rfl,?_⟩) (fun e3=>⟨rfl,?_⟩)) ?_)) ?_)
   ·have e':y.1=0:=by simpa using e
    rw [e,decide_eq_true (show 0<=y.1/\y.1<=3 by omega)]
   ·have e':y.1=1:=by simpa using e2
    rw [e2,decide_eq_true (show 0<=y.1/\y.1<=3 by omega)]
   ·have e':y.1=2:=by simpa using e3
    rw [e3,decide_eq_true (show 0<=y.1/\y.1<=3 by omega)]
   ·have e:¬ y.1=0:=by simpa using e
    have e2:¬ y.1=1:=by simpa using e2
    have e3:¬ y.1=2:=by simpa using e3
    congr 2
    rw [Bool.eq_iff_iff,beq_iff_eq,decide_eq_true_iff]; omega
   ·rintro z w16 ⟨rfl,rfl⟩; exact ⟨rfl,rfl⟩
   ·rintro z w16 ⟨rfl,rfl⟩; exact ⟨rfl,rfl⟩
  rintro z w16 ⟨rfl,rfl⟩
  have base:∀ {w17:World} {R17:Nat->Prop},Mod R' w16 w17->Sb R' R17 w16->(∀ z,R17 z->w.heap.size<=z)/\Mod No w w17:=fun m s=>⟨fun z hz=>by
   rcases s z hz with e | e
   ·exact lo1 z e
   ·have:=m1.size; omega,m1.trans m fun x hx e=>by have:=lo1 x e; omega⟩
  refine ⟨_,rfl,Share.cut (fun z w24=>∃ (y4:Value) (R':Nat->Prop),z=[y4]/\Ao R' w24 a v d (stepAb A1 y)/\(∀ z,R' z->w.heap.size<=z)/\Mod No w w24) ?_ ?_⟩
  ·refine cond_of (fun hc=>⟨_,ix,_,(ld _ m1).2.1,?_⟩) (fun hc=>?_)
   ·have eS:stepAb A1 y=(blockA A1 y.2.1).1:=by unfold stepAb; rw [if_pos (of_decide_eq_true hc)]
    rw [eS]
    refine aBlock_c hb63 h1 (by omega) fun w17 R17 m17 s17 h17=>⟨_,_,_,rfl,?_⟩
    obtain ⟨k1,k2⟩:=base m17 s17
    exact ⟨_,R17,rfl,h17,k1,k2⟩
   have hc:=of_decide_eq_false hc
   refine Share.cut (fun z w18=>w18=w16/\z=[.bool (decide (y.1=4\/y.1=5))]) (cond_of (fun e=>⟨rfl,?_⟩) (fun e=>⟨rfl,?_⟩)) ?_
   ·have e':y.1=4:=by simpa using e
    rw [e,decide_eq_true (Or.inl e')]
   ·have e':¬ y.1=4:=by simpa using e
    congr 2
    rw [Bool.eq_iff_iff,beq_iff_eq,decide_eq_true_iff]; omega
   rintro z w18 ⟨rfl,rfl⟩
   refine ⟨_,rfl,Share.cut (fun z w23=>z=[]/\∃ (R':Nat->Prop),Ao R' w23 a v d (stepAb A1 y)/\(∀ z,R' z->w.heap.size<=z)/\Mod No w w23) (cond_of (fun he=>⟨_,ix,_,(ld _ m1).2.1,?_⟩) (fun he=>?_)) ?_⟩
   ·have he:=of_decide_eq_true he
    have eS:stepAb A1 y=settleA (giveA A1 y.2.1 0).1:=by unfold stepAb; rw [if_neg hc,if_pos he]
    rw [eS]
    refine aFreeB_c hb63 h1 (by rw [s3]; decide) fun w19 R19 m19 s19 h19=>⟨_,rfl,?_⟩
    have hWl:(giveA A1 y.2.1 0).1.W.length<=1/\(∀ x∈(giveA A1 y.2.1 0).1.W,x.2.2<=9223372036854775807)/\(giveA A1 y.2.1 0).1.V.last=A1.V.last:=by
     rcases giveA_W s3 y.2.1 with ⟨e1,_⟩ | ⟨e1,_⟩
     ·rw [e1,s3]; exact ⟨by decide,(fun x hx=>by cases hx),rfl⟩
     ·rw [e1]
      refine ⟨Nat.le_refl _,fun x hx=>?_,rfl⟩
      have:x=(0,1,y.2.1):=by simpa [wrkA] using hx
      rw [this]; exact hb63
    refine aSettle_c h19 (by omega) hWl.2.1 (by omega) fun w20 R20 m20 s20 h20=>⟨_,rfl,rfl,R20,h20,?_⟩
    exact base (Mod.sb m19 s19 m20) (s19.trans s20 m19.size)
   ·have he:=of_decide_eq_false he
    refine Share.cut (fun z w23=>z=[]/\∃ (R':Nat->Prop),Ao R' w23 a v d (stepAb A1 y)/\(∀ z,R' z->w.heap.size<=z)/\Mod No w w23) (cond_of (fun hf=>⟨_,ix,_,(ld _ m1.drew).2.1,_,ix,_,(ld _ m1.drew).2.2,?_⟩) (fun hf=>?_)) ?_
    ·have hf:y.1=6:=by simpa using hf
     have eS:stepAb A1 y=(freezeA A1 y.2.1 y.2.2).1:=by unfold stepAb; rw [if_neg hc,if_neg he,if_pos hf]
     rw [eS]
     refine aFreeze_c (h1.nos (Mod.refl _ _).drew) fun w21 R21 m21 s21 h21=>⟨_,rfl,rfl,R21,h21,?_⟩
     exact base ((((Mod.refl No w18).drew).mono fun _ _ e=>e.elim).trans m21 fun x _ e=>e) s21
    ·have hf:¬ y.1=6:=by simpa using hf
     have eS:stepAb A1 y=A1:=by unfold stepAb; rw [if_neg hc,if_neg he,if_neg hf]
     rw [eS]
     exact ⟨rfl,R',h1,lo1,m1⟩
    ·rintro z w22 ⟨rfl,hz⟩
     exact ⟨rfl,hz⟩
   ·rintro z w23 ⟨rfl,R'',k1,k2,k3⟩
    exact ⟨_,R'',rfl,k1,k2,k3⟩
  ·rintro z w24 ⟨y4,R'',rfl,k1,k2,k3⟩
   rw [wrap64 (x:=(i:Int)+1) (by omega) (by omega)]
   exact ⟨⟨i+1,_,_,_,R'',rfl,by omega,by rw [eT]; exact k1,k2,k3⟩,by simp [nI,nth]; omega⟩
 ·have hlt:=of_decide_eq_false hlt
  have:i=min acts.length 80:=by omega
  subst this
  exact hk w13 R' a v d kc m1 h1 lo1
end
end Go.Proofs.YtelhlihjihklbaaGreat
end
section
open Go Go.Den Go.Proofs
namespace Go.Proofs.YtelhlihjihklbaaGreat
def gK1:Gm:=⟨16,8,1⟩
def fF:Int->Bool:=fun _=>false
def hJ0:List Hd:=[hBase gK1 0]
def hJ1:List Hd:=hJ0.set 0 (useX true gK1 (hJ0.getD 0 hZ) 9 true).1
def bJ (hs:List Hd):Az:=⟨⟨1,gK1⟩,⟨⟨newSt 0,0,[]⟩,0,[]⟩,[],0,hs,fF⟩
theorem gE_1:gE gK1=gK1:=by decide
theorem hsE_1:hsE gK1=hJ0:=by unfold hsE; rw [gE_1]; rfl
theorem allJ0:allA (bJ hJ0)=[(5,13)]:=by decide +kernel
theorem allJ1:allA (bJ hJ1)=[(5,6),(12,6)]:=by decide +kernel
theorem scJ0:scoreL [(5,13)]=0:=by decide +kernel
theorem scJ1:scoreL [(5,6),(12,6)]=500:=by decide +kernel
theorem tkJ:takeTo gK1 hJ0 fF (findX true gK1) (spB gK1 10).1 (spB gK1 10).2.1 (spB gK1 10).2.2 gK1.gs.toNat=some (0,9):=by decide +kernel
theorem allJ {s:Sp} (e:s.geo=gK1) (V:Ps) (W:List Wt) (nx:Int) (hs:List Hd):allA ⟨s,V,W,nx,hs,fF⟩=allA (bJ hs) :=
 allA_congr (A:=bJ hs) e rfl (by show gOk gK1=true; decide) fun k j _ _ _=>by unfold takenA; rw [show (⟨s,V,W,nx,hs,fF⟩:Az).s.geo=(bJ hs).s.geo from e]; rfl
theorem build_g1 (w:World):(Instr.build 40 #[(0,.int .i64 16),(1,.int .i64 8),(2,.int .i64 1)]).run Tryz.prog w=.ok (.agg ⟨gV gK1⟩) w:=by kernel_rfl
section
variable {w:World} {K:Value->World->Prop}
set_option maxRecDepth 8000 in
theorem known31_c (hk:∀ w',Mod No w w'->K (.bool true) w'):Cal Tryz.prog F_leveelaw31_known #[] w K:=by
 apply C_leveelaw31_known
 unfold D_leveelaw31_known
 refine ⟨_,build_g1,open31_c (acts:=[]) (.inl rfl) rfl (fun x hx=>by cases hx) fun w1 R a v d k m1 h1 hlo=>⟨_,rfl,ff rfl ?_⟩⟩
 have eA:openA gK1 [] k=⟨⟨1,gK1⟩,⟨⟨dE gK1,k,[]⟩,0,[]⟩,[],nE gK1,hJ0,fF⟩:=by
  show aE gK1 (hsE gK1) k=_
  unfold aE
  rw [hsE_1,gE_1]; rfl
 rw [eA] at h1
 generalize nE gK1=nx at h1
 generalize dE gK1=D at h1
 have base:∀ {w2:World} {R2:Nat->Prop} {w3:World},Mod No w w2->Mod R2 w2 w3->(∀ z,R2 z->w.heap.size<=z)->Mod No w w3:=fun h1 h2 h3=>h1.trans h2 fun x hx e=>by have:=h3 x e; omega
 have up:∀ {R2 R3:Nat->Prop} {w2:World},Sb R2 R3 w2->w.heap.size<=w2.heap.size->(∀ z,R2 z->w.heap.size<=z)->∀ z,R3 z->w.heap.size<=z:=fun h1 h2 h3 z hz=>by
  rcases h1 z hz with e | e
  ·exact h3 z e
  ·omega
 have a0:allA ⟨⟨1,gK1⟩,⟨⟨D,k,[]⟩,0,[]⟩,[],nx,hJ0,fF⟩=[(5,13)]:=(allJ rfl _ _ _ _).trans allJ0
 refine planAll_c h1 fun w2 R2 p2 c2 m2 s2 h2 o2=>⟨_,_,_,rfl,score_c h2 fun w3 R3 m3 s3 h3=>⟨_,rfl,?_⟩⟩
 rw [a0] at o2 |-
 rw [scJ0]
 have M2:=base m1 m2 hlo
 have L2:=up s2 m1.size hlo
 have M3:=base M2 m3 L2
 have L3:=up s3 M2.size L2
 refine aBlock_c (by omega) h3 (by show 0+1<=1000000; omega) fun w4 R4 m4 s4 h4=>⟨_,_,_,rfl,?_⟩
 have e4:blockA ⟨⟨1,gK1⟩,⟨⟨D,k,[]⟩,0,[]⟩,[],nx,hJ0,fF⟩ 10=(sethA ⟨⟨1,gK1⟩,⟨⟨D,k,[]⟩,0,[]⟩,[],nx,hJ0,fF⟩ 0 (useX true gK1 (hJ0.getD 0 hZ) 9 true).1,11,1,0):=by
  unfold blockA
  rw [tkJ]; rfl
 rw [e4] at h4
 have M4:=base M3 m4 L3
 have L4:=up s4 M3.size L3
 obtain ⟨V4,hV4⟩:∃ V4,sethA ⟨⟨1,gK1⟩,⟨⟨D,k,[]⟩,0,[]⟩,[],nx,hJ0,fF⟩ 0 (useX true gK1 (hJ0.getD 0 hZ) 9 true).1=⟨⟨1,gK1⟩,V4,[],nx,hJ1,fF⟩:=⟨_,rfl⟩
 rw [hV4] at h4
 have a1:allA ⟨⟨1,gK1⟩,V4,[],nx,hJ1,fF⟩=[(5,6),(12,6)]:=(allJ rfl _ _ _ _).trans allJ1
 refine planAll_c h4 fun w5 R5 p5 c5 m5 s5 h5 o5=>⟨_,_,_,rfl,?_⟩
 rw [a1] at o5 |-
 have M5:=base M4 m5 L4
 have L5:=up s5 M4.size L4
 have n2:∀ q,p2=some q->¬ R2 q.block/\w1.heap.size<=q.block/\q.block<w2.heap.size:=fun q hq=>⟨o2.nr q hq,(o2.ow.base hq).1,(o2.ow.base hq).2⟩
 have z2:=m2.size
 have z3:=m3.size
 have z4:=m4.size
 have hx3:=o2.ow.keep m3 fun q hq=>(n2 q hq).1
 have n3:∀ q,p2=some q->¬ R3 q.block:=fun q hq e=>by
  have:=n2 q hq
  rcases s3 _ e with e | e
  ·exact this.1 e
  ·omega
 have n4:∀ q,p2=some q->¬ R4 q.block:=fun q hq e=>by
  have:=n2 q hq
  rcases s4 _ e with e | e
  ·exact n3 q hq e
  ·omega
 have hx5:=(hx3.keep m4 n3).keep m5 n4
 obtain ⟨g,rfl,_,hat,ix,_,ld1,ld2⟩:=runAt (i:=0) (x:=(5,13)) hx5 rfl
 obtain ⟨g',hg',_,hat',ix',_,_,ld4⟩:=runAt (i:=0) (x:=(5,6)) o5.ow rfl
 obtain ⟨g'',hg'',_,_,ix'',_,ld5,ld6⟩:=runAt (i:=1) (x:=(12,6)) o5.ow rfl
 subst hg'
 cases hg''
 refine Share.dup (tt rfl ⟨_,ix,_,ld1 _ hat.at,tt rfl ⟨_,ix,_,ld2 _ hat.at,tt rfl (tt rfl (tt rfl ⟨_,ix',_,ld4 _ hat'.at,tt rfl ⟨_,ix'',_,ld5 _ hat'.at,tt rfl ⟨_,ix'',_,ld6 _ hat'.at,tt rfl ?_⟩⟩⟩))⟩⟩)
 refine score_c h5 fun w6 R6 m6 s6 h6=>⟨_,rfl,_,rfl,?_⟩
 rw [a1,scJ1]
 exact hk w6 (base M5 m6 L5)
end
end Go.Proofs.YtelhlihjihklbaaGreat
end
section
open Go Go.Den Go.Proofs
namespace Go.Proofs.YtelhlihjihklbaaGreat
structure Ob (w0:World) (R:Nat->Prop) (w:World) (a v d:Nat) (A:Az):Prop where
 ao:Ao R w a v d A
 lo:∀ z,R z->w0.heap.size<=z
 md:Mod No w0 w
structure Bw (R:Nat->Prop) (w:World) (q:Nat) (cs:List Value):Prop where
 at':AtU w q 0 cs
 nr:¬ R q
section
variable {w0 w w':World} {R R':Nat->Prop} {a v d q:Nat} {A A':Az} {T:TypeId} {p:Option Addr} {L:Rl} {c:Nat} {cs:List Value} {K:Value->World->Prop}
theorem Ob.no (h:Ob w0 R w a v d A) (m:Mod No w w'):Ob w0 R w' a v d A:=⟨h.ao.nos m,h.lo,h.md.no m⟩
theorem Ob.go (h:Ob w0 R w a v d A) (m:Mod R w w') (s:Sb R R' w) (k:Ao R' w' a v d A'):Ob w0 R' w' a v d A' :=
 ⟨k,fun z hz=>by
  rcases s z hz with e | e
  ·exact h.lo z e
  ·have:=h.md.size; omega,h.md.trans m fun x hx e=>by have:=h.lo x e; omega⟩
theorem Bw.no (h:Bw R w q cs) (m:Mod No w w'):Bw R w' q cs:=⟨h.at'.keep m id,h.nr⟩
theorem Bw.go (h:Bw R w q cs) (m:Mod R w w') (s:Sb R R' w):Bw R' w' q cs :=
 ⟨h.at'.keep m h.nr,fun e=>by
  rcases s _ e with e | e
  ·exact h.nr e
  ·have:=h.at'.lt; omega⟩
theorem Ob.box {t:TypeId} {z cs:List Value} {n:Nat} (h:Ob w0 R w a v d A) (hz:zeroC Tryz.prog t=some z) (hT:aggN Tryz.prog t=some n) (hl:z.length=n) (hc:cs.length=n) (h1:∀ u∈cs,u.oneCell'=true) :
  ∃ q w1 w2,Ru (Instr.alloc t true (.tuple #[])) w (.pointer (some ⟨q,0,none⟩)) w1/\RuU (Instr.storeAt t (.pointer (some ⟨q,0,none⟩)) (.agg ⟨cs⟩)) w1 w2/\Ob w0 R w2 a v d A/\Bw R w2 q cs/\Mod No w w2:=by
 obtain ⟨w1,a1,a2,a3,a4⟩:=new_u (P:=Tryz.prog) (w:=w) (T:=t) hz
 obtain ⟨w2,b1,b2,b3,b4⟩:=a2.put (T:=t) (vs:=cs) hT hl hc h1
 have m:Mod No w w2:=a3.own b3 (Nat.le_refl _)
 exact ⟨_,w1,w2,a1,b1,h.no m,⟨b2,fun e=>by have:=h.ao.lt _ e; omega⟩,m⟩
end
end Go.Proofs.YtelhlihjihklbaaGreat
end
section
open Go Go.Den Go.Proofs
namespace Go.Proofs.YtelhlihjihklbaaGreat
section
variable {w0 w w':World} {R R':Nat->Prop} {a v d q:Nat} {A A':Az} {K:Value->World->Prop}
set_option maxRecDepth 8000 in
theorem PlanBest_c {g:Gm} {a1:Option Addr} {l1 c1:Nat} {acts:List Ab} {n:Int} (hr:Row w a1 (rowB acts)) (hl:acts.length=l1) (h63:∀ x∈acts,x.2.1<=9223372036854775807) :
  Cal Tryz.prog F_leveelaw31_PlanBest #[.agg ⟨gV g⟩,.slice a1 l1 c1,.int .i64 n] w (fun v w'=>v=.bool true/\Mod No w w'):=by
 apply C_leveelaw31_PlanBest
 unfold D_leveelaw31_PlanBest
 obtain ⟨w1,b1,b2,b3,b4⟩:=box_u (P:=Tryz.prog) (w:=w) (T:=40) (cs:=gV g)
 refine ⟨_,w1,b1,_,b2.at.all agg_geo rfl,open31_c (hr.nos b3) hl h63 fun w2 R a v d k0 m2 h2 lo2=>⟨_,rfl,ff rfl ?_⟩⟩
 have o2:Ob w R w2 a v d (openA g acts k0):=⟨h2,fun z hz=>by have:=lo2 z hz; have:=b3.size; omega,b3.no m2⟩
 clear h2 lo2 m2
 generalize openA g acts k0=A at *
 have hb:=allA_b (A:=A) o2.ao.ok
 have hri:=allA_rise (A:=A) o2.ao.ok
 refine best_c o2.ao fun w3 R3 m3 s3 h3=>⟨_,rfl,?_⟩
 have o3:=o2.go m3 s3 h3
 obtain ⟨q,w4,w5,e1,e2,o5,x5,_⟩:=o3.box (cs:=acV (bestL (allA A) n)) zero_run agg_run rfl rfl (acV_one _)
 clear o2 o3 m3 s3 h3
 refine ⟨_,w4,e1,w5,e2,cond_of (fun h0=>?_) (fun h0=>?_)⟩
 ·have h0:=of_decide_eq_true h0
  rw [bestL_0 h0] at x5
  exact Share.dup ⟨_,x5.at'.at.fld (v:=.int .i64 0) sc_int rfl,tt rfl (known31_c fun w6 m6=>⟨_,rfl,_,rfl,rfl,o5.md.no m6⟩)⟩
 have h0:=of_decide_eq_false h0
 obtain ⟨L1,L2,L3⟩:=best_law hri (n:=n) (by omega)
 generalize bestL (allA A) n=x at *
 have md:Mod No w5 (Go.Den.drew w5):=(Mod.refl _ _).drew
 have od:=o5.no md
 have xd:=x5.no md
 refine ⟨_,xd.at'.at.fld (v:=.int .i64 x.2) sc_int rfl,longest_c od.ao fun w8 R8 m8 s8 h8=>⟨_,rfl,?_⟩⟩
 have o8:=od.go m8 s8 h8
 have x8:=xd.go m8 s8
 refine ⟨x8.at'.at.fld (v:=.int .i64 x.2) sc_int rfl,(longL (allA A)).2,(fun w=>by kernel_rfl),ff ?_ ?_⟩
 ·have:decide (x.2 > 0)=decide ((longL (allA A)).2 >= n):=decide_eq_decide.2 L1
  rw [this]; simp
 refine planAll_c o8.ao fun w9 R9 p c m9 s9 h9 f9=>⟨_,_,_,rfl,?_⟩
 have o9:=o8.go m9 s9 h9
 have x9:=x8.go m9 s9
 clear od xd o8 x8 m8 s8 h8 h9 m9 s9 o5 x5
 generalize allA A=L at *
 refine ⟨fun z W=>∃ (i:Nat) (y:Value),z=[.bool false,.int .i64 i,y]/\i<=L.length/\Mod No w9 W,fun z _=>(L.length-nI z 1).toNat,⟨0,_,rfl,Nat.zero_le _,Mod.refl _ _⟩,?_⟩
 rintro z W ⟨i,y,rfl,hi,m⟩
 refine ⟨_,rfl,cond_of (fun hlt=>?_) (fun hlt=>?_)⟩
 ·have hlt:i<L.length:=by have:=of_decide_eq_true hlt; omega
  have mW:Mod No w9 (Go.Den.drew W):=m.drew
  have xW:=x9.no mW
  obtain ⟨g,rfl,_,ix,_,lf⟩:=actAt (T:=45) (Te:=57) f9.ow rfl elemN_runs agg_run (by omega) (rAt_some hlt)
  have no:=L3 i hlt
  have l1:Ru (Instr.loadAt 3 (.pointer (some (Addr.add ⟨q,0,none⟩ 1)))) (Go.Den.drew W) (.int .i64 x.2) (Go.Den.drew W):=xW.at'.at.fld sc_int rfl
  have l0:Ru (Instr.loadAt 3 (.pointer (some (Addr.add ⟨q,0,none⟩ 0)))) (Go.Den.drew W) (.int .i64 x.1) (Go.Den.drew W):=xW.at'.at.fld sc_int rfl
  have r1:Ru (Instr.loadAt 3 (.pointer (some (Addr.add ⟨g,i*2,none⟩ 1)))) (Go.Den.drew W) (.int .i64 (rAt L i).2) (Go.Den.drew W):=lf _ 1 _ _ mW sc_int rfl
  have r0:Ru (Instr.loadAt 3 (.pointer (some (Addr.add ⟨g,i*2,none⟩ 0)))) (Go.Den.drew W) (.int .i64 (rAt L i).1) (Go.Den.drew W):=lf _ 0 _ _ mW sc_int rfl
  refine Share.cut (fun z w11=>z=[.bool false]/\w11=Go.Den.drew W) ⟨_,l1,cond_of (fun h1=>⟨_,ix,_,r1,cond_of (fun h2=>⟨_,ix,_,r1,_,l1,cond_of (fun h3=>?_) (fun h3=>⟨_,ix,_,r1,_,l1,cond_of (fun h4=>⟨_,ix,_,r0,_,l0,?_,rfl⟩) (fun h4=>⟨rfl,rfl⟩)⟩)⟩) (fun h2=>⟨rfl,rfl⟩)⟩) (fun h1=>⟨rfl,rfl⟩)⟩ ?_
  ·have h1:=of_decide_eq_true h1
   have h2:=of_decide_eq_true h2
   have h3:=of_decide_eq_true h3
   exact absurd ⟨by omega,by omega,.inl h3⟩ no
  ·have h1:=of_decide_eq_true h1
   have h2:=of_decide_eq_true h2
   have h4:(rAt L i).2=x.2:=by simpa using h4
   rw [decide_eq_false fun e=>no ⟨by omega,by omega,.inr ⟨h4,e⟩⟩]
  rintro z w11 ⟨rfl,rfl⟩
  refine ⟨_,rfl,ff rfl ?_⟩
  rw [wrap64 (x:=(i:Int)+1) (by omega) (by omega)]
  exact ⟨⟨i+1,_,rfl,by omega,mW⟩,by simp [nI,nth]; omega⟩
 ·have oW:=o9.no m
  have xW:=x9.no m
  refine Share.dup ⟨_,xW.at'.at.fld (v:=.int .i64 x.2) sc_int rfl,cond_of (fun h1=>known31_c fun w12 m12=>⟨_,rfl,_,rfl,rfl,oW.md.no m12⟩) (fun h1=>⟨_,xW.at'.at.fld (v:=.int .i64 x.2) sc_int rfl,tt (decide_eq_true (L2.resolve_left (by simpa using h1))) (known31_c fun w12 m12=>⟨_,rfl,_,rfl,rfl,oW.md.no m12⟩)⟩)⟩
end
end Go.Proofs.YtelhlihjihklbaaGreat
end
section
open Go Go.Den
namespace Go.Proofs.YtelhlihjihklbaaGreat
open Go.ChangeShapes Go.WideShapes Go.RowKit Go.Joins
section
variable {H:Type} {enc:TypeId×Value->H} {w:World} {base:Nat} {held:Bool}
theorem open_act7 {n:Nat} {cs:List Value} {y:DataW H×List MemPlace} (hl:cs.length=3) (h:DataW.trod enc Tryz.prog w base (fun _=>true) held n 141 cs=some y) :
  ∃ x:Ab,cs=abV x/\x.2.1<=9223372036854775807:=by
 match cs,hl with
 | [c0,c1,c2],_ =>
  obtain ⟨y0,y1,y2,n',hx,_,h0,h1,h2⟩:=trod_st3 Tryz.underlying141 h
  have k0:Tryz.prog.cellsOf 3=1:=by kernel_rfl
  have k1:Tryz.prog.cellsOf 4=1:=by kernel_rfl
  simp only [k0,k1] at h0 h1 h2
  have h0:DataW.trod enc Tryz.prog w base (fun _=>true) held n' 3 [c0]=some y0:=h0
  have h1:DataW.trod enc Tryz.prog w base (fun _=>true) held n' 3 [c1]=some y1:=h1
  have h2:DataW.trod enc Tryz.prog w base (fun _=>true) held n' 4 [c2]=some y2:=h2
  obtain ⟨m0,e0,_,u0⟩:=DataW.trod_int Tryz.underlying3 h0
  obtain ⟨m1,e1,_,u1⟩:=DataW.trod_int Tryz.underlying3 h1
  obtain ⟨b2,e2,_⟩:=DataW.trod_bool Tryz.underlying4 h2
  have e0:c0=.int .i64 m0:=by simpa using e0
  have e1:c1=.int .i64 m1:=by simpa using e1
  have e2:c2=.bool b2:=by simpa using e2
  subst e0 e1 e2
  exact ⟨(m0,m1,b2),rfl,(i64_bounds u1).2⟩
set_option maxRecDepth 100000 in
theorem open_acts7 {r:Reach} {b0:Nat} {v:Value} {d:DataW H} {ps:List MemPlace} (hval:Value.okWide Tryz.prog w r b0 41 v) (hd:DataW.Trod enc Tryz.prog w base (fun _=>true) held 41 v d ps) :
  ∃ a l c acts,v=.slice a l c/\acts.length=l/\Row w a (rowB acts)/\∀ x∈acts,x.2.1<=9223372036854775807:=by
 obtain ⟨fuel,hf⟩:=hd
 obtain ⟨a,l,c,rfl⟩:=okWide_slice Tryz.underlying41 hval
 rcases Go.Deep.open_slice Tryz.underlying41 hf with ⟨h1,h2⟩ | ⟨a',l',c',m,n,DD,Pl,h1,_,hlc,hm,hmm,hx,hel⟩
 ·simp [Value.cells] at h1
  obtain ⟨rfl,rfl,rfl⟩:=h1
  exact ⟨none,0,0,[],rfl,rfl,.inl rfl,fun x hx=>by cases hx⟩
 ·simp [Value.cells] at h1
  obtain ⟨rfl,rfl,rfl⟩:=h1
  rw [if_pos rfl] at hmm
  subst hmm
  have k3:Tryz.prog.cellsOf 141=3:=by kernel_rfl
  rw [k3] at hel
  by_cases h0:l=0
  ·exact ⟨some a',l,m,[],rfl,by simp [h0],.inl rfl,fun x hx=>by cases hx⟩
  obtain ⟨b,off,spot⟩:=a'
  have hspot:spot=none:=by
   obtain ⟨cs',hc,ht⟩:=hel 0 (by omega)
   obtain ⟨_,hcl,hcc⟩:=World.cells?_some hc
   obtain ⟨x,rfl,_⟩:=open_act7 hcl ht
   have h00:=hcc 0 (by omega)
   have:=World.cell?_spot (h00.trans rfl)
   simpa [Addr.add] using this
  subst hspot
  have each:∀ i∈List.range l,∃ x:Ab,(∀ (j:Nat) (v:Value),(abV x)[j]?=some v->w.cell? ⟨b,off+(i*3+j),none⟩=some v)/\x.2.1<=9223372036854775807:=by
   intro i hi
   have hi:=List.mem_range.1 hi
   obtain ⟨cs',hc,ht⟩:=hel i (by omega)
   obtain ⟨_,hcl,hcc⟩:=World.cells?_some hc
   obtain ⟨x,rfl,hb⟩:=open_act7 hcl ht
   refine ⟨x,fun j v hj=>?_,hb⟩
   have hj3:=(List.getElem?_eq_some_iff.1 hj).1
   have:=hcc j (by have:(abV x).length=3:=rfl; omega)
   rw [add_none,add_none,Nat.add_assoc] at this
   rw [this,hj]
  obtain ⟨ys,hyl,hys⟩:=list_choose3 (p:=fun (i:Nat) (x:Ab)=>(∀ (j:Nat) (v:Value),(abV x)[j]?=some v->w.cell? ⟨b,off+(i*3+j),none⟩=some v)/\x.2.1<=9223372036854775807) (List.range l) each
  rw [List.length_range] at hyl
  have hfl:(rowB ys).length=ys.length*3:=flat_len' abV_len ys
  refine ⟨some ⟨b,off,none⟩,l,m,ys,rfl,hyl,.inr ⟨b,off,rfl,At.of_cells (by rw [hfl]; omega) fun j hj=>?_⟩,fun x hx=>?_⟩
  ·have hj':j<l*3:=by rw [hfl,hyl] at hj; exact hj
   have hi:j / 3<l:=by omega
   have hyi:ys[j / 3]?=some ys[j / 3]:=by simp [hyl,hi]
   have hp:=(hys (j / 3) (j / 3) ys[j / 3] (by simp [hi]) hyi).1
   obtain ⟨u,hu⟩:∃ u,(abV ys[j / 3])[j % 3]?=some u:=⟨(abV ys[j / 3])[j % 3]'(by show j % 3<3; omega),List.getElem?_eq_getElem _⟩
   have h4:=flat_cell abV_len hyi hu
   have h5:=hp (j % 3) u hu
   rw [show j / 3*3+j % 3=j by omega] at h4 h5
   rw [h5]
   have h4:(rowB ys)[j]?=some u:=h4
   rw [List.getElem?_eq_getElem hj] at h4
   exact h4.symm
  ·obtain ⟨i,hi,e⟩:=List.getElem_of_mem hx
   exact (hys i i x (by rw [List.getElem?_range (by omega)]) (by rw [List.getElem?_eq_getElem hi,e])).2
end
end Go.Proofs.YtelhlihjihklbaaGreat
end
