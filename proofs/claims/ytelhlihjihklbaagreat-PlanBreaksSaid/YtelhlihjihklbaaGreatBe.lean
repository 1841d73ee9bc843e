/- Parts of the proof, in order: what the statement leans on. -/
import Derived.Test.YtelhlihjihklbaaGreatBd
section
open Go Go.Den Go.Proofs
namespace Go.Proofs.YtelhlihjihklbaaGreat
def Dx (wb:World) (R0:Nat->Prop) (N:Nat) (w:World) (d:Nat) (D:St):Prop :=
 ∃ R sb mb sc L,DiskIn w R d sb mb sc L D/\(∀ x,R x->(R0 x\/wb.heap.size<=x)/\x<N)/\Mod R0 wb w/\N<=w.heap.size
section
variable {wb w w':World} {R0:Nat->Prop} {N d:Nat} {D:St} {K:Value->World->Prop}
theorem Dx.nos (h:Dx wb R0 N w d D) (m:Mod No w w'):Dx wb R0 N w' d D:=by
 obtain ⟨R,sb,mb,sc,L,h1,h2,h3,h4⟩:=h
 exact ⟨R,sb,mb,sc,L,h1.nos m,h2,h3.no m,Nat.le_trans h4 m.size⟩
theorem Dx.mod (h:Dx wb R0 N w d D):Mod R0 wb w:=by obtain ⟨_,_,_,_,_,_,_,h,_⟩:=h; exact h
theorem Dx.size (h:Dx wb R0 N w d D):N<=w.heap.size:=by obtain ⟨_,_,_,_,_,_,_,_,h⟩:=h; exact h
theorem Dx.start {R:Nat->Prop} {sb mb sc:Nat} {L:List (Int×Value)} (h:DiskIn w R d sb mb sc L D) (m:Mod No w wb):Dx wb R w.heap.size wb d D :=
 ⟨R,sb,mb,sc,L,h.nos m,fun x hx=>⟨.inl hx,h.lt x hx⟩,Mod.refl _ _,m.size⟩
theorem Dx.write (h:Dx wb R0 N w d D) (hs:∀ v∈D.vs,v.length<=999999) {n:Int} {a:Option Addr} {l c:Nat} {ys:List UInt8} (hl:ys.length=l) (hr:Row w a (u8L ys)) (hdis:∀ q,a=some q->N<=q.block)
  (hk:∀ w',Dx wb R0 w'.heap.size w' d (wrSt D n ys)->K (.int .i64 (wrE D n ys)) w'):Cal Tryz.prog F_disk_Disk_Write #[.pointer (some ⟨d,0,none⟩),.int .i64 n,.slice a l c] w K:=by
 obtain ⟨R,sb,mb,sc,L,h1,h2,h3,h4⟩:=h
 refine Write_c h1 hs hl hr (fun q hq hR=>?_) fun w' L' m hd'=>hk w' ⟨Gro R w w',sb,mb,sc,L',hd',fun x hx=>?_,h3.trans m fun x hx hR=>?_,Nat.le_refl _⟩
 ·have:=(h2 _ hR).2
  have:=hdis q hq
  omega
 ·rcases hx with hx | hx
  ·have h5:=h2 x hx; have:=m.size
   exact ⟨h5.1,by omega⟩
  ·have:=h3.size
   exact ⟨.inr (by omega),hx.2⟩
 ·exact ((h2 x hR).1).resolve_right (by omega)
theorem Dx.flush (h:Dx wb R0 N w d D) (hs:Small D) (hk:∀ w',Dx wb R0 w'.heap.size w' d (flSt D)->K (.int .i64 0) w'):Cal Tryz.prog F_disk_Disk_Flush #[.pointer (some ⟨d,0,none⟩)] w K:=by
 obtain ⟨R,sb,mb,sc,L,h1,h2,h3,h4⟩:=h
 refine Flush_c h1 hs fun w' L' m hd'=>hk w' ⟨R,sb,mb,sc,L',hd',fun x hx=>?_,h3.trans m fun x hx hR=>?_,Nat.le_refl _⟩
 ·have h5:=h2 x hx; have:=m.size
  exact ⟨h5.1,by omega⟩
 ·exact ((h2 x hR).1).resolve_right (by omega)
theorem Dx.len (h:Dx wb R0 N w d D) (hk:K (.int .i64 D.vs.length) w):Cal Tryz.prog F_disk_Disk_Len #[.pointer (some ⟨d,0,none⟩)] w K:=by
 obtain ⟨R,sb,mb,sc,L,h1,h2,h3,h4⟩:=h
 exact Len_c h1 hk
theorem build_root:Al (Instr.build 218 #[(0,.int .i64 2),(1,.int .i64 1),(3,.int .i64 1)]) (.agg ⟨nV rootN⟩):=fun w=>by kernel_rfl
theorem Bnd9 {m:Nat} (h:Bnd D m) (hm:m<=999999):∀ v∈D.vs,v.length<=999999:=fun v hv=>Nat.le_trans (h v hv) hm
theorem BndS {m:Nat} (h:Bnd D m) (hm:m<=999999):Small D:=fun v hv=>Nat.le_trans (h v hv) (by omega)
set_option maxRecDepth 8000 in
theorem each_c {R:Nat->Prop} {sb mb sc:Nat} {L:List (Int×Value)} {g:Gm} (h:DiskIn w R d sb mb sc L D) (hg:gOk g=true) (hn:gSize g<=D.vs.length) (hb:Bnd D 1)
  (hk:∀ w1 N w',Mod No w w1->w.heap.size<=N->Dx w1 R N w' d (wrAll D (volL g g.gs.toNat))->K (.int .i64 0) w') :
  Cal Tryz.prog F_vol_each #[.agg ⟨gV g⟩,.int .i64 0,.func (.func F_disk_Disk_Write) #[.pointer (some ⟨d,0,none⟩)] #[]] w K:=by
 apply C_vol_each
 unfold D_vol_each
 obtain ⟨w1,a1,a2,a3,a4⟩:=box_u (P:=Tryz.prog) (w:=w) (T:=40) (cs:=gV g)
 have hnR:¬ R w.heap.size:=fun e=>Nat.lt_irrefl _ (h.lt _ e)
 have hq:∀ {w2:World} {N:Nat} {D':St},Dx w1 R N w2 d D'->AtU w2 w.heap.size 0 (gV g):=fun x=>a2.keep x.mod hnR
 obtain ⟨g1,g2,g3,g4,g5,g6,g7,g8,g9⟩:=gOk_iff.1 hg
 have hvn:=volN_b hg
 have hlen:=h.wf.hi
 refine ⟨_,w1,a1,fun x w2=>∃ (k N:Nat) (y1 y2 y3:Value),(k:Int)<=g.gs/\x=[.int .i64 k,y1,y2,y3]/\w.heap.size<=N/\Dx w1 R N w2 d (wrAll D (volL g k)),fun x _=>(g.gs-nI x 0).toNat,
  ⟨0,_,undef,undef,undef,by omega,rfl,Nat.le_refl _,Dx.start h a3⟩,?_⟩
 rintro x w2 ⟨k,N,y1,y2,y3,hkg,rfl,hN,hx⟩
 refine ⟨_,rfl,_,(hq hx).at.fld sc_int rfl,cond_of (fun hl=>?_) (fun hl=>?_)⟩
 ·have hl:(k:Int)<g.gs:=of_decide_eq_true hl
  have eF:hFresh g k=(hBase g k,0):=by unfold hFresh; rw [if_pos ⟨hg,by omega,hl⟩]
  have eH:gHead g k=(2+k*g.gr,0):=by unfold gHead; rw [if_pos hg,if_pos ⟨by omega,hl⟩]
  refine ⟨_,(hq hx).at.all agg_geo rfl,fresh_c fun w3 m3=>⟨_,_,rfl,?_⟩⟩
  rw [eF]
  have x3:=hx.nos m3
  obtain ⟨w4,b1,b2,b3,b4⟩:=new_u (P:=Tryz.prog) (w:=w3) (T:=119) zero_head
  have x4:=x3.nos b3
  obtain ⟨w5,c1,c2,c3,c4⟩:=b2.put (T:=119) (vs:=hV (hBase g k)) agg_head rfl (hV_len (hBase_wf _ _)) (one_hV _)
  have m5:Mod No w3 w5:=b3.own c3 (Nat.le_refl _)
  have x5:=x3.nos m5
  refine ⟨_,w4,b1,w5,c1,_,(hq x5).at.all agg_geo rfl,_,c2.at.all agg_head (hV_len (hBase_wf _ _)),hPut_c (hBase_wf _ _) (fun e=>by rw [hOk_base hg (by omega) hl] at e; cases e) fun _ w6 q m6 hq6 h6=>⟨_,_,_,_,rfl,?_⟩⟩
  have x6:=x5.nos m6
  refine ⟨_,(hq x6).at.all agg_geo rfl,geoHead_c fun w7 m7=>⟨_,_,rfl,?_⟩⟩
  have x7:=x6.nos m7
  refine ⟨_,(hq x7).at.all agg_geo rfl,geoTabs_c fun w8 m8=>⟨_,rfl,?_⟩⟩
  have x8:=x7.nos m8
  rw [eH]
  have hNq:N<=q:=by have:=hx.size; have:=m3.size; have:=m5.size; omega
  have hrow:=((h6.keep m7 id).keep m8 id)
  have eT:IntKind.i64.wrap (1+gTabs g)=(volN g:Int):=by
   have e:gTabs g=g.no / 4:=by unfold gTabs; rw [if_pos hg]
   rw [wrap64 (by omega) (by omega),hvn.1,e]
  refine ⟨fun x w9=>∃ (i N':Nat) (a:Option Addr) (l c:Nat) (y:Value),i<=volN g/\x=[.slice a l c,.int .i64 i,y]/\w.heap.size<=N'/\Dx w1 R N' w9 d (wrAll (wrAll D (volL g k)) (volG g k i))/\(i=0->∃ q,a=some ⟨q,0,none⟩/\l=256/\c=256/\N'<=q/\AtU w9 q 0 (u8L (grpB g (hBase g k)))),
   fun x _=>(volN g-nI x 1).toNat,⟨0,N,_,_,_,_,by omega,rfl,hN,x8,fun _=>⟨q,rfl,rfl,rfl,hNq,hrow⟩⟩,?_⟩
  rintro x w9 ⟨i,N',a,l,c,y,hi,rfl,hN',x9,hi0⟩
  rw [eT]
  refine ⟨_,rfl,cond_of (fun hl2=>?_) (fun hl2=>?_)⟩
  ·have hl2:i<volN g:=by have:=of_decide_eq_true hl2; omega
   have hvx:=volX_in hg (n:=D.vs.length) hl hl2 hn
   refine Share.cut (fun z w11=>∃ q',z=[.slice (some ⟨q',0,none⟩) 256 256]/\N'<=q'/\AtU w11 q' 0 (u8L (if i=0 then grpB g (hBase g k) else zeroB))/\Mod No w9 w11) (cond_of (fun hp=>?_) (fun hp=>?_)) ?_
   ·have hp:0<i:=by have:=of_decide_eq_true hp; omega
    obtain ⟨w10,s1,s2,s3,s4⟩:=make_z (w:=w9) (n:=256) (by omega)
    exact ⟨_,_,_,w10,s1,_,rfl,x9.size,by rw [if_neg (by omega)]; exact s2,s3⟩
   ·have hp:i=0:=by have:=of_decide_eq_false hp; omega
    obtain ⟨q',e1,e2,e3,e4,e5⟩:=hi0 hp
    subst e1 e2 e3
    exact ⟨q',rfl,e4,by rw [if_pos hp]; exact e5,Mod.refl _ _⟩
   rintro z w11 ⟨q',rfl,hq',h11,m11⟩
   refine Share.cut (fun z w12=>z=[.bool (decide (k=0/\i=1))]/\w12=w11) ?_ ?_
   ·rw [beqI]
    refine cond_of (fun hp=>⟨?_,rfl⟩) (fun hp=>⟨?_,rfl⟩)
    ·have hp:k=0:=by have:=of_decide_eq_true hp; omega
     congr 2
     rw [beqI,Bool.eq_iff_iff,decide_eq_true_iff,decide_eq_true_iff]; omega
    ·have hp:¬ k=0:=by have:=of_decide_eq_false hp; omega
     rw [decide_eq_false (fun e=>hp e.1)]
   rintro z w12 ⟨rfl,rfl⟩
   refine ⟨_,rfl,?_⟩
   refine Share.cut (fun z w14=>∃ q',z=[.slice (some ⟨q',0,none⟩) 256 256]/\N'<=q'/\AtU w14 q' 0 (u8L (volB g k i))/\Mod No w9 w14) (cond_of (fun hp=>?_) (fun hp=>?_)) ?_
   ·have hp:=of_decide_eq_true hp
    refine ⟨_,_,_,rfl,_,build_root,?_⟩
    rw [if_neg (by omega)] at h11
    refine inoLay_c rootN_wf zeroB_len (.inr ⟨_,_,rfl,h11.at⟩) (by omega) (by decide) rootN_ok fun w13 q'' m13 hq'' h13=>⟨_,_,_,_,rfl,q'',rfl,?_,?_,m11.no m13⟩
    ·have:=x9.size; have:=m11.size; omega
    ·unfold volB
     rw [if_neg (by omega),if_pos hp]; exact h13
   ·have hp:=of_decide_eq_false hp
    refine ⟨q',rfl,hq',?_,m11⟩
    unfold volB
    by_cases h0:i=0
    ·rw [if_pos h0]; rw [if_pos h0] at h11; exact h11
    ·rw [if_neg h0,if_neg hp]; rw [if_neg h0] at h11; exact h11
   rintro z w14 ⟨q'',rfl,hq'',h14,m14⟩
   have x14:=x9.nos m14
   have e1:IntKind.i64.wrap (2+(k:Int)*g.gr+i)=(volX g k i).1:=by
    show _=2+(k:Int)*g.gr+i
    have:=hvx
    unfold volX at this
    simp only at this
    rw [wrap64 (by omega) (by omega)]
   refine ⟨_,_,_,rfl,?_⟩
   rw [e1]
   have hB:Bnd (wrAll (wrAll D (volL g k)) (volG g k i)) 999999:=by
    have h1:=Bnd_all (Bnd_all hb (volL g k)) (volG g k i)
    have h2:=volL_len hg k
    rw [volG_len] at h1
    exact h1.mono (by omega)
   have hvl:(wrAll (wrAll D (volL g k)) (volG g k i)).vs.length=D.vs.length:=by rw [wrAll_len,wrAll_len]
   refine ⟨_,_,_,rfl,?_⟩
   show Cal Tryz.prog F_disk_Disk_Write #[.pointer (some ⟨d,0,none⟩),.int .i64 (volX g k i).1,.slice (some ⟨q'',0,none⟩) 256 256] w14 _
   refine x14.write hB (volB_len g k i) (.inr ⟨_,_,rfl,h14.at⟩) (fun q3 e3=>by cases e3; exact hq'') fun w15 x15=>⟨_,rfl,ff ?_ ?_⟩
   ·rw [wrE_in (by omega) (by rw [hvl]; omega) (volB_len g k i)]; rfl
   have e2:wrSt (wrAll (wrAll D (volL g k)) (volG g k i)) (volX g k i).1 (volB g k i)=wrAll (wrAll D (volL g k)) (volG g k (i+1)):=by
    rw [volG_succ,wrAll_snoc]; rfl
   rw [e2] at x15
   rw [wrap64 (x:=(i:Int)+1) (by omega) (by omega)]
   exact ⟨⟨i+1,_,_,_,_,_,by omega,rfl,by have:=x9.size; have:=m14.size; have:=x15.size; have:=x15.mod.size; have:=a3.size; omega,x15,fun e=>by omega⟩,by simp [nI,nth]; omega⟩
  ·have hl2:i=volN g:=by have:=of_decide_eq_false hl2; omega
   subst hl2
   rw [wrap64 (x:=(k:Int)+1) (by omega) (by omega)]
   refine ⟨⟨k+1,N',_,_,_,by omega,rfl,hN',?_⟩,by simp [nI,nth]; omega⟩
   rw [volL_succ,wrAll_app]; exact x9
 ·have hl:(k:Int)=g.gs:=by have:=of_decide_eq_false hl; omega
  have e:g.gs.toNat=k:=by omega
  refine hk w1 N w2 a3 hN ?_
  rw [e]; exact hx
end
end Go.Proofs.YtelhlihjihklbaaGreat
end
section
open Go Go.Den Go.Proofs
namespace Go.Proofs.YtelhlihjihklbaaGreat
section
variable {wb w w':World} {R0:Nat->Prop} {N d:Nat} {D:St} {K:Value->World->Prop}
theorem Dx.comp {R':Nat->Prop} {w1:World} {N':Nat} {D':St} (h2:∀ x,R' x->R0 x\/wb.heap.size<=x) (hm:Mod R0 wb w) (m:Mod No w w1) (k:Dx w1 R' N' w' d D'):Dx wb R0 N' w' d D':=by
 obtain ⟨R,sb,mb,sc,L,k1,k2,k3,k4⟩:=k
 refine ⟨R,sb,mb,sc,L,k1,fun x hx=>⟨?_,(k2 x hx).2⟩,(hm.no m).trans k3 fun x hx e=>(h2 x e).resolve_right (by omega),k4⟩
 rcases (k2 x hx).1 with e | e
 ·exact h2 x e
 ·have:=hm.size; have:=m.size; exact .inr (by omega)
def wrZ (D:St):Nat->St
 | 0=>D
 | n+1=>wrSt (wrZ D n) n zeroB
theorem wrZ_bnd (hb:Bnd D 1):∀ n,Bnd (wrZ D n) (n+1)
 | 0=>hb
 | n+1=>Bnd_wr (wrZ_bnd hb n) _ _
theorem sOk_new {g:Gm} (h:gOk g=true):sOk ⟨1,g⟩=true:=sOk_iff.2 ⟨⟨Int.le_refl _,by show (1:Int)<=4611686018427387904; decide⟩,h⟩
set_option maxRecDepth 8000 in
theorem vFormat_c {R:Nat->Prop} {sb mb sc:Nat} {L:List (Int×Value)} {g:Gm} (h:DiskIn w R d sb mb sc L D) (hrun:D.left=-1) (hb:Bnd D 1)
  (hk0:fmtE D g≠0->∀ w',Mod No w w'->K (.int .i64 (fmtE D g)) w')
  (hk:fmtE D g=0->∀ w1 N w',Mod No w w1->Dx w1 R N w' d (fmtSt D g)->K (.int .i64 0) w') :
  Cal Tryz.prog F_vol_Format #[.pointer (some ⟨d,0,none⟩),.agg ⟨gV g⟩] w K:=by
 apply C_vol_Format
 unfold D_vol_Format
 obtain ⟨w1,a1,a2,a3,a4⟩:=box_u (P:=Tryz.prog) (w:=w) (T:=40) (cs:=gV g)
 have hnR:¬ R w.heap.size:=fun e=>Nat.lt_irrefl _ (h.lt _ e)
 have hq:∀ {w2:World} {N:Nat} {D':St},Dx w1 R N w2 d D'->AtU w2 w.heap.size 0 (gV g):=fun x=>a2.keep x.mod hnR
 refine ⟨_,w1,a1,ff rfl ⟨_,a2.at.all agg_geo rfl,geoRight_c fun w2 m2=>⟨_,rfl,cond_of (fun hg=>?_) (fun hg=>?_)⟩⟩⟩
 ·have e:fmtE D g=1:=by unfold fmtE; rw [if_pos (by simpa using hg)]
  have:=hk0 (by rw [e]; decide) w2 (a3.no m2)
  rwa [e] at this
 have hg:gOk g=true:=by simpa using hg
 have md:Mod No w1 (Go.Den.drew w2):=m2.drew
 have xd:Dx w1 R w.heap.size (Go.Den.drew w2) d D:=(Dx.start h a3).nos md
 refine ⟨_,(hq xd).at.all agg_geo rfl,xd.len ⟨_,rfl,(hq xd).at.all agg_geo rfl,geoSize_c fun w4 m4=>⟨_,rfl,cond_of (fun hl=>?_) (fun hl=>?_)⟩⟩⟩
 ·have hl:=of_decide_eq_true hl
  have e:fmtE D g=4:=by unfold fmtE; rw [if_neg (by rw [hg]; decide),if_pos hl]
  have:=hk0 (by rw [e]; decide) w4 (a3.no (md.no m4))
  rwa [e] at this
 have hl:=of_decide_eq_false hl
 have eE:fmtE D g=0:=by unfold fmtE; rw [if_neg (by rw [hg]; decide),if_neg hl]
 have x4:=xd.nos m4
 refine ⟨fun x w5=>∃ i N:Nat,i<=2/\x=[.int .i64 i]/\Dx w1 R N w5 d (wrZ D i),fun x _=>(2-nI x 0).toNat,⟨0,_,by omega,rfl,x4⟩,?_⟩
 rintro x w5 ⟨i,N,hi,rfl,x5⟩
 refine ⟨_,rfl,cond_of (fun hl2=>?_) (fun hl2=>?_)⟩
 ·have hl2:=of_decide_eq_true hl2
  obtain ⟨w6,s1,s2,s3,s4⟩:=make_z (w:=w5) (n:=256) (by omega)
  refine ⟨_,_,_,w6,s1,?_⟩
  refine (x5.nos s3).write (Bnd9 (wrZ_bnd hb i) (by omega)) zeroB_len (.inr ⟨_,_,rfl,s2.at⟩) (fun q e=>by cases e; exact x5.size) fun w7 x7=>⟨_,rfl,?_⟩
  rw [wrap64 (x:=(i:Int)+1) (by omega) (by omega)]
  exact ⟨⟨i+1,_,by omega,by simp,x7⟩,by simp [nI,nth]; omega⟩
 have hl2:=of_decide_eq_false hl2
 have hi2:i=2:=by omega
 subst hi2
 refine x5.flush (BndS (wrZ_bnd hb 2) (by omega)) fun w8 x8=>⟨_,rfl,?_⟩
 have x8:Dx w1 R w8.heap.size w8 d (fmt0 D):=x8
 refine ⟨_,(hq x8).at.all agg_geo rfl,?_⟩
 have hm8:=x8.mod
 obtain ⟨R8,sb8,mb8,sc8,L8,k1,k2,k3,k4⟩:=x8
 refine each_c k1 hg (by rw [fmt0_len]; omega) (fmt0_bnd hrun) fun w9 N9 w10 m9 hN9 x10=>⟨_,rfl,?_⟩
 have x10:=x10.comp (fun x hx=>(k2 x hx).1) hm8 m9
 have hB:Bnd (wrAll (fmt0 D) (volL g g.gs.toNat)) 999999:=by
  have h1:=Bnd_all (fmt0_bnd hrun) (volL g g.gs.toNat)
  have h2:=volL_len hg g.gs.toNat
  obtain ⟨_,_,_,g4,_⟩:=gOk_iff.1 hg
  exact h1.mono (by omega)
 refine x10.flush (BndS hB (by omega)) fun w11 x11=>⟨_,rfl,_,(hq x11).at.all agg_geo rfl,_,build_sup 1 g,?_⟩
 have x11:Dx w1 R w11.heap.size w11 d (fmt1 D g):=x11
 refine supPut_c (s:=⟨1,g⟩) (fun e=>by rw [sOk_new hg] at e; cases e) fun _ w12 q m12 hq12 h12=>⟨_,_,_,_,rfl,?_⟩
 refine (x11.nos m12).write (Bnd9 (fmt1_bnd hrun g) (by omega)) (supB_len _) (.inr ⟨_,_,rfl,h12.at⟩) (fun q' e=>by cases e; exact hq12) fun w13 x13=>⟨_,rfl,?_⟩
 refine x13.flush (BndS (Bnd_wr (fmt1_bnd hrun g) _ _) (by omega)) fun w14 x14=>⟨_,rfl,?_⟩
 exact hk eE w1 _ w14 a3 x14
end
end Go.Proofs.YtelhlihjihklbaaGreat
end
section
open Go Go.Den Go.Proofs
namespace Go.Proofs.YtelhlihjihklbaaGreat
theorem fldA2 {w:World} {T:TypeId} {b j i n:Nat} {cs vs:List Value} (h:At w b 0 cs) (hT:aggN Tryz.prog T=some n) (hj:j+i+n<=cs.length) (hv:(cs.drop (j+i)).take n=vs):Ru (Instr.loadAt T (.pointer (some (Addr.add (Addr.add ⟨b,0,none⟩ j) i)))) w (.agg ⟨vs⟩) w:=by
 have e:Addr.add (Addr.add ⟨b,0,none⟩ j) i=Addr.add ⟨b,0,none⟩ (j+i):=by
  rw [add_none,add_none,add_none,Nat.add_assoc]
 rw [e]
 exact h.fldA hT hj hv
def vV (s:Sp) (sp wk:Nat) (nx:Int):List Value:=sV s++[.pointer (some ⟨sp,0,none⟩),.pointer (some ⟨wk,0,none⟩),.int .i64 nx]
theorem sc_store:scal Tryz.prog 89=true:=by kernel_rfl
def Wc (w0:World) (R:Nat->Prop) (N:Nat) (w:World) (v d wk:Nat):Prop:=AtU w wk 0 [.slice none 0 0]/\¬ R wk/\wk≠v/\w0.heap.size<=wk/\wk<N/\d<=wk/\d<=v
theorem Wc.keep {S R R':Nat->Prop} {w0 w w':World} {N N' v d wk:Nat} (h:Wc w0 R N w v d wk) (m:Mod S w w') (hS:¬ S wk) (hR:¬ R' wk) (hN:N<=N'):Wc w0 R' N' w' v d wk :=
 ⟨h.1.keep m hS,hR,h.2.2.1,h.2.2.2.1,Nat.lt_of_lt_of_le h.2.2.2.2.1 hN,h.2.2.2.2.2⟩
def Vg (wb:World) (R0:Nat->Prop) (N:Nat) (w:World) (v d:Nat) (s:Sp) (D:St) (nx:Int):Prop :=
 ∃ R sp wk k w0,Pz w0 R w sp d ⟨⟨D,k,[]⟩,0,[]⟩/\AtU w v 0 (vV s sp wk nx)/\(¬ R v/\w0.heap.size<=v/\v<N/\(R0 v\/wb.heap.size<=v))/\(∀ x,R x->(R0 x\/wb.heap.size<=x)/\x<N)/\Mod R0 wb w/\(N<=w.heap.size/\wb.heap.size<=N/\w0.heap.size<=N/\Wc w0 R N w v d wk)
section
variable {w0 wb w w':World} {R R0:Nat->Prop} {N v d sp:Nat} {s:Sp} {D:St} {V:Ps} {nx:Int} {K:Value->World->Prop}
theorem qReadC_c {n:Int} (hP:Pz w0 R w sp d V) {b:Nat} (hb:n=b) (hlt:b<V.C.D.vs.length)
  (hk:∀ w1 w' g cc,Mod R w w1->Mod No w1 w'->Pz w0 (Gro R w w1) w' sp d V->w1.heap.size<=g->AtU w' g 0 (u8L (contV V b))->256<=cc->K (.tuple #[.slice (some ⟨g,0,none⟩) 256 cc,.int .i64 0]) w') :
  Cal Tryz.prog F_patch_Store_Read #[.pointer (some ⟨sp,0,none⟩),.int .i64 n] w K:=by
 obtain ⟨C,eD,eM,hP⟩:=hP
 have hwf:=hP.wf
 refine pRead_c hP (fun he w' m=>?_) fun b' hb' hlt' w1 w' a cc C' m1 m2 h e1 e2 hc o=>?_
 ·have he:errOf C.D n≠0:=he
  rw [eD,hb] at he
  exact absurd (rd_at V.C.D hlt).1 he
 ·have:b'=b:=by omega
  subst this
  obtain ⟨g,rfl,hg,hat⟩:=o.sm (by omega)
  rw [cont_view hwf.1 hwf.2.1 hwf.2.2.1,contV_C eD] at hat
  exact hk w1 w' g cc m1 m2 ⟨C',e1.trans eD,e2.trans eM,h⟩ hg hat o.cap.1
theorem Vg.nos (h:Vg wb R0 N w v d s D nx) (m:Mod No w w'):Vg wb R0 N w' v d s D nx:=by
 obtain ⟨R,sp,wk,k,w0,h1,h2,h3,h4,h5,h6,h7⟩:=h
 exact ⟨R,sp,wk,k,w0,h1.nos m,h2.keep m id,h3,h4,h5.no m,Nat.le_trans h6 m.size,h7.1,h7.2.1,h7.2.2.keep m id h7.2.2.2.1 (Nat.le_refl _)⟩
theorem Vg.up (h:Vg wb R0 N w v d s D nx):Vg wb R0 w.heap.size w v d s D nx:=by
 obtain ⟨R,sp,wk,k,w0,h1,h2,h3,h4,h5,h6,h7,h8,h9⟩:=h
 exact ⟨R,sp,wk,k,w0,h1,h2,⟨h3.1,h3.2.1,by omega,h3.2.2.2⟩,fun x hx=>⟨(h4 x hx).1,by have:=(h4 x hx).2; omega⟩,h5,Nat.le_refl _,by omega,by omega,h9.keep (Mod.refl No w) id h9.2.1 h6⟩
theorem Vg.put {q:Nat} (h:Vg wb R0 N w v d s D nx) (hq:N<=q) (m:Mod (fun x=>x=q) w w'):Vg wb R0 N w' v d s D nx:=by
 obtain ⟨R,sp,wk,k,w0,h1,h2,h3,h4,h5,h6,h7,h8,h9⟩:=h
 refine ⟨R,sp,wk,k,w0,h1.keep m (fun x hx e=>?_) (fun x hx e=>?_),h2.keep m (fun e=>?_),h3,h4,h5.trans m fun x hx e=>?_,Nat.le_trans h6 m.size,h7,h8,h9.keep m (fun e=>?_) h9.2.1 (Nat.le_refl _)⟩
 ·have:=(h4 x hx).2
  have e:x=q:=e
  omega
 ·have e:x=q:=e
  omega
 ·have:=h3.2.2.1
  have e:v=q:=e
  omega
 ·have e:x=q:=e
  omega
 ·have:=h9.2.2.2.2.1
  have e:wk=q:=e
  omega
theorem Vg.mod (h:Vg wb R0 N w v d s D nx):Mod R0 wb w:=by obtain ⟨_,_,_,_,_,_,_,_,_,h,_⟩:=h; exact h
theorem Vg.size (h:Vg wb R0 N w v d s D nx):N<=w.heap.size:=by obtain ⟨_,_,_,_,_,_,_,_,_,_,h,_⟩:=h; exact h
theorem Vg.at (h:Vg wb R0 N w v d s D nx):∃ sp wk,AtU w v 0 (vV s sp wk nx):=by obtain ⟨_,sp,wk,_,_,_,h,_⟩:=h; exact ⟨sp,wk,h⟩
theorem Vg.wf (h:Vg wb R0 N w v d s D nx):WF D:=by obtain ⟨_,_,_,_,_,h,_⟩:=h; exact h.wf.2.2.2.2
theorem Vg.geo (h:Vg wb R0 N w v d s D nx):Ru (Instr.loadAt 40 (.pointer (some (Addr.add (Addr.add ⟨v,0,none⟩ 0) 1)))) w (.agg ⟨gV s.geo⟩) w:=by
 obtain ⟨sp,wk,h⟩:=h.at
 exact fldA2 h.at agg_geo (by show 4<=7; omega) rfl
theorem Vg.next (h:Vg wb R0 N w v d s D nx):Ru (Instr.loadAt 2 (.pointer (some (Addr.add ⟨v,0,none⟩ 6)))) w (.int .i64 nx) w:=by
 obtain ⟨sp,wk,h⟩:=h.at
 exact h.at.fld sc_i64 rfl
theorem Vg.set (h:Vg wb R0 N w v d s D nx) (n:Int):∃ w',RuU (Instr.storeAt 2 (.pointer (some (Addr.add ⟨v,0,none⟩ 6))) (.int .i64 n)) w w'/\Vg wb R0 N w' v d s D n:=by
 obtain ⟨R,sp,wk,k,w0,h1,h2,h3,h4,h5,h6,h7,h8,h9⟩:=h
 obtain ⟨w',s1,s2,s3,s4⟩:=h2.putF (P:=Tryz.prog) (T:=2) (j:=6) (v:=.int .i64 n) sc_i64 (by show 6<7; omega) rfl
 refine ⟨w',s1,R,sp,wk,k,w0,h1.keep s3 (fun x hx e=>?_) (fun x hx e=>?_),s2,h3,h4,h5.trans s3 fun x hx e=>?_,by omega,h7,h8,h9.keep s3 (fun e=>h9.2.2.1 e) h9.2.1 (Nat.le_refl _)⟩
 ·have e:x=v:=e
  rw [e] at hx; exact h3.1 hx
 ·have e:x=v:=e
  have:=h3.2.1; omega
 ·have e:x=v:=e
  rw [e]
  exact h3.2.2.2.resolve_right (by omega)
theorem Vg.rd (h:Vg wb R0 N w v d s D nx) {n:Int} (h0:0<=n) (h1:n<D.vs.length)
  (hk:∀ w' g cc,Vg wb R0 w'.heap.size w' v d s D nx->Mod (fun x=>x<N) w w'->(∀ q w5 w6,N<=q->q<w.heap.size->Mod No w' w5->Mod (fun x=>x=q) w5 w6->Vg wb R0 w6.heap.size w6 v d s D nx)->AtU w' g 0 (u8L (rdB D n))->(rdB D n).length=256->256<=cc->K (.tuple #[.slice (some ⟨g,0,none⟩) 256 cc,.int .i64 0]) w') :
  ∃ p:Option Addr,Ru (Instr.loadAt 89 (.pointer (some (Addr.add ⟨v,0,none⟩ 4)))) w (.pointer p) w/\Cal Tryz.prog F_patch_Store_Read #[.pointer p,.int .i64 n] w K:=by
 have hwf:=h.wf
 obtain ⟨R,sp,wk,k,w0,a1,a2,a3,a4,a5,a6,a7,a8,a9⟩:=h
 refine ⟨_,a2.at.fld sc_store rfl,?_⟩
 obtain ⟨b,rfl⟩:=Int.eq_ofNat_of_zero_le h0
 have hb:b<D.vs.length:=by omega
 refine qReadC_c a1 rfl hb fun w1 w' g cc m1 m2 hP hg hat hcc=>?_
 have e1:rdB D b=atD D b:=(rd_at D hb).2
 have hz1:=m1.size
 have hz2:=m2.size
 have hz5:=a5.size
 have hv:v<w.heap.size:=by have:=a3.2.2.1; omega
 have hnv:¬ Gro R w w1 v:=by
  rintro (e | e)
  ·exact a3.1 e
  ·omega
 have hwk:¬ Gro R w w1 wk:=by
  rintro (e | e)
  ·exact a9.2.1 e
  ·have:=a9.2.2.2.2.1; omega
 have hR:∀ x,Gro R w w1 x->(R0 x\/wb.heap.size<=x)/\x<w1.heap.size:=fun x hx=>by
  rcases hx with hx | hx
  ·exact ⟨(a4 x hx).1,by have:=(a4 x hx).2; omega⟩
  ·exact ⟨.inr (by omega),by omega⟩
 have M:Mod R0 wb w':=(a5.trans m1 fun x hx e=>((a4 x e).1).resolve_right (by omega)).no m2
 have hV:=(a2.keep m1 a3.1).keep m2 id
 refine hk w' g cc ⟨_,sp,wk,k,w0,hP,hV,⟨hnv,a3.2.1,by omega,a3.2.2.2⟩,fun x hx=>⟨(hR x hx).1,by have:=(hR x hx).2; omega⟩,M,Nat.le_refl _,by omega,by omega,(a9.keep m1 a9.2.1 hwk (N':=w'.heap.size) (by omega)).keep m2 id hwk (Nat.le_refl _)⟩ ((m1.mono fun x _ e=>(a4 x e).2).no m2) (fun q w5 w6 hq1 hq2 m5 m6=>?_) ?_ ?_ hcc
 ·have hz3:=m5.size
  have hz4:=m6.size
  have hnq:∀ x,Gro R w w1 x->x≠q:=fun x hx e=>by
   subst e
   rcases hx with hx | hx
   ·have:=(a4 _ hx).2; omega
   ·omega
  refine ⟨_,sp,wk,k,w0,(hP.nos m5).keep m6 hnq (fun x hx e=>?_),(hV.keep m5 id).keep m6 (fun e=>?_),⟨hnv,a3.2.1,by omega,a3.2.2.2⟩,fun x hx=>⟨(hR x hx).1,by have:=(hR x hx).2; omega⟩,(M.no m5).trans m6 fun x hx e=>?_,Nat.le_refl _,by omega,by omega,(((a9.keep m1 a9.2.1 hwk (N':=w6.heap.size) (by omega)).keep m2 id hwk (Nat.le_refl _)).keep m5 id hwk (Nat.le_refl _)).keep m6 (fun e=>?_) hwk (Nat.le_refl _)⟩
  ·have e:x=q:=e
   omega
  ·have e:v=q:=e
   have:=a3.2.2.1; omega
  ·have e:x=q:=e
   omega
  ·have e:wk=q:=e
   have:=a9.2.2.2.2.1; omega
 ·rw [e1]; exact hat
 ·rw [e1]; unfold atD; rw [ver_at hb]; exact hwf.lastLen (List.getElem?_eq_getElem hb)
theorem gHead_in {g:Gm} {k b:Int} (h:gHead g k=(b,0)):0<=b/\b<gSize g:=by
 unfold gHead at h
 split at h
 ·rename_i hg
  split at h
  ·rename_i hk
   have e:gSize g=2+g.gs*g.gr:=by unfold gSize; rw [if_pos hg]
   obtain ⟨h1,_⟩:=gOk_iff.1 hg
   have hmul:(k+1)*g.gr<=g.gs*g.gr:=Int.mul_le_mul_of_nonneg_right (by omega) (by omega)
   have hp:0<=k*g.gr:=Int.mul_nonneg hk.1 (by omega)
   have hs:(k+1)*g.gr=k*g.gr+g.gr:=by rw [Int.add_mul,Int.one_mul]
   cases h
   omega
  ·cases h
 ·cases h
theorem vhd_c {k:Int} (h:Vg wb R0 N w v d s D nx) (hk:∀ w',Mod No w w'->K (.tuple #[.int .i64 (gHead s.geo k).1,.int .i64 (gHead s.geo k).2]) w'):Cal Tryz.prog F_vol_Vol_head #[.pointer (some ⟨v,0,none⟩),.int .i64 k] w K:=by
 apply C_vol_Vol_head
 unfold D_vol_Vol_head
 exact ff rfl ⟨_,rfl,_,h.geo,geoHead_c fun w' m=>⟨_,_,rfl,hk w' m⟩⟩
theorem vpl_c {k:Int} (h63:k<=9223372036854775807) (h:Vg wb R0 N w v d s D nx) (hk:∀ w',Mod No w w'->K (.tuple #[.int .i64 (gPlace s.geo k).1,.int .i64 (gPlace s.geo k).2.1,.int .i64 (gPlace s.geo k).2.2]) w'):Cal Tryz.prog F_vol_Vol_place #[.pointer (some ⟨v,0,none⟩),.int .i64 k] w K:=by
 apply C_vol_Vol_place
 unfold D_vol_Vol_place
 exact ff rfl ⟨_,rfl,_,h.geo,geoPlace_c h63 fun w' m=>⟨_,_,_,rfl,hk w' m⟩⟩
theorem vHead_c {k:Int} (h:Vg wb R0 N w v d s D nx) (hsz:gSize s.geo<=D.vs.length)
  (hk:∀ w',Vg wb R0 w'.heap.size w' v d s D nx->K (.tuple #[.agg ⟨hV (headAt D s.geo k).1⟩,.int .i64 (headAt D s.geo k).2]) w'):Cal Tryz.prog F_vol_Vol_Head #[.pointer (some ⟨v,0,none⟩),.int .i64 k] w K:=by
 apply C_vol_Vol_Head
 unfold D_vol_Vol_Head
 obtain ⟨w1,b1,b2,b3,b4⟩:=new_u (P:=Tryz.prog) (w:=w) (T:=119) zero_head
 have hN:=h.size
 have fin:∀ (w':World) (i:Hd) (e:Int),AtU w' w.heap.size 0 (hV hZ)->(∀ w6,Mod (fun x=>x=w.heap.size) w' w6->Vg wb R0 w6.heap.size w6 v d s D nx)->(i,e)=headAt D s.geo k->∃ w3:World,RuU (Instr.storeAt 119 (.pointer (some ⟨w.heap.size,0,none⟩)) (.agg ⟨hV i⟩)) w' w3/\∃ gR2:Array Value,Ru (Instr.loadAt 119 (.pointer (some ⟨w.heap.size,0,none⟩))) w3 (.agg gR2) w3/\K (.tuple #[.agg gR2,.int .i64 e]) w3:=fun w' i e hat hv he=>by
  have hw:hWf i:=by have:=headAt_wf D s.geo k; rw [<- he] at this; exact this
  obtain ⟨w3,c1,c2,c3,c4⟩:=hat.put (T:=119) (vs:=hV i) agg_head rfl (hV_len hw) (one_hV _)
  refine ⟨w3,c1,_,c2.at.all agg_head (hV_len hw),?_⟩
  have:=hk w3 (hv w3 c3)
  rw [<- he] at this
  exact this
 have h1:=h.nos b3
 refine ⟨_,w1,b1,vhd_c h1 fun w2 m2=>⟨_,_,rfl,?_⟩⟩
 have h2:=h1.nos m2
 rw [bneI]
 refine cond_of (fun he=>⟨_,build_head0,?_⟩) (fun he=>?_)
 ·have he:=of_decide_eq_true he
  exact fin w2 hZ _ (b2.keep m2 id) (fun w6 m6=>(h2.put hN m6).up) (by unfold headAt; rw [if_pos he])
 have he:=Classical.not_not.1 (of_decide_eq_false he)
 have hin:=gHead_in (g:=s.geo) (k:=k) (b:=(gHead s.geo k).1) (by rw [<- he])
 refine ⟨_,rfl,?_⟩
 have hs1:=b3.size
 have hs2:=m2.size
 refine h2.rd hin.1 (by omega) fun w4 g cc h4 m4 hput hat hl hcc=>⟨_,_,_,_,rfl,ff rfl ⟨_,rfl,_,h4.geo,?_⟩⟩
 refine headGet_c hl hcc (.inr ⟨_,_,rfl,hat.at⟩) (by omega) fun w6 m6=>⟨_,_,rfl,?_⟩
 exact fin w6 _ _ (((b2.keep m2 id).keep m4 (by show ¬ w.heap.size<N; omega)).keep m6 id) (fun w7 m7=>hput _ w6 w7 hN (by omega) m6 m7) (by unfold headAt; rw [if_neg (by rw [he]; decide)])
theorem vInode_c {k:Int} (h63:k<=9223372036854775807) (h:Vg wb R0 N w v d s D nx) (hsz:gSize s.geo<=D.vs.length)
  (hk:∀ w',Vg wb R0 w'.heap.size w' v d s D nx->K (.tuple #[.agg ⟨nV (slotAt D s.geo k).1⟩,.int .i64 (slotAt D s.geo k).2]) w'):Cal Tryz.prog F_vol_Vol_Inode #[.pointer (some ⟨v,0,none⟩),.int .i64 k] w K:=by
 apply C_vol_Vol_Inode
 unfold D_vol_Vol_Inode
 obtain ⟨w1,b1,b2,b3,b4⟩:=new_u (P:=Tryz.prog) (w:=w) (T:=218) zero_ino
 have hN:=h.size
 have fin:∀ (w':World) (i:Nd) (e:Int),AtU w' w.heap.size 0 (nV nZ)->(∀ w6,Mod (fun x=>x=w.heap.size) w' w6->Vg wb R0 w6.heap.size w6 v d s D nx)->(i,e)=slotAt D s.geo k->∃ w3:World,RuU (Instr.storeAt 218 (.pointer (some ⟨w.heap.size,0,none⟩)) (.agg ⟨nV i⟩)) w' w3/\∃ gR2:Array Value,Ru (Instr.loadAt 218 (.pointer (some ⟨w.heap.size,0,none⟩))) w3 (.agg gR2) w3/\K (.tuple #[.agg gR2,.int .i64 e]) w3:=fun w' i e hat hv he=>by
  have hw:nWf i:=by have:=slotAt_wf D s.geo k; rw [<- he] at this; exact this
  obtain ⟨w3,c1,c2,c3,c4⟩:=hat.put (T:=218) (vs:=nV i) agg_ino rfl (nV_len hw) (one_nV _)
  refine ⟨w3,c1,_,c2.at.all agg_ino (nV_len hw),?_⟩
  have:=hk w3 (hv w3 c3)
  rw [<- he] at this
  exact this
 have h1:=h.nos b3
 refine ⟨_,w1,b1,vpl_c h63 h1 fun w2 m2=>⟨_,_,_,rfl,?_⟩⟩
 have h2:=h1.nos m2
 rw [bneI]
 refine cond_of (fun he=>⟨_,build_ino0,?_⟩) (fun he=>?_)
 ·have he:=of_decide_eq_true he
  exact fin w2 nZ _ (b2.keep m2 id) (fun w6 m6=>(h2.put hN m6).up) (by unfold slotAt; rw [if_pos he])
 have he:=Classical.not_not.1 (of_decide_eq_false he)
 have hin:=gPlace_b (g:=s.geo) (s:=k) (b:=(gPlace s.geo k).1) (p:=(gPlace s.geo k).2.1) (by rw [<- he])
 refine ⟨_,rfl,?_⟩
 have hs1:=b3.size
 have hs2:=m2.size
 refine h2.rd (by omega) (by omega) fun w4 g cc h4 m4 hput hat hl hcc=>⟨_,_,_,_,rfl,ff rfl ?_⟩
 refine inoRead_c hl hcc (.inr ⟨_,_,rfl,hat.at⟩) (by omega) fun w6 m6=>⟨_,_,rfl,?_⟩
 exact fin w6 _ _ (((b2.keep m2 id).keep m4 (by show ¬ w.heap.size<N; omega)).keep m6 id) (fun w7 m7=>hput _ w6 w7 hN (by omega) m6 m7) (by unfold slotAt; rw [if_neg (by rw [he]; decide)])
end
end Go.Proofs.YtelhlihjihklbaaGreat
end
section
open Go Go.Den Go.Proofs
namespace Go.Proofs.YtelhlihjihklbaaGreat
section
variable {V:Ps} {g:Gm} {hs:List Hd}
theorem find_mapO (l:List On) (f:On->On) (hf:∀ o,(f o).b=o.b) (k:Int):(l.map f).find? (fun o=>(o.b:Int)==k)=(l.find? fun o=>(o.b:Int)==k).map f:=by
 rw [List.find?_map]
 congr 2
 funext o
 simp only [Function.comp]
 rw [hf]
theorem onOf_new (V:Ps) (b:Nat) (n:Int):onOf (newO V b) n=match onOf V n with | some o=>some o | none=>if (b:Int)=n then some ⟨b,contV V b,[]⟩ else none:=by
 unfold newO
 cases hb:onOf V b with
 | some o =>
  show onOf V n=_
  cases hn:onOf V n with
  | some o2=>rfl
  | none =>
   show none=_
   rw [if_neg fun e=>by rw [<- e,hb] at hn; cases hn]
 | none =>
  show (V.ons++[(⟨b,contV V b,[]⟩:On)]).find? (fun o=>(o.b:Int)==n)=_
  rw [List.find?_append]
  show (onOf V n).or _=_
  cases hn:onOf V n with
  | some o2=>rfl
  | none =>
   simp only [Option.none_or,List.find?_cons,List.find?_nil]
   by_cases e:(b:Int)=n
   ·rw [if_pos e]
    have:((b:Int)==n)=true:=by simpa using e
    rw [this]
   ·rw [if_neg e]
    have:((b:Int)==n)=false:=by simpa using e
    rw [this]
theorem contV_new (V:Ps) (b c:Nat):contV (newO V b) c=contV V c:=by
 have hC:=(newO_C (V:=V) (b:=b)).1
 have e:=onOf_new V b c
 unfold contV
 cases hc:onOf V c with
 | some o =>
  rw [hc] at e
  rw [e]
 | none =>
  rw [hc] at e
  simp only at e
  by_cases hb:(b:Int)=c
  ·rw [if_pos hb] at e
   rw [e]
   have hbc:b=c:=by omega
   subst hbc
   show withL (contV V b) []=_
   unfold contV
   rw [hc]; rfl
  ·rw [if_neg hb] at e
   rw [e]
   show atD (newO V b).C.D c=atD V.C.D c
   rw [hC]
theorem contV_add (V:Ps) (x:Ch) (c:Nat):contV (addX V x) c=if c=x.b then overB (contV V c) x.frm x.data else contV V c:=by
 rw [<- contV_new V x.b c]
 show contV (appO (newO V x.b) x) c=_
 have hon:∃ o,onOf (newO V x.b) x.b=some o:=by
  rw [onOf_new]
  cases onOf V x.b with
  | some o=>exact ⟨o,rfl⟩
  | none=>exact ⟨⟨x.b,contV V x.b,[]⟩,if_pos rfl⟩
 generalize newO V x.b=W at *
 have e:onOf (appO W x) c=(onOf W c).map (fun o=>if o.b=x.b then { o with l:=o.l++[x] } else o):=find_mapO W.ons _ (fun o=>by split <;> rfl) c
 show contV (appO W x) c=_
 unfold contV
 rw [e]
 cases hc:onOf W c with
 | none =>
  by_cases hcb:c=x.b
  ·obtain ⟨o,ho⟩:=hon
   rw [hcb,ho] at hc; cases hc
  ·rw [if_neg hcb]; rfl
 | some o =>
  have hob:=(onOf_some hc).2
  have hob:o.b=c:=by omega
  by_cases hcb:c=x.b
  ·rw [if_pos hcb]
   simp only [Option.map_some]
   rw [if_pos (by omega)]
   show withL o.base (o.l++[x])=_
   unfold withL
   rw [List.foldl_append]; rfl
  ·rw [if_neg hcb]
   simp only [Option.map_some]
   rw [if_neg (by omega)]
theorem contV_pat {n f:Int} {data:Bk} {after:List Int} (h:patE V n f data after=0) (c:Nat):contV (patS V n f data after) c=if c=n.toNat then overB (contV V c) f.toNat data else contV V c:=by
 have e:patS V n f data after=addX V (newX V n.toNat f.toNat data after):=by unfold patS; rw [if_pos h]
 rw [e,contV_add]; rfl
theorem patS_C0 (V:Ps) (n f:Int) (data:Bk) (after:List Int):(patS V n f data after).C=V.C:=(patS_C (V:=V) (C:=V.C) rfl).2.2
theorem patS_last {n f:Int} {data:Bk} {after:List Int} (h:patE V n f data after=0):(patS V n f data after).last=V.last+1:=by
 unfold patS; rw [if_pos h]; rfl
def HdsAt (V:Ps) (g:Gm) (hs:List Hd):Prop :=
 gOk g=true/\gSize g<=V.C.D.vs.length/\(hs.length:Int)=g.gs/\∀ (k:Nat) (h:Hd),hs[k]?=some h->contV V (2+k*g.gr).toNat=grpB g h/\hOk g h=true/\h.no=k/\hWf h
theorem head_pos {g:Gm} (hg:gOk g=true) {k:Nat} (hk:(k:Int)<g.gs):gHead g k=(2+k*g.gr,0)/\2<=2+(k:Int)*g.gr/\2+(k:Int)*g.gr<gSize g:=by
 have e:gHead g k=(2+k*g.gr,0):=by unfold gHead; rw [if_pos hg,if_pos ⟨by omega,hk⟩]
 obtain ⟨h1,_⟩:=gOk_iff.1 hg
 have hp:0<=(k:Int)*g.gr:=Int.mul_nonneg (by omega) (by omega)
 exact ⟨e,by omega,(gHead_in e).2⟩
theorem head_inj {g:Gm} (hg:gOk g=true) {j k:Nat} (h:(2+(j:Int)*g.gr).toNat=(2+(k:Int)*g.gr).toNat):j=k:=by
 obtain ⟨h1,_⟩:=gOk_iff.1 hg
 have hj:0<=(j:Int)*g.gr:=Int.mul_nonneg (by omega) (by omega)
 have hk:0<=(k:Int)*g.gr:=Int.mul_nonneg (by omega) (by omega)
 have e:(j:Int)*g.gr=k*g.gr:=by omega
 have:=Int.eq_of_mul_eq_mul_right (by omega) e
 omega
theorem HdsAt.lt (h:HdsAt V g hs) {k:Nat} {x:Hd} (hk:hs[k]?=some x):(k:Int)<g.gs:=by
 have:=(List.getElem?_eq_some_iff.1 hk).1
 have:=h.2.2.1
 omega
def setHB (g:Gm) (h:Hd):Bk:=(grpB g h).take 64
theorem setHB_len {g:Gm} {h:Hd} (hw:hWf h):(setHB g h).length=64:=by unfold setHB; rw [List.length_take,grpB_len hw]; rfl
def setHV (V:Ps) (g:Gm) (k:Nat) (h:Hd):Ps:=patS V (2+k*g.gr) 0 (setHB g h) []
theorem setH_E (hV:HdsAt V g hs) {k:Nat} (hk:(k:Int)<g.gs) {h:Hd} (hw:hWf h):patE V (2+k*g.gr) 0 (setHB g h) []=0:=by
 obtain ⟨_,p1,p2⟩:=head_pos hV.1 hk
 have:=hV.2.1
 have e:errOf V.C.D (2+k*g.gr)=0:=by unfold errOf; rw [if_neg (by omega)]
 unfold patE
 rw [e,if_neg (by decide),if_neg (by rw [setHB_len hw]; omega)]
 rfl
theorem HdsAt.set (hV:HdsAt V g hs) {k:Nat} (hk:(k:Int)<g.gs) {h:Hd} (hw:hWf h) (ho:hOk g h=true) (hn:h.no=k):HdsAt (setHV V g k h) g (hs.set k h):=by
 have hE:=setH_E hV hk (h:=h) hw
 obtain ⟨g1,g2,g3,g4⟩:=hV
 refine ⟨g1,by unfold setHV; rw [patS_C0]; exact g2,by simpa using g3,fun j x hj=>?_⟩
 unfold setHV
 rw [contV_pat hE]
 by_cases e:j=k
 ·subst e
  have hlt:j<hs.length:=by omega
  rw [List.getElem?_set_self hlt] at hj
  cases hj
  rw [if_pos rfl]
  obtain ⟨q1,q2,q3,q4⟩:=g4 j hs[j] (by simp [hlt])
  rw [q1]
  exact ⟨grp_over q4 hw,ho,hn,hw⟩
 ·rw [List.getElem?_set_ne (fun x=>e x.symm)] at hj
  rw [if_neg fun x=>e (head_inj g1 x)]
  exact g4 j x hj
end
def ringK (g:Gm) (s:Int) (i:Nat):Nat:=((s+i) % g.gs).toNat
def ringF (p:Int) (there:Bool) (i:Nat):Int:=if i=0/\there=true then p+1 else 0
def takeAt (g:Gm) (hs:List Hd) (fz:Int->Bool) (find:Hd->Int->Int) (s p:Int) (there:Bool) (i:Nat):Option (Nat×Int) :=
 if fz (ringK g s i)=true then none else
  match hs[ringK g s i]? with
  | some h=>if 0<=find h (ringF p there i) then some (ringK g s i,find h (ringF p there i)) else none
  | none=>none
def takeTo (g:Gm) (hs:List Hd) (fz:Int->Bool) (find:Hd->Int->Int) (s p:Int) (there:Bool):Nat->Option (Nat×Int)
 | 0=>none
 | n+1=>match takeTo g hs fz find s p there n with | some x=>some x | none=>takeAt g hs fz find s p there n
theorem ringK_lt {g:Gm} (hg:gOk g=true) (s:Int) (i:Nat):(ringK g s i:Int)<g.gs:=by
 obtain ⟨_,_,h3,_⟩:=gOk_iff.1 hg
 unfold ringK
 have h1:=Int.emod_nonneg (s+i) (show g.gs≠0 by omega)
 have h2:=Int.emod_lt_of_pos (s+i) (show 0<g.gs by omega)
 omega
end Go.Proofs.YtelhlihjihklbaaGreat
end
section
open Go Go.Den Go.Proofs
namespace Go.Proofs.YtelhlihjihklbaaGreat
theorem andnot_nat8 {a b:Nat} (ha:a<256) (hb:b<256):IntKind.u8.wrap (bvAndNot 8 (a:Int) (b:Int))=((a &&& (255-b):Nat):Int):=by
 have:bvAndNot 8 (a:Int) (b:Int)=((a &&& (255-b):Nat):Int):=by
  show (((_:BitVec 8).toNat:Nat):Int)=_
  rw [BitVec.ofInt_natCast,BitVec.ofInt_natCast,BitVec.toNat_and,BitVec.toNat_not,BitVec.toNat_ofNat,BitVec.toNat_ofNat,Nat.mod_eq_of_lt ha,Nat.mod_eq_of_lt hb]
 have hlt:a &&& (255-b)<=a:=Nat.and_le_left
 rw [this,wrapU8]; omega
section
variable {w:World} {K:Value->World->Prop}
theorem bitSet_c {a:Option Addr} {l c i:Nat} {on:Bool} {xs:List UInt8} (hl:xs.length=l) (hr:Row w a (u8L xs)) (h63:l<=1048576) (hi:i<8*l)
  (hk:∀ w' q,Mod No w w'->w.heap.size<=q->AtU w' q 0 (u8L (putB xs i on))->K (.tuple #[.slice (some ⟨q,0,none⟩) l l,.int .i64 0]) w'):Cal Tryz.prog F_bits_Set #[.slice a l c,.int .i64 i,.bool on] w K:=by
 apply C_bits_Set
 unfold D_bits_Set
 apply C_bits_there
 unfold D_bits_there
 refine Share.dup (tt (decide_eq_true (by omega)) ⟨_,rfl,_,rfl,ff ?_ ?_⟩)
 ·rw [wrap64 (x:=8*(l:Int)) (by omega) (by omega),decide_eq_true (by omega)]; rfl
 have hi8:i / 8<xs.length:=by omega
 have d1:IntKind.i64.wrap (Int.tdiv (i:Int) 8)=((i / 8:Nat):Int):=by rw [Int.tdiv_eq_ediv_of_nonneg (by omega),wrap64 (by omega) (by omega)]; omega
 have d2:Int.tmod (i:Int) 8=((i % 8:Nat):Int):=by rw [Int.tmod_eq_emod_of_nonneg (by omega)]; omega
 rw [d1,d2]
 have hp8:=pow8 (k:=i % 8) (by omega)
 obtain ⟨w1,a1,a2,a3,a4⟩:=makeSlice_run (P:=Tryz.prog) (w:=w) (n:=l) elemZ_bytes (by omega) (by omega) (by omega)
 obtain ⟨w2,b1,b2,b3,b4⟩:=copy_run (P:=Tryz.prog) (T:=88) (T2:=88) (ty:=3) (n:=l) (n2:=l) (c:=l) (c2:=c) elemN_bytes a2 (by simp) (hr.nos a3) (by rw [length_u8L,hl]; omega) (one_u8L _)
 have e2:splice (List.replicate (l*1) (Value.int .u8 0)) 0 ((u8L xs).take (Nat.min l l*1))=u8L xs:=by
  unfold splice
  rw [List.take_zero,List.nil_append,List.take_of_length_le (by rw [length_u8L,hl]; simp),List.drop_eq_nil_of_le (by rw [length_u8L,hl]; simp),List.append_nil]
 rw [e2] at b2
 have ix:Al (Instr.indexAt 88 (.slice (some ⟨w.heap.size,0,none⟩) l l) (.int .i64 ((i / 8:Nat):Int))) (.pointer (some ⟨w.heap.size,i / 8,none⟩)):=by
  have:=index_slice (P:=Tryz.prog) (T:=88) (k:=1) (n:=l) (c:=l) (a:=⟨w.heap.size,0,none⟩) (kk:=.i64) (i:=((i / 8:Nat):Int)) elemN_bytes (by omega) (by omega)
  rw [add_none,show 0+((i / 8:Nat):Int).toNat*1=i / 8 by omega] at this
  exact this
 have n1:(xs.getD (i / 8) 0).toNat &&& (255-2 ^ (i % 8))<256:=Nat.lt_of_le_of_lt Nat.and_le_left (xs.getD (i / 8) 0).toNat_lt
 obtain ⟨w4,c1,c2,c3,c4⟩:=b2.drew.store (P:=Tryz.prog) (T:=5) (i:=i / 8) (v:=.int .u8 (((xs.getD (i / 8) 0).toNat &&& (255-2 ^ (i % 8)):Nat):Int)) (by kernel_rfl) (by rw [length_u8L]; omega) rfl
 rw [u8L_set _ _ _ n1] at c2
 have c2:AtU w4 w.heap.size 0 (u8L (clrB xs i)):=c2
 have M2:Mod No w w2:=a3.own b3 (Nat.le_refl _)
 have M4:Mod No w w4:=M2.drew.own c3 (Nat.le_refl _)
 have g0:xs.getD (i / 8) 0=xs[i / 8]:=by rw [List.getD_eq_getElem?_getD,List.getElem?_eq_getElem hi8]; rfl
 refine ⟨_,_,_,w1,a1,_,w2,b1,_,ix,((xs.getD (i / 8) 0).toNat:Int),?_,_,shl8 (by omega),_,ix,w4,?_,?_⟩
 ·have:=b2.at.drew.load (P:=Tryz.prog) (T:=5) (i:=i / 8) (by kernel_rfl) (u8L_get hi8)
  rw [Nat.zero_add] at this
  rw [g0]; exact this
 ·rw [one_shl (Nat.mod_lt _ (by omega)),andnot_nat8 (UInt8.toNat_lt _) hp8]
  rw [Nat.zero_add] at c1
  exact c1
 refine Share.cut (fun z w6=>AtU w6 w.heap.size 0 (u8L (putB xs i on))/\Mod No w w6) ?_ ?_
 ·cases on with
  | false=>exact ⟨c2,M4⟩
  | true =>
   have hc8:i / 8<(clrB xs i).length:=by rw [clrB_len]; exact hi8
   have n2:((clrB xs i).getD (i / 8) 0).toNat ||| 2 ^ (i % 8)<256:=Nat.or_lt_two_pow (n:=8) (UInt8.toNat_lt _) hp8
   obtain ⟨w5,d1,d2,d3,d4⟩:=c2.drew.store (P:=Tryz.prog) (T:=5) (i:=i / 8) (v:=.int .u8 ((((clrB xs i).getD (i / 8) 0).toNat ||| 2 ^ (i % 8):Nat):Int)) (by kernel_rfl) (by rw [length_u8L]; omega) rfl
   rw [u8L_set _ _ _ n2] at d2
   have g1:(clrB xs i).getD (i / 8) 0=(clrB xs i)[i / 8]:=by rw [List.getD_eq_getElem?_getD,List.getElem?_eq_getElem hc8]; rfl
   refine ⟨_,ix,(((clrB xs i).getD (i / 8) 0).toNat:Int),?_,_,shl8 (by omega),_,ix,w5,?_,d2,M4.drew.own d3 (Nat.le_refl _)⟩
   ·have:=c2.at.drew.load (P:=Tryz.prog) (T:=5) (i:=i / 8) (by kernel_rfl) (u8L_get hc8)
    rw [Nat.zero_add] at this
    rw [g1]; exact this
   ·rw [one_shl (Nat.mod_lt _ (by omega)),or_nat8 (UInt8.toNat_lt _) hp8]
    rw [Nat.zero_add] at d1
    exact d1
 ·rintro z w6 ⟨h1,h2⟩
  exact hk w6 _ h2 (Nat.le_refl _) h1
def fstB (xs:List UInt8) (i:Nat):Int:=match (List.range i).find? (clearB xs) with | some j=>j | none=>-1
theorem bitFirst_c {a:Option Addr} {l c:Nat} {n f:Int} {xs:List UInt8} (hl:xs.length=l) (hr:Row w a (u8L xs)) (h63:l<=1048576) (hk:∀ w',Mod No w w'->K (.int .i64 (firstB xs n f)) w'):Cal Tryz.prog F_bits_First #[.slice a l c,.int .i64 n,.int .i64 f] w K:=by
 apply C_bits_First
 unfold D_bits_First
 refine Share.cut (fun z w1=>w1=w/\z=[.bool (decide (f<0\/n<f))]) (cond_of (fun h=>⟨rfl,?_⟩) (fun h=>⟨rfl,?_⟩)) ?_
 ·rw [decide_eq_true (show f<0\/n<f from .inl (of_decide_eq_true h))]
 ·have h:=of_decide_eq_false h
  congr 2
  exact decide_eq_decide.2 ⟨.inr,fun e=>e.resolve_left h⟩
 rintro z w1 ⟨rfl,rfl⟩
 refine ⟨_,rfl,Share.cut (fun z w2=>w2=w1/\z=[.int .i64 (fromB n f)]) (cond_of (fun h=>⟨rfl,?_⟩) (fun h=>⟨rfl,?_⟩)) ?_⟩
 ·unfold fromB; rw [if_pos (of_decide_eq_true h)]
 ·unfold fromB; rw [if_neg (of_decide_eq_false h)]
 rintro z w2 ⟨rfl,rfl⟩
 apply C_bits_most
 unfold D_bits_most
 refine ⟨_,rfl,?_⟩
 rw [wrap64 (x:=8*(l:Int)) (by omega) (by omega)]
 have em:(if 8*(l:Int)<(if 0 > n then 0 else n) then 8*(l:Int) else (if 0 > n then 0 else n))=(upB xs n:Int):=by
  unfold upB; rw [hl]; split <;> split <;> omega
 rw [em]
 have hu:upB xs n<=8*l:=by unfold upB; omega
 generalize hm:upB xs n=m at *
 refine ⟨fun x w3=>∃ j:Nat,j<=m/\x=[.int .i64 (fstB xs j),.int .i64 j]/\(List.range j).find? (fun i=>clearB xs i&&decide (fromB n f<=i))=none/\Mod No w2 w3,fun x _=>(m-nI x 1).toNat,⟨0,by omega,rfl,rfl,Mod.refl _ _⟩,?_⟩
 rintro x w3 ⟨j,hj,rfl,hno,m3⟩
 refine ⟨_,rfl,cond_of (fun h=>?_) (fun h=>?_)⟩
 ·have h:=of_decide_eq_true h
  have hs:=find_range_succ (clearB xs) j
  have hs2:=find_range_succ (fun i=>clearB xs i&&decide (fromB n f<=i)) j
  rw [hno] at hs2
  have hs2:(List.range (j+1)).find? (fun i=>clearB xs i&&decide (fromB n f<=i))=if (clearB xs j&&decide (fromB n f<=j))=true then some j else none:=hs2
  refine Share.cut (fun z w5=>z=[.int .i64 (fstB xs (j+1))]/\(List.range (j+1)).find? (fun i=>clearB xs i&&decide (fromB n f<=i))=none/\Mod No w2 w5) ?_ ?_
  ·refine bitGet_c (xs:=xs) hl (hr.nos m3) h63 (by omega) fun w5 m5=>⟨_,rfl,cond_of (fun h2=>⟨?_,?_,m3.no m5⟩) (fun h2=>⟨_,rfl,cond_of (fun h3=>?_) (fun h3=>⟨_,rfl,?_⟩)⟩)⟩
   ·have hc:clearB xs j=false:=by unfold clearB; rw [h2]; rfl
    unfold fstB
    rw [hs,hc]
    cases (List.range j).find? (clearB xs) <;> rfl
   ·have hc:clearB xs j=false:=by unfold clearB; rw [h2]; rfl
    rw [hs2,hc]; rfl
   ·have h3:=of_decide_eq_true h3
    have hc:clearB xs j=true:=by unfold clearB; rw [h2]; rfl
    have hc2:(clearB xs j&&decide (fromB n f<=j))=true:=by rw [hc,decide_eq_true (by omega)]; rfl
    rw [if_pos hc2] at hs2
    have e:firstB xs n f=j:=by
     unfold firstB
     rw [hm,find_range_mono hs2 (by omega)]
    rw [<- e]
    exact hk _ (m3.no m5)
   ·have h3:=of_decide_eq_false h3
    have hc:clearB xs j=true:=by unfold clearB; rw [h2]; rfl
    have hc2:(clearB xs j&&decide (fromB n f<=j))=false:=by rw [hc,decide_eq_false (by omega)]; rfl
    rw [hc2] at hs2
    rw [hc] at hs
    refine Share.cut (fun z w6=>w6=w5/\z=[.int .i64 (fstB xs (j+1))]) (cond_of (fun h4=>⟨rfl,?_⟩) (fun h4=>⟨rfl,?_⟩)) ?_
    ·have h4:=of_decide_eq_true h4
     unfold fstB at h4 |-
     rw [hs]
     cases hf:(List.range j).find? (clearB xs) with
     | none=>rfl
     | some i=>rw [hf] at h4; simp only at h4; omega
    ·have h4:=of_decide_eq_false h4
     unfold fstB at h4 |-
     rw [hs]
     cases hf:(List.range j).find? (clearB xs) with
     | none=>rw [hf] at h4; simp only at h4; omega
     | some i=>rfl
    ·rintro z w6 ⟨rfl,rfl⟩
     exact ⟨rfl,hs2,m3.no m5⟩
  ·rintro z w5 ⟨rfl,h1,h2⟩
   rw [wrap64 (x:=(j:Int)+1) (by omega) (by omega)]
   exact ⟨⟨j+1,by omega,rfl,h1,h2⟩,by simp [nI,nth]; omega⟩
 ·have h:=of_decide_eq_false h
  have:j=m:=by omega
  subst this
  refine ⟨_,rfl,?_⟩
  have e:firstB xs n f=fstB xs j:=by
   unfold firstB fstB
   rw [hm,hno]
   cases (List.range j).find? (clearB xs) <;> rfl
  rw [<- e]
  exact hk _ m3
end
end Go.Proofs.YtelhlihjihklbaaGreat
end
section
open Go Go.Den Go.Proofs
namespace Go.Proofs.YtelhlihjihklbaaGreat
theorem gTabs_b {g:Gm}:0<=gTabs g/\gTabs g<=16:=by
 unfold gTabs
 split
 ·rename_i h
  obtain ⟨_,_,_,_,h5,h6,_⟩:=gOk_iff.1 h
  omega
 ·omega
section
variable {w:World} {K:Value->World->Prop}
theorem grMay_c {g:Gm} {h:Hd} {i f t:Int} (hw:hWf h) (hk:∀ w',Mod No w w'->K (.int .i64 (grMay g h i f t)) w') :
  Cal Tryz.prog F_group_may #[.agg ⟨gV g⟩,.agg ⟨hV h⟩,.int .i64 i,.int .i64 f,.int .i64 t] w K:=by
 apply C_group_may
 unfold D_group_may
 obtain ⟨w1,a1,a2,a3,a4⟩:=box_u (P:=Tryz.prog) (w:=w) (T:=40) (cs:=gV g)
 obtain ⟨w2,b1,b2,b3,b4⟩:=box_u (P:=Tryz.prog) (w:=w1) (T:=119) (cs:=hV h)
 have m2:=a3.no b3
 refine ⟨_,w1,a1,_,w2,b1,_,(a2.at.keep b3 id).all agg_geo rfl,_,b2.at.all agg_head (hV_len hw),hRight_c hw fun w3 m3=>⟨_,rfl,cond_of (fun ho=>?_) (fun ho=>?_)⟩⟩
 ·have e:grMay g h i f t=1:=by unfold grMay; rw [if_pos (by simpa using ho)]
  rw [<- e]; exact hk _ (m2.no m3)
 have ho:hOk g h=true:=by simpa using ho
 refine Share.cut (fun z w4=>w4=w3/\z=[.bool (decide (i<f\/t<=i))]) (cond_of (fun hb=>⟨rfl,?_⟩) (fun hb=>⟨rfl,?_⟩)) ?_
 ·rw [decide_eq_true (show i<f\/t<=i from .inl (of_decide_eq_true hb))]
 ·have hb:=of_decide_eq_false hb
  congr 2
  exact decide_eq_decide.2 ⟨.inr,fun e=>e.resolve_left hb⟩
 rintro z w4 ⟨rfl,rfl⟩
 refine ⟨_,rfl,cond_of (fun hb=>?_) (fun hb=>?_)⟩
 ·have e:grMay g h i f t=3:=by unfold grMay; rw [if_neg (by rw [ho]; decide),if_pos (of_decide_eq_true hb)]
  rw [<- e]; exact hk _ (m2.no m3)
 ·have e:grMay g h i f t=0:=by unfold grMay; rw [if_neg (by rw [ho]; decide),if_neg (of_decide_eq_false hb)]
  rw [<- e]; exact hk _ (m2.no m3)
theorem grUse_c {b o l c i:Nat} {on:Bool} {cs:List Value} {xs:List UInt8} (hl:xs.length=l) (hat:AtU w b 0 cs) (hx:(cs.drop o).take l=u8L xs) (hol:o+l<=cs.length) (h63:l<=1048576) (hi:i<8*l)
  (hk:∀ w',Mod (fun x=>x=b) w w'->AtU w' b 0 (if bitB xs i=on then cs else splice cs o (u8L (putB xs i on)))->K (.int .i64 (if bitB xs i=on then 6 else 0)) w') :
  Cal Tryz.prog F_group_use #[.slice (some ⟨b,o,none⟩) l c,.int .i64 i,.bool on] w K:=by
 apply C_group_use
 unfold D_group_use
 have hr:Row w (some ⟨b,o,none⟩) (u8L xs):=.inr ⟨b,o,rfl,by
  have:=hat.at.sub (i:=o) (m:=l) (by omega)
  rw [Nat.zero_add,hx] at this; exact this⟩
 refine bitGet_c hl hr h63 (by omega) fun w1 m1=>⟨_,rfl,cond_of (fun h=>?_) (fun h=>?_)⟩
 ·have h:bitB xs i=on:=by simpa using h
  rw [if_pos h,if_pos h] at hk
  exact hk w1 (m1.mono fun _ _ e=>e.elim) (hat.keep m1 id)
 ·have h:¬ bitB xs i=on:=by simpa using h
  rw [if_neg h,if_neg h] at hk
  refine bitSet_c hl (hr.nos m1) h63 hi fun w2 q m2 hq hat2=>⟨_,_,_,_,rfl,?_⟩
  obtain ⟨w3,p1,p2,p3,p4⟩:=copy_in (P:=Tryz.prog) (T:=88) (T2:=88) (ty:=3) (o:=0) (i:=o) (n:=l) (c:=c) (n2:=l) (c2:=l) (a2:=some ⟨q,0,none⟩) elemN_bytes ((hat.keep m1 id).keep m2 id) (by omega) (.inr ⟨q,0,rfl,hat2.at⟩) (by rw [length_u8L,putB_len,hl]; omega) (one_u8L _)
  rw [Nat.zero_add] at p1
  rw [List.take_of_length_le (by rw [length_u8L,putB_len,hl]; simp)] at p2
  exact ⟨_,w3,p1,hk w3 (((m1.no m2).mono fun _ _ e=>e.elim).trans p3 fun _ _ e=>e) p2⟩
theorem hV_dropb {h:Hd} (hw:hWf h):((hV h).drop 1).take 16=u8L h.bs:=by
 unfold hV
 rw [List.drop_succ_cons,List.drop_zero,List.take_append_of_le_length (by rw [length_u8L,hw.1]; omega),List.take_of_length_le (by rw [length_u8L,hw.1]; omega)]
theorem hV_drops {h:Hd} (hw:hWf h):((hV h).drop 17).take 8=u8L h.ss:=by
 unfold hV
 rw [show 17=16+1 from rfl,List.drop_succ_cons,List.drop_append,List.drop_eq_nil_of_le (by rw [length_u8L,hw.1]; omega),length_u8L,hw.1,Nat.sub_self,List.drop_zero,List.nil_append,List.take_of_length_le (by rw [length_u8L,hw.2]; omega)]
theorem useBk_c {g:Gm} {h:Hd} {i:Int} {on:Bool} (hw:hWf h) (hk:∀ w',Mod No w w'->K (.tuple #[.agg ⟨hV (useBk g h i on).1⟩,.int .i64 (useBk g h i on).2]) w') :
  Cal Tryz.prog F_group_UseBlock #[.agg ⟨gV g⟩,.agg ⟨hV h⟩,.int .i64 i,.bool on] w K:=by
 apply C_group_UseBlock
 unfold D_group_UseBlock
 obtain ⟨w1,a1,a2,a3,a4⟩:=box_u (P:=Tryz.prog) (w:=w) (T:=40) (cs:=gV g)
 obtain ⟨w2,b1,b2,b3,b4⟩:=box_u (P:=Tryz.prog) (w:=w1) (T:=119) (cs:=hV h)
 obtain ⟨w3,c1,c2,c3,c4⟩:=new_u (P:=Tryz.prog) (w:=w2) (T:=119) zero_head
 have m2:=a3.no b3
 have m3:=(m2.no c3).drew
 have q1:AtU (Go.Den.drew w3) w.heap.size 0 (gV g):=((a2.keep b3 id).keep c3 id).drew
 have q2:AtU (Go.Den.drew w3) w1.heap.size 0 (hV h):=(b2.keep c3 id).drew
 have q3:AtU (Go.Den.drew w3) w2.heap.size 0 (hV hZ):=c2.drew
 have z1:=a3.size
 have z2:=b3.size
 have n12:w1.heap.size<w2.heap.size:=b2.lt
 refine ⟨_,w1,a1,_,w2,b1,_,w3,c1,_,q1.at.all agg_geo rfl,_,q2.at.all agg_head (hV_len hw),_,q1.at.all agg_geo rfl,_,q1.at.fld sc_int rfl,geoTabs_c fun w4 m4=>⟨_,rfl,(q1.keep m4 id).at.all agg_geo rfl,(q2.keep m4 id).at.all agg_head (hV_len hw),(q1.keep m4 id).at.fld sc_int rfl,?_⟩⟩
 have htb:=gTabs_b (g:=g)
 rw [wrap64 (x:=1+gTabs g) (by omega) (by omega)]
 refine grMay_c hw fun w5 m5=>⟨_,rfl,?_⟩
 have m45:=m4.no m5
 have p2:=q2.keep m45 id
 have p3:=q3.keep m45 id
 have M5:=m3.no m45
 refine Share.cut (fun z w7=>∃ e h',z=[.int .i64 e]/\Mod No w w7/\AtU w7 w1.heap.size 0 (hV h')/\AtU w7 w2.heap.size 0 (hV hZ)/\hWf h'/\useBk g h i on=if e≠0 then (hZ,e) else (h',0)) ?_ ?_
 ·rw [beqI]
  refine cond_of (fun he=>?_) (fun he=>?_)
  ·have he:=of_decide_eq_true he
   obtain ⟨ho,f1,f2⟩:=grMay_0 he
   obtain ⟨g1,_⟩:=hOk_iff.1 ho
   obtain ⟨_,gr2,_⟩:=gOk_iff.1 g1
   obtain ⟨j,rfl⟩:=Int.eq_ofNat_of_zero_le (show 0<=i by omega)
   have ad1:Addr.add ⟨w1.heap.size,0,none⟩ 1=⟨w1.heap.size,1,none⟩:=by rw [add_none]
   rw [ad1]
   refine ⟨_,_,_,sliceA_all arr16,?_⟩
   refine grUse_c (o:=1) (l:=16) (xs:=h.bs) hw.1 p2 (hV_dropb hw) (by rw [hV_len hw]; omega) (by omega) (by omega) fun w6 m6 h6=>⟨_,rfl,?_⟩
   have hU:useBk g h j on=if bitB h.bs j=on then (hZ,6) else (⟨h.no,putB h.bs j on,h.ss⟩,0):=by
    unfold useBk; rw [if_neg (by rw [he]; decide)]; rfl
   rw [hU]
   by_cases hb:bitB h.bs j=on
   ·rw [if_pos hb] at h6 |-
    exact ⟨_,h,rfl,M5.own m6 (by omega),h6,p3.keep m6 (fun e=>by have e:w2.heap.size=w1.heap.size:=e; omega),hw,by rw [if_pos hb]; rfl⟩
   ·rw [if_neg hb] at h6 |-
    rw [splice_b hw (by rw [putB_len]; exact hw.1)] at h6
    exact ⟨_,_,rfl,M5.own m6 (by omega),h6,p3.keep m6 (fun e=>by have e:w2.heap.size=w1.heap.size:=e; omega),⟨by show (putB _ _ _).length=16; rw [putB_len]; exact hw.1,hw.2⟩,by rw [if_neg hb]; rfl⟩
  ·have he:=of_decide_eq_false he
   exact ⟨_,h,rfl,M5,p2,p3,hw,by unfold useBk; rw [if_pos he,if_pos he]⟩
 rintro z w7 ⟨e,h',rfl,m7,x2,x3,hw',hU⟩
 refine ⟨_,rfl,?_⟩
 rw [bneI]
 refine cond_of (fun he=>⟨_,build_head0,?_⟩) (fun he=>?_)
 ·have he:=of_decide_eq_true he
  rw [if_pos he] at hU
  rw [hU] at hk
  obtain ⟨w8,y1,y2,y3,y4⟩:=x3.put (T:=119) (vs:=hV hZ) agg_head (hV_len hZ_wf) (hV_len hZ_wf) (one_hV _)
  exact ⟨w8,y1,_,y2.at.all agg_head (hV_len hZ_wf),hk w8 (m7.own y3 (by omega))⟩
 ·have he:=of_decide_eq_false he
  rw [if_neg he] at hU
  rw [hU] at hk
  obtain ⟨w8,y1,y2,y3,y4⟩:=x3.put (T:=119) (vs:=hV h') agg_head (hV_len hZ_wf) (hV_len hw') (one_hV _)
  exact ⟨_,x2.at.all agg_head (hV_len hw'),w8,y1,_,y2.at.all agg_head (hV_len hw'),hk w8 (m7.own y3 (by omega))⟩
theorem useSl_c {g:Gm} {h:Hd} {i:Int} {on:Bool} (hw:hWf h) (hk:∀ w',Mod No w w'->K (.tuple #[.agg ⟨hV (useSl g h i on).1⟩,.int .i64 (useSl g h i on).2]) w') :
  Cal Tryz.prog F_group_UseSlot #[.agg ⟨gV g⟩,.agg ⟨hV h⟩,.int .i64 i,.bool on] w K:=by
 apply C_group_UseSlot
 unfold D_group_UseSlot
 obtain ⟨w1,a1,a2,a3,a4⟩:=box_u (P:=Tryz.prog) (w:=w) (T:=40) (cs:=gV g)
 obtain ⟨w2,b1,b2,b3,b4⟩:=box_u (P:=Tryz.prog) (w:=w1) (T:=119) (cs:=hV h)
 obtain ⟨w3,c1,c2,c3,c4⟩:=new_u (P:=Tryz.prog) (w:=w2) (T:=119) zero_head
 have m3:=(a3.no b3).no c3
 have q1:AtU w3 w.heap.size 0 (gV g):=(a2.keep b3 id).keep c3 id
 have q2:AtU w3 w1.heap.size 0 (hV h):=b2.keep c3 id
 have q3:AtU w3 w2.heap.size 0 (hV hZ):=c2
 have z1:=a3.size
 have z2:=b3.size
 have n12:w1.heap.size<w2.heap.size:=b2.lt
 refine ⟨_,w1,a1,_,w2,b1,_,w3,c1,_,q2.at.fld sc_int rfl,Share.cut (fun z w4=>w4=w3/\z=[.int .i64 (slF h)]) ?_ ?_⟩
 ·rw [beqI]
  refine cond_of (fun he=>⟨rfl,?_⟩) (fun he=>⟨rfl,?_⟩)
  ·unfold slF; rw [if_pos (of_decide_eq_true he)]
  ·unfold slF; rw [if_neg (of_decide_eq_false he)]
 rintro z w4 ⟨rfl,rfl⟩
 refine ⟨_,q1.at.all agg_geo rfl,_,q2.at.all agg_head (hV_len hw),_,rfl,_,q1.at.fld sc_int rfl,?_⟩
 refine grMay_c hw fun w5 m5=>⟨_,rfl,?_⟩
 have p2:=q2.keep m5 id
 have p3:=q3.keep m5 id
 have M5:=m3.no m5
 refine Share.cut (fun z w7=>∃ e h',z=[.int .i64 e]/\Mod No w w7/\AtU w7 w1.heap.size 0 (hV h')/\AtU w7 w2.heap.size 0 (hV hZ)/\hWf h'/\useSl g h i on=if e≠0 then (hZ,e) else (h',0)) ?_ ?_
 ·rw [beqI]
  refine cond_of (fun he=>?_) (fun he=>?_)
  ·have he:=of_decide_eq_true he
   obtain ⟨ho,f1,f2⟩:=grMay_0 he
   obtain ⟨g1,_⟩:=hOk_iff.1 ho
   obtain ⟨_,_,_,_,gn1,gn2,_⟩:=gOk_iff.1 g1
   have hf:0<=slF h:=by unfold slF; split <;> decide
   obtain ⟨j,rfl⟩:=Int.eq_ofNat_of_zero_le (show 0<=i by omega)
   have ad1:Addr.add ⟨w1.heap.size,0,none⟩ 17=⟨w1.heap.size,17,none⟩:=by rw [add_none]
   rw [ad1]
   refine ⟨_,_,_,sliceA_all arr8,?_⟩
   refine grUse_c (o:=17) (l:=8) (xs:=h.ss) hw.2 p2 (hV_drops hw) (by rw [hV_len hw]; omega) (by omega) (by omega) fun w6 m6 h6=>⟨_,rfl,?_⟩
   have hU:useSl g h j on=if bitB h.ss j=on then (hZ,6) else (⟨h.no,h.bs,putB h.ss j on⟩,0):=by
    unfold useSl; rw [if_neg (by rw [he]; decide)]; rfl
   rw [hU]
   by_cases hb:bitB h.ss j=on
   ·rw [if_pos hb] at h6 |-
    exact ⟨_,h,rfl,M5.own m6 (by omega),h6,p3.keep m6 (fun e=>by have e:w2.heap.size=w1.heap.size:=e; omega),hw,by rw [if_pos hb]; rfl⟩
   ·rw [if_neg hb] at h6 |-
    rw [splice_s hw (by rw [putB_len]; exact hw.2)] at h6
    exact ⟨_,_,rfl,M5.own m6 (by omega),h6,p3.keep m6 (fun e=>by have e:w2.heap.size=w1.heap.size:=e; omega),⟨hw.1,by show (putB _ _ _).length=8; rw [putB_len]; exact hw.2⟩,by rw [if_neg hb]; rfl⟩
  ·have he:=of_decide_eq_false he
   exact ⟨_,h,rfl,M5,p2,p3,hw,by unfold useSl; rw [if_pos he,if_pos he]⟩
 rintro z w7 ⟨e,h',rfl,m7,x2,x3,hw',hU⟩
 refine ⟨_,rfl,?_⟩
 rw [bneI]
 refine cond_of (fun he=>⟨_,build_head0,?_⟩) (fun he=>?_)
 ·have he:=of_decide_eq_true he
  rw [if_pos he] at hU
  rw [hU] at hk
  obtain ⟨w8,y1,y2,y3,y4⟩:=x3.put (T:=119) (vs:=hV hZ) agg_head (hV_len hZ_wf) (hV_len hZ_wf) (one_hV _)
  exact ⟨w8,y1,_,y2.at.all agg_head (hV_len hZ_wf),hk w8 (m7.own y3 (by omega))⟩
 ·have he:=of_decide_eq_false he
  rw [if_neg he] at hU
  rw [hU] at hk
  obtain ⟨w8,y1,y2,y3,y4⟩:=x3.put (T:=119) (vs:=hV h') agg_head (hV_len hZ_wf) (hV_len hw') (one_hV _)
  exact ⟨_,x2.at.all agg_head (hV_len hw'),w8,y1,_,y2.at.all agg_head (hV_len hw'),hk w8 (m7.own y3 (by omega))⟩
theorem findBk_c {g:Gm} {h:Hd} {f:Int} (hw:hWf h) (hk:∀ w',Mod No w w'->K (.int .i64 (findBk g h f)) w') :
  Cal Tryz.prog F_group_FindBlock #[.agg ⟨gV g⟩,.agg ⟨hV h⟩,.int .i64 f] w K:=by
 apply C_group_FindBlock
 unfold D_group_FindBlock
 obtain ⟨w1,a1,a2,a3,a4⟩:=box_u (P:=Tryz.prog) (w:=w) (T:=40) (cs:=gV g)
 obtain ⟨w2,b1,b2,b3,b4⟩:=box_u (P:=Tryz.prog) (w:=w1) (T:=119) (cs:=hV h)
 have m2:=a3.no b3
 have q1:=a2.keep b3 id
 refine ⟨_,w1,a1,_,w2,b1,_,q1.at.all agg_geo rfl,_,b2.at.all agg_head (hV_len hw),hRight_c hw fun w3 m3=>⟨_,rfl,cond_of (fun ho=>?_) (fun ho=>?_)⟩⟩
 ·have e:findBk g h f=-1:=by unfold findBk; rw [if_neg (by simpa using ho)]
  rw [<- e]; exact hk _ (m2.no m3)
 have e:findBk g h f=firstB h.bs g.gr f:=by unfold findBk; rw [if_pos (by simpa using ho)]
 have ad1:Addr.add ⟨w1.heap.size,0,none⟩ 1=⟨w1.heap.size,1,none⟩:=by rw [add_none]
 rw [ad1]
 have hb:=(b2.keep m3 id).drew.at.sub (i:=1) (m:=16) (by rw [hV_len hw]; omega)
 rw [hV_dropb hw] at hb
 refine ⟨_,_,_,sliceA_all arr16,_,(q1.keep m3 id).drew.at.fld sc_int rfl,bitFirst_c (xs:=h.bs) hw.1 (.inr ⟨_,_,rfl,hb⟩) (by omega) fun w4 m4=>⟨_,rfl,?_⟩⟩
 rw [<- e]; exact hk _ ((m2.no m3).drew.no m4)
theorem findSl_c {g:Gm} {h:Hd} {f:Int} (hw:hWf h) (hk:∀ w',Mod No w w'->K (.int .i64 (findSl g h f)) w') :
  Cal Tryz.prog F_group_FindSlot #[.agg ⟨gV g⟩,.agg ⟨hV h⟩,.int .i64 f] w K:=by
 apply C_group_FindSlot
 unfold D_group_FindSlot
 obtain ⟨w1,a1,a2,a3,a4⟩:=box_u (P:=Tryz.prog) (w:=w) (T:=40) (cs:=gV g)
 obtain ⟨w2,b1,b2,b3,b4⟩:=box_u (P:=Tryz.prog) (w:=w1) (T:=119) (cs:=hV h)
 have m2:=a3.no b3
 have q1:=a2.keep b3 id
 refine ⟨_,w1,a1,_,w2,b1,_,q1.at.all agg_geo rfl,_,b2.at.all agg_head (hV_len hw),hRight_c hw fun w3 m3=>⟨_,rfl,cond_of (fun ho=>?_) (fun ho=>?_)⟩⟩
 ·have e:findSl g h f=-1:=by unfold findSl; rw [if_neg (by simpa using ho)]
  rw [<- e]; exact hk _ (m2.no m3)
 have e:findSl g h f=firstB h.ss g.no f:=by unfold findSl; rw [if_pos (by simpa using ho)]
 have ad1:Addr.add ⟨w1.heap.size,0,none⟩ 17=⟨w1.heap.size,17,none⟩:=by rw [add_none]
 rw [ad1]
 have hb:=(b2.keep m3 id).drew.at.sub (i:=17) (m:=8) (by rw [hV_len hw]; omega)
 rw [hV_drops hw] at hb
 refine ⟨_,_,_,sliceA_all arr8,_,(q1.keep m3 id).drew.at.fld sc_int rfl,bitFirst_c (xs:=h.ss) hw.2 (.inr ⟨_,_,rfl,hb⟩) (by omega) fun w4 m4=>⟨_,rfl,?_⟩⟩
 rw [<- e]; exact hk _ ((m2.no m3).drew.no m4)
end
end Go.Proofs.YtelhlihjihklbaaGreat
end
section
namespace Go.Proofs.YtelhlihjihklbaaGreat.bulks
theorem append {H:Type} (l r:List (DataW H)):Rows.uptoBulkAll (l++r)=Rows.uptoBulkAll l+Rows.uptoBulkAll r:=by
 induction l with
 | nil=>simp [Rows.uptoBulkAll]
 | cons x l ih=>simp only [List.cons_append,Rows.uptoBulkAll,ih]; omega
end Go.Proofs.YtelhlihjihklbaaGreat.bulks
end
section
open Go Go.Den
namespace Go.Den
open Go.RowKit Go.ChangeShapes Go.WideShapes
section
variable {H:Type} {enc:TypeId×Value->H} {P:Program}
theorem trodAll_below (hl:laidOutB P=true) {W W':World} (hb:Below W.heap.size W W'):∀ {ts:List TypeId} {vs:List Value} {ds:List (DataW H)} {ps:List MemPlace},
  (ts.all fun t=>P.readableRec t&&decide (t<P.types.size))=true->DataW.TrodAll enc P W 0 (fun _=>true) true ts vs ds ps->(∀ x∈ps,x.block<W.heap.size) ->
  DataW.TrodAll enc P W' 0 (fun b=>decide (b<W.heap.size)) true ts vs ds ps
 | [],[],[],_,_,h,_=>h
 | [],[],_::_,_,_,h,_=>h.elim
 | [],_::_,_,_,_,h,_=>h.elim
 | _::_,[],_,_,_,h,_=>h.elim
 | _::_,_::_,[],_,_,h,_=>h.elim
 | t::ts,v::vs,d::ds,ps,hr,h,hlt=>by
  simp only [List.all_cons,Bool.and_eq_true,decide_eq_true_eq] at hr
  obtain ⟨p,q,h1,h2,rfl⟩:=h
  exact ⟨p,q,Below.trod hl hr.1.1 hr.1.2 h1 hb (fun x hx=>hlt x (List.mem_append_left _ hx)),trodAll_below hl hb hr.2 h2 (fun x hx=>hlt x (List.mem_append_right _ hx)),rfl⟩
theorem law_post {f:Func} {s:ChangeSpec} {apart handsOn:Bool} {W W':World} {args:Array Value} {ds gs:List (DataW H)} {before:List MemPlace} {tb:TypeId} (hl:laidOutB P=true)
  (hW:DataW.Whole enc P f.params.toList s.vars apart W args.toList ds gs before) (hv:s.vars=[]) (hr:(f.params.toList.all fun t=>P.readableRec t&&decide (t<P.types.size))=true)
  (hrt:f.resultTypes=#[tb]) (htb:P.underlying tb=some .bool) (hs:s.fn H ds={ results:=[.lit (.bool true)],args:=ds }) (hb:Below W.heap.size W W') :
  s.post enc P f apart true handsOn false W args (.bool true) W':=by
 have hlt:∀ p∈before,p.block<W.heap.size:=fun p hp=>hW.lt p hp
 have hW0:=hW
 obtain ⟨p,q,hA,hV,he,_,_⟩:=hW
 rw [hv] at hV
 have hgs:gs=[]/\q=[]:=by
  cases gs with
  | nil=>exact ⟨rfl,hV⟩
  | cons a r=>exact hV.elim
 obtain ⟨rfl,rfl⟩:=hgs
 rw [List.append_nil] at he
 subst he
 refine ⟨ds,[],before,[],before,[],hW0,?_,?_,?_,World.keptBut_mono (fun x hx=>⟨hx,.inr (.inl hx)⟩) (hb.frame (·∈before)),fun h=>Bool.noConfusion h⟩
 ·rw [hrt,List.append_nil,hs]
  exact ⟨[],[],shut_bool htb true,rfl,rfl⟩
 ·rw [List.append_nil,hs]
  exact trodAll_below hl hb hr hA hlt
 ·rw [hv,List.append_nil,hs]; rfl
end
end Go.Den
end
section
open Go Go.Den
namespace Go.Proofs.YtelhlihjihklbaaGreat
open Go.ChangeShapes Go.WideShapes Go.ChangeAt Go.RowKit
theorem i64_bounds {n:Int} (h:(Lit.int .i64 n).wf=true):-9223372036854775808<=n/\n<=9223372036854775807:=by
 simpa [Lit.wf,IntKind.min,IntKind.max,IntKind.signed,IntKind.bits] using h
theorem own_none:ownKnob Tryz.prog.godebug=none:=by kernel_rfl
theorem laid_out:laidOutB Tryz.prog=true:=by kernel_rfl
theorem cal_calls {f:FuncId} {args:Array Value} {w:World} {K:Value->World->Prop} {R:Ending->World->Prop} (h:Cal Tryz.prog f args w K) (hk:∀ v w',K v w'->R (.returned v) w'):Calls Tryz.prog f args w R :=
 h.2.mono fun e w' he=>by cases e <;> first | exact hk _ _ he | exact he.elim
end Go.Proofs.YtelhlihjihklbaaGreat
end
section
open Go Go.Den
namespace Go.Den
open Go.ChangeShapes Go.WideShapes Go.RowKit
section
variable {H:Type} {enc:TypeId×Value->H} {P:Program} {w:World} {base:Nat} {spare:Nat->Bool} {held:Bool}
theorem At.of_cells {b o:Nat} {cs:List Value} (h0:0<cs.length) (h:∀ j (hj:j<cs.length),w.cell? ⟨b,o+j,none⟩=some cs[j]):At w b o cs:=by
 have hb:∃ l t fz,w.heap[b]?=some (.cells ⟨l⟩ t fz):=by
  have:=h 0 h0
  unfold World.cell? at this
  split at this
  ·rename_i c t fz hc; exact ⟨c.toList,t,fz,hc⟩
  ·cases this
 obtain ⟨l,t,fz,hb⟩:=hb
 have hget:∀ j (hj:j<cs.length),l[o+j]?=some cs[j]:=fun j hj=>by rw [<- cell_of hb]; exact h j hj
 have hlen:o+cs.length<=l.length:=by
  have:=(List.getElem?_eq_some_iff.1 (hget (cs.length-1) (by omega))).1
  omega
 refine ⟨l,t,fz,hb,hlen,?_⟩
 apply List.ext_getElem?
 intro i
 by_cases hi:i<cs.length
 ·rw [List.getElem?_take,if_pos hi,List.getElem?_drop,hget i hi]; simp [hi]
 ·rw [List.getElem?_eq_none (by simp; omega),List.getElem?_eq_none (by omega)]
end
end Go.Den
end
section
open Go Go.Den
namespace Go.Proofs.YtelhlihjihklbaaGreat
open Go.ChangeShapes Go.WideShapes Go.RowKit Go.Joins
section
variable {H:Type} {enc:TypeId×Value->H} {w:World} {base:Nat} {held:Bool}
theorem trod_st3 {P:Program} {spare:Nat->Bool} {t:TypeId} {f0 f1 f2:Field} {fuel:Nat} {cs:List Value} {x:DataW H×List MemPlace} (ht:P.underlying t=some (.struct #[f0,f1,f2])) (h:DataW.trod enc P w base spare held fuel t cs=some x) :
  ∃ y0 y1 y2 n,x=(.agg [y0.1,y1.1,y2.1],y0.2++(y1.2++y2.2))/\cs.length=P.cellsOf t/\DataW.trod enc P w base spare held n f0.type ((cs.drop f0.offset).take (P.cellsOf f0.type))=some y0 /\
   DataW.trod enc P w base spare held n f1.type ((cs.drop f1.offset).take (P.cellsOf f1.type))=some y1/\DataW.trod enc P w base spare held n f2.type ((cs.drop f2.offset).take (P.cellsOf f2.type))=some y2:=by
 obtain ⟨xs,n,_,rfl,hl,hlen,hf⟩:=DataW.trod_struct ht h
 match xs,hlen with
 | [y0,y1,y2],_=>exact ⟨y0,y1,y2,n,by simp,hl,by simpa using hf 0 f0 rfl,by simpa using hf 1 f1 rfl,by simpa using hf 2 f2 rfl⟩
theorem list_choose3 {α β:Type} {p:β->α->Prop}:∀ (xs:List β),(∀ x∈xs,∃ y,p x y)->∃ ys:List α,ys.length=xs.length/\∀ (i:Nat) (x:β) (y:α),xs[i]?=some x->ys[i]?=some y->p x y
 | [],_=>⟨[],rfl,fun i x y h=>by simp at h⟩
 | x::r,h=>by
  obtain ⟨y,hy⟩:=h x (by simp)
  obtain ⟨ys,hl,hys⟩:=list_choose3 r fun z hz=>h z (by simp [hz])
  refine ⟨y::ys,by simp [hl],fun i a b ha hb=>?_⟩
  cases i with
  | zero=>simp at ha hb; subst ha hb; exact hy
  | succ i=>exact hys i a b (by simpa using ha) (by simpa using hb)
end
end Go.Proofs.YtelhlihjihklbaaGreat
end
section
open Go Go.Den Go.Proofs
namespace Go.Den
section
variable {P:Program} {w w':World}
theorem flat_len' {α:Type} {f:α->List Value} {k:Nat} (h:∀ x,(f x).length=k):∀ L:List α,(L.map f).flatten.length=L.length*k
 | []=>by simp
 | x::r=>by rw [List.map_cons,List.flatten_cons,List.length_append,h,flat_len' h r,List.length_cons,Nat.add_mul]; omega
theorem flat_drop {α:Type} {f:α->List Value} {k:Nat} (h:∀ x,(f x).length=k):∀ {L:List α} {i:Nat} {x:α},L[i]?=some x->((L.map f).flatten.drop (i*k)).take k=f x
 | [],_,_,e=>by simp at e
 | y::r,0,x,e=>by
  have e:y=x:=by simpa using e
  subst e
  rw [List.map_cons,List.flatten_cons,Nat.zero_mul,List.drop_zero,List.take_append_of_le_length (by rw [h]; omega),List.take_of_length_le (by rw [h]; omega)]
 | y::r,i+1,x,e=>by
  rw [List.getElem?_cons_succ] at e
  rw [List.map_cons,List.flatten_cons,show (i+1)*k=(f y).length+i*k by rw [h,Nat.add_mul]; omega,List.drop_append,List.drop_eq_nil_of_le (by omega),List.nil_append,show (f y).length+i*k-(f y).length=i*k by omega]
  exact flat_drop h e
theorem flat_cell {α:Type} {f:α->List Value} {k:Nat} (h:∀ x,(f x).length=k) {L:List α} {i j:Nat} {x:α} {v:Value} (hx:L[i]?=some x) (hj:(f x)[j]?=some v):(L.map f).flatten[i*k+j]?=some v:=by
 have h1:=flat_drop h hx
 have hl:j<k:=by have:=(List.getElem?_eq_some_iff.1 hj).1; rwa [h] at this
 rw [<- h1,List.getElem?_take_of_lt hl,List.getElem?_drop] at hj
 exact hj
theorem flat_one {α:Type} {f:α->List Value} (h:∀ x,∀ v∈f x,v.oneCell'=true) (L:List α):∀ v∈(L.map f).flatten,v.oneCell'=true:=by
 intro v hv
 obtain ⟨l,hl,hv⟩:=List.mem_flatten.1 hv
 obtain ⟨x,_,rfl⟩:=List.mem_map.1 hl
 exact h x v hv
end
end Go.Den
namespace Go.Proofs.YtelhlihjihklbaaGreat
section
variable {w w':World}
theorem snocG {T Te:TypeId} {base k bytes l c:Nat} {a:Option Addr} {xs ys:List Value} (hT:elemG Tryz.prog T k bytes) (hk:0<k) (h:Ow Tryz.prog w base T k a l c xs) (hl:ys.length=k) (h1:∀ v∈ys,v.oneCell'=true)
  (h63:(l+1)*bytes<=140737488355328) (hb:0<bytes) (hbase:base<=w.heap.size) :
  ∃ q c' w',Ru (Builtin.append_ #[T,T] T #[.slice a l c,.slice (some ⟨w.heap.size,0,none⟩) 1 1]) (w.alloc (.cells ⟨ys⟩ Te)) (.slice (some q) (l+1) c') w'/\Ow Tryz.prog w' base T k (some q) (l+1) c' (xs++ys)/\Mod (Of a) w w'/\((∃ q',a=some q'/\q.block=q'.block)\/w.heap.size<=q.block):=by
 have m1:Mod No w (w.alloc (.cells ⟨ys⟩ Te)):=(Mod.refl No w).alloc _
 have r1:Row (w.alloc (.cells ⟨ys⟩ Te)) (some ⟨w.heap.size,0,none⟩) ys:=.inr ⟨_,_,rfl,AtU.new.at⟩
 have s1:(w.alloc (.cells ⟨ys⟩ Te)).heap.size=w.heap.size+1:=by simp
 obtain ⟨q,c',w2,run,p,mm,hq⟩:=(h.nos m1).appG (ty:=T) (m:=1) (c2:=1) hT hk r1 (by omega) (by omega) h1 h63 hb (by omega)
 refine ⟨q,c',w2,run,p,(m1.mono fun _ _ h=>h.elim).trans mm fun x _ e=>e,?_⟩
 rcases hq with hq | hq
 ·exact .inl hq
 ·exact .inr (by omega)
end
abbrev Wt:=Int×Int×Int
def wtV (x:Wt):List Value:=[.int .i64 x.1,.int .i64 x.2.1,.int .i64 x.2.2]
def acV (x:Int×Int):List Value:=[.int .i64 x.1,.int .i64 x.2]
theorem wtV_len (x:Wt):(wtV x).length=3:=rfl
theorem acV_len (x:Int×Int):(acV x).length=2:=rfl
theorem wtV_one (x:Wt):∀ v∈wtV x,v.oneCell'=true:=by intro v hv; simp [wtV] at hv; rcases hv with rfl | rfl | rfl <;> rfl
theorem acV_one (x:Int×Int):∀ v∈acV x,v.oneCell'=true:=by intro v hv; simp [acV] at hv; rcases hv with rfl | rfl <;> rfl
def rowW (L:List Wt):List Value:=(L.map wtV).flatten
def rowC (L:List (Int×Int)):List Value:=(L.map acV).flatten
theorem rowW_snoc (L:List Wt) (x:Wt):rowW (L++[x])=rowW L++wtV x:=by simp [rowW]
theorem rowC_snoc (L:List (Int×Int)) (x:Int×Int):rowC (L++[x])=rowC L++acV x:=by simp [rowC]
theorem elemG_waits:elemG Tryz.prog 199 3 24:=elemG_of (by kernel_rfl)
theorem elemG_acts:elemG Tryz.prog 128 2 16:=elemG_of (by kernel_rfl)
theorem elemN_waits:elemN Tryz.prog 199=some 3:=by kernel_rfl
theorem agg_wait:aggN Tryz.prog 203=some 3:=by kernel_rfl
theorem agg_pact:aggN Tryz.prog 126=some 2:=by kernel_rfl
theorem build_wait (w:World) (n k m:Int):(Instr.build 203 #[(0,.int .i64 n),(1,.agg ⟨[.int .i64 k,.int .i64 m]⟩)]).run Tryz.prog w=.ok (.agg ⟨[.int .i64 n,.int .i64 k,.int .i64 m]⟩) w:=by kernel_rfl
theorem built_wait (w:World) (x:Wt):(Instr.buildSlice 199 1 #[(0,.agg ⟨wtV x⟩)]).run Tryz.prog w=.ok (.slice (some ⟨w.heap.size,0,none⟩) 1 1) (w.alloc (.cells ⟨wtV x⟩ 203)):=by kernel_rfl
theorem built_act (w:World) (x:Int×Int):(Instr.buildSlice 128 1 #[(0,.agg ⟨acV x⟩)]).run Tryz.prog w=.ok (.slice (some ⟨w.heap.size,0,none⟩) 1 1) (w.alloc (.cells ⟨acV x⟩ 126)):=by kernel_rfl
theorem alloc_wait (w:World):(Instr.alloc 203 true (.tuple #[])).run Tryz.prog w=.ok (.pointer (some ⟨w.heap.size,0,none⟩)) (w.alloc (.cells ⟨[.int .i64 0,.int .i64 0,.int .i64 0]⟩ 203)):=by kernel_rfl
structure WkIn (T:TypeId) (Z:Nat->Prop) (w:World) (q:Nat) (L:List Wt) (la:Option Addr) (lc:Nat):Prop where
 cell:AtU w q 0 [.slice la L.length lc]
 row:Ow Tryz.prog w 0 T 3 la L.length lc (rowW L)
 nq:∀ a,la=some a->a.block≠q/\¬ Z a.block
 nz:¬ Z q
def Wk (T:TypeId) (Z:Nat->Prop) (w:World) (q:Nat) (L:List Wt):Prop:=∃ la lc,WkIn T Z w q L la lc
section
variable {w w' w0:World} {R:Nat->Prop} {sp d:Nat} {V:Ps} {K:Value->World->Prop} {T:TypeId} {Z Z':Nat->Prop} {q lc:Nat} {L:List Wt} {la:Option Addr}
theorem WkIn.keep {S:Nat->Prop} (h:WkIn T Z w q L la lc) (m:Mod S w w') (hS:∀ x,S x->Z x) (hZ:∀ x,x<w.heap.size->Z' x->Z x):WkIn T Z' w' q L la lc where
 cell:=h.cell.keep m fun e=>h.nz (hS _ e)
 row:=h.row.keep m fun a ha e=>(h.nq a ha).2 (hS _ e)
 nq a ha:=⟨(h.nq a ha).1,fun e=>(h.nq a ha).2 (hZ _ (h.row.base ha).2 e)⟩
 nz e:=h.nz (hZ _ h.cell.lt e)
theorem Wk.keep {S:Nat->Prop} (h:Wk T Z w q L) (m:Mod S w w') (hS:∀ x,S x->Z x) (hZ:∀ x,x<w.heap.size->Z' x->Z x):Wk T Z' w' q L:=by
 obtain ⟨la,lc,h⟩:=h; exact ⟨la,lc,h.keep m hS hZ⟩
theorem WkIn.nos (h:WkIn T Z w q L la lc) (m:Mod No w w'):WkIn T Z w' q L la lc:=h.keep m (fun _ h=>h.elim) fun _ _ h=>h
theorem Wk.nos (h:Wk T Z w q L) (m:Mod No w w'):Wk T Z w' q L:=by obtain ⟨la,lc,h⟩:=h; exact ⟨la,lc,h.nos m⟩
theorem WkIn.ld (h:WkIn T Z w q L la lc) (hT:scal Tryz.prog T=true):Ru (Instr.loadAt T (.pointer (some (Addr.add ⟨q,0,none⟩ 0)))) w (.slice la L.length lc) w:=by
 rw [add_none]; exact h.cell.at.load (i:=0) hT rfl
theorem WkIn.add {Te:TypeId} {x:Wt} (h:WkIn T Z w q L la lc) (hT:elemG Tryz.prog T 3 24) (hs:scal Tryz.prog T=true) (hn:L.length<=5000) (hZ:∀ x,Z x->x<w.heap.size) :
  ∃ c' w4 w5,Ru (Builtin.append_ #[T,T] T #[.slice la L.length L.length,.slice (some ⟨w.heap.size,0,none⟩) 1 1]) (w.alloc (.cells ⟨wtV x⟩ Te)) (.slice (some ⟨w.heap.size+1,0,none⟩) (L.length+1) c') w4 /\
   RuU (Instr.storeAt T (.pointer (some (Addr.add ⟨q,0,none⟩ 0))) (.slice (some ⟨w.heap.size+1,0,none⟩) (L.length+1) c')) w4 w5/\WkIn T Z w5 q (L++[x]) (some ⟨w.heap.size+1,0,none⟩) c'/\Mod (fun z=>z=q) w w5:=by
 have m1:Mod No w (w.alloc (.cells ⟨wtV x⟩ Te)):=(Mod.refl No w).alloc _
 have r1:Row (w.alloc (.cells ⟨wtV x⟩ Te)) (some ⟨w.heap.size,0,none⟩) (wtV x):=.inr ⟨_,_,rfl,AtU.new.at⟩
 have s1:(w.alloc (.cells ⟨wtV x⟩ Te)).heap.size=w.heap.size+1:=by simp
 generalize w.alloc (.cells ⟨wtV x⟩ Te)=w1 at *
 have hqw:=h.cell.lt
 obtain ⟨c',w4,run,p,m4,z4⟩:=(h.row.nos m1).full (ty:=T) (c2:=1) hT r1 rfl (by omega) (by omega) (by omega)
 rw [s1] at run p z4
 obtain ⟨w5,u1,u2,u3,u4⟩:=((h.cell.keep m1 id).keep m4 id).store (P:=Tryz.prog) (T:=T) (i:=0) (v:=.slice (some ⟨w.heap.size+1,0,none⟩) (L.length+1) c') hs (by simp) rfl
 refine ⟨c',w4,w5,run,by rw [add_none]; exact u1,⟨?_,?_,?_,h.nz⟩,((m1.no m4).mono fun _ _ h=>h.elim).trans u3 fun _ _ e=>e⟩
 ·have:(L++[x]).length=L.length+1:=by simp
  rw [this]; exact u2
 ·rw [rowW_snoc,show (L++[x]).length=L.length+1 by simp]
  exact p.keep u3 fun a ha e=>by cases ha; have e:w.heap.size+1=q:=e; omega
 ·intro a ha; cases ha
  exact ⟨by show w.heap.size+1≠q; omega,fun e=>by have:=hZ _ e; simp only at this; omega⟩
def laterE (L:List Wt) (k:Int):Int:=if k<1\/3<k then 1 else if 4096<=L.length then 5 else 0
def laterL (L:List Wt) (x:Wt):List Wt:=if laterE L x.2.1=0 then L++[x] else L
theorem kLater_c {n k m:Int} (h:Wk 199 Z w q L) (hn:L.length<=5000) (hZ:∀ x,Z x->x<w.heap.size)
  (hk:∀ w',Mod (fun z=>z=q) w w'->Wk 199 Z w' q (laterL L (n,k,m))->K (.int .i64 (laterE L k)) w') :
  Cal Tryz.prog F_push_Work_Later #[.pointer (some ⟨q,0,none⟩),.int .i64 n,.agg ⟨acV (k,m)⟩] w K:=by
 apply C_push_Work_Later
 unfold D_push_Work_Later
 obtain ⟨la,lc,h⟩:=h
 refine ⟨_,_,box_run,?_⟩
 have m1:Mod No w (w.alloc (.cells (Value.agg ⟨acV (k,m)⟩).cells 126)):=(Mod.refl No w).alloc _
 have a1:AtU (w.alloc (.cells (Value.agg ⟨acV (k,m)⟩).cells 126)) w.heap.size 0 (acV (k,m)):=AtU.new
 generalize w.alloc (.cells (Value.agg ⟨acV (k,m)⟩).cells 126)=w1 at *
 have hz1:=m1.size
 have h1:=h.nos m1
 have l0:Ru (Instr.loadAt 3 (.pointer (some (Addr.add ⟨w.heap.size,0,none⟩ 0)))) w1 (.int .i64 k) w1:=by rw [add_none]; exact a1.at.load (i:=0) (by kernel_rfl) rfl
 refine ff rfl (Share.cut (fun z w2=>w1=w2/\z=[.bool (decide (k<1\/3<k))]) ⟨_,l0,cond_of (fun hb=>⟨rfl,?_⟩) (fun hb=>⟨_,l0,rfl,?_⟩)⟩ ?_)
 ·have:=of_decide_eq_true hb
  rw [decide_eq_true (Or.inl this)]
 ·have:=of_decide_eq_false hb
  exact bcell (by omega)
 rintro z w2 ⟨rfl,rfl⟩
 have ms:∀ {w2:World},Mod No w1 w2->Mod (fun z=>z=q) w w2:=fun mm=>(m1.no mm).mono fun _ _ h=>h.elim
 refine ⟨_,rfl,cond_of (fun hb=>?_) (fun hb=>⟨_,rfl,_,_,_,h1.ld (by kernel_rfl),cond_of (fun hb2=>?_) (fun hb2=>?_)⟩)⟩
 ·have hb:=of_decide_eq_true hb
  have e:laterE L k=1:=if_pos hb
  have:=hk w1 (ms (Mod.refl _ _)) ⟨la,lc,by unfold laterL; rw [if_neg (by show ¬ laterE L k=0; rw [e]; omega)]; exact h1⟩
  rwa [e] at this
 ·have hb:=of_decide_eq_false hb
  have hb2:=of_decide_eq_true hb2
  have e:laterE L k=5:=by unfold laterE; rw [if_neg hb,if_pos (by omega)]
  have:=hk w1 (ms (Mod.refl _ _)) ⟨la,lc,by unfold laterL; rw [if_neg (by show ¬ laterE L k=0; rw [e]; omega)]; exact h1⟩
  rwa [e] at this
 ·have hb:=of_decide_eq_false hb
  have hb2:=of_decide_eq_false hb2
  have e:laterE L k=0:=by unfold laterE; rw [if_neg hb,if_neg (by omega)]
  have md:Mod No w1 (drew w1):=(Mod.refl No w1).drew
  have hd:=h1.nos md
  have ld:=hd.ld (by kernel_rfl)
  have la0:Ru (Instr.loadAt 126 (.pointer (some ⟨w.heap.size,0,none⟩))) (drew w1) (.agg ⟨acV (k,m)⟩) (drew w1):=(a1.keep md id).at.loadAgg (i:=0) agg_pact (by rw [acV_len]; omega)
  refine ⟨_,rfl,_,_,_,ld,_,rfl,_,_,_,ld,_,rfl,_,_,_,ld,_,_,_,fun w'=>hd.row.cut3 elemN_waits w',_,la0,_,fun w=>build_wait w _ _ _,_,_,_,_,built_wait _ (n,k,m),?_⟩
  have hZ1:∀ x,Z x->x<(drew w1).heap.size:=fun x hx=>by have:=hZ x hx; have:=md.size; omega
  obtain ⟨c',w4,w5,run,sto,h5,m5⟩:=hd.add (Te:=203) (x:=(n,k,m)) elemG_waits (by kernel_rfl) hn hZ1
  have ma:Mod No (drew w1) ((drew w1).alloc (.cells ⟨wtV (n,k,m)⟩ 203)):=(Mod.refl No _).alloc _
  have la1:=(hd.nos ma).ld (by kernel_rfl)
  refine ⟨la1,la1,la1,_,_,_,w4,run,_,rfl,w5,sto,?_⟩
  have:=hk w5 (((m1.no md).mono fun _ _ h=>h.elim).trans m5 fun _ _ e=>e) ⟨_,c',by unfold laterL; rw [if_pos (show laterE L k=0 from e)]; exact h5⟩
  rwa [e] at this
theorem kLen_c (h:Wk 199 Z w q L) (hk:K (.int .i64 L.length) w):Cal Tryz.prog F_push_Work_Len #[.pointer (some ⟨q,0,none⟩)] w K:=by
 apply C_push_Work_Len
 unfold D_push_Work_Len
 obtain ⟨la,lc,h⟩:=h
 exact ff rfl ⟨_,rfl,_,_,_,h.ld (by kernel_rfl),hk⟩
theorem WkIn.at {Te:TypeId} {i:Nat} {x:Wt} (h:WkIn T Z w q L la lc) (hT:elemN Tryz.prog T=some 3) (hE:aggN Tryz.prog Te=some 3) (hn:L.length<=5000) (hx:L[i]?=some x):∃ g,la=some ⟨g,0,none⟩/\Al (Instr.indexAt T (.slice la L.length lc) (.int .i64 i)) (.pointer (some ⟨g,i*3,none⟩)) /\
  Ru (Instr.loadAt Te (.pointer (some ⟨g,i*3,none⟩))) w (.agg ⟨wtV x⟩) w/\(∀ (w':World) (Ta:TypeId),Mod No w w'->aggN Tryz.prog Ta=some 2->Ru (Instr.loadAt Ta (.pointer (some (Addr.add ⟨g,i*3,none⟩ 1)))) w' (.agg ⟨acV x.2⟩) w') /\
  ∀ (w':World) (Ti:TypeId),Mod No w w'->scal Tryz.prog Ti=true->Ru (Instr.loadAt Ti (.pointer (some (Addr.add ⟨g,i*3,none⟩ 0)))) w' (.int .i64 x.1) w':=by
 have hi:=(List.getElem?_eq_some_iff.1 hx).1
 obtain ⟨g,rfl,hg,hat⟩:=h.row.sm (by omega)
 have hlen:(rowW L).length=L.length*3:=flat_len' wtV_len L
 refine ⟨g,rfl,fun w'=>?_,?_,fun w' Ta m hTa=>?_,fun w' Ti m hTi=>?_⟩
 ·have:=index_slice (P:=Tryz.prog) (T:=T) (k:=3) (a:=⟨g,0,none⟩) (n:=L.length) (c:=lc) (kk:=.i64) (i:=i) hT (by omega) (by omega) w'
  rw [add_none,show 0+(i:Int).toNat*3=i*3 by omega] at this
  exact this
 ·have:=hat.at.loadAgg (P:=Tryz.prog) (T:=Te) (i:=i*3) hE (by rw [hlen]; omega)
  rw [show ((rowW L).drop (i*3)).take 3=wtV x from flat_drop wtV_len hx,Nat.zero_add] at this
  exact this
 ·rw [add_none]
  have:=(hat.keep m id).at.loadAgg (P:=Tryz.prog) (T:=Ta) (i:=i*3+1) hTa (by rw [hlen]; omega)
  rw [Nat.zero_add] at this
  have e:((rowW L).drop (i*3+1)).take 2=acV x.2:=by
   have h1:((rowW L).drop (i*3)).take 3=wtV x:=flat_drop wtV_len hx
   have h2:((rowW L).drop (i*3+1)).take 2=(((rowW L).drop (i*3)).take 3).drop 1:=by
    rw [List.drop_take,List.drop_drop]
   rw [h2,h1]; rfl
  rw [e] at this
  exact this
 ·rw [add_none]
  have:=(hat.keep m id).at.load (P:=Tryz.prog) (T:=Ti) (i:=i*3+0) hTi (v:=.int .i64 x.1) (flat_cell wtV_len hx rfl)
  rw [Nat.zero_add] at this
  exact this
def ripeP (V:Ps) (x:Wt):Bool:=decide (x.1<1) || safeV V x.1
theorem kRipeZ_c (hP:Pz w0 R w sp d V) (h:Wk 199 Z w q L) (hn:L.length<=5000) (hZ:∀ x,Z x->x<w.heap.size)
  (hk:∀ w' a c,Mod (fun z=>z=q) w w'->Wk 199 (fun x=>Z x\/Of a x) w' q (L.filter fun x=>!ripeP V x)->Ow Tryz.prog w' w.heap.size 128 2 a (L.filter (ripeP V)).length c (rowC ((L.filter (ripeP V)).map (·.2))) ->
   K (.slice a (L.filter (ripeP V)).length c) w') :
  Cal Tryz.prog F_push_Work_Ripe #[.pointer (some ⟨q,0,none⟩),.pointer (some ⟨sp,0,none⟩)] w K:=by
 apply C_push_Work_Ripe
 unfold D_push_Work_Ripe
 obtain ⟨la,lc,h⟩:=h
 refine ff rfl ⟨_,rfl,_,_,_,h.ld (by kernel_rfl),?_⟩
 refine ⟨fun x w1=>∃ (i:Nat) (a5 a6:Option Addr) (c5 c6:Nat) (y:Value),x=[.slice a5 ((L.take i).filter (ripeP V)).length c5,.slice a6 ((L.take i).filter fun x=>!ripeP V x).length c6,.int .i64 i,y]/\i<=L.length /\
   Ow Tryz.prog w1 w.heap.size 128 2 a5 ((L.take i).filter (ripeP V)).length c5 (rowC (((L.take i).filter (ripeP V)).map (·.2)))/\Ow Tryz.prog w1 w.heap.size 199 3 a6 ((L.take i).filter fun x=>!ripeP V x).length c6 (rowW ((L.take i).filter fun x=>!ripeP V x)) /\
   (∀ q q',a5=some q->a6=some q'->q.block≠q'.block)/\Mod No w w1,fun x _=>(L.length-nI x 2).toNat,
  ⟨0,none,none,0,0,_,rfl,by omega,Ow.nilG elemG_acts,Ow.nilG elemG_waits,(fun _ _ e=>by cases e),Mod.refl _ _⟩,?_⟩
 rintro x w1 ⟨i,a5,a6,c5,c6,y,rfl,hi,o5,o6,h56,m1⟩
 have h1:=h.nos m1
 have hz1:=m1.size
 refine ⟨_,rfl,cond_of (fun hb=>?_) (fun hb=>?_)⟩
 ·have hi:i<L.length:=by have:=of_decide_eq_true hb; omega
  have hx:L[i]?=some L[i]:=List.getElem?_eq_getElem hi
  have htk:=List.take_succ_eq_append_getElem hi
  obtain ⟨g,rfl,hix,hag,_,_⟩:=h1.at (Te:=203) elemN_waits agg_wait hn hx
  generalize L[i]=x at *
  have hst:RuU (Instr.storeAt 203 (.pointer (some ⟨w1.heap.size,0,none⟩)) (.agg ⟨wtV x⟩)) (w1.alloc (.cells ⟨[.int .i64 0,.int .i64 0,.int .i64 0]⟩ 203)) (w1.alloc (.cells ⟨wtV x⟩ 203)):=store_new agg_wait rfl rfl (wtV_one x)
  refine Share.cut (fun z w10=>∃ (a5 a6:Option Addr) (c5 c6:Nat) (y:Value),z=[.slice a5 ((L.take (i+1)).filter (ripeP V)).length c5,.slice a6 ((L.take (i+1)).filter fun x=>!ripeP V x).length c6,y] /\
   Ow Tryz.prog w10 w.heap.size 128 2 a5 ((L.take (i+1)).filter (ripeP V)).length c5 (rowC (((L.take (i+1)).filter (ripeP V)).map (·.2)))/\Ow Tryz.prog w10 w.heap.size 199 3 a6 ((L.take (i+1)).filter fun x=>!ripeP V x).length c6 (rowW ((L.take (i+1)).filter fun x=>!ripeP V x)) /\
   (∀ q q',a5=some q->a6=some q'->q.block≠q'.block)/\Mod No w w10) ⟨_,hix,_,hag,_,_,alloc_wait _,_,hst,?_⟩ ?_
  ·have m3:Mod No w1 (w1.alloc (.cells ⟨wtV x⟩ 203)):=(Mod.refl No w1).alloc _
   have a3:AtU (w1.alloc (.cells ⟨wtV x⟩ 203)) w1.heap.size 0 (wtV x):=AtU.new
   generalize w1.alloc (.cells ⟨wtV x⟩ 203)=w3 at *
   have l3:Ru (Instr.loadAt 2 (.pointer (some (Addr.add ⟨w1.heap.size,0,none⟩ 0)))) w3 (.int .i64 x.1) w3:=by rw [add_none]; exact a3.at.load (i:=0) (by kernel_rfl) rfl
   have M3:=m1.no m3
   have hz3:=M3.size
   refine Share.cut (fun z w5=>w3=w5/\z=[.bool (ripeP V x)]) ⟨_,l3,cond_of (fun hb2=>⟨rfl,?_⟩) (fun hb2=>⟨_,l3,qSafe_c (hP.nos M3) ⟨_,rfl,rfl,?_⟩⟩)⟩ ?_
   ·unfold ripeP; rw [hb2]; rfl
   ·unfold ripeP; rw [hb2]; rfl
   rintro z w5 ⟨rfl,rfl⟩
   have o5':=o5.nos m3
   have o6':=o6.nos m3
   refine ⟨_,rfl,cond_of (fun hb2=>?_) (fun hb2=>?_)⟩
   ·have e1:(L.take (i+1)).filter (ripeP V)=(L.take i).filter (ripeP V)++[x]:=by rw [htk,List.filter_append]; simp [hb2]
    have e2:(L.take (i+1)).filter (fun x=>!ripeP V x)=(L.take i).filter fun x=>!ripeP V x:=by rw [htk,List.filter_append]; simp [hb2]
    have hfl:=List.length_filter_le (ripeP V) (L.take i)
    rw [List.length_take] at hfl
    have la1:Ru (Instr.loadAt 126 (.pointer (some (Addr.add ⟨w1.heap.size,0,none⟩ 1)))) w3 (.agg ⟨acV x.2⟩) w3:=by
     rw [add_none]; exact a3.at.loadAgg (i:=1) agg_pact (by rw [wtV_len]; omega)
    obtain ⟨q2,c',w7,run,p,mm,hq2⟩:=snocG (Te:=126) (ys:=acV x.2) elemG_acts (by omega) o5' rfl (acV_one _) (by omega) (by omega) (by omega)
    refine ⟨_,_,_,rfl,_,la1,_,_,_,_,built_act _ _,_,_,_,w7,run,some q2,a6,c',c6,.bool (ripeP V x),(by rw [e1,e2,List.length_append]; rfl),?_,?_,?_,?_⟩
    ·rw [e1]
     have:rowC (((L.take i).filter (ripeP V)++[x]).map (·.2))=rowC (((L.take i).filter (ripeP V)).map (·.2))++acV x.2:=by rw [List.map_append]; exact rowC_snoc _ _
     rw [this,show ((L.take i).filter (ripeP V)++[x]).length=((L.take i).filter (ripeP V)).length+1 by simp]
     exact p
    ·rw [e2]
     exact o6'.keep mm fun q' hq' ⟨q5,e5,e⟩=>h56 q5 q' e5 hq' e.symm
    ·intro q' q6 e' e6 e
     cases e'
     rcases hq2 with ⟨q5,e5,e7⟩ | e7
     ·exact h56 q5 q6 e5 e6 (by rw [<- e7]; exact e)
     ·have:=(o6'.base e6).2; omega
    ·exact M3.trans mm fun z hz ⟨q5,e5,e⟩=>by have:=(o5.base e5).1; omega
   ·have e1:(L.take (i+1)).filter (ripeP V)=(L.take i).filter (ripeP V):=by rw [htk,List.filter_append]; simp [hb2]
    have e2:(L.take (i+1)).filter (fun x=>!ripeP V x)=((L.take i).filter fun x=>!ripeP V x)++[x]:=by rw [htk,List.filter_append]; simp [hb2]
    have hfl:=List.length_filter_le (fun x=>!ripeP V x) (L.take i)
    rw [List.length_take] at hfl
    have la1:Ru (Instr.loadAt 203 (.pointer (some ⟨w1.heap.size,0,none⟩))) w3 (.agg ⟨wtV x⟩) w3:=a3.at.loadAgg (i:=0) agg_wait (by rw [wtV_len]; omega)
    obtain ⟨q2,c',w7,run,p,mm,hq2⟩:=snocG (Te:=203) (ys:=wtV x) elemG_waits (by omega) o6' rfl (wtV_one _) (by omega) (by omega) (by omega)
    refine ⟨_,_,_,rfl,_,la1,_,_,_,_,built_wait _ _,_,_,_,w7,run,a5,some q2,c5,c',.bool (ripeP V x),(by rw [e1,e2,List.length_append]; rfl),?_,?_,?_,?_⟩
    ·rw [e1]
     exact o5'.keep mm fun q' hq' ⟨q5,e5,e⟩=>h56 q' q5 hq' e5 e
    ·rw [e2,rowW_snoc,show (((L.take i).filter fun x=>!ripeP V x)++[x]).length=((L.take i).filter fun x=>!ripeP V x).length+1 by simp]
     exact p
    ·intro q5 q' e5 e' e
     cases e'
     rcases hq2 with ⟨q6,e6,e7⟩ | e7
     ·exact h56 q5 q6 e5 e6 (by rw [<- e7]; exact e)
     ·have:=(o5'.base e5).2; omega
    ·exact M3.trans mm fun z hz ⟨q5,e5,e⟩=>by have:=(o6.base e5).1; omega
  rintro z w10 ⟨a5,a6,c5,c6,y,rfl,o5,o6,h56,m10⟩
  rw [wrap64 (x:=(i:Int)+1) (by omega) (by omega)]
  exact ⟨⟨i+1,a5,a6,c5,c6,_,rfl,by omega,o5,o6,h56,m10⟩,by simp [nI,nth]; omega⟩
 ·have hi:i=L.length:=by have:=of_decide_eq_false hb; omega
  subst hi
  rw [List.take_length] at o5 o6
  obtain ⟨w5,u1,u2,u3,u4⟩:=h1.cell.store (P:=Tryz.prog) (T:=199) (i:=0) (v:=.slice a6 (L.filter fun x=>!ripeP V x).length c6) (by kernel_rfl) (by simp) rfl
  have hqw:=h.cell.lt
  rw [List.take_length]
  refine ⟨_,_,_,rfl,_,rfl,w5,by rw [add_none]; exact u1,_,_,_,rfl,hk w5 a5 c5 ((m1.mono fun _ _ h=>h.elim).trans u3 fun _ _ e=>e) ⟨a6,c6,⟨u2,?_,fun a ha=>⟨fun e=>?_,fun e=>?_⟩,fun e=>?_⟩⟩ ?_⟩
  ·exact (o6.keep u3 fun a ha e=>by have e:a.block=q:=e; have:=(o6.base ha).1; omega).mono (by omega)
  ·have:=(o6.base ha).1; omega
  ·rcases e with e | ⟨a',ha',e⟩
   ·have:=(o6.base ha).1; have:=hZ _ e; omega
   ·exact h56 a' a ha' ha e.symm
  ·rcases e with e | ⟨a',ha',e⟩
   ·exact h.nz e
   ·have:=(o5.base ha').1; omega
  ·exact o5.keep u3 fun a ha e=>by have e:a.block=q:=e; have:=(o5.base ha).1; omega
theorem kList_c (h:Wk 199 Z w q L) (hn:L.length<=5000) (hk:∀ w' a c,Mod No w w'->Ow Tryz.prog w' w.heap.size 128 2 a L.length c (rowC (L.map (·.2)))->K (.slice a L.length c) w') :
  Cal Tryz.prog F_push_Work_List #[.pointer (some ⟨q,0,none⟩)] w K:=by
 apply C_push_Work_List
 unfold D_push_Work_List
 refine kLen_c h ⟨_,rfl,?_⟩
 obtain ⟨la,lc,h⟩:=h
 refine ⟨fun x w1=>∃ (i:Nat) (a5:Option Addr) (c5:Nat),x=[.slice a5 i c5,.int .i64 i]/\i<=L.length/\Ow Tryz.prog w1 w.heap.size 128 2 a5 i c5 (rowC ((L.take i).map (·.2)))/\Mod No w w1,fun x _=>(L.length-nI x 1).toNat,
  ⟨0,none,0,rfl,by omega,Ow.nilG elemG_acts,Mod.refl _ _⟩,?_⟩
 rintro x w1 ⟨i,a5,c5,rfl,hi,o5,m1⟩
 have h1:=h.nos m1
 have hz1:=m1.size
 refine ⟨_,rfl,cond_of (fun hb=>?_) (fun hb=>?_)⟩
 ·have hi:i<L.length:=by have:=of_decide_eq_true hb; omega
  have hx:L[i]?=some L[i]:=List.getElem?_eq_getElem hi
  have htk:=List.take_succ_eq_append_getElem hi
  obtain ⟨g,rfl,hix,_,hag,_⟩:=h1.at (Te:=203) elemN_waits agg_wait hn hx
  generalize L[i]=x at *
  obtain ⟨q2,c',w7,run,p,mm,hq2⟩:=snocG (Te:=126) (ys:=acV x.2) elemG_acts (by omega) o5 rfl (acV_one _) (by omega) (by omega) (by omega)
  refine ⟨_,_,_,rfl,_,rfl,_,_,_,h1.ld (by kernel_rfl),_,hix,_,hag w1 _ (Mod.refl _ _) agg_pact,_,_,_,_,built_act _ _,_,_,_,w7,run,?_⟩
  rw [wrap64 (x:=(i:Int)+1) (by omega) (by omega)]
  refine ⟨⟨i+1,some q2,c',rfl,by omega,?_,m1.trans mm fun z hz ⟨q5,e5,e⟩=>by have:=(o5.base e5).1; omega⟩,by simp [nI,nth]; omega⟩
  have:rowC ((L.take (i+1)).map (·.2))=rowC ((L.take i).map (·.2))++acV x.2:=by rw [htk,List.map_append]; exact rowC_snoc _ _
  rw [this]; exact p
 ·have hi:i=L.length:=by have:=of_decide_eq_false hb; omega
  subst hi
  rw [List.take_length] at o5
  exact ⟨_,_,_,rfl,hk w1 a5 c5 m1 o5⟩
end
end Go.Proofs.YtelhlihjihklbaaGreat
end
section
open Go Go.Den Go.Proofs
namespace Go.Proofs.YtelhlihjihklbaaGreat
def two (P : Program) (T : TypeId) : Bool :=
  match (P.fieldsOf T).toList with
  | [f, g] => f.name != "_" && g.name != "_" && f.type == 3 && f.offset == 0 && g.type == 3 && g.offset == 1
  | _ => false
theorem two_is {P : Program} {T : TypeId} (h : two P T = true) : ∃ f g, (P.fieldsOf T).toList = [f, g] ∧ f.name ≠ "_" ∧ g.name ≠ "_" ∧ f.type = 3 ∧ f.offset = 0 ∧ g.type = 3 ∧ g.offset = 1 := by
  unfold two at h
  split at h
  · rename_i f g e
    simp only [Bool.and_eq_true, bne_iff_ne, beq_iff_eq] at h
    exact ⟨f, g, e, h.1.1.1.1.1, h.1.1.1.1.2, h.1.1.1.2, h.1.1.2, h.1.2, h.2⟩
  · cases h
section
variable {w w' w0:World} {R:Nat->Prop} {sp d:Nat} {V:Ps} {K:Value->World->Prop} {T:TypeId} {Z Z':Nat->Prop} {q lc:Nat} {L:List Wt} {la:Option Addr}
def sameA (x y:Int×Int):Bool:=x.1==y.1&&x.2==y.2
theorem eqIn_act (h2:two Tryz.prog T=true) (ht:Tryz.prog.underlying T=some (.struct (Tryz.prog.fieldsOf T))) (hp:Tryz.prog.stoodInHeld T=false) (x y:Int×Int) (w:World) :
  (Op.equalIn 10000 T (.agg ⟨acV x⟩) (.agg ⟨acV y⟩)).run Tryz.prog w=.ok (sameA x y) w:=by
 obtain ⟨f,g,hfs,nf,ng,tf,of,tg,og⟩:=two_is h2
 rw [run_equalIn_agg w 9999 T _ _ ht hp,hfs]
 unfold Op.eqFields
 rw [if_pos nf,tf,of]
 have p1:∀ x:Int×Int,∀ w:World,(part 3 ⟨acV x⟩ 0).run Tryz.prog w=.ok (.int .i64 x.1) w:=fun x w=>by kernel_rfl
 have p2:∀ x:Int×Int,∀ w:World,(part 3 ⟨acV x⟩ 1).run Tryz.prog w=.ok (.int .i64 x.2) w:=fun x w=>by kernel_rfl
 have e1:∀ a b:Int,(Op.equalIn 9999 3 (.int .i64 a) (.int .i64 b)).run Tryz.prog w=.ok (a==b) w:=fun a b=>run_equalIn_int w 9998 3 .i64 .i64 a b (by kernel_rfl)
 unfold sameA
 cases h1:x.1==y.1 with
 | false=>simp [Sem.run_bind,p1,e1,h1]
 | true =>
  simp [Sem.run_bind,p1,e1,h1,Op.eqFields,ng,tg,og,p2]
  cases h3:x.2==y.2 <;> simpa using h3
theorem eql_act (h2:two Tryz.prog T=true) (ht:Tryz.prog.underlying T=some (.struct (Tryz.prog.fieldsOf T))) (hp:Tryz.prog.stoodInHeld T=false) (hg:Tryz.prog.eqGuardType Tryz.prog.depth T=false) (o1 o2:Operand) (x y:Int×Int) :
  Al (eqS .eql T o1 o2 (.agg ⟨acV x⟩) (.agg ⟨acV y⟩)) (.bool (sameA x y)):=fun w=>by
 unfold eqS
 rw [Sem.run_bind,run_eqGuard_agg w _ _ _ _ _ _ hg,Result.andThen_ok,run_eql_struct,eqIn_act h2 ht hp,Result.andThen_ok]
theorem neq_act (h2:two Tryz.prog T=true) (ht:Tryz.prog.underlying T=some (.struct (Tryz.prog.fieldsOf T))) (hp:Tryz.prog.stoodInHeld T=false) (hg:Tryz.prog.eqGuardType Tryz.prog.depth T=false) (o1 o2:Operand) (x y:Int×Int) :
  Al (eqS .neq T o1 o2 (.agg ⟨acV x⟩) (.agg ⟨acV y⟩)) (.bool (!sameA x y)):=fun w=>by
 unfold eqS
 rw [Sem.run_bind,run_eqGuard_agg w _ _ _ _ _ _ hg,Result.andThen_ok,run_neq_struct,eqIn_act h2 ht hp,Result.andThen_ok]
theorem two_act:two Tryz.prog 126=true:=by kernel_rfl
theorem und_act:Tryz.prog.underlying 126=some (.struct (Tryz.prog.fieldsOf 126)):=by kernel_rfl
theorem std_act:Tryz.prog.stoodInHeld 126=false:=by kernel_rfl
theorem grd_act:Tryz.prog.eqGuardType Tryz.prog.depth 126=false:=by kernel_rfl
theorem actAt {T Te:TypeId} {base l c i:Nat} {a:Option Addr} {xs:List (Int×Int)} {x:Int×Int} (h:Ow Tryz.prog w base T 2 a l c (rowC xs)) (hl:xs.length=l) (hT:elemN Tryz.prog T=some 2) (hE:aggN Tryz.prog Te=some 2) (h63:l<=1000000) (hx:xs[i]?=some x) :
  ∃ g,a=some ⟨g,0,none⟩/\base<=g/\Al (Instr.indexAt T (.slice a l c) (.int .i64 i)) (.pointer (some ⟨g,i*2,none⟩))/\(∀ w',Mod No w w'->Ru (Instr.loadAt Te (.pointer (some ⟨g,i*2,none⟩))) w' (.agg ⟨acV x⟩) w') /\
   ∀ (w':World) (j:Nat) (v:Value) (Ti:TypeId),Mod No w w'->scal Tryz.prog Ti=true->(acV x)[j]?=some v->Ru (Instr.loadAt Ti (.pointer (some (Addr.add ⟨g,i*2,none⟩ j)))) w' v w':=by
 have hi:=(List.getElem?_eq_some_iff.1 hx).1
 obtain ⟨g,rfl,hg,hat⟩:=h.sm (by omega)
 have hlen:(rowC xs).length=xs.length*2:=flat_len' acV_len xs
 refine ⟨g,rfl,hg,fun w'=>?_,fun w' m=>?_,fun w' j v Ti m hTi hj=>?_⟩
 ·have:=index_slice (P:=Tryz.prog) (T:=T) (k:=2) (a:=⟨g,0,none⟩) (n:=l) (c:=c) (kk:=.i64) (i:=i) hT (by omega) (by omega) w'
  rw [add_none,show 0+(i:Int).toNat*2=i*2 by omega] at this
  exact this
 ·have:=(hat.keep m id).at.loadAgg (P:=Tryz.prog) (T:=Te) (i:=i*2) hE (by rw [hlen]; omega)
  rw [show ((rowC xs).drop (i*2)).take 2=acV x from flat_drop acV_len hx,Nat.zero_add] at this
  exact this
 ·rw [add_none]
  have:=(hat.keep m id).at.load (P:=Tryz.prog) (T:=Ti) (i:=i*2+j) hTi (v:=v) (flat_cell acV_len hx hj)
  rw [Nat.zero_add] at this
  exact this
theorem elemN_acts:elemN Tryz.prog 128=some 2:=by kernel_rfl
theorem ContainsA_c {base l c:Nat} {a:Option Addr} {xs:List (Int×Int)} {y:Int×Int} (h:Ow Tryz.prog w base 128 2 a l c (rowC xs)) (hl:xs.length=l) (h63:l<=1000000)
  (hk:∀ w',Mod No w w'->K (.bool (xs.any fun x=>sameA x y)) w'):Cal Tryz.prog F_slices_Contains_push_Act #[.slice a l c,.agg ⟨acV y⟩] w K:=by
 apply C_slices_Contains_push_Act
 unfold D_slices_Contains_push_Act
 refine ⟨_,_,box_run,?_⟩
 have m1:Mod No w (w.alloc (.cells (Value.agg ⟨acV y⟩).cells 126)):=(Mod.refl No w).alloc _
 have a1:AtU (w.alloc (.cells (Value.agg ⟨acV y⟩).cells 126)) w.heap.size 0 (acV y):=AtU.new
 generalize w.alloc (.cells (Value.agg ⟨acV y⟩).cells 126)=w1 at *
 have la1:Ru (Instr.loadAt 126 (.pointer (some ⟨w.heap.size,0,none⟩))) w1 (.agg ⟨acV y⟩) w1:=a1.at.loadAgg (i:=0) agg_pact (by rw [acV_len]; omega)
 refine ⟨_,la1,?_⟩
 apply C_slices_Index_push_Act
 unfold D_slices_Index_push_Act
 refine ⟨_,_,box_run,?_⟩
 have m2:Mod No w1 (w1.alloc (.cells (Value.agg ⟨acV y⟩).cells 126)):=(Mod.refl No w1).alloc _
 have a2:AtU (w1.alloc (.cells (Value.agg ⟨acV y⟩).cells 126)) w1.heap.size 0 (acV y):=AtU.new
 generalize w1.alloc (.cells (Value.agg ⟨acV y⟩).cells 126)=w2 at *
 have M2:=m1.no m2
 refine ⟨fun x w3=>∃ i:Nat,x=[.int .i64 i]/\i<=l/\Mod No w2 w3/\((xs.take i).any fun x=>sameA x y)=false,fun x _=>(l-nI x 0).toNat,⟨0,rfl,by omega,Mod.refl _ _,rfl⟩,?_⟩
 rintro x w3 ⟨i,rfl,hi,m3,hno⟩
 refine ⟨_,rfl,cond_of (fun hb=>?_) (fun hb=>?_)⟩
 ·have hi:i<xs.length:=by have:=of_decide_eq_true hb; omega
  have md:Mod No w2 (drew w3):=m3.drew
  obtain ⟨g,rfl,_,hix,hag,_⟩:=actAt (Te:=126) h hl elemN_acts agg_pact h63 (List.getElem?_eq_getElem hi)
  have ht:((xs.take (i+1)).any fun x=>sameA x y)=(((xs.take i).any fun x=>sameA x y) || sameA xs[i] y):=by rw [List.take_succ_eq_append_getElem hi,List.any_append]; simp
  refine ⟨_,(a2.keep md id).at.loadAgg (i:=0) agg_pact (by rw [acV_len]; omega),_,hix,_,hag _ (M2.no md),_,eql_act two_act und_act std_act grd_act _ _ y xs[i],cond_of (fun hb2=>?_) (fun hb2=>?_)⟩
  ·refine ⟨_,rfl,?_⟩
   have hs:(xs.any fun x=>sameA x y)=true:=List.any_eq_true.2 ⟨xs[i],List.getElem_mem hi,by unfold sameA at hb2 |-; simp at hb2 |-; omega⟩
   rw [decide_eq_true (by omega),<- hs]
   exact hk _ (M2.no md)
  ·rw [wrap64 (x:=(i:Int)+1) (by omega) (by omega)]
   refine ⟨⟨i+1,rfl,by omega,md,?_⟩,by simp [nI,nth]; omega⟩
   rw [ht,hno,Bool.false_or]
   unfold sameA at hb2 |-
   rw [Bool.eq_false_iff] at hb2 |-
   intro e; apply hb2; simp at e |-; omega
 ·have hi:i=xs.length:=by have:=of_decide_eq_false hb; omega
  subst hi
  rw [List.take_length] at hno
  refine ⟨_,rfl,?_⟩
  rw [decide_eq_false (by omega),<- hno]
  exact hk _ (M2.no m3)
theorem kWaits_c {y:Int×Int} (h:Wk 199 Z w q L) (hn:L.length<=5000) (hk:∀ w',Mod No w w'->K (.bool (L.any fun x=>sameA x.2 y)) w') :
  Cal Tryz.prog F_push_Work_Waits #[.pointer (some ⟨q,0,none⟩),.agg ⟨acV y⟩] w K:=by
 apply C_push_Work_Waits
 unfold D_push_Work_Waits
 refine ⟨_,_,box_run,?_⟩
 have m1:Mod No w (w.alloc (.cells (Value.agg ⟨acV y⟩).cells 126)):=(Mod.refl No w).alloc _
 have a1:AtU (w.alloc (.cells (Value.agg ⟨acV y⟩).cells 126)) w.heap.size 0 (acV y):=AtU.new
 generalize w.alloc (.cells (Value.agg ⟨acV y⟩).cells 126)=w1 at *
 have md:Mod No w1 (drew w1):=(Mod.refl No w1).drew
 refine ⟨_,(a1.keep md id).at.loadAgg (i:=0) agg_pact (by rw [acV_len]; omega),kList_c ((h.nos m1).nos md) hn fun w2 a c m2 o2=>⟨_,_,_,rfl,(a1.keep (md.no m2) id).at.loadAgg (i:=0) agg_pact (by rw [acV_len]; omega),?_⟩⟩
 refine ContainsA_c o2 (by simp) (by omega) fun w3 m3=>⟨_,rfl,?_⟩
 have:=hk w3 (((m1.no md).no m2).no m3)
 rw [List.any_map]
 exact this
end
end Go.Proofs.YtelhlihjihklbaaGreat
end
section
open Go Go.Den Go.Proofs
namespace Go.Proofs.YtelhlihjihklbaaGreat
def Sb (R R':Nat->Prop) (w:World):Prop:=∀ z,R' z->R z\/w.heap.size<=z
theorem Sb.refl (R:Nat->Prop) (w:World):Sb R R w:=fun _ h=>.inl h
theorem Sb.trans {R R' R'':Nat->Prop} {w w':World} (h:Sb R R' w) (k:Sb R' R'' w') (hz:w.heap.size<=w'.heap.size):Sb R R'' w:=fun z hx=>by
 rcases k z hx with h1 | h1
 ·exact h z h1
 ·exact .inr (by omega)
theorem Sb.gro {R:Nat->Prop} {w w1:World}:Sb R (Gro R w w1) w:=fun _ h=>by
 rcases h with h | h
 ·exact .inl h
 ·exact .inr (by omega)
theorem Sb.up {R R':Nat->Prop} {w w':World} (k:Sb R R' w') (hz:w.heap.size<=w'.heap.size):Sb R R' w:=fun z h=>(k z h).imp id fun e=>by omega
theorem Mod.sb {R R':Nat->Prop} {a b c:World} (h:Mod R a b) (s:Sb R R' a) (k:Mod R' b c):Mod R a c:=h.trans k fun x hx e=>(s x e).resolve_right (by omega)
theorem Pz.dlo {w0 w:World} {R:Nat->Prop} {sp d:Nat} {V:Ps} (h:Pz w0 R w sp d V):w0.heap.size<=d:=by
 obtain ⟨C,_,_,_,rl,c,mo,mm,ca,oa,Lo,Lm,h⟩:=h
 have hl:=h.lo d
 obtain ⟨rl2,m,sb,mb,sc,lc,la,L,mp,hC⟩:=h.cx
 have e4:rl2 d=4:=hC.disk.rb
 have e1:rl d=1:=hC.reg d (by omega)
 exact (hl (h.reg d (by omega))).1
structure VuS (w0:World) (Rs Rw:Nat->Prop) (w:World) (v d sp wk:Nat) (s:Sp) (V:Ps) (W:List Wt) (nx:Int):Prop where
 st:Pz w0 Rs w sp d V
 cell:AtU w v 0 (vV s sp wk nx)
 wrk:Wk 199 (fun x=>x<w.heap.size/\¬ Rw x) w wk W
 dj:∀ z,Rs z->¬ Rw z
 nv:¬ Rs v/\¬ Rw v
 lo:∀ z,Rw z\/z=v->d<=z/\z<w.heap.size
def Vu (R:Nat->Prop) (w:World) (v d:Nat) (s:Sp) (V:Ps) (W:List Wt) (nx:Int):Prop :=
 ∃ w0 Rs Rw sp wk,VuS w0 Rs Rw w v d sp wk s V W nx/\(∀ z,Rs z\/Rw z\/z=v->R z)/\∀ z,R z->z<w.heap.size
section
variable {w0 w w':World} {R R':Nat->Prop} {v d:Nat} {s:Sp} {V:Ps} {W:List Wt} {nx:Int} {K:Value->World->Prop}
theorem Vu.lt (h:Vu R w v d s V W nx):∀ z,R z->z<w.heap.size:=by obtain ⟨_,_,_,_,_,_,_,h⟩:=h; exact h
theorem Vu.rv (h:Vu R w v d s V W nx):R v:=by obtain ⟨_,_,_,_,_,_,h,_⟩:=h; exact h v (.inr (.inr rfl))
theorem Vu.wf (h:Vu R w v d s V W nx):WFS V/\WF V.C.D:=by obtain ⟨_,_,_,_,_,h,_⟩:=h; exact ⟨h.st.wf.1,h.st.wf.2.2.2.2⟩
theorem Vu.dlo (h:Vu R w v d s V W nx):d<=v:=by obtain ⟨_,_,_,_,_,h,_⟩:=h; exact (h.lo v (.inr rfl)).1
theorem Vu.keep {S:Nat->Prop} (h:Vu R w v d s V W nx) (m:Mod S w w') (hS:∀ z,R z->¬ S z) (hd:∀ z,S z->d<=z):Vu R w' v d s V W nx:=by
 obtain ⟨w0,Rs,Rw,sp,wk,h,h1,h2⟩:=h
 have hz:=m.size
 have hd0:=h.st.dlo
 have hrw:∀ x,x<w.heap.size->Rw x->¬ S x:=fun x _ e=>hS x (h1 x (.inr (.inl e)))
 refine ⟨w0,Rs,Rw,sp,wk,⟨h.st.keep m (fun x hx=>hS x (h1 x (.inl hx))) fun x hx e=>by have:=hd x e; omega,h.cell.keep m (hS v (h1 v (.inr (.inr rfl)))),?_,h.dj,h.nv,fun z hz=>?_⟩,h1,fun z hz=>?_⟩
 ·refine h.wrk.keep (S:=fun x=>S x/\x<w.heap.size) (m.mono fun x hx e=>⟨e,hx⟩) (fun x e=>⟨e.2,fun r=>hrw x e.2 r e.1⟩) fun x hx e=>⟨hx,e.2⟩
 ·have:=h.lo z hz
  omega
 ·have:=h2 z hz
  omega
theorem Vu.nos (h:Vu R w v d s V W nx) (m:Mod No w w'):Vu R w' v d s V W nx:=h.keep m (fun _ _ e=>e) fun _ e=>e.elim
theorem Vu.op (h:Vu R w v d s V W nx):∃ (w0:World) (Rs Z:Nat->Prop) (sp wk:Nat),Pz w0 Rs w sp d V/\Wk 199 Z w wk W/\(∀ x,Z x->x<w.heap.size)/\AtU w v 0 (vV s sp wk nx)/\(∀ z,Rs z->R z) /\
  (∀ w1 w' V',Mod Rs w w1->Mod No w1 w'->Pz w0 (Gro Rs w w1) w' sp d V'->Mod R w w'/\Vu (Gro R w w1) w' v d s V' W nx) /\
  (∀ w' (Z':Nat->Prop) W',Mod (fun z=>z=wk) w w'->(∀ x,Z x->Z' x)->Wk 199 Z' w' wk W'->Mod R w w'/\Vu (fun z=>R z\/(w.heap.size<=z/\z<w'.heap.size/\¬ Z' z)) w' v d s V W' nx):=by
 obtain ⟨w0,Rs,Rw,sp,wk,h,h1,h2⟩:=h
 have hd0:=h.st.dlo
 have hlo:=h.st.lo
 have hw:=h.wrk
 have hRwk:Rw wk:=by
  obtain ⟨la,lc,hw⟩:=hw
  exact Classical.byContradiction fun e=>hw.nz ⟨hw.cell.lt,e⟩
 refine ⟨w0,Rs,_,sp,wk,h.st,h.wrk,fun x e=>e.1,h.cell,fun z hz=>h1 z (.inl hz),fun w1 w' V' m1 m2 hP=>?_,fun w' Z' W' m hZ hW=>?_⟩
 ·have m:=m1.no m2
  have z1:=m1.size
  have z2:=m2.size
  refine ⟨m.mono fun x _ e=>h1 x (.inl e),w0,Gro Rs w w1,Rw,sp,wk,⟨hP,h.cell.keep m h.nv.1,?_,fun z hz e=>?_,⟨fun e=>?_,h.nv.2⟩,fun z hz=>?_⟩,fun z hz=>?_,fun z hz=>?_⟩
  ·refine h.wrk.keep m (fun x e=>⟨(hlo x e).2,h.dj x e⟩) fun x hx e=>⟨hx,e.2⟩
  ·rcases hz with hz | hz
   ·exact h.dj z hz e
   ·have:=(h.lo z (.inl e)).2; omega
  ·rcases e with e | e
   ·exact h.nv.1 e
   ·have:=(h.lo v (.inr rfl)).2; omega
  ·have:=h.lo z hz; omega
  ·rcases hz with (hz | hz) | hz
   ·exact .inl (h1 z (.inl hz))
   ·exact .inr hz
   ·exact .inl (h1 z (.inr hz))
  ·rcases hz with hz | hz
   ·have:=h2 z hz; omega
   ·omega
 ·have z1:=m.size
  have hwkl:=(h.lo wk (.inl hRwk)).2
  have e1:¬ v=wk:=fun e=>h.nv.2 (e ▸ hRwk)
  refine ⟨m.mono fun x _ e=>by have e:x=wk:=e; rw [e]; exact h1 wk (.inr (.inl hRwk)),w0,Rs,fun z=>Rw z\/(w.heap.size<=z/\z<w'.heap.size/\¬ Z' z),sp,wk,⟨h.st.keep m (fun x hx e=>?_) (fun x hx e=>?_),h.cell.keep m e1,?_,fun z hz e=>?_,⟨h.nv.1,fun e=>?_⟩,fun z hz=>?_⟩,fun z hz=>?_,fun z hz=>?_⟩
  ·have e:x=wk:=e
   rw [e] at hx; exact h.dj wk hx hRwk
  ·have e:x=wk:=e
   have:=(h.lo wk (.inl hRwk)).1; omega
  ·refine hW.keep (S:=No) (Mod.refl _ _) (fun _ e=>e.elim) fun x hx e=>?_
   by_cases hx2:x<w.heap.size
   ·exact hZ x ⟨hx2,fun r=>e.2 (.inl r)⟩
   ·exact Classical.byContradiction fun r=>e.2 (.inr ⟨by omega,hx,r⟩)
  ·rcases e with e | e
   ·exact h.dj z hz e
   ·have:=(hlo z hz).2; omega
  ·rcases e with e | e
   ·exact h.nv.2 e
   ·have:=(h.lo v (.inr rfl)).2; omega
  ·rcases hz with (hz | hz) | hz
   ·have:=h.lo z (.inl hz); omega
   ·have:=(h.lo wk (.inl hRwk)).1; omega
   ·have:=h.lo z (.inr hz); omega
  ·rcases hz with hz | (hz | hz) | hz
   ·exact .inl (h1 z (.inl hz))
   ·exact .inl (h1 z (.inr (.inl hz)))
   ·exact .inr hz
   ·exact .inl (h1 z (.inr (.inr hz)))
  ·rcases hz with hz | hz
   ·have:=h2 z hz; omega
   ·omega
theorem Vu.at (h:Vu R w v d s V W nx):∃ sp wk,AtU w v 0 (vV s sp wk nx):=by obtain ⟨_,_,_,sp,wk,h,_⟩:=h; exact ⟨sp,wk,h.cell⟩
theorem Vu.geo (h:Vu R w v d s V W nx):Ru (Instr.loadAt 40 (.pointer (some (Addr.add (Addr.add ⟨v,0,none⟩ 0) 1)))) w (.agg ⟨gV s.geo⟩) w:=by
 obtain ⟨sp,wk,h⟩:=h.at
 exact fldA2 h.at agg_geo (by show 4<=7; omega) rfl
theorem wGeo_c (h:Vu R w v d s V W nx) (hk:∀ w',Mod No w w'->K (.agg ⟨gV s.geo⟩) w'):Cal Tryz.prog F_vol_Vol_Geo #[.pointer (some ⟨v,0,none⟩)] w K:=by
 apply C_vol_Vol_Geo
 unfold D_vol_Vol_Geo
 obtain ⟨w1,b1,b2,b3,b4⟩:=new_u (P:=Tryz.prog) (w:=w) (T:=40) zero_geo
 obtain ⟨w2,c1,c2,c3,c4⟩:=b2.put (T:=40) (vs:=gV s.geo) agg_geo rfl rfl (one_gV _)
 exact ⟨_,w1,b1,ff rfl ⟨_,rfl,_,(h.nos b3).geo,w2,c1,_,c2.at.all agg_geo rfl,hk w2 (b3.own c3 (Nat.le_refl _))⟩⟩
theorem whd_c {k:Int} (h:Vu R w v d s V W nx) (hk:∀ w',Mod No w w'->K (.tuple #[.int .i64 (gHead s.geo k).1,.int .i64 (gHead s.geo k).2]) w'):Cal Tryz.prog F_vol_Vol_head #[.pointer (some ⟨v,0,none⟩),.int .i64 k] w K:=by
 apply C_vol_Vol_head
 unfold D_vol_Vol_head
 exact ff rfl ⟨_,rfl,_,h.geo,geoHead_c fun w' m=>⟨_,_,rfl,hk w' m⟩⟩
theorem Vu.rd (h:Vu R w v d s V W nx) {n:Int} (h0:0<=n) (h1:n<V.C.D.vs.length)
  (hk:∀ w' R' g cc,Mod R w w'->Sb R R' w->Vu R' w' v d s V W nx->w.heap.size<=g->¬ R' g->AtU w' g 0 (u8L (contV V n.toNat))->(contV V n.toNat).length=256->256<=cc->K (.tuple #[.slice (some ⟨g,0,none⟩) 256 cc,.int .i64 0]) w') :
  ∃ p:Option Addr,Ru (Instr.loadAt 89 (.pointer (some (Addr.add ⟨v,0,none⟩ 4)))) w (.pointer p) w/\Cal Tryz.prog F_patch_Store_Read #[.pointer p,.int .i64 n] w K:=by
 have hwf:=h.wf
 have hlt:=h.lt
 obtain ⟨w0,Rs,Z,sp,wk,a1,a2,a3,a4,a5,a6,a7⟩:=h.op
 refine ⟨_,a4.at.fld sc_store rfl,?_⟩
 obtain ⟨b,rfl⟩:=Int.eq_ofNat_of_zero_le h0
 have hb:b<V.C.D.vs.length:=by omega
 refine qReadC_c a1 rfl hb fun w1 w' g cc m1 m2 hP hg hat hcc=>?_
 obtain ⟨M,hV⟩:=a6 w1 w' V m1 m2 hP
 have z1:=m1.size
 refine hk w' _ g cc M Sb.gro hV (by omega) (fun e=>?_) hat (cont_len hwf.1 hwf.2 hb) hcc
 rcases e with e | e
 ·have:=hlt g e; omega
 ·omega
def hdOf (g:Gm) (hs:List Hd) (k:Int):Hd×Int:=if (gHead g k).2≠0 then (hZ,(gHead g k).2) else (hs.getD k.toNat hZ,0)
theorem gHead_ok {g:Gm} {k:Int} (h:(gHead g k).2=0):gOk g=true/\0<=k/\k<g.gs/\(gHead g k).1=2+k*g.gr:=by
 unfold gHead at h |-
 split at h
 ·rename_i hg
  split at h
  ·rename_i hk
   rw [if_pos hg,if_pos hk]; exact ⟨hg,hk.1,hk.2,rfl⟩
  ·cases h
 ·cases h
variable {hs:List Hd}
theorem HdsAt.get (h:HdsAt V s.geo hs) {k:Int} (h0:0<=k) (h1:k<s.geo.gs):∃ x,hs[k.toNat]?=some x/\contV V (2+k*s.geo.gr).toNat=grpB s.geo x/\hOk s.geo x=true/\x.no=k/\hWf x:=by
 have hl:=h.2.2.1
 have hlt:k.toNat<hs.length:=by omega
 refine ⟨hs[k.toNat],by simp [hlt],?_⟩
 have:=h.2.2.2 k.toNat hs[k.toNat] (by simp [hlt])
 rw [show ((k.toNat:Nat):Int)=k by omega] at this
 exact this
theorem wHead_c {k:Int} (h:Vu R w v d s V W nx) (hH:HdsAt V s.geo hs)
  (hk:∀ w' R',Mod R w w'->Sb R R' w->Vu R' w' v d s V W nx->hWf (hdOf s.geo hs k).1->(k<0\/s.geo.gs<=k->Mod No w w')->K (.tuple #[.agg ⟨hV (hdOf s.geo hs k).1⟩,.int .i64 (hdOf s.geo hs k).2]) w'):Cal Tryz.prog F_vol_Vol_Head #[.pointer (some ⟨v,0,none⟩),.int .i64 k] w K:=by
 apply C_vol_Vol_Head
 unfold D_vol_Vol_Head
 obtain ⟨w1,b1,b2,b3,b4⟩:=new_u (P:=Tryz.prog) (w:=w) (T:=119) zero_head
 have hdv:=h.dlo
 have hvl:=h.lt v h.rv
 have h1:=h.nos b3
 refine ⟨_,w1,b1,whd_c h1 fun w2 m2=>⟨_,_,rfl,?_⟩⟩
 have h2:=h1.nos m2
 have m02:=b3.no m2
 rw [bneI]
 refine cond_of (fun he=>⟨_,build_head0,?_⟩) (fun he=>?_)
 ·have he:=of_decide_eq_true he
  obtain ⟨w3,c1,c2,c3,c4⟩:=(b2.keep m2 id).put (T:=119) (vs:=hV hZ) agg_head rfl (hV_len hZ_wf) (one_hV _)
  refine ⟨w3,c1,_,c2.at.all agg_head (hV_len hZ_wf),?_⟩
  have e:hdOf s.geo hs k=(hZ,(gHead s.geo k).2):=by unfold hdOf; rw [if_pos he]
  rw [e] at hk
  have m3:Mod No w w3:=m02.own c3 (Nat.le_refl _)
  exact hk w3 R (m3.mono fun _ _ e=>e.elim) (Sb.refl _ _) (h.nos m3) hZ_wf fun _=>m3
 have he:=Classical.not_not.1 (of_decide_eq_false he)
 obtain ⟨hg,k0,k1,kb⟩:=gHead_ok he
 obtain ⟨x,hx,hx1,hx2,hx3,hx4⟩:=hH.get k0 k1
 have e:hdOf s.geo hs k=(x,0):=by unfold hdOf; rw [if_neg (by rw [he]; decide),List.getD_eq_getElem?_getD,hx]; rfl
 rw [e] at hk
 have hin:=gHead_in (g:=s.geo) (k:=k) (b:=(gHead s.geo k).1) (by rw [<- he])
 have hsz:=hH.2.1
 refine ⟨_,rfl,?_⟩
 have hs1:=b3.size
 have hs2:=m2.size
 refine h2.rd hin.1 (by omega) fun w4 R4 g cc m4 s4 h4 hg1 hg2 hat hl hcc=>⟨_,_,_,_,rfl,ff rfl ⟨_,rfl,_,h4.geo,?_⟩⟩
 rw [kb,hx1] at hat hl
 have q2:=(b2.keep m2 id).keep m4 (fun e=>by have:=h.lt _ e; omega)
 refine headGet_c hl hcc (.inr ⟨_,_,rfl,hat.at⟩) (by omega) fun w6 m6=>⟨_,_,rfl,?_⟩
 rw [hGet_grpB hx4 hx2]
 obtain ⟨w7,c1,c2,c3,c4⟩:=(q2.keep m6 id).put (T:=119) (vs:=hV x) agg_head rfl (hV_len hx4) (one_hV _)
 have hnR:¬ R4 w.heap.size:=fun e=>by
  rcases s4 _ e with e | e
  ·have:=h.lt _ e; omega
  ·have:=b2.lt; omega
 have M6:Mod R w w6:=((m02.mono fun _ _ e=>e.elim).trans m4 fun x _ e=>e).no m6
 refine ⟨w7,c1,_,c2.at.all agg_head (hV_len hx4),?_⟩
 refine hk w7 R4 (M6.trans c3 fun x hx e=>by have e:x=w.heap.size:=e; omega) (s4.up (by omega)) ((h4.nos m6).keep c3 (fun z hz e=>by have e:z=w.heap.size:=e; rw [e] at hz; exact hnR hz) fun z e=>by have e:z=w.heap.size:=e; omega) hx4 fun hbad=>by omega
theorem wSet_c {k:Int} {x:Hd} (h:Vu R w v d s V W nx) (hH:HdsAt V s.geo hs) (k0:0<=k) (k1:k<s.geo.gs) (hw:hWf x) (ho:hOk s.geo x=true) (hn:x.no=k) (hlast:V.last+1<=1000000)
  (hk:∀ w' R',Mod R w w'->Sb R R' w->Vu R' w' v d s (setHV V s.geo k.toNat x) W nx->HdsAt (setHV V s.geo k.toNat x) s.geo (hs.set k.toNat x)->(setHV V s.geo k.toNat x).last=V.last+1->K (.tuple #[.int .i64 ((V.last:Int)+1),.int .i64 0]) w') :
  Cal Tryz.prog F_vol_Vol_SetHead #[.pointer (some ⟨v,0,none⟩),.int .i64 k,.agg ⟨hV x⟩,.slice none 0 0] w K:=by
 apply C_vol_Vol_SetHead
 unfold D_vol_Vol_SetHead
 obtain ⟨j,rfl⟩:=Int.eq_ofNat_of_zero_le k0
 obtain ⟨w1,b1,b2,b3,b4⟩:=box_u (P:=Tryz.prog) (w:=w) (T:=119) (cs:=hV x)
 have hg:=hH.1
 obtain ⟨p1,p2,p3⟩:=head_pos hg k1
 refine ⟨_,w1,b1,whd_c (h.nos b3) fun w2 m2=>⟨_,_,rfl,?_⟩⟩
 rw [p1]
 have m02:=(b3.no m2).drew
 have h2:=h.nos m02
 have q2:AtU (Go.Den.drew w2) w.heap.size 0 (hV x):=(b2.keep m2 id).drew
 refine ff rfl ⟨_,rfl,_,h2.geo,_,q2.at.all agg_head (hV_len hw),hPut_c hw (fun e=>by rw [ho] at e; cases e) fun _ w3 q m3 hq hat=>⟨_,_,_,_,rfl,?_⟩⟩
 have q3:=q2.keep m3 id
 refine Share.cut (fun z w4=>w4=w3/\z=[.bool false]) (ff rfl ⟨_,q3.at.fld sc_int rfl,rfl,?_⟩) ?_
 ·rw [hn,bneI,decide_eq_false (by simp)]
 rintro z w4 ⟨rfl,rfl⟩
 have m04:=(m02.no m3).drew
 have h4:=h.nos m04
 have hlt:=h.lt
 obtain ⟨w0,Rs,Z,sp,wk,a1,a2,a3,a4,a5,a6,a7⟩:=h4.op
 refine ⟨_,rfl,ff rfl ⟨_,rfl,_,a4.at.fld sc_store rfl,_,_,_,slice_h elemN_bytes (by omega) (by omega),?_⟩⟩
 have hE:=setH_E (V:=V) hH k1 hw
 have hN:patN V (2+(j:Int)*s.geo.gr) 0 (setHB s.geo x) []=(V.last:Int)+1:=by unfold patN; rw [if_pos hE]; omega
 have hz4:=m04.size
 have hR:Row (Go.Den.drew w4) (some ⟨q,0,none⟩) (u8L (setHB s.geo x)):=.inr ⟨q,0,rfl,by
  have:=hat.at.drew.sub (i:=0) (m:=64) (by rw [length_u8L,grpB_len hw]; omega)
  rw [List.drop_zero,<- u8L_take] at this; exact this⟩
 refine qPatch_c (data:=setHB s.geo x) (after:=[]) a1 hlast (setHB_len hw) hR (fun _ q' e=>by
  cases e
  intro e
  have h1:=hlt q (a5 q e)
  have:=m02.size
  omega) (by omega) rfl (by omega) (.inl rfl) (fun e=>absurd rfl e) fun w5 m5 hP=>⟨_,_,rfl,?_⟩
 rw [hE,hN]
 obtain ⟨M,hV⟩:=a6 w5 w5 _ m5 (Mod.refl _ _) hP
 refine hk w5 _ ((m04.mono fun _ _ e=>e.elim).trans M fun x _ e=>e) (Sb.gro.up hz4) hV (hH.set k1 hw ho hn) (patS_last hE)
end
end Go.Proofs.YtelhlihjihklbaaGreat
end
section
open Go Go.Den Go.Proofs
namespace Go.Proofs.YtelhlihjihklbaaGreat
def gKind (g:Gm) (b:Int):Int×Int :=
 if b<0\/gSize g<=b then (0,-1) else if b<2 then (1,-1) else if (b-2) % g.gr=0 then (2,(b-2) / g.gr) else if (b-2) % g.gr<=gTabs g then (3,(b-2) / g.gr) else (4,(b-2) / g.gr)
def gOf (g:Gm) (n:Int):Int:=if n<0\/gSlots g<=n then -1 else n / g.no
def gRange (g:Gm) (k:Int):Int×Int:=if (gHead g k).2≠0 then (0,0) else ((gHead g k).1+1+gTabs g,(gHead g k).1+g.gr)
theorem gSize_in {g:Gm} {b:Int} (h:0<=b) (h1:b<gSize g):gOk g=true/\b<2+g.gs*g.gr:=by
 unfold gSize at h1
 split at h1
 ·rename_i h2; exact ⟨h2,h1⟩
 ·omega
theorem gSlots_in {g:Gm} {b:Int} (h:0<=b) (h1:b<gSlots g):gOk g=true/\b<g.gs*g.no:=by
 unfold gSlots at h1
 split at h1
 ·rename_i h2; exact ⟨h2,h1⟩
 ·omega
section
variable {w:World} {K:Value->World->Prop}
theorem geoKind_c {g:Gm} {b:Int} (hk:∀ w',Mod No w w'->K (.tuple #[.int .i64 (gKind g b).1,.int .i64 (gKind g b).2]) w'):Cal Tryz.prog F_geo_Kind #[.agg ⟨gV g⟩,.int .i64 b] w K:=by
 apply C_geo_Kind
 unfold D_geo_Kind
 obtain ⟨w1,a1,a2,a3,a4⟩:=box_u (P:=Tryz.prog) (w:=w) (T:=40) (cs:=gV g)
 refine ⟨_,w1,a1,Share.cut (fun z w3=>Mod No w1 w3/\z=[.bool (decide (b<0\/gSize g<=b))]) (cond_of (fun h=>⟨Mod.refl _ _,?_⟩) (fun h=>⟨_,a2.at.all agg_geo rfl,geoSize_c fun w2 m2=>⟨_,rfl,m2,?_⟩⟩)) ?_⟩
 ·rw [decide_eq_true (show b<0\/gSize g<=b from .inl (of_decide_eq_true h))]
 ·have h:=of_decide_eq_false h
  congr 2
  exact decide_eq_decide.2 ⟨.inr,fun e=>e.resolve_left h⟩
 rintro z w3 ⟨m3,rfl⟩
 have M:=a3.no m3
 have hq:=a2.at.keep m3 id
 refine ⟨_,rfl,cond_of (fun h=>?_) (fun h=>cond_of (fun h2=>?_) (fun h2=>?_))⟩
 ·have e:gKind g b=(0,-1):=by unfold gKind; rw [if_pos (of_decide_eq_true h)]
  rw [e] at hk; exact hk _ M
 ·have e:gKind g b=(1,-1):=by unfold gKind; rw [if_neg (of_decide_eq_false h),if_pos (of_decide_eq_true h2)]
  rw [e] at hk; exact hk _ M
 have h:=of_decide_eq_false h
 have h2:=of_decide_eq_false h2
 obtain ⟨hg,hb⟩:=gSize_in (g:=g) (b:=b) (by omega) (by omega)
 obtain ⟨g1,g2,g3,g4,_⟩:=gOk_iff.1 hg
 have hp:=prodB (a:=g.gs) (b:=g.gr) (m:=16) (n:=128) (by omega) (by omega) (by omega) (by omega)
 rw [wrap64 (x:=b-2) (by omega) (by omega)]
 refine ⟨_,hq.drew.fld sc_int rfl,_,quoR (by omega) (by omega) (by omega),_,hq.drew.fld sc_int rfl,_,remR (by omega) (by omega) (by omega),?_⟩
 rw [beqI]
 refine cond_of (fun h3=>?_) (fun h3=>⟨_,hq.drew.all agg_geo rfl,geoTabs_c fun w4 m4=>⟨_,rfl,cond_of (fun h4=>?_) (fun h4=>?_)⟩⟩)
 ·have e:gKind g b=(2,(b-2) / g.gr):=by unfold gKind; rw [if_neg h,if_neg h2,if_pos (of_decide_eq_true h3)]
  rw [e] at hk; exact hk _ M.drew
 ·have e:gKind g b=(3,(b-2) / g.gr):=by unfold gKind; rw [if_neg h,if_neg h2,if_neg (of_decide_eq_false h3),if_pos (of_decide_eq_true h4)]
  rw [e] at hk; exact hk _ (M.drew.no m4)
 ·have e:gKind g b=(4,(b-2) / g.gr):=by unfold gKind; rw [if_neg h,if_neg h2,if_neg (of_decide_eq_false h3),if_neg (of_decide_eq_false h4)]
  rw [e] at hk; exact hk _ (M.drew.no m4)
theorem geoOf_c {g:Gm} {n:Int} (h63:n<=9223372036854775807) (hk:∀ w',Mod No w w'->K (.int .i64 (gOf g n)) w'):Cal Tryz.prog F_geo_Of #[.agg ⟨gV g⟩,.int .i64 n] w K:=by
 apply C_geo_Of
 unfold D_geo_Of
 obtain ⟨w1,a1,a2,a3,a4⟩:=box_u (P:=Tryz.prog) (w:=w) (T:=40) (cs:=gV g)
 refine ⟨_,w1,a1,Share.cut (fun z w3=>Mod No w1 w3/\z=[.bool (decide (n<0\/gSlots g<=n))]) (cond_of (fun h=>⟨Mod.refl _ _,?_⟩) (fun h=>⟨_,a2.at.all agg_geo rfl,geoSlots_c fun w2 m2=>⟨_,rfl,m2,?_⟩⟩)) ?_⟩
 ·rw [decide_eq_true (show n<0\/gSlots g<=n from .inl (of_decide_eq_true h))]
 ·have h:=of_decide_eq_false h
  congr 2
  exact decide_eq_decide.2 ⟨.inr,fun e=>e.resolve_left h⟩
 rintro z w3 ⟨m3,rfl⟩
 have M:=a3.no m3
 have hq:=a2.at.keep m3 id
 refine ⟨_,rfl,cond_of (fun h=>?_) (fun h=>?_)⟩
 ·have e:gOf g n=-1:=by unfold gOf; rw [if_pos (of_decide_eq_true h)]
  rw [e] at hk; exact hk _ M
 have h:=of_decide_eq_false h
 obtain ⟨hg,hb⟩:=gSlots_in (g:=g) (b:=n) (by omega) (by omega)
 obtain ⟨_,_,_,_,g5,g6,_⟩:=gOk_iff.1 hg
 have e:gOf g n=n / g.no:=by unfold gOf; rw [if_neg h]
 rw [e] at hk
 exact ⟨_,hq.fld sc_int rfl,_,quoR (by omega) (by omega) h63,hk _ M⟩
theorem gHead_b {g:Gm} {k:Int}:0<=(gHead g k).1/\(gHead g k).1<=4096:=by
 unfold gHead
 split
 ·rename_i hg
  obtain ⟨g1,g2,g3,g4,_⟩:=gOk_iff.1 hg
  split
  ·have hp:=prodB (a:=k) (b:=g.gr) (m:=16) (n:=128) (by omega) (by omega) (by omega) (by omega)
   show 0<=2+k*g.gr/\2+k*g.gr<=4096
   omega
  ·exact ⟨Int.le_refl 0,by decide⟩
 ·exact ⟨Int.le_refl 0,by decide⟩
theorem geoRange_c {g:Gm} {k:Int} (hk:∀ w',Mod No w w'->K (.tuple #[.int .i64 (gRange g k).1,.int .i64 (gRange g k).2]) w'):Cal Tryz.prog F_geo_Range #[.agg ⟨gV g⟩,.int .i64 k] w K:=by
 apply C_geo_Range
 unfold D_geo_Range
 obtain ⟨w1,a1,a2,a3,a4⟩:=box_u (P:=Tryz.prog) (w:=w) (T:=40) (cs:=gV g)
 refine ⟨_,w1,a1,_,a2.at.all agg_geo rfl,geoHead_c fun w2 m2=>⟨_,_,rfl,?_⟩⟩
 rw [bneI]
 refine cond_of (fun h=>?_) (fun h=>?_)
 ·have e:gRange g k=(0,0):=by unfold gRange; rw [if_pos (of_decide_eq_true h)]
  rw [e] at hk; exact hk _ (a3.no m2)
 have h:=of_decide_eq_false h
 have e:gRange g k=((gHead g k).1+1+gTabs g,(gHead g k).1+g.gr):=by unfold gRange; rw [if_neg h]
 rw [e] at hk
 have hq:=(a2.keep m2 id).drew
 have hb:=gHead_b (g:=g) (k:=k)
 have ht:0<=gTabs g/\gTabs g<=16:=by
  unfold gTabs
  split
  ·rename_i h
   obtain ⟨_,_,_,_,h5,h6,_⟩:=gOk_iff.1 h
   omega
  ·omega
 have hr:16<=g.gr/\g.gr<=128:=by
  have h:=Classical.not_not.1 h
  unfold gHead at h
  split at h
  ·rename_i hg
   obtain ⟨g1,g2,_⟩:=gOk_iff.1 hg
   exact ⟨g1,g2⟩
  ·cases h
 refine ⟨_,hq.at.all agg_geo rfl,_,hq.at.fld sc_int rfl,geoTabs_c fun w3 m3=>⟨_,rfl,(hq.keep m3 id).at.fld sc_int rfl,?_⟩⟩
 rw [wrap64 (x:=(gHead g k).1+1) (by omega) (by omega),wrap64 (x:=(gHead g k).1+1+gTabs g) (by omega) (by omega),wrap64 (x:=(gHead g k).1+g.gr) (by omega) (by omega)]
 exact hk _ ((a3.no m2).drew.no m3)
end
end Go.Proofs.YtelhlihjihklbaaGreat
end
section
open Go Go.Den Go.Proofs
namespace Go.Proofs.YtelhlihjihklbaaGreat
structure Az where
 s:Sp
 V:Ps
 W:List Wt
 nx:Int
 hs:List Hd
 fz:Int->Bool
def Ao (R:Nat->Prop) (w:World) (a v d:Nat) (A:Az):Prop :=
 ∃ Rv fm L,Vu Rv w v d A.s A.V A.W A.nx/\AtU w a 0 [.pointer (some ⟨v,0,none⟩),.map (some fm)]/\MapAt w fm L/\(∀ k,(lookupL L k).getD (.bool false)=.bool (A.fz k))/\(¬ Rv a/\¬ Rv fm/\a≠fm/\d<=a/\d<=fm)/\(∀ z,Rv z\/z=a\/z=fm->R z)/\(∀ z,R z->z<w.heap.size)/\HdsAt A.V A.s.geo A.hs
theorem mapFz:mapZ Tryz.prog 97=some (.bool false):=by kernel_rfl
theorem sc_pvol:scal Tryz.prog 31=true:=by kernel_rfl
theorem sc_fz:scal Tryz.prog 97=true:=by kernel_rfl
section
variable {w w':World} {R R':Nat->Prop} {a v d:Nat} {A:Az} {K:Value->World->Prop}
theorem Ao.lt (h:Ao R w a v d A):∀ z,R z->z<w.heap.size:=by obtain ⟨_,_,_,_,_,_,_,_,_,h,_⟩:=h; exact h
theorem Ao.hd (h:Ao R w a v d A):HdsAt A.V A.s.geo A.hs:=by obtain ⟨_,_,_,_,_,_,_,_,_,_,h⟩:=h; exact h
theorem Ao.ok (h:Ao R w a v d A):gOk A.s.geo=true:=h.hd.1
theorem Ao.at (h:Ao R w a v d A):∃ fm,AtU w a 0 [.pointer (some ⟨v,0,none⟩),.map (some fm)]:=by obtain ⟨_,fm,_,_,h,_⟩:=h; exact ⟨fm,h⟩
theorem Ao.dlt (h:Ao R w a v d A):d<=a/\a<w.heap.size/\R a:=by obtain ⟨_,fm,_,_,h,_,_,h2,h3,h4,_⟩:=h; exact ⟨h2.2.2.2.1,h4 a (h3 a (.inr (.inl rfl))),h3 a (.inr (.inl rfl))⟩
theorem Ao.pv (h:Ao R w a v d A):Ru (Instr.loadAt 31 (.pointer (some (Addr.add ⟨a,0,none⟩ 0)))) w (.pointer (some ⟨v,0,none⟩)) w:=by
 obtain ⟨fm,h⟩:=h.at
 exact h.at.fld sc_pvol rfl
theorem Ao.keep {S:Nat->Prop} (h:Ao R w a v d A) (m:Mod S w w') (hS:∀ z,R z->¬ S z) (hd:∀ z,S z->d<=z):Ao R w' a v d A:=by
 obtain ⟨Rv,fm,L,h1,h2,h3,h4,h5,h6,h7,h8⟩:=h
 exact ⟨Rv,fm,L,h1.keep m (fun z hz=>hS z (h6 z (.inl hz))) hd,h2.keep m (hS a (h6 a (.inr (.inl rfl)))),h3.keep m (hS fm (h6 fm (.inr (.inr rfl)))),h4,h5,h6,fun z hz=>Nat.lt_of_lt_of_le (h7 z hz) m.size,h8⟩
theorem Ao.nos (h:Ao R w a v d A) (m:Mod No w w'):Ao R w' a v d A:=h.keep m (fun _ _ e=>e) fun _ e=>e.elim
theorem Ao.own {q:Nat} (h:Ao R w a v d A) (m:Mod (fun x=>x=q) w w') (hq:¬ R q) (h0:d<=q):Ao R w' a v d A :=
 h.keep m (fun z hz e=>by have e:z=q:=e; rw [e] at hz; exact hq hz) fun z e=>by have e:z=q:=e; omega
theorem Ao.vol (h:Ao R w a v d A):∃ Rv,Vu Rv w v d A.s A.V A.W A.nx/\(∀ z,Rv z->R z)/\∀ (w':World) (Rv':Nat->Prop) (V':Ps) (W':List Wt) (nx':Int) (hs':List Hd),Mod Rv w w'->Sb Rv Rv' w->Vu Rv' w' v d A.s V' W' nx'->HdsAt V' A.s.geo hs' ->
  Mod R w w'/\Sb R (fun z=>R z\/Rv' z) w/\Ao (fun z=>R z\/Rv' z) w' a v d ⟨A.s,V',W',nx',hs',A.fz⟩:=by
 obtain ⟨Rv,fm,L,h1,h2,h3,h4,h5,h6,h7,h8⟩:=h
 refine ⟨Rv,h1,fun z hz=>h6 z (.inl hz),fun w' Rv' V' W' nx' hs' m sb hv hh=>⟨m.mono fun x _ e=>h6 x (.inl e),fun z hz=>?_,Rv',fm,L,hv,h2.keep m h5.1,h3.keep m h5.2.1,h4,⟨fun e=>?_,fun e=>?_,h5.2.2⟩,fun z hz=>?_,fun z hz=>?_,hh⟩⟩
 ·rcases hz with hz | hz
  ·exact .inl hz
  ·exact (sb z hz).imp (fun e=>h6 z (.inl e)) id
 ·rcases sb a e with e | e
  ·exact h5.1 e
  ·have:=h2.lt; omega
 ·rcases sb fm e with e | e
  ·exact h5.2.1 e
  ·have:=h3.lt; omega
 ·rcases hz with hz | hz
  ·exact .inr hz
  ·exact .inl (h6 z (.inr hz))
 ·rcases hz with hz | hz
  ·have:=h7 z hz; have:=m.size; omega
  ·exact hv.lt z hz
theorem aGeo_c (h:Ao R w a v d A) (hk:∀ w',Mod No w w'->K (.agg ⟨gV A.s.geo⟩) w'):Cal Tryz.prog F_vol_Vol_Geo #[.pointer (some ⟨v,0,none⟩)] w K:=by
 obtain ⟨Rv,hv,_⟩:=h.vol
 exact wGeo_c hv hk
theorem aHead_c {k:Int} (h:Ao R w a v d A)
  (hk:∀ w' R',Mod R w w'->Sb R R' w->Ao R' w' a v d A->hWf (hdOf A.s.geo A.hs k).1->K (.tuple #[.agg ⟨hV (hdOf A.s.geo A.hs k).1⟩,.int .i64 (hdOf A.s.geo A.hs k).2]) w'):Cal Tryz.prog F_vol_Vol_Head #[.pointer (some ⟨v,0,none⟩),.int .i64 k] w K:=by
 obtain ⟨Rv,hv,_,hc⟩:=h.vol
 refine wHead_c hv h.hd fun w' R' m sb hv' hw _=>?_
 obtain ⟨x1,x2,x3⟩:=hc w' R' A.V A.W A.nx A.hs m sb hv' h.hd
 exact hk w' _ x1 x2 x3 hw
def sethA (A:Az) (k:Nat) (x:Hd):Az:=⟨A.s,setHV A.V A.s.geo k x,A.W,A.nx,A.hs.set k x,A.fz⟩
theorem aSet_c {k:Int} {x:Hd} (h:Ao R w a v d A) (k0:0<=k) (k1:k<A.s.geo.gs) (hw:hWf x) (ho:hOk A.s.geo x=true) (hn:x.no=k) (hlast:A.V.last+1<=1000000)
  (hk:∀ w' R',Mod R w w'->Sb R R' w->Ao R' w' a v d (sethA A k.toNat x)->(sethA A k.toNat x).V.last=A.V.last+1->K (.tuple #[.int .i64 ((A.V.last:Int)+1),.int .i64 0]) w') :
  Cal Tryz.prog F_vol_Vol_SetHead #[.pointer (some ⟨v,0,none⟩),.int .i64 k,.agg ⟨hV x⟩,.slice none 0 0] w K:=by
 obtain ⟨Rv,hv,_,hc⟩:=h.vol
 refine wSet_c hv h.hd k0 k1 hw ho hn hlast fun w' R' m sb hv' hh hl=>?_
 obtain ⟨x1,x2,x3⟩:=hc w' R' _ A.W A.nx _ m sb hv' hh
 exact hk w' _ x1 x2 x3 hl
def spB (g:Gm) (b:Int):Int×Int×Bool:=if (gKind g b).1≠4 then (0,0,false) else ((gKind g b).2,b-(gHead g (gKind g b).2).1,true)
def spS (g:Gm) (n:Int):Int×Int×Bool:=if gOf g n<0 then (0,0,false) else (gOf g n,n % g.no,true)
def pV (x:Int×Int):List Value:=[.int .i64 x.1,.int .i64 x.2]
theorem one_pV (x:Int×Int):∀ u∈pV x,u.oneCell'=true:=by intro u hu; simp [pV] at hu; rcases hu with rfl | rfl <;> rfl
theorem agg_spot:aggN Tryz.prog 101=some 2:=by kernel_rfl
theorem zero_spot:zeroC Tryz.prog 101=some (pV (0,0)):=by kernel_rfl
theorem field_gno (g:Gm):Al (Instr.field 40 (.agg ⟨gV g⟩) 1) (.int .i64 g.no):=fun w=>by kernel_rfl
theorem field_ggs (g:Gm):Al (Instr.field 40 (.agg ⟨gV g⟩) 2) (.int .i64 g.gs):=fun w=>by kernel_rfl
theorem build_spot0:Al (Instr.build 101 #[]) (.agg ⟨pV (0,0)⟩):=fun w=>by kernel_rfl
theorem build_spot (x y:Int):Al (Instr.build 101 #[(0,.int .i64 x),(1,.int .i64 y)]) (.agg ⟨pV (x,y)⟩):=fun w=>by kernel_rfl
theorem gKind_4 {g:Gm} {b:Int} (h:(gKind g b).1=4):gOk g=true/\2<=b/\b<gSize g/\0<=(gKind g b).2/\(gKind g b).2<g.gs/\1+gTabs g<=b-(2+(gKind g b).2*g.gr)/\b-(2+(gKind g b).2*g.gr)<g.gr:=by
 unfold gKind at h |-
 split at h
 ·cases h
 rename_i h1
 split at h
 ·cases h
 rename_i h2
 split at h
 ·cases h
 rename_i h3
 split at h
 ·cases h
 rename_i h4
 rw [if_neg h1,if_neg h2,if_neg h3,if_neg h4]
 obtain ⟨hg,hb⟩:=gSize_in (g:=g) (b:=b) (by omega) (by omega)
 obtain ⟨g1,g2,g3,g4,_⟩:=gOk_iff.1 hg
 have hd:=Int.mul_ediv_add_emod (b-2) g.gr
 have hm:=Int.emod_nonneg (b-2) (show g.gr≠0 by omega)
 have hl:=Int.emod_lt_of_pos (b-2) (show 0<g.gr by omega)
 have hq:0<=(b-2) / g.gr:=Int.ediv_nonneg (by omega) (by omega)
 have hq2:(b-2) / g.gr<g.gs:=Int.ediv_lt_of_lt_mul (by omega) (by rw [Int.mul_comm] at *; omega)
 rw [Int.mul_comm] at hd
 refine ⟨hg,by omega,by omega,hq,hq2,?_,?_⟩
 ·show 1+gTabs g<=b-(2+(b-2) / g.gr*g.gr)
  omega
 ·show b-(2+(b-2) / g.gr*g.gr)<g.gr
  omega
theorem aBlk_c {b:Int} (h63:b<=9223372036854775807) (h:Ao R w a v d A) (hk:∀ w',Mod No w w'->K (.tuple #[.agg ⟨pV ((spB A.s.geo b).1,(spB A.s.geo b).2.1)⟩,.bool (spB A.s.geo b).2.2]) w') :
  Cal Tryz.prog F_alloc_Alloc_block #[.pointer (some ⟨a,0,none⟩),.int .i64 b] w K:=by
 apply C_alloc_Alloc_block
 unfold D_alloc_Alloc_block
 obtain ⟨w1,c1,c2,c3,c4⟩:=new_u (P:=Tryz.prog) (w:=w) (T:=101) zero_spot
 have h1:=h.nos c3
 refine ⟨_,w1,c1,_,rfl,_,h1.pv,aGeo_c h1 fun w2 m2=>⟨_,rfl,geoKind_c fun w3 m3=>⟨_,_,rfl,?_⟩⟩⟩
 have q3:=(c2.keep m2 id).keep m3 id
 have h3:=(h1.nos m2).nos m3
 have M3:=(c3.no m2).no m3
 rw [bneI]
 refine cond_of (fun he=>⟨_,build_spot0,?_⟩) (fun he=>⟨_,rfl,_,h3.pv,aGeo_c h3 fun w5 m5=>⟨_,rfl,geoHead_c fun w6 m6=>⟨_,_,rfl,?_⟩⟩⟩)
 ·have e:spB A.s.geo b=(0,0,false):=by unfold spB; rw [if_pos (of_decide_eq_true he)]
  rw [e] at hk
  obtain ⟨w4,y1,y2,y3,y4⟩:=q3.put (T:=101) (vs:=pV (0,0)) agg_spot rfl rfl (one_pV _)
  exact ⟨w4,y1,_,y2.at.all agg_spot rfl,hk w4 (M3.own y3 (Nat.le_refl _))⟩
 ·have he:=Classical.not_not.1 (of_decide_eq_false he)
  have e:spB A.s.geo b=((gKind A.s.geo b).2,b-(gHead A.s.geo (gKind A.s.geo b).2).1,true):=by unfold spB; rw [if_neg (by omega)]
  rw [e] at hk
  obtain ⟨_,k1,k2,_⟩:=gKind_4 he
  have hb:=gHead_b (g:=A.s.geo) (k:=(gKind A.s.geo b).2)
  have hs:=gSize_b (g:=A.s.geo)
  rw [wrap64 (x:=b-(gHead A.s.geo (gKind A.s.geo b).2).1) (by omega) (by omega)]
  obtain ⟨w7,y1,y2,y3,y4⟩:=((q3.keep m5 id).keep m6 id).put (T:=101) (vs:=pV ((gKind A.s.geo b).2,b-(gHead A.s.geo (gKind A.s.geo b).2).1)) agg_spot rfl rfl (one_pV _)
  exact ⟨_,build_spot _ _,w7,y1,_,y2.at.all agg_spot rfl,hk w7 (((M3.no m5).no m6).own y3 (Nat.le_refl _))⟩
theorem gOf_in {g:Gm} {n:Int} (h:0<=gOf g n):gOk g=true/\0<=n/\n<gSlots g/\gOf g n=n / g.no:=by
 unfold gOf at h |-
 split at h
 ·omega
 ·rename_i h1
  rw [if_neg h1]
  exact ⟨(gSlots_in (g:=g) (b:=n) (by omega) (by omega)).1,by omega,by omega,rfl⟩
theorem aSlt_c {n:Int} (h63:n<=9223372036854775807) (h:Ao R w a v d A) (hk:∀ w',Mod No w w'->K (.tuple #[.agg ⟨pV ((spS A.s.geo n).1,(spS A.s.geo n).2.1)⟩,.bool (spS A.s.geo n).2.2]) w') :
  Cal Tryz.prog F_alloc_Alloc_slot #[.pointer (some ⟨a,0,none⟩),.int .i64 n] w K:=by
 apply C_alloc_Alloc_slot
 unfold D_alloc_Alloc_slot
 obtain ⟨w1,c1,c2,c3,c4⟩:=new_u (P:=Tryz.prog) (w:=w) (T:=101) zero_spot
 have h1:=h.nos c3
 refine ⟨_,w1,c1,_,rfl,_,h1.pv,aGeo_c h1 fun w2 m2=>⟨_,rfl,geoOf_c h63 fun w3 m3=>⟨_,rfl,?_⟩⟩⟩
 have q3:=(c2.keep m2 id).keep m3 id
 have h3:=(h1.nos m2).nos m3
 have M3:=(c3.no m2).no m3
 refine cond_of (fun he=>⟨_,build_spot0,?_⟩) (fun he=>⟨_,rfl,_,h3.pv,aGeo_c h3 fun w5 m5=>⟨_,rfl,A.s.geo.no,field_gno _,?_⟩⟩)
 ·have e:spS A.s.geo n=(0,0,false):=by unfold spS; rw [if_pos (of_decide_eq_true he)]
  rw [e] at hk
  obtain ⟨w4,y1,y2,y3,y4⟩:=q3.put (T:=101) (vs:=pV (0,0)) agg_spot rfl rfl (one_pV _)
  exact ⟨w4,y1,_,y2.at.all agg_spot rfl,hk w4 (M3.own y3 (Nat.le_refl _))⟩
 ·have he:=of_decide_eq_false he
  have e:spS A.s.geo n=(gOf A.s.geo n,n % A.s.geo.no,true):=by unfold spS; rw [if_neg he]
  rw [e] at hk
  obtain ⟨hg,k1,k2,_⟩:=gOf_in (g:=A.s.geo) (n:=n) (by omega)
  obtain ⟨_,_,_,_,g5,_⟩:=gOk_iff.1 hg
  refine ⟨_,remR k1 (by omega) h63,_,build_spot _ _,?_⟩
  obtain ⟨w6,y1,y2,y3,y4⟩:=(q3.keep m5 id).put (T:=101) (vs:=pV (gOf A.s.geo n,n % A.s.geo.no)) agg_spot rfl rfl (one_pV _)
  exact ⟨w6,y1,_,y2.at.all agg_spot rfl,hk w6 ((M3.no m5).own y3 (Nat.le_refl _))⟩
def xV (kd:Bool):List Value:=if kd=true then [.func (.func F_group_FindBlock) #[] #[],.func (.func F_group_UseBlock) #[] #[]] else [.func (.func F_group_FindSlot) #[] #[],.func (.func F_group_UseSlot) #[] #[]]
def useX (kd:Bool) (g:Gm) (h:Hd) (i:Int) (on:Bool):Hd×Int:=if kd=true then useBk g h i on else useSl g h i on
def findX (kd:Bool) (g:Gm) (h:Hd) (f:Int):Int:=if kd=true then findBk g h f else findSl g h f
theorem one_xV (kd:Bool):∀ u∈xV kd,u.oneCell'=true:=by cases kd <;> (intro u hu; simp [xV] at hu; rcases hu with rfl | rfl <;> rfl)
theorem len_xV (kd:Bool):(xV kd).length=2:=by cases kd <;> rfl
theorem agg_heads:aggN Tryz.prog 109=some 2:=by kernel_rfl
theorem zero_heads:zeroC Tryz.prog 109=some [.nilFunc,.nilFunc]:=by kernel_rfl
theorem aBlocks_c (hk:∀ w',Mod No w w'->K (.agg ⟨xV true⟩) w'):Cal Tryz.prog F_alloc_blocks #[] w K:=by
 apply C_alloc_blocks
 unfold D_alloc_blocks
 obtain ⟨w1,c1,c2,c3,c4⟩:=new_u (P:=Tryz.prog) (w:=w) (T:=109) zero_heads
 obtain ⟨w2,y1,y2,y3,y4⟩:=c2.put (T:=109) (vs:=xV true) agg_heads rfl rfl (one_xV _)
 exact ⟨_,w1,c1,_,fun w=>by kernel_rfl,w2,y1,_,y2.at.all agg_heads rfl,hk w2 (c3.own y3 (Nat.le_refl _))⟩
theorem aSlots_c (hk:∀ w',Mod No w w'->K (.agg ⟨xV false⟩) w'):Cal Tryz.prog F_alloc_slots #[] w K:=by
 apply C_alloc_slots
 unfold D_alloc_slots
 obtain ⟨w1,c1,c2,c3,c4⟩:=new_u (P:=Tryz.prog) (w:=w) (T:=109) zero_heads
 obtain ⟨w2,y1,y2,y3,y4⟩:=c2.put (T:=109) (vs:=xV false) agg_heads rfl rfl (one_xV _)
 exact ⟨_,w1,c1,_,fun w=>by kernel_rfl,w2,y1,_,y2.at.all agg_heads rfl,hk w2 (c3.own y3 (Nat.le_refl _))⟩
theorem useX_c {kd:Bool} {g:Gm} {h:Hd} {i:Int} {on:Bool} (hw:hWf h) (hk:∀ w',Mod No w w'->K (.tuple #[.agg ⟨hV (useX kd g h i on).1⟩,.int .i64 (useX kd g h i on).2]) w') {f:Value} (hf:(xV kd)[1]?=some f) :
  Dyn Tryz.prog f #[.agg ⟨gV g⟩,.agg ⟨hV h⟩,.int .i64 i,.bool on] w K:=by
 cases kd with
 | true=>cases hf; exact ⟨_,_,_,rfl,useBk_c hw hk⟩
 | false=>cases hf; exact ⟨_,_,_,rfl,useSl_c hw hk⟩
theorem findX_c {kd:Bool} {g:Gm} {h:Hd} {p:Int} (hw:hWf h) (hk:∀ w',Mod No w w'->K (.int .i64 (findX kd g h p)) w') {f:Value} (hf:(xV kd)[0]?=some f) :
  Dyn Tryz.prog f #[.agg ⟨gV g⟩,.agg ⟨hV h⟩,.int .i64 p] w K:=by
 cases kd with
 | true=>cases hf; exact ⟨_,_,_,rfl,findBk_c hw hk⟩
 | false=>cases hf; exact ⟨_,_,_,rfl,findSl_c hw hk⟩
theorem useX_wf {kd:Bool} {g:Gm} {h:Hd} (hw:hWf h) (i:Int) (on:Bool):hWf (useX kd g h i on).1:=by
 cases kd
 ·exact useSl_wf hw i on
 ·exact useBk_wf hw i on
theorem useX_ok {kd:Bool} {g:Gm} {h:Hd} {i:Int} {on:Bool} (hw:hWf h) (e:(useX kd g h i on).2=0):hOk g (useX kd g h i on).1=true/\(useX kd g h i on).1.no=h.no:=by
 cases kd
 ·obtain ⟨h1,h2,_⟩:=useSl_ok (on:=on) (i:=i) hw e
  exact ⟨h1,by show (useSl g h i on).1.no=_; rw [h2]⟩
 ·obtain ⟨h1,h2,_⟩:=useBk_ok (on:=on) (i:=i) hw e
  exact ⟨h1,by show (useBk g h i on).1.no=_; rw [h2]⟩
end
end Go.Proofs.YtelhlihjihklbaaGreat
end
section
open Go Go.Den Go.Proofs
namespace Go.Proofs.YtelhlihjihklbaaGreat
def turnA (kd:Bool) (A:Az) (k:Nat) (i:Int) (on:Bool):Az×Int×Int :=
 if (useX kd A.s.geo (A.hs.getD k hZ) i on).2≠0 then (A,0,(useX kd A.s.geo (A.hs.getD k hZ) i on).2) else (sethA A k (useX kd A.s.geo (A.hs.getD k hZ) i on).1,(A.V.last:Int)+1,0)
section
variable {w w':World} {R R':Nat->Prop} {a v d:Nat} {A:Az} {K:Value->World->Prop}
theorem sc_use:scal Tryz.prog 107=true:=by kernel_rfl
theorem sc_find:scal Tryz.prog 106=true:=by kernel_rfl
theorem Ao.hdOf (h:Ao R w a v d A) {k:Nat} (hk:(k:Int)<A.s.geo.gs):∃ x,hdOf A.s.geo A.hs k=(x,0)/\A.hs.getD k hZ=x/\hOk A.s.geo x=true/\x.no=k/\hWf x:=by
 obtain ⟨x,h1,h2,h3,h4,h5⟩:=h.hd.get (k:=(k:Int)) (by omega) hk
 obtain ⟨p1,_⟩:=head_pos h.ok hk
 have e:A.hs.getD k hZ=x:=by rw [List.getD_eq_getElem?_getD,show A.hs[k]?=some x from h1]; rfl
 exact ⟨x,by unfold Go.Proofs.YtelhlihjihklbaaGreat.hdOf; rw [if_neg (by rw [p1]; exact fun e=>e rfl)]; exact congrArg (·,0) e,e,h3,h4,h5⟩
set_option maxRecDepth 4000 in
theorem turn_c {kd:Bool} {k:Nat} {i:Int} {on:Bool} (h:Ao R w a v d A) (hk0:(k:Int)<A.s.geo.gs) (hlast:A.V.last+1<=1000000)
  (hk:∀ w' R',Mod R w w'->Sb R R' w->Ao R' w' a v d (turnA kd A k i on).1->K (.tuple #[.int .i64 (turnA kd A k i on).2.1,.int .i64 (turnA kd A k i on).2.2]) w') :
  Cal Tryz.prog F_alloc_Alloc_turn #[.pointer (some ⟨a,0,none⟩),.agg ⟨pV (k,i)⟩,.agg ⟨xV kd⟩,.bool on] w K:=by
 obtain ⟨x,hx1,hx2,hx3,hx4,hx5⟩:=h.hdOf hk0
 obtain ⟨f1,hf1⟩:∃ f,(xV kd)[1]?=some f:=by cases kd <;> exact ⟨_,rfl⟩
 apply C_alloc_Alloc_turn
 unfold D_alloc_Alloc_turn
 obtain ⟨w1,a1,a2,a3,a4⟩:=box_u (P:=Tryz.prog) (w:=w) (T:=101) (cs:=pV (k,i))
 obtain ⟨w2,b1,b2,b3,b4⟩:=box_u (P:=Tryz.prog) (w:=w1) (T:=109) (cs:=xV kd)
 have m2:=(a3.no b3).drew
 have h2:=h.nos m2
 have q1:AtU (Go.Den.drew w2) w.heap.size 0 (pV (k,i)):=(a2.keep b3 id).drew
 have q2:AtU (Go.Den.drew w2) w1.heap.size 0 (xV kd):=b2.drew
 have n1:¬ R w.heap.size:=fun e=>by have:=h.lt _ e; omega
 have n2:¬ R w1.heap.size:=fun e=>by have:=h.lt _ e; omega
 have zd:(Go.Den.drew w2).heap.size=w2.heap.size:=rfl
 have hda:=h.dlt
 refine ⟨_,w1,a1,_,w2,b1,_,rfl,_,h2.pv,_,q1.at.fld (v:=.int .i64 (k:Int)) sc_int rfl,?pA,?pB⟩
 case' pA =>
  refine aHead_c h2 fun w3 R3 m3 s3 h3 _=>?_
  rw [hx1]
  have z3:=m3.size
  obtain ⟨w4,c1,c2,c3,c4⟩:=new_u (P:=Tryz.prog) (w:=w3) (T:=119) zero_head
  obtain ⟨w5,e1,e2,e3,e4⟩:=c2.put (T:=119) (vs:=hV x) agg_head rfl (hV_len hx5) (one_hV _)
  have hn:¬ R3 w3.heap.size:=fun e=>by have:=h3.lt _ e; omega
  have T1:Mod R w w5:=((m2.mono fun _ _ e=>e.elim).trans (m3.no (c3.own e3 (Nat.le_refl _))) fun x _ e=>e)
  have T2:Sb R R3 w2:=s3
  have T3:Ao R3 w5 a v d A:=(h3.nos c3).own e3 hn (by omega)
  have q14:=(q1.keep m3 n1).keep c3 id
  have T5:AtU w5 w.heap.size 0 (pV (k,i)):=q14.keep e3 (fun e=>by have e:w.heap.size=w3.heap.size:=e; omega)
  have T6:AtU w5 w1.heap.size 0 (xV kd):=((q2.keep m3 n2).keep c3 id).keep e3 (fun e=>by have e:w1.heap.size=w3.heap.size:=e; omega)
  refine ⟨_,_,rfl,_,w4,c1,(h3.nos c3).pv,q14.at.fld sc_int rfl,w5,e1,?_⟩
  have T7:w2.heap.size<=w3.heap.size/\w3.heap.size<w5.heap.size:=⟨by omega,e2.lt⟩
  generalize w3.heap.size=q at *
 case' pB =>
  obtain ⟨w4,c1,c2,c3,c4⟩:=new_u (P:=Tryz.prog) (w:=Go.Den.drew w2) (T:=119) zero_head
  refine ⟨_,w4,c1,(h2.nos c3).pv,(q1.keep c3 id).at.fld sc_int rfl,aHead_c (h2.nos c3) fun w3 R3 m3 s3 h3 _=>?_⟩
  rw [hx1]
  have z3:=m3.size
  have hnR:¬ R w2.heap.size:=fun e=>by have:=h.lt _ e; omega
  obtain ⟨w5,e1,e2,e3,e4⟩:=(c2.keep m3 hnR).put (T:=119) (vs:=hV x) agg_head rfl (hV_len hx5) (one_hV _)
  have hn:¬ R3 w2.heap.size:=fun e=>by
   rcases s3 _ e with e | e
   ·exact hnR e
   ·omega
  have T1:Mod R w w5:=(((m2.no c3).mono fun _ _ e=>e.elim).trans m3 fun x _ e=>e).trans e3 fun x hx e=>by have e:x=w2.heap.size:=e; omega
  have T2:Sb R R3 w2:=s3.up (by omega)
  have T3:Ao R3 w5 a v d A:=h3.own e3 hn (by omega)
  have T5:AtU w5 w.heap.size 0 (pV (k,i)):=((q1.keep c3 id).keep m3 n1).keep e3 (fun e=>by have e:w.heap.size=w2.heap.size:=e; omega)
  have T6:AtU w5 w1.heap.size 0 (xV kd):=((q2.keep c3 id).keep m3 n2).keep e3 (fun e=>by have e:w1.heap.size=w2.heap.size:=e; omega)
  refine ⟨_,_,rfl,w5,e1,?_⟩
  have T7:w2.heap.size<=w2.heap.size/\w2.heap.size<w5.heap.size:=⟨Nat.le_refl _,e2.lt⟩
  obtain ⟨q,hq⟩:∃ q,q=w2.heap.size:=⟨_,rfl⟩
  have e2:AtU w5 q 0 (hV x):=hq ▸ e2
  have hn:¬ R3 q:=hq ▸ hn
  have T7:w2.heap.size<=q/\q<w5.heap.size:=hq ▸ T7
  rw [zd,<- hq]
 all_goals
  have p1:w.heap.size<w2.heap.size/\w1.heap.size<w2.heap.size/\w.heap.size<w1.heap.size:=⟨by have:=b2.lt; omega,b2.lt,by omega⟩
  have hz5:=T1.size
  have r1:¬ R3 w.heap.size:=fun e=>by
   rcases T2 _ e with e | e
   ·exact n1 e
   ·omega
  have r2:¬ R3 w1.heap.size:=fun e=>by
   rcases T2 _ e with e | e
   ·exact n2 e
   ·omega
  refine Share.cut (fun z w9=>∃ e h',z=[.int .i64 e]/\Mod R w w9/\Ao R3 w9 a v d A/\AtU w9 q 0 (hV h')/\AtU w9 w.heap.size 0 (pV (k,i))/\e=(useX kd A.s.geo x i on).2/\h'=(useX kd A.s.geo x i on).1) ?_ ?_
  ·refine tt rfl ⟨f1,T6.drew.at.fld sc_use hf1,_,rfl,_,(T3.nos (Mod.refl _ _).drew).pv,_,e2.drew.at.all agg_head (hV_len hx5),_,T5.drew.at.fld (v:=.int .i64 i) sc_int rfl,aGeo_c (T3.nos (Mod.refl _ _).drew) fun w6 m6=>⟨_,rfl,(T6.keep (S:=No) ((Mod.refl _ _).drew.no m6) id).at.fld sc_use hf1,(e2.keep (S:=No) ((Mod.refl _ _).drew.no m6) id).at.all agg_head (hV_len hx5),(T5.keep (S:=No) ((Mod.refl _ _).drew.no m6) id).at.fld (v:=.int .i64 i) sc_int rfl,?_⟩⟩
   refine useX_c hx5 (fun w7 m7=>⟨_,_,rfl,?_⟩) hf1
   have M7:Mod No w5 w7:=((Mod.refl No w5).drew.no m6).no m7
   obtain ⟨w8,y1,y2,y3,y4⟩:=(e2.keep M7 id).put (T:=119) (vs:=hV (useX kd A.s.geo x i on).1) agg_head (hV_len hx5) (hV_len (useX_wf hx5 i on)) (one_hV _)
   exact ⟨w8,y1,_,_,rfl,(T1.no M7).trans y3 fun z hz e=>by have e:z=q:=e; omega,(T3.nos M7).own y3 hn (by omega),y2,(T5.keep M7 id).keep y3 (fun e=>by have e:w.heap.size=q:=e; omega),rfl,rfl⟩
  rintro z w9 ⟨e,h',rfl,U1,U2,U3,U4,rfl,rfl⟩
  refine ⟨_,rfl,?_⟩
  rw [bneI]
  have hT:=fun (y:Az×Int×Int) (hy:turnA kd A k i on=y)=>hy ▸ hk
  unfold turnA at hk
  rw [hx2] at hk
  refine cond_of (fun he=>?_) (fun he=>?_)
  ·have he:=of_decide_eq_true he
   rw [if_pos he] at hk
   exact hk w9 R3 U1 (T2.up (by omega)) U2
  ·have he':=Classical.not_not.1 (of_decide_eq_false he)
   rw [if_neg (of_decide_eq_false he)] at hk
   obtain ⟨o1,o2⟩:=useX_ok hx5 he'
   refine ⟨_,rfl,_,(U2.nos (Mod.refl _ _).drew).pv,_,U4.drew.at.fld (v:=.int .i64 (k:Int)) sc_int rfl,_,U3.drew.at.all agg_head (hV_len (useX_wf hx5 i on)),?_⟩
   refine aSet_c (U2.nos (Mod.refl _ _).drew) (by omega) hk0 (useX_wf hx5 i on) o1 (by rw [o2]; exact hx4) hlast fun w10 R10 m10 s10 h10 _=>⟨_,_,rfl,?_⟩
   rw [show ((k:Nat):Int).toNat=k by omega] at h10
   have hzU:=U1.size
   exact hk w10 R10 ((U1.drew).trans m10 fun z hz e=>(T2 z e).resolve_right (by omega)) ((T2.trans s10 (by show w2.heap.size<=w9.heap.size; have:=U3.lt; omega)).up (by omega)) h10
end
end Go.Proofs.YtelhlihjihklbaaGreat
end
section
open Go Go.Den Go.Proofs
namespace Go.Proofs.YtelhlihjihklbaaGreat
theorem sc_palloc:scal Tryz.prog 22=true:=by kernel_rfl
theorem sc_bl:scal Tryz.prog 4=true:=by kernel_rfl
section
variable {w w':World} {R R':Nat->Prop} {a v d:Nat} {A:Az} {K:Value->World->Prop}
theorem ring_c {s p : Int} {t : Bool} {q : Option Addr} (hk : ∀ w', Mod No w w' → w'.heap.size = w.heap.size + 3 → AtU w' w.heap.size 0 [.pointer q] → AtU w' (w.heap.size + 1) 0 (pV (s, p)) → AtU w' (w.heap.size + 2) 0 [.bool t] →
      K (.func (.func F_alloc_Alloc_ring_1) #[] #[.pointer (some ⟨w.heap.size, 0, none⟩), .pointer (some ⟨w.heap.size + 1, 0, none⟩), .pointer (some ⟨w.heap.size + 2, 0, none⟩)]) w') :
    Cal Tryz.prog F_alloc_Alloc_ring #[.pointer q, .agg ⟨pV (s, p)⟩, .bool t] w K := by
  apply C_alloc_Alloc_ring
  unfold D_alloc_Alloc_ring
  obtain ⟨w1, a1, a2, a3, a4⟩ := box_v (P := Tryz.prog) (w := w) (T := 22) (v := .pointer q) rfl
  obtain ⟨w2, b1, b2, b3, b4⟩ := box_u (P := Tryz.prog) (w := w1) (T := 101) (cs := pV (s, p))
  obtain ⟨w3, c1, c2, c3, c4⟩ := box_v (P := Tryz.prog) (w := w2) (T := 4) (v := .bool t) rfl
  rw [a4] at b1 b2 b4
  rw [b4] at c1 c2 c4
  exact ⟨_, w1, a1, _, w2, b1, _, w3, c1, hk w3 ((a3.no b3).no c3) c4 ((a2.keep b3 id).keep c3 id) (b2.keep c3 id) c2⟩
theorem ring1_c {l q3 q4 q5 n:Nat} {s p:Int} {t:Bool} (hn:A.s.geo.gs=n) (hg:gOk A.s.geo=true) (hs:0<=s/\s<A.s.geo.gs) (hp:0<=p/\p<=100000) (J:Nat->World->Prop) (E:World->Prop) (hJ0:J 0 w)
  (hcell:∀ i W,J i W->∃ R',Ao R' W a v d A/\AtU W q3 0 [.pointer (some ⟨a,0,none⟩)]/\AtU W q4 0 (pV (s,p))/\AtU W q5 0 [.bool t])
  (hno:∀ i W W',J i W->Mod No W W'->J i W')
  (hfz:∀ i W,i<n->J i W->A.fz (ringK A.s.geo s i)=true->J (i+1) W)
  (hst:∀ i W K,i<n->J i W->A.fz (ringK A.s.geo s i)=false->(∀ W',J (i+1) W'->K (.bool true) W')->(∀ W',E W'->K (.bool false) W')->Yld Tryz.prog l #[.int .i64 (ringK A.s.geo s i:Int),.int .i64 (ringF p t i)] W K)
  (hk:∀ W,J n W\/E W->K (.tuple #[]) W) :
  Cal Tryz.prog F_alloc_Alloc_ring_1 (#[.func (.yield l) #[] #[]]++#[.pointer (some ⟨q3,0,none⟩),.pointer (some ⟨q4,0,none⟩),.pointer (some ⟨q5,0,none⟩)]) w K:=by
 refine C_alloc_Alloc_ring_1 _ _ _ _ w K ?_
 unfold D_alloc_Alloc_ring_1
 obtain ⟨R0,h0,c3,c4,c5⟩:=hcell 0 w hJ0
 obtain ⟨_,_,g3,g4,_⟩:=gOk_iff.1 hg
 refine ⟨_,c3.at.one sc_palloc,_,rfl,_,h0.pv,aGeo_c h0 fun w1 m1=>⟨_,rfl,_,field_ggs _,?_⟩⟩
 refine ⟨fun x W=>∃ (i:Nat) (y0 y2 y3:Value),x=[y0,.int .i64 i,y2,y3]/\i<=n/\J i W,fun x _=>(n-nI x 1).toNat,⟨0,_,_,_,rfl,Nat.zero_le _,hno 0 _ _ hJ0 m1⟩,?_⟩
 rintro x W ⟨i,y0,y2,y3,rfl,hi,hJ⟩
 obtain ⟨R1,h1,d3,d4,d5⟩:=hcell i W hJ
 refine ⟨_,rfl,cond_of (fun hb=>?_) (fun hb=>hk W (.inl ?_))⟩
 ·have hb:=of_decide_eq_true hb
  have hin:i<n:=by omega
  have hrk:(s+i) % A.s.geo.gs=(ringK A.s.geo s i:Int):=by
   unfold ringK
   have:=Int.emod_nonneg (s+i) (show A.s.geo.gs≠0 by omega)
   omega
  refine ⟨_,d4.at.fld (v:=.int .i64 s) sc_int rfl,(ringK A.s.geo s i:Int),?_,?_⟩
  ·rw [wrap64 (x:=s+i) (by omega) (by omega),<- hrk]
   exact remR (by omega) (by omega) (by omega)
  refine Share.cut (fun z W'=>W'=W/\z=[.bool (decide (i=0)&&t)]) ?_ ?_
  ·rw [beqI]
   refine cond_of (fun h=>⟨_,d5.at.one sc_bl,rfl,?_⟩) (fun h=>⟨rfl,?_⟩)
   ·have h:=of_decide_eq_true h
    rw [decide_eq_true (by omega),Bool.true_and]
   ·have h:=of_decide_eq_false h
    rw [decide_eq_false (by omega),Bool.false_and]
  rintro z W' ⟨rfl,rfl⟩
  refine ⟨_,rfl,Share.cut (fun z W''=>W''=W'/\z=[.int .i64 (ringF p t i)]) (cond_of (fun h=>⟨_,d4.at.fld (v:=.int .i64 p) sc_int rfl,rfl,?_⟩) (fun h=>⟨rfl,?_⟩)) ?_⟩
  ·simp only [Bool.and_eq_true,decide_eq_true_eq] at h
   rw [wrap64 (by omega) (by omega)]; unfold ringF; rw [if_pos h]
  ·have h':¬ (i=0/\t=true):=fun e=>by rw [decide_eq_true e.1,e.2] at h; cases h
   unfold ringF; rw [if_neg h']
  rintro z W'' ⟨rfl,rfl⟩
  refine Share.cut (fun z W'=>(z=[.bool false]/\J (i+1) W')\/(z=[.bool true]/\E W')) ?_ ?_
  ·have h1':=h1
   obtain ⟨Rv,fm,L,_,k2,k3,k4,_⟩:=h1'
   have hl:=lookup_run (P:=Tryz.prog) (k:=(ringK A.s.geo s i:Int)) mapFz k3
   rw [k4] at hl
   refine ⟨_,d3.at.one sc_palloc,_,rfl,_,k2.at.fld sc_fz rfl,_,hl,cond_of (fun h=>⟨_,rfl,.yield l,#[],#[],rfl,rfl,rfl,?_⟩) (fun h=>.inl ⟨rfl,hfz i _ hin hJ (by simpa using h)⟩)⟩
   exact hst i _ _ hin hJ (by simpa using h) (fun W' hJ'=>⟨true,rfl,.inl ⟨rfl,hJ'⟩⟩) fun W' hE=>⟨false,rfl,.inr ⟨rfl,hE⟩⟩
  ·rintro z W' (⟨rfl,hJ'⟩ | ⟨rfl,hE⟩)
   ·refine ⟨_,rfl,ff rfl ?_⟩
    rw [wrap64 (x:=(i:Int)+1) (by omega) (by omega)]
    exact ⟨⟨i+1,_,_,_,rfl,by omega,hJ'⟩,by simp [nI,nth]; omega⟩
   ·exact ⟨_,rfl,tt rfl (hk W' (.inr hE))⟩
 ·have hb:=of_decide_eq_false hb
  have:i=n:=by omega
  rw [<- this]; exact hJ
theorem Mod.putObj (w:World) (k:Nat) (o:Obj):Mod (fun x=>x=k) w (w.putObj k o):=(Mod.refl (fun x=>x=k) w).put (.inr rfl) o
theorem putObj_at {w:World} {k:Nat} {o o':Obj} (h:w.heap[k]?=some o'):(w.putObj k o).heap[k]?=some o:=heap_put_same (lt_of_heap h)
end
end Go.Proofs.YtelhlihjihklbaaGreat
end
section
open Go Go.Den Go.Proofs
namespace Go.Proofs.YtelhlihjihklbaaGreat
theorem takeTo_mono {g : Gm} {hs : List Hd} {fz : Int → Bool} {find : Hd → Int → Int} {s p : Int} {t : Bool} {i : Nat} {x : Nat × Int} (h : takeTo g hs fz find s p t i = some x) : ∀ {n : Nat}, i ≤ n → takeTo g hs fz find s p t n = some x
  | 0, hn => by have : i = 0 := by omega
                subst this; exact h
  | n + 1, hn => by
    by_cases e : i = n + 1
    · rw [← e]; exact h
    · have := takeTo_mono h (n := n) (by omega)
      show (match takeTo g hs fz find s p t n with | some x => some x | none => takeAt g hs fz find s p t n) = _
      rw [this]
def takeA (kd:Bool) (A:Az) (s p:Int) (t:Bool):Az×(Int×Int)×Int×Int :=
 match takeTo A.s.geo A.hs A.fz (findX kd A.s.geo) s p t A.s.geo.gs.toNat with
 | some x=>((turnA kd A x.1 x.2 true).1,((x.1:Int),x.2),(turnA kd A x.1 x.2 true).2.1,(turnA kd A x.1 x.2 true).2.2)
 | none=>(A,(0,0),0,26)
theorem zero_i64:zeroC Tryz.prog 2=some [.int .i64 0]:=by kernel_rfl
theorem zero_errno:zeroC Tryz.prog 24=some [.int .i64 0]:=by kernel_rfl
theorem sc_errno:scal Tryz.prog 24=true:=by kernel_rfl
section
variable {w w':World} {R R':Nat->Prop} {a v d:Nat} {A:Az} {K:Value->World->Prop}
set_option maxRecDepth 4000 in
theorem take_c {kd t:Bool} {s p:Int} (h:Ao R w a v d A) (hs:0<=s/\s<A.s.geo.gs) (hp:0<=p/\p<=100000) (hlast:A.V.last+1<=1000000)
  (hk:∀ w' R',Mod R w w'->Sb R R' w->Ao R' w' a v d (takeA kd A s p t).1->K (.tuple #[.agg ⟨pV (takeA kd A s p t).2.1⟩,.int .i64 (takeA kd A s p t).2.2.1,.int .i64 (takeA kd A s p t).2.2.2]) w') :
  Cal Tryz.prog F_alloc_Alloc_take #[.pointer (some ⟨a,0,none⟩),.agg ⟨pV (s,p)⟩,.bool t,.agg ⟨xV kd⟩] w K:=by
 have hg:=h.ok
 obtain ⟨_,_,g3,g4,_⟩:=gOk_iff.1 hg
 obtain ⟨n,hn⟩:=Int.eq_ofNat_of_zero_le (show 0<=A.s.geo.gs by omega)
 have hnn:A.s.geo.gs.toNat=n:=by omega
 obtain ⟨f0,hf0⟩:∃ f,(xV kd)[0]?=some f:=by cases kd <;> exact ⟨_,rfl⟩
 apply C_alloc_Alloc_take
 unfold D_alloc_Alloc_take
 obtain ⟨w1,a1,a2,a3,a4⟩:=box_v (P:=Tryz.prog) (w:=w) (T:=22) (v:=.pointer (some ⟨a,0,none⟩)) rfl
 obtain ⟨w2,b1,b2,b3,b4⟩:=box_u (P:=Tryz.prog) (w:=w1) (T:=101) (cs:=pV (s,p))
 obtain ⟨w3,c1,c2,c3,c4⟩:=box_u (P:=Tryz.prog) (w:=w2) (T:=109) (cs:=xV kd)
 obtain ⟨w4,d1,d2,d3,d4⟩:=new_u (P:=Tryz.prog) (w:=w3) (T:=101) zero_spot
 obtain ⟨w5,e1,e2,e3,e4⟩:=new_u (P:=Tryz.prog) (w:=w4) (T:=2) zero_i64
 obtain ⟨w6,f1,f2,f3,f4⟩:=new_u (P:=Tryz.prog) (w:=w5) (T:=24) zero_errno
 have z1:w1.heap.size=w.heap.size+1:=a4
 have z2:w2.heap.size=w.heap.size+2:=by omega
 have z3:w3.heap.size=w.heap.size+3:=by omega
 have z4:w4.heap.size=w.heap.size+4:=by omega
 have z5:w5.heap.size=w.heap.size+5:=by omega
 have z6:w6.heap.size=w.heap.size+6:=by omega
 have p1:AtU w6 w.heap.size 0 [.pointer (some ⟨a,0,none⟩)]:=((((a2.keep b3 id).keep c3 id).keep d3 id).keep e3 id).keep f3 id
 have p2:AtU w6 (w.heap.size+1) 0 (pV (s,p)):=z1 ▸ (((b2.keep c3 id).keep d3 id).keep e3 id).keep f3 id
 have p3:AtU w6 (w.heap.size+2) 0 (xV kd):=z2 ▸ ((c2.keep d3 id).keep e3 id).keep f3 id
 have p4:AtU w6 (w.heap.size+3) 0 (pV (0,0)):=z3 ▸ (d2.keep e3 id).keep f3 id
 have p5:AtU w6 (w.heap.size+4) 0 [.int .i64 0]:=z4 ▸ e2.keep f3 id
 have p6:AtU w6 (w.heap.size+5) 0 [.int .i64 0]:=z5 ▸ f2
 have m6:Mod No w w6:=((((a3.no b3).no c3).no d3).no e3).no f3
 have h6:=h.nos m6
 rw [z1] at b1
 rw [z2] at c1
 rw [z3] at d1
 rw [z4] at e1
 rw [z5] at f1
 refine ⟨_,w1,a1,_,w2,b1,_,w3,c1,_,w4,d1,_,w5,e1,_,w6,f1,_,p1.at.one sc_palloc,_,p2.at.all agg_spot rfl,?_⟩
 refine ring_c (s:=s) (p:=p) (t:=t) fun w7 m7 s7 x3 x4 x5=>⟨_,rfl,?_⟩
 have M7:Mod No w w7:=m6.no m7
 have h7:=h.nos M7
 have p1:=p1.keep m7 id
 have p3:=p3.keep m7 id
 have p4:=p4.keep m7 id
 have p5:=p5.keep m7 id
 have p6:=p6.keep m7 id
 rw [z6] at x3 x4 x5 s7 |-
 clear p2 a1 b1 c1 d1 e1 f1 a2 b2 c2 d2 e2 f2 a3 b3 c3 d3 e3 f3 a4 b4 c4 d4 e4 f4 m6 h6
 intro r0 hs0 hp0 hy
 obtain ⟨hd0,hl0,mW,sW⟩:((w7.alloc (.deferred (some []))).alloc (.loop r0)).heap[w7.heap.size]?=some (.deferred (some []))/\((w7.alloc (.deferred (some []))).alloc (.loop r0)).heap[w7.heap.size+1]?=some (.loop r0)/\Mod No w7 ((w7.alloc (.deferred (some []))).alloc (.loop r0))/\((w7.alloc (.deferred (some []))).alloc (.loop r0)).heap.size=w7.heap.size+2:=by
  refine ⟨?_,?_,((Mod.refl No w7).alloc _).alloc _,by simp⟩
  ·rw [heap_old (by simp)]; exact heap_new _ _
  ·have:=heap_new (w7.alloc (.deferred (some []))) (.loop r0)
   rw [World.size_alloc] at this; exact this
 generalize (w7.alloc (.deferred (some []))).alloc (.loop r0)=W2 at *
 have hnR:∀ R',Sb R R' W2->∀ q,w.heap.size<=q->q<W2.heap.size->¬ R' q:=fun R' hs q h1 h2 e=>by
  rcases hs q e with e | e
  ·have:=h.lt q e; omega
  ·omega
 have hda:=h.dlt
 have own:∀ {b c:World} {q:Nat},Mod R w b->Mod (fun x=>x=q) b c->w.heap.size<=q->Mod R w c:=fun hb hc hq=>hb.trans hc fun z hz e=>by have e:z=_:=e; omega
 have er:({ r0 with state:=LoopState.ready,pending:=none }:Loop)=r0:=by cases r0; simp only at hs0 hp0; subst hs0; subst hp0; rfl
 have nel:∀ q,q<w7.heap.size+1->¬ (fun x=>x=w7.heap.size+1) q:=fun q hq e=>by have e:q=w7.heap.size+1:=e; omega
 refine ring1_c (A:=A) (n:=n) (w:=W2) hn hg hs hp (fun i W=>takeTo A.s.geo A.hs A.fz (findX kd A.s.geo) s p t i=none/\∃ R',Ao R' W a v d A/\Sb R R' W2/\Mod R w W/\W2.heap.size<=W.heap.size/\(AtU W w.heap.size 0 [.pointer (some ⟨a,0,none⟩)]/\AtU W (w.heap.size+2) 0 (xV kd)/\AtU W (w.heap.size+3) 0 (pV (0,0))/\AtU W (w.heap.size+4) 0 [.int .i64 0]/\AtU W (w.heap.size+5) 0 [.int .i64 0]) /\
   (AtU W (w.heap.size+6) 0 [.pointer (some ⟨a,0,none⟩)]/\AtU W (w.heap.size+6+1) 0 (pV (s,p))/\AtU W (w.heap.size+6+2) 0 [.bool t])/\W.heap[w7.heap.size]?=some (.deferred (some []))/\W.heap[w7.heap.size+1]?=some (.loop r0))
  (fun W=>∃ k j,takeTo A.s.geo A.hs A.fz (findX kd A.s.geo) s p t n=some (k,j)/\∃ R',Ao R' W a v d (turnA kd A k j true).1/\Sb R R' W2/\Mod R w W/\W2.heap.size<=W.heap.size/\AtU W (w.heap.size+3) 0 (pV (k,j))/\AtU W (w.heap.size+4) 0 [.int .i64 (turnA kd A k j true).2.1]/\AtU W (w.heap.size+5) 0 [.int .i64 (turnA kd A k j true).2.2]/\W.heap[w7.heap.size]?=some (.deferred (some []))/\W.heap[w7.heap.size+1]?=some (.loop { r0 with state:=.done,pending:=some .ret }))
  ⟨rfl,R,h7.nos mW,Sb.refl _ _,(M7.no mW).mono (fun _ _ e=>e.elim),Nat.le_refl _,⟨p1.keep mW id,p3.keep mW id,p4.keep mW id,p5.keep mW id,p6.keep mW id⟩,⟨x3.keep mW id,x4.keep mW id,x5.keep mW id⟩,hd0,hl0⟩
  (fun i W ⟨_,R',j1,j2,j3,j4,j5,j8,j9,j10⟩=>⟨R',j1,j8.1,j8.2.1,j8.2.2⟩)
  (fun i W W' ⟨j0,R',j1,j2,j3,j4,⟨k1,k2,k3,k4,k5⟩,j8,j9,j10⟩ m=>⟨j0,R',j1.nos m,j2,j3.no m,Nat.le_trans j4 m.size,⟨k1.keep m id,k2.keep m id,k3.keep m id,k4.keep m id,k5.keep m id⟩,⟨j8.1.keep m id,j8.2.1.keep m id,j8.2.2.keep m id⟩,m.keep j9 id,m.keep j10 id⟩) ?_ ?_ ?_
 ·rintro i W hi ⟨j0,jr⟩ hf
  refine ⟨?_,jr⟩
  show (match takeTo A.s.geo A.hs A.fz (findX kd A.s.geo) s p t i with | some x=>some x | none=>takeAt A.s.geo A.hs A.fz (findX kd A.s.geo) s p t i)=none
  rw [j0]
  show takeAt A.s.geo A.hs A.fz (findX kd A.s.geo) s p t i=none
  unfold takeAt; rw [if_pos hf]
 ·rintro i W K' hi ⟨j0,R',j1,j2,j3,j4,⟨k1,k2,k3,k4,k5⟩,⟨j8,j9,j10⟩,j11,j12⟩ hf hT hF
  have hkl:=ringK_lt hg s i
  obtain ⟨x,hx1,hx2,hx3,hx4,hx5⟩:=j1.hdOf hkl
  have hxs:A.hs[ringK A.s.geo s i]?=some x:=by
   obtain ⟨y,hy1,_⟩:=j1.hd.get (k:=(ringK A.s.geo s i:Int)) (by omega) hkl
   have hy1:A.hs[ringK A.s.geo s i]?=some y:=hy1
   rw [List.getD_eq_getElem?_getD,hy1] at hx2
   rw [hy1]; exact congrArg some hx2
  have hto:takeTo A.s.geo A.hs A.fz (findX kd A.s.geo) s p t (i+1)=if 0<=findX kd A.s.geo x (ringF p t i) then some (ringK A.s.geo s i,findX kd A.s.geo x (ringF p t i)) else none:=by
   show (match takeTo A.s.geo A.hs A.fz (findX kd A.s.geo) s p t i with | some x=>some x | none=>takeAt A.s.geo A.hs A.fz (findX kd A.s.geo) s p t i)=_
   rw [j0]
   show takeAt A.s.geo A.hs A.fz (findX kd A.s.geo) s p t i=_
   unfold takeAt; rw [if_neg (by rw [hf]; decide),hxs]
  generalize ringF p t i=fr at *
  generalize ringK A.s.geo s i=k at *
  refine hy [.int .i64 (k:Int),.int .i64 fr] W K' rfl j12 ?_
  refine ⟨_,rfl,_,rfl,j12,?_⟩
  have ml:=Mod.putObj W (w7.heap.size+1) (.loop { r0 with state:=.busy })
  have hlb:=putObj_at (o:=.loop { r0 with state:=.busy }) j12
  have far:∀ R',Sb R R' W2->∀ q,w.heap.size<=q->q<W2.heap.size->¬ R' q:=hnR
  have nl:¬ R' (w7.heap.size+1):=hnR R' j2 _ (by omega) (by omega)
  have t1:=j1.own ml nl (by omega)
  have zl:=ml.size
  have c1:Mod R w _:=own j3 ml (by omega)
  have y1:=k1.keep ml (nel _ (by omega))
  have y2:=k2.keep ml (nel _ (by omega))
  have y3:=k3.keep ml (nel _ (by omega))
  have y4:=k4.keep ml (nel _ (by omega))
  have y5:=k5.keep ml (nel _ (by omega))
  have y8:=j8.keep ml (nel _ (by omega))
  have y9:=j9.keep ml (nel _ (by omega))
  have y10:=j10.keep ml (nel _ (by omega))
  have y11:=ml.keep j11 (nel _ (by omega))
  generalize W.putObj (w7.heap.size+1) (.loop { r0 with state:=.busy })=W3 at *
  refine ⟨_,y1.at.one sc_palloc,_,rfl,_,t1.pv,aHead_c t1 fun w9 R9 m9 s9 k9 _=>?_⟩
  rw [hx1]
  have z9:=m9.size
  have S9:Sb R R9 W2:=j2.trans s9 (by omega)
  obtain ⟨w10,b1,b2,b3,b4⟩:=new_u (P:=Tryz.prog) (w:=w9) (T:=119) zero_head
  obtain ⟨w11,u1,u2,u3,u4⟩:=b2.put (T:=119) (vs:=hV x) agg_head rfl (hV_len hx5) (one_hV _)
  have m11:Mod No w9 (Go.Den.drew w11):=(b3.own u3 (Nat.le_refl _)).drew
  have M11:Mod R' W3 (Go.Den.drew w11):=m9.no m11
  have k11:=k9.nos m11
  have f1:=y1.keep M11 (hnR R' j2 _ (by omega) (by omega))
  have f2:=y2.keep M11 (hnR R' j2 _ (by omega) (by omega))
  refine ⟨_,_,rfl,_,w10,b1,w11,u1,ff rfl ⟨f0,f2.at.fld sc_find hf0,_,f1.at.one sc_palloc,_,rfl,_,k11.pv,_,u2.drew.at.all agg_head (hV_len hx5),aGeo_c k11 fun w16 m16=>⟨_,rfl,(f2.keep m16 id).at.fld sc_find hf0,(u2.drew.keep m16 id).at.all agg_head (hV_len hx5),findX_c hx5 (fun w17 m17=>⟨_,rfl,?_⟩) hf0⟩⟩⟩
  have M17:Mod R' W3 w17:=(M11.no m16).no m17
  have k17:=(k11.nos m16).nos m17
  have z17:=M17.size
  have C17:Mod R w w17:=c1.trans M17 fun z hz e=>(j2 z e).resolve_right (by omega)
  have g1:=y1.keep M17 (hnR R' j2 _ (by omega) (by omega))
  have g2:=y2.keep M17 (hnR R' j2 _ (by omega) (by omega))
  have g3:=y3.keep M17 (hnR R' j2 _ (by omega) (by omega))
  have g4:=y4.keep M17 (hnR R' j2 _ (by omega) (by omega))
  have g5:=y5.keep M17 (hnR R' j2 _ (by omega) (by omega))
  have g8:=y8.keep M17 (hnR R' j2 _ (by omega) (by omega))
  have g9:=y9.keep M17 (hnR R' j2 _ (by omega) (by omega))
  have g10:=y10.keep M17 (hnR R' j2 _ (by omega) (by omega))
  have g11:=M17.keep y11 (hnR R' j2 _ (by omega) (by omega))
  have gl:=M17.keep hlb (hnR R' j2 _ (by omega) (by omega))
  refine cond_of (fun hb=>?_) (fun hb=>?_)
  ·have hb:=of_decide_eq_true hb
   rw [if_pos (by omega)] at hto
   have hto:=takeTo_mono hto (n:=n) (by omega)
   refine ⟨_,g1.at.one sc_palloc,_,build_spot _ _,_,g2.at.all agg_heads (len_xV kd),?_⟩
   refine turn_c k17 hkl hlast fun w18 R18 m18 s18 k18=>⟨_,_,rfl,_,build_spot _ _,?_⟩
   have z18:=m18.size
   have S18:Sb R R18 W2:=S9.trans s18 (by omega)
   have C18:Mod R w w18:=C17.trans m18 fun z hz e=>(S9 z e).resolve_right (by omega)
   have l3:=g3.keep m18 (hnR R9 S9 _ (by omega) (by omega))
   have l4:=g4.keep m18 (hnR R9 S9 _ (by omega) (by omega))
   have l5:=g5.keep m18 (hnR R9 S9 _ (by omega) (by omega))
   have l11:=m18.keep g11 (hnR R9 S9 _ (by omega) (by omega))
   have ll:=m18.keep gl (hnR R9 S9 _ (by omega) (by omega))
   obtain ⟨w19,v1,v2,v3,v4⟩:=l3.put (T:=101) (vs:=pV ((k:Int),findX kd A.s.geo x fr)) agg_spot rfl rfl (one_pV _)
   obtain ⟨w20,r1,r2,r3,r4⟩:=(l4.keep v3 (by show ¬ w.heap.size+4=w.heap.size+3; omega)).put1 (P:=Tryz.prog) (T:=2) (v:=.int .i64 (turnA kd A k (findX kd A.s.geo x fr) true).2.1) sc_i64 rfl
   obtain ⟨w21,o1,o2,o3,o4⟩:=((l5.keep v3 (by show ¬ w.heap.size+5=w.heap.size+3; omega)).keep r3 (by show ¬ w.heap.size+5=w.heap.size+4; omega)).put1 (P:=Tryz.prog) (T:=24) (v:=.int .i64 (turnA kd A k (findX kd A.s.geo x fr) true).2.2) sc_errno rfl
   refine ⟨w19,v1,w20,r1,w21,o1,?_,?_⟩
   ·exact o3.keep (r3.keep (v3.keep ll (by show ¬ w7.heap.size+1=w.heap.size+3; omega)) (by show ¬ w7.heap.size+1=w.heap.size+4; omega)) (by show ¬ w7.heap.size+1=w.heap.size+5; omega)
   show K' (.bool false) (w21.putObj (w7.heap.size+1) (.loop { r0 with state:=.done,pending:=some .ret }))
   have hl21:=o3.keep (r3.keep (v3.keep ll (by show ¬ w7.heap.size+1=w.heap.size+3; omega)) (by show ¬ w7.heap.size+1=w.heap.size+4; omega)) (by show ¬ w7.heap.size+1=w.heap.size+5; omega)
   have mf:=Mod.putObj w21 (w7.heap.size+1) (.loop { r0 with state:=.done,pending:=some .ret })
   have zf:=mf.size
   have nR:=fun q h1 h2=>hnR R18 S18 q h1 h2
   refine hF _ ⟨k,_,hto,R18,(((k18.own v3 (nR _ (by omega) (by omega)) (by omega)).own r3 (nR _ (by omega) (by omega)) (by omega)).own o3 (nR _ (by omega) (by omega)) (by omega)).own mf (nR _ (by omega) (by omega)) (by omega),S18,own (own (own (own C18 v3 (by omega)) r3 (by omega)) o3 (by omega)) mf (by omega),by omega,?_,?_,?_,?_,putObj_at hl21⟩
   ·exact ((v2.keep r3 (by show ¬ w.heap.size+3=w.heap.size+4; omega)).keep o3 (by show ¬ w.heap.size+3=w.heap.size+5; omega)).keep mf (nel _ (by omega))
   ·exact (r2.keep o3 (by show ¬ w.heap.size+4=w.heap.size+5; omega)).keep mf (nel _ (by omega))
   ·exact o2.keep mf (nel _ (by omega))
   ·exact mf.keep (o3.keep (r3.keep (v3.keep l11 (by show ¬ w7.heap.size=w.heap.size+3; omega)) (by show ¬ w7.heap.size=w.heap.size+4; omega)) (by show ¬ w7.heap.size=w.heap.size+5; omega)) (nel _ (by omega))
  ·have hb:=of_decide_eq_false hb
   rw [if_neg (by omega)] at hto
   refine ⟨gl,?_⟩
   show K' (.bool true) (w17.putObj (w7.heap.size+1) (.loop { r0 with state:=LoopState.ready,pending:=none }))
   rw [er]
   have mf:=Mod.putObj w17 (w7.heap.size+1) (.loop r0)
   have zf:=mf.size
   refine hT _ ⟨hto,R9,k17.own mf (hnR R9 S9 _ (by omega) (by omega)) (by omega),S9,own C17 mf (by omega),by omega,⟨g1.keep mf (nel _ (by omega)),g2.keep mf (nel _ (by omega)),g3.keep mf (nel _ (by omega)),g4.keep mf (nel _ (by omega)),g5.keep mf (nel _ (by omega))⟩,⟨g8.keep mf (nel _ (by omega)),g9.keep mf (nel _ (by omega)),g10.keep mf (nel _ (by omega))⟩,mf.keep g11 (nel _ (by omega)),putObj_at gl⟩
 ·have tk:=hk
  unfold takeA at tk
  rw [hnn] at tk
  rintro W (⟨j0,R',j1,j2,j3,j4,⟨k1,k2,k3,k4,k5⟩,_,j11,j12⟩ | ⟨k,j,j0,R',j1,j2,j3,j4,k3,k4,k5,j11,j12⟩)
  ·refine ⟨.ready,none,by rw [er]; exact j12,by simp,?_⟩
   have ml:=Mod.putObj W (w7.heap.size+1) (.loop { r0 with state:=.exhausted,pending:=none })
   have t1:=j1.own ml (hnR R' j2 _ (by omega) (by omega)) (by omega)
   have c1:=own j3 ml (by omega)
   have zl:=ml.size
   have y3:=k3.keep ml (nel _ (by omega))
   have y4:=k4.keep ml (nel _ (by omega))
   have y5:=k5.keep ml (nel _ (by omega))
   have y11:=ml.keep j11 (nel _ (by omega))
   show ∃ g63:Array Value,_
   generalize W.putObj (w7.heap.size+1) (.loop { r0 with state:=.exhausted,pending:=none })=W3 at *
   obtain ⟨w19,v1,v2,v3,v4⟩:=y3.put (T:=101) (vs:=pV (0,0)) agg_spot rfl rfl (one_pV _)
   obtain ⟨w20,r1,r2,r3,r4⟩:=(y4.keep v3 (by show ¬ w.heap.size+4=w.heap.size+3; omega)).put1 (P:=Tryz.prog) (T:=2) (v:=.int .i64 0) sc_i64 rfl
   obtain ⟨w21,o1,o2,o3,o4⟩:=((y5.keep v3 (by show ¬ w.heap.size+5=w.heap.size+3; omega)).keep r3 (by show ¬ w.heap.size+5=w.heap.size+4; omega)).put1 (P:=Tryz.prog) (T:=24) (v:=.int .i64 26) sc_errno rfl
   have mf:=Mod.putObj w21 w7.heap.size (.deferred none)
   have nd:∀ q,q<w7.heap.size->¬ (fun x=>x=w7.heap.size) q:=fun q hq e=>by have e:q=w7.heap.size:=e; omega
   refine ⟨_,build_spot0,w19,v1,w20,r1,w21,o1,?_,_,(((v2.keep r3 ?_).keep o3 ?_).keep mf (nd _ (by omega))).at.all agg_spot rfl,_,((r2.keep o3 ?_).keep mf (nd _ (by omega))).at.one sc_i64,_,(o2.keep mf (nd _ (by omega))).at.one sc_errno,?_⟩
   ·exact o3.keep (r3.keep (v3.keep y11 (by show ¬ w7.heap.size=w.heap.size+3; omega)) (by show ¬ w7.heap.size=w.heap.size+4; omega)) (by show ¬ w7.heap.size=w.heap.size+5; omega)
   ·show ¬ w.heap.size+3=w.heap.size+4; omega
   ·show ¬ w.heap.size+3=w.heap.size+5; omega
   ·show ¬ w.heap.size+4=w.heap.size+5; omega
   rw [j0] at tk
   have nR:=fun q h1 h2=>hnR R' j2 q h1 h2
   exact tk _ R' (own (own (own (own c1 v3 (by omega)) r3 (by omega)) o3 (by omega)) mf (by omega)) (j2.up (by omega)) ((((t1.own v3 (nR _ (by omega) (by omega)) (by omega)).own r3 (nR _ (by omega) (by omega)) (by omega)).own o3 (nR _ (by omega) (by omega)) (by omega)).own mf (nR _ (by omega) (by omega)) (by omega))
  ·refine ⟨.done,some .ret,j12,by simp,?_⟩
   have ml:=Mod.putObj W (w7.heap.size+1) (.loop { r0 with state:=.exhausted,pending:=some .ret })
   have t1:=j1.own ml (hnR R' j2 _ (by omega) (by omega)) (by omega)
   have c1:=own j3 ml (by omega)
   have zl:=ml.size
   have y3:=k3.keep ml (nel _ (by omega))
   have y4:=k4.keep ml (nel _ (by omega))
   have y5:=k5.keep ml (nel _ (by omega))
   have y11:=ml.keep j11 (nel _ (by omega))
   show (World.heap _)[_]?=_/\_
   generalize W.putObj (w7.heap.size+1) (.loop { r0 with state:=.exhausted,pending:=some .ret })=W3 at *
   have mf:=Mod.putObj W3 w7.heap.size (.deferred none)
   have nd:∀ q,q<w7.heap.size->¬ (fun x=>x=w7.heap.size) q:=fun q hq e=>by have e:q=w7.heap.size:=e; omega
   refine ⟨y11,_,(y3.keep mf (nd _ (by omega))).at.all agg_spot rfl,_,(y4.keep mf (nd _ (by omega))).at.one sc_i64,_,(y5.keep mf (nd _ (by omega))).at.one sc_errno,?_⟩
   rw [j0] at tk
   exact tk _ R' (own c1 mf (by omega)) (j2.up (by omega)) (t1.own mf (hnR R' j2 _ (by omega) (by omega)) (by omega))
end
end Go.Proofs.YtelhlihjihklbaaGreat
end
section
open Go Go.Den Go.Proofs
namespace Go.Proofs.YtelhlihjihklbaaGreat
theorem spB_in {g:Gm} (hg:gOk g=true) (b:Int):0<=(spB g b).1/\(spB g b).1<g.gs/\0<=(spB g b).2.1/\(spB g b).2.1<128:=by
 obtain ⟨_,g2,g3,_⟩:=gOk_iff.1 hg
 unfold spB
 by_cases h:(gKind g b).1=4
 ·rw [if_neg (by omega)]
  obtain ⟨_,_,_,h3,h4,h5,h6⟩:=gKind_4 h
  have ht:=gTabs_b (g:=g)
  have e:(gHead g (gKind g b).2).1=2+(gKind g b).2*g.gr:=by unfold gHead; rw [if_pos hg,if_pos ⟨h3,h4⟩]
  refine ⟨h3,h4,?_,?_⟩ <;> (simp only; rw [e]; omega)
 ·rw [if_pos h]; exact ⟨Int.le_refl _,by show (0:Int)<_; omega,Int.le_refl _,by decide⟩
theorem spS_in {g:Gm} (hg:gOk g=true) (n:Int):0<=(spS g n).1/\(spS g n).1<g.gs/\0<=(spS g n).2.1/\(spS g n).2.1<128:=by
 obtain ⟨_,_,g3,_,g5,g6,_⟩:=gOk_iff.1 hg
 unfold spS
 by_cases h:gOf g n<0
 ·rw [if_pos h]; exact ⟨Int.le_refl _,by show (0:Int)<_; omega,Int.le_refl _,by decide⟩
 ·rw [if_neg h]
  obtain ⟨_,h0,h1,e⟩:=gOf_in (g:=g) (n:=n) (by omega)
  have hi:=slot_in hg h0 h1
  rw [e]
  exact ⟨hi.1,hi.2.1,hi.2.2.1,by show n % g.no<128; omega⟩
section
variable {w w':World} {R R':Nat->Prop} {a v d:Nat} {A:Az} {K:Value->World->Prop}
theorem Ao.hds (h:Ao R w a v d A) {k:Nat} {x:Hd} (hx:A.hs[k]?=some x):(k:Int)<A.s.geo.gs/\A.hs.getD k hZ=x/\hOk A.s.geo x=true/\x.no=k/\hWf x:=by
 obtain ⟨_,h2,h3,h4⟩:=h.hd.2.2.2 k x hx
 exact ⟨h.hd.lt hx,by rw [List.getD_eq_getElem?_getD,hx]; rfl,h2,h3,h4⟩
theorem findX_use {kd:Bool} {g:Gm} {h:Hd} {f:Int} (hw:hWf h) (e:0<=findX kd g h f):(useX kd g h (findX kd g h f) true).2=0/\findX kd g h f<128:=by
 cases kd with
 | true =>
  obtain ⟨h1,h2⟩:=findBk_use (g:=g) hw e
  refine ⟨h1,?_⟩
  have e:0<=findBk g h f:=e
  show findBk g h f<128
  by_cases ho:hOk g h=true
  ·obtain ⟨g1,_⟩:=hOk_iff.1 ho
   obtain ⟨_,g2,_⟩:=gOk_iff.1 g1
   omega
  ·unfold findBk at e; rw [if_neg ho] at e; omega
 | false =>
  obtain ⟨h1,h2⟩:=findSl_use (g:=g) hw e
  refine ⟨h1,?_⟩
  have e:0<=findSl g h f:=e
  show findSl g h f<128
  by_cases ho:hOk g h=true
  ·obtain ⟨g1,_⟩:=hOk_iff.1 ho
   obtain ⟨_,_,_,_,_,g2,_⟩:=gOk_iff.1 g1
   omega
  ·unfold findSl at e; rw [if_neg ho] at e; omega
theorem take_in (h:Ao R w a v d A) {kd t:Bool} {s p:Int} {k:Nat} {j:Int}:∀ {n:Nat},takeTo A.s.geo A.hs A.fz (findX kd A.s.geo) s p t n=some (k,j)->(k:Int)<A.s.geo.gs/\0<=j/\j<128/\A.fz k=false/\(useX kd A.s.geo (A.hs.getD k hZ) j true).2=0
 | 0,e=>by cases e
 | n+1,e=>by
  have e:(match takeTo A.s.geo A.hs A.fz (findX kd A.s.geo) s p t n with | some x=>some x | none=>takeAt A.s.geo A.hs A.fz (findX kd A.s.geo) s p t n)=some (k,j):=e
  cases ht:takeTo A.s.geo A.hs A.fz (findX kd A.s.geo) s p t n with
  | some x =>
   rw [ht] at e
   have e:x=(k,j):=by simpa using e
   rw [e] at ht
   exact take_in h ht
  | none =>
   rw [ht] at e
   have e:takeAt A.s.geo A.hs A.fz (findX kd A.s.geo) s p t n=some (k,j):=e
   unfold takeAt at e
   by_cases hf:A.fz (ringK A.s.geo s n)=true
   ·rw [if_pos hf] at e; cases e
   ·rw [if_neg hf] at e
    cases hx:A.hs[ringK A.s.geo s n]? with
    | none=>rw [hx] at e; cases e
    | some x =>
     rw [hx] at e
     simp only at e
     obtain ⟨h1,h2,h3,h4,h5⟩:=h.hds hx
     by_cases h0:0<=findX kd A.s.geo x (ringF p t n)
     ·rw [if_pos h0] at e
      cases e
      obtain ⟨u1,u2⟩:=findX_use h5 h0
      exact ⟨h1,h0,u2,by simpa using hf,by rw [h2]; exact u1⟩
     ·rw [if_neg h0] at e; cases e
def blockA (A:Az) (b:Int):Az×Int×Int×Int :=
 match takeTo A.s.geo A.hs A.fz (findX true A.s.geo) (spB A.s.geo b).1 (spB A.s.geo b).2.1 (spB A.s.geo b).2.2 A.s.geo.gs.toNat with
 | some x=>(sethA A x.1 (useX true A.s.geo (A.hs.getD x.1 hZ) x.2 true).1,2+x.1*A.s.geo.gr+x.2,(A.V.last:Int)+1,0)
 | none=>(A,0,0,26)
theorem takeA_eq (h:Ao R w a v d A) (kd t:Bool) (s p:Int):takeA kd A s p t=match takeTo A.s.geo A.hs A.fz (findX kd A.s.geo) s p t A.s.geo.gs.toNat with
 | some x=>(sethA A x.1 (useX kd A.s.geo (A.hs.getD x.1 hZ) x.2 true).1,((x.1:Int),x.2),(A.V.last:Int)+1,0)
 | none=>(A,(0,0),0,26):=by
 unfold takeA
 cases ht:takeTo A.s.geo A.hs A.fz (findX kd A.s.geo) s p t A.s.geo.gs.toNat with
 | none=>rfl
 | some x =>
  obtain ⟨_,_,_,_,e⟩:=take_in h (k:=x.1) (j:=x.2) ht
  simp only
  unfold turnA
  rw [if_neg (by rw [e]; exact fun e=>e rfl)]
theorem aBlock_c {b:Int} (h63:b<=9223372036854775807) (h:Ao R w a v d A) (hlast:A.V.last+1<=1000000)
  (hk:∀ w' R',Mod R w w'->Sb R R' w->Ao R' w' a v d (blockA A b).1->K (.tuple #[.int .i64 (blockA A b).2.1,.int .i64 (blockA A b).2.2.1,.int .i64 (blockA A b).2.2.2]) w') :
  Cal Tryz.prog F_alloc_Alloc_Block #[.pointer (some ⟨a,0,none⟩),.int .i64 b] w K:=by
 apply C_alloc_Alloc_Block
 unfold D_alloc_Alloc_Block
 have hg:=h.ok
 obtain ⟨s1,s2,s3,s4⟩:=spB_in hg b
 have hda:=h.dlt
 refine ff rfl (aBlk_c h63 h fun w1 m1=>⟨_,_,rfl,?_⟩)
 obtain ⟨w2,b1,b2,b3,b4⟩:=new_u (P:=Tryz.prog) (w:=w1) (T:=101) zero_spot
 obtain ⟨w3,c1,c2,c3,c4⟩:=b2.put (T:=101) (vs:=pV ((spB A.s.geo b).1,(spB A.s.geo b).2.1)) agg_spot rfl rfl (one_pV _)
 have z1:=m1.size
 have M3:Mod No w (Go.Den.drew w3):=(m1.no (b3.own c3 (Nat.le_refl _))).drew
 refine ⟨_,w2,b1,w3,c1,_,c2.drew.at.all agg_spot rfl,aBlocks_c fun w4 m4=>⟨_,rfl,(c2.drew.keep m4 id).at.all agg_spot rfl,?_⟩⟩
 have M4:=M3.no m4
 have q4:=c2.drew.keep m4 id
 have zq:=c2.drew.lt
 have z4:=m4.size
 have hq:w1.heap.size<w4.heap.size:=q4.lt
 refine take_c (h.nos M4) ⟨s1,s2⟩ ⟨s3,by omega⟩ hlast fun w5 R5 m5 s5 h5=>⟨_,_,_,rfl,?_⟩
 have nR:¬ R w1.heap.size:=fun e=>by have:=h.lt _ e; omega
 have nR5:¬ R5 w1.heap.size:=fun e=>by
  rcases s5 _ e with e | e
  ·exact nR e
  ·omega
 have M5:Mod R w w5:=(M4.mono fun _ _ e=>e.elim).trans m5 fun x _ e=>e
 have S5:Sb R R5 w:=s5.up (M4.size)
 have hT:=takeA_eq h true (spB A.s.geo b).2.2 (spB A.s.geo b).1 (spB A.s.geo b).2.1
 have z5:=m5.size
 obtain ⟨w6,e1,e2,e3,e4⟩:=(q4.keep m5 nR).put (T:=101) (vs:=pV (takeA true A (spB A.s.geo b).1 (spB A.s.geo b).2.1 (spB A.s.geo b).2.2).2.1) agg_spot rfl rfl (one_pV _)
 have h6:=h5.own e3 nR5 (by omega)
 have M6:Mod R w w6:=M5.trans e3 fun z hz e=>by have e:z=w1.heap.size:=e; omega
 refine ⟨w6,e1,?_⟩
 unfold blockA at hk
 rw [hT] at h6 e2 |-
 cases ht:takeTo A.s.geo A.hs A.fz (findX true A.s.geo) (spB A.s.geo b).1 (spB A.s.geo b).2.1 (spB A.s.geo b).2.2 A.s.geo.gs.toNat with
 | none =>
  rw [ht] at hk h6
  exact tt rfl (hk w6 R5 M6 S5 h6)
 | some x =>
  rw [ht] at hk h6 e2
  obtain ⟨i1,i2,i3,_,_⟩:=take_in h (k:=x.1) (j:=x.2) ht
  obtain ⟨p1,p2,p3⟩:=head_pos hg i1
  have hsz:=gSize_b (g:=A.s.geo)
  refine ff rfl ⟨_,rfl,_,(h6.nos (Mod.refl _ _).drew).pv,_,e2.drew.at.fld (v:=.int .i64 (x.1:Int)) sc_int rfl,aGeo_c (h6.nos (Mod.refl _ _).drew) fun w7 m7=>⟨_,rfl,(e2.drew.keep m7 id).at.fld (v:=.int .i64 (x.1:Int)) sc_int rfl,geoHead_c fun w8 m8=>⟨_,_,rfl,_,((e2.drew.keep m7 id).keep m8 id).at.fld (v:=.int .i64 x.2) sc_int rfl,?_⟩⟩⟩
  have eg:gHead (sethA A x.1 (useX true A.s.geo (A.hs.getD x.1 hZ) x.2 true).1).s.geo x.1=(2+x.1*A.s.geo.gr,0):=p1
  rw [eg,wrap64 (x:=2+(x.1:Int)*A.s.geo.gr+x.2) (by omega) (by omega)]
  have m68:Mod No w6 w8:=((Mod.refl No w6).drew.no m7).no m8
  exact hk w8 R5 (M6.no m68) S5 (h6.nos m68)
end
end Go.Proofs.YtelhlihjihklbaaGreat
end
section
open Go Go.Den Go.Proofs
namespace Go.Proofs.YtelhlihjihklbaaGreat
theorem choose_ok {xs ys:List UInt8} {n:Int} (h:(supChoose xs ys n).2.2=0):sOk (supChoose xs ys n).1=true/\gSize (supChoose xs ys n).1.geo<=n:=by
 have pick:∀ (i:Int) (zs:List UInt8) (b:Sp),(sOk b=true/\gSize b.geo<=n)\/b=sZ->(sOk (supPick i zs n b)=true/\gSize (supPick i zs n b).geo<=n)\/supPick i zs n b=sZ:=by
  intro i zs b hb
  unfold supPick
  split
  ·rename_i h
   exact .inl ⟨(supG_ok h.1).1,h.2.2.1⟩
  ·exact hb
 have hb:=pick 1 ys _ (pick 0 xs sZ (.inr rfl))
 unfold supChoose at *
 by_cases e:supBest xs ys n=sZ
 ·rw [if_pos e] at h; cases h
 ·rw [if_neg e]
  exact hb.resolve_right e
theorem mnt_ok {D:St} (h:(mntS D).2.2=0):gOk (mntS D).1.geo=true/\gSize (mntS D).1.geo<=D.vs.length/\1<=(mntS D).1.gen:=by
 have:=choose_ok h
 exact ⟨(sOk_iff.1 this.1).2,this.2,(sOk_iff.1 this.1).1.1⟩
theorem mnt_no {D:St} (h:(mntS D).2.2=0) (h2:mntOk D (mntS D).1.geo=false):mnt D=(sZ,8):=by
 unfold mnt
 rw [if_neg (by omega),if_neg (by rw [h2]; decide)]
theorem mnt_yes {D:St} (h:(mntS D).2.2=0) (h2:mntOk D (mntS D).1.geo=true):mnt D=((mntS D).1,0):=by
 unfold mnt
 rw [if_neg (by omega),if_pos h2]
theorem build_work:Al (Instr.build 201 #[]) (.agg ⟨[.slice none 0 0]⟩):=fun w=>by kernel_rfl
theorem build_vol (s:Sp) (sp wk:Nat):Al (Instr.build 145 #[(0,.agg ⟨sV s⟩),(1,.pointer (some ⟨sp,0,none⟩)),(2,.pointer (some ⟨wk,0,none⟩)),(3,.int .i64 0)]) (.agg ⟨vV s sp wk 0⟩):=fun w=>by kernel_rfl
section
variable {w0 wb w w':World} {R R0:Nat->Prop} {N v d sb mb sc:Nat} {L:List (Int×Value)} {s:Sp} {D:St} {V:Ps} {nx:Int} {K:Value->World->Prop}
theorem ReadC_c (h:DiskIn w R d sb mb sc L D) (hs:Small D) {n:Int} (hk:∀ w' a c,Mod No w w'->Fresh w w' a (rdB D n)->(rdB D n).length<=c->K (.tuple #[.slice a (rdB D n).length c,.int .i64 (errOf D n)]) w'):Cal Tryz.prog F_disk_Disk_Read #[.pointer (some ⟨d,0,none⟩),.int .i64 n] w K:=by
 apply C_disk_Disk_Read
 unfold D_disk_Disk_Read
 refine may_c h ⟨_,rfl,?_⟩
 rcases err_cases (D:=D) n with ⟨he,_⟩ | ⟨he,i,v,rfl,hv,hver⟩
 ·have hb:rdB D n=[]:=by unfold rdB; rw [if_neg (by omega)]
  refine tt (by rw [he]; rfl) ?_
  have:=hk w none 0 (Mod.refl _ _) (.inl ⟨rfl,hb⟩) (by rw [hb]; exact Nat.le_refl _)
  rw [hb] at this; exact this
 ·have hb:rdB D i=lastV v:=by unfold rdB; rw [if_pos he,hver]
  have hll:=h.wf.lastLen hv
  refine ff (by rw [he]; rfl) (last_c h hv (hs v (List.mem_of_getElem? hv)) fun w2 m2=>⟨_,rfl,_,_,alloc_block w2,_,store_new agg_block (by rw [length_u8L,List.length_replicate]) (by simp [hll]) (one_u8L _),_,_,_,slice_block _,?_⟩)
  have:=hk (w2.alloc (.cells ⟨u8L (lastV v)⟩ 278)) (some ⟨w2.heap.size,0,none⟩) 256 (m2.alloc _) (.inr ⟨w2.heap.size,rfl,m2.size,by rw [hb]; exact AtU.new⟩) (by rw [hb,hll]; exact Nat.le_refl _)
  rw [hb,hll,he] at this; exact this
theorem diskV (h:Pz w0 R w v d V):∃ R4 sb mb sc L,DiskIn w R4 d sb mb sc L V.C.D/\Small V.C.D:=by
 obtain ⟨C,eD,eM,hw,rl,c,mo,mm,ca,oa,Lo,Lm,h⟩:=h
 obtain ⟨rl2,m,sb,mb,sc,lc,la,L,mp,hC⟩:=h.cx
 have hD:Ps.C (⟨C,V.last,V.ons⟩:Ps)=C:=rfl
 have hd:=hC.disk
 have hs:=hC.wf.small
 rw [hD,eD] at hd hs
 exact ⟨_,sb,mb,sc,L,hd,hs⟩
theorem Vg.comp {R':Nat->Prop} {w1:World} (h2:∀ x,R' x->R0 x\/wb.heap.size<=x) (hm:Mod R0 wb w1) (k:Vg w1 R' N w' v d s D nx):Vg wb R0 N w' v d s D nx:=by
 obtain ⟨R,sp,wk,k,w0,h1,hv,h3,h4,h5,h6,h7,h8,h9⟩:=k
 have hz:=hm.size
 refine ⟨R,sp,wk,k,w0,h1,hv,⟨h3.1,h3.2.1,h3.2.2.1,?_⟩,fun x hx=>⟨?_,(h4 x hx).2⟩,hm.trans h5 fun x hx e=>(h2 x e).resolve_right (by omega),h6,by omega,h8,h9⟩
 ·rcases h3.2.2.2 with e | e
  ·exact h2 v e
  ·exact .inr (by omega)
 ·rcases (h4 x hx).1 with e | e
  ·exact h2 x e
  ·exact .inr (by omega)
theorem rdB_le (h:WF D) (n:Int):(rdB D n).length<=256:=by
 rcases err_cases (D:=D) n with ⟨he,_⟩ | ⟨he,i,v,rfl,hv,hver⟩
 ·unfold rdB; rw [if_neg (by omega)]; simp
 ·unfold rdB; rw [if_pos he,hver,h.lastLen hv]; exact Nat.le_refl _
set_option maxRecDepth 8000 in
theorem vMount_c (h:DiskIn w R d sb mb sc L D) (hsm:Small D) (hlo:∀ x,R x->w0.heap.size<=x/\x<w.heap.size) (hm0:Mod No w0 w) (hrun:D.left=-1)
  (hk0:(mnt D).2≠0->∀ w',Mod R w w'->K (.tuple #[.pointer none,.int .i64 (mnt D).2]) w')
  (hk:(mnt D).2=0->∀ w' N v,Vg w R N w' v d (mnt D).1 D (nextTo D (mnt D).1.geo (gSlots (mnt D).1.geo).toNat+1)->K (.tuple #[.pointer (some ⟨v,0,none⟩),.int .i64 0]) w') :
  Cal Tryz.prog F_vol_Mount #[.pointer (some ⟨d,0,none⟩)] w K:=by
 have hlen:=h.wf.lo
 have hhi:=h.wf.hi
 have hwf:=h.wf
 apply C_vol_Mount
 unfold D_vol_Mount
 refine Len_c h ⟨_,rfl,?_⟩
 have e1:(if (1:Int) > (D.vs.length:Int) then (1:Int) else (D.vs.length:Int))=(D.vs.length:Int):=by rw [if_neg (by omega)]
 rw [e1]
 refine qNew_c h hsm hlo hm0 hrun hlen hhi (Nat.le_refl _) fun w2 sp m2 P2=>⟨_,_,rfl,ff rfl ?_⟩
 obtain ⟨R4,sb4,mb4,sc4,L4,hd2,hs2⟩:=diskV P2
 refine ReadC_c hd2 hs2 (n:=0) fun w3 a3 c3 m3 f3 hc3=>⟨_,_,_,_,rfl,?_⟩
 refine ReadC_c (hd2.nos m3) hs2 (n:=1) fun w4 a4 c4 m4 f4 hc4=>⟨_,_,_,_,rfl,?_⟩
 have M24:Mod No w2 w4:=m3.no m4
 refine Len_c (hd2.nos M24) ⟨_,rfl,?_⟩
 have l3:=rdB_le hwf 0
 have l4:=rdB_le hwf 1
 refine supChoose_c (xs:=rdB D 0) (ys:=rdB D 1) rfl hc3 (f3.nos m4).row (by show (rdB D 0).length<=_; omega) rfl hc4 f4.row (by show (rdB D 1).length<=_; omega) fun w6 m6=>⟨_,_,_,rfl,?_⟩
 have M26:=M24.no m6
 show ∃ q10:Addr,_
 obtain ⟨w7,b1,b2,b3,b4⟩:=new_u (P:=Tryz.prog) (w:=w6) (T:=143) zero_sup
 obtain ⟨w8,c1,c2,c3',c4'⟩:=b2.put (T:=143) (vs:=sV (mntS D).1) agg_sup rfl rfl (one_sV _)
 have m8:Mod No w6 w8:=b3.own c3' (Nat.le_refl _)
 refine ⟨_,w7,b1,w8,c1,?_⟩
 rw [bneI]
 refine cond_of (fun he=>?_) (fun he=>?_)
 ·have he:(mntS D).2.2≠0:=of_decide_eq_true he
  have e:mnt D=(sZ,(mntS D).2.2):=by unfold mnt; rw [if_pos he]
  have:=hk0 (by rw [e]; exact he) w8 (((m2.no M26).no m8).mono fun _ _ h=>h.elim)
  rw [e] at this
  exact this
 have he:(mntS D).2.2=0:=Classical.not_not.1 (of_decide_eq_false he)
 obtain ⟨hg,hsz,hgen⟩:=mnt_ok he
 have m8d:Mod No w6 (Go.Den.drew w8):=m8.drew
 refine ⟨_,c2.drew.at.all agg_sup rfl,?_⟩
 apply C_push_New
 unfold D_push_New
 obtain ⟨w9,p1,p2,p3,p4⟩:=box_u (P:=Tryz.prog) (w:=Go.Den.drew w8) (T:=201) (cs:=[.slice none 0 0])
 have q9:AtU w9 w6.heap.size 0 (sV (mntS D).1):=c2.drew.keep p3 id
 refine ⟨_,build_work,_,w9,p1,_,rfl,q9.at.all agg_sup rfl,_,build_vol _ _ _,?_⟩
 obtain ⟨w10,v1,v2,v3,v4⟩:=box_u (P:=Tryz.prog) (w:=w9) (T:=145) (cs:=vV (mntS D).1 sp (Go.Den.drew w8).heap.size 0)
 refine ⟨_,w10,v1,?_⟩
 have M69:Mod No w6 w9:=m8d.no p3
 have M29:Mod No w2 w9:=M26.no M69
 have M210:Mod No w2 w10:=M29.no v3
 have hz2:=m2.size
 have hz6:=M26.size
 have hz9:=M29.size
 have hz69:=M69.size
 have hz0:=hm0.size
 have hlt6:=c2.lt
 have hz8:w8.heap.size<=w9.heap.size:=p3.size
 have hG:∀ x,Gro R w w2 x->x<w2.heap.size:=fun x hx=>by
  rcases hx with hx | hx
  ·have:=(hlo x hx).2; omega
  ·omega
 have X10:Vg w9 (Gro R w w2) w10.heap.size w10 w9.heap.size d (mntS D).1 D 0 :=
  ⟨Gro R w w2,sp,_,_,w0,P2.nos M210,v2,⟨fun e=>by have:=hG _ e; omega,by omega,by omega,.inr (Nat.le_refl _)⟩,fun x hx=>⟨.inl hx,by have:=hG _ hx; omega⟩,v3.mono fun _ _ h=>h.elim,Nat.le_refl _,by omega,by omega,p2.keep v3 id,fun e=>by have:=hG _ e; have:(Go.Den.drew w8).heap.size=w8.heap.size:=rfl; omega,(by have:=p2.lt; omega),(by show _<=w8.heap.size; omega),(by have:=p2.lt; omega),(by show d<=w8.heap.size; have:=(hlo d h.rb).2; omega),(by have:=(hlo d h.rb).2; omega)⟩
 have hq:∀ {w':World} {N:Nat} {nx:Int},Vg w9 (Gro R w w2) N w' w9.heap.size d (mntS D).1 D nx->AtU w' w6.heap.size 0 (sV (mntS D).1):=fun X=>q9.keep X.mod fun e=>by have:=hG _ e; omega
 have back:∀ x,Gro R w w2 x->R x\/w.heap.size<=x:=fun x hx=>by
  rcases hx with hx | hx
  ·exact .inl hx
  ·exact .inr hx.1
 have bm:Mod R w w9:=(m2.no M29).mono fun _ _ h=>h.elim
 have hno:∀ {w':World} {N:Nat} {nx:Int},Vg w9 (Gro R w w2) N w' w9.heap.size d (mntS D).1 D nx->mntOk D (mntS D).1.geo=false->∀ w'',Mod No w' w''->K (.tuple #[.pointer none,.int .i64 8]) w'':=fun X hf w'' m=>by
  have e:=mnt_no he hf
  have:=hk0 (by rw [e]; decide) w'' ((X.comp back bm).mod.no m)
  rw [e] at this
  exact this
 obtain ⟨g1,g2,g3,g4,g5,g6,g7,g8,g9⟩:=gOk_iff.1 hg
 refine ⟨_,(hq X10).at.fld2 sc_int rfl,?_⟩
 refine ⟨fun x w11=>∃ (k N:Nat) (y:Value),(k:Int)<=(mntS D).1.geo.gs/\x=[.int .i64 k,y]/\Vg w9 (Gro R w w2) N w11 w9.heap.size d (mntS D).1 D 0/\∀ j,j<k->headOk D (mntS D).1.geo j=true,fun x _=>((mntS D).1.geo.gs-nI x 0).toNat,
  ⟨0,_,undef,by omega,rfl,X10,fun j hj=>by omega⟩,?_⟩
 rintro x w11 ⟨k,N,y,hk2,rfl,X11,hh⟩
 refine ⟨_,rfl,cond_of (fun hl=>?_) (fun hl=>?_)⟩
 ·have hl:(k:Int)<(mntS D).1.geo.gs:=of_decide_eq_true hl
  refine vHead_c X11 hsz fun w12 X12=>⟨_,_,rfl,?_⟩
  obtain ⟨w13,s1,s2,s3,s4⟩:=new_u (P:=Tryz.prog) (w:=w12) (T:=119) zero_head
  have hwd:=headAt_wf D (mntS D).1.geo k
  obtain ⟨w14,t1,t2,t3,t4⟩:=s2.put (T:=119) (vs:=hV (headAt D (mntS D).1.geo k).1) agg_head rfl (hV_len hwd) (one_hV _)
  have m14:Mod No w12 w14:=s3.own t3 (Nat.le_refl _)
  refine ⟨_,w13,s1,w14,t1,?_⟩
  refine Share.cut (fun z w15=>z=[.bool (!headOk D (mntS D).1.geo k)]/\w15=w14) ?_ ?_
  ·rw [bneI]
   refine cond_of (fun hp=>⟨?_,rfl⟩) (fun hp=>⟨_,t2.at.fld (v:=.int .i64 (headAt D (mntS D).1.geo k).1.no) sc_int rfl,?_,rfl⟩)
   ·have hp:=of_decide_eq_true hp
    have:headOk D (mntS D).1.geo k=false:=by unfold headOk; rw [decide_eq_false fun e=>hp e.1]
    rw [this]; rfl
   ·have hp:=Classical.not_not.1 (of_decide_eq_false hp)
    rw [bneI]
    congr 2
    unfold headOk
    by_cases e:(headAt D (mntS D).1.geo k).1.no=k
    ·rw [decide_eq_false (fun x=>x e),decide_eq_true ⟨hp,e⟩]; rfl
    ·rw [decide_eq_true e,decide_eq_false fun x=>e x.2]; rfl
  rintro z w15 ⟨rfl,rfl⟩
  refine ⟨_,rfl,cond_of (fun hp=>?_) (fun hp=>?_)⟩
  ·refine hno X12 ?_ w15 m14
   unfold mntOk
   rw [Bool.and_eq_false_iff]
   left
   rw [List.all_eq_false]
   exact ⟨k,List.mem_range.2 (by omega),by simpa using hp⟩
  ·have hp:headOk D (mntS D).1.geo k=true:=by simpa using hp
   rw [wrap64 (x:=(k:Int)+1) (by omega) (by omega)]
   exact ⟨⟨k+1,_,_,by omega,rfl,X12.nos m14,fun j hj=>by
    by_cases e:j=k
    ·rw [e]; exact hp
    ·exact hh j (by omega)⟩,by simp [nI,nth]; omega⟩
 have hl:(k:Int)=(mntS D).1.geo.gs:=by have:=of_decide_eq_false hl; omega
 refine vInode_c (by omega) X11 hsz fun w16 X16=>⟨_,_,rfl,?_⟩
 obtain ⟨w17,s1,s2,s3,s4⟩:=new_u (P:=Tryz.prog) (w:=w16) (T:=218) zero_ino
 have hwd:=slotAt_wf D (mntS D).1.geo 1
 obtain ⟨w18,t1,t2,t3,t4⟩:=s2.put (T:=218) (vs:=nV (slotAt D (mntS D).1.geo 1).1) agg_ino rfl (nV_len hwd) (one_nV _)
 have m18:Mod No w16 w18:=s3.own t3 (Nat.le_refl _)
 refine ⟨_,w17,s1,w18,t1,?_⟩
 refine Share.cut (fun z w19=>z=[.bool (!rootOk D (mntS D).1.geo)]/\w19=w18) ?_ ?_
 ·rw [bneI]
  refine cond_of (fun hp=>⟨?_,rfl⟩) (fun hp=>⟨_,t2.at.fld (v:=.int .i64 (slotAt D (mntS D).1.geo 1).1.kind) sc_int rfl,?_,rfl⟩)
  ·have hp:=of_decide_eq_true hp
   have:rootOk D (mntS D).1.geo=false:=by unfold rootOk; rw [decide_eq_false fun e=>hp e.1]
   rw [this]; rfl
  ·have hp:=Classical.not_not.1 (of_decide_eq_false hp)
   rw [bneI]
   congr 2
   unfold rootOk
   by_cases e:(slotAt D (mntS D).1.geo 1).1.kind=2
   ·rw [decide_eq_false (fun x=>x e),decide_eq_true ⟨hp,e⟩]; rfl
   ·rw [decide_eq_true e,decide_eq_false fun x=>e x.2]; rfl
 rintro z w19 ⟨rfl,rfl⟩
 refine ⟨_,rfl,cond_of (fun hp=>?_) (fun hp=>?_)⟩
 ·refine hno X16 ?_ w19 m18
  unfold mntOk
  rw [Bool.and_eq_false_iff]
  right
  simpa using hp
 have hp:rootOk D (mntS D).1.geo=true:=by simpa using hp
 have hok:mntOk D (mntS D).1.geo=true:=by
  unfold mntOk
  rw [hp,Bool.and_true,List.all_eq_true]
  intro j hj
  exact hh j (by have:=List.mem_range.1 hj; omega)
 have eM:=mnt_yes he hok
 have X19:=X16.nos m18
 refine ⟨_,(hq X19).at.fldA agg_geo (by show 4<=4; omega) rfl,geoSlots_c fun w20 m20=>⟨_,rfl,?_⟩⟩
 have hsl:=gSlots_b (g:=(mntS D).1.geo)
 refine ⟨fun x w21=>∃ n N:Nat,(n:Int)<=gSlots (mntS D).1.geo/\x=[.int .i64 n]/\Vg w9 (Gro R w w2) N w21 w9.heap.size d (mntS D).1 D (nextTo D (mntS D).1.geo n),fun x _=>(gSlots (mntS D).1.geo-nI x 0).toNat,
  ⟨0,_,by omega,rfl,X19.nos m20⟩,?_⟩
 rintro x w21 ⟨n,N,hn,rfl,X21⟩
 refine ⟨_,rfl,cond_of (fun hl2=>?_) (fun hl2=>?_)⟩
 ·have hl2:(n:Int)<gSlots (mntS D).1.geo:=of_decide_eq_true hl2
  refine vInode_c (by omega) X21 hsz fun w22 X22=>⟨_,_,rfl,?_⟩
  obtain ⟨w23,s1,s2,s3,s4⟩:=new_u (P:=Tryz.prog) (w:=w22) (T:=218) zero_ino
  have hwd:=slotAt_wf D (mntS D).1.geo n
  obtain ⟨w24,t1,t2,t3,t4⟩:=s2.put (T:=218) (vs:=nV (slotAt D (mntS D).1.geo n).1) agg_ino rfl (nV_len hwd) (one_nV _)
  have m24:Mod No w22 w24:=s3.own t3 (Nat.le_refl _)
  have X24:=(X22.nos m24).nos (Mod.refl No w24).drew
  obtain ⟨w25,u1,u2⟩:=X24.set (if (slotAt D (mntS D).1.geo n).1.id > nextTo D (mntS D).1.geo n then (slotAt D (mntS D).1.geo n).1.id else nextTo D (mntS D).1.geo n)
  refine ⟨_,w23,s1,w24,t1,_,rfl,_,X24.next,_,t2.drew.at.fld (v:=.int .i64 (slotAt D (mntS D).1.geo n).1.id) sc_i64 rfl,_,rfl,w25,u1,?_⟩
  rw [wrap64 (x:=(n:Int)+1) (by omega) (by omega)]
  exact ⟨⟨n+1,_,by omega,rfl,u2⟩,by simp [nI,nth]; omega⟩
 have hl2:(n:Int)=gSlots (mntS D).1.geo:=by have:=of_decide_eq_false hl2; omega
 have hnb:=nextTo_b D (mntS D).1.geo n
 have hnn:=nextTo_nn D (mntS D).1.geo n
 obtain ⟨w26,u1,u2⟩:=X21.set (nextTo D (mntS D).1.geo n+1)
 refine ⟨_,rfl,_,X21.next,_,rfl,w26,?_,?_⟩
 ·rw [wrap64 (by omega) (by omega)]; exact u1
 have:=hk (by rw [eM]) w26 N w9.heap.size
 rw [eM] at this
 refine this ?_
 show Vg w R N w26 w9.heap.size d (mntS D).1 D (nextTo D (mntS D).1.geo (gSlots (mntS D).1.geo).toNat+1)
 rw [<- hl2,Int.toNat_natCast]
 exact u2.comp back bm
end
end Go.Proofs.YtelhlihjihklbaaGreat
end
section
open Go Go.Den Go.Proofs
namespace Go.Proofs.YtelhlihjihklbaaGreat
def gKn:Gm:=⟨16,8,2⟩
end Go.Proofs.YtelhlihjihklbaaGreat
end
section
open Go Go.Den Go.Proofs
namespace Go.Proofs.YtelhlihjihklbaaGreat
def takenA (A:Az) (b:Int):Bool:=(spB A.s.geo b).2.2&&bitB (A.hs.getD (spB A.s.geo b).1.toNat hZ).bs (spB A.s.geo b).2.1.toNat
theorem build_alloc (w:World) (p:Option Addr) (m:Option Nat):(Instr.build 99 #[(0,.pointer p),(1,.map m)]).run Tryz.prog w=.ok (.agg ⟨[.pointer p,.map m]⟩) w:=by kernel_rfl
section
variable {w wb w':World} {R R0 R':Nat->Prop} {N a v d:Nat} {A:Az} {s:Sp} {D:St} {V:Ps} {W:List Wt} {nx:Int} {hs:List Hd} {K:Value->World->Prop}
theorem Vg.vu (h:Vg wb R0 N w v d s D nx):∃ R k,Vu R w v d s ⟨⟨D,k,[]⟩,0,[]⟩ [] nx/\∀ z,R z->R0 z\/wb.heap.size<=z\/d<=z:=by
 obtain ⟨R1,sp,wk,k,w0,h1,h2,h3,h4,h5,h6,h7,h8,c1,c2,c3,c4,c5,c6,c7⟩:=h
 have z2:=h2.lt
 refine ⟨fun z=>R1 z\/z=wk\/z=v,k,⟨w0,R1,fun z=>z=wk,sp,wk,⟨h1,h2,⟨none,0,⟨c1,Ow.nilG elemG_waits,(fun _ e=>by cases e),fun e=>e.2 rfl⟩⟩,fun z hz e=>c2 (e ▸ hz),⟨h3.1,fun e=>c3 e.symm⟩,fun z hz=>?_⟩,fun z hz=>hz,fun z hz=>?_⟩,fun z hz=>?_⟩
 ·rcases hz with rfl | rfl
  ·exact ⟨c6,by omega⟩
  ·exact ⟨c7,z2⟩
 ·rcases hz with hz | rfl | rfl
  ·have:=(h4 z hz).2; omega
  ·omega
  ·exact z2
 ·rcases hz with hz | rfl | rfl
  ·exact (h4 z hz).1.imp id .inl
  ·exact .inr (.inr c6)
  ·exact .inr (.inr c7)
theorem aNew_c (h:Vu R w v d s V W nx) (hH:HdsAt V s.geo hs) (hk:∀ w' R' a,Mod No w w'->Sb R R' w->Ao R' w' a v d ⟨s,V,W,nx,hs,fun _=>false⟩->w.heap.size<=a->K (.pointer (some ⟨a,0,none⟩)) w') :
  Cal Tryz.prog F_alloc_New #[.pointer (some ⟨v,0,none⟩)] w K:=by
 apply C_alloc_New
 unfold D_alloc_New
 have hdl:=h.dlo
 have hvl:=h.lt v h.rv
 have m1:Mod No w (w.alloc (.map #[] 0)):=(Mod.refl No w).alloc _
 have p1:MapAt (w.alloc (.map #[] 0)) w.heap.size []:=MapAt.new
 have s1:(w.alloc (.map #[] 0)).heap.size=w.heap.size+1:=by simp
 refine ff rfl ⟨_,_,makeMap_run,_,fun w=>build_alloc w _ _,?_⟩
 generalize w.alloc (.map #[] 0)=w1 at *
 obtain ⟨w2,c1,c2,c3,c4⟩:=box_u (P:=Tryz.prog) (w:=w1) (T:=99) (cs:=[.pointer (some ⟨v,0,none⟩),.map (some w.heap.size)])
 refine ⟨_,w2,c1,hk w2 (fun z=>R z\/z=w1.heap.size\/z=w.heap.size) _ (m1.no c3) (fun z hz=>?_) ⟨R,w.heap.size,[],h.nos (m1.no c3),c2,p1.keep c3 id,fun k=>rfl,⟨fun e=>?_,fun e=>?_,by omega,by omega,by omega⟩,fun z hz=>hz,fun z hz=>?_,hH⟩ (by omega)⟩
 ·rcases hz with hz | rfl | rfl
  ·exact .inl hz
  ·exact .inr (by omega)
  ·exact .inr (Nat.le_refl _)
 ·have:=h.lt _ e; omega
 ·have:=h.lt _ e; omega
 ·rcases hz with hz | rfl | rfl
  ·have:=h.lt _ hz; omega
  ·omega
  ·omega
theorem aVol_c (h:Ao R w a v d A) (hk:K (.pointer (some ⟨v,0,none⟩)) w):Cal Tryz.prog F_alloc_Alloc_Vol #[.pointer (some ⟨a,0,none⟩)] w K:=by
 apply C_alloc_Alloc_Vol
 unfold D_alloc_Alloc_Vol
 exact ff rfl ⟨_,rfl,_,h.pv,hk⟩
set_option maxRecDepth 4000 in
theorem aTaken_c {b:Int} (h63:b<=9223372036854775807) (h:Ao R w a v d A) (hk:∀ w' R',Mod R w w'->Sb R R' w->Ao R' w' a v d A->K (.bool (takenA A b)) w') :
  Cal Tryz.prog F_alloc_Alloc_Taken #[.pointer (some ⟨a,0,none⟩),.int .i64 b] w K:=by
 have hg:=h.ok
 obtain ⟨s1,s2,s3,s4⟩:=spB_in hg b
 obtain ⟨k,hkk⟩:=Int.eq_ofNat_of_zero_le s1
 obtain ⟨j,hj⟩:=Int.eq_ofNat_of_zero_le s3
 have hk0:(k:Int)<A.s.geo.gs:=by omega
 have j128:j<128:=by omega
 obtain ⟨x,hx1,hx2,hx3,hx4,hx5⟩:=h.hdOf hk0
 have hT:takenA A b=((spB A.s.geo b).2.2&&bitB x.bs j):=by unfold takenA; rw [hkk,hj,Int.toNat_natCast,Int.toNat_natCast,hx2]
 rw [hT] at hk
 apply C_alloc_Alloc_Taken
 unfold D_alloc_Alloc_Taken
 have hda:=h.dlt
 refine ff rfl (aBlk_c h63 h fun w1 m1=>⟨_,_,rfl,?_⟩)
 rw [hkk,hj] at *
 generalize (spB A.s.geo b).2.2=t at *
 obtain ⟨w2,b1,b2,b3,b4⟩:=new_u (P:=Tryz.prog) (w:=w1) (T:=101) zero_spot
 obtain ⟨w3,c1,c2,c3,c4⟩:=b2.put (T:=101) (vs:=pV ((k:Int),(j:Int))) agg_spot rfl rfl (one_pV _)
 have z1:=m1.size
 have m3:Mod No w (Go.Den.drew w3):=(m1.no (b3.own c3 (Nat.le_refl _))).drew
 have h3:=h.nos m3
 have q1:AtU (Go.Den.drew w3) w1.heap.size 0 (pV ((k:Int),(j:Int))):=c2.drew
 have zq:=q1.lt
 have z3:=m3.size
 have n1:¬ R w1.heap.size:=fun e=>by have:=h.lt _ e; omega
 refine ⟨_,w2,b1,w3,c1,_,rfl,_,h3.pv,_,q1.at.fld (v:=.int .i64 (k:Int)) sc_int rfl,?pA,?pB⟩
 case' pA =>
  refine aHead_c h3 fun w4 R3 m4 s4 h4 _=>?_
  rw [hx1]
  have z4:=m4.size
  obtain ⟨w5,d1,d2,d3,d4⟩:=new_u (P:=Tryz.prog) (w:=w4) (T:=119) zero_head
  obtain ⟨w6,e1,e2,e3,e4⟩:=d2.put (T:=119) (vs:=hV x) agg_head rfl (hV_len hx5) (one_hV _)
  have T1:Mod R w w6:=(m3.mono fun _ _ e=>e.elim).trans (m4.no (d3.own e3 (Nat.le_refl _))) fun x _ e=>e
  have T2:Sb R R3 w:=s4.up z3
  have T3:Ao R3 w6 a v d A:=h4.nos (d3.own e3 (Nat.le_refl _))
  have q14:=(q1.keep m4 n1).keep d3 id
  have T5:AtU w6 w1.heap.size 0 (pV ((k:Int),(j:Int))):=q14.keep e3 (fun e=>by have e:w1.heap.size=w4.heap.size:=e; omega)
  refine ⟨_,_,rfl,_,w5,d1,(h4.nos d3).pv,q14.at.fld (v:=.int .i64 (k:Int)) sc_int rfl,w6,e1,?_⟩
  generalize w4.heap.size=q at *
 case' pB =>
  obtain ⟨w5,d1,d2,d3,d4⟩:=new_u (P:=Tryz.prog) (w:=Go.Den.drew w3) (T:=119) zero_head
  refine ⟨_,w5,d1,(h3.nos d3).pv,(q1.keep d3 id).at.fld (v:=.int .i64 (k:Int)) sc_int rfl,aHead_c (h3.nos d3) fun w4 R3 m4 s4 h4 _=>?_⟩
  rw [hx1]
  have z4:=m4.size
  have nq:¬ R (Go.Den.drew w3).heap.size:=fun e=>by have:=h.lt _ e; omega
  have nq3:¬ R3 (Go.Den.drew w3).heap.size:=fun e=>by
   rcases s4 _ e with e | e
   ·exact nq e
   ·omega
  obtain ⟨w6,e1,e2,e3,e4⟩:=(d2.keep m4 nq).put (T:=119) (vs:=hV x) agg_head rfl (hV_len hx5) (one_hV _)
  have T1:Mod R w w6:=(((m3.no d3).mono fun _ _ e=>e.elim).trans m4 fun x _ e=>e).trans e3 fun x hx e=>by have e:x=(Go.Den.drew w3).heap.size:=e; omega
  have T2:Sb R R3 w:=s4.up (by omega)
  have T3:Ao R3 w6 a v d A:=h4.own e3 nq3 (by omega)
  have T5:AtU w6 w1.heap.size 0 (pV ((k:Int),(j:Int))):=((q1.keep d3 id).keep m4 n1).keep e3 (fun e=>by have e:w1.heap.size=(Go.Den.drew w3).heap.size:=e; omega)
  refine ⟨_,_,rfl,w6,e1,?_⟩
  generalize (Go.Den.drew w3).heap.size=q at *
 all_goals
  refine Share.cut (fun z w8=>z=[.bool (t&&bitB x.bs j)]/\Mod No w6 w8) ?_ ?_
  ·refine cond_of (fun ht=>tt rfl ?_) (fun ht=>⟨by rw [ht]; rfl,(Mod.refl _ _).drew⟩)
   rw [ht,Bool.true_and]
   have ad1:Addr.add ⟨q,0,none⟩ 1=⟨q,1,none⟩:=by rw [add_none]
   rw [ad1]
   have hb:=e2.drew.at.sub (i:=1) (m:=16) (by rw [hV_len hx5]; omega)
   rw [hV_dropb hx5] at hb
   exact ⟨_,_,_,sliceA_all arr16,_,T5.drew.at.fld (v:=.int .i64 (j:Int)) sc_int rfl,bitGet_c (xs:=x.bs) hx5.1 (.inr ⟨_,_,rfl,hb⟩) (by omega) (by omega) fun w7 m7=>⟨_,rfl,rfl,(Mod.refl _ _).drew.no m7⟩⟩
  rintro z w8 ⟨rfl,m8⟩
  exact ⟨_,rfl,hk w8 R3 (T1.no m8) T2 (T3.nos m8)⟩
-- of none
end
end Go.Proofs.YtelhlihjihklbaaGreat
end
section
open Go Go.Den Go.Proofs
namespace Go.Proofs.YtelhlihjihklbaaGreat
def incL (l:List (Int×Int)):List (Int×Int):=match l[l.length-1]? with
 | some x=>l.set (l.length-1) (x.1,x.2+1)
 | none=>l
def stepRun (st:List (Int×Int)×Bool) (b:Int) (tk:Bool):List (Int×Int)×Bool:=if tk=true then (st.1,false) else if st.2=true then (incL st.1,true) else (st.1++[(b,1)],true)
def runsTo (A:Az) (from':Int):Nat->List (Int×Int)×Bool
 | 0=>([],false)
 | i+1=>stepRun (runsTo A from' i) (from'+i) (takenA A (from'+i))
def cntG (g:Gm) (k:Int):Nat:=((gRange g k).2-(gRange g k).1).toNat
def runsA (A:Az) (k:Int):List (Int×Int):=(runsTo A (gRange A.s.geo k).1 (cntG A.s.geo k)).1
theorem incL_len (l:List (Int×Int)):(incL l).length=l.length:=by unfold incL; split <;> simp
theorem runsTo_ok (A:Az) (f:Int):∀ i:Nat,(runsTo A f i).1.length<=i/\((runsTo A f i).2=true->0<(runsTo A f i).1.length)/\∀ x∈(runsTo A f i).1,1<=x.2/\x.2<=i
 | 0=>⟨Nat.le_refl _,(fun h=>by cases h),(fun x h=>by cases h)⟩
 | i+1=>by
  obtain ⟨h1,h2,h3⟩:=runsTo_ok A f i
  have e:runsTo A f (i+1)=stepRun (runsTo A f i) (f+i) (takenA A (f+i)):=rfl
  rw [e]
  unfold stepRun
  split
  ·exact ⟨by show (runsTo A f i).1.length<=i+1; omega,(fun h=>by cases h),fun x hx=>by have:=h3 x hx; omega⟩
  split
  ·rename_i h4
   refine ⟨by rw [incL_len]; omega,fun _=>by rw [incL_len]; exact h2 h4,fun x hx=>?_⟩
   unfold incL at hx
   split at hx
   ·rename_i y hy
    rcases List.mem_or_eq_of_mem_set hx with hx | rfl
    ·have:=h3 x hx; omega
    ·have:=h3 y (List.mem_of_getElem? hy)
     simp only; omega
   ·have:=h3 x hx; omega
  ·refine ⟨by simp; omega,fun _=>by simp,fun x hx=>?_⟩
   rcases List.mem_append.1 hx with hx | hx
   ·have:=h3 x hx; omega
   ·have:x=(f+i,1):=by simpa using hx
    subst this
    simp only; omega
theorem rowC_set:∀ {L:List (Int×Int)} {i:Nat} {x:Int×Int} (v:Int),L[i]?=some x->(rowC L).set (i*2+1) (.int .i64 v)=rowC (L.set i (x.1,v))
 | [],i,x,v,h=>by simp at h
 | y::r,0,x,v,h=>by
  have h:y=x:=by simpa using h
  subst h; rfl
 | y::r,i+1,x,v,h=>by
  have h:r[i]?=some x:=by simpa using h
  have e:=rowC_set v h
  show (Value.int .i64 y.1::.int .i64 y.2::rowC r).set ((i+1)*2+1) (.int .i64 v)=Value.int .i64 y.1::.int .i64 y.2::rowC (r.set i (x.1,v))
  rw [show (i+1)*2+1=(i*2+1)+1+1 by omega,List.set_cons_succ,List.set_cons_succ,e]
theorem rowC_app (L M:List (Int×Int)):rowC (L++M)=rowC L++rowC M:=by simp [rowC]
theorem rowC_one (L:List (Int×Int)):∀ v∈rowC L,v.oneCell'=true:=flat_one acV_one L
theorem rowC_len (L:List (Int×Int)):(rowC L).length=L.length*2:=flat_len' acV_len L
theorem elemG_runs:elemG Tryz.prog 45 2 16:=elemG_of (by kernel_rfl)
theorem elemN_runs:elemN Tryz.prog 45=some 2:=by kernel_rfl
theorem agg_run:aggN Tryz.prog 57=some 2:=by kernel_rfl
theorem zero_run:zeroC Tryz.prog 57=some (acV (0,0)):=by kernel_rfl
theorem build_run (x y:Int):Al (Instr.build 57 #[(0,.int .i64 x),(1,.int .i64 y)]) (.agg ⟨acV (x,y)⟩):=fun w=>by kernel_rfl
theorem build_run0:Al (Instr.build 57 #[]) (.agg ⟨acV (0,0)⟩):=fun w=>by kernel_rfl
theorem built_run (w:World) (x:Int×Int):(Instr.buildSlice 45 1 #[(0,.agg ⟨acV x⟩)]).run Tryz.prog w=.ok (.slice (some ⟨w.heap.size,0,none⟩) 1 1) (w.alloc (.cells ⟨acV x⟩ 57)):=by kernel_rfl
theorem gRange_b {g:Gm} {k:Int}:0<=(gRange g k).1/\(gRange g k).1<=4200/\0<=(gRange g k).2/\(gRange g k).2<=4300/\(gRange g k).2-(gRange g k).1<=128/\0<=(gRange g k).2-(gRange g k).1:=by
 unfold gRange
 split
 ·exact ⟨Int.le_refl _,by decide,Int.le_refl _,by decide,by decide,by decide⟩
 ·rename_i h
  obtain ⟨hg,h0,h1,h2⟩:=gHead_ok (Classical.not_not.1 h)
  have hb:=gHead_b (g:=g) (k:=k)
  have ht:=gTabs_b (g:=g)
  have hte:=gTabs_eq hg
  obtain ⟨g1,g2,_,_,g5,g6,g7,g8,_⟩:=gOk_iff.1 hg
  simp only
  omega
section
variable {w w':World} {R R':Nat->Prop} {a v d:Nat} {A:Az} {K:Value->World->Prop}
theorem runAt {base c i:Nat} {p:Option Addr} {L:List (Int×Int)} {x:Int×Int} (h:Ow Tryz.prog w base 45 2 p L.length c (rowC L)) (hx:L[i]?=some x):∃ g,p=some ⟨g,0,none⟩/\base<=g/\AtU w g 0 (rowC L)/\Al (Instr.indexAt 45 (.slice p L.length c) (.int .i64 i)) (.pointer (some ⟨g,i*2,none⟩)) /\
  (∀ (w':World),At w' g 0 (rowC L)->Ru (Instr.loadAt 57 (.pointer (some ⟨g,i*2,none⟩))) w' (.agg ⟨acV x⟩) w')/\(∀ (w':World),At w' g 0 (rowC L)->Ru (Instr.loadAt 3 (.pointer (some (Addr.add ⟨g,i*2,none⟩ 0)))) w' (.int .i64 x.1) w') /\
  (∀ (w':World),At w' g 0 (rowC L)->Ru (Instr.loadAt 3 (.pointer (some (Addr.add ⟨g,i*2,none⟩ 1)))) w' (.int .i64 x.2) w'):=by
 have hi:=(List.getElem?_eq_some_iff.1 hx).1
 have hm:=h.cap
 obtain ⟨g,rfl,hg,hat⟩:=h.sm (by omega)
 have hlen:=rowC_len L
 refine ⟨g,rfl,hg,hat,fun w'=>?_,fun w' ha=>?_,fun w' ha=>?_,fun w' ha=>?_⟩
 ·have:=index_slice (P:=Tryz.prog) (T:=45) (k:=2) (a:=⟨g,0,none⟩) (n:=L.length) (c:=c) (kk:=.i64) (i:=i) elemN_runs (by omega) (by omega) w'
  rw [add_none,show 0+(i:Int).toNat*2=i*2 by omega] at this
  exact this
 ·have:=ha.loadAgg (P:=Tryz.prog) (T:=57) (i:=i*2) agg_run (by rw [hlen]; omega)
  rw [show ((rowC L).drop (i*2)).take 2=acV x from flat_drop acV_len hx,Nat.zero_add] at this
  exact this
 ·rw [add_none]
  have:=ha.load (P:=Tryz.prog) (T:=3) (i:=i*2+0) sc_int (v:=.int .i64 x.1) (flat_cell acV_len hx rfl)
  rw [Nat.zero_add] at this
  exact this
 ·rw [add_none]
  have:=ha.load (P:=Tryz.prog) (T:=3) (i:=i*2+1) sc_int (v:=.int .i64 x.2) (flat_cell acV_len hx rfl)
  rw [Nat.zero_add] at this
  exact this
theorem aFrozen_c {k:Int} (h:Ao R w a v d A) (hk:K (.bool (A.fz k)) w):Cal Tryz.prog F_alloc_Alloc_Frozen #[.pointer (some ⟨a,0,none⟩),.int .i64 k] w K:=by
 apply C_alloc_Alloc_Frozen
 unfold D_alloc_Alloc_Frozen
 obtain ⟨Rv,fm,L,_,k2,k3,k4,_⟩:=h
 have hl:=lookup_run (P:=Tryz.prog) (k:=k) mapFz k3
 rw [k4] at hl
 exact Share.dup (tt rfl ⟨_,rfl,_,k2.at.fld sc_fz rfl,_,hl,_,rfl,hk⟩)
set_option maxRecDepth 4000 in
theorem aRuns_c {k:Int} (h:Ao R w a v d A) (hk:∀ w' R' p c,Mod R w w'->Sb R R' w->Ao R' w' a v d A->Ow Tryz.prog w' w.heap.size 45 2 p (runsA A k).length c (rowC (runsA A k))->(∀ q,p=some q->¬ R' q.block)->K (.slice p (runsA A k).length c) w') :
  Cal Tryz.prog F_plan_Runs #[.pointer (some ⟨a,0,none⟩),.int .i64 k] w K:=by
 apply C_plan_Runs
 unfold D_plan_Runs
 have hda:=h.dlt
 refine ff rfl (aVol_c h ⟨_,rfl,aGeo_c h fun w2 m2=>⟨_,rfl,geoRange_c fun w3 m3=>⟨_,_,rfl,?_⟩⟩⟩)
 have hb:=gRange_b (g:=A.s.geo) (k:=k)
 have hn:(gRange A.s.geo k).2-(gRange A.s.geo k).1=(cntG A.s.geo k:Int):=by unfold cntG; omega
 rw [wrap64 (x:=(gRange A.s.geo k).2-(gRange A.s.geo k).1) (by omega) (by omega),hn]
 have eR:runsA A k=(runsTo A (gRange A.s.geo k).1 (cntG A.s.geo k)).1:=rfl
 rw [eR] at hk
 generalize cntG A.s.geo k=n at *
 generalize (gRange A.s.geo k).1=f at *
 have m23:=m2.no m3
 refine ⟨fun x W=>∃ (i c:Nat) (p:Option Addr) (R':Nat->Prop),x=[.slice p (runsTo A f i).1.length c,.bool (runsTo A f i).2,.int .i64 i]/\i<=n/\Ao R' W a v d A/\Sb R R' w/\Mod R w W/\Ow Tryz.prog W w.heap.size 45 2 p (runsTo A f i).1.length c (rowC (runsTo A f i).1)/\(∀ q,p=some q->¬ R' q.block),fun x _=>(n-nI x 2).toNat,
  ⟨0,0,none,R,rfl,Nat.zero_le _,h.nos m23,Sb.refl _ _,m23.mono (fun _ _ e=>e.elim),Ow.nilG elemG_runs,fun _ e=>by cases e⟩,?_⟩
 rintro x W ⟨i,c,p,R',rfl,hi,h1,s1,m1,o1,hp⟩
 refine ⟨_,rfl,cond_of (fun hlt=>?_) (fun hlt=>?_)⟩
 ·have hlt:=of_decide_eq_true hlt
  obtain ⟨r1,r2,r3⟩:=runsTo_ok A f i
  have zW:=m1.size
  rw [wrap64 (x:=f+(i:Int)) (by omega) (by omega)]
  refine aTaken_c (by omega) h1 fun w5 R5 m5 s5 h5=>⟨_,rfl,?_⟩
  have o5:=o1.keep m5 fun q hq=>hp q hq
  have hp5:∀ q,p=some q->¬ R5 q.block:=fun q hq e=>by
   rcases s5 _ e with e | e
   ·exact hp q hq e
   ·have:=(o1.base hq).2; omega
  have z5:=m5.size
  have S5:Sb R R5 w:=s1.trans s5 zW
  have M5:Mod R w w5:=Mod.sb m1 s1 m5
  have e1:runsTo A f (i+1)=stepRun (runsTo A f i) (f+i) (takenA A (f+i)):=rfl
  refine Share.cut (fun z w10=>∃ c' p' R',z=[.slice p' (runsTo A f (i+1)).1.length c',.bool (runsTo A f (i+1)).2]/\Ao R' w10 a v d A/\Sb R R' w/\Mod R w w10/\Ow Tryz.prog w10 w.heap.size 45 2 p' (runsTo A f (i+1)).1.length c' (rowC (runsTo A f (i+1)).1)/\(∀ q,p'=some q->¬ R' q.block)) ?_ ?_
  ·refine cond_of (fun ht=>?_) (fun ht=>⟨_,rfl,?_⟩)
   ·have e2:runsTo A f (i+1)=((runsTo A f i).1,false):=by rw [e1]; unfold stepRun; rw [if_pos ht]
    rw [e2]
    exact ⟨c,p,R5,rfl,h5,S5,M5,o5,hp5⟩
   ·have ht':¬ takenA A (f+i)=true:=by rw [ht]; decide
    refine Share.cut (fun z w10=>∃ c' p' R',z=[.slice p' (runsTo A f (i+1)).1.length c',.bool (runsTo A f (i+1)).2]/\Ao R' w10 a v d A/\Sb R R' w/\Mod R w w10/\Ow Tryz.prog w10 w.heap.size 45 2 p' (runsTo A f (i+1)).1.length c' (rowC (runsTo A f (i+1)).1)/\(∀ q,p'=some q->¬ R' q.block)) ?_ ?_
    ·refine cond_of (fun hf=>?_) (fun hf=>?_)
     ·have hne:=r2 hf
      have hlx:(runsTo A f i).1[(runsTo A f i).1.length-1]?=some (runsTo A f i).1[(runsTo A f i).1.length-1]:=List.getElem?_eq_getElem (by omega)
      have e2:runsTo A f (i+1)=(incL (runsTo A f i).1,true):=by rw [e1]; unfold stepRun; rw [if_neg ht',if_pos hf]
      have e3:incL (runsTo A f i).1=(runsTo A f i).1.set ((runsTo A f i).1.length-1) ((runsTo A f i).1[(runsTo A f i).1.length-1].1,(runsTo A f i).1[(runsTo A f i).1.length-1].2+1):=by unfold incL; rw [hlx]
      rw [e2,e3]
      have hb2:=r3 _ (List.mem_of_getElem? hlx)
      generalize (runsTo A f i).1[(runsTo A f i).1.length-1]=y at *
      rw [hf]
      obtain ⟨g,rfl,hg,hat,ix,_,_,l2⟩:=runAt o5 hlx
      have hl1:(((runsTo A f i).1.length:Nat):Int)-1=(((runsTo A f i).1.length-1:Nat):Int):=by omega
      obtain ⟨w6,u1,u2,u3⟩:=o5.setK (P:=Tryz.prog) (T':=3) (i:=((runsTo A f i).1.length-1)*2+1) (v:=.int .i64 (y.2+1)) sc_int (by omega) rfl
      rw [rowC_set _ hlx] at u2
      refine ⟨_,_,_,rfl,?_⟩
      rw [wrap64 (x:=((runsTo A f i).1.length:Int)-1) (by omega) (by omega),hl1]
      refine ⟨_,ix,_,l2 _ hat.at,_,ix,w6,?_,c,some ⟨g,0,none⟩,R5,?_,h5.own u3 (hp5 _ rfl) (by omega),S5,M5.trans u3 fun z hz e=>by have e:z=g:=e; omega,?_,hp5⟩
      ·rw [wrap64 (by omega) (by omega),add_none]; exact u1
      ·rw [List.length_set]
      ·rw [List.length_set]; exact u2
     ·have e2:runsTo A f (i+1)=((runsTo A f i).1++[(f+(i:Int),1)],true):=by rw [e1]; unfold stepRun; rw [if_neg ht',if_neg (by rw [hf]; decide)]
      rw [e2]
      refine ⟨_,_,_,rfl,_,build_run _ _,_,_,_,_,built_run _ _,?_⟩
      obtain ⟨q,c',w8,run,o8,m8,hq⟩:=snocG (T:=45) (Te:=57) (ys:=acV (f+(i:Int),1)) elemG_runs (by omega) o5 rfl (acV_one _) (by omega) (by omega) (by omega)
      refine ⟨_,_,_,w8,run,c',some q,R5,?_,?_,S5,?_,?_,fun q' hq'=>?_⟩
      ·rw [List.length_append]; rfl
      ·refine h5.keep m8 (fun z hz e=>?_) fun z e=>?_
       ·obtain ⟨q',hq',rfl⟩:=e
        exact hp5 q' hq' hz
       ·obtain ⟨q',hq',rfl⟩:=e
        have:=(o5.base hq').1; omega
      ·refine M5.trans m8 fun z hz e=>?_
       obtain ⟨q',hq',rfl⟩:=e
       have:=(o5.base hq').1; omega
      ·rw [List.length_append,rowC_app]; exact o8
      ·cases hq'
       rcases hq with ⟨q',hq',e⟩ | e
       ·rw [e]; exact hp5 q' hq'
       ·intro hz; have:=h5.lt _ hz; omega
    ·rintro z w10 ⟨c',p',R6,rfl,k1,k2,k3,k4,k5⟩
     exact ⟨c',p',R6,rfl,k1,k2,k3,k4,k5⟩
  ·rintro z w10 ⟨c',p',R6,rfl,k1,k2,k3,k4,k5⟩
   rw [wrap64 (x:=(i:Int)+1) (by omega) (by omega)]
   exact ⟨⟨i+1,c',p',R6,rfl,by omega,k1,k2,k3,k4,k5⟩,by simp [nI,nth]; omega⟩
 ·have hlt:=of_decide_eq_false hlt
  have:i=n:=by omega
  subst this
  exact ⟨_,_,_,rfl,hk W R' p c m1 s1 h1 o1 hp⟩
end
end Go.Proofs.YtelhlihjihklbaaGreat
end
section
open Go Go.Den Go.Proofs
namespace Go.Proofs.YtelhlihjihklbaaGreat
abbrev Rl:=List (Int×Int)
def rAt (l:Rl) (i:Nat):Int×Int:=l.getD i (0,0)
theorem rAt_some {l:Rl} {i:Nat} (h:i<l.length):l[i]?=some (rAt l i):=by
 unfold rAt
 rw [List.getD_eq_getElem?_getD,List.getElem?_eq_getElem h]; rfl
theorem rAt_mem {l:Rl} {i:Nat} (h:i<l.length):rAt l i∈l:=List.mem_of_getElem? (rAt_some h)
theorem rAt_app {l m:Rl} {i:Nat} (h:i<l.length):rAt (l++m) i=rAt l i:=by
 unfold rAt
 rw [List.getD_eq_getElem?_getD,List.getD_eq_getElem?_getD,List.getElem?_append_left h]
def plAll (A:Az):Nat->Rl
 | 0=>[]
 | k+1=>if A.fz k=true then plAll A k else plAll A k++runsA A k
def allA (A:Az):Rl:=plAll A A.s.geo.gs.toNat
def plPick (bt:Int×Int->Int×Int->Bool) (l:Rl):Nat->Int×Int
 | 0=>(0,0)
 | i+1=>if i=0\/bt (rAt l i) (plPick bt l i)=true then rAt l i else plPick bt l i
def gtR (x y:Int×Int):Bool:=decide (y.2<x.2)
def longL (l:Rl):Int×Int:=plPick gtR l l.length
def plSum (l:Rl):Nat->Int
 | 0=>0
 | i+1=>plSum l i+(rAt l i).2
def sumL (l:Rl):Int:=plSum l l.length
def scoreL (l:Rl):Int:=if sumL l=0 then 0 else 1000-1000*(longL l).2 / sumL l
-- the document's
abbrev Fr:=Int×Bool×Bool
theorem incL_app {l m:Rl} (h:0<m.length):incL (l++m)=l++incL m:=by
 have e:(l++m)[(l++m).length-1]?=m[m.length-1]?:=by
  rw [List.length_append,List.getElem?_append_right (by omega)]
  congr 1; omega
 unfold incL
 rw [e]
 cases hx:m[m.length-1]? with
 | none=>rfl
 | some x =>
  simp only
  rw [List.length_append,List.set_append_right _ _ (by omega)]
  congr 2; omega
theorem runsA_pos {A:Az} {k:Int}:∀ x∈runsA A k,1<=x.2/\x.2<=128:=fun x hx=>by
 have h:=(runsTo_ok A (gRange A.s.geo k).1 (cntG A.s.geo k)).2.2 x hx
 have hb:=gRange_b (g:=A.s.geo) (k:=k)
 have:cntG A.s.geo k=((gRange A.s.geo k).2-(gRange A.s.geo k).1).toNat:=rfl
 omega
theorem plAll_pos {A:Az}:∀ {k:Nat},∀ x∈plAll A k,1<=x.2/\x.2<=128
 | 0,x,hx=>by cases hx
 | k+1,x,hx=>by
  have hx:x∈(if A.fz k=true then plAll A k else plAll A k++runsA A k):=hx
  split at hx
  ·exact plAll_pos x hx
  ·rcases List.mem_append.1 hx with hx | hx
   ·exact plAll_pos x hx
   ·exact runsA_pos x hx
theorem runsA_len (A:Az) (k:Int):(runsA A k).length<=128:=by
 have h:=(runsTo_ok A (gRange A.s.geo k).1 (cntG A.s.geo k)).1
 have hb:=gRange_b (g:=A.s.geo) (k:=k)
 have:cntG A.s.geo k=((gRange A.s.geo k).2-(gRange A.s.geo k).1).toNat:=rfl
 show (runsTo A (gRange A.s.geo k).1 (cntG A.s.geo k)).1.length<=128
 omega
theorem plAll_len (A:Az):∀ k,(plAll A k).length<=128*k
 | 0=>Nat.le_refl _
 | k+1=>by
  show (if A.fz k=true then plAll A k else plAll A k++runsA A k).length<=_
  have:=plAll_len A k
  split
  ·omega
  ·have:=runsA_len A k
   rw [List.length_append]; omega
theorem plPick_mem {bt:Int×Int->Int×Int->Bool} {l:Rl}:∀ {i},0<i->i<=l.length->plPick bt l i∈l
 | 0,h,_=>by omega
 | i+1,_,hi=>by
  show (if i=0\/bt (rAt l i) (plPick bt l i)=true then rAt l i else plPick bt l i)∈l
  split
  ·exact rAt_mem (by omega)
  ·rename_i h
   exact plPick_mem (by omega) (by omega)
end Go.Proofs.YtelhlihjihklbaaGreat
end
section
open Go Go.Den Go.Proofs
namespace Go.Proofs.YtelhlihjihklbaaGreat
def rises (l:Rl):Prop:=(l.map (·.1)).Pairwise (·<·)
theorem incL_fst (l:Rl):(incL l).map (·.1)=l.map (·.1):=by
 unfold incL
 split
 ·rename_i x hx
  rw [List.map_set]
  simp only
  exact List.ext_getElem? fun i=>by
   rw [List.getElem?_set]
   split
   ·rename_i h
    subst h
    have hl:=(List.getElem?_eq_some_iff.1 hx).1
    rw [if_pos (by rw [List.length_map]; exact hl),List.getElem?_map,hx]; rfl
   ·rfl
 ·rfl
theorem runsTo_rise (A:Az) (f:Int):∀ i:Nat,rises (runsTo A f i).1/\∀ y∈(runsTo A f i).1.map (·.1),f<=y/\y<f+i
 | 0=>⟨List.Pairwise.nil,fun y hy=>by cases hy⟩
 | i+1=>by
  obtain ⟨h1,h2⟩:=runsTo_rise A f i
  show rises (stepRun (runsTo A f i) (f+i) (takenA A (f+i))).1/\∀ y∈(stepRun (runsTo A f i) (f+i) (takenA A (f+i))).1.map (·.1),f<=y/\y<f+(i+1:Nat)
  unfold stepRun
  split
  ·exact ⟨h1,fun y hy=>by have:=h2 y hy; omega⟩
  split
  ·unfold rises
   simp only
   rw [incL_fst]
   exact ⟨h1,fun y hy=>by have:=h2 y hy; omega⟩
  ·unfold rises
   simp only [List.map_append,List.map_cons,List.map_nil]
   refine ⟨List.pairwise_append.2 ⟨h1,List.pairwise_singleton _ _,fun y hy z hz=>?_⟩,fun y hy=>?_⟩
   ·have:z=f+i:=by simpa using hz
    have:=h2 y hy; omega
   ·rcases List.mem_append.1 hy with hy | hy
    ·have:=h2 y hy; omega
    ·have:y=f+i:=by simpa using hy
     omega
theorem gRange_at {g:Gm} (hg:gOk g=true) {k:Nat} (hk:(k:Int)<g.gs):gRange g k=(2+k*g.gr+1+gTabs g,2+k*g.gr+g.gr):=by
 obtain ⟨p1,_⟩:=head_pos hg hk
 unfold gRange
 rw [p1,if_neg fun e=>e rfl]
theorem runsA_rise {A:Az} (hg:gOk A.s.geo=true) {k:Nat} (hk:(k:Int)<A.s.geo.gs):rises (runsA A k)/\∀ y∈(runsA A k).map (·.1),2+k*A.s.geo.gr<y/\y<2+(k+1:Nat)*A.s.geo.gr:=by
 obtain ⟨h1,h2⟩:=runsTo_rise A (gRange A.s.geo k).1 (cntG A.s.geo k)
 refine ⟨h1,fun y hy=>?_⟩
 have h3:=h2 y hy
 have hb:=gRange_b (g:=A.s.geo) (k:=k)
 have hc:(cntG A.s.geo k:Int)=(gRange A.s.geo k).2-(gRange A.s.geo k).1:=by unfold cntG; omega
 have ht:=gTabs_b (g:=A.s.geo)
 rw [hc,gRange_at hg hk] at h3
 simp only at h3
 have e:((k+1:Nat):Int)*A.s.geo.gr=k*A.s.geo.gr+A.s.geo.gr:=by rw [Int.natCast_add,Int.add_mul]; simp
 omega
theorem plAll_rise {A:Az} (hg:gOk A.s.geo=true):∀ k:Nat,(k:Int)<=A.s.geo.gs->rises (plAll A k)/\∀ y∈(plAll A k).map (·.1),y<2+k*A.s.geo.gr
 | 0,_=>⟨List.Pairwise.nil,fun y hy=>by cases hy⟩
 | k+1,hk=>by
  obtain ⟨h1,h2⟩:=plAll_rise hg k (by omega)
  obtain ⟨r1,r2⟩:=runsA_rise hg (k:=k) (by omega)
  obtain ⟨g1,_⟩:=gOk_iff.1 hg
  have e:((k+1:Nat):Int)*A.s.geo.gr=k*A.s.geo.gr+A.s.geo.gr:=by rw [Int.natCast_add,Int.add_mul]; simp
  show rises (if A.fz k=true then plAll A k else plAll A k++runsA A k)/\∀ y∈(if A.fz k=true then plAll A k else plAll A k++runsA A k).map (·.1),y<2+(k+1:Nat)*A.s.geo.gr
  split
  ·exact ⟨h1,fun y hy=>by have:=h2 y hy; omega⟩
  ·unfold rises
   rw [List.map_append]
   refine ⟨List.pairwise_append.2 ⟨h1,r1,fun y hy z hz=>?_⟩,fun y hy=>?_⟩
   ·have:=h2 y hy; have:=r2 z hz; omega
   ·rcases List.mem_append.1 hy with hy | hy
    ·have:=h2 y hy; omega
    ·exact (r2 y hy).2
theorem rAt_of_mem {l:Rl} {x:Int×Int} (h:x∈l):∃ j,j<l.length/\x=rAt l j:=by
 obtain ⟨j,hj,e⟩:=List.mem_iff_getElem.1 h
 have e1:=rAt_some (l:=l) (i:=j) hj
 rw [List.getElem?_eq_getElem hj] at e1
 exact ⟨j,hj,by rw [<- e]; exact Option.some.inj e1⟩
end Go.Proofs.YtelhlihjihklbaaGreat
end
section
open Go Go.Den Go.Proofs
namespace Go.Proofs.YtelhlihjihklbaaGreat
theorem plSum_app (l m:Rl):∀ i,i<=l.length->plSum (l++m) i=plSum l i
 | 0,_=>rfl
 | i+1,h=>by
  unfold plSum
  rw [plSum_app l m i (by omega),rAt_app (by omega)]
theorem sumL_app (l:Rl):∀ m,sumL (l++m)=sumL l+sumL m:=by
 intro m
 have:∀ j,j<=m.length->plSum (l++m) (l.length+j)=sumL l+plSum m j:=by
  intro j
  induction j with
  | zero=>intro _; show plSum (l++m) l.length=sumL l+0; rw [plSum_app l m _ (Nat.le_refl _),Int.add_zero]; rfl
  | succ j ih =>
   intro hj
   show plSum (l++m) (l.length+j)+(rAt (l++m) (l.length+j)).2=sumL l+(plSum m j+(rAt m j).2)
   have e:rAt (l++m) (l.length+j)=rAt m j:=by
    unfold rAt
    rw [List.getD_eq_getElem?_getD,List.getD_eq_getElem?_getD,List.getElem?_append_right (by omega),show l.length+j-l.length=j by omega]
   rw [ih (by omega),e]; omega
 have h:=this m.length (Nat.le_refl _)
 unfold sumL
 rw [List.length_append]; exact h
theorem sumL_one (x:Int×Int):sumL [x]=x.2:=by
 show (0:Int)+x.2=x.2
 omega
theorem sumL_cons (x:Int×Int) (l:Rl):sumL (x::l)=x.2+sumL l:=by
 have:=sumL_app [x] l
 rw [sumL_one] at this
 exact this
theorem incL_snoc (l:Rl) (x:Int×Int):incL (l++[x])=l++[(x.1,x.2+1)]:=by
 rw [incL_app (by simp)]; rfl
theorem spB_at {g:Gm} (hg:gOk g=true) {k:Nat} {j:Int} (hk:(k:Int)<g.gs) (h1:1+gTabs g<=j) (h2:j<g.gr):spB g (2+k*g.gr+j)=((k:Int),j,true):=by
 obtain ⟨p1,p2,p3⟩:=head_pos hg hk
 obtain ⟨g1,g2,g3,g4,g5,g6,g7,g8,_⟩:=gOk_iff.1 hg
 have ht:=gTabs_b (g:=g)
 have hs:gSize g=2+g.gs*g.gr:=by unfold gSize; rw [if_pos hg]
 have hp:0<=(k:Int)*g.gr:=Int.mul_nonneg (by omega) (by omega)
 have hle:((k:Int)+1)*g.gr<=g.gs*g.gr:=Int.mul_le_mul_of_nonneg_right (by omega) (by omega)
 rw [Int.add_mul,Int.one_mul] at hle
 have hm:(2+(k:Int)*g.gr+j-2) % g.gr=j:=by
  rw [show 2+(k:Int)*g.gr+j-2=j+k*g.gr by omega,Int.add_mul_emod_self_right]
  exact Int.emod_eq_of_lt (by omega) h2
 have hd:(2+(k:Int)*g.gr+j-2) / g.gr=k:=by
  rw [show 2+(k:Int)*g.gr+j-2=j+k*g.gr by omega,Int.add_mul_ediv_right _ _ (by omega),Int.ediv_eq_zero_of_lt (by omega) h2,Int.zero_add]
 have hkd:gKind g (2+k*g.gr+j)=(4,(k:Int)):=by
  unfold gKind
  rw [hm,hd,if_neg (by omega),if_neg (by omega),if_neg (by omega),if_neg (by omega)]
 unfold spB
 rw [hkd,if_neg fun e=>e rfl,p1]
 show ((k:Int),2+k*g.gr+j-(2+k*g.gr),true)=_
 rw [show 2+(k:Int)*g.gr+j-(2+k*g.gr)=j by omega]
theorem taken_at {A:Az} (hg:gOk A.s.geo=true) {k:Nat} {j:Int} (hk:(k:Int)<A.s.geo.gs) (h1:1+gTabs A.s.geo<=j) (h2:j<A.s.geo.gr):takenA A (2+k*A.s.geo.gr+j)=bitB (A.hs.getD k hZ).bs j.toNat:=by
 unfold takenA
 rw [spB_at hg hk h1 h2]
 simp
end Go.Proofs.YtelhlihjihklbaaGreat
end
section
open Go Go.Den Go.Proofs
namespace Go.Proofs.YtelhlihjihklbaaGreat
def stF (t:Int->Bool) (f:Int) (s0:Rl×Bool):Nat->Rl×Bool
 | 0=>s0
 | i+1=>stepRun (stF t f s0 i) (f+i) (t (f+i))
theorem runsTo_st (A:Az) (f:Int):∀ i,runsTo A f i=stF (takenA A) f ([],false) i
 | 0=>rfl
 | i+1=>by
  show stepRun (runsTo A f i) (f+i) (takenA A (f+i))=stepRun (stF (takenA A) f ([],false) i) (f+i) (takenA A (f+i))
  rw [runsTo_st A f i]
theorem stF_add (t:Int->Bool) (f:Int) (s0:Rl×Bool) (i:Nat):∀ j,stF t f s0 (i+j)=stF t (f+i) (stF t f s0 i) j
 | 0=>rfl
 | j+1=>by
  show stepRun (stF t f s0 (i+j)) (f+(i+j:Nat)) (t (f+(i+j:Nat)))=stepRun (stF t (f+i) (stF t f s0 i) j) (f+i+j) (t (f+i+j))
  rw [stF_add t f s0 i j,show f+((i+j:Nat):Int)=f+i+j by omega]
theorem stF_congr {t t':Int->Bool} {f:Int} {s0:Rl×Bool}:∀ {i:Nat},(∀ j:Nat,j<i->t (f+j)=t' (f+j))->stF t f s0 i=stF t' f s0 i
 | 0,_=>rfl
 | i+1,h=>by
  show stepRun (stF t f s0 i) (f+i) (t (f+i))=stepRun (stF t' f s0 i) (f+i) (t' (f+i))
  rw [stF_congr (i:=i) fun j hj=>h j (by omega),h i (by omega)]
theorem stF_pre (t:Int->Bool) (f:Int) (Q L:Rl) (fl:Bool) (hL:fl=true->0<L.length):∀ i,stF t f (Q++L,fl) i=(Q++(stF t f (L,fl) i).1,(stF t f (L,fl) i).2)/\((stF t f (L,fl) i).2=true->0<(stF t f (L,fl) i).1.length)
 | 0=>⟨rfl,hL⟩
 | i+1=>by
  obtain ⟨h1,h2⟩:=stF_pre t f Q L fl hL i
  show stepRun (stF t f (Q++L,fl) i) (f+i) (t (f+i))=(Q++(stepRun (stF t f (L,fl) i) (f+i) (t (f+i))).1,(stepRun (stF t f (L,fl) i) (f+i) (t (f+i))).2)/\((stepRun (stF t f (L,fl) i) (f+i) (t (f+i))).2=true->0<(stepRun (stF t f (L,fl) i) (f+i) (t (f+i))).1.length)
  rw [h1]
  unfold stepRun
  by_cases ht:t (f+i)=true
  ·rw [if_pos ht,if_pos ht]
   exact ⟨rfl,fun e=>by cases e⟩
  ·rw [if_neg ht,if_neg ht]
   by_cases hf:(stF t f (L,fl) i).2=true
   ·rw [if_pos hf,if_pos hf]
    exact ⟨by simp only; rw [incL_app (h2 hf)],fun _=>by simp only; rw [incL_len]; exact h2 hf⟩
   ·rw [if_neg hf,if_neg hf]
    exact ⟨by simp only; rw [List.append_assoc],fun _=>by simp⟩
theorem stF_end (t:Int->Bool) (f:Int):∀ i,(stF t f ([],false) i).2=true->∃ Q s m,(stF t f ([],false) i).1=Q++[(s,m)]/\s+m=f+i/\1<=m
 | 0,h=>by cases h
 | i+1,h=>by
  have ih:=stF_end t f i
  have e:stF t f ([],false) (i+1)=stepRun (stF t f ([],false) i) (f+i) (t (f+i)):=rfl
  rw [e] at h |-
  unfold stepRun at h |-
  by_cases ht:t (f+i)=true
  ·rw [if_pos ht] at h; cases h
  ·rw [if_neg ht] at h |-
   by_cases hf:(stF t f ([],false) i).2=true
   ·rw [if_pos hf] at h |-
    obtain ⟨Q,s,m,e1,e2,e3⟩:=ih hf
    refine ⟨Q,s,m+1,?_,by omega,by omega⟩
    simp only
    rw [e1,incL_snoc]
   ·rw [if_neg hf] at h |-
    exact ⟨_,f+i,1,rfl,by omega,by omega⟩
theorem stF_two (t:Int->Bool) (c s m:Int):∀ i,∃ (r:Nat) (Y:Rl),(stF t c ([(s,m)],true) i).1=(s,m+r)::Y/\(stF t c ([],false) i).1=(if r=0 then [] else [(c,(r:Int))])++Y /\
  ((Y=[]/\r=i/\(stF t c ([(s,m)],true) i).2=true/\((stF t c ([],false) i).2=true↔r≠0))\/((stF t c ([(s,m)],true) i).2=(stF t c ([],false) i).2/\((stF t c ([],false) i).2=true->0<Y.length)))
 | 0=>⟨0,[],by show [(s,m)]=[(s,m+0)]; rw [Int.add_zero],rfl,.inl ⟨rfl,rfl,rfl,⟨(fun e=>by cases e),fun e=>absurd rfl e⟩⟩⟩
 | i+1=>by
  obtain ⟨r,Y,h1,h2,h3⟩:=stF_two t c s m i
  have e1:stF t c ([(s,m)],true) (i+1)=stepRun (stF t c ([(s,m)],true) i) (c+i) (t (c+i)):=rfl
  have e2:stF t c ([],false) (i+1)=stepRun (stF t c ([],false) i) (c+i) (t (c+i)):=rfl
  rw [e1,e2]
  generalize stF t c ([(s,m)],true) i=a at *
  generalize stF t c ([],false) i=b at *
  obtain ⟨a1,a2⟩:=a
  obtain ⟨b1,b2⟩:=b
  simp only at h1 h2 h3
  subst h1
  subst h2
  unfold stepRun
  by_cases ht:t (c+i)=true
  ·rw [if_pos ht,if_pos ht]
   exact ⟨r,Y,rfl,rfl,.inr ⟨rfl,fun e=>by cases e⟩⟩
  ·rw [if_neg ht,if_neg ht]
   rcases h3 with ⟨rfl,rfl,k3,k4⟩ | ⟨k1,k2⟩
   ·subst k3
    refine ⟨r+1,[],?_,?_,.inl ⟨rfl,rfl,?_,?_⟩⟩
    ·rw [if_pos rfl]
     show incL [(s,m+(r:Int))]=[(s,m+((r+1:Nat):Int))]
     have:=incL_snoc [] (s,m+(r:Int))
     rw [List.nil_append] at this
     rw [this]
     simp only [List.nil_append]
     congr 2; omega
    ·by_cases hr:r=0
     ·subst hr
      have hb:¬ b2=true:=fun e=>(k4.1 e) rfl
      simp only
      rw [if_neg hb]
      show [(c+((0:Nat):Int),(1:Int))]=[(c,((0+1:Nat):Int))]++[]
      simp
     ·have hb:b2=true:=k4.2 hr
      simp only
      rw [if_pos hb,if_neg hr,if_neg (by omega),List.append_nil,List.append_nil]
      have:=incL_snoc [] (c,(r:Int))
      rw [List.nil_append] at this
      rw [this]
      simp only [List.nil_append]
      congr 2
    ·rw [if_pos rfl]
    ·simp only
     split <;> exact ⟨fun _=>by omega,fun _=>rfl⟩
   ·subst k1
    by_cases hb:a2=true
    ·have hy:=k2 hb
     simp only
     rw [if_pos hb,if_pos hb]
     refine ⟨r,incL Y,?_,?_,.inr ⟨rfl,fun _=>by rw [incL_len]; exact hy⟩⟩
     ·exact incL_app (l:=[(s,m+(r:Int))]) hy
     ·exact incL_app hy
    ·simp only
     rw [if_neg hb,if_neg hb]
     exact ⟨r,Y++[(c+(i:Int),1)],rfl,by rw [List.append_assoc],.inr ⟨rfl,fun _=>by simp⟩⟩
theorem breaks {t t':Int->Bool} {f:Int} {n j:Nat} (hj:j<n) (h0:t (f+j)=false) (h1:t' (f+j)=true) (he:∀ i:Nat,i<n->i≠j->t' (f+i)=t (f+i)) :
  ∃ X Y s m M,(stF t f ([],false) n).1=X++(s,m)::Y/\(stF t' f ([],false) n).1=X++(M++Y)/\s<=f+j/\f+j<s+m/\M.length<=2/\sumL M=m-1:=by
 obtain ⟨i,rfl⟩:∃ i,n=j+1+i:=⟨n-j-1,by omega⟩
 have c1:stF t' f ([],false) j=stF t f ([],false) j:=stF_congr fun k hk=>he k (by omega) (by omega)
 have c2:∀ s0,stF t' (f+(j+1:Nat)) s0 i=stF t (f+(j+1:Nat)) s0 i:=fun s0=>stF_congr fun k hk=>by
  have:=he (j+1+k) (by omega) (by omega)
  rw [show f+((j+1+k:Nat):Int)=f+(j+1:Nat)+k by omega] at this
  exact this
 have s1:stF t f ([],false) (j+1)=stepRun (stF t f ([],false) j) (f+j) false:=by rw [<- h0]; rfl
 have s2:stF t' f ([],false) (j+1)=stepRun (stF t f ([],false) j) (f+j) true:=by rw [<- h1,<- c1]; rfl
 have hend:=stF_end t f j
 rw [stF_add t f _ (j+1) i,stF_add t' f _ (j+1) i,c2,s1,s2]
 generalize stF t f ([],false) j=st at *
 obtain ⟨L,fl⟩:=st
 have e1:stepRun (L,fl) (f+j) true=(L,false):=rfl
 rw [e1]
 cases fl with
 | false =>
  have e2:stepRun (L,false) (f+j) false=(L++[(f+(j:Int),1)],true):=rfl
  obtain ⟨r,Y,k1,k2,_⟩:=stF_two t (f+(j+1:Nat)) (f+j) 1 i
  obtain ⟨p1,_⟩:=stF_pre t (f+(j+1:Nat)) L [(f+(j:Int),1)] true (fun _=>by simp) i
  obtain ⟨p2,_⟩:=stF_pre t (f+(j+1:Nat)) L [] false (fun e=>by cases e) i
  rw [List.append_nil] at p2
  rw [e2,p1,p2,k1,k2]
  refine ⟨L,Y,f+j,1+r,_,rfl,rfl,by omega,by omega,?_,?_⟩
  ·split <;> simp
  ·split
   ·rename_i hr; subst hr; rfl
   ·rw [sumL_one]; show (r:Int)=1+r-1; omega
 | true =>
  obtain ⟨Q,s,m,k0,k5,k6⟩:=hend rfl
  simp only at k0
  subst k0
  have e2:stepRun (Q++[(s,m)],true) (f+j) false=(Q++[(s,m+1)],true):=by
   unfold stepRun
   simp only
   rw [if_neg (by decide),if_pos trivial,incL_snoc]
  obtain ⟨r,Y,k1,k2,_⟩:=stF_two t (f+(j+1:Nat)) s (m+1) i
  obtain ⟨p1,_⟩:=stF_pre t (f+(j+1:Nat)) Q [(s,m+1)] true (fun _=>by simp) i
  obtain ⟨p2,_⟩:=stF_pre t (f+(j+1:Nat)) (Q++[(s,m)]) [] false (fun e=>by cases e) i
  rw [List.append_nil] at p2
  rw [e2,p1,p2,k1,k2]
  refine ⟨Q,Y,s,m+1+r,[(s,m)]++(if r=0 then [] else [(f+(j+1:Nat),(r:Int))]),rfl,?_,by omega,by omega,?_,?_⟩
  ·simp only [List.append_assoc]
  ·split <;> simp
  ·rw [sumL_app,sumL_one]
   split
   ·rename_i hr; subst hr; show m+0=m+1+((0:Nat):Int)-1; omega
   ·rw [sumL_one]; simp only; omega
theorem plAll_break {A A':Az} (hf:A'.fz=A.fz) {k0:Nat} (hf0:A.fz k0=false) {X Y M:Rl} {x:Int×Int} (e1:runsA A k0=X++x::Y) (e2:runsA A' k0=X++(M++Y)) :
  ∀ n:Nat,k0<n->(∀ k:Nat,k<n->k≠k0->runsA A' k=runsA A k)->∃ X' Y',plAll A n=X'++x::Y'/\plAll A' n=X'++(M++Y'):=by
 have same:∀ n:Nat,(∀ k:Nat,k<n->runsA A' k=runsA A k)->plAll A' n=plAll A n:=by
  intro n
  induction n with
  | zero=>intro _; rfl
  | succ n ih =>
   intro h
   show (if A'.fz n=true then plAll A' n else plAll A' n++runsA A' n)=(if A.fz n=true then plAll A n else plAll A n++runsA A n)
   rw [hf,ih fun k hk=>h k (by omega),h n (by omega)]
 intro n
 induction n with
 | zero=>intro h; omega
 | succ n ih =>
  intro h he
  show ∃ X' Y',(if A.fz n=true then plAll A n else plAll A n++runsA A n)=X'++x::Y'/\(if A'.fz n=true then plAll A' n else plAll A' n++runsA A' n)=X'++(M++Y')
  rw [hf]
  by_cases e:n=k0
  ·subst e
   rw [if_neg (by rw [hf0]; decide),if_neg (by rw [hf0]; decide),same n fun k hk=>he k (by omega) (by omega),e1,e2]
   exact ⟨plAll A n++X,Y,by rw [List.append_assoc],by rw [List.append_assoc]⟩
  ·obtain ⟨X',Y',i1,i2⟩:=ih (by omega) fun k hk=>he k (by omega)
   split
   ·exact ⟨X',Y',i1,i2⟩
   ·rw [i1,i2,he n (by omega) e]
    exact ⟨X',Y'++runsA A n,by simp,by simp⟩
theorem runsA_congr {A A':Az} (hs:A'.s.geo=A.s.geo) (hg:gOk A.s.geo=true) {k:Nat} (hk:(k:Int)<A.s.geo.gs) (h:∀ j:Int,1+gTabs A.s.geo<=j->j<A.s.geo.gr->takenA A' (2+k*A.s.geo.gr+j)=takenA A (2+k*A.s.geo.gr+j)):runsA A' k=runsA A k:=by
 unfold runsA
 rw [hs,runsTo_st,runsTo_st,stF_congr]
 intro j hj
 have hc:(cntG A.s.geo k:Int)=(gRange A.s.geo k).2-(gRange A.s.geo k).1:=by
  have:=gRange_b (g:=A.s.geo) (k:=k)
  unfold cntG; omega
 rw [gRange_at hg hk] at hc |-
 simp only at hc |-
 have:=h (1+gTabs A.s.geo+j) (by omega) (by omega)
 rw [show 2+(k:Int)*A.s.geo.gr+1+gTabs A.s.geo+(j:Int)=2+k*A.s.geo.gr+(1+gTabs A.s.geo+j) by omega]
 exact this
theorem allA_congr {A A':Az} (hs:A'.s.geo=A.s.geo) (hf:A'.fz=A.fz) (hg:gOk A.s.geo=true) (h:∀ (k:Nat) (j:Int),(k:Int)<A.s.geo.gs->1+gTabs A.s.geo<=j->j<A.s.geo.gr->takenA A' (2+k*A.s.geo.gr+j)=takenA A (2+k*A.s.geo.gr+j)):allA A'=allA A:=by
 have:∀ n:Nat,(n:Int)<=A.s.geo.gs->plAll A' n=plAll A n:=by
  intro n
  induction n with
  | zero=>intro _; rfl
  | succ n ih =>
   intro hn
   show (if A'.fz n=true then plAll A' n else plAll A' n++runsA A' n)=(if A.fz n=true then plAll A n else plAll A n++runsA A n)
   rw [hf,ih (by omega),runsA_congr hs hg (by omega) fun j=>h n j (by omega)]
 unfold allA
 rw [hs]
 obtain ⟨_,_,g3,_⟩:=gOk_iff.1 hg
 exact this _ (by omega)
theorem taken_set {A:Az} (hH:HdsAt A.V A.s.geo A.hs) {k0:Nat} (hk0:(k0:Int)<A.s.geo.gs) {j0:Int} (h0:0<=j0) {on:Bool} (hu:(useX true A.s.geo (A.hs.getD k0 hZ) j0 on).2=0) {k:Nat} {j:Int} (hk:(k:Int)<A.s.geo.gs) (h1:1+gTabs A.s.geo<=j) (h2:j<A.s.geo.gr) :
  takenA (sethA A k0 (useX true A.s.geo (A.hs.getD k0 hZ) j0 on).1) (2+k*A.s.geo.gr+j)=if k=k0/\j=j0 then on else takenA A (2+k*A.s.geo.gr+j):=by
 have hg:=hH.1
 have hlen:=hH.2.2.1
 obtain ⟨x,hx,_,ho,hn,hw⟩:=hH.get (k:=(k0:Int)) (by omega) hk0
 have hx:A.hs[k0]?=some x:=hx
 have hgd:A.hs.getD k0 hZ=x:=by rw [List.getD_eq_getElem?_getD,hx]; rfl
 rw [hgd] at hu |-
 obtain ⟨u1,u2,u3,u4,u5,u6⟩:=useBk_ok (g:=A.s.geo) (h:=x) (i:=j0) (on:=on) hw hu
 have ht:=gTabs_b (g:=A.s.geo)
 obtain ⟨g1,g2,_⟩:=gOk_iff.1 hg
 have e:=taken_at (A:=sethA A k0 (useX true A.s.geo x j0 on).1) (k:=k) (j:=j) hg hk h1 h2
 have e':=taken_at (A:=A) (k:=k) (j:=j) hg hk h1 h2
 rw [show (sethA A k0 (useX true A.s.geo x j0 on).1).s.geo=A.s.geo from rfl] at e
 rw [e,e']
 show bitB ((A.hs.set k0 (useX true A.s.geo x j0 on).1).getD k hZ).bs j.toNat=_
 by_cases ek:k=k0
 ·subst ek
  rw [List.getD_eq_getElem?_getD,List.getElem?_set_self (by omega),hgd]
  show bitB (useBk A.s.geo x j0 on).1.bs j.toNat=_
  rw [u2]
  show bitB (putB x.bs j0.toNat on) j.toNat=_
  rw [bitB_putB (by rw [hw.1]; omega)]
  by_cases ej:j=j0
  ·rw [if_pos (by rw [ej]),if_pos ⟨rfl,ej⟩]
  ·rw [if_neg (by omega),if_neg fun e=>ej e.2]
 ·rw [List.getD_eq_getElem?_getD,List.getElem?_set_ne (fun e=>ek e.symm),<- List.getD_eq_getElem?_getD,if_neg fun e=>ek e.1]
theorem all_break {A:Az} (hH:HdsAt A.V A.s.geo A.hs) {k0:Nat} (hk0:(k0:Int)<A.s.geo.gs) {j0:Int} (h0:0<=j0) (hf0:A.fz k0=false) (hu:(useX true A.s.geo (A.hs.getD k0 hZ) j0 true).2=0) :
  ∃ X Y s m M,allA A=X++(s,m)::Y/\allA (sethA A k0 (useX true A.s.geo (A.hs.getD k0 hZ) j0 true).1)=X++(M++Y)/\s<=2+k0*A.s.geo.gr+j0/\2+k0*A.s.geo.gr+j0<s+m/\M.length<=2/\sumL M=m-1:=by
 have hg:=hH.1
 obtain ⟨x,hx,_,ho,hn,hw⟩:=hH.get (k:=(k0:Int)) (by omega) hk0
 have hx:A.hs[k0]?=some x:=hx
 have hgd:A.hs.getD k0 hZ=x:=by rw [List.getD_eq_getElem?_getD,hx]; rfl
 have hu':=hu
 rw [hgd] at hu'
 obtain ⟨u1,u2,u3,u4,u5,u6⟩:=useBk_ok (g:=A.s.geo) (h:=x) (i:=j0) (on:=true) hw hu'
 have T:=fun {k:Nat} {j:Int} (hk:(k:Int)<A.s.geo.gs) (h1:1+gTabs A.s.geo<=j) (h2:j<A.s.geo.gr)=>taken_set hH hk0 h0 hu hk h1 h2
 have hwas:takenA A (2+k0*A.s.geo.gr+j0)=false:=by
  rw [taken_at hg hk0 u5 u6,hgd]
  simpa using u4
 have hnow:takenA (sethA A k0 (useX true A.s.geo (A.hs.getD k0 hZ) j0 true).1) (2+k0*A.s.geo.gr+j0)=true:=by
  rw [T hk0 u5 u6,if_pos ⟨rfl,rfl⟩]
 have hsg:(sethA A k0 (useX true A.s.geo (A.hs.getD k0 hZ) j0 true).1).s.geo=A.s.geo:=rfl
 have hsf:(sethA A k0 (useX true A.s.geo (A.hs.getD k0 hZ) j0 true).1).fz=A.fz:=rfl
 generalize sethA A k0 (useX true A.s.geo (A.hs.getD k0 hZ) j0 true).1=A' at *
 have hc:(cntG A.s.geo k0:Int)=A.s.geo.gr-1-gTabs A.s.geo:=by
  have:=gRange_b (g:=A.s.geo) (k:=k0)
  have e:=gRange_at hg hk0
  rw [e] at this
  unfold cntG
  rw [e]; simp only at *; omega
 obtain ⟨j,hj⟩:=Int.eq_ofNat_of_zero_le (show 0<=j0-(1+gTabs A.s.geo) by omega)
 have hp:∀ i:Nat,2+(k0:Int)*A.s.geo.gr+1+gTabs A.s.geo+i=2+k0*A.s.geo.gr+(1+gTabs A.s.geo+i):=fun i=>by omega
 have hjj:1+gTabs A.s.geo+(j:Int)=j0:=by omega
 obtain ⟨X,Y,s,m,M,b1,b2,b3,b4,b5,b6⟩:=breaks (t:=takenA A) (t':=takenA A') (f:=2+k0*A.s.geo.gr+1+gTabs A.s.geo) (n:=cntG A.s.geo k0) (j:=j) (by omega) (by rw [hp,hjj]; exact hwas) (by rw [hp,hjj]; exact hnow) (fun i hi hne=>by
  rw [hp,T hk0 (by omega) (by omega),if_neg fun e=>hne (by omega)])
 have r1:runsA A k0=X++(s,m)::Y:=by
  unfold runsA
  rw [gRange_at hg hk0,runsTo_st]; exact b1
 have r2:runsA A' k0=X++(M++Y):=by
  unfold runsA
  rw [hsg,gRange_at hg hk0,runsTo_st]; exact b2
 obtain ⟨_,_,g3,_⟩:=gOk_iff.1 hg
 obtain ⟨X',Y',c1,c2⟩:=plAll_break hsf hf0 r1 r2 A.s.geo.gs.toNat (by omega) fun k hk hne=>runsA_congr hsg hg (by omega) fun j' h1 h2=>by
  rw [T (by omega) h1 h2,if_neg fun e=>hne e.1]
 refine ⟨X',Y',s,m,M,c1,by unfold allA; rw [hsg]; exact c2,?_,?_,b5,b6⟩
 ·rw [hp,hjj] at b3; exact b3
 ·rw [hp,hjj] at b4; exact b4
theorem firstB_none {xs:List UInt8} {n f:Int} (h:firstB xs n f<0) {i:Nat} (h1:(i:Int)<n) (h2:i<8*xs.length):bitB xs i=true:=by
 unfold firstB at h
 split at h
 ·omega
 ·split at h
  ·omega
  ·rename_i h3
   have:=List.find?_eq_none.1 h3 i (List.mem_range.2 (by unfold upB; omega))
   simpa [clearB] using this
theorem all_full {A:Az} (hH:HdsAt A.V A.s.geo A.hs) {s p:Int} {t:Bool} (h:takeTo A.s.geo A.hs A.fz (findX true A.s.geo) s p t A.s.geo.gs.toNat=none):allA A=[]:=by
 have hg:=hH.1
 obtain ⟨g1,g2,g3,g4,_⟩:=gOk_iff.1 hg
 have all:∀ n:Nat,takeTo A.s.geo A.hs A.fz (findX true A.s.geo) s p t n=none->∀ i,i<n->takeAt A.s.geo A.hs A.fz (findX true A.s.geo) s p t i=none:=by
  intro n
  induction n with
  | zero=>intro _ i hi; omega
  | succ n ih =>
   intro h i hi
   have e:(match takeTo A.s.geo A.hs A.fz (findX true A.s.geo) s p t n with | some x=>some x | none=>takeAt A.s.geo A.hs A.fz (findX true A.s.geo) s p t n)=none:=h
   cases hx:takeTo A.s.geo A.hs A.fz (findX true A.s.geo) s p t n with
   | some x=>rw [hx] at e; cases e
   | none =>
    rw [hx] at e
    by_cases ei:i=n
    ·subst ei; exact e
    ·exact ih hx i (by omega)
 have grp:∀ k:Nat,(k:Int)<A.s.geo.gs->A.fz k=false->runsA A k=[]:=by
  intro k hk hf
  obtain ⟨x,hx,_,ho,hn,hw⟩:=hH.get (k:=(k:Int)) (by omega) hk
  have hx:A.hs[k]?=some x:=hx
  have hgd:A.hs.getD k hZ=x:=by rw [List.getD_eq_getElem?_getD,hx]; rfl
  have hm1:=Int.emod_nonneg ((k:Int)-s) (show A.s.geo.gs≠0 by omega)
  have hm2:=Int.emod_lt_of_pos ((k:Int)-s) (show 0<A.s.geo.gs by omega)
  obtain ⟨i,hi⟩:=Int.eq_ofNat_of_zero_le hm1
  have hr:ringK A.s.geo s i=k:=by
   unfold ringK
   rw [<- hi]
   have:(s+((k:Int)-s) % A.s.geo.gs) % A.s.geo.gs=k:=by
    rw [Int.add_emod,Int.emod_emod_of_dvd _ (Int.dvd_refl _),<- Int.add_emod,show s+((k:Int)-s)=k by omega]
    exact Int.emod_eq_of_lt (by omega) hk
   rw [this]; omega
  have ha:=all _ h i (by omega)
  unfold takeAt at ha
  rw [hr,if_neg (by rw [hf]; decide),hx] at ha
  simp only at ha
  have hneg:findX true A.s.geo x (ringF p t i)<0:=by
   refine Classical.byContradiction fun e=>?_
   rw [if_pos (by omega)] at ha; cases ha
  have hneg:findBk A.s.geo x (ringF p t i)<0:=hneg
  unfold findBk at hneg
  rw [if_pos ho] at hneg
  have:∀ n:Nat,n<=cntG A.s.geo k->runsTo A (gRange A.s.geo k).1 n=([],false):=by
   intro n
   induction n with
   | zero=>intro _; rfl
   | succ n ih =>
    intro hn
    have hc:(cntG A.s.geo k:Int)=A.s.geo.gr-1-gTabs A.s.geo:=by
     have:=gRange_b (g:=A.s.geo) (k:=k)
     have e:=gRange_at hg hk
     rw [e] at this
     unfold cntG
     rw [e]; simp only at *; omega
    have ht:=gTabs_b (g:=A.s.geo)
    have e1:takenA A ((gRange A.s.geo k).1+n)=true:=by
     rw [gRange_at hg hk]
     simp only
     rw [show 2+(k:Int)*A.s.geo.gr+1+gTabs A.s.geo+(n:Int)=2+k*A.s.geo.gr+(1+gTabs A.s.geo+n) by omega,taken_at hg hk (by omega) (by omega),hgd]
     exact firstB_none hneg (by omega) (by rw [hw.1]; omega)
    show stepRun (runsTo A (gRange A.s.geo k).1 n) ((gRange A.s.geo k).1+n) (takenA A ((gRange A.s.geo k).1+n))=_
    rw [e1,ih (by omega)]; rfl
  show (runsTo A (gRange A.s.geo k).1 (cntG A.s.geo k)).1=[]
  rw [this _ (Nat.le_refl _)]
 have:∀ n:Nat,(n:Int)<=A.s.geo.gs->plAll A n=[]:=by
  intro n
  induction n with
  | zero=>intro _; rfl
  | succ n ih =>
   intro hn
   show (if A.fz n=true then plAll A n else plAll A n++runsA A n)=[]
   by_cases hf:A.fz n=true
   ·rw [if_pos hf]; exact ih (by omega)
   ·rw [if_neg hf,ih (by omega),grp n (by omega) (by simpa using hf)]; rfl
 exact this _ (by omega)
end Go.Proofs.YtelhlihjihklbaaGreat
end
section
open Go Go.Den Go.Proofs
namespace Go.Proofs.YtelhlihjihklbaaGreat
end Go.Proofs.YtelhlihjihklbaaGreat
namespace Go.Den
section
variable {P:Program} {w:World}
theorem Ow.h0 {base k l c:Nat} {T:TypeId} {a:Option Addr} {xs:List Value} (h:Ow P w base T k a l c xs):a=none->l=0/\c=0:=fun e=>by subst e; exact h.zero
theorem Ow.appZ {base k bytes l c m c2:Nat} {T ty:TypeId} {a a2:Option Addr} {xs ys:List Value} (hT:elemG P T k bytes) (hk:0<k) (h:Ow P w base T k a l c xs)
  (hr:Row w a2 ys) (hl:ys.length=m*k) (h0:a2=none->m=0/\c2=0) (h1:∀ v∈ys,v.oneCell'=true) (h63:(l+m)*bytes<=140737488355328) (hb:0<bytes) (hbase:base<=w.heap.size) :
  ∃ a' c' w',(Builtin.append_ #[T,T] ty #[.slice a l c,.slice a2 m c2]).run P w=.ok (.slice a' (l+m) c') w'/\Ow P w' base T k a' (l+m) c' (xs++ys)/\Mod (fun x=>∃ q,a=some q/\x=q.block) w w' /\
   ∀ q,a'=some q->(∃ q',a=some q'/\q.block=q'.block)\/w.heap.size<=q.block:=by
 by_cases hm:0<m
 ·cases a2 with
  | none=>have:=(h0 rfl).1; omega
  | some ad =>
   obtain ⟨q,c',w',r1,r2,r3,r4⟩:=h.appG (ty:=ty) (c2:=c2) hT hk hr hl hm h1 h63 hb hbase
   exact ⟨some q,c',w',r1,r2,r3,fun q' e=>by cases e; exact r4⟩
 have hm:m=0:=by omega
 subst hm
 have hy:ys=[]:=List.eq_nil_of_length_eq_zero (by omega)
 subst hy
 obtain ⟨e,i,zv,he,hi,hsz,hz,hzc,hby⟩:=hT
 cases a2 with
 | none =>
  obtain ⟨_,rfl⟩:=h0 rfl
  obtain ⟨e',he',how⟩:=h
  have:e'=e:=by rw [he] at he'; simpa using he'.symm
  subst this
  exact ⟨a,c,w,run_append_owned_none w base T ty e' i k he hi _ l xs how,⟨e',he,by simpa using how⟩,Mod.refl _ _,fun q e=>.inl ⟨q,e,rfl⟩⟩
 | some ad =>
  have hcell:∀ j u,([]:List Value)[j]?=some u->w.cell? (ad.add j)=some u:=fun j u hj=>by simp at hj
  cases a with
  | none =>
   obtain ⟨rfl,rfl⟩:=h.zero
   have hx:xs=[]:=List.eq_nil_of_length_eq_zero (by rw [h.len]; omega)
   subst hx
   obtain ⟨v',w',hrun,how',hgr,_⟩:=run_append_own w w.heap.size T ty e i zv k bytes he hi hz hsz hby hzc hk (.slice none 0 0) 0 [] (World.ownsRow_nil w _ e k) ad 0 c2 [] (by simp) hcell h1 (by simp [maxLen]) h63 (Nat.le_refl _)
   have hv:∃ a' c',v'=.slice a' (0+0) c':=by
    rcases how'.2 with ⟨hn,hz⟩ | ⟨g,cap,cur,hv,_⟩
    ·exact ⟨none,0,by rw [hn]⟩
    ·exact ⟨_,cap,hv⟩
   obtain ⟨a',c',rfl⟩:=hv
   have ho:Ow P w' w.heap.size T k a' (0+0) c' ([]++[]):=⟨e,he,how'⟩
   exact ⟨a',c',w',hrun,ho.mono hbase,((Mod.grown hgr).mono fun x hx e=>by cases e),fun q hq=>.inr (ho.base hq).1⟩
  | some q0 =>
   obtain ⟨e',he',how⟩:=h
   have:e'=e:=by rw [he] at he'; simpa using he'.symm
   subst this
   rcases how.2 with ⟨hv,hx⟩ | ⟨g,cap,cur,hv,hbg,hg,hnc,hcm,hcs,htake⟩
   ·simp at hv
   ·simp at hv
    obtain ⟨rfl,rfl⟩:=hv
    obtain ⟨v',w',hrun,how',hgr,_⟩:=run_append_own w base T ty e' i zv k bytes he hi hz hsz hby hzc hk (.slice (some ⟨g,0,none⟩) l c) l xs how ad 0 c2 [] (by simp) hcell h1 (by omega) h63 hbase
    have hr2:=run_append_room (P:=P) w T ty e' i he hi g l c cur hg ad 0 c2 [] (by simp) hcell h1 (by omega) (by rw [hsz,List.length_nil,hcs,Nat.add_zero]; exact Nat.mul_le_mul_right _ hnc)
    have hrun':=hrun
    rw [hr2] at hrun'
    simp only [Result.ok.injEq] at hrun'
    obtain ⟨rfl,_⟩:=hrun'
    exact ⟨_,_,w',hrun,⟨e',he,how'⟩,(Mod.grown hgr).mono fun x hx e=>⟨_,rfl,by simpa [Value.ownBlock] using e.symm⟩,fun q e=>.inl ⟨_,rfl,by cases e; rfl⟩⟩
end
end Go.Den
namespace Go.Proofs.YtelhlihjihklbaaGreat
section
variable {w w':World} {R R':Nat->Prop} {a v d:Nat} {A:Az} {K:Value->World->Prop}
structure Rr (w0:World) (R:Nat->Prop) (w:World) (p:Option Addr) (L:Rl) (c:Nat):Prop where
 ow:Ow Tryz.prog w w0.heap.size 45 2 p L.length c (rowC L)
 nr:∀ q,p=some q->¬ R q.block
theorem plAll_b {A:Az} (hg:gOk A.s.geo=true) {n:Nat} (hn:(n:Int)<=A.s.geo.gs):(plAll A n).length<=2048:=by
 obtain ⟨_,_,_,g4,_⟩:=gOk_iff.1 hg
 have:=plAll_len A n
 omega
theorem allA_b {A:Az} (hg:gOk A.s.geo=true):(allA A).length<=2048:=by
 obtain ⟨_,_,g3,_⟩:=gOk_iff.1 hg
 exact plAll_b hg (by omega)
set_option maxRecDepth 4000 in
theorem planAll_c (h:Ao R w a v d A) (hk:∀ w' R' p c,Mod R w w'->Sb R R' w->Ao R' w' a v d A->Rr w R' w' p (allA A) c->K (.slice p (allA A).length c) w') :
  Cal Tryz.prog F_plan_All #[.pointer (some ⟨a,0,none⟩)] w K:=by
 apply C_plan_All
 unfold D_plan_All
 have hg:=h.ok
 obtain ⟨_,_,g3,_⟩:=gOk_iff.1 hg
 have hda:=h.dlt
 refine ff rfl (aVol_c h ⟨_,rfl,aGeo_c h fun w2 m2=>⟨_,rfl,A.s.geo.gs,field_ggs _,?_⟩⟩)
 have eA:allA A=plAll A A.s.geo.gs.toNat:=rfl
 rw [eA] at hk
 obtain ⟨n,hn⟩:=Int.eq_ofNat_of_zero_le (show 0<=A.s.geo.gs by omega)
 have hb:∀ i,i<=n->(plAll A i).length<=2048:=fun i hi=>plAll_b hg (by omega)
 rw [hn,Int.toNat_natCast] at hk
 rw [hn]
 refine ⟨fun x W=>∃ (i c:Nat) (p:Option Addr) (R':Nat->Prop),x=[.slice p (plAll A i).length c,.int .i64 i]/\i<=n/\Ao R' W a v d A/\Sb R R' w/\Mod R w W/\Rr w R' W p (plAll A i) c,fun x _=>(n-nI x 1).toNat,
  ⟨0,0,none,R,rfl,Nat.zero_le _,h.nos m2,Sb.refl _ _,m2.mono (fun _ _ e=>e.elim),⟨Ow.nilG elemG_runs,fun _ e=>by cases e⟩⟩,?_⟩
 rintro x W ⟨i,c,p,R',rfl,hi,h1,s1,m1,o1,hp⟩
 refine ⟨_,rfl,cond_of (fun hlt=>?_) (fun hlt=>?_)⟩
 ·have hlt:=of_decide_eq_true hlt
  have zW:=m1.size
  have b1:=hb i hi
  have b2:=hb (i+1) (by omega)
  refine aFrozen_c h1 ⟨_,rfl,?_⟩
  refine Share.cut (fun z w7=>∃ c' p' R',z=[.slice p' (plAll A (i+1)).length c']/\Ao R' w7 a v d A/\Sb R R' w/\Mod R w w7/\Rr w R' w7 p' (plAll A (i+1)) c') ?_ ?_
  ·refine cond_of (fun hf=>⟨_,_,_,rfl,?_⟩) (fun hf=>?_)
   ·have hf:¬ A.fz i=true:=by simpa using hf
    have e1:plAll A (i+1)=plAll A i++runsA A i:=by
     show (if A.fz i=true then plAll A i else plAll A i++runsA A i)=_
     rw [if_neg hf]
    rw [e1] at b2 |-
    rw [List.length_append] at b2 |-
    refine aRuns_c h1 fun w5 R5 p5 c5 m5 s5 h5 o5 hp5=>⟨_,_,_,rfl,?_⟩
    have z5:=m5.size
    have o1':=o1.keep m5 fun q hq=>hp q hq
    have hpp:∀ q,p=some q->¬ R5 q.block:=fun q hq e=>by
     rcases s5 _ e with e | e
     ·exact hp q hq e
     ·have:=(o1.base hq).2; omega
    obtain ⟨a',c',w6,run,o6,m6,hq6⟩:=o1'.appZ (ty:=45) (c2:=c5) elemG_runs (by omega) o5.rowU.row (rowC_len _) o5.h0 (rowC_one _) (by omega) (by omega) (by omega)
    refine ⟨a',_,c',w6,run,c',a',R5,rfl,?_,s1.trans s5 zW,?_,⟨?_,fun q hq=>?_⟩⟩
    ·refine h5.keep m6 (fun z hz e=>?_) fun z e=>?_
     ·obtain ⟨q',hq',rfl⟩:=e
      exact hpp q' hq' hz
     ·obtain ⟨q',hq',rfl⟩:=e
      have:=(o1.base hq').1; omega
    ·refine (Mod.sb m1 s1 m5).trans m6 fun z hz e=>?_
     obtain ⟨q',hq',rfl⟩:=e
     have:=(o1.base hq').1; omega
    ·rw [List.length_append,rowC_app]; exact o6
    ·rcases hq6 q hq with ⟨q',hq',e⟩ | e
     ·rw [e]; exact hpp q' hq'
     ·intro hz; have:=h5.lt _ hz; omega
   ·have hf:A.fz i=true:=by simpa using hf
    have e1:plAll A (i+1)=plAll A i:=by
     show (if A.fz i=true then plAll A i else plAll A i++runsA A i)=_
     rw [if_pos hf]
    rw [e1]
    exact ⟨c,p,R',rfl,h1,s1,m1,o1,hp⟩
  ·rintro z w7 ⟨c',p',R6,rfl,k1,k2,k3,k4⟩
   rw [wrap64 (x:=(i:Int)+1) (by omega) (by omega)]
   exact ⟨⟨i+1,c',p',R6,rfl,by omega,k1,k2,k3,k4⟩,by simp [nI,nth]; omega⟩
 ·have hlt:=of_decide_eq_false hlt
  have:i=n:=by omega
  subst this
  exact ⟨_,_,_,rfl,hk W R' p c m1 s1 h1 ⟨o1,hp⟩⟩
theorem plan1_c {x y:Int×Int} (hk:∀ w',Mod No w w'->K (.bool (gtR x y)) w'):Cal Tryz.prog F_plan_Longest_1 #[.agg ⟨acV x⟩,.agg ⟨acV y⟩] w K:=by
 apply C_plan_Longest_1
 unfold D_plan_Longest_1
 obtain ⟨w1,a1,a2,a3,a4⟩:=box_u (P:=Tryz.prog) (w:=w) (T:=57) (cs:=acV x)
 obtain ⟨w2,b1,b2,b3,b4⟩:=box_u (P:=Tryz.prog) (w:=w1) (T:=57) (cs:=acV y)
 exact ⟨_,w1,a1,_,w2,b1,_,(a2.keep b3 id).at.fld (v:=.int .i64 x.2) sc_int rfl,_,b2.at.fld (v:=.int .i64 y.2) sc_int rfl,hk w2 (a3.no b3)⟩
set_option maxRecDepth 4000 in
theorem pick_c {bt:Int×Int->Int×Int->Bool} {f:Value} {L:Rl} {p:Option Addr} {c base:Nat} (o:Ow Tryz.prog w base 45 2 p L.length c (rowC L))
  (hB:∀ (x y:Int×Int) (w0:World) (K0:Value->World->Prop),(∀ w',Mod No w0 w'->K0 (.bool (bt x y)) w')->Dyn Tryz.prog f #[.agg ⟨acV x⟩,.agg ⟨acV y⟩] w0 K0) (hn:L.length<=5000)
  (hk:∀ w',Mod No w w'->K (.agg ⟨acV (plPick bt L L.length)⟩) w'):Cal Tryz.prog F_plan_pick #[.slice p L.length c,f] w K:=by
 apply C_plan_pick
 unfold D_plan_pick
 obtain ⟨w1,a1,a2,a3,a4⟩:=new_u (P:=Tryz.prog) (w:=w) (T:=57) zero_run
 obtain ⟨w2,b1,b2,b3,b4⟩:=new_u (P:=Tryz.prog) (w:=w1) (T:=57) zero_run
 obtain ⟨w3,c1,c2,c3,c4⟩:=b2.put (T:=57) (vs:=acV (0,0)) agg_run rfl rfl (acV_one _)
 have z1:=a2.lt
 have p3:AtU w3 w.heap.size 0 (acV (0,0)):=(a2.keep b3 id).keep c3 (fun e=>by have e:w.heap.size=w1.heap.size:=e; omega)
 have m3:Mod No w w3:=(a3.no b3).own c3 (by omega)
 refine ⟨_,w1,a1,_,build_run0,_,w2,b1,w3,c1,?_⟩
 refine ⟨fun x W=>∃ (i:Nat) (y:Value),x=[.int .i64 i,y]/\i<=L.length/\Mod No w W/\AtU W w.heap.size 0 (acV (0,0))/\AtU W w1.heap.size 0 (acV (plPick bt L i)),fun x _=>(L.length-nI x 0).toNat,
  ⟨0,_,rfl,Nat.zero_le _,m3,p3,c2⟩,?_⟩
 rintro x W ⟨i,y,rfl,hi,m,q4,q5⟩
 have l5:=q5.lt
 have zW:=m.size
 refine ⟨_,rfl,cond_of (fun hlt=>?_) (fun hlt=>?_)⟩
 ·have hlt:i<L.length:=by have:=of_decide_eq_true hlt; omega
  obtain ⟨g,rfl,hg,hat,ix,ld,_,_⟩:=runAt (o.nos m) (rAt_some hlt)
  obtain ⟨w5,d1,d2,d3,d4⟩:=new_u (P:=Tryz.prog) (w:=W) (T:=57) zero_run
  obtain ⟨w6,e1,e2,e3,e4⟩:=d2.put (T:=57) (vs:=acV (rAt L i)) agg_run rfl rfl (acV_one _)
  have k5:=(q5.keep d3 id).keep e3 (fun e=>by have e:w1.heap.size=W.heap.size:=e; omega)
  have k4:=(q4.keep d3 id).keep e3 (fun e=>by have e:w.heap.size=W.heap.size:=e; omega)
  have m6:Mod No w w6:=(m.no d3).own e3 (by omega)
  refine ⟨_,ix,_,ld _ hat.at,_,w5,d1,w6,e1,?_⟩
  refine Share.cut (fun z w8=>z=[.bool (decide (i=0) || bt (rAt L i) (plPick bt L i))]/\Mod No w6 w8) (cond_of (fun h0=>⟨?_,Mod.refl _ _⟩) fun h0=>⟨_,e2.at.all agg_run rfl,_,k5.at.all agg_run rfl,hB _ _ _ _ fun w7 m7=>⟨_,rfl,?_,m7⟩⟩) ?_
  ·have h0:i=0:=by simpa using h0
   rw [decide_eq_true h0]; rfl
  ·have h0:¬ i=0:=by simpa using h0
   rw [decide_eq_false h0]; rfl
  rintro z w8 ⟨rfl,m8⟩
  refine ⟨_,rfl,Share.cut (fun z w10=>Mod No w w10/\AtU w10 w.heap.size 0 (acV (0,0))/\AtU w10 w1.heap.size 0 (acV (plPick bt L (i+1)))) (cond_of (fun hb=>?_) (fun hb=>?_)) ?_⟩
  ·have e:plPick bt L (i+1)=rAt L i:=by
    show (if i=0\/bt (rAt L i) (plPick bt L i)=true then rAt L i else plPick bt L i)=_
    rw [if_pos (by simpa using hb)]
   rw [e]
   obtain ⟨w9,y1,y2,y3,y4⟩:=(k5.keep m8 id).put (T:=57) (vs:=acV (rAt L i)) agg_run rfl rfl (acV_one _)
   exact ⟨_,(e2.keep m8 id).at.all agg_run rfl,w9,y1,(m6.no m8).own y3 (by omega),(k4.keep m8 id).keep y3 (fun e=>by have e:w.heap.size=w1.heap.size:=e; omega),y2⟩
  ·have e:plPick bt L (i+1)=plPick bt L i:=by
    show (if i=0\/bt (rAt L i) (plPick bt L i)=true then rAt L i else plPick bt L i)=_
    rw [if_neg (by
     intro h
     rcases h with h | h
     ·rw [decide_eq_true h] at hb; cases hb
     ·rw [h] at hb; simp at hb)]
   rw [e]
   exact ⟨m6.no m8,k4.keep m8 id,k5.keep m8 id⟩
  rintro z w10 ⟨m10,k4,k5⟩
  rw [wrap64 (x:=(i:Int)+1) (by omega) (by omega)]
  exact ⟨⟨i+1,_,rfl,by omega,m10,k4,k5⟩,by simp [nI,nth]; omega⟩
 ·have hlt:=of_decide_eq_false hlt
  have:i=L.length:=by omega
  subst this
  obtain ⟨w9,y1,y2,y3,y4⟩:=q4.put (T:=57) (vs:=acV (plPick bt L L.length)) agg_run rfl rfl (acV_one _)
  exact ⟨_,q5.at.all agg_run rfl,w9,y1,_,y2.at.all agg_run rfl,hk w9 (m.own y3 (Nat.le_refl _))⟩
theorem longest_c (h:Ao R w a v d A) (hk:∀ w' R',Mod R w w'->Sb R R' w->Ao R' w' a v d A->K (.agg ⟨acV (longL (allA A))⟩) w'):Cal Tryz.prog F_plan_Longest #[.pointer (some ⟨a,0,none⟩)] w K:=by
 apply C_plan_Longest
 unfold D_plan_Longest
 have hb:=allA_b (A:=A) h.ok
 have hda:=h.dlt
 obtain ⟨w1,a1,a2,a3,a4⟩:=new_u (P:=Tryz.prog) (w:=w) (T:=57) zero_run
 have n1:¬ R w.heap.size:=fun e=>by have:=h.lt _ e; omega
 refine ⟨_,w1,a1,planAll_c (h.nos a3) fun w2 R2 p c m2 s2 h2 o2=>⟨_,_,_,rfl,pick_c o2.ow (fun x y w0 K0 hK=>⟨_,_,_,rfl,plan1_c hK⟩) (by omega) fun w3 m3=>⟨_,rfl,?_⟩⟩⟩
 have z1:=a3.size
 have zl:=a2.lt
 have z2:=m2.size
 obtain ⟨w4,y1,y2,y3,y4⟩:=((a2.keep m2 n1).keep m3 id).put (T:=57) (vs:=acV (longL (allA A))) agg_run rfl rfl (acV_one _)
 have nq:¬ R2 w.heap.size:=fun e=>by
  rcases s2 _ e with e | e
  ·exact n1 e
  ·omega
 refine ⟨w4,y1,_,y2.at.all agg_run rfl,hk w4 R2 ?_ (s2.up z1) ((h2.nos m3).own y3 nq (by omega))⟩
 exact (((a3.mono fun _ _ e=>e.elim).trans m2 fun x _ e=>e).no m3).trans y3 fun x hx e=>by have e:x=w.heap.size:=e; omega
end
end Go.Proofs.YtelhlihjihklbaaGreat
end
section
open Go Go.Den Go.Proofs
namespace Go.Proofs.YtelhlihjihklbaaGreat
theorem plSum_b {l:Rl} (h:∀ x∈l,1<=x.2/\x.2<=128):∀ i,i<=l.length->(i:Int)<=plSum l i/\plSum l i<=128*i
 | 0,_=>⟨by show (0:Int)<=0; omega,by show (0:Int)<=_; omega⟩
 | i+1,hi=>by
  have h1:=plSum_b h i (by omega)
  have h2:=h _ (rAt_mem (l:=l) (i:=i) (by omega))
  show ((i+1:Nat):Int)<=plSum l i+(rAt l i).2/\plSum l i+(rAt l i).2<=128*(i+1:Nat)
  omega
theorem longL_b {l:Rl} (h:∀ x∈l,1<=x.2/\x.2<=128):0<=(longL l).2/\(longL l).2<=128:=by
 by_cases h0:l.length=0
 ·have:longL l=(0,0):=by unfold longL; rw [h0]; rfl
  rw [this]; exact ⟨Int.le_refl _,by decide⟩
 ·have:=h _ (plPick_mem (bt:=gtR) (l:=l) (i:=l.length) (by omega) (Nat.le_refl _))
  unfold longL; omega
section
variable {w w':World} {R R':Nat->Prop} {a v d:Nat} {A:Az} {K:Value->World->Prop}
set_option maxRecDepth 4000 in
theorem total_c {L:Rl} {p:Option Addr} {c base:Nat} (o:Ow Tryz.prog w base 45 2 p L.length c (rowC L)) (hL:∀ x∈L,1<=x.2/\x.2<=128) (hn:L.length<=5000)
  (hk:∀ w',Mod No w w'->K (.int .i64 (sumL L)) w'):Cal Tryz.prog F_plan_total #[.slice p L.length c] w K:=by
 apply C_plan_total
 unfold D_plan_total
 refine ⟨fun x W=>∃ i:Nat,x=[.int .i64 (plSum L i),.int .i64 i]/\i<=L.length/\Mod No w W,fun x _=>(L.length-nI x 1).toNat,⟨0,rfl,Nat.zero_le _,Mod.refl _ _⟩,?_⟩
 rintro x W ⟨i,rfl,hi,m⟩
 refine ⟨_,rfl,cond_of (fun hlt=>?_) (fun hlt=>?_)⟩
 ·have hlt:i<L.length:=by have:=of_decide_eq_true hlt; omega
  obtain ⟨g,rfl,hg,hat,ix,ld,_,_⟩:=runAt (o.nos m) (rAt_some hlt)
  obtain ⟨w4,d1,d2,d3,d4⟩:=new_u (P:=Tryz.prog) (w:=W) (T:=57) zero_run
  obtain ⟨w5,e1,e2,e3,e4⟩:=d2.put (T:=57) (vs:=acV (rAt L i)) agg_run rfl rfl (acV_one _)
  have b1:=plSum_b hL i hi
  have b2:=hL _ (rAt_mem hlt)
  refine ⟨_,ix,_,ld _ hat.at,_,w4,d1,w5,e1,_,rfl,_,e2.at.fld (v:=.int .i64 (rAt L i).2) sc_int rfl,?_⟩
  rw [wrap64 (x:=(i:Int)+1) (by omega) (by omega),wrap64 (x:=plSum L i+(rAt L i).2) (by omega) (by omega)]
  exact ⟨⟨i+1,rfl,by omega,m.no (d3.own e3 (Nat.le_refl _))⟩,by simp [nI,nth]; omega⟩
 ·have hlt:=of_decide_eq_false hlt
  have:i=L.length:=by omega
  subst this
  exact ⟨_,rfl,hk W m⟩
theorem score_c (h:Ao R w a v d A) (hk:∀ w' R',Mod R w w'->Sb R R' w->Ao R' w' a v d A->K (.int .i64 (scoreL (allA A))) w'):Cal Tryz.prog F_plan_Score #[.pointer (some ⟨a,0,none⟩)] w K:=by
 apply C_plan_Score
 unfold D_plan_Score
 have hb:=allA_b (A:=A) h.ok
 have hp:∀ x∈allA A,1<=x.2/\x.2<=128:=plAll_pos
 refine planAll_c h fun w2 R2 p c m2 s2 h2 o2=>⟨_,_,_,rfl,total_c o2.ow hp (by omega) fun w3 m3=>⟨_,rfl,cond_of (fun h0=>?_) (fun h0=>?_)⟩⟩
 ·have h0:sumL (allA A)=0:=by simpa using h0
  have e:scoreL (allA A)=0:=by unfold scoreL; rw [if_pos h0]
  rw [e] at hk
  exact hk w3 R2 (m2.no m3) s2 (h2.nos m3)
 ·have h0:¬ sumL (allA A)=0:=by simpa using h0
  have e:scoreL (allA A)=1000-1000*(longL (allA A)).2 / sumL (allA A):=by unfold scoreL; rw [if_neg h0]
  rw [e] at hk
  have b1:((allA A).length:Int)<=sumL (allA A)/\sumL (allA A)<=128*(allA A).length:=plSum_b hp _ (Nat.le_refl _)
  have b2:=longL_b hp
  refine longest_c (h2.nos m3) fun w4 R4 m4 s4 h4=>⟨_,rfl,(longL (allA A)).2,(fun w=>by kernel_rfl),?_⟩
  rw [wrap64 (x:=1000*(longL (allA A)).2) (by omega) (by omega)]
  have h3:=Int.ediv_nonneg (a:=1000*(longL (allA A)).2) (b:=sumL (allA A)) (by omega) (by omega)
  have h5:=Int.ediv_le_self (a:=1000*(longL (allA A)).2) (sumL (allA A)) (by omega)
  refine ⟨_,quoR (by omega) (by omega) (by omega),?_⟩
  rw [wrap64 (x:=1000-1000*(longL (allA A)).2 / sumL (allA A)) (by omega) (by omega)]
  exact hk w4 R4 (Mod.sb (m2.no m3) s2 m4) (s2.trans s4 (by have:=m2.size; have:=m3.size; omega)) h4
-- of none
end
end Go.Proofs.YtelhlihjihklbaaGreat
end
