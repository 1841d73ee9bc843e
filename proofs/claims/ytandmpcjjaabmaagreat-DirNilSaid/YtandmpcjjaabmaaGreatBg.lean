/- Parts of the proof, in order: what the statement leans on. -/
import Derived.Test.YtandmpcjjaabmaaGreatBf
section
open Go Go.Den Go.Proofs
namespace Go.Proofs.YtandmpcjjaabmaaGreat
def gD:Gm:=⟨24,8,2⟩
theorem gE_D:gE gD=gD:=by decide
def hD0:List Hd:=[hBase gD 0,hBase gD 1]
def nFz:Int->Bool:=fun _=>false
def aD (V:Ps) (nx:Int):Az:=⟨⟨1,gD⟩,V,[],nx,hD0,nFz⟩
theorem aD_E (k:Nat):aE gD (hsE gD) k=aD ⟨⟨dE gD,k,[]⟩,0,[]⟩ (nE gD):=by
 have:hsE gD=hD0:=by unfold hsE; rw [gE_D]; rfl
 unfold aE
 rw [this,gE_D]; rfl
theorem tkD:takeTo gD hD0 nFz (findX true gD) (spB gD 0).1 (spB gD 0).2.1 (spB gD 0).2.2 gD.gs.toNat=some (0,3):=by decide +kernel
theorem frD:needS 0 256<=(freeA (aD ⟨⟨newSt 0,0,[]⟩,0,[]⟩ 0) gD.gs.toNat).1:=by decide +kernel
theorem blD (V:Ps) (nx:Int):(blockA (aD V nx) 0).2.1=5/\(blockA (aD V nx) 0).2.2.2=0:=by
 unfold blockA
 rw [show takeTo (aD V nx).s.geo (aD V nx).hs (aD V nx).fz (findX true (aD V nx).s.geo) (spB (aD V nx).s.geo 0).1 (spB (aD V nx).s.geo 0).2.1 (spB (aD V nx).s.geo 0).2.2 (aD V nx).s.geo.gs.toNat=some (0,3) from tkD]
 exact ⟨rfl,rfl⟩
theorem addD {V:Ps} {nx:Int} (h:V.last=0):AddOk (newF (aD V nx)) 1 rootN where
 fr:=frD
 bl:=⟨(blD V nx).2,by rw [show (blockA (newF (aD V nx)).A 0).2.1=5 from (blD V nx).1]; show (gKind gD 5).1=4; decide⟩
 no:=by unfold addI; rw [show (blockA (newF (aD V nx)).A 0).2.1=5 from (blD V nx).1]; decide
 gp:=by show (gPlace gD 1).2.2=0; decide
 la:=by show V.last+20<=1000000; omega
 ml:=by show ([]:List Int).length+20<=1000000; decide
theorem slotD1 (k:Nat):slotV (⟨⟨dE gD,k,[]⟩,0,[]⟩:Ps) gD 1=(rootN,0) :=
 (slot_new gE_D (k:=k) (s:=1) (p:=1) (b:=0) (by decide) (by decide) (by decide)).trans root_back
theorem slotD3 (k:Nat):slotV (⟨⟨dE gD,k,[]⟩,0,[]⟩:Ps) gD 3=(nZ,0) :=
 (slot_new gE_D (k:=k) (s:=3) (p:=3) (b:=0) (by decide) (by decide) (by decide)).trans slot_none
theorem dirD0 {V:Ps} {nx:Int} (h:slotV V gD 1=(rootN,0)):Dir0 (newF (aD V nx)) 1 rootN:=⟨h,rfl,rfl,rfl,newF_mu _⟩
def en5:Dt:=⟨5,false,[97]⟩
def en6:Dt:=⟨6,false,[98]⟩
def en7:Dt:=⟨7,false,[99]⟩
def xa:Bk:=overB z256 (0*32) (enB en5)
def xb:Bk:=overB xa (1*32) (enB en6)
def xc:Bk:=overB xb (0*32) (enB dtZ)
def xd:Bk:=overB xc (0*32) (enB en7)
theorem xa_f:findD xa [98] 8=none:=by decide +kernel
theorem xa_r:roomD xa 8=some 1:=by decide +kernel
theorem xb_f:findD xb [97] 8=some 0:=by decide +kernel
theorem xc_f:findD xc [99] 8=none:=by decide +kernel
theorem xc_r:roomD xc 8=some 0:=by decide +kernel
theorem xd_l:entsD xd 8=[(en7,0),(en6,1)]:=by decide +kernel
theorem build_dirs (p:Option Addr):Al (Instr.build 80 #[(0,.pointer p)]) (.agg ⟨[.pointer p]⟩):=fun w=>by kernel_rfl
theorem build_rdir:Al (Instr.build 107 #[]) (.agg ⟨[.slice none 0 0]⟩):=fun w=>by kernel_rfl
theorem built_past (w:World):(Instr.buildSlice 43 1 #[(0,.slice none 0 0)]).run Tryz.prog w=.ok (.slice (some ⟨w.heap.size,0,none⟩) 1 1) (w.alloc (.cells ⟨[.slice none 0 0]⟩ 27)):=by kernel_rfl
theorem build_play16 (p q r s:Option Addr) (a:Option Addr) (l c:Nat):Al (Instr.build 45 #[(0,.pointer p),(1,.pointer q),(2,.pointer r),(3,.pointer s),(4,.slice a l c)]) (.agg ⟨[.pointer p,.pointer q,.pointer r,.pointer s,.slice a l c]⟩):=fun w=>by kernel_rfl
theorem layF_up (F:Fy) (k b:Int) (j:Nat) (e:Dt):(layF F k b j e).A.V.last<=F.A.V.last+1/\((layF F k b j e).mi k).length=(F.mi k).length+1:=by
 refine ⟨(pat_last _ _ _ _ _).2,?_⟩
 show (if k=k then F.mi k++_ else _).length=_
 rw [if_pos rfl,List.length_append]; rfl
section
variable {w w':World} {R R':Nat->Prop} {f a v d D:Nat} {F:Fy} {K:Value->World->Prop}
theorem shape16_c (hk:∀ w',Mod No w w'->K (.agg ⟨gV gD⟩) w'):Cal Tryz.prog F_leveelaw16_shape #[.agg ⟨gV gZ⟩] w K:=by
 apply C_leveelaw16_shape
 unfold D_leveelaw16_shape
 obtain ⟨w1,b1,b2,b3,b4⟩:=box_u (P:=Tryz.prog) (w:=w) (T:=39) (cs:=gV gZ)
 obtain ⟨w2,c1,c2,c3,c4⟩:=new_u (P:=Tryz.prog) (w:=w1) (T:=39) zero_geo
 refine ⟨_,w1,b1,_,w2,c1,Share.dup ⟨_,(b2.keep c3 id).at.all agg_geo rfl,rgRight_c fun w3 m3=>⟨_,rfl,tt (by decide) ⟨_,rfl,tt rfl ⟨_,build_geo3 24 8 2,?_⟩⟩⟩⟩⟩
 obtain ⟨w4,d1,d2,d3,d4⟩:=(c2.keep m3 id).put (T:=39) (vs:=gV gD) agg_geo rfl rfl (one_gV _)
 exact ⟨w4,d1,_,d2.at.all agg_geo rfl,hk w4 (((b3.no c3).no m3).own d3 (by omega))⟩
set_option maxRecDepth 4000 in
theorem begin16_c (hk : ∀ w' R f a v d k p D x0 x1 x3 x4, Mod No w w' → Fo R w' f a v d (newF (aD ⟨⟨dE gD, k, []⟩, 0, []⟩ (nE gD))) → (∀ z, R z → w.heap.size ≤ z) → AtU w' D 0 [.pointer (some ⟨f, 0, none⟩)] → ¬ R D → AtU w' p 0 [x0, x1, .pointer (some ⟨D, 0, none⟩), x3, x4] → ¬ R p → w.heap.size ≤ D → w.heap.size ≤ p →
      K (.pointer (some ⟨p, 0, none⟩)) w') : Cal Tryz.prog F_leveelaw16_begin #[.agg ⟨gV gZ⟩] w K := by
  apply C_leveelaw16_begin
  unfold D_leveelaw16_begin
  obtain ⟨w1, b1, b2, b3, b4⟩ := box_u (P := Tryz.prog) (w := w) (T := 39) (cs := gV gZ)
  refine ⟨_, w1, b1, _, b2.at.all agg_geo rfl, shape16_c fun w2 m2 => ⟨_, rfl, ?_⟩⟩
  obtain ⟨w3, c1, c2, c3, c4⟩ := (b2.keep m2 id).put (T := 39) (vs := gV gD) agg_geo rfl rfl (one_gV _)
  have M3 : Mod No w w3 := (b3.no m2).own c3 (Nat.le_refl _)
  refine ⟨w3, c1, _, c2.at.all agg_geo rfl, ?_⟩
  have z3 := M3.size
  have ee : (⟨gV gD⟩ : Array Value) = ⟨gV (gE gD)⟩ := by rw [gE_D]
  rw [ee]
  refine start_c (g := gD) (by rw [gE_D]; exact c2) fun w4 R f a v d k m4 h4 lo4 => ?_
  rw [aD_E] at h4
  have M4 := M3.no m4
  apply C_dir_New
  unfold D_dir_New
  have hlt := h4.lt
  obtain ⟨w5, d1, d2, d3, d4⟩ := box_u (P := Tryz.prog) (w := w4) (T := 80) (cs := [.pointer (some ⟨f, 0, none⟩)])
  obtain ⟨w6, e1, e2, e3, e4⟩ := box_u (P := Tryz.prog) (w := w5) (T := 107) (cs := [.slice none 0 0])
  refine ff rfl ⟨_, build_dirs _, _, w5, d1, _, rfl, ff rfl ⟨_, build_rdir, _, w6, e1, _, _, _, _, built_past w6, ?_⟩⟩
  have m7 : Mod No w6 (w6.alloc (.cells ⟨[.slice none 0 0]⟩ 27)) := (Mod.refl No w6).alloc _
  generalize w6.alloc (.cells ⟨[.slice none 0 0]⟩ 27) = w7 at *
  obtain ⟨w8, g1, g2, g3, g4⟩ := box_u (P := Tryz.prog) (w := w7) (T := 45) (cs := [.pointer (some ⟨d, 0, none⟩), .pointer (some ⟨v, 0, none⟩), .pointer (some ⟨w4.heap.size, 0, none⟩), .pointer (some ⟨w5.heap.size, 0, none⟩), .slice (some ⟨w6.heap.size, 0, none⟩) 1 1])
  have M8 : Mod No w4 w8 := ((d3.no e3).no m7).no g3
  have z4 := M4.size
  have z7 := m7.size
  refine ⟨_, build_play16 _ _ _ _ _ _ _, _, w8, g1, hk w8 R f a v d k w7.heap.size w4.heap.size _ _ _ _ (M4.no M8) (h4.nos M8) (fun z hz => ?_) (((d2.keep e3 id).keep m7 id).keep g3 id) (fun e => by have := hlt _ e; omega) g2 (fun e => by have := hlt _ e; omega) (by omega) (by omega)⟩
  have := lo4 z hz
  omega
set_option maxRecDepth 4000 in
theorem known16_c (hk:∀ w',Mod No w w'->K (.bool true) w'):Cal Tryz.prog F_leveelaw16_known #[] w K:=by
 apply C_leveelaw16_known
 unfold D_leveelaw16_known
 refine ⟨_,build_geo,begin16_c fun w1 R1 f a v d k p D x0 x1 x3 x4 M1 h1 lo1 pD pnD pp pnp zD zp=>⟨_,rfl,ff rfl ?_⟩⟩
 have sl:=slotD1 k
 have vl:(⟨⟨dE gD,k,[]⟩,0,[]⟩:Ps).last=0:=rfl
 generalize (⟨⟨dE gD,k,[]⟩,0,[]⟩:Ps)=V at *
 generalize nE gD=nx at *
 have ok:=addD (nx:=nx) vl
 have q0:=dirD0 (nx:=nx) sl
 have ldD:∀ {W:World},AtU W p 0 [x0,x1,.pointer (some ⟨D,0,none⟩),x3,x4]->Ru (Instr.loadAt 22 (.pointer (some (Addr.add ⟨p,0,none⟩ 2)))) W (.pointer (some ⟨D,0,none⟩)) W:=fun h=>h.at.fld (j:=2) (v:=.pointer (some ⟨D,0,none⟩)) sc_pdirs rfl
 have base:∀ {w2:World} {R2:Nat->Prop} {w3:World},Mod No w w2->Mod R2 w2 w3->(∀ z,R2 z->w.heap.size<=z)->Mod No w w3:=fun h1 h2 h3=>h1.trans h2 fun x hx e=>by have:=h3 x e; omega
 have up:∀ {R2 R3:Nat->Prop} {w2:World},Sb R2 R3 w2->w.heap.size<=w2.heap.size->(∀ z,R2 z->w.heap.size<=z)->∀ z,R3 z->w.heap.size<=z:=fun h1 h2 h3 z hz=>(h1 z hz).elim (h3 z) fun e=>by omega
 have no:∀ {R2 R3:Nat->Prop} {w2:World} {q:Nat},Sb R2 R3 w2->q<w2.heap.size->¬ R2 q->¬ R3 q:=fun h1 h2 h3 e=>(h1 _ e).elim h3 fun e=>by omega
 refine ⟨_,rfl,_,ldD pp,add0_c (by omega) pD pnD h1 q0 ok (by decide) (by decide) (by decide) fun w2 R2 y2 m2 s2 h2 q1 H1=>⟨_,_,rfl,?_⟩⟩
 have eb:(blockA (newF (aD V nx)).A 0).2.1=5:=(blD V nx).1
 obtain ⟨l2a,l2b⟩:=layF_up (addF (newF (aD V nx)) 1 rootN) 1 5 0 en5
 have hA:(addF (newF (aD V nx)) 1 rootN).A.V.last<=3/\((addF (newF (aD V nx)) 1 rootN).mi 1).length<=2:=by
  obtain ⟨_,_,_,_,_,_,_,k8,k9,_⟩:=wrS_in (newF (aD V nx)) 1 rootN_wf z256 1
  rw [addF_eq]
  refine ⟨?_,?_⟩
  ·have:=(pat_last (wrS (newF (aD V nx)) 1 rootN z256 1).F.A.V (gPlace (wrS (newF (aD V nx)) 1 rootN z256 1).F.A.s.geo 1).1 (64*(gPlace (wrS (newF (aD V nx)) 1 rootN z256 1).F.A.s.geo 1).2.1) (inoB (addI (newF (aD V nx)) rootN)) (wrS (newF (aD V nx)) 1 rootN z256 1).af).2
   have k9:_<=V.last+2:=k9
   refine Nat.le_trans this ?_
   omega
  ·show (if (1:Int)=1 then (wrS (newF (aD V nx)) 1 rootN z256 1).F.mi 1++[((wrS (newF (aD V nx)) 1 rootN z256 1).F.A.V.last:Int)+1] else (wrS (newF (aD V nx)) 1 rootN z256 1).F.mi 1).length<=2
   rw [if_pos rfl,List.length_append,k8]; exact Nat.le_refl 2
 rw [eb] at q1 h2
 have h2:Fo R2 w2 f a v d (layF (addF (newF (aD V nx)) 1 rootN) 1 5 0 en5):=h2
 have q2:=q1.lay H1 (j:=0) (by omega) (e:=en5) (by decide)
 have q2:Dir1 (layF (addF (newF (aD V nx)) 1 rootN) 1 5 0 en5) 1 _ 5 xa:=q2
 generalize layF (addF (newF (aD V nx)) 1 rootN) 1 5 0 en5=F2 at *
 generalize addI (newF (aD V nx)) rootN=i at *
 have z1:=M1.size
 have M2:=base M1 m2 lo1
 have lo2:=up s2 M1.size lo1
 have pD2:=pD.keep m2 pnD
 have pp2:=pp.keep m2 pnp
 have nD2:=no s2 pD.lt pnD
 have np2:=no s2 pp.lt pnp
 refine ⟨_,rfl,_,ldD pp2,add1_c (nm:=[98]) (s:=6) (by omega) pD2 nD2 h2 q2 (by decide) xa_f (by decide) (by decide) xa_r (by omega) (by omega) fun w3 R3 m3 s3 h3=>⟨_,_,rfl,?_⟩⟩
 obtain ⟨l3a,l3b⟩:=layF_up F2 1 5 1 en6
 have q3:=q2.lay h2.hd.1 (j:=1) (by omega) (e:=en6) (by decide)
 have q3:Dir1 (layF F2 1 5 1 en6) 1 i 5 xb:=q3
 have h3:Fo R3 w3 f a v d (layF F2 1 5 1 en6):=h3
 generalize layF F2 1 5 1 en6=F3 at *
 have M3:=base M2 m3 lo2
 have lo3:=up s3 M2.size lo2
 have pD3:=pD2.keep m3 nD2
 have pp3:=pp2.keep m3 np2
 have nD3:=no s3 pD2.lt nD2
 have np3:=no s3 pp2.lt np2
 refine ⟨_,rfl,_,ldD pp3,remove_c (nm:=[97]) (by omega) pD3 nD3 h3 q3 xb_f (by omega) (by omega) fun w4 R4 m4 s4 h4=>⟨_,_,rfl,?_⟩⟩
 obtain ⟨l4a,l4b⟩:=layF_up F3 1 5 0 dtZ
 have q4:=q3.lay h3.hd.1 (j:=0) (by omega) (e:=dtZ) (by decide)
 have q4:Dir1 (layF F3 1 5 0 dtZ) 1 i 5 xc:=q4
 generalize layF F3 1 5 0 dtZ=F4 at *
 have M4:=base M3 m4 lo3
 have lo4:=up s4 M3.size lo3
 have pD4:=pD3.keep m4 nD3
 have pp4:=pp3.keep m4 np3
 have nD4:=no s4 pD3.lt nD3
 have np4:=no s4 pp3.lt np3
 refine ⟨_,rfl,_,ldD pp4,add1_c (nm:=[99]) (s:=7) (by omega) pD4 nD4 h4 q4 (by decide) xc_f (by decide) (by decide) xc_r (by omega) (by omega) fun w5 R5 m5 s5 h5=>⟨_,_,rfl,?_⟩⟩
 have q5:=q4.lay h4.hd.1 (j:=0) (by omega) (e:=en7) (by decide)
 have q5:Dir1 (layF F4 1 5 0 en7) 1 i 5 xd:=q5
 have h5:Fo R5 w5 f a v d (layF F4 1 5 0 en7):=h5
 generalize layF F4 1 5 0 en7=F5 at *
 have M5:=base M4 m5 lo4
 have lo5:=up s5 M4.size lo4
 have pD5:=pD4.keep m5 nD4
 have pp5:=pp4.keep m5 np4
 have nD5:=no s5 pD4.lt nD4
 refine ⟨_,rfl,_,ldD pp5,dirList_c (by omega) pD5 nD5 h5 q5.dir (by rw [q5.sl]) q5.ok fun w6 R6 a1 c1 m6 s6 h6 o6=>⟨_,_,_,_,rfl,?_⟩⟩
 rw [q5.list,xd_l] at o6 |-
 have M6:=base M5 m6 lo5
 have o6:Ow Tryz.prog w6 w5.heap.size 27 3 a1 2 c1 (eV en7++eV en6):=o6
 rcases o6.rowU.row with e | ⟨bb,oo,rfl,hat⟩
 ·cases e
 refine Share.dup (tt rfl (tt rfl (tt rfl (tt rfl (tt rfl (tt rfl ⟨_,index_slice (k:=3) (by kernel_rfl) (by omega) (by decide),sB [99],?_,tt ((beq_sB [99] [99]).trans (by decide)) ⟨_,index_slice (k:=3) (by kernel_rfl) (by omega) (by decide),6,?_,_,rfl,hk w6 M6⟩⟩))))))
 ·rw [add_none,add_none]
  exact hat.load (i:=2) sc_strE rfl
 ·rw [add_none,add_none]
  exact hat.load (i:=3) sc_int rfl
end
end Go.Proofs.YtandmpcjjaabmaaGreat
end
section
open Go Go.Den Go.Proofs
namespace Go.Proofs.YtandmpcjjaabmaaGreat
def ino9:Nd:=⟨1,1,0,9,[0,0,0,0,0,0,0,0]⟩
theorem build_ino3 (a b d:Int):Al (Instr.build 51 #[(0,.int .i64 a),(1,.int .i64 b),(3,.int .i64 d)]) (.agg ⟨nV ⟨a,b,0,d,[0,0,0,0,0,0,0,0]⟩⟩):=fun w=>by kernel_rfl
section
variable {w w':World} {R R':Nat->Prop} {f a v d D:Nat} {F:Fy} {K:Value->World->Prop}
theorem dirNil_c {k:Int} (hk:∀ w',Mod No w w'->K (.tuple #[.agg ⟨nV nZ⟩,.int .i64 2]) w'):Cal Tryz.prog F_dir_Dirs_dir #[.pointer none,.int .i64 k] w K:=by
 apply C_dir_Dirs_dir
 unfold D_dir_Dirs_dir
 obtain ⟨w1,b1,b2,b3,b4⟩:=new_u (P:=Tryz.prog) (w:=w) (T:=51) zero_ino
 obtain ⟨w2,c1,c2,c3,c4⟩:=b2.put (T:=51) (vs:=nV nZ) agg_ino rfl rfl (one_nV _)
 exact ⟨_,w1,b1,tt rfl ⟨_,build_ino0,w2,c1,_,c2.at.all agg_ino rfl,hk w2 (b3.own c3 (Nat.le_refl _))⟩⟩
theorem findNil_c {k:Int} {s:ByteArray} (hk:∀ w',Mod No w w'->K (.tuple #[.agg ⟨eV dtZ⟩,.int .i64 0,.int .i64 2]) w'):Cal Tryz.prog F_dir_Dirs_find #[.pointer none,.int .i64 k,.string s] w K:=by
 apply C_dir_Dirs_find
 unfold D_dir_Dirs_find
 obtain ⟨w1,a1,a2,a3,a4⟩:=box_v (P:=Tryz.prog) (w:=w) (T:=9) (v:=.string s) rfl
 obtain ⟨w2,b1,b2,b3,b4⟩:=new_u (P:=Tryz.prog) (w:=w1) (T:=82) zero_ent
 obtain ⟨w3,c1,c2,c3,c4⟩:=new_u (P:=Tryz.prog) (w:=w2) (T:=3) zero_int
 obtain ⟨w4,d1,d2,d3,d4⟩:=new_u (P:=Tryz.prog) (w:=w3) (T:=24) zero_errno
 have M4:Mod No w w4:=((a3.no b3).no c3).no d3
 refine ⟨_,w1,a1,_,w2,b1,_,w3,c1,_,w4,d1,dirNil_c fun w5 m5=>⟨_,_,rfl,?_⟩⟩
 obtain ⟨w6,e1,e2,e3,e4⟩:=new_u (P:=Tryz.prog) (w:=w5) (T:=51) zero_ino
 obtain ⟨w7,g1,g2,g3,g4⟩:=e2.put (T:=51) (vs:=nV nZ) agg_ino rfl rfl (one_nV _)
 have M7:Mod No w4 w7:=(m5.no e3).own g3 m5.size
 have z4:=M7.size
 obtain ⟨w8,u1,u2,u3,u4⟩:=(((b2.keep c3 id).keep d3 id).keep M7 id).put (T:=82) (vs:=eV dtZ) agg_ent rfl rfl (one_eV _)
 obtain ⟨w9,v1,v2,v3,v4⟩:=(((c2.keep d3 id).keep M7 id).keep u3 (by show ¬ w2.heap.size=w1.heap.size; omega)).put1 (P:=Tryz.prog) (T:=3) (v:=.int .i64 0) sc_int rfl
 obtain ⟨w10,x1,x2,x3,x4⟩:=(((d2.keep M7 id).keep u3 (by show ¬ w3.heap.size=w1.heap.size; omega)).keep v3 (by show ¬ w3.heap.size=w2.heap.size; omega)).put1 (P:=Tryz.prog) (T:=24) (v:=.int .i64 2) sc_errno rfl
 refine ⟨_,w6,e1,w7,g1,tt rfl ⟨_,build_ent0,w8,u1,w9,v1,w10,x1,_,((u2.keep v3 (by show ¬ w1.heap.size=w2.heap.size; omega)).keep x3 (by show ¬ w1.heap.size=w3.heap.size; omega)).at.all agg_ent rfl,_,(v2.keep x3 (by show ¬ w2.heap.size=w3.heap.size; omega)).at.one sc_int,_,x2.at.one sc_errno,hk w10 ?_⟩⟩
 exact (((M4.no M7).own u3 (by omega)).own v3 (by omega)).own x3 (by omega)
theorem turnNil_c {k:Int} {s:ByteArray} {a3:Option Addr} {l3 c3:Nat} {v4:Value} (hk:∀ w',Mod No w w'->K (.tuple #[.int .i64 0,.int .i64 2]) w'):Cal Tryz.prog F_dir_Dirs_turn #[.pointer none,.int .i64 k,.string s,.slice a3 l3 c3,v4] w K:=by
 apply C_dir_Dirs_turn
 unfold D_dir_Dirs_turn
 refine findNil_c fun w1 m1=>⟨_,_,_,rfl,?_⟩
 obtain ⟨w2,b1,b2,b3,b4⟩:=new_u (P:=Tryz.prog) (w:=w1) (T:=82) zero_ent
 obtain ⟨w3,c1,c2,c3,c4⟩:=b2.put (T:=82) (vs:=eV dtZ) agg_ent rfl rfl (one_eV _)
 exact ⟨_,w2,b1,w3,c1,tt rfl (hk w3 ((m1.no b3).own c3 m1.size))⟩
theorem dirE_new3 {V:Ps} {nx:Int} (h:slotV V gD 3=(nZ,0)):dirE (newF (aD V nx)) 3=20:=by
 unfold dirE
 rw [show slotV (newF (aD V nx)).A.V (newF (aD V nx)).A.s.geo 3=(nZ,0) from h]; decide
set_option maxRecDepth 8000 in
theorem DirNil_c {n:Int} {s:ByteArray}:Cal Tryz.prog F_leveelaw16_DirNil #[.int .i64 n,.string s] w (fun v w'=>v=.bool true/\Mod No w w'):=by
 apply C_leveelaw16_DirNil
 unfold D_leveelaw16_DirNil
 apply C_dir_New
 unfold D_dir_New
 refine tt rfl ⟨_,rfl,?_⟩
 apply C_dir_Dirs_Find
 unfold D_dir_Dirs_Find
 refine findNil_c fun w1 m1=>⟨_,_,_,rfl,?_⟩
 obtain ⟨w2,b1,b2,b3,b4⟩:=new_u (P:=Tryz.prog) (w:=w1) (T:=82) zero_ent
 obtain ⟨w3,c1,c2,c3,c4⟩:=b2.put (T:=82) (vs:=eV dtZ) agg_ent rfl rfl (one_eV _)
 have M3:Mod No w w3:=(m1.no b3).own c3 m1.size
 refine ⟨_,w2,b1,w3,c1,0,c2.at.fld (j:=0) (v:=.int .i64 0) sc_int rfl,_,_,_,rfl,?_⟩
 apply C_dir_Dirs_List
 unfold D_dir_Dirs_List
 refine dirNil_c fun w4 m4=>⟨_,_,rfl,?_⟩
 obtain ⟨w5,d1,d2,d3,d4⟩:=new_u (P:=Tryz.prog) (w:=w4) (T:=51) zero_ino
 obtain ⟨w6,e1,e2,e3,e4⟩:=d2.put (T:=51) (vs:=nV nZ) agg_ino rfl rfl (one_nV _)
 have M6:Mod No w w6:=(M3.no m4).no (d3.own e3 (Nat.le_refl _))
 refine ⟨_,w5,d1,w6,e1,tt rfl ⟨_,_,_,_,rfl,?_⟩⟩
 apply C_dir_Dirs_Add
 unfold D_dir_Dirs_Add
 refine dirNil_c fun w7 m7=>⟨_,_,rfl,?_⟩
 obtain ⟨w8,f1,f2,f3,f4⟩:=new_u (P:=Tryz.prog) (w:=w7) (T:=51) zero_ino
 obtain ⟨w9,g1,g2,g3,g4⟩:=f2.put (T:=51) (vs:=nV nZ) agg_ino rfl rfl (one_nV _)
 have M9:Mod No w w9:=(M6.no m7).no (f3.own g3 (Nat.le_refl _))
 refine ⟨_,w8,f1,w9,g1,tt rfl ⟨_,_,rfl,?_⟩⟩
 apply C_dir_Dirs_Remove
 unfold D_dir_Dirs_Remove
 refine turnNil_c fun w10 m10=>⟨_,_,rfl,_,_,rfl,?_⟩
 apply C_dir_Dirs_Turn
 unfold D_dir_Dirs_Turn
 obtain ⟨w11,h1,h2,h3,h4⟩:=box_v (P:=Tryz.prog) (w:=w10) (T:=9) (v:=.string s) rfl
 obtain ⟨w12,i1,i2,i3,i4⟩:=box_v (P:=Tryz.prog) (w:=w11) (T:=3) (v:=.int .i64 5) rfl
 refine ⟨_,w11,h1,_,w12,i1,s,(h2.keep i3 id).at.one sc_strE,turnNil_c fun w13 m13=>⟨_,_,rfl,_,_,rfl,?_⟩⟩
 apply C_dir_Dirs_Mark
 unfold D_dir_Dirs_Mark
 obtain ⟨w14,j1,j2,j3,j4⟩:=box_v (P:=Tryz.prog) (w:=w13) (T:=4) (v:=.bool true) rfl
 refine ⟨_,w14,j1,turnNil_c fun w15 m15=>⟨_,_,rfl,_,_,rfl,?_⟩⟩
 apply C_dir_Dirs_Need
 unfold D_dir_Dirs_Need
 refine dirNil_c fun w16 m16=>⟨_,_,rfl,?_⟩
 obtain ⟨w17,k1,k2,k3,k4⟩:=new_u (P:=Tryz.prog) (w:=w16) (T:=51) zero_ino
 obtain ⟨w18,l1,l2,l3,l4⟩:=k2.put (T:=51) (vs:=nV nZ) agg_ino rfl rfl (one_nV _)
 have M18:Mod No w w18:=((((((((M9.no m10).no h3).no i3).no m13).no j3).no m15).no m16).no (k3.own l3 (Nat.le_refl _)))
 refine ⟨_,w17,k1,w18,l1,Share.dup (tt rfl ⟨_,rfl,tt rfl ⟨_,_,rfl,_,build_geo,?_⟩⟩)⟩
 have z18:=M18.size
 refine begin16_c fun w19 R1 f a v d k p D x0 x1 x3 x4 m19 h1 lo1 pD pnD pp pnp zD zp=>⟨_,rfl,ff rfl ?_⟩
 have M1:=M18.no m19
 have lo1:∀ z,R1 z->w.heap.size<=z:=fun z hz=>by have:=lo1 z hz; omega
 have sl3:=slotD3 k
 have vl:(⟨⟨dE gD,k,[]⟩,0,[]⟩:Ps).last=0:=rfl
 generalize (⟨⟨dE gD,k,[]⟩,0,[]⟩:Ps)=V at *
 generalize nE gD=nx at *
 have ldD:∀ {W:World},AtU W p 0 [x0,x1,.pointer (some ⟨D,0,none⟩),x3,x4]->Ru (Instr.loadAt 22 (.pointer (some (Addr.add ⟨p,0,none⟩ 2)))) W (.pointer (some ⟨D,0,none⟩)) W:=fun h=>h.at.fld (j:=2) (v:=.pointer (some ⟨D,0,none⟩)) sc_pdirs rfl
 have base:∀ {w2:World} {R2:Nat->Prop} {w3:World},Mod No w w2->Mod R2 w2 w3->(∀ z,R2 z->w.heap.size<=z)->Mod No w w3:=fun h1 h2 h3=>h1.trans h2 fun x hx e=>by have:=h3 x e; omega
 have up:∀ {R2 R3:Nat->Prop} {w2:World},Sb R2 R3 w2->w.heap.size<=w2.heap.size->(∀ z,R2 z->w.heap.size<=z)->∀ z,R3 z->w.heap.size<=z:=fun h1 h2 h3 z hz=>(h1 z hz).elim (h3 z) fun e=>by omega
 have no:∀ {R2 R3:Nat->Prop} {w2:World} {q:Nat},Sb R2 R3 w2->q<w2.heap.size->¬ R2 q->¬ R3 q:=fun h1 h2 h3 e=>(h1 _ e).elim h3 fun e=>by omega
 have hE0:=dirE_new3 (nx:=nx) sl3
 refine ⟨_,rfl,_,ldD pp,dirListE_c (by omega) pD h1 (by rw [hE0]; decide) fun w20 R2 m20 s20 h2=>⟨_,_,_,_,rfl,?_⟩⟩
 rw [hE0]
 have z1:=M1.size
 have M2:=base M1 m20 lo1
 have lo2:=up s20 z1 lo1
 have pD2:=pD.keep m20 pnD
 have pp2:=pp.keep m20 pnp
 have nD2:=no s20 pD.lt pnD
 have np2:=no s20 pp.lt pnp
 refine ⟨_,rfl,_,ldD pp2,?_⟩
 apply C_dir_Dirs_Files
 unfold D_dir_Dirs_Files
 refine ff rfl ⟨_,rfl,_,pD2.at.fld (j:=0) (v:=.pointer (some ⟨f,0,none⟩)) sc_pfiles rfl,_,rfl,_,build_ino3 1 1 9,?_⟩
 have hd:=h2.hd
 refine fPut_c (k:=3) (i:=ino9) (after:=[]) (by omega) h2 (newF_mu _) rfl (by decide) (by show (gPlace gD 3).2.2=0; decide) (by show V.last+1<=1000000; omega) (by show ([]:List Int).length<=1000000; decide) rfl (fun _=>⟨rfl,rfl⟩) (by omega) (fun x hx=>by cases hx) (.inl rfl) fun w21 R3 m21 s21 h3=>⟨_,_,rfl,?_⟩
 have hsl:slotV (putF (newF (aD V nx)) 3 ino9 []).A.V gD 3=(ino9,0):=by
  have:=setI_slot (k:=3) (i:=ino9) (after:=[]) hd.1 hd.2 rfl (by decide) (by show (gPlace gD 3).2.2=0; decide) rfl 3
  rw [if_pos rfl] at this
  exact this
 have hE3:dirE (putF (newF (aD V nx)) 3 ino9 []) 3=23:=by
  unfold dirE
  rw [show slotV (putF (newF (aD V nx)) 3 ino9 []).A.V (putF (newF (aD V nx)) 3 ino9 []).A.s.geo 3=(ino9,0) from hsl]; decide
 have hEo:∀ j:Int,100<=j->dirE (putF (newF (aD V nx)) 3 ino9 []) j=3:=fun j hj=>by
  have hg:gSlots gD=16:=by decide
  have hp:gPlace gD j=(0,0,3):=gPlace_out (by decide) (by omega)
  have:slotV (putF (newF (aD V nx)) 3 ino9 []).A.V (putF (newF (aD V nx)) 3 ino9 []).A.s.geo j=(nZ,3):=by
   show slotV _ gD j=_
   unfold slotV; rw [hp]; rfl
  unfold dirE; rw [this]; decide
 generalize putF (newF (aD V nx)) 3 ino9 []=F1 at *
 have M3':=base M2 m21 lo2
 have lo3:=up s21 M2.size lo2
 have pD3:=pD2.keep m21 nD2
 have pp3:=pp2.keep m21 np2
 have nD3:=no s21 pD2.lt nD2
 have np3:=no s21 pp2.lt np2
 refine ⟨_,rfl,_,ldD pp3,dirListE_c (by omega) pD3 h3 (by rw [hE3]; decide) fun w22 R4 m22 s22 h4=>⟨_,_,_,_,rfl,?_⟩⟩
 have M4:=base M3' m22 lo3
 have lo4:=up s22 M3'.size lo3
 have pD4:=pD3.keep m22 nD3
 have pp4:=pp3.keep m22 np3
 have nD4:=no s22 pD3.lt nD3
 have np4:=no s22 pp3.lt np3
 refine ⟨_,rfl,_,ldD pp4,addE_c (nm:=[97]) (by omega) pD4 h4 (by rw [hE3]; decide) fun w23 R5 m23 s23 h5=>⟨_,_,rfl,?_⟩⟩
 have M5:=base M4 m23 lo4
 have lo5:=up s23 M4.size lo4
 have pD5:=pD4.keep m23 nD4
 have pp5:=pp4.keep m23 np4
 have md:Mod No w23 (Go.Den.drew w23):=(Mod.refl _ _).drew
 refine ⟨_,rfl,_,ldD pp5.drew,Count_c (by omega) (by omega) ⟨_,rfl,ldD pp5.drew,?_⟩⟩
 have hc:=Int.emod_nonneg n (show (5:Int)≠0 by omega)
 have hc2:=Int.emod_lt_of_pos n (show (0:Int)<5 by omega)
 have hEn:=hEo (n % 5+100) (by omega)
 rw [wrap64 (x:=n % 5+100) (by omega) (by omega)]
 refine dirListE_c (by omega) pD5.drew (h5.nos md) (by rw [hEn]; decide) fun w24 R6 m24 s24 h6=>⟨_,_,_,_,rfl,Share.dup (tt rfl ?_)⟩
 have M6':Mod No w w24:=base (M5.no md) m24 lo5
 apply C_dir_Dirs_Files
 unfold D_dir_Dirs_Files
 rw [hE3,hEn]
 refine tt rfl ⟨_,rfl,tt rfl (tt rfl (tt rfl (tt rfl (tt rfl (tt rfl (tt rfl (tt rfl (tt rfl (tt rfl (tt rfl (tt rfl ?_)))))))))))⟩
 exact known16_c fun w25 m25=>⟨_,rfl,_,rfl,rfl,M6'.no m25⟩
end
end Go.Proofs.YtandmpcjjaabmaaGreat
end
