/- Parts of the proof, in order: what the statement leans on. -/
import Derived.Test.YtandmpcjjaabmaaGreatBe
section
open Go Go.Den Go.Proofs
namespace Go.Proofs.YtandmpcjjaabmaaGreat
theorem arr6i:arrN Tryz.prog 49=some (6,1):=by kernel_rfl
theorem sc_pfiles:scal Tryz.prog 46=true:=by kernel_rfl
theorem sc_64s:scal Tryz.prog 65=true:=by kernel_rfl
theorem agg_way:aggN Tryz.prog 116=some 4:=by kernel_rfl
theorem zero_way:zeroC Tryz.prog 116=some (Wy.l ⟨0,0,0,0⟩):=by kernel_rfl
theorem built642 (w:World) (x y:Int):(Instr.buildSlice 65 2 #[(0,.int .i64 x),(1,.int .i64 y)]).run Tryz.prog w=.ok (.slice (some ⟨w.heap.size,0,none⟩) 2 2) (w.alloc (.cells ⟨[.int .i64 x,.int .i64 y]⟩ 2)):=by kernel_rfl
theorem ofS6 {n:Nat} (h:n<6):ofS (n:Int)=(⟨0,n,0,0⟩,0):=by unfold ofS; rw [if_neg (by omega),if_pos (by omega)]
theorem nV_p {i:Nd} (hw:nWf i) {n:Nat} (hn:n<8):(nV i)[4+n]?=some (.int .i64 (i.p.getD n 0)):=by
 have hl:i.p.length=8:=hw
 show (iL (i.kind::i.links::i.size::i.id::i.p))[4+n]?=_
 rw [show 4+n=n+1+1+1+1 by omega]
 show (iL i.p)[n]?=_
 rw [iL_get (by omega),List.getD_eq_getElem?_getD,List.getElem?_eq_getElem (by omega)]; rfl
def wV (f:Nat) (k:Int) (i:Nd) (a:Option Addr) (l c:Nat) (near:Int):List Value:=.pointer (some ⟨f,0,none⟩)::.int .i64 k::(nV i++[.slice a l c,.int .i64 near])
theorem wV_len {f:Nat} {k:Int} {i:Nd} {a:Option Addr} {l c:Nat} {near:Int} (hw:nWf i):(wV f k i a l c near).length=16:=by unfold wV; simp [nV_len hw]
theorem wV_ino {f:Nat} {k:Int} {i:Nd} {a:Option Addr} {l c:Nat} {near:Int} (hw:nWf i):((wV f k i a l c near).drop 2).take 12=nV i:=by
 show (nV i++_).take 12=_
 exact take_app (nV_len hw)
theorem wV_p {f:Nat} {k:Int} {i:Nd} {a:Option Addr} {l c:Nat} {near:Int} (hw:nWf i) {n:Nat} (hn:n<8):(wV f k i a l c near)[6+n]?=some (.int .i64 (i.p.getD n 0)):=by
 rw [show 6+n=(4+n)+1+1 by omega]
 show (nV i++_)[4+n]?=_
 rw [List.getElem?_append_left (by rw [nV_len hw]; omega),nV_p hw hn]
theorem wV_end {f:Nat} {k:Int} {i:Nd} {a:Option Addr} {l c:Nat} {near:Int} (hw:nWf i):(wV f k i a l c near)[14]?=some (.slice a l c)/\(wV f k i a l c near)[15]?=some (.int .i64 near):=by
 constructor
 ·show (nV i++_)[12]?=_
  rw [List.getElem?_append_right (by rw [nV_len hw]; omega),nV_len hw]; rfl
 ·show (nV i++_)[13]?=_
  rw [List.getElem?_append_right (by rw [nV_len hw]; omega),nV_len hw]; rfl
def setP (i:Nd) (n:Nat) (b:Int):Nd:=⟨i.kind,i.links,i.size,i.id,i.p.set n b⟩
theorem setP_wf {i:Nd} (hw:nWf i) (n:Nat) (b:Int):nWf (setP i n b):=by unfold nWf setP; rw [List.length_set]; exact hw
theorem wV_setP {f:Nat} {k:Int} {i:Nd} {a:Option Addr} {l c:Nat} {near:Int} (hw:nWf i) {n:Nat} (hn:n<8) (b:Int):(wV f k i a l c near).set (6+n) (.int .i64 b)=wV f k (setP i n b) a l c near:=by
 have hl:i.p.length=8:=hw
 rw [show 6+n=(4+n)+1+1 by omega]
 show _::_::(nV i++_).set (4+n) _=_::_::(nV (setP i n b)++_)
 rw [List.set_append_left _ _ (by rw [nV_len hw]; omega),show 4+n=n+1+1+1+1 by omega]
 show _::_::((_::_::_::_::(iL i.p).set n _)++_)=_::_::((_::_::_::_::iL (i.p.set n b))++_)
 have:(iL i.p).set n (.int .i64 b)=iL (i.p.set n b):=by unfold iL; rw [List.map_set]; rfl
 rw [this]; rfl
theorem wV_setA {f:Nat} {k:Int} {i:Nd} {a a':Option Addr} {l c l' c':Nat} {near:Int} (hw:nWf i):(wV f k i a l c near).set 14 (.slice a' l' c')=wV f k i a' l' c' near:=by
 show _::_::(nV i++_).set 12 _=_
 rw [List.set_append_right _ _ (by rw [nV_len hw]; omega),nV_len hw]; rfl
theorem wV_setN {f:Nat} {k:Int} {i:Nd} {a:Option Addr} {l c:Nat} {near near':Int} (hw:nWf i):(wV f k i a l c near).set 15 (.int .i64 near')=wV f k i a l c near':=by
 show _::_::(nV i++_).set 13 _=_
 rw [List.set_append_right _ _ (by rw [nV_len hw]; omega),nV_len hw]; rfl
section
variable {w w':World} {R R' Ra:Nat->Prop} {f a v d fl fm:Nat} {F:Fy} {K:Value->World->Prop}
theorem fWhere0_c {i:Nd} {n:Nat} {p0:Option Addr} (hw:nWf i) (hn:n<6) (hk:∀ w',Mod No w w'->K (.int .i64 (i.p.getD n 0)) w'):Cal Tryz.prog F_file_Files_where #[.pointer p0,.agg ⟨nV i⟩,.agg ⟨Wy.l ⟨0,n,0,0⟩⟩] w K:=by
 apply C_file_Files_where
 unfold D_file_Files_where
 obtain ⟨w1,b1,b2,b3,b4⟩:=box_u (P:=Tryz.prog) (w:=w) (T:=51) (cs:=nV i)
 obtain ⟨w2,c1,c2,c3,c4⟩:=box_u (P:=Tryz.prog) (w:=w1) (T:=116) (cs:=Wy.l ⟨0,n,0,0⟩)
 have q2:=b2.keep c3 id
 exact ⟨_,w1,b1,_,w2,c1,_,c2.at.fld (v:=.int .i64 0) sc_int rfl,tt rfl ⟨_,c2.at.fld (v:=.int .i64 n) sc_int rfl,_,index_arr arr6i (by omega) (by omega),_,q2.at.fld2 (j:=4) (i:=(n:Int).toNat*1) sc_int (by rw [show (n:Int).toNat*1=n by omega]; exact nV_p hw (by omega)),hk w2 (b3.no c3)⟩⟩
def frF (F:Fy) (k near:Int) (data:Bk):Fy:=setF ⟨(blockA F.A near).1,F.la,F.mi⟩ k (blockA F.A near).2.1 0 data []
def okB (F:Fy) (near:Int):Prop:=(blockA F.A near).2.2.2=0/\(gKind F.A.s.geo (blockA F.A near).2.1).1=4
theorem pat_last (V:Ps) (n f:Int) (data:Bk) (after:List Int):V.last<=(patS V n f data after).last/\(patS V n f data after).last<=V.last+1:=by
 by_cases e:patE V n f data after=0
 ·rw [patS_last e]; omega
 ·unfold patS; rw [if_neg e]; omega
theorem blkA_up (A:Az) (b:Int):(blockA A b).1.s=A.s/\A.V.last<=(blockA A b).1.V.last/\(blockA A b).1.V.last<=A.V.last+1/\∀ x,A.V.opn x=true->(blockA A b).1.V.opn x=true:=by
 unfold blockA
 split
 ·exact ⟨rfl,(pat_last _ _ _ _ _).1,(pat_last _ _ _ _ _).2,fun x hx=>opn_pat _ _ _ _ hx⟩
 ·exact ⟨rfl,by simp only; omega,by simp only; omega,fun _ h=>h⟩
theorem MuF.set (h:MuF F) {k b f0:Int} {data:Bk} {after:List Int} (hE:patE F.A.V b f0 data after=0):MuF (setF F k b f0 data after):=by
 intro n x hx
 have hl:((setF F k b f0 data after).A.V.last:Int)=F.A.V.last+1:=by show ((patS F.A.V b f0 data after).last:Int)=_; rw [patS_last hE]; omega
 have old:∀ x,(F.A.V.opn x=true/\1<=x/\x<=(F.A.V.last:Int))->(setF F k b f0 data after).A.V.opn x=true/\1<=x/\x<=((setF F k b f0 data after).A.V.last:Int):=fun x ⟨o1,o2,o3⟩=>⟨opn_pat _ _ _ _ o1,o2,by omega⟩
 have hx:x∈(if n=k then F.mi k++[(F.A.V.last:Int)+1] else F.mi n):=hx
 split at hx
 ·rcases List.mem_append.1 hx with hx | hx
  ·exact old x (h k x hx)
  ·have:x=(F.A.V.last:Int)+1:=by simpa using hx
   rw [this]; exact ⟨opn_new hE,by omega,by omega⟩
 ·exact old x (h n x hx)
theorem MuF.blk (h:MuF F) (near:Int):MuF ⟨(blockA F.A near).1,F.la,F.mi⟩:=by
 obtain ⟨_,b1,b2,b3⟩:=blkA_up F.A near
 intro n x hx
 obtain ⟨o1,o2,o3⟩:=h n x hx
 exact ⟨b3 x o1,o2,by show x<=((blockA F.A near).1.V.last:Int); omega⟩
theorem fFresh_c {k near:Int} {i:Nd} {q:Nat} {aa a1:Option Addr} {la lc c1:Nat} {data:Bk} (hnear:near<=9223372036854775807) (h:Fo R w f a v d F) (hM:MuF F) (hat:AtU w q 0 (wV f k i aa la lc near)) (hq:¬ R q) (hdq:d<=q) (hw:nWf i) (hok:okB F near)
  (hlast:F.A.V.last+2<=1000000) (hml:(F.mi k).length<=1000000) (hd:data.length=256) (hrd:Row w a1 (u8L data)) (hdo:∀ q',a1=some q'->¬ R q'.block/\q'.block≠q/\q'.block<w.heap.size)
  (hk:∀ w' R' g,Mod (fun z=>R z\/z=q) w w'->Sb R R' w->Fo R' w' f a v d (frF F k near data)->MuF (frF F k near data)->(frF F k near data).A.V.last=(blockA F.A near).1.V.last+1->AtU w' q 0 (wV f k i aa la lc (blockA F.A near).2.1)->w.heap.size<=g->¬ R' g->g≠q->AtU w' g 0 (iL [(blockA F.A near).2.2.1,((blockA F.A near).1.V.last:Int)+1]) ->
   K (.tuple #[.int .i64 (blockA F.A near).2.1,.slice (some ⟨g,0,none⟩) 2 2,.int .i64 0]) w') :
  Cal Tryz.prog F_file_writer_fresh #[.pointer (some ⟨q,0,none⟩),.slice a1 256 c1,.slice none 0 0] w K:=by
 apply C_file_writer_fresh
 unfold D_file_writer_fresh
 have M1:Mod No w (Go.Den.drew w):=(Mod.refl _ _).drew
 have h1:=h.nos M1
 have q1:=hat.drew
 have hlt:=h.lt
 have hql:=hat.lt
 obtain ⟨Ra,hA,hRa,hc⟩:=h1.alc
 obtain ⟨bs,bl0,bl,bo⟩:=blkA_up F.A near
 refine ⟨_,rfl,_,q1.at.fld (v:=.pointer (some ⟨f,0,none⟩)) sc_pfiles rfl,_,rfl,_,h1.pa,_,rfl,near,q1.at.fld sc_int (wV_end hw).2,aBlock_c hnear hA (by omega) fun w2 R2 m2 s2 h2=>⟨_,_,_,rfl,?_⟩⟩
 rw [hok.1]
 have hE:patE (blockA F.A near).1.V (blockA F.A near).2.1 0 data []=0:=setD_E h2.hd (by rw [bs]; exact hok.2) (by omega) (by omega) (by omega) rfl
 obtain ⟨c1',c2,c3⟩:=hc w2 R2 _ m2 s2 h2
 have nq2:¬ (R q\/R2 q):=fun e=>by
  rcases c2 _ e with e | e
  ·exact hq e
  ·have:(Go.Den.drew w).heap.size=w.heap.size:=rfl
   omega
 have q2:=q1.keep c1' hq
 obtain ⟨w3,p1,p2,p3,p4⟩:=q2.putF (T:=3) (j:=15) (v:=.int .i64 (blockA F.A near).2.1) sc_int (by rw [wV_len hw]; omega) rfl
 rw [wV_setN hw] at p2
 have M3d:Mod No w3 (Go.Den.drew w3):=(Mod.refl _ _).drew
 have h3:=(c3.own p3 nq2 hdq).nos M3d
 have z2:=c1'.size
 have z0:(Go.Den.drew w).heap.size=w.heap.size:=rfl
 have z3:(Go.Den.drew w3).heap.size=w2.heap.size:=p4
 refine ff rfl ⟨_,rfl,w3,p1,_,rfl,_,p2.drew.at.fld (v:=.pointer (some ⟨f,0,none⟩)) sc_pfiles rfl,_,rfl,k,p2.drew.at.fld sc_int rfl,?_⟩
 refine fSet_c (data:=data) (after:=[]) h3 (hM.blk near) (by rw [show (⟨(blockA F.A near).1,F.la,F.mi⟩:Fy).A.s=F.A.s from bs]; exact hok.2) (by show (blockA F.A near).1.V.last+1<=_; omega) hml hd (by omega) (by omega) (by omega) ?_ (fun q' e r=>?_) rfl (by omega) (fun _ e=>by cases e) (.inl rfl) (fun e=>absurd rfl e) fun w4 R4 m4 s4 h4=>⟨_,_,rfl,?_⟩
 ·refine Row.keep (Row.keep (Row.keep (hrd.nos M1) c1' fun q' e=>(hdo q' e).1) p3 fun q' e=>(hdo q' e).2.1) M3d fun _ _=>id
 ·rcases c2 _ r with r | r
  ·exact (hdo q' e).1 r
  ·have:=(hdo q' e).2.2; omega
 ·have ma:Mod No w4 (w4.alloc (.cells ⟨iL [(blockA F.A near).2.2.1,((blockA F.A near).1.V.last:Int)+1]⟩ 2)):=(Mod.refl No w4).alloc _
  have z4:=m4.size
  refine ⟨_,_,_,_,built642 w4 _ _,hk _ R4 _ ?_ ?_ (h4.nos ma) ((hM.blk near).set hE) (patS_last hE) ?_ ?_ ?_ ?_ AtU.new⟩
  ·have T2:Mod (fun z=>R z\/z=q) w w2:=(M1.mono fun _ _ e=>e.elim).trans c1' fun x _ e=>.inl e
   have T3:Mod (fun z=>R z\/z=q) w (Go.Den.drew w3):=(T2.trans p3 fun x _ e=>.inr e).drew
   refine (T3.trans m4 fun x hx e=>?_).no ma
   rcases c2 x e with e | e
   ·exact .inl e
   ·omega
  ·intro z hz
   rcases s4 z hz with e | e
   ·exact (c2 z e).imp id fun e=>by omega
   ·exact .inr (by omega)
  ·exact (p2.drew.keep m4 nq2).keep ma id
  ·omega
  ·intro e; have:=h4.lt _ e; omega
  ·omega
end
end Go.Proofs.YtandmpcjjaabmaaGreat
end
section
open Go Go.Den Go.Proofs
namespace Go.Proofs.YtandmpcjjaabmaaGreat
section
variable {w w':World} {R R' Ra:Nat->Prop} {f a v d fl fm:Nat} {F:Fy} {K:Value->World->Prop}
theorem fBlock_c {k near:Int} {n base:Nat} {i:Nd} {q:Nat} {aa a1:Option Addr} {lc c1:Nat} {xs:List Int} {data:Bk} (hnear:near<=9223372036854775807) (h:Fo R w f a v d F) (hM:MuF F) (hat:AtU w q 0 (wV f k i aa xs.length lc near)) (hq:¬ R q) (hdq:d<=q) (hw:nWf i) (hn:n<6) (hz:i.p.getD n 0=0) (hok:okB F near)
  (hlast:F.A.V.last+2<=1000000) (hml:(F.mi k).length<=1000000) (hd:data.length=256) (hrd:Row w a1 (u8L data)) (hdo:∀ q',a1=some q'->¬ R q'.block/\q'.block≠q/\q'.block<w.heap.size)
  (ho:Ow Tryz.prog w base 65 1 aa xs.length lc (iL xs)) (hbase:base<=w.heap.size) (hdb:d<=base) (hxl:xs.length<=1000) (hoo:∀ q',aa=some q'->¬ R q'.block/\q'.block≠q)
  (hk:∀ w' R' aa' lc',Mod (fun z=>R z\/z=q\/∃ q',aa=some q'/\z=q'.block) w w'->Sb R R' w->Fo R' w' f a v d (frF F k near data)->MuF (frF F k near data)->(frF F k near data).A.V.last=(blockA F.A near).1.V.last+1 ->
   AtU w' q 0 (wV f k (setP i n (blockA F.A near).2.1) aa' (xs++[(blockA F.A near).2.2.1,((blockA F.A near).1.V.last:Int)+1]).length lc' (blockA F.A near).2.1) ->
   Ow Tryz.prog w' base 65 1 aa' (xs++[(blockA F.A near).2.2.1,((blockA F.A near).1.V.last:Int)+1]).length lc' (iL (xs++[(blockA F.A near).2.2.1,((blockA F.A near).1.V.last:Int)+1]))->(∀ q',aa'=some q'->¬ R' q'.block/\q'.block≠q) ->
   K (.tuple #[.int .i64 (blockA F.A near).2.1,.bool true,.int .i64 0]) w') :
  Cal Tryz.prog F_file_writer_block #[.pointer (some ⟨q,0,none⟩),.int .i64 n,.slice a1 256 c1] w K:=by
 apply C_file_writer_block
 unfold D_file_writer_block
 have hlt:=h.lt
 have hql:=hat.lt
 refine Of_c (by omega) (by omega) fun w1 m1=>⟨_,_,rfl,?_⟩
 rw [ofS6 hn]
 obtain ⟨w2,b1,b2,b3,b4⟩:=new_u (P:=Tryz.prog) (w:=w1) (T:=116) zero_way
 obtain ⟨w3,c1',c2,c3,c4⟩:=b2.put (T:=116) (vs:=Wy.l ⟨0,n,0,0⟩) agg_way rfl rfl (one_Wy _)
 have M3:Mod No w w3:=m1.no (b3.own c3 (Nat.le_refl _))
 have M3d:=M3.drew
 have z3:=M3d.size
 have z1:=m1.size
 have z2:=b3.size
 have h3:=h.nos M3d
 have q3:=hat.keep M3d id
 have idx:∀ o,o+n<16->Al (Instr.indexAt 49 (.pointer (some ⟨q,o,none⟩)) (.int .i64 n)) (.pointer (some ⟨q,o+n,none⟩)):=fun o _ w=>by
  have:=index_arr (P:=Tryz.prog) (a:=⟨q,o,none⟩) (kk:=.i64) (i:=(n:Int)) arr6i (by omega) (by omega) w
  rw [add_none,show o+(n:Int).toNat*1=o+n by omega] at this
  exact this
 have ad:Addr.add (Addr.add ⟨q,0,none⟩ 2) 4=⟨q,6,none⟩:=by rw [add_none,add_none]
 have ad0:∀ o,(⟨q,o,none⟩:Addr)=Addr.add ⟨q,0,none⟩ o:=fun o=>by rw [add_none,Nat.zero_add]
 refine ⟨_,w2,b1,w3,c1',ff rfl ⟨_,c2.at.fld (v:=.int .i64 0) sc_int rfl,tt rfl ⟨_,c2.drew.at.fld (v:=.int .i64 n) sc_int rfl,_,rfl,_,by rw [ad]; exact idx 6 (by omega),0,?_,ff rfl ?_⟩⟩⟩
 ·rw [ad0]
  exact q3.at.fld sc_int (by rw [wV_p hw (by omega),hz])
 have c2d:=c2.drew
 have hwl:=c2d.lt
 refine fFresh_c hnear h3 hM q3 hq hdq hw hok hlast hml hd (hrd.nos M3d) (fun q' e=>by obtain ⟨d1,d2,d3⟩:=hdo q' e; exact ⟨d1,d2,by omega⟩) fun w4 R4 g m4 s4 h4 hM4 hL q4 hg hg2 hg3 hgat=>⟨_,_,_,_,_,rfl,Share.dup (tt rfl ?_)⟩
 have z4:=m4.size
 have q4d:=q4.drew
 have M4d:Mod No w4 (Go.Den.drew w4):=(Mod.refl _ _).drew
 have nw1:¬ (R w1.heap.size\/w1.heap.size=q):=fun e=>by
  rcases e with e | e
  ·have:=hlt _ e; omega
  ·omega
 obtain ⟨w5,d1,d2,d3,d4⟩:=q4d.putF (T:=3) (j:=6+n) (v:=.int .i64 (blockA F.A near).2.1) sc_int (by rw [wV_len hw]; omega) rfl
 rw [wV_setP hw (by omega)] at d2
 have hw':=setP_wf hw n (blockA F.A near).2.1
 have z5:w5.heap.size=w4.heap.size:=d4
 have nR4:∀ z,¬ R z->z<w.heap.size->¬ R4 z:=fun z h1 h2 e=>by
  rcases s4 z e with e | e
  ·exact h1 e
  ·omega
 have aal:∀ q',aa=some q'->q'.block<w.heap.size:=fun q' e=>(ho.base e).2
 have o5:Ow Tryz.prog w5 base 65 1 aa xs.length lc (iL xs):=(((ho.nos M3d).keep m4 fun q' e=>fun r=>by
  obtain ⟨x1,x2⟩:=hoo q' e
  exact r.elim x1 x2).nos M4d).keep d3 fun q' e=>(hoo q' e).2
 have g5:AtU w5 g 0 (iL [(blockA F.A near).2.2.1,((blockA F.A near).1.V.last:Int)+1]):=hgat.drew.keep d3 hg3
 obtain ⟨qa,c',w6,r1,r2,r3,r4⟩:=o5.app (ty:=65) (m:=2) (c2:=2) (ad:=⟨g,0,none⟩) (ys:=iL [(blockA F.A near).2.2.1,((blockA F.A near).1.V.last:Int)+1]) elemZ_64 (by omega) (.inr ⟨_,_,rfl,g5.at⟩) rfl (by omega) (one_iL _) (by omega) (by omega) (by omega)
 have e1:xs.length+2=(xs++[(blockA F.A near).2.2.1,((blockA F.A near).1.V.last:Int)+1]).length:=by simp
 have e2:iL xs++iL [(blockA F.A near).2.2.1,((blockA F.A near).1.V.last:Int)+1]=iL (xs++[(blockA F.A near).2.2.1,((blockA F.A near).1.V.last:Int)+1]):=by simp [iL]
 rw [e1,e2] at r2
 rw [e1] at r1
 have q6:AtU w6 q 0 _:=d2.keep r3 (fun ⟨q',e,e'⟩=>(hoo q' e).2 e'.symm)
 obtain ⟨w7,u1,u2,u3,u4⟩:=q6.putF (T:=65) (j:=14) (v:=.slice (some qa) (xs++[(blockA F.A near).2.2.1,((blockA F.A near).1.V.last:Int)+1]).length c') sc_64s (by rw [wV_len hw']; omega) rfl
 rw [wV_setA hw'] at u2
 have qaq:qa.block≠q/\¬ R4 qa.block:=by
  rcases r4 with ⟨q',e,e'⟩ | e'
  ·rw [e']; exact ⟨(hoo q' e).2,nR4 _ (hoo q' e).1 (aal q' e)⟩
  ·exact ⟨by omega,fun r=>by have:=h4.lt _ r; omega⟩
 refine ⟨_,(c2d.keep m4 nw1).drew.at.fld (v:=.int .i64 n) sc_int rfl,_,rfl,_,by rw [ad]; exact idx 6 (by omega),w5,by rw [ad0]; exact d1,_,rfl,_,_,_,d2.at.fld sc_64s (wV_end hw').1,_,_,_,w6,r1,_,rfl,w7,u1,?_⟩
 refine hk w7 R4 (some qa) c' ?_ (fun z hz=>(s4 z hz).imp id fun e=>by omega) ?_ hM4 hL u2 (r2.keep u3 fun q' e=>by cases e; exact qaq.1) fun q' e=>by cases e; exact ⟨qaq.2,qaq.1⟩
 ·have T4:Mod (fun z=>R z\/z=q\/∃ q',aa=some q'/\z=q'.block) w (Go.Den.drew w4):=((M3d.mono fun _ _ e=>e.elim).trans m4 fun x _ e=>e.imp id .inl).no M4d
  exact ((T4.trans d3 fun x _ e=>.inr (.inl e)).trans r3 fun x _ e=>.inr (.inr e)).trans u3 fun x _ e=>.inr (.inl e)
 ·have nq4:¬ R4 q:=nR4 q hq hql
  have hF5:Fo R4 w5 f a v d (frF F k near data):=(h4.nos M4d).own d3 nq4 hdq
  have hF6:=hF5.keep r3 (fun z hz ⟨q',e,e'⟩=>by rw [e'] at hz; exact nR4 _ (hoo q' e).1 (aal q' e) hz) fun z ⟨q',e,e'⟩=>by have:=(ho.base e).1; omega
  exact hF6.own u3 nq4 hdq
end
end Go.Proofs.YtandmpcjjaabmaaGreat
end
section
open Go Go.Den Go.Proofs
namespace Go.Proofs.YtandmpcjjaabmaaGreat
def pcB (xs:Bk) (j:Nat):Bk:=(xs.drop (256*j)).take 256++List.replicate (256-((xs.drop (256*j)).take 256).length) 0
theorem pcB_len (xs:Bk) (j:Nat):(pcB xs j).length=256:=by
 unfold pcB
 have:((xs.drop (256*j)).take 256).length<=256:=by simp; omega
 rw [List.length_append,List.length_replicate]; omega
structure Wst where
 F:Fy
 i:Nd
 af:List Int
 near:Int
def stepW (s:Wst) (k:Int) (data:Bk) (j:Nat):Wst:=⟨frF s.F k s.near data,setP s.i j (blockA s.F.A s.near).2.1,s.af++[(blockA s.F.A s.near).2.2.1,((blockA s.F.A s.near).1.V.last:Int)+1],(blockA s.F.A s.near).2.1⟩
def wrS (F:Fy) (k:Int) (i:Nd) (xs:Bk):Nat->Wst
 | 0=>⟨F,i,[],0⟩
 | j+1=>stepW (wrS F k i xs j) k (pcB xs j) j
def endI (i:Nd) (l:Int):Nd:=⟨i.kind,i.links,if i.kind=2 then (l+255) / 256*256 else l,i.id,i.p⟩
def wrF (F:Fy) (k:Int) (i:Nd) (xs:Bk):Fy:=let s:=wrS F k i xs ((xs.length+255) / 256); putF s.F k (endI s.i xs.length) s.af
theorem setP_p {i:Nd} {j m:Nat} {b:Int} (h:m≠j):(setP i j b).p.getD m 0=i.p.getD m 0:=by
 show (i.p.set j b).getD m 0=_
 rw [List.getD_eq_getElem?_getD,List.getElem?_set_ne (fun e=>h e.symm),<- List.getD_eq_getElem?_getD]
theorem wrS_in (F:Fy) (k:Int) {i:Nd} (hw:nWf i) (xs:Bk):∀ j,nWf (wrS F k i xs j).i/\(wrS F k i xs j).F.A.s=F.A.s/\(wrS F k i xs j).i.kind=i.kind/\(wrS F k i xs j).i.links=i.links/\(wrS F k i xs j).i.size=i.size/\(wrS F k i xs j).i.id=i.id/\(wrS F k i xs j).af.length=2*j/\((wrS F k i xs j).F.mi k).length=(F.mi k).length+j/\(wrS F k i xs j).F.A.V.last<=F.A.V.last+2*j/\∀ m,j<=m->(wrS F k i xs j).i.p.getD m 0=i.p.getD m 0
 | 0=>⟨hw,rfl,rfl,rfl,rfl,rfl,rfl,rfl,Nat.le_refl _,fun _ _=>rfl⟩
 | j+1=>by
  obtain ⟨h1,h2,h3,h4,h5,h6,h7,h8,h9,h10⟩:=wrS_in F k hw xs j
  obtain ⟨b1,_,b2,_⟩:=blkA_up (wrS F k i xs j).F.A (wrS F k i xs j).near
  refine ⟨setP_wf h1 _ _,b1.trans h2,h3,h4,h5,h6,?_,?_,?_,fun m hm=>?_⟩
  ·show ((wrS F k i xs j).af++_).length=_
   rw [List.length_append,h7]; simp; omega
  ·show (if k=k then (wrS F k i xs j).F.mi k++_ else _).length=_
   rw [if_pos rfl,List.length_append,h8]; simp; omega
  ·have:=(pat_last (blockA (wrS F k i xs j).F.A (wrS F k i xs j).near).1.V (blockA (wrS F k i xs j).F.A (wrS F k i xs j).near).2.1 0 (pcB xs j) []).2
   refine Nat.le_trans this ?_
   omega
  ·show (setP _ _ _).p.getD m 0=_
   rw [setP_p (by omega)]; exact h10 m (by omega)
theorem pc_splice {ys:Bk} {n:Nat} (h:ys.length=n) (hn:n<=256):splice (List.replicate (256*1) (Value.int .u8 0)) 0 ((u8L ys).take (Nat.min n 256*1))=u8L (ys++List.replicate (256-n) 0):=by
 have e:(List.replicate (256*1) (Value.int .u8 0))=u8L (List.replicate 256 0):=by unfold u8L; rw [List.map_replicate]; rfl
 have e2:Nat.min n 256=n:=Nat.min_eq_left hn
 rw [e,e2,List.take_of_length_le (by rw [length_u8L]; omega),splice_u8L,List.drop_replicate,List.take_zero,List.nil_append,Nat.zero_add,h]
theorem blkA_id {A:Az} {b:Int} (h:(blockA A b).2.2.2=0):(blockA A b).2.2.1=(A.V.last:Int)+1:=by
 unfold blockA at h |-
 split
 ·rfl
 ·rename_i e
  rw [e] at h; cases h
def setS (i:Nd) (s:Int):Nd:=⟨i.kind,i.links,s,i.id,i.p⟩
theorem wV_setS {f:Nat} {k:Int} {i:Nd} {a:Option Addr} {l c:Nat} {near:Int} (s:Int):(wV f k i a l c near).set 4 (.int .i64 s)=wV f k (setS i s) a l c near:=rfl
section
variable {w w':World} {R R' Ra:Nat->Prop} {f a v d fl fm:Nat} {F:Fy} {K:Value->World->Prop}
theorem Fo.hd (h:Fo R w f a v d F):HdsAt F.A.V F.A.s.geo F.A.hs/\WFS F.A.V/\WF F.A.V.C.D:=by
 obtain ⟨Ra,hA,_⟩:=h.alc
 exact ⟨hA.hd,hA.wf⟩
theorem fNear0_c {i:Nd} {p0:Option Addr} (hk:∀ w',Mod No w w'->K (.int .i64 0) w'):Cal Tryz.prog F_file_Files_near #[.pointer p0,.agg ⟨nV i⟩,.int .i64 (IntKind.i64.wrap (Int.tdiv 0 256))] w K:=by
 apply C_file_Files_near
 unfold D_file_Files_near
 obtain ⟨w1,b1,b2,b3,b4⟩:=box_u (P:=Tryz.prog) (w:=w) (T:=51) (cs:=nV i)
 exact ⟨_,w1,b1,tt rfl (hk w1 b3)⟩
theorem build_wr8 (f:Nat) (k a b c e x0 x1 x2 x3 x4 x5 x6 x7 n:Int):Al (Instr.build 127 #[(0,.pointer (some ⟨f,0,none⟩)),(1,.int .i64 k),(2,.agg ⟨nV ⟨a,b,c,e,[x0,x1,x2,x3,x4,x5,x6,x7]⟩⟩),(4,.int .i64 n)]) (.agg ⟨wV f k ⟨a,b,c,e,[x0,x1,x2,x3,x4,x5,x6,x7]⟩ none 0 0 n⟩):=fun w=>by kernel_rfl
theorem build_wr {i:Nd} (hw:nWf i) {f:Nat} {k n:Int}:Al (Instr.build 127 #[(0,.pointer (some ⟨f,0,none⟩)),(1,.int .i64 k),(2,.agg ⟨nV i⟩),(4,.int .i64 n)]) (.agg ⟨wV f k i none 0 0 n⟩):=by
 have hl:i.p.length=8:=hw
 cases i with
 | mk a b c e p =>
  match p,hl with
  | [x0,x1,x2,x3,x4,x5,x6,x7],_=>exact build_wr8 f k a b c e x0 x1 x2 x3 x4 x5 x6 x7 n
set_option maxHeartbeats 1000000 in
theorem fWrite_c {k:Int} {i:Nd} {xs:Bk} {a3:Option Addr} {l3 c3:Nat} (h63:k<=9223372036854775807) (h:Fo R w f a v d F) (hM:MuF F) (hi:slotV F.A.V F.A.s.geo k=(i,0)) (hkd:i.kind=1\/i.kind=2) (hl:xs.length=l3) (l0:0<l3) (l1:l3<=1536) (hc3:l3<=c3)
  (hrd:Row w a3 (u8L xs)) (hdo:∀ q',a3=some q'->¬ R q'.block/\q'.block<w.heap.size) (hz:∀ m,m<(l3+255) / 256->i.p.getD m 0=0) (hs0:i.size<l3) (hs1:0<=i.size)
  (hfree:needS 0 l3<=(freeA F.A F.A.s.geo.gs.toNat).1) (hok:∀ j,j<(l3+255) / 256->okB (wrS F k i xs j).F (wrS F k i xs j).near/\(wrS F k i xs j).near<=9223372036854775807) (ho:nOk (endI (wrS F k i xs ((l3+255) / 256)).i l3)=true)
  (hlast:F.A.V.last+20<=1000000) (hml:(F.mi k).length+20<=1000000) (hp:(gPlace F.A.s.geo k).2.2=0)
  (hk:∀ w' R',Mod R w w'->Sb R R' w->Fo R' w' f a v d (wrF F k i xs)->MuF (wrS F k i xs ((l3+255) / 256)).F->(∀ x∈(wrS F k i xs ((l3+255) / 256)).af,1<=x/\x<=((wrS F k i xs ((l3+255) / 256)).F.A.V.last:Int))->(HdsAt (wrS F k i xs ((l3+255) / 256)).F.A.V (wrS F k i xs ((l3+255) / 256)).F.A.s.geo (wrS F k i xs ((l3+255) / 256)).F.A.hs/\WFS (wrS F k i xs ((l3+255) / 256)).F.A.V/\WF (wrS F k i xs ((l3+255) / 256)).F.A.V.C.D)->K (.int .i64 0) w') :
  Cal Tryz.prog F_file_Files_Write #[.pointer (some ⟨f,0,none⟩),.int .i64 k,.int .i64 0,.slice a3 l3 c3] w K:=by
 apply C_file_Files_Write
 unfold D_file_Files_Write
 have hlt:=h.lt
 have hd:=h.dlt
 have hwf:nWf i:=by have:=slotV_wf F.A.V F.A.s.geo k; rw [hi] at this; exact this
 have ht:thF F k=0:=by unfold thF; rw [hi,if_neg (fun e=>e rfl),if_neg (by simp only; omega)]
 refine fThing_c h63 h fun w1 R1 m1 s1 h1=>⟨_,_,rfl,?_⟩
 rw [hi]
 obtain ⟨w2,b1,b2,b3,b4⟩:=new_u (P:=Tryz.prog) (w:=w1) (T:=51) zero_ino
 obtain ⟨w3,c1,c2,c3',c4⟩:=b2.put (T:=51) (vs:=nV i) agg_ino rfl (nV_len hwf) (one_nV _)
 have M3:Mod No w1 w3:=b3.own c3' (Nat.le_refl _)
 have z1:=m1.size
 refine ⟨_,w2,b1,w3,c1,ff (by rw [ht]; rfl) (Share.dup (ff rfl ⟨_,rfl,ff (decide_eq_false (by omega)) (Share.dup (ff rfl ⟨_,rfl,ff (decide_eq_false (by rw [wrap64 (by omega) (by omega)]; omega)) ?_⟩))⟩))⟩
 refine Share.dup ⟨i.kind,c2.at.fld sc_int rfl,ff (by rw [beqI]; exact decide_eq_false (by omega)) ⟨_,rfl,ff rfl (ff (by rw [beqI]; exact decide_eq_false (by omega)) ?_)⟩⟩
 have h3:=h1.nos M3
 obtain ⟨Ra,hA,hRa,hc⟩:=h3.alc
 refine ⟨_,rfl,_,h3.pa,aFree_c hA fun w4 R4 m4 s4 h4=>⟨_,_,rfl,Need_c ⟨_,rfl,ff (decide_eq_false (by show ¬ (freeA F.A _).1<_; omega)) ?_⟩⟩⟩
 obtain ⟨k1,k2,k3⟩:=hc w4 R4 _ m4 s4 h4
 have n9:¬ Ra w1.heap.size/\¬ (R1 w1.heap.size\/R4 w1.heap.size):=by
  have n1:¬ R1 w1.heap.size:=fun e=>by have:=h1.lt _ e; omega
  have:=b3.size
  have:=c3'.size
  refine ⟨fun e=>by have:=hRa _ e; exact n1 this,fun e=>?_⟩
  rcases k2 _ e with e | e
  ·exact n1 e
  ·omega
 have q4:AtU w4 w1.heap.size 0 (nV i):=c2.keep k1 (fun e=>n9.2 (.inl e))
 have M4d:Mod No w4 (Go.Den.drew w4):=(Mod.refl _ _).drew
 have q4d:=q4.drew
 refine ⟨_,q4d.at.all agg_ino (nV_len hwf),_,q4d.at.all agg_ino (nV_len hwf),fNear0_c fun w5 m5=>⟨_,rfl,?_⟩⟩
 obtain ⟨w6,d1,d2,d3,d4⟩:=box_u (P:=Tryz.prog) (w:=w5) (T:=127) (cs:=wV f k i none 0 0 0)
 refine ⟨(q4d.keep m5 id).at.all agg_ino (nV_len hwf),_,build_wr hwf,_,w6,d1,?_⟩
 have M6:Mod No w4 w6:=(M4d.no m5).no d3
 have h6:=k3.nos M6
 have q6:AtU w6 w1.heap.size 0 (nV i):=(q4d.keep m5 id).keep d3 id
 have z4:=k1.size
 have z6:=M6.size
 have z3:=M3.size
 have T6:Mod R w w6:=((m1.no M3).trans k1 fun x hx e=>(s1 x e).resolve_right (by omega)).no M6
 have S6:Sb R (fun z=>R1 z\/R4 z) w:=fun z hz=>by
  rcases k2 z hz with e | e
  ·exact s1 z e
  ·exact .inr (by omega)
 have wl:w5.heap.size+1=w6.heap.size:=d4.symm
 have z5:=(M4d.no m5).size
 have hd3:∀ q',a3=some q'->q'.block<w.heap.size/\∀ R',Sb R R' w->¬ R' q'.block:=fun q' e=>⟨(hdo q' e).2,fun R' s r=>(s _ r).elim (hdo q' e).1 fun x=>by have:=(hdo q' e).2; omega⟩
 have w9:w1.heap.size<w5.heap.size:=by have:=(c2.keep k1 (fun e=>n9.2 (.inl e))).lt; omega
 refine ⟨fun x wj=>∃ (j:Nat) (Rj:Nat->Prop) (aa:Option Addr) (lc:Nat) (u1 u2:Value),j<=(l3+255) / 256/\x=[.int .i64 ((min (256*j) l3:Nat):Int),u1,u2]/\Mod R w wj/\Sb R Rj w/\Fo Rj wj f a v d (wrS F k i xs j).F/\MuF (wrS F k i xs j).F/\(∀ x∈(wrS F k i xs j).af,1<=x/\x<=((wrS F k i xs j).F.A.V.last:Int)) /\
   AtU wj w5.heap.size 0 (wV f k (wrS F k i xs j).i aa (wrS F k i xs j).af.length lc (wrS F k i xs j).near)/\Ow Tryz.prog wj w6.heap.size 65 1 aa (wrS F k i xs j).af.length lc (iL (wrS F k i xs j).af)/\(∀ q',aa=some q'->¬ Rj q'.block)/\(∀ z,Rj z->z≠w5.heap.size/\z≠w1.heap.size)/\AtU wj w1.heap.size 0 (nV i)/\w6.heap.size<=wj.heap.size/\Row wj a3 (u8L xs),
  fun x _=>(l3-nI x 0).toNat,⟨0,_,none,0,_,_,by omega,rfl,T6,S6,h6,hM,(fun _ e=>by cases e),d2,Ow.nil elemZ_64,(fun _ e=>by cases e),(fun z hz=>⟨fun e=>?_,fun e=>?_⟩),q6,Nat.le_refl _,?_⟩,?_⟩
 ·have:=k3.lt z hz
  omega
 ·exact n9.2 (e ▸ hz)
 ·exact hrd.keep T6 fun q' e=>(hdo q' e).1
 rintro x wj ⟨j,Rj,aa,lc,u1,u2,hj,rfl,Tj,Sj,hF,hMj,haf,qj,oj,nja,njq,q9,zj,hrj⟩
 obtain ⟨i1,i2,i3,i4,i5,i6,i7,i8,i9,i10⟩:=wrS_in F k hwf xs j
 have ew:IntKind.i64.wrap (0+(l3:Int))=l3:=by rw [wrap64 (by omega) (by omega)]; omega
 refine ⟨_,rfl,?_⟩
 rw [ew]
 refine cond_of (fun hb=>?_) (fun hb=>?_)
 ·have hb:=of_decide_eq_true hb
  have hj2:j<(l3+255) / 256:=by omega
  have hm:(min (256*j) l3:Nat)=256*j:=by omega
  have hjl:256*j<l3:=by omega
  rw [hm]
  have e1:IntKind.i64.wrap (((256*j:Nat):Int)-0)=((256*j:Nat):Int):=by rw [wrap64 (by omega) (by omega)]; omega
  have e2:Int.tmod ((256*j:Nat):Int) 256=0:=by rw [Int.tmod_eq_emod_of_nonneg (by omega)]; omega
  have e3:IntKind.i64.wrap (256-0)=256:=rfl
  have e4:IntKind.i64.wrap (((256*j:Nat):Int)+256)=((256*j+256:Nat):Int):=by rw [wrap64 (by omega) (by omega)]; omega
  have e5:IntKind.i64.wrap ((l3:Int)-0)=l3:=by rw [wrap64 (by omega) (by omega)]; omega
  have e6:IntKind.i64.wrap (Int.tdiv ((256*j:Nat):Int) 256)=j:=by rw [Int.tdiv_eq_ediv_of_nonneg (by omega),wrap64 (by omega) (by omega)]; omega
  have e7:(if ((256*j+256:Nat):Int)<(l3:Int) then ((256*j+256:Nat):Int) else (l3:Int))=((min (256*j+256) l3:Nat):Int):=by split <;> omega
  rw [e1,e2,e3,e4,e5,e6,e7]
  refine ⟨_,_,_,slice_lh elemN_bytes (by omega) (by omega) (by omega),?_⟩
  rw [Int.toNat_natCast,Int.toNat_natCast]
  obtain ⟨w12,g1,g2,g3,g4⟩:=makeSlice_run (P:=Tryz.prog) (w:=wj) (n:=256) elemZ_bytes (by omega) (by omega) (by omega)
  refine ⟨_,_,_,w12,g1,_,_,_,slice_l elemN_bytes (by omega) (by omega),?_⟩
  have c0:cutA (some (⟨wj.heap.size,0,none⟩:Addr)) 256 (0:Int).toNat 1=some ⟨wj.heap.size,0,none⟩:=by unfold cutA; rw [if_neg (by decide)]; rfl
  rw [c0]
  have hrow:Row w12 (cutA a3 c3 (256*j) 1) (u8L ((xs.drop (256*j)).take (min (256*j+256) l3-256*j))):=(hrj.nos g3).cut (by omega) (by omega)
  have hys:(xs.drop (256*j)).take (min (256*j+256) l3-256*j)=(xs.drop (256*j)).take 256:=List.take_eq_take_iff.2 (by rw [List.length_drop]; omega)
  have hyl:((xs.drop (256*j)).take 256).length=min (256*j+256) l3-256*j:=by rw [List.length_take,List.length_drop]; omega
  rw [hys] at hrow
  obtain ⟨w13,p1,p2,p3,p4⟩:=copy_in (P:=Tryz.prog) (T:=55) (T2:=55) (ty:=3) (i:=0) (n:=256) (c:=256) (n2:=min (256*j+256) l3-256*j) (c2:=c3-256*j) (a2:=cutA a3 c3 (256*j) 1) (src:=u8L ((xs.drop (256*j)).take 256)) elemN_bytes g2 (by rw [List.length_replicate]; omega) hrow (by rw [length_u8L,hyl]; omega) (one_u8L _)
  rw [pc_splice hyl (by omega)] at p2
  have p2':AtU w13 wj.heap.size 0 (u8L (pcB xs j)):=by unfold pcB; rw [hyl]; exact p2
  refine ⟨_,w13,p1,?_⟩
  have M13:Mod No wj w13:=g3.own p3 (Nat.le_refl _)
  have z13:=M13.size
  obtain ⟨okb,nearb⟩:=hok j hj2
  have q5:w5.heap.size<w6.heap.size:=by omega
  have naa:∀ q',aa=some q'->w6.heap.size<=q'.block:=fun q' e=>(oj.base e).1
  refine fBlock_c (base:=w6.heap.size) (n:=j) (data:=pcB xs j) nearb (hF.nos M13) hMj (qj.keep M13 id) (fun e=>(njq _ e).1 rfl) (by omega) i1 (by omega) (by rw [i10 j (Nat.le_refl _)]; exact hz j hj2) okb (by omega) (by omega) (pcB_len _ _) (.inr ⟨_,_,rfl,p2'.at⟩) (fun q' e=>?_) (oj.nos M13) (by omega) (by omega) (by omega) (fun q' e=>⟨nja q' e,by have:=naa q' e; omega⟩) fun w14 R14 aa' lc' m14 s14 h14 hM14 hL14 q14 o14 n14=>⟨_,_,_,rfl,Share.dup (tt rfl ⟨_,rfl,Share.dup (ff rfl ⟨_,rfl,ff rfl ⟨⟨j+1,R14,aa',lc',.int .i64 0,.bool (!true),by omega,?_,?_,?_,h14,hM14,?_,q14,o14,fun q' e=>(n14 q' e).1,?_,?_,?_,?_⟩,?_⟩⟩)⟩)⟩
  ·cases e
   exact ⟨fun e=>by have:=hF.lt _ e; simp at this,by simp only; omega,p2'.lt⟩
  ·have:IntKind.i64.wrap (((256*j:Nat):Int)+((min (256*j+256) l3-256*j:Nat):Int))=((min (256*(j+1)) l3:Nat):Int):=by rw [wrap64 (by omega) (by omega)]; omega
   rw [this]
  ·refine (Tj.no M13).trans m14 fun x hx e=>?_
   rcases e with e | e | ⟨q',e,e'⟩
   ·exact (Sj x e).resolve_right (by omega)
   ·omega
   ·have:=naa q' e; omega
  ·intro z hz
   rcases s14 z hz with e | e
   ·exact Sj z e
   ·exact .inr (by have:=Tj.size; omega)
  ·intro x hx
   have hx:x∈(wrS F k i xs j).af++[(blockA (wrS F k i xs j).F.A (wrS F k i xs j).near).2.2.1,((blockA (wrS F k i xs j).F.A (wrS F k i xs j).near).1.V.last:Int)+1]:=hx
   show 1<=x/\x<=((frF (wrS F k i xs j).F k (wrS F k i xs j).near (pcB xs j)).A.V.last:Int)
   rw [hL14]
   obtain ⟨_,u1,u2,_⟩:=blkA_up (wrS F k i xs j).F.A (wrS F k i xs j).near
   rw [blkA_id okb.1] at hx
   rcases List.mem_append.1 hx with hx | hx
   ·have:=haf x hx; omega
   ·rcases List.mem_cons.1 hx with e | hx
    ·omega
    ·have:=List.mem_singleton.1 hx
     omega
  ·intro z hz
   rcases s14 z hz with e | e
   ·exact njq z e
   ·omega
  ·refine (q9.keep M13 id).keep m14 fun e=>?_
   rcases e with e | e | ⟨q',e,e'⟩
   ·exact (njq _ e).2 rfl
   ·omega
   ·have:=naa q' e; omega
  ·have:=m14.size; omega
  ·refine (hrj.nos M13).keep m14 fun q' e r=>?_
   have:=(hdo q' e).2
   rcases r with r | r | ⟨q2,e2,r⟩
   ·exact (hd3 q' e).2 Rj Sj r
   ·omega
   ·have:=naa q2 e2; omega
  ·have n1:∀ n u1 u2,nI [.int .i64 n,u1,u2] 0=n:=fun _ _ _=>rfl
   show ((l3:Int)-nI _ 0).toNat<((l3:Int)-nI _ 0).toNat
   rw [n1,n1,wrap64 (by omega) (by omega)]
   omega
 ·have hb:=of_decide_eq_false hb
  have hj2:j=(l3+255) / 256:=by omega
  have hno:¬ Rj w5.heap.size:=fun e=>(njq _ e).1 rfl
  have wl:w5.heap.size<wj.heap.size:=qj.lt
  refine ⟨i.size,q9.at.fld (j:=2) (v:=.int .i64 i.size) sc_i64 rfl,_,rfl,?_⟩
  rw [if_pos (show (l3:Int) > i.size by omega)]
  have ad4:Addr.add (Addr.add ⟨w5.heap.size,0,none⟩ 2) 2=Addr.add ⟨w5.heap.size,0,none⟩ 4:=by rw [add_none,add_none,add_none]
  rw [ad4]
  obtain ⟨wa,a1,a2,a3',a4⟩:=qj.putF (T:=2) (j:=4) (v:=.int .i64 (l3:Int)) sc_i64 (by rw [wV_len i1]; omega) rfl
  rw [wV_setS] at a2
  have q9a:AtU wa w1.heap.size 0 (nV i):=q9.keep a3' (fun e=>by omega)
  refine ⟨wa,a1,i.kind,q9a.at.fld (j:=0) (v:=.int .i64 i.kind) sc_int rfl,?_⟩
  have hFa:=hF.own a3' hno (by omega)
  have fin:∀ wz,Mod (fun z=>z=w5.heap.size) wj wz->AtU wz w5.heap.size 0 (wV f k (endI (wrS F k i xs j).i l3) aa (wrS F k i xs j).af.length lc (wrS F k i xs j).near) ->
    ∃ q194:Addr,(.pointer (some ⟨w5.heap.size,0,none⟩):Value)=.pointer (some q194)/\∃ g196:Array Value,Ru (Instr.loadAt 51 (.pointer (some (Addr.add q194 2)))) (Go.Den.drew wz) (.agg g196) (Go.Den.drew wz)/\∃ g197:Array Value,Ru (Instr.loadAt 51 (.pointer (some ⟨w1.heap.size,0,none⟩))) (Go.Den.drew wz) (.agg g197) (Go.Den.drew wz)/\∃ b198:Bool,Al (eqS .eql 51 (.tmp 196) (.tmp 197) (.agg g196) (.agg g197)) (.bool b198)/\(bif b198 then
     K (.int .i64 0) (Go.Den.drew wz)
     else
     ∃ q203:Addr,(.pointer (some ⟨w5.heap.size,0,none⟩):Value)=.pointer (some q203)/\∃ g205:Array Value,Ru (Instr.loadAt 51 (.pointer (some (Addr.add q203 2)))) (Go.Den.drew (Go.Den.drew wz)) (.agg g205) (Go.Den.drew (Go.Den.drew wz))/\∃ q207:Addr,(.pointer (some ⟨w5.heap.size,0,none⟩):Value)=.pointer (some q207)/\∃ (a209:Option Addr) (l209 c209:Nat),Ru (Instr.loadAt 65 (.pointer (some (Addr.add q207 14)))) (Go.Den.drew (Go.Den.drew wz)) (.slice a209 l209 c209) (Go.Den.drew (Go.Den.drew wz))/\Cal Tryz.prog F_file_Files_Put #[.pointer (some ⟨f,0,none⟩),.int .i64 k,.agg g205,.slice a209 l209 c209] (Go.Den.drew (Go.Den.drew wz)) fun r210 w25=>∃ n210a:Int,∃ n210b:Int,r210=.tuple #[.int .i64 n210a,.int .i64 n210b]/\K (.int .i64 n210b) w25):=by
   intro wz mz qz
   have hwe:nWf (endI (wrS F k i xs j).i l3):=i1
   have M1:Mod No wz (Go.Den.drew wz):=(Mod.refl _ _).drew
   have M2:Mod No wz (Go.Den.drew (Go.Den.drew wz)):=M1.drew
   have q1:=qz.keep M1 id
   have q2:=qz.keep M2 id
   have q9z:AtU (Go.Den.drew wz) w1.heap.size 0 (nV i):=(q9.keep mz (fun e=>by omega)).keep M1 id
   have hne:¬ endI (wrS F k i xs j).i l3=i:=fun e=>by
    have e:=congrArg Nd.size e
    have:(endI (wrS F k i xs j).i l3).size=if (wrS F k i xs j).i.kind=2 then ((l3:Int)+255) / 256*256 else l3:=rfl
    rw [this] at e
    split at e <;> omega
   have hFz:=(hF.own mz hno (by omega)).nos M2
   have oz:Ow Tryz.prog (Go.Den.drew (Go.Den.drew wz)) w6.heap.size 65 1 aa (wrS F k i xs j).af.length lc (iL (wrS F k i xs j).af):=(oj.keep mz fun q' e r=>by have:=(oj.base e).1; omega).nos M2
   have eC:∀ o:Nat,o<16->True:=fun _ _=>trivial
   refine ⟨_,rfl,_,q1.at.fldA (n:=12) agg_ino (by rw [wV_len hwe]; omega) (wV_ino hwe),_,q9z.at.all agg_ino (nV_len hwf),_,ieq _ _ hwe hwf,ff (decide_eq_false hne) ⟨_,rfl,_,q2.at.fldA (n:=12) agg_ino (by rw [wV_len hwe]; omega) (wV_ino hwe),_,rfl,_,_,_,q2.at.fld sc_64s (wV_end hwe).1,?_⟩⟩
   refine fPut_c (after:=(wrS F k i xs j).af) h63 hFz hMj hwe (by rw [hj2]; exact ho) (by rw [i2]; exact hp) (by omega) (by omega) rfl (fun e=>by rw [e] at oz; exact oz.zero) (by omega) haf oz.rowU.row fun w25 R25 m25 s25 h25=>⟨_,_,rfl,hk w25 R25 ?_ ?_ ?_ (by rw [<- hj2]; exact hMj) (by rw [<- hj2]; exact haf) (by rw [<- hj2]; exact hFz.hd)⟩
   ·exact (((Tj.trans mz fun x hx e=>by omega).no M2).trans m25 fun x hx e=>(Sj x e).resolve_right (by omega))
   ·intro z hz
    rcases s25 z hz with e | e
    ·exact Sj z e
    ·have:=mz.size
     have:=M2.size
     have:=Tj.size
     exact .inr (by omega)
   ·unfold wrF
    rw [hl,<- hj2]; exact h25
  rw [beqI]
  refine Share.dup (cond_of (fun hb2=>?_) (fun hb2=>?_))
  ·have hb2:=of_decide_eq_true hb2
   refine ⟨_,rfl,(l3:Int),by rw [ad4]; exact a2.at.fld (j:=4) sc_i64 rfl,_,rfl,?_⟩
   rw [ad4]
   have er:IntKind.i64.wrap ((IntKind.i64.wrap (Int.tdiv (IntKind.i64.wrap ((IntKind.i64.wrap ((l3:Int)+256))-1)) 256))*256)=((l3:Int)+255) / 256*256:=by
    rw [wrap64 (x:=(l3:Int)+256) (by omega) (by omega),wrap64 (x:=(l3:Int)+256-1) (by omega) (by omega),Int.tdiv_eq_ediv_of_nonneg (by omega),wrap64 (x:=((l3:Int)+256-1) / 256) (by omega) (by omega),wrap64 (by omega) (by omega)]
    omega
   rw [er]
   have i1s:nWf (setS (wrS F k i xs j).i l3):=i1
   obtain ⟨wb,b1',b2',b3',b4'⟩:=a2.putF (T:=2) (j:=4) (v:=.int .i64 (((l3:Int)+255) / 256*256)) sc_i64 (by rw [wV_len i1s]; omega) rfl
   rw [wV_setS] at b2'
   have eI:setS (setS (wrS F k i xs j).i l3) (((l3:Int)+255) / 256*256)=endI (wrS F k i xs j).i l3:=by unfold endI setS; rw [if_pos (i3.trans hb2)]
   rw [eI] at b2'
   exact ⟨wb,b1',fin wb (a3'.trans b3' fun _ _ e=>e) b2'⟩
  ·have hb2:=of_decide_eq_false hb2
   have eI:setS (wrS F k i xs j).i l3=endI (wrS F k i xs j).i l3:=by unfold endI setS; rw [if_neg (fun e=>hb2 (i3.symm.trans e))]
   rw [eI] at a2
   exact fin wa a3' a2
end
end Go.Proofs.YtandmpcjjaabmaaGreat
end
section
open Go Go.Den Go.Proofs
namespace Go.Proofs.YtandmpcjjaabmaaGreat
def newF (A:Az):Fy:=⟨A,fun _=>0,fun _=>[]⟩
theorem newF_mu (A:Az):MuF (newF A):=fun _ _ h=>by cases h
theorem build_files (w:World) (p q:Option Addr) (m n:Option Nat):(Instr.build 111 #[(0,.pointer p),(1,.pointer q),(2,.map m),(3,.map n)]).run Tryz.prog w=.ok (.agg ⟨[.pointer p,.pointer q,.map m,.map n]⟩) w:=by kernel_rfl
theorem MuF.put {A0:Az} {F:Fy} (h:MuF F) (hA:F.A=A0) (hH:HdsAt A0.V A0.s.geo A0.hs) {k:Int} {i:Nd} {after:List Int} (hw:nWf i) (hp:(gPlace A0.s.geo k).2.2=0) (hb:badA A0.V after=false):MuF (putF F k i after):=by
 subst hA
 have hE:=setI_E (k:=k) (i:=i) hH hw hp hb
 intro n x hx
 have hl:((putF F k i after).A.V.last:Int)=F.A.V.last+1:=by show ((patS _ _ _ _ _).last:Int)=_; rw [patS_last hE]; omega
 have old:∀ x,(F.A.V.opn x=true/\1<=x/\x<=(F.A.V.last:Int))->(putF F k i after).A.V.opn x=true/\1<=x/\x<=((putF F k i after).A.V.last:Int):=fun x ⟨o1,o2,o3⟩=>⟨opn_pat _ _ _ _ o1,o2,by omega⟩
 have hx:x∈(if n=k then F.mi k++[(F.A.V.last:Int)+1] else F.mi n):=hx
 split at hx
 ·rcases List.mem_append.1 hx with hx | hx
  ·exact old x (h k x hx)
  ·have:=List.mem_singleton.1 hx
   rw [this]; exact ⟨opn_new hE,by omega,by omega⟩
 ·exact old x (h n x hx)
section
variable {w w':World} {R R' Ra:Nat->Prop} {f a v d fl fm:Nat} {F:Fy} {A:Az} {K:Value->World->Prop}
theorem fNew_c (h:Ao R w a v d A) (hk:∀ w' R' f,Mod No w w'->Sb R R' w->Fo R' w' f a v d (newF A)->w.heap.size<=f->K (.pointer (some ⟨f,0,none⟩)) w'):Cal Tryz.prog F_file_New #[.pointer (some ⟨a,0,none⟩)] w K:=by
 apply C_file_New
 unfold D_file_New
 have hdl:=h.dlt
 have m1:Mod No w (w.alloc (.map #[] 0)):=(Mod.refl No w).alloc _
 have s1:(w.alloc (.map #[] 0)).heap.size=w.heap.size+1:=by simp
 have p1:MapAt (w.alloc (.map #[] 0)) w.heap.size []:=MapAt.new
 refine ff rfl (aVol_c h ⟨_,rfl,_,_,makeMap_run,?_⟩)
 generalize w.alloc (.map #[] 0)=w1 at *
 have m2:Mod No w1 (w1.alloc (.map #[] 0)):=(Mod.refl No w1).alloc _
 have s2:(w1.alloc (.map #[] 0)).heap.size=w1.heap.size+1:=by simp
 have p2:MapAt (w1.alloc (.map #[] 0)) w1.heap.size []:=MapAt.new
 refine ⟨_,_,makeMap_run,_,fun w=>build_files w _ _ _ _,?_⟩
 generalize w1.alloc (.map #[] 0)=w2 at *
 obtain ⟨w3,c1,c2,c3,c4⟩:=box_u (P:=Tryz.prog) (w:=w2) (T:=111) (cs:=[.pointer (some ⟨a,0,none⟩),.pointer (some ⟨v,0,none⟩),.map (some w.heap.size),.map (some w1.heap.size)])
 have M:Mod No w w3:=(m1.no m2).no c3
 refine ⟨_,w3,c1,hk w3 (fun z=>R z\/z=w2.heap.size\/z=w1.heap.size\/z=w.heap.size) _ M (fun z hz=>?_) ⟨R,w.heap.size,w1.heap.size,[],[],fun _=>none,fun _=>0,?_⟩ (by omega)⟩
 ·rcases hz with hz | hz | hz | hz
  ·exact .inl hz
  all_goals exact .inr (by omega)
 have fb:∀ z,FiB (fun _=>none) w2.heap.size w.heap.size w1.heap.size z->z=w2.heap.size\/z=w1.heap.size\/z=w.heap.size:=by
  rintro z (e | e | e | ⟨k,q,e,_⟩)
  ·exact .inl e
  ·exact .inr (.inr e)
  ·exact .inr (.inl e)
  ·cases e
 exact {
  ao:=h.nos M
  cl:=c2
  ml:=(p1.keep m2 id).keep c3 id
  hl:=fun _=>rfl
  mm:=p2.keep c3 id
  hm:=fun _=>rfl
  ow:=fun _=>Ow.nil elemZ_64
  inj:=fun _ _ _ _ e=>by cases e
  ob:=fun z hz=>by
   have:=fb z hz
   exact ⟨fun r=>by have:=h.lt z r; omega,by omega⟩
  df:=⟨by omega,by omega,by omega,fun _ _ e=>by cases e⟩
  rg:=fun z hz=>hz.imp id (fb z)
  lt:=fun z hz=>by
   rcases hz with hz | hz
   ·have:=h.lt z hz
    have:=M.size
    omega
   ·omega }
theorem fAlloc_c (h:Fo R w f a v d F) (hk:K (.pointer (some ⟨a,0,none⟩)) w):Cal Tryz.prog F_file_Files_Alloc #[.pointer (some ⟨f,0,none⟩)] w K:=by
 apply C_file_Files_Alloc
 unfold D_file_Files_Alloc
 exact ff rfl ⟨_,rfl,_,h.pa,hk⟩
end
end Go.Proofs.YtandmpcjjaabmaaGreat
end
section
open Go Go.Den Go.Proofs
namespace Go.Proofs.YtandmpcjjaabmaaGreat
end Go.Proofs.YtandmpcjjaabmaaGreat
namespace Go.Den
end Go.Den
namespace Go.Proofs.YtandmpcjjaabmaaGreat
def gE (g:Gm):Gm:=if gOk g=true/\gSize g<=200 then g else gKn
def dE (g:Gm):St:=fmtSt (newSt (gSize (gE g)).toNat) (gE g)
def nE (g:Gm):Int:=nextTo (dE g) (gE g) (gSlots (gE g)).toNat+1
def aE (g:Gm) (hs:List Hd) (k:Nat):Az:=⟨⟨1,gE g⟩,⟨⟨dE g,k,[]⟩,0,[]⟩,[],nE g,hs,fun _=>false⟩
theorem gE_ok (g:Gm):gOk (gE g)=true/\gSize (gE g)<=200:=by
 unfold gE
 split
 ·rename_i h; exact h
 ·exact ⟨by decide,by decide⟩
theorem gE_sz (g:Gm):gSize (gE g)=2+(gE g).gs*(gE g).gr/\18<=gSize (gE g):=by
 have h:=(gE_ok g).1
 have e:gSize (gE g)=2+(gE g).gs*(gE g).gr:=by unfold gSize; rw [if_pos h]
 obtain ⟨h1,_,h3,_⟩:=gOk_iff.1 h
 have:1*16<=(gE g).gs*(gE g).gr:=Int.mul_le_mul h3 h1 (by omega) (by omega)
 exact ⟨e,by omega⟩
theorem bndN (k:Nat):Bnd (newSt k) 1:=fun v hv=>by
 have:=List.eq_of_mem_replicate hv
 subst this; simp
section
variable {w wb w':World} {R R0 R':Nat->Prop} {N a v d:Nat} {A:Az} {hs:List Hd} {K:Value->World->Prop}
end
end Go.Proofs.YtandmpcjjaabmaaGreat
end
section
open Go Go.Den Go.Proofs
namespace Go.Proofs.YtandmpcjjaabmaaGreat
section
variable {D:St} {l:List (Int×Bk)} {b:Nat} {ys:Bk} {g:Gm} {n:Nat}
def InD (D:St) (l:List (Int×Bk)):Prop:=∀ x∈l,∃ j:Nat,x.1=j/\j<D.vs.length/\x.2.length=256
theorem wrAll_no (hl:D.left=-1) (hin:InD D l) (hno:∀ x∈l,x.1≠(b:Int)):atD (wrAll D l) b=atD D b:=by
 induction l generalizing D with
 | nil=>rfl
 | cons x l ih =>
  obtain ⟨j,h1,h2,h3⟩:=hin x List.mem_cons_self
  show atD (wrAll (wrSt D x.1 x.2) l) b=_
  have hi:InD (wrSt D x.1 x.2) l:=fun y hy=>by
   obtain ⟨j,k1,k2,k3⟩:=hin y (List.mem_cons_of_mem _ hy)
   exact ⟨j,k1,by rw [wrSt_len]; exact k2,k3⟩
  rw [ih (wrSt_run hl _ _) hi (fun y hy=>hno y (List.mem_cons_of_mem _ hy)),h1,atD_wrN h2 h3 hl,if_neg (fun e=>hno x List.mem_cons_self (by rw [h1,e]))]
theorem wrAll_yes (hl:D.left=-1) (hin:InD D l) (hx:∃ x∈l,x.1=(b:Int)) (hu:∀ x∈l,x.1=(b:Int)->x.2=ys):atD (wrAll D l) b=ys:=by
 induction l generalizing D with
 | nil=>obtain ⟨x,h,_⟩:=hx; cases h
 | cons x l ih =>
  obtain ⟨j,h1,h2,h3⟩:=hin x List.mem_cons_self
  show atD (wrAll (wrSt D x.1 x.2) l) b=_
  have hi:InD (wrSt D x.1 x.2) l:=fun y hy=>by
   obtain ⟨j,k1,k2,k3⟩:=hin y (List.mem_cons_of_mem _ hy)
   exact ⟨j,k1,by rw [wrSt_len]; exact k2,k3⟩
  by_cases h:∃ y∈l,y.1=(b:Int)
  ·exact ih (wrSt_run hl _ _) hi h fun y hy=>hu y (List.mem_cons_of_mem _ hy)
  ·have hxb:x.1=(b:Int):=by
    obtain ⟨y,hy,e⟩:=hx
    rcases List.mem_cons.1 hy with rfl | hy
    ·exact e
    ·exact absurd ⟨y,hy,e⟩ h
   rw [wrAll_no (wrSt_run hl _ _) hi (fun y hy e=>h ⟨y,hy,e⟩),h1,atD_wrN h2 h3 hl,if_pos (by omega)]
   exact hu x List.mem_cons_self hxb
theorem mem_volL {x:Int×Bk} {m:Nat}:x∈volL g m↔∃ k,k<m/\∃ i,i<volN g/\x=volX g k i:=by
 unfold volL volG
 simp only [List.mem_flatMap,List.mem_range,List.mem_map]
 constructor
 ·rintro ⟨k,hk,i,hi,e⟩; exact ⟨k,hk,i,hi,e.symm⟩
 ·rintro ⟨k,hk,i,hi,e⟩; exact ⟨k,hk,i,hi,e.symm⟩
theorem vol_inj (hg:gOk g=true) {k k' i i':Nat} (hi:i<volN g) (hi':i'<volN g) (e:2+(k:Int)*g.gr+i=2+(k':Int)*g.gr+i'):k=k'/\i=i':=by
 have hv:=(volN_b hg).1
 obtain ⟨h1,_,_,_,h5,h6,h7,h8,_⟩:=gOk_iff.1 hg
 have key:∀ {a c:Nat},a<c->(a:Int)*g.gr+g.gr<=(c:Int)*g.gr:=fun {a c} h=>by
  have:=Int.mul_le_mul_of_nonneg_right (show (a:Int)+1<=c by omega) (show 0<=g.gr by omega)
  rw [Int.add_mul,Int.one_mul] at this; exact this
 rcases Nat.lt_trichotomy k k' with h | h | h
 ·have:=key h; omega
 ·subst h; omega
 ·have:=key h; omega
theorem inD_vol (hg:gOk g=true) (hn:gSize g<=n):InD (fmt0 (newSt n)) (volL g g.gs.toNat):=fun x hx=>by
 obtain ⟨k,hk,i,hi,rfl⟩:=mem_volL.1 hx
 obtain ⟨h1,h2⟩:=volX_in hg (k:=k) (n:=n) (by omega) hi hn
 exact ⟨(volX g k i).1.toNat,by omega,by rw [fmt0_len]; simp [newSt]; omega,volB_len g k i⟩
theorem newRun:(newSt n).left=-1:=rfl
theorem at_new (hg:gOk g=true) (hn:gSize g<=n) {k i:Nat} (hk:(k:Int)<g.gs) (hi:i<volN g):atD (fmtSt (newSt n) g) (2+(k:Int)*g.gr+i).toNat=volB g k i:=by
 obtain ⟨h1,h2⟩:=volX_in hg (n:=n) hk hi hn
 have h1:2<=2+(k:Int)*g.gr+i:=h1
 have h2:2+(k:Int)*g.gr+i<n:=h2
 have hb:(((2+(k:Int)*g.gr+i).toNat:Nat):Int)=2+(k:Int)*g.gr+i:=by omega
 generalize (2+(k:Int)*g.gr+i).toNat=b at hb
 have h1r:=fmt1_run (newRun (n:=n)) g
 have hl1:1<(fmt1 (newSt n) g).vs.length:=by rw [fmt1_len]; simp [newSt]; omega
 unfold fmtSt
 rw [atD_fl (wrSt_run h1r _ _),show (1:Int)=((1:Nat):Int) from rfl,atD_wrN hl1 (supB_len _) h1r,if_neg (by omega)]
 unfold fmt1
 rw [atD_fl (wrAll_run (fmt0_run newRun) _)]
 refine wrAll_yes (fmt0_run newRun) (inD_vol hg hn) ⟨volX g k i,mem_volL.2 ⟨k,by omega,i,hi,rfl⟩,hb.symm⟩ fun x hx e=>?_
 obtain ⟨k',_,i',hi',rfl⟩:=mem_volL.1 hx
 have e:2+(k':Int)*g.gr+i'=b:=e
 have e2:2+(k':Int)*g.gr+i'=2+(k:Int)*g.gr+i:=e.trans hb
 obtain ⟨rfl,rfl⟩:=vol_inj hg hi' hi e2
 rfl
theorem at_sup (hn:18<=n):atD (fmtSt (newSt n) g) 1=supB ⟨1,g⟩:=by
 have h1r:=fmt1_run (newRun (n:=n)) g
 have hl1:1<(fmt1 (newSt n) g).vs.length:=by rw [fmt1_len]; simp [newSt]; omega
 unfold fmtSt
 rw [atD_fl (wrSt_run h1r _ _),show (1:Int)=((1:Nat):Int) from rfl,atD_wrN hl1 (supB_len _) h1r,if_pos rfl]
theorem at_zero (hg:gOk g=true) (hn:gSize g<=n) (h18:18<=n):atD (fmtSt (newSt n) g) 0=zeroB:=by
 have h1r:=fmt1_run (newRun (n:=n)) g
 have hl1:1<(fmt1 (newSt n) g).vs.length:=by rw [fmt1_len]; simp [newSt]; omega
 unfold fmtSt
 rw [atD_fl (wrSt_run h1r _ _),show (1:Int)=((1:Nat):Int) from rfl,atD_wrN hl1 (supB_len _) h1r,if_neg (by decide)]
 unfold fmt1
 rw [atD_fl (wrAll_run (fmt0_run newRun) _),wrAll_no (fmt0_run newRun) (inD_vol hg hn) fun x hx e=>by
  obtain ⟨k,hk,i,hi,rfl⟩:=mem_volL.1 hx
  have:=(volX_in hg (k:=k) (n:=n) (by omega) hi hn).1
  have e:(volX g k i).1=((0:Nat):Int):=e
  omega]
 unfold fmt0
 have hz:(wrSt (newSt n) 0 zeroB).left=-1:=wrSt_run newRun _ _
 have hl:1<(wrSt (newSt n) 0 zeroB).vs.length:=by rw [wrSt_len]; simp [newSt]; omega
 rw [atD_fl (wrSt_run hz _ _),show (1:Int)=((1:Nat):Int) from rfl,atD_wrN hl zeroB_len hz,if_neg (by decide),show (0:Int)=((0:Nat):Int) from rfl,atD_wrN (by simp [newSt]; omega) zeroB_len newRun,if_pos rfl]
theorem sFront_get {s:Sp}:(supB s).take 4=sMark/\(supB s).drop 4=toLe 8 s.gen.toNat++((supB s).drop 12)/\(supB s).drop 12=toLe 2 s.geo.gr.toNat++((supB s).drop 14)/\(supB s).drop 14=toLe 2 s.geo.no.toNat++((supB s).drop 16)/\(supB s).drop 16=toLe 2 s.geo.gs.toNat++((supB s).drop 18):=by
 have cut:∀ {a c:List UInt8} {m:Nat},a.length=m->(a++c).drop m=c:=fun {a c m} h=>by rw [List.drop_append,List.drop_eq_nil_of_le (by omega),List.nil_append,h,Nat.sub_self]; rfl
 have e:supB s=sMark++(toLe 8 s.gen.toNat++(toLe 2 s.geo.gr.toNat++(toLe 2 s.geo.no.toNat++(toLe 2 s.geo.gs.toNat++(List.replicate 234 0++toLe 4 (crc (sHead s))))))):=by
  unfold supB; rw [sHead,sFront]; simp only [List.append_assoc]
 have d4:(supB s).drop 4=toLe 8 s.gen.toNat++(toLe 2 s.geo.gr.toNat++(toLe 2 s.geo.no.toNat++(toLe 2 s.geo.gs.toNat++(List.replicate 234 0++toLe 4 (crc (sHead s)))))):=by rw [e]; exact cut rfl
 have d12:(supB s).drop 12=toLe 2 s.geo.gr.toNat++(toLe 2 s.geo.no.toNat++(toLe 2 s.geo.gs.toNat++(List.replicate 234 0++toLe 4 (crc (sHead s))))):=by rw [show 12=4+8 from rfl,<- List.drop_drop,d4]; exact cut (length_toLe _ _)
 have d14:(supB s).drop 14=toLe 2 s.geo.no.toNat++(toLe 2 s.geo.gs.toNat++(List.replicate 234 0++toLe 4 (crc (sHead s)))):=by rw [show 14=12+2 from rfl,<- List.drop_drop,d12]; exact cut (length_toLe _ _)
 have d16:(supB s).drop 16=toLe 2 s.geo.gs.toNat++(List.replicate 234 0++toLe 4 (crc (sHead s))):=by rw [show 16=14+2 from rfl,<- List.drop_drop,d14]; exact cut (length_toLe _ _)
 have d18:(supB s).drop 18=List.replicate 234 0++toLe 4 (crc (sHead s)):=by rw [show 18=16+2 from rfl,<- List.drop_drop,d16]; exact cut (length_toLe _ _)
 refine ⟨by rw [e]; rfl,by rw [d4,d12],by rw [d12,d14],by rw [d14,d16],by rw [d16,d18]⟩
theorem supG_supB {s:Sp} (hs:sOk s=true):supG (supB s)=(s,0):=by
 obtain ⟨⟨g1,g2⟩,hg⟩:=sOk_iff.1 hs
 obtain ⟨r1,r2,r3,r4,r5,r6,_⟩:=gOk_iff.1 hg
 obtain ⟨e1,e2,e3,e4,e5⟩:=sFront_get (s:=s)
 have tk:∀ {k m:Nat} {c:List UInt8},m<256 ^ k->leN ((toLe k m++c).take k)=m:=fun {k m c} h=>by
  rw [List.take_append_of_le_length (by rw [length_toLe]; exact Nat.le_refl _),List.take_of_length_le (by rw [length_toLe]; exact Nat.le_refl _)]
  exact leN_toLe _ _ h
 have hr:readS (supB s)=s:=by
  unfold readS
  rw [e2,tk (by omega),e3,tk (by omega),e4,tk (by omega),e5,tk (by omega),wrap64 (by omega) (by omega)]
  cases s with
  | mk a b =>
   cases b
   simp only at *
   simp only [Sp.mk.injEq,Gm.mk.injEq]
   omega
 have h252:(supB s).take 252=sHead s:=by unfold supB; rw [List.take_append_of_le_length (by rw [sHead_len]; exact Nat.le_refl _),List.take_of_length_le (by rw [sHead_len]; exact Nat.le_refl _)]
 have hc:leN ((supB s).drop 252)=crc ((supB s).take 252):=by
  rw [h252]
  unfold supB
  rw [List.drop_append,List.drop_eq_nil_of_le (by rw [sHead_len]; exact Nat.le_refl _),List.nil_append,sHead_len]
  exact leN_toLe _ _ (crc_lt _)
 have hz:=(sup_back (supB_len s) e1 hc (by rw [hr]; exact hs)).1 (by rw [hr])
 unfold supG
 rw [if_neg (by rw [supB_len]; exact fun e=>e rfl),if_neg (by rw [e1]; exact fun e=>e rfl),if_neg (by rw [hc]; exact fun e=>e rfl),hr,if_neg (by rw [hs]; decide),if_neg (by rw [hz]; decide)]
theorem supG_zero:(supG zeroB).2≠0:=by decide +kernel
theorem choose_new (hg:gOk g=true) (hn:gSize g<=n):supChoose zeroB (supB ⟨1,g⟩) n=(⟨1,g⟩,1,0):=by
 have hs:sOk (⟨1,g⟩:Sp)=true:=sOk_iff.2 ⟨⟨Int.le_refl 1,by show (1:Int)<=4611686018427387904; decide⟩,hg⟩
 have e0:supPick 0 zeroB n sZ=sZ:=by unfold supPick; rw [if_neg fun h=>supG_zero h.1]
 have eB:supBest zeroB (supB ⟨1,g⟩) n=⟨1,g⟩:=by
  unfold supBest
  rw [e0]
  unfold supPick
  rw [supG_supB hs,if_pos ⟨rfl,rfl,hn,by show (1:Int) > 0; decide⟩]
 have hne:(⟨1,g⟩:Sp)≠sZ:=fun e=>by
  have:(1:Int)=0:=congrArg Sp.gen e
  omega
 unfold supChoose
 rw [eB,if_neg hne]; rfl
theorem root_back:inoAt (overB zeroB 64 (inoB rootN)) 1=(rootN,0):=by decide +kernel
theorem hds_new (hg:gOk g=true) (hn:gSize g<=n) (k:Nat):HdsAt ⟨⟨fmtSt (newSt n) g,k,[]⟩,0,[]⟩ g ((List.range g.gs.toNat).map fun j:Nat=>hBase g (j:Int)):=by
 obtain ⟨_,_,g3,_⟩:=gOk_iff.1 hg
 have hv:0<volN g:=by unfold volN; omega
 refine ⟨hg,?_,by rw [List.length_map,List.length_range]; omega,fun j h hj=>?_⟩
 ·show gSize g<=((fmtSt (newSt n) g).vs.length:Int)
  rw [fmtSt_len]; simp [newSt]; omega
 ·rw [List.getElem?_map] at hj
  by_cases hjl:j<g.gs.toNat
  ·rw [List.getElem?_range hjl] at hj
   cases hj
   refine ⟨?_,hOk_base hg (by omega) (by omega),rfl,hBase_wf _ _⟩
   have:=at_new hg hn (k:=j) (i:=0) (by omega) hv
   rw [Int.natCast_zero,Int.add_zero] at this
   exact this
  ·rw [List.getElem?_eq_none (by simp; omega)] at hj; cases hj
theorem mnt_new (hg:gOk g=true) (hn:gSize g<=n) (h18:18<=n):mnt (fmtSt (newSt n) g)=(⟨1,g⟩,0):=by
 obtain ⟨q1,q2,g3,g4,g5,g6,g7,_⟩:=gOk_iff.1 hg
 have hlen:(fmtSt (newSt n) g).vs.length=n:=by rw [fmtSt_len]; simp [newSt]
 have rd:∀ {b:Nat},b<n->rdB (fmtSt (newSt n) g) (b:Int)=atD (fmtSt (newSt n) g) b:=fun {b} h=>(rd_at _ (by rw [hlen]; exact h)).2
 have hS:mntS (fmtSt (newSt n) g)=(⟨1,g⟩,1,0):=by
  unfold mntS
  rw [show (0:Int)=((0:Nat):Int) from rfl,show (1:Int)=((1:Nat):Int) from rfl,rd (by omega),rd (by omega),at_zero hg hn h18,at_sup h18,hlen]
  exact choose_new hg hn
 have hv:=(volN_b hg).1
 have hO:mntOk (fmtSt (newSt n) g) g=true:=by
  unfold mntOk
  rw [Bool.and_eq_true,List.all_eq_true]
  refine ⟨fun k hk=>?_,?_⟩
  ·have hk:=List.mem_range.1 hk
   obtain ⟨p1,p2,p3⟩:=head_pos hg (k:=k) (by omega)
   have e:headAt (fmtSt (newSt n) g) g k=(hBase g k,0):=by
    unfold headAt
    rw [p1,if_neg (fun e=>e rfl)]
    have:=at_new hg hn (k:=k) (i:=0) (by omega) (by omega)
    rw [Int.natCast_zero,Int.add_zero] at this
    have r:=rd (b:=(2+(k:Int)*g.gr).toNat) (by omega)
    rw [show (((2+(k:Int)*g.gr).toNat:Nat):Int)=2+(k:Int)*g.gr by omega,this] at r
    rw [r]
    exact hGet_grpB (hBase_wf _ _) (hOk_base hg (by omega) (by omega))
   unfold headOk
   rw [e]; exact decide_eq_true ⟨rfl,rfl⟩
  ·have hsl:gSlots g=g.gs*g.no:=by unfold gSlots; rw [if_pos hg]
   have hs4:1*4<=g.gs*g.no:=Int.mul_le_mul g3 g5 (by omega) (by omega)
   have e0:(1:Int) / g.no=0:=Int.ediv_eq_zero_of_lt (by omega) (by omega)
   have e1:(1:Int) % g.no=1:=Int.emod_eq_of_lt (by omega) (by omega)
   have ep:gPlace g 1=(3,1,0):=by
    unfold gPlace
    rw [if_pos hg,if_pos ⟨by decide,by omega⟩,e0,e1]
    have:(2:Int)+0*g.gr+1+1 / 4=3:=by rw [Int.zero_mul]; rfl
    rw [this]; rfl
   have:=at_new hg hn (k:=0) (i:=1) (by omega) (by omega)
   rw [show ((0:Nat):Int)*g.gr=0 from Int.zero_mul _] at this
   have this:atD (fmtSt (newSt n) g) 3=volB g 0 1:=this
   have r:=rd (b:=3) (by omega)
   rw [this] at r
   have e:slotAt (fmtSt (newSt n) g) g 1=(rootN,0):=by
    unfold slotAt
    rw [ep,if_neg (fun e=>e rfl)]
    show inoAt (rdB _ ((3:Nat):Int)) 1=_
    rw [r]
    exact root_back
   unfold rootOk
   rw [e]; exact decide_eq_true ⟨rfl,rfl⟩
 unfold mnt
 rw [hS,if_neg (fun e=>e rfl)]
 show (if mntOk (fmtSt (newSt n) g) g=true then _ else _)=_
 rw [if_pos hO]
end
def hsE (g:Gm):List Hd:=(List.range (gE g).gs.toNat).map fun j:Nat=>hBase (gE g) (j:Int)
theorem mnt_E (g:Gm):mnt (dE g)=(⟨1,gE g⟩,0):=by
 obtain ⟨h1,h2⟩:=gE_ok g
 obtain ⟨h3,h4⟩:=gE_sz g
 exact mnt_new h1 (by omega) (by omega)
theorem hds_E (g:Gm) (k:Nat):HdsAt ⟨⟨dE g,k,[]⟩,0,[]⟩ (gE g) (hsE g):=by
 obtain ⟨h1,h2⟩:=gE_ok g
 obtain ⟨h3,h4⟩:=gE_sz g
 exact hds_new h1 (by omega) k
end Go.Proofs.YtandmpcjjaabmaaGreat
end
section
open Go Go.Den Go.Proofs
namespace Go.Proofs.YtandmpcjjaabmaaGreat
section
variable {w w':World} {R R':Nat->Prop} {f a v d D:Nat} {F:Fy} {K:Value->World->Prop}
set_option maxRecDepth 8000 in
theorem start_c {q1 : Nat} {g : Gm} {X : Option Addr → Option Addr → Option Addr → World → Prop} (hat : AtU w q1 0 (gV (gE g)))
    (hk : ∀ w' R f a v d k, Mod No w w' → Fo R w' f a v d (newF (aE g (hsE g) k)) → (∀ z, R z → w.heap.size ≤ z) → X (some ⟨d, 0, none⟩) (some ⟨v, 0, none⟩) (some ⟨f, 0, none⟩) w') :
    Cal Tryz.prog F_leveeref03_Size #[.agg ⟨gV (gE g)⟩] w fun r12 w4 => ∃ n12 : Int, r12 = .int .i64 n12 ∧ Cal Tryz.prog F_disk_New #[.int .i64 n12] w4 fun r13 w5 => ∃ p13a : Option Addr, ∃ n13b : Int, r13 = .tuple #[.pointer p13a, .int .i64 n13b] ∧ ∃ g17 : Array Value, Ru (Instr.loadAt 39 (.pointer (some ⟨q1, 0, none⟩))) w5 (.agg g17) w5 ∧ Cal Tryz.prog F_vol_Format #[.pointer p13a, .agg g17] w5 fun r18 w6 => ∃ n18 : Int, r18 = .int .i64 n18 ∧ Cal Tryz.prog F_vol_Mount #[.pointer p13a] w6 fun r21 w7 => ∃ p21a : Option Addr, ∃ n21b : Int, r21 = .tuple #[.pointer p21a, .int .i64 n21b] ∧ Share (fun k => (bif n21b != 0 then k [.bool true] w7 else k [.bool (Option.isNone p21a)] w7)) fun x w8 =>
     ∃ b29 : Bool, nth x 0 = .bool b29 ∧ (bif b29 then
     K (.pointer none) w8
     else
     Cal Tryz.prog F_alloc_New #[.pointer p21a] w8 fun r31 w9 => ∃ p31 : Option Addr, r31 = .pointer p31 ∧ Cal Tryz.prog F_file_New #[.pointer p31] w9 fun r32 w10 => ∃ p32 : Option Addr, r32 = .pointer p32 ∧ X p13a p21a p32 w10) := by
  obtain ⟨hok, h200⟩ := gE_ok g
  obtain ⟨hsz, h18⟩ := gE_sz g
  refine rgSize_c fun w7 m7 => ⟨_, rfl, ?_⟩
  have hz7 := m7.size
  have hql := hat.lt
  refine New_c (by omega) (by omega) (fun h => by omega) fun k hk' _ _ w8 d sb mb m8 hD => ⟨_, _, rfl, _, ((hat.keep m7 id).keep m8 id).at.all agg_geo rfl, ?_⟩
  have hkn : (gSize (gE g)).toNat = k := by omega
  have hz8 := m8.size
  have hfE : fmtE (newSt k) (gE g) = 0 := by
    unfold fmtE
    rw [if_neg (by rw [hok]; decide), if_neg (by simp [newSt]; omega)]
  have eD : dE g = fmtSt (newSt k) (gE g) := by unfold dE; rw [hkn]
  have hrun : (dE g).left = -1 := by rw [eD]; exact fmtSt_run rfl _
  have hbnd : Bnd (dE g) 1 := by rw [eD]; exact fmtSt_bnd rfl _
  refine vFormat_c (g := gE g) hD rfl (bndN k) (fun h => absurd hfE h) fun _ wa Na w11 ma Xa => ⟨_, rfl, ?_⟩
  rw [← eD] at Xa
  have hza := ma.size
  have hXs := Xa.mod.size
  obtain ⟨Ra, sba, mba, sca, La, a1', a2', a3', a4'⟩ := Xa
  have hRa : ∀ x, Ra x → w7.heap.size ≤ x ∧ x < w11.heap.size := fun x hx => by
    have := (a2' x hx).2
    rcases (a2' x hx).1 with e | e
    · have e : w7.heap.size ≤ x ∧ x < w8.heap.size := e
      omega
    · omega
  have M8 : Mod No w w8 := m7.no m8
  have M11 : Mod No w w11 := (M8.no ma).trans a3' fun x hx e => by have e : w7.heap.size ≤ x ∧ x < w8.heap.size := e; omega
  have hsm : Small (dE g) := BndS hbnd (by omega)
  have hdR := a1'.rb
  have hm := mnt_E g
  refine vMount_c (w0 := w) a1' hsm (fun x hx => ⟨by have := hRa x hx; omega, a1'.lt x hx⟩) M11 hrun (fun h => absurd (by rw [hm]) h) fun _ w13 N13 v X13 => ⟨_, _, rfl, ?_⟩
  rw [hm] at X13
  have X13 : Vg w11 Ra N13 w13 v d ⟨1, gE g⟩ (dE g) (nE g) := X13
  have hz13 := X13.mod.size
  have M13 : Mod No w w13 := M11.trans X13.mod fun x hx e => by have := hRa x e; omega
  refine Share.dup (ff rfl ⟨_, rfl, ff rfl ?_⟩)
  obtain ⟨Rv, kc, hV, hlo⟩ := X13.vu
  refine aNew_c hV (hds_E g kc) fun w16 R16 a m16 s16 h16 ha => ⟨_, rfl, ?_⟩
  have hlo16 : ∀ z, R16 z → w.heap.size ≤ z := fun z hz => by
    have hda := hRa d hdR
    rcases s16 z hz with e | e
    · rcases hlo z e with e | e | e
      · have := hRa z e; omega
      · omega
      · omega
    · omega
  have M16 := M13.no m16
  have z16 := M16.size
  refine fNew_c h16 fun w17 R17 f m17 s17 h17 hf => ⟨_, rfl, hk w17 R17 f a v d kc (M16.no m17) h17 fun z hz => ?_⟩
  rcases s17 z hz with e | e
  · exact hlo16 z e
  · omega
end
end Go.Proofs.YtandmpcjjaabmaaGreat
end
section
open Go Go.Den Go.Proofs
namespace Go.Proofs.YtandmpcjjaabmaaGreat
section
variable {w w':World} {R R' Ra:Nat->Prop} {f a v d:Nat} {F:Fy} {A:Az} {s:Sp} {V:Ps} {W:List Wt} {nx:Int} {K:Value->World->Prop}
theorem Vu.next (h:Vu R w v d s V W nx) (m:Mod (fun x=>x=v) w w') (hsz:w'.heap.size=w.heap.size) {nx':Int} (hc:∀ sp wk,AtU w v 0 (vV s sp wk nx)->AtU w' v 0 (vV s sp wk nx')):Vu R w' v d s V W nx':=by
 obtain ⟨w0,Rs,Rw,sp,wk,h,h1,h2⟩:=h
 have hd0:=h.st.dlo
 have hlv:=h.lo v (.inr rfl)
 refine ⟨w0,Rs,Rw,sp,wk,⟨h.st.keep m (fun x hx e=>?_) (fun x hx e=>?_),hc sp wk h.cell,?_,h.dj,h.nv,fun z hz=>?_⟩,h1,fun z hz=>?_⟩
 ·have e:x=v:=e
  rw [e] at hx; exact h.nv.1 hx
 ·have e:x=v:=e
  omega
 ·refine h.wrk.keep (S:=fun x=>x=v/\x<w.heap.size) (m.mono fun x hx e=>⟨e,hx⟩) (fun x e=>⟨e.2,fun r=>h.nv.2 (e.1 ▸ r)⟩) fun x hx e=>⟨hx,e.2⟩
 ·rw [hsz]; exact h.lo z hz
 ·rw [hsz]; exact h2 z hz
theorem wNewId_c (h:Vu R w v d s V W nx) (h0:0<=nx) (hn:nx<=4611686018427387904) (hk:∀ w',Mod R w w'->Vu R w' v d s V W (nx+1)->K (.tuple #[.int .i64 nx,.int .i64 0]) w'):Cal Tryz.prog F_vol_Vol_NewId #[.pointer (some ⟨v,0,none⟩)] w K:=by
 apply C_vol_Vol_NewId
 unfold D_vol_Vol_NewId
 obtain ⟨sp,wk,hc⟩:=h.at
 obtain ⟨w1,a1,a2,a3,a4⟩:=hc.putF (P:=Tryz.prog) (T:=2) (j:=6) (v:=.int .i64 (nx+1)) sc_i64 (by show 6<7; omega) rfl
 have hv:=h.vIn
 have hN:Vu R w1 v d s V W (nx+1):=h.next a3 a4 fun sp' wk' hc'=>by
  obtain ⟨w2,b1,b2,_,_⟩:=hc'.putF (P:=Tryz.prog) (T:=2) (j:=6) (v:=.int .i64 (nx+1)) sc_i64 (by show 6<7; omega) rfl
  have e:w2=w1:=by
   have:=a1.symm.trans b1
   simpa using this.symm
  rw [<- e]; exact b2
 refine ff rfl ⟨_,rfl,nx,hc.at.fld (j:=6) (v:=.int .i64 nx) sc_i64 rfl,ff (decide_eq_false (by omega)) ⟨_,rfl,nx,hc.at.fld (j:=6) (v:=.int .i64 nx) sc_i64 rfl,_,rfl,w1,by rw [wrap64 (by omega) (by omega)]; exact a1,_,rfl,nx+1,a2.at.fld (j:=6) (v:=.int .i64 (nx+1)) sc_i64 rfl,?_⟩⟩
 rw [wrap64 (x:=nx+1-1) (by omega) (by omega),Int.add_sub_cancel]
 exact hk w1 (a3.mono fun x _ e=>by have e:x=v:=e; rw [e]; exact hv) hN
def nxF (F:Fy):Fy:=⟨⟨F.A.s,F.A.V,F.A.W,F.A.nx+1,F.A.hs,F.A.fz⟩,F.la,F.mi⟩
def sltF (F:Fy) (n:Int):Fy:=⟨(slotA F.A n).1,F.la,F.mi⟩
theorem fNewId_c (h:Fo R w f a v d F) (h0:0<=F.A.nx) (hn:F.A.nx<=4611686018427387904) (hk:∀ w' R',Mod R w w'->Sb R R' w->Fo R' w' f a v d (nxF F)->K (.tuple #[.int .i64 F.A.nx,.int .i64 0]) w'):Cal Tryz.prog F_vol_Vol_NewId #[.pointer (some ⟨v,0,none⟩)] w K:=by
 obtain ⟨Ra,hA,hRa,hc⟩:=h.alc
 obtain ⟨Rv,hv,hRv,hc2⟩:=hA.vol
 refine wNewId_c hv h0 hn fun w' m hv'=>?_
 obtain ⟨c1,c2,c3⟩:=hc2 w' Rv F.A.V F.A.W (F.A.nx+1) F.A.hs m (Sb.refl _ _) hv' hA.hd
 obtain ⟨k1,k2,k3⟩:=hc w' _ _ c1 c2 c3
 exact hk w' _ k1 k2 k3
theorem fSlot_c {n:Int} (h63:n<=9223372036854775807) (h:Fo R w f a v d F) (hlast:F.A.V.last+1<=1000000) (hk:∀ w' R',Mod R w w'->Sb R R' w->Fo R' w' f a v d (sltF F n)->K (.tuple #[.int .i64 (slotA F.A n).2.1,.int .i64 (slotA F.A n).2.2.1,.int .i64 (slotA F.A n).2.2.2]) w'):Cal Tryz.prog F_alloc_Alloc_Slot #[.pointer (some ⟨a,0,none⟩),.int .i64 n] w K:=by
 obtain ⟨Ra,hA,hRa,hc⟩:=h.alc
 refine aSlot_c h63 hA hlast fun w' R' m s hA'=>?_
 obtain ⟨k1,k2,k3⟩:=hc w' R' _ m s hA'
 exact hk w' _ k1 k2 k3
theorem sltA_up (A:Az) (b:Int):(slotA A b).1.s=A.s/\A.V.last<=(slotA A b).1.V.last/\(slotA A b).1.V.last<=A.V.last+1/\(slotA A b).1.nx=A.nx/\(∀ x,A.V.opn x=true->(slotA A b).1.V.opn x=true)/\(gOk A.s.geo=true->∀ s,slotV (slotA A b).1.V A.s.geo s=slotV A.V A.s.geo s):=by
 unfold slotA
 split
 ·rename_i x _
  refine ⟨rfl,(pat_last _ _ _ _ _).1,(pat_last _ _ _ _ _).2,rfl,fun x hx=>opn_pat _ _ _ _ hx,fun hg s=>slotV_same hg (fun k j hj=>?_) s⟩
  show contV (patS A.V (2+(x.1:Int)*A.s.geo.gr) 0 _ []) _=_
  generalize setHB A.s.geo _=B
  by_cases hE:patE A.V (2+(x.1:Int)*A.s.geo.gr) 0 B []=0
  ·rw [contV_pat hE,if_neg (tab_head hg hj)]
  ·unfold patS; rw [if_neg hE]
 ·exact ⟨rfl,by simp only; omega,by simp only; omega,rfl,fun _ h=>h,fun _ _=>rfl⟩
theorem MuF.slt (h:MuF F) (n:Int):MuF (sltF F n):=by
 obtain ⟨_,b1,_,_,b3,_⟩:=sltA_up F.A n
 intro k x hx
 obtain ⟨o1,o2,o3⟩:=h k x hx
 exact ⟨b3 x o1,o2,by show x<=((slotA F.A n).1.V.last:Int); omega⟩
theorem gGetNil_c {k:Int} (hk:∀ w',Mod No w w'->K (.tuple #[.agg ⟨nV nZ⟩,.int .i64 2]) w'):Cal Tryz.prog F_file_Files_Get #[.pointer none,.int .i64 k] w K:=by
 apply C_file_Files_Get
 unfold D_file_Files_Get
 obtain ⟨w1,b1,b2,b3,b4⟩:=new_u (P:=Tryz.prog) (w:=w) (T:=51) zero_ino
 obtain ⟨w2,c1,c2,c3,c4⟩:=b2.put (T:=51) (vs:=nV nZ) agg_ino rfl rfl (one_nV _)
 exact ⟨_,w1,b1,tt rfl ⟨_,build_ino0,w2,c1,_,c2.at.all agg_ino rfl,hk w2 (b3.own c3 (Nat.le_refl _))⟩⟩
theorem gThingNil_c {k:Int} (hk:∀ w',Mod No w w'->K (.tuple #[.agg ⟨nV nZ⟩,.int .i64 2]) w'):Cal Tryz.prog F_file_Files_thing #[.pointer none,.int .i64 k] w K:=by
 apply C_file_Files_thing
 unfold D_file_Files_thing
 obtain ⟨w1,b1,b2,b3,b4⟩:=new_u (P:=Tryz.prog) (w:=w) (T:=51) zero_ino
 refine ⟨_,w1,b1,gGetNil_c fun w2 m2=>⟨_,_,rfl,?_⟩⟩
 obtain ⟨w3,d1,d2,d3,d4⟩:=new_u (P:=Tryz.prog) (w:=w2) (T:=51) zero_ino
 obtain ⟨w4,e1,e2,e3,e4⟩:=d2.put (T:=51) (vs:=nV nZ) agg_ino rfl rfl (one_nV _)
 have M4:Mod No w1 w4:=m2.no (d3.own e3 (Nat.le_refl _))
 obtain ⟨w7,g1,g2,g3,g4⟩:=(b2.keep M4 id).put (T:=51) (vs:=nV nZ) agg_ino rfl rfl (one_nV _)
 exact ⟨_,w3,d1,w4,e1,Share.dup (ff rfl ⟨_,rfl,Share.dup (ff rfl ⟨_,e2.at.all agg_ino rfl,_,rfl,w7,g1,_,g2.at.all agg_ino rfl,hk w7 ((b3.no M4).own g3 (Nat.le_refl _))⟩)⟩)⟩
end
end Go.Proofs.YtandmpcjjaabmaaGreat
end
section
open Go Go.Den Go.Proofs
namespace Go.Proofs.YtandmpcjjaabmaaGreat
theorem sc_fn3:scal Tryz.prog 132=true:=by kernel_rfl
theorem zero_fn3:zeroC Tryz.prog 132=some [.nilFunc]:=by kernel_rfl
theorem sc_intsL:scal Tryz.prog 64=true:=by kernel_rfl
theorem zero_intsL:zeroC Tryz.prog 64=some [.slice none 0 0]:=by kernel_rfl
def datN (i:Nd):Nat->Nat
 | 0=>0
 | n+1=>if i.p.getD n 0=0 then datN i n else datN i n+1
theorem datN_le (i:Nd):∀ n,datN i n<=n
 | 0=>Nat.le_refl _
 | n+1=>by
  have:=datN_le i n
  rw [datN]
  split <;> omega
section
variable {w w':World} {R R' Ra:Nat->Prop} {f a v d:Nat} {F:Fy} {K:Value->World->Prop}
theorem arr6p {i:Nd} (hw:nWf i):((nV i).drop 4).take 6=iL (i.p.take 6):=by
 show (iL i.p).take 6=_
 unfold iL; rw [List.map_take]
theorem each1_c {b n dp:Int} {v3 v4 v5:Value} (h0:b=0) (hk:K (.tuple #[]) w):Cal Tryz.prog F_file_Files_each_1 (#[.int .i64 b,.int .i64 dp,.int .i64 n]++#[v3,v4,v5]) w K:=by
 refine C_file_Files_each_1 _ _ _ _ _ _ w K ?_
 unfold D_file_Files_each_1
 exact tt (by rw [h0]; rfl) hk
theorem datD_c {b n:Int} {q8 base:Nat} {r:Option Addr} {l c:Nat} {xs:List Int} (hl:xs.length=l) (h6:l<=100) (hq:AtU w q8 0 [.slice r l c]) (o:Ow Tryz.prog w base 64 1 r l c (iL xs)) (hb:base<=w.heap.size) (hqb:q8<base)
  (hk:∀ w' r' c' xs',Mod (fun x=>x=q8\/base<=x) w w'->AtU w' q8 0 [.slice r' (l+1) c']->Ow Tryz.prog w' base 64 1 r' (l+1) c' (iL xs')->xs'.length=l+1->K (.tuple #[]) w'):Cal Tryz.prog F_file_Files_Data_1 (#[.int .i64 b,.int .i64 0,.int .i64 n]++#[.pointer (some ⟨q8,0,none⟩)]) w K:=by
 refine C_file_Files_Data_1 _ _ _ _ w K ?_
 unfold D_file_Files_Data_1
 have ma:Mod No w (w.alloc (.cells ⟨[.int .i64 b]⟩ 3)):=(Mod.refl No w).alloc _
 have pa:AtU (w.alloc (.cells ⟨[.int .i64 b]⟩ 3)) w.heap.size 0 [.int .i64 b]:=AtU.new
 refine Share.dup (tt rfl ⟨_,_,_,hq.at.one sc_intsL,_,_,_,_,builtI w b,?_⟩)
 have za:(w.alloc (.cells ⟨[.int .i64 b]⟩ 3)).heap.size=w.heap.size+1:=by simp
 generalize w.alloc (.cells ⟨[.int .i64 b]⟩ 3)=w1 at *
 obtain ⟨q',c',w2,r1,r2,r3,r4⟩:=(o.nos ma).app (ty:=64) (m:=1) (c2:=1) (ad:=⟨w.heap.size,0,none⟩) (ys:=[.int .i64 b]) elemZ_ints (by omega) (.inr ⟨_,_,rfl,pa.at⟩) rfl (by omega) (by simp; rfl) (by omega) (by omega) (by omega)
 have nq:¬ (fun x=>∃ q,r=some q/\x=q.block) q8:=fun ⟨q,e,e2⟩=>by have:=(o.base e).1; omega
 obtain ⟨w3,u1,u2,u3,u4⟩:=((hq.keep ma id).keep r3 nq).put1 (P:=Tryz.prog) (T:=64) (v:=.slice (some q') (l+1) c') sc_intsL rfl
 have e1:iL xs++[Value.int .i64 b]=iL (xs++[b]):=by simp [iL]; rfl
 rw [e1] at r2
 refine ⟨_,_,_,w2,r1,w3,u1,hk w3 _ _ (xs++[b]) ?_ u2 (r2.keep u3 fun q e x=>?_) (by simp [hl])⟩
 ·refine ((ma.mono fun _ _ e=>e.elim).trans r3 fun x hx e=>?_).trans u3 fun x _ e=>.inl e
  obtain ⟨q,e,rfl⟩:=e
  exact .inr (o.base e).1
 ·have:=(r2.base e).1; have x:q.block=q8:=x; omega
set_option maxRecDepth 4000 in
theorem fEach_c {i:Nd} {q8:Nat} {p0:Option Addr} (hw:nWf i) (h6:i.p.getD 6 0=0) (h7:i.p.getD 7 0=0) (hq:AtU w q8 0 [.slice none 0 0]) (hk:∀ w' r c,Mod (fun x=>x=q8) w w'->AtU w' q8 0 [.slice r (datN i 6) c]->K (.tuple #[]) w') :
  Cal Tryz.prog F_file_Files_each #[.pointer p0,.agg ⟨nV i⟩,.func (.func F_file_Files_Data_1) #[] #[.pointer (some ⟨q8,0,none⟩)]] w K:=by
 apply C_file_Files_each
 unfold D_file_Files_each
 have hql:=hq.lt
 have hl:i.p.length=8:=hw
 obtain ⟨w1,a1,a2,a3,a4⟩:=box_v (P:=Tryz.prog) (w:=w) (T:=46) (v:=.pointer p0) rfl
 obtain ⟨w2,b1,b2,b3,b4⟩:=box_u (P:=Tryz.prog) (w:=w1) (T:=51) (cs:=nV i)
 obtain ⟨w3,c1,c2,c3,c4⟩:=box_v (P:=Tryz.prog) (w:=w2) (T:=132) (v:=.func (.func F_file_Files_Data_1) #[] #[.pointer (some ⟨q8,0,none⟩)]) rfl
 obtain ⟨w4,d1,d2,d3,d4⟩:=new_u (P:=Tryz.prog) (w:=w3) (T:=132) zero_fn3
 obtain ⟨w5,e1,e2,e3,e4⟩:=d2.put1 (P:=Tryz.prog) (T:=132) (v:=.func (.func F_file_Files_each_1) #[] #[.pointer (some ⟨w2.heap.size,0,none⟩),.pointer (some ⟨w.heap.size,0,none⟩),.pointer (some ⟨w3.heap.size,0,none⟩)]) sc_fn3 rfl
 have M4:Mod No w w4:=((a3.no b3).no c3).no d3
 have M5:Mod No w w5:=M4.own e3 (by omega)
 have p4:AtU w5 w1.heap.size 0 (nV i):=((b2.keep c3 id).keep d3 id).keep e3 (by show ¬ w1.heap.size=w3.heap.size; omega)
 have p5:AtU w5 w2.heap.size 0 [.func (.func F_file_Files_Data_1) #[] #[.pointer (some ⟨q8,0,none⟩)]]:=(c2.keep d3 id).keep e3 (by show ¬ w2.heap.size=w3.heap.size; omega)
 have hw6:aggN Tryz.prog 49=some 6:=by kernel_rfl
 refine ⟨_,w1,a1,_,w2,b1,_,w3,c1,_,w4,d1,w5,e1,⟨iL (i.p.take 6)⟩,p4.at.fldA (j:=4) (n:=6) hw6 (by rw [nV_len hw]; omega) (arr6p hw),?_⟩
 have nS:∀ q,q<w5.heap.size->q≠q8->¬ (fun x=>x=q8\/w5.heap.size<=x) q:=fun q h1 h2 e=>by
  rcases e with e | e
  ·exact h2 e
  ·omega
 refine ⟨fun x W=>∃ (n:Nat) (r:Option Addr) (c:Nat) (xs:List Int),x=[.int .i64 n]/\n<=6/\Mod (fun x=>x=q8\/w5.heap.size<=x) w5 W/\AtU W q8 0 [.slice r (datN i n) c]/\Ow Tryz.prog W w5.heap.size 64 1 r (datN i n) c (iL xs)/\xs.length=datN i n,fun x _=>(6-nI x 0).toNat,
  ⟨0,none,0,[],rfl,Nat.zero_le _,Mod.refl _ _,hq.keep M5 id,Ow.nil elemZ_ints,rfl⟩,?_⟩
 rintro x W ⟨n,r,c,xs,rfl,hn,mW,hqW,oW,hlW⟩
 have k4:=p4.keep mW (nS _ (by omega) (by omega))
 have k5:=p5.keep mW (nS _ (by omega) (by omega))
 have k6:=e2.keep mW (nS _ (by omega) (by omega))
 have zW:=mW.size
 refine ⟨_,rfl,cond_of (fun hb=>?_) (fun hb=>?_)⟩
 ·have hb:=of_decide_eq_true hb
  have hnp:n<(i.p.take 6).length:=by rw [List.length_take]; omega
  have ev:(i.p.take 6)[n]=i.p.getD n 0:=by
   rw [List.getElem_take,List.getD_eq_getElem?_getD,List.getElem?_eq_getElem (by omega)]; rfl
  have hix:=index_val (P:=Tryz.prog) (k:=.i64) Tryz.underlying49 arr6i Tryz.underlying3 (by simp) (by simp) (by omega) (iL_get hnp)
  rw [ev] at hix
  have dl:=datN_le i n
  refine ⟨i.p.getD n 0,hix,_,k6.at.one sc_fn3,.func _,#[],_,rfl,?_⟩
  rw [wrap64 (x:=(n:Int)+1) (by omega) (by omega)]
  by_cases h0:i.p.getD n 0=0
  ·refine each1_c h0 ⟨rfl,⟨n+1,r,c,xs,rfl,by omega,mW,?_,?_,?_⟩,by simp [nI,nth]; omega⟩
   ·rw [datN,if_pos h0]; exact hqW
   ·rw [datN,if_pos h0]; exact oW
   ·rw [datN,if_pos h0]; exact hlW
  ·refine C_file_Files_each_1 _ _ _ _ _ _ W _ ?_
   unfold D_file_Files_each_1
   refine ff (by rw [beqI]; exact decide_eq_false h0) ⟨_,k5.at.one sc_fn3,.func _,#[],_,rfl,?_⟩
   refine datD_c hlW (by omega) hqW oW zW (by omega) fun w' r' c' xs' m' hq' o' hl'=>⟨rfl,tt rfl ⟨rfl,⟨n+1,r',c',xs',rfl,by omega,mW.trans m' fun x _ e=>e,?_,?_,?_⟩,by simp [nI,nth]; omega⟩⟩
   ·rw [datN,if_neg h0]; exact hq'
   ·rw [datN,if_neg h0]; exact o'
   ·rw [datN,if_neg h0]; exact hl'
 ·have hb:=of_decide_eq_false hb
  have hn6:n=6:=by omega
  subst hn6
  refine ⟨_,k6.at.one sc_fn3,i.p.getD 6 0,k4.at.fld (j:=10) sc_int (nV_p hw (n:=6) (by omega)),.func _,#[],_,rfl,each1_c h6 ⟨rfl,_,k6.at.one sc_fn3,i.p.getD 7 0,k4.at.fld (j:=11) sc_int (nV_p hw (n:=7) (by omega)),.func _,#[],_,rfl,each1_c h7 ⟨rfl,hk W r c ?_ hqW⟩⟩⟩
  refine (M5.mono fun _ _ e=>e.elim).trans mW fun x hx e=>?_
  rcases e with e | e
  ·exact e
  ·have:=M5.size; omega
set_option maxRecDepth 4000 in
theorem fData_c {k:Int} {i:Nd} (h63:k<=9223372036854775807) (h:Fo R w f a v d F) (ht:thF F k=0) (hi:(slotV F.A.V F.A.s.geo k).1=i) (h6:i.p.getD 6 0=0) (h7:i.p.getD 7 0=0) (hk:∀ w' R' r c,Mod R w w'->Sb R R' w->Fo R' w' f a v d F->K (.tuple #[.slice r (datN i 6) c,.int .i64 0]) w') :
  Cal Tryz.prog F_file_Files_Data #[.pointer (some ⟨f,0,none⟩),.int .i64 k] w K:=by
 apply C_file_Files_Data
 unfold D_file_Files_Data
 have hwf:nWf i:=by rw [<- hi]; exact slotV_wf _ _ _
 refine fThing_c h63 h fun w1 R1 m1 s1 h1=>⟨_,_,rfl,?_⟩
 rw [hi]
 have hlt1:=h1.lt
 have hd1:=h1.dlt
 obtain ⟨w2,b1,b2,b3,b4⟩:=new_u (P:=Tryz.prog) (w:=w1) (T:=51) zero_ino
 obtain ⟨w3,c1,c2,c3,c4⟩:=b2.put (T:=51) (vs:=nV i) agg_ino rfl (nV_len hwf) (one_nV _)
 obtain ⟨w4,d1,d2,d3,d4⟩:=new_u (P:=Tryz.prog) (w:=w3) (T:=64) zero_intsL
 have M3:Mod No w1 w3:=b3.own c3 (Nat.le_refl _)
 have M4:=M3.no d3
 have z3:=M3.size
 refine ⟨_,w2,b1,w3,c1,ff (by rw [ht]; rfl) ⟨_,w4,d1,_,(c2.keep d3 id).at.all agg_ino (nV_len hwf),fEach_c hwf h6 h7 d2 fun w5 r c m5 hq5=>⟨rfl,_,_,_,hq5.at.one sc_intsL,hk w5 R1 r c ?_ s1 ?_⟩⟩⟩
 ·have z1:=m1.size
  exact (m1.no M4).trans m5 fun x hx e=>by have e:x=w3.heap.size:=e; omega
 ·exact (h1.nos M4).own m5 (fun e=>by have:=hlt1 _ e; omega) (by omega)
theorem fLast_c {k:Int} (h:Fo R w f a v d F) (hk:K (.int .i64 (F.la k)) w):Cal Tryz.prog F_file_Files_Last #[.pointer (some ⟨f,0,none⟩),.int .i64 k] w K:=by
 apply C_file_Files_Last
 unfold D_file_Files_Last
 obtain ⟨Ra,fl,fm,Ll,Lm,rb,rc,h⟩:=h
 refine ff rfl ⟨_,rfl,_,h.cl.at.fld sc_la rfl,F.la k,?_,hk⟩
 have:=lookup_run (P:=Tryz.prog) (k:=k) mapLa h.ml
 rw [h.hl k] at this
 exact this
theorem fWriteE_c {k n2:Int} {a3:Option Addr} {l3 c3:Nat} (h63:k<=9223372036854775807) (h:Fo R w f a v d F) (hE:thF F k≠0) (hk:∀ w' R',Mod R w w'->Sb R R' w->Fo R' w' f a v d F->K (.int .i64 (thF F k)) w') :
  Cal Tryz.prog F_file_Files_Write #[.pointer (some ⟨f,0,none⟩),.int .i64 k,.int .i64 n2,.slice a3 l3 c3] w K:=by
 apply C_file_Files_Write
 unfold D_file_Files_Write
 have hwf:=slotV_wf F.A.V F.A.s.geo k
 refine fThing_c h63 h fun w1 R1 m1 s1 h1=>⟨_,_,rfl,?_⟩
 obtain ⟨w2,b1,b2,b3,b4⟩:=new_u (P:=Tryz.prog) (w:=w1) (T:=51) zero_ino
 obtain ⟨w3,c1,c2,c3,c4⟩:=b2.put (T:=51) (vs:=nV (slotV F.A.V F.A.s.geo k).1) agg_ino rfl (nV_len hwf) (one_nV _)
 have M3:Mod No w1 w3:=b3.own c3 (Nat.le_refl _)
 exact ⟨_,w2,b1,w3,c1,tt (by rw [bneI]; exact decide_eq_true hE) (hk w3 R1 (m1.no M3) s1 (h1.nos M3))⟩
theorem fOwnedE_c {k:Int} (h63:k<=9223372036854775807) (h:Fo R w f a v d F) (hE:thF F k≠0) (hk:∀ w' R',Mod R w w'->Sb R R' w->Fo R' w' f a v d F->K (.tuple #[.slice none 0 0,.int .i64 (thF F k)]) w') :
  Cal Tryz.prog F_file_Files_Owned #[.pointer (some ⟨f,0,none⟩),.int .i64 k] w K:=by
 apply C_file_Files_Owned
 unfold D_file_Files_Owned
 have hwf:=slotV_wf F.A.V F.A.s.geo k
 refine fThing_c h63 h fun w1 R1 m1 s1 h1=>⟨_,_,rfl,?_⟩
 obtain ⟨w2,b1,b2,b3,b4⟩:=new_u (P:=Tryz.prog) (w:=w1) (T:=51) zero_ino
 obtain ⟨w3,c1,c2,c3,c4⟩:=b2.put (T:=51) (vs:=nV (slotV F.A.V F.A.s.geo k).1) agg_ino rfl (nV_len hwf) (one_nV _)
 have M3:Mod No w1 w3:=b3.own c3 (Nat.le_refl _)
 exact ⟨_,w2,b1,w3,c1,tt (by rw [bneI]; exact decide_eq_true hE) (hk w3 R1 (m1.no M3) s1 (h1.nos M3))⟩
end
end Go.Proofs.YtandmpcjjaabmaaGreat
end
section
namespace Go.Den
abbrev Bs:=List UInt8
theorem drop_cons {l:Bs} {i:Nat} {c:UInt8} (h:l[i]?=some c):l.drop i=c::l.drop (i+1):=by
 obtain ⟨hi,e⟩:=List.getElem?_eq_some_iff.1 h
 rw [List.drop_eq_getElem_cons hi,e]
theorem parts {P:Bs} {star p:Nat} (h1:star<p) (h2:p<=P.length) (hs:P[star]?=some 42):P.drop star=42::((P.take p).drop (star+1)++P.drop p):=by
 rw [drop_cons hs]
 congr 1
 conv=>lhs; rw [<- List.take_append_drop p P]
 rw [List.drop_append_of_le_length (by rw [List.length_take]; omega)]
theorem cut {S:Bs} {frm k:Nat} (h1:frm<=k) (h2:k<=S.length):S.drop frm=(S.take k).drop frm++S.drop k:=by
 conv=>lhs; rw [<- List.take_append_drop k S]
 rw [List.drop_append_of_le_length (by rw [List.length_take]; omega)]
section
variable {P S:Bs} {p k sr frm:Nat} {st:Bool}
end
end Go.Den
end
section
namespace Go.Den
def bl:Bs->Bs->Bool
 | _,[]=>false
 | [],_::_=>true
 | a::x,b::y=>a<b || (a==b&&bl x y)
end Go.Den
end
section
namespace Go.Den
abbrev Chg:=Int×Bs
def Sp (PA PB:List Bs) (al:Nat->Nat->Bool) (c:Chg):Prop :=
 (c.1=1/\c.2∈PA/\c.2 ∉ PB)\/(c.1=2/\c.2 ∉ PA/\c.2∈PB)\/(c.1=3/\∃ i k,PA[i]?=some c.2/\PB[k]?=some c.2/\al i k=false)
section
variable {PA PB:List Bs} {al:Nat->Nat->Bool} {i k:Nat} {out:List Chg}
end
end Go.Den
end
section
open Go Go.Den Go.Proofs
namespace Go.Den
def sB (xs:Bs):ByteArray:=⟨xs.toArray⟩
end Go.Den
namespace Go.Proofs.YtandmpcjjaabmaaGreat
end Go.Proofs.YtandmpcjjaabmaaGreat
end
section
open Go Go.Den Go.Proofs
namespace Go.Den
end Go.Den
namespace Go.Proofs.YtandmpcjjaabmaaGreat
section
variable {w:World} {K:Value->World->Prop}
def okc (c:UInt8):Bool:=decide (c≠47)&&decide (c≠0)
end
end Go.Proofs.YtandmpcjjaabmaaGreat
end
section
open Go Go.Den Go.Proofs
namespace Go.Proofs.YtandmpcjjaabmaaGreat
structure Dt where
 s:Int
 lv:Bool
 nm:List UInt8
deriving DecidableEq
end Go.Proofs.YtandmpcjjaabmaaGreat
end
section
open Go Go.Den Go.Proofs
namespace Go.Proofs.YtandmpcjjaabmaaGreat
def eV (e:Dt):List Value:=[.int .i64 e.s,.bool e.lv,.string (sB e.nm)]
section
variable {w:World} {K:Value->World->Prop}
end
end Go.Proofs.YtandmpcjjaabmaaGreat
end
section
open Go Go.Den Go.Proofs
namespace Go.Proofs.YtandmpcjjaabmaaGreat
def eL (l:List (Dt×Nat)):List Value:=(l.map fun x=>eV x.1).flatten
def pL (l:List (Dt×Nat)):List Value:=l.map fun x=>.int .i64 (x.2:Int)
section
variable {w:World} {K:Value->World->Prop}
end
end Go.Proofs.YtandmpcjjaabmaaGreat
end
section
open Go Go.Den Go.Proofs
namespace Go.Proofs.YtandmpcjjaabmaaGreat
def pB (i:Nd) (n:Nat):Int:=i.p.getD n 0
section
variable {w w0 w' W W':World} {R R' R'' Ra:Nat->Prop} {m f a v d D:Nat} {F:Fy} {K:Value->World->Prop}
theorem fGetD_c {b:Int} (h:Fo R w f a v d F) (hb:(gKind F.A.s.geo b).1=4)
  (hk:∀ w' R' g cc,Mod R w w'->Sb R R' w->Fo R' w' f a v d F->w.heap.size<=g->¬ R' g->AtU w' g 0 (u8L (contV F.A.V b.toNat))->(contV F.A.V b.toNat).length=256->256<=cc->K (.tuple #[.slice (some ⟨g,0,none⟩) 256 cc,.int .i64 0]) w') :
  Cal Tryz.prog F_vol_Vol_Data #[.pointer (some ⟨v,0,none⟩),.int .i64 b] w K:=by
 have hlt:=h.lt
 obtain ⟨Ra,hA,hRa,hc⟩:=h.alc
 refine aGetDat_c hA hb fun w' R' g cc m s hA' hg hn hat hl hcc=>?_
 obtain ⟨c1,c2,c3⟩:=hc w' R' _ m s hA'
 exact hk w' _ g cc c1 c2 c3 hg (fun e=>e.elim (fun e=>by have:=hlt g e; omega) hn) hat hl hcc
end
end Go.Proofs.YtandmpcjjaabmaaGreat
end
section
open Go Go.Den Go.Proofs
namespace Go.Proofs.YtandmpcjjaabmaaGreat
section
variable {w w':World} {R R' Ra:Nat->Prop} {f a v d:Nat} {F:Fy} {K:Value->World->Prop}
set_option maxRecDepth 8000 in
theorem fRead1_c {k:Int} {i:Nd} (h63:k<=9223372036854775807) (h:Fo R w f a v d F) (ht:thF F k=0) (hi:(slotV F.A.V F.A.s.geo k).1=i) (hs:i.size=300) (hb:(gKind F.A.s.geo (i.p.getD 1 0)).1=4)
  (hk:∀ w' R' r c,Mod R w w'->Sb R R' w->Fo R' w' f a v d F->K (.tuple #[.slice r 1 c,.int .i64 0]) w') :
  Cal Tryz.prog F_file_Files_Read #[.pointer (some ⟨f,0,none⟩),.int .i64 k,.int .i64 299,.int .i64 9] w K:=by
 apply C_file_Files_Read
 unfold D_file_Files_Read
 have hwf:nWf i:=by rw [<- hi]; exact slotV_wf _ _ _
 obtain ⟨_,b1,b2,_⟩:=gKind_4 hb
 refine fThing_c h63 h fun w1 R1 m1 s1 h1=>⟨_,_,rfl,?_⟩
 rw [hi]
 have hlt1:=h1.lt
 have hd1:=h1.dlt
 obtain ⟨w2,p1,p2,p3,p4⟩:=new_u (P:=Tryz.prog) (w:=w1) (T:=51) zero_ino
 obtain ⟨w3,c1,c2,c3,c4⟩:=p2.put (T:=51) (vs:=nV i) agg_ino rfl (nV_len hwf) (one_nV _)
 have M3:Mod No w1 w3:=p3.own c3 (Nat.le_refl _)
 have h3:=h1.nos M3
 have ls:Ru (Instr.loadAt 2 (.pointer (some (Addr.add ⟨w1.heap.size,0,none⟩ 2)))) w3 (.int .i64 300) w3:=by
  have:=c2.at.fld (P:=Tryz.prog) (T:=2) (j:=2) (v:=.int .i64 i.size) sc_i64 rfl
  rw [hs] at this; exact this
 refine ⟨_,w2,p1,w3,c1,ff (by rw [ht]; rfl) (Share.dup (ff rfl (ff rfl ⟨_,rfl,ff rfl ⟨300,ls,ff rfl ⟨300,ls,?_⟩⟩⟩)))⟩
 have eM:(if (IntKind.i64.wrap (300-299))<9 then (IntKind.i64.wrap (300-299)) else 9)=((1:Nat):Int):=by rw [wrap64 (by omega) (by omega)]; rfl
 rw [eM]
 obtain ⟨w4,d1,d2,d3,d4⟩:=make_z (w:=w3) (n:=1) (by omega)
 refine ⟨_,_,_,w4,d1,?_⟩
 have h4:=h3.nos d3
 have q4:=c2.keep d3 id
 have z3:=M3.size
 refine ⟨fun x W=>∃ R',Mod R w W/\Sb R R' w/\Fo R' W f a v d F/\(x=[.int .i64 299,.int .i64 0]/\W=w4/\R'=R1\/∃ y,x=[y,.int .i64 1]),fun x _=>(1-nI x 1).toNat,⟨R1,((m1.no M3).no d3),s1,h4,.inl ⟨rfl,rfl,rfl⟩⟩,?_⟩
 rintro x W ⟨R',mW,sW,hW,⟨rfl,rfl,rfl⟩ | ⟨y,rfl⟩⟩
 ·refine ⟨0,rfl,tt rfl ⟨299,rfl,?_⟩⟩
  have e1:IntKind.i64.wrap (Int.tdiv 299 256)=((1:Nat):Int):=by rw [show Int.tdiv 299 256=1 from rfl,wrap64 (by omega) (by omega)]; rfl
  have e2:(if (IntKind.i64.wrap (256-(Int.tmod 299 256)))<(IntKind.i64.wrap (((1:Nat):Int)-0)) then (IntKind.i64.wrap (256-(Int.tmod 299 256))) else (IntKind.i64.wrap (((1:Nat):Int)-0)))=1:=by
   rw [show Int.tmod 299 256=43 from rfl,wrap64 (x:=256-43) (by omega) (by omega),wrap64 (x:=((1:Nat):Int)-0) (by omega) (by omega)]; rfl
  rw [e1,e2,show Int.tmod 299 256=43 from rfl]
  refine Of_c (by omega) (by omega) fun w7 m7=>⟨_,_,rfl,?_⟩
  rw [ofS6 (by omega)]
  obtain ⟨w8,f1,f2,f3,f4⟩:=new_u (P:=Tryz.prog) (w:=w7) (T:=116) zero_way
  obtain ⟨w9,g1,g2,g3,g4⟩:=f2.put (T:=116) (vs:=Wy.l ⟨0,1,0,0⟩) agg_way rfl rfl (one_Wy _)
  have M9:Mod No W w9:=m7.no (f3.own g3 (Nat.le_refl _))
  refine ⟨_,w8,f1,w9,g1,_,(q4.keep M9 id).at.all agg_ino (nV_len hwf),_,g2.at.all agg_way rfl,fWhere0_c hwf (n:=1) (by omega) fun w10 m10=>⟨_,rfl,Share.dup (tt (by rw [bneI]; exact decide_eq_true (by omega)) ⟨_,rfl,_,((hW.nos M9).nos m10).pv,?_⟩)⟩⟩
  have h10:=(hW.nos M9).nos m10
  refine fGetD_c h10 hb fun w11 R11 gb cc m11 s11 h11 hg hng hat hl hcc=>⟨_,_,_,_,rfl,ff rfl ⟨_,_,_,slice_lh elemN_bytes (by omega) (by decide) (by decide),_,_,_,slice_l elemN_bytes (by omega) (by omega),?_⟩⟩
  rw [wrap64 (x:=(0:Int)+1) (by omega) (by omega),cut_some (b:=w3.heap.size) (by omega),cut_some (b:=gb) (by show (43:Int).toNat≠cc; omega)]
  have z9:=M9.size
  have z10:=m10.size
  have n3:¬ R' w3.heap.size:=fun e=>by have:=hlt1 _ e; omega
  have d11:=(((d2.keep M9 id).keep m10 id).keep m11 n3).drew
  have hsub:At (Go.Den.drew w11) gb 43 (((u8L (contV F.A.V (i.p.getD 1 0).toNat)).drop 43).take 213):=hat.drew.at.sub (i:=43) (m:=213) (by rw [length_u8L,hl]; omega)
  obtain ⟨w12,u1,u2,u3,u4⟩:=copy_in (P:=Tryz.prog) (T:=55) (T2:=55) (ty:=3) (i:=0) (n:=1) (c:=1) (n2:=213) (c2:=cc-43) (a2:=some ⟨gb,43,none⟩) (src:=((u8L (contV F.A.V (i.p.getD 1 0).toNat)).drop 43).take 213) elemN_bytes d11 (by simp) (.inr ⟨gb,43,rfl,hsub⟩) (by rw [List.length_take,List.length_drop,length_u8L,hl]; rfl) (fun v hv=>one_u8L _ v (List.mem_of_mem_drop (List.mem_of_mem_take hv)))
  ·have z11:=m11.size
   have u3':Mod (fun x=>x=w3.heap.size) (Go.Den.drew w11) w12:=u3
   have nn:¬ R11 w3.heap.size:=fun e=>(s11 _ e).elim n3 fun e=>by have:=d2.lt; omega
   refine ⟨_,w12,u1,⟨R11,?_,?_,?_,.inr ⟨_,rfl⟩⟩,by simp [nI,nth]⟩
   ·exact ((Mod.sb ((mW.no M9).no m10) (by exact sW) m11).drew.trans u3' fun x hx e=>by have e:x=w3.heap.size:=e; have:=m1.size; omega)
   ·exact sW.trans (s11.up (Nat.le_trans z9 z10)) mW.size
   ·exact (h11.nos (Mod.refl _ _).drew).own u3' nn (by omega)
 ·exact ⟨1,rfl,ff rfl (hk W R' _ _ mW sW hW)⟩
theorem gPutNil_c {k:Int} {g:List Value} {a3:Option Addr} {l3 c3:Nat} (hk:∀ w',Mod No w w'->K (.tuple #[.int .i64 0,.int .i64 2]) w'):Cal Tryz.prog F_file_Files_Put #[.pointer none,.int .i64 k,.agg ⟨g⟩,.slice a3 l3 c3] w K:=by
 apply C_file_Files_Put
 unfold D_file_Files_Put
 obtain ⟨w1,b1,b2,b3,b4⟩:=box_u (P:=Tryz.prog) (w:=w) (T:=51) (cs:=g)
 exact ⟨_,w1,b1,tt rfl (hk w1 b3)⟩
theorem gWhereNil_c {k n:Int} (hk:∀ w',Mod No w w'->K (.tuple #[.int .i64 0,.int .i64 2]) w'):Cal Tryz.prog F_file_Files_Where #[.pointer none,.int .i64 k,.int .i64 n] w K:=by
 apply C_file_Files_Where
 unfold D_file_Files_Where
 refine gThingNil_c fun w1 m1=>⟨_,_,rfl,?_⟩
 obtain ⟨w2,b1,b2,b3,b4⟩:=new_u (P:=Tryz.prog) (w:=w1) (T:=51) zero_ino
 obtain ⟨w3,c1,c2,c3,c4⟩:=b2.put (T:=51) (vs:=nV nZ) agg_ino rfl rfl (one_nV _)
 exact ⟨_,w2,b1,w3,c1,tt rfl (hk w3 (m1.no (b3.own c3 (Nat.le_refl _))))⟩
theorem gReadNil_c {k n m:Int} (hk:∀ w',Mod No w w'->K (.tuple #[.slice none 0 0,.int .i64 2]) w'):Cal Tryz.prog F_file_Files_Read #[.pointer none,.int .i64 k,.int .i64 n,.int .i64 m] w K:=by
 apply C_file_Files_Read
 unfold D_file_Files_Read
 refine gThingNil_c fun w1 m1=>⟨_,_,rfl,?_⟩
 obtain ⟨w2,b1,b2,b3,b4⟩:=new_u (P:=Tryz.prog) (w:=w1) (T:=51) zero_ino
 obtain ⟨w3,c1,c2,c3,c4⟩:=b2.put (T:=51) (vs:=nV nZ) agg_ino rfl rfl (one_nV _)
 exact ⟨_,w2,b1,w3,c1,tt rfl (hk w3 (m1.no (b3.own c3 (Nat.le_refl _))))⟩
theorem gWriteNil_c {k n:Int} {a3:Option Addr} {l3 c3:Nat} (hk:∀ w',Mod No w w'->K (.int .i64 2) w'):Cal Tryz.prog F_file_Files_Write #[.pointer none,.int .i64 k,.int .i64 n,.slice a3 l3 c3] w K:=by
 apply C_file_Files_Write
 unfold D_file_Files_Write
 refine gThingNil_c fun w1 m1=>⟨_,_,rfl,?_⟩
 obtain ⟨w2,b1,b2,b3,b4⟩:=new_u (P:=Tryz.prog) (w:=w1) (T:=51) zero_ino
 obtain ⟨w3,c1,c2,c3,c4⟩:=b2.put (T:=51) (vs:=nV nZ) agg_ino rfl rfl (one_nV _)
 exact ⟨_,w2,b1,w3,c1,tt rfl (hk w3 (m1.no (b3.own c3 (Nat.le_refl _))))⟩
theorem gResizeNil_c {k n:Int} (hk:∀ w',Mod No w w'->K (.int .i64 2) w'):Cal Tryz.prog F_file_Files_Resize #[.pointer none,.int .i64 k,.int .i64 n] w K:=by
 apply C_file_Files_Resize
 unfold D_file_Files_Resize
 refine gThingNil_c fun w1 m1=>⟨_,_,rfl,?_⟩
 obtain ⟨w2,b1,b2,b3,b4⟩:=new_u (P:=Tryz.prog) (w:=w1) (T:=51) zero_ino
 obtain ⟨w3,c1,c2,c3,c4⟩:=b2.put (T:=51) (vs:=nV nZ) agg_ino rfl rfl (one_nV _)
 exact ⟨_,w2,b1,w3,c1,tt rfl (hk w3 (m1.no (b3.own c3 (Nat.le_refl _))))⟩
theorem gDropNil_c {k n:Int} (hk:∀ w',Mod No w w'->K (.int .i64 2) w'):Cal Tryz.prog F_file_Files_Drop #[.pointer none,.int .i64 k,.int .i64 n] w K:=by
 apply C_file_Files_Drop
 unfold D_file_Files_Drop
 apply C_file_Files_Owned
 unfold D_file_Files_Owned
 refine gThingNil_c fun w1 m1=>⟨_,_,rfl,?_⟩
 obtain ⟨w2,b1,b2,b3,b4⟩:=new_u (P:=Tryz.prog) (w:=w1) (T:=51) zero_ino
 obtain ⟨w3,c1,c2,c3,c4⟩:=b2.put (T:=51) (vs:=nV nZ) agg_ino rfl rfl (one_nV _)
 exact ⟨_,w2,b1,w3,c1,tt rfl ⟨_,_,_,_,rfl,tt rfl (hk w3 (m1.no (b3.own c3 (Nat.le_refl _))))⟩⟩
end
end Go.Proofs.YtandmpcjjaabmaaGreat
end
section
open Go Go.Den Go.Proofs
namespace Go.Proofs.YtandmpcjjaabmaaGreat
def tyP:Nat->Nat
 | 0=>64
 | 1=>65
 | _=>66
def upN {α:Type} (g:Nat->α) (j:Nat) (x:α):Nat->α:=fun n=>if n=j then x else g n
theorem upN_at {α:Type} (g:Nat->α) (j:Nat) (x:α):upN g j x j=x:=if_pos rfl
theorem upN_ne {α:Type} (g:Nat->α) {j n:Nat} (x:α) (h:n≠j):upN g j x n=g n:=if_neg h
theorem scP {j:Nat} (h:j<3):scal Tryz.prog (tyP j)=true:=by
 match j,h with
 | 0,_=>exact (show scal Tryz.prog 64=true by kernel_rfl)
 | 1,_=>exact (show scal Tryz.prog 65=true by kernel_rfl)
 | 2,_=>exact (show scal Tryz.prog 66=true by kernel_rfl)
theorem elP {j:Nat} (h:j<3):elemG Tryz.prog (tyP j) 1 8:=by
 match j,h with
 | 0,_=>exact elemG_of (by kernel_rfl)
 | 1,_=>exact elemG_of (by kernel_rfl)
 | 2,_=>exact elemG_of (by kernel_rfl)
theorem enP {j:Nat} (h:j<3):elemN Tryz.prog (tyP j)=some 1:=by
 match j,h with
 | 0,_=>exact (show elemN Tryz.prog 64=some 1 by kernel_rfl)
 | 1,_=>exact (show elemN Tryz.prog 65=some 1 by kernel_rfl)
 | 2,_=>exact (show elemN Tryz.prog 66=some 1 by kernel_rfl)
def rowP (ra:Nat->Option Addr) (rc rl:Nat->Nat) (j:Nat):Value:=.slice (ra j) (rl j) (rc j)
def plV (hd:List Value) (ra:Nat->Option Addr) (rc rl:Nat->Nat):List Value:=hd++[rowP ra rc rl 0,rowP ra rc rl 1,rowP ra rc rl 2,.slice none 0 0]
structure Ply (R:Nat->Prop) (W:World) (p base:Nat) (hd:List Value) (ra:Nat->Option Addr) (rc rl:Nat->Nat) (rx:Nat->List Value):Prop where
 hl:hd.length=3
 ce:AtU W p 0 (plV hd ra rc rl)
 ow:∀ j,j<3->Ow Tryz.prog W base (tyP j) 1 (ra j) (rl j) (rc j) (rx j)
 np:¬ R p
 nr:∀ j q,j<3->ra j=some q->¬ R q.block
 dj:∀ j j' q q',j<3->j'<3->j≠j'->ra j=some q->ra j'=some q'->q.block≠q'.block
 pb:p<base
 bz:base<=W.heap.size
theorem plV_row {hd:List Value} {ra:Nat->Option Addr} {rc rl:Nat->Nat} (hl:hd.length=3) {j:Nat} (h:j<3):(plV hd ra rc rl)[3+j]?=some (rowP ra rc rl j):=by
 unfold plV
 rw [List.getElem?_append_right (by omega),hl,Nat.add_sub_cancel_left]
 match j,h with
 | 0,_=>rfl
 | 1,_=>rfl
 | 2,_=>rfl
theorem plV_hd {hd:List Value} {ra:Nat->Option Addr} {rc rl:Nat->Nat} (hl:hd.length=3) {j:Nat} (h:j<3):(plV hd ra rc rl)[j]?=hd[j]?:=by
 unfold plV
 rw [List.getElem?_append_left (by omega)]
theorem plV_set {hd:List Value} {ra:Nat->Option Addr} {rc rl:Nat->Nat} (hl:hd.length=3) {j:Nat} (h:j<3) (q:Option Addr) (l c:Nat):(plV hd ra rc rl).set (3+j) (.slice q l c)=plV hd (upN ra j q) (upN rc j c) (upN rl j l):=by
 unfold plV
 rw [List.set_append_right _ _ (by omega),hl,Nat.add_sub_cancel_left]
 match j,h with
 | 0,_=>rfl
 | 1,_=>rfl
 | 2,_=>rfl
theorem plV_len {hd:List Value} {ra:Nat->Option Addr} {rc rl:Nat->Nat} (hl:hd.length=3):(plV hd ra rc rl).length=7:=by unfold plV; rw [List.length_append,hl]; rfl
section
variable {w W W':World} {R R':Nat->Prop} {p base:Nat} {hd:List Value} {ra:Nat->Option Addr} {rc rl:Nat->Nat} {rx:Nat->List Value}
theorem Ply.keep {S:Nat->Prop} (h:Ply R W p base hd ra rc rl rx) (m:Mod S W W') (h1:¬ S p) (h2:∀ j q,j<3->ra j=some q->¬ S q.block):Ply R W' p base hd ra rc rl rx where
 hl:=h.hl
 ce:=h.ce.keep m h1
 ow:=fun j hj=>(h.ow j hj).keep m fun q e=>h2 j q hj e
 np:=h.np
 nr:=h.nr
 dj:=h.dj
 pb:=h.pb
 bz:=Nat.le_trans h.bz m.size
theorem Ply.nos (h:Ply R W p base hd ra rc rl rx) (m:Mod No W W'):Ply R W' p base hd ra rc rl rx:=h.keep m id fun _ _ _ _=>id
theorem Ply.mv (h:Ply R W p base hd ra rc rl rx) (m:Mod R W W') (s:Sb R R' W):Ply R' W' p base hd ra rc rl rx:=by
 have hk:=h.keep m h.np h.nr
 exact {
  hl:=h.hl
  ce:=hk.ce
  ow:=hk.ow
  np:=fun e=>(s _ e).elim h.np fun e=>by have:=h.ce.lt; omega
  nr:=fun j q hj e r=>(s _ r).elim (h.nr j q hj e) fun r=>by have:=((h.ow j hj).base e).2; omega
  dj:=h.dj
  pb:=h.pb
  bz:=hk.bz }
theorem Ply.ld (h:Ply R W p base hd ra rc rl rx) {j:Nat} (hj:j<3):Ru (Instr.loadAt (tyP j) (.pointer (some (Addr.add ⟨p,0,none⟩ (3+j))))) W (.slice (ra j) (rl j) (rc j)) W:=h.ce.at.fld (j:=3+j) (v:=rowP ra rc rl j) (scP hj) (plV_row h.hl hj)
theorem Ply.app (h:Ply R W p base hd ra rc rl rx) (hR:∀ z,R z->z<W.heap.size) {j g:Nat} (hj:j<3) {v:Value} (hv:v.oneCell'=true) (hg:AtU W g 0 [v]) (hlen:rl j<=100) (hgp:g≠p) :
  ∃ q' c' w1 w2,(Builtin.append_ #[tyP j,tyP j] (tyP j) #[.slice (ra j) (rl j) (rc j),.slice (some ⟨g,0,none⟩) 1 1]).run Tryz.prog W=.ok (.slice (some q') (rl j+1) c') w1/\RuU (Instr.storeAt (tyP j) (.pointer (some (Addr.add ⟨p,0,none⟩ (3+j)))) (.slice (some q') (rl j+1) c')) w1 w2 /\
   Ply R w2 p base hd (upN ra j (some q')) (upN rc j c') (upN rl j (rl j+1)) (upN rx j (rx j++[v]))/\Mod (fun x=>x=p\/base<=x) W w2/\(∀ z,R z->∀ o,W.heap[z]?=some o->w2.heap[z]?=some o)/\Mod (fun x=>x=p\/∃ q,ra j=some q/\x=q.block) W w2:=by
 obtain ⟨q',c',w1,r1,r2,r3,r4⟩:=(h.ow j hj).appG (ty:=tyP j) (m:=1) (c2:=1) (ad:=⟨g,0,none⟩) (ys:=[v]) (elP hj) (by omega) (.inr ⟨_,_,rfl,hg.at⟩) rfl (by omega) (by simp; exact hv) (by omega) (by omega) h.bz
 have npb:∀ j q,j<3->ra j=some q->q.block≠p:=fun j q hj e=>by have:=((h.ow j hj).base e).1; have:=h.pb; omega
 have nq:¬ (fun x=>∃ q,ra j=some q/\x=q.block) p:=fun ⟨q,e,e2⟩=>npb j q hj e e2.symm
 obtain ⟨w2,u1,u2,u3,u4⟩:=(h.ce.keep r3 nq).putF (T:=tyP j) (j:=3+j) (v:=.slice (some q') (rl j+1) c') (scP hj) (by rw [plV_len h.hl]; omega) rfl
 rw [plV_set h.hl hj] at u2
 have bq:=(r2.base rfl).1
 have hb:=h.pb
 have mm:Mod (fun x=>x=p\/∃ q,ra j=some q/\x=q.block) W w2:=(r3.mono fun x _ e=>.inr e).trans u3 fun x _ e=>.inl e
 have own:∀ j' q2,j'<3->j'≠j->ra j'=some q2->q2.block≠q'.block:=fun j' q2 hj' hne e=>by
  rcases r4 with ⟨q0,e0,e1⟩ | r4
  ·rw [e1]; exact h.dj j' j q2 q0 hj' hj hne e e0
  ·have:=((h.ow j' hj').base e).2; omega
 refine ⟨q',c',w1,w2,r1,u1,?_,mm.mono fun x hx e=>?_,fun z hz o ho=>mm.keep ho fun e=>?_,mm⟩
 ·exact {
   hl:=h.hl
   ce:=u2
   ow:=fun j' hj'=>by
    by_cases e:j'=j
    ·subst e
     rw [upN_at,upN_at,upN_at,upN_at]
     exact r2.keep u3 fun q e x=>by cases e; have x:q'.block=p:=x; omega
    ·rw [upN_ne _ _ e,upN_ne _ _ e,upN_ne _ _ e,upN_ne _ _ e]
     refine ((h.ow j' hj').keep r3 fun q e1 ⟨q0,e0,e2⟩=>h.dj j' j q q0 hj' hj e e1 e0 e2).keep u3 fun q e1 x=>npb j' q hj' e1 x
   np:=h.np
   nr:=fun j' q hj' e1 r=>by
    by_cases e:j'=j
    ·subst e
     rw [upN_at] at e1; cases e1
     rcases r4 with ⟨q0,e0,e1⟩ | r4
     ·rw [e1] at r; exact h.nr j' q0 hj e0 r
     ·have:=hR _ r; omega
    ·rw [upN_ne _ _ e] at e1; exact h.nr j' q hj' e1 r
   dj:=fun j1 j2 q1 q2 h1 h2 hne e1 e2=>by
    by_cases x1:j1=j
    ·subst x1
     rw [upN_at] at e1; cases e1
     rw [upN_ne _ _ (Ne.symm hne)] at e2
     exact (own j2 q2 h2 (Ne.symm hne) e2).symm
    ·rw [upN_ne _ _ x1] at e1
     by_cases x2:j2=j
     ·subst x2
      rw [upN_at] at e2; cases e2
      exact own j1 q1 h1 hne e1
     ·rw [upN_ne _ _ x2] at e2
      exact h.dj j1 j2 q1 q2 h1 h2 hne e1 e2
   pb:=hb
   bz:=Nat.le_trans h.bz mm.size }
 ·rcases e with e | ⟨q,e,rfl⟩
  ·exact .inl e
  ·exact .inr ((h.ow j hj).base e).1
 ·rcases e with e | ⟨q,e,rfl⟩
  ·exact h.np (e ▸ hz)
  ·exact h.nr j q hj e hz
theorem Ply.set (h:Ply R W p base hd ra rc rl rx) {j i:Nat} (hj:j<3) (hi:i<rl j) {T:Nat} (hT:scal Tryz.prog T=true) {v:Value} (hv:v.oneCell'=true):∃ b o,ra j=some ⟨b,o,none⟩/\Al (Instr.indexAt (tyP j) (.slice (ra j) (rl j) (rc j)) (.int .i64 (i:Int))) (.pointer (some ⟨b,o+i,none⟩)) /\
  ∃ w2,RuU (Instr.storeAt T (.pointer (some ⟨b,o+i,none⟩)) v) W w2/\Ply R w2 p base hd ra rc rl (upN rx j ((rx j).set i v))/\Mod (fun x=>x=b) W w2/\base<=b/\¬ R b:=by
 have hlen:=(h.ow j hj).len
 have hpos:0<(rx j).length:=by omega
 obtain ⟨q,e⟩:∃ q,ra j=some q:=by
  cases e:ra j with
  | none=>have:=h.ow j hj; rw [e] at this; have:=this.zero.1; omega
  | some q=>exact ⟨q,rfl⟩
 obtain ⟨g,hg⟩:∃ g,q=⟨g,0,none⟩:=by
  have ho:=h.ow j hj
  obtain ⟨ty,_,ho⟩:=ho
  rcases ho.2 with ⟨hv,_⟩ | ⟨g,cap,cur,hv,_⟩
  ·rw [e] at hv; simp at hv
  ·rw [e] at hv; simp at hv; exact ⟨g,hv.1⟩
 subst hg
 have ho:=h.ow j hj
 rw [e] at ho
 obtain ⟨w2,u1,u2,u3⟩:=ho.setK (T':=T) (i:=i) hT (by omega) hv
 have bg:=(ho.base rfl).1
 refine ⟨g,0,e,fun w=>?_,w2,by rw [Nat.zero_add]; exact u1,?_,u3,bg,h.nr j _ hj e⟩
 ·have:=index_slice (P:=Tryz.prog) (T:=tyP j) (k:=1) (a:=⟨g,0,none⟩) (n:=rl j) (c:=rc j) (kk:=.i64) (i:=(i:Int)) (enP hj) (by omega) (by omega) w
  rw [add_none,show 0+(i:Int).toNat*1=0+i by omega] at this
  rw [e]; exact this
 ·exact {
   hl:=h.hl
   ce:=h.ce.keep u3 (by have:=h.pb; show ¬ p=g; have:base<=g:=bg; omega)
   ow:=fun j' hj'=>by
    by_cases x:j'=j
    ·subst x
     rw [upN_at,e]; exact u2
    ·rw [upN_ne _ _ x]
     exact (h.ow j' hj').keep u3 fun q e1 r=>h.dj j' j q _ hj' hj x e1 e r
   np:=h.np
   nr:=h.nr
   dj:=h.dj
   pb:=h.pb
   bz:=Nat.le_trans h.bz u3.size }
end
end Go.Proofs.YtandmpcjjaabmaaGreat
end
section
open Go Go.Den Go.Proofs
namespace Go.Proofs.YtandmpcjjaabmaaGreat
def gF:Gm:=⟨24,8,3⟩
theorem gE_F:gE gF=gF:=by decide
def noFz:Int->Bool:=fun _=>false
def hN:Nat->List Hd
 | 0=>[hBase gF 0,hBase gF 1,hBase gF 2]
 | i+1=>(hN i).set 0 (useX false gF ((hN i).getD 0 hZ) ((i:Int)+2) true).1
def inoN (s:Int):Nd:=⟨1,1,0,s,[0,0,0,0,0,0,0,0]⟩
theorem tkN:∀ i,i<3->takeTo gF (hN i) noFz (findX false gF) (spS gF 0).1 (spS gF 0).2.1 (spS gF 0).2.2 gF.gs.toNat=some (0,(i:Int)+2)
 | 0,_=>by decide +kernel
 | 1,_=>by decide +kernel
 | 2,_=>by decide +kernel
theorem wfN:∀ i,i<3->hWf (useX false gF ((hN i).getD 0 hZ) ((i:Int)+2) true).1
 | 0,_=>by unfold hWf; decide +kernel
 | 1,_=>by unfold hWf; decide +kernel
 | 2,_=>by unfold hWf; decide +kernel
theorem gpN:∀ i:Nat,i<3->(gPlace gF ((i:Int)+2)).2.2=0
 | 0,_=>by decide
 | 1,_=>by decide
 | 2,_=>by decide
theorem okN:∀ i:Nat,i<3->nOk (inoN ((i:Int)+2))=true
 | 0,_=>by decide
 | 1,_=>by decide
 | 2,_=>by decide
structure St15 (V0:Ps) (F:Fy) (i:Nat):Prop where
 s:F.A.s=⟨1,gF⟩
 hs:F.A.hs=hN i
 fz:F.A.fz=noFz
 nx:F.A.nx=(i:Int)+2
 la:F.A.V.last=2*i
 ml:∀ k,(F.mi k).length<=i
 mu:MuF F
 sl:∀ s,slotV F.A.V gF s=if 2<=s/\s<2+i then (inoN s,0) else slotV V0 gF s
def mkF (F:Fy) (i:Nat):Fy:=putF (nxF (sltF F 0)) ((i:Int)+2) (inoN ((i:Int)+2)) [(F.A.V.last:Int)+1]
theorem St15.slt {V0:Ps} {F:Fy} {i:Nat} (st:St15 V0 F i) (hi:i<3) (hd:HdsAt F.A.V F.A.s.geo F.A.hs):(slotA F.A 0).2=((i:Int)+2,(F.A.V.last:Int)+1,0)/\(slotA F.A 0).1.V.last=F.A.V.last+1/\(slotA F.A 0).1.hs=hN (i+1)/\(slotA F.A 0).1.fz=noFz:=by
 obtain ⟨⟨s,V,W,nx,hs,fz⟩,la,mi⟩:=F
 obtain ⟨h1,h2,h3,h4,h5,h6,h7,h8⟩:=st
 simp only at h1 h2 h3 h4
 subst h1; subst h2; subst h3
 unfold slotA
 rw [show takeTo (⟨⟨1,gF⟩,V,W,nx,hN i,noFz⟩:Az).s.geo (⟨⟨1,gF⟩,V,W,nx,hN i,noFz⟩:Az).hs (⟨⟨1,gF⟩,V,W,nx,hN i,noFz⟩:Az).fz (findX false (⟨⟨1,gF⟩,V,W,nx,hN i,noFz⟩:Az).s.geo) (spS (⟨⟨1,gF⟩,V,W,nx,hN i,noFz⟩:Az).s.geo 0).1 (spS (⟨⟨1,gF⟩,V,W,nx,hN i,noFz⟩:Az).s.geo 0).2.1 (spS (⟨⟨1,gF⟩,V,W,nx,hN i,noFz⟩:Az).s.geo 0).2.2 (⟨⟨1,gF⟩,V,W,nx,hN i,noFz⟩:Az).s.geo.gs.toNat=some (0,(i:Int)+2) from tkN i hi]
 refine ⟨?_,?_,rfl,rfl⟩
 ·show (((0:Nat):Int)*gF.no+((i:Int)+2),_,_)=_
  rw [show ((0:Nat):Int)*gF.no+((i:Int)+2)=(i:Int)+2 by simp]
 ·exact patS_last (setH_E hd (k:=0) (by show ((0:Nat):Int)<3; omega) (wfN i hi))
theorem St15.next {V0:Ps} {F:Fy} {i:Nat} (st:St15 V0 F i) (hi:i<3) (hd:HdsAt F.A.V F.A.s.geo F.A.hs) (hd2:HdsAt (nxF (sltF F 0)).A.V (nxF (sltF F 0)).A.s.geo (nxF (sltF F 0)).A.hs/\WFS (nxF (sltF F 0)).A.V/\WF (nxF (sltF F 0)).A.V.C.D):St15 V0 (mkF F i) (i+1):=by
 obtain ⟨v1,v2,v3,v4⟩:=st.slt hi hd
 obtain ⟨u1,_,_,u4,_,u6⟩:=sltA_up F.A 0
 have hgeo:(nxF (sltF F 0)).A.s.geo=gF:=by show (slotA F.A 0).1.s.geo=_; rw [u1,st.s]
 have hp:(gPlace (nxF (sltF F 0)).A.s.geo ((i:Int)+2)).2.2=0:=by rw [hgeo]; exact gpN i hi
 have hl2:(nxF (sltF F 0)).A.V.last=F.A.V.last+1:=v2
 have hb:badA (nxF (sltF F 0)).A.V [(F.A.V.last:Int)+1]=false:=badA_of fun y hy=>by
  have:=List.mem_singleton.1 hy
  rw [this,hl2]; omega
 have hE:=setI_E (k:=(i:Int)+2) (i:=inoN ((i:Int)+2)) (after:=[(F.A.V.last:Int)+1]) hd2.1 rfl hp hb
 refine ⟨?_,?_,?_,?_,?_,fun k=>?_,?_,fun s=>?_⟩
 ·show (slotA F.A 0).1.s=_; rw [u1,st.s]
 ·exact v3
 ·exact v4
 ·show (slotA F.A 0).1.nx+1=_
  rw [u4,st.nx]; omega
 ·show (patS _ _ _ _ _).last=_
  rw [patS_last hE,hl2,st.la]; omega
 ·have:=st.ml k
  show (if k=(i:Int)+2 then F.mi ((i:Int)+2)++[((slotA F.A 0).1.V.last:Int)+1] else F.mi k).length<=i+1
  split
  ·have:=st.ml ((i:Int)+2)
   rw [List.length_append]; simp; omega
  ·omega
 ·exact MuF.put (A0:=(nxF (sltF F 0)).A) (show MuF (nxF (sltF F 0)) from fun k x hx=>(st.mu.slt 0) k x hx) rfl hd2.1 rfl hp hb
 ·have h1:=setI_slot hd2.1 hd2.2 (k:=(i:Int)+2) (i:=inoN ((i:Int)+2)) (after:=[(F.A.V.last:Int)+1]) rfl (okN i hi) hp hb s
  rw [hgeo] at h1
  have h2:=u6 (by rw [st.s]; decide) s
  rw [st.s] at h2
  have h2:slotV (nxF (sltF F 0)).A.V gF s=slotV F.A.V gF s:=h2
  show slotV (setIA (nxF (sltF F 0)).A ((i:Int)+2) (inoN ((i:Int)+2)) [(F.A.V.last:Int)+1]).V gF s=_
  rw [h1,h2,st.sl s]
  by_cases e:s=(i:Int)+2
  ·subst e
   rw [if_pos rfl,if_pos (by omega)]
  ·rw [if_neg e]
   by_cases e2:2<=s/\s<2+(i:Int)
   ·rw [if_pos e2,if_pos (by omega)]
   ·rw [if_neg e2,if_neg (by omega)]
theorem build_inoK (a b d:Int):Al (Instr.build 51 #[(0,.int .i64 a),(1,.int .i64 b),(3,.int .i64 d)]) (.agg ⟨nV ⟨a,b,0,d,[0,0,0,0,0,0,0,0]⟩⟩):=fun w=>by kernel_rfl
theorem build_th15:Al (Instr.build 190 #[]) (.agg ⟨[.slice none 0 0]⟩):=fun w=>by kernel_rfl
theorem sc_thp:scal Tryz.prog 188=true:=by kernel_rfl
def hd15 (d v f:Nat):List Value:=[.pointer (some ⟨d,0,none⟩),.pointer (some ⟨v,0,none⟩),.pointer (some ⟨f,0,none⟩)]
section
variable {w w':World} {R R' Ra:Nat->Prop} {f a v d p base:Nat} {F:Fy} {V0:Ps} {K:Value->World->Prop} {ra:Nat->Option Addr} {rc rl:Nat->Nat} {rx:Nat->List Value}
theorem Ply.ldF (h:Ply R w p base (hd15 d v f) ra rc rl rx):Ru (Instr.loadAt 46 (.pointer (some (Addr.add ⟨p,0,none⟩ 2)))) w (.pointer (some ⟨f,0,none⟩)) w:=h.ce.at.fld (j:=2) (v:=.pointer (some ⟨f,0,none⟩)) sc_pfiles ((plV_hd h.hl (by omega)).trans rfl)
theorem Ply.ldV (h:Ply R w p base (hd15 d v f) ra rc rl rx):Ru (Instr.loadAt 41 (.pointer (some (Addr.add ⟨p,0,none⟩ 1)))) w (.pointer (some ⟨v,0,none⟩)) w:=h.ce.at.fld (j:=1) (v:=.pointer (some ⟨v,0,none⟩)) sc_pvol ((plV_hd h.hl (by omega)).trans rfl)
set_option maxRecDepth 4000 in
theorem make15_c {i:Nat} {S:List Int} (hi:i<3) (h:Fo R w f a v d F) (st:St15 V0 F i) (pl:Ply R w p base (hd15 d v f) ra rc rl rx) (hl:∀ j,j<3->rl j=i+1) (hx:rx 0=iL (S++[0])) (hS:S.length=i) (hdb:d<=base)
  (hk:∀ w' R' rx',Mod (fun z=>R z\/base<=z) w w'->Sb R R' w->Fo R' w' f a v d (mkF F i)->St15 V0 (mkF F i) (i+1)->Ply R' w' p base (hd15 d v f) ra rc rl rx'->rx' 0=iL (S++[(i:Int)+2])->K (.bool true) w') :
  Cal Tryz.prog F_leveelaw15_play_make #[.pointer (some ⟨p,0,none⟩),.int .i64 (i:Int)] w K:=by
 apply C_leveelaw15_play_make
 unfold D_leveelaw15_play_make
 have hla:=st.la
 obtain ⟨v1,v2,v3,v4⟩:=st.slt hi h.hd.1
 refine ⟨_,rfl,_,pl.ldF,fAlloc_c h ⟨_,rfl,fSlot_c (by omega) h (by omega) fun w2 R2 m2 s2 h2=>⟨_,_,_,rfl,?_⟩⟩⟩
 have pl2:=pl.mv m2 s2
 have hnx:(sltF F 0).A.nx=(i:Int)+2:=(sltA_up F.A 0).2.2.2.1.trans st.nx
 refine ⟨_,rfl,_,pl2.ldV,fNewId_c h2 (by rw [hnx]; omega) (by rw [hnx]; omega) fun w3 R3 m3 s3 h3=>⟨_,_,rfl,?_⟩⟩
 rw [hnx,v1]
 have pl3:=pl2.mv m3 s3
 have M3:Mod R w w3:=Mod.sb m2 s2 m3
 have S3:=s2.trans s3 m2.size
 have md:Mod No w3 (w3.alloc (.cells ⟨[.int .i64 ((F.A.V.last:Int)+1)]⟩ 2)):=(Mod.refl No w3).alloc _
 have pd:AtU (w3.alloc (.cells ⟨[.int .i64 ((F.A.V.last:Int)+1)]⟩ 2)) w3.heap.size 0 (iL [(F.A.V.last:Int)+1]):=AtU.new
 refine Share.dup (ff rfl ⟨_,rfl,ff rfl ⟨_,rfl,_,pl3.ldF,_,build_inoK 1 1 ((i:Int)+2),_,_,_,_,builtI64 w3 _,?_⟩⟩)
 generalize w3.alloc (.cells ⟨[.int .i64 ((F.A.V.last:Int)+1)]⟩ 2)=w5 at *
 have h5:=h3.nos md
 have pl5:=pl3.nos md
 have hgeo:(nxF (sltF F 0)).A.s.geo=gF:=by show (slotA F.A 0).1.s.geo=_; rw [(sltA_up F.A 0).1,st.s]
 have hmu:MuF (nxF (sltF F 0)):=fun k x hx=>(st.mu.slt 0) k x hx
 have hl2:(nxF (sltF F 0)).A.V.last=F.A.V.last+1:=v2
 have hml:=st.ml ((i:Int)+2)
 refine fPut_c (k:=(i:Int)+2) (i:=inoN ((i:Int)+2)) (after:=[(F.A.V.last:Int)+1]) (by omega) h5 hmu rfl (okN i hi) (by rw [hgeo]; exact gpN i hi) (by omega) (by show (F.mi ((i:Int)+2)).length<=1000000; omega) rfl (fun e=>by cases e) (by omega) (fun y hy=>by have:=List.mem_singleton.1 hy; rw [this,hl2]; omega) (.inr ⟨_,0,rfl,pd.at⟩) fun w6 R6 m6 s6 h6=>⟨_,_,rfl,?_⟩
 have h6:Fo R6 w6 f a v d (mkF F i):=h6
 have st':=st.next hi h.hd.1 h3.hd
 have pl6:=pl5.mv m6 s6
 have M6:Mod R w w6:=Mod.sb (M3.no md) S3 m6
 have S6:=S3.trans (s6.up md.size) M3.size
 have l0:=hl 0 (by omega)
 have l1:=hl 1 (by omega)
 have l2:=hl 2 (by omega)
 obtain ⟨b0,o0,e0,ix0,w7,u1,pl7,m7,bb0,nb0⟩:=pl6.set (j:=0) (i:=i) (by omega) (by omega) (T:=3) (v:=.int .i64 ((i:Int)+2)) sc_int rfl
 have h7:=h6.own m7 nb0 (by omega)
 obtain ⟨b1,o1,e1,ix1,w8,x1,pl8,m8,bb1,nb1⟩:=pl7.set (j:=1) (i:=i) (by omega) (by omega) (T:=2) (v:=.int .i64 ((i:Int)+2)) sc_i64 rfl
 have h8:=h7.own m8 nb1 (by omega)
 obtain ⟨w9,y1,y2,y3,y4⟩:=box_u (P:=Tryz.prog) (w:=w8) (T:=190) (cs:=[.slice none 0 0])
 have pl9:=pl8.nos y3
 obtain ⟨b2,o2,e2,ix2,w10,z1,pl10,m10,bb2,nb2⟩:=pl9.set (j:=2) (i:=i) (by omega) (by omega) (T:=188) (v:=.pointer (some ⟨w8.heap.size,0,none⟩)) sc_thp rfl
 have h10:=(h8.nos y3).own m10 nb2 (by omega)
 refine ⟨_,rfl,_,_,_,pl6.ld (j:=0) (by omega),_,ix0,w7,u1,_,rfl,_,_,_,pl7.ld (j:=1) (by omega),_,ix1,w8,x1,_,rfl,_,_,_,pl8.ld (j:=2) (by omega),_,build_th15,_,w9,y1,_,ix2,w10,z1,hk w10 R6 _ ?_ S6 h10 st' pl10 ?_⟩
 ·refine (((M6.mono fun x _ e=>.inl e).trans m7 fun x _ e=>.inr ?_).trans m8 fun x _ e=>.inr ?_).no y3 |>.trans m10 fun x _ e=>.inr ?_
  ·have e:x=b2:=e; omega
  ·have e:x=b0:=e; omega
  ·have e:x=b1:=e; omega
 ·rw [upN_ne _ _ (by omega),upN_ne _ _ (by omega),upN_at,hx]
  unfold iL
  rw [List.map_append,List.map_append,List.set_append_right _ _ (by rw [List.length_map]; omega),List.length_map,hS,Nat.sub_self]
  rfl
end
end Go.Proofs.YtandmpcjjaabmaaGreat
end
section
open Go Go.Den Go.Proofs
namespace Go.Proofs.YtandmpcjjaabmaaGreat
def aF (V:Ps) (nx:Int):Az:=⟨⟨1,gF⟩,V,[],nx,hN 0,noFz⟩
theorem nE_F:nE gF=2:=by decide +kernel
theorem aF_E (k:Nat):aE gF (hsE gF) k=aF ⟨⟨dE gF,k,[]⟩,0,[]⟩ 2:=by
 have:hsE gF=hN 0:=by unfold hsE; rw [gE_F]; rfl
 unfold aE
 rw [this,gE_F,nE_F]; rfl
theorem slot_zero:inoAt zeroB 3=(nZ,0):=by decide +kernel
theorem slot_newZ {g:Gm} (hg:gE g=g) {k:Nat} {s p:Int} (hp:gPlace g s=(4,p,0)) (h1:2<volN g) (h0:(0:Int)<g.gs):slotV (aE g (hsE g) k).V g s=inoAt zeroB p:=by
 obtain ⟨hok,_⟩:=gE_ok g
 rw [hg] at hok
 unfold slotV
 rw [hp,if_neg (by simp)]
 show inoAt (atD (dE g) 4) p=_
 have hsz:=(gE_sz g).2
 rw [hg] at hsz
 have:=at_new (n:=(gSize g).toNat) hok (by omega) (k:=0) (i:=2) h0 h1
 have e3:(2+((0:Nat):Int)*g.gr+((2:Nat):Int)).toNat=4:=by simp
 rw [e3] at this
 unfold dE
 rw [hg,this]; rfl
theorem slotF7 (k:Nat):slotV (⟨⟨dE gF,k,[]⟩,0,[]⟩:Ps) gF 7=(nZ,0) :=
 (slot_newZ gE_F (k:=k) (s:=7) (p:=3) (by decide) (by decide) (by decide)).trans slot_zero
def FN (F:Fy):Nat->Fy
 | 0=>F
 | i+1=>mkF (FN F i) i
def SN (i:Nat):List Int:=(List.range i).map fun n:Nat=>(n:Int)+2
theorem SN_len (i:Nat):(SN i).length=i:=by simp [SN]
theorem SN_snoc (i:Nat):SN (i+1)=SN i++[(i:Int)+2]:=by unfold SN; rw [List.range_succ,List.map_append]; rfl
theorem st0 (V:Ps) (h:V.last=0):St15 V (newF (aF V 2)) 0 where
 s:=rfl
 hs:=rfl
 fz:=rfl
 nx:=rfl
 la:=h
 ml:=fun _=>Nat.le_refl _
 mu:=newF_mu _
 sl:=fun s=>by rw [if_neg (by omega)]; rfl
theorem build_play15 (p q r:Option Addr):Al (Instr.build 69 #[(0,.pointer p),(1,.pointer q),(2,.pointer r)]) (.agg ⟨[.pointer p,.pointer q,.pointer r,.slice none 0 0,.slice none 0 0,.slice none 0 0,.slice none 0 0]⟩):=fun w=>by kernel_rfl
theorem built_thp (w:World):(Instr.buildSlice 66 1 #[(0,.pointer none)]).run Tryz.prog w=.ok (.slice (some ⟨w.heap.size,0,none⟩) 1 1) (w.alloc (.cells ⟨[.pointer none]⟩ 188)):=by kernel_rfl
section
variable {w w':World} {R R':Nat->Prop} {f a v d:Nat} {F:Fy} {K:Value->World->Prop}
theorem shape15_c (hk:∀ w',Mod No w w'->K (.agg ⟨gV gF⟩) w'):Cal Tryz.prog F_leveelaw15_shape #[.agg ⟨gV gZ⟩] w K:=by
 apply C_leveelaw15_shape
 unfold D_leveelaw15_shape
 obtain ⟨w1,b1,b2,b3,b4⟩:=box_u (P:=Tryz.prog) (w:=w) (T:=39) (cs:=gV gZ)
 obtain ⟨w2,c1,c2,c3,c4⟩:=new_u (P:=Tryz.prog) (w:=w1) (T:=39) zero_geo
 refine ⟨_,w1,b1,_,w2,c1,Share.dup ⟨_,(b2.keep c3 id).at.all agg_geo rfl,rgRight_c fun w3 m3=>⟨_,rfl,tt (by decide) ⟨_,rfl,tt rfl ⟨_,build_geo3 24 8 3,?_⟩⟩⟩⟩⟩
 obtain ⟨w4,d1,d2,d3,d4⟩:=(c2.keep m3 id).put (T:=39) (vs:=gV gF) agg_geo rfl rfl (one_gV _)
 exact ⟨w4,d1,_,d2.at.all agg_geo rfl,hk w4 (((b3.no c3).no m3).own d3 (by omega))⟩
set_option maxRecDepth 4000 in
theorem begin15_c (hk : ∀ w' R f a v d p base ra rc rl rx V0 F, Mod No w w' → Fo R w' f a v d F → (∀ z, R z → w.heap.size ≤ z) → St15 V0 F 3 → slotV V0 gF 7 = (nZ, 0) → Ply R w' p base (hd15 d v f) ra rc rl rx → (∀ j, j < 3 → rl j = 3) → rx 0 = iL (SN 3) → w.heap.size ≤ p →
      K (.pointer (some ⟨p, 0, none⟩)) w') : Cal Tryz.prog F_leveelaw15_begin #[.agg ⟨gV gZ⟩] w K := by
  apply C_leveelaw15_begin
  unfold D_leveelaw15_begin
  obtain ⟨w1, b1, b2, b3, b4⟩ := box_u (P := Tryz.prog) (w := w) (T := 39) (cs := gV gZ)
  refine ⟨_, w1, b1, _, b2.at.all agg_geo rfl, shape15_c fun w2 m2 => ⟨_, rfl, ?_⟩⟩
  obtain ⟨w3, c1, c2, c3, c4⟩ := (b2.keep m2 id).put (T := 39) (vs := gV gF) agg_geo rfl rfl (one_gV _)
  have M3 : Mod No w w3 := (b3.no m2).own c3 (Nat.le_refl _)
  refine ⟨w3, c1, _, c2.at.all agg_geo rfl, ?_⟩
  have z3 := M3.size
  have ee : (⟨gV gF⟩ : Array Value) = ⟨gV (gE gF)⟩ := by rw [gE_F]
  rw [ee]
  refine start_c (g := gF) (by rw [gE_F]; exact c2) fun w4 R f a v d k m4 h4 lo4 => ?_
  rw [aF_E] at h4
  have M4 := M3.no m4
  have hlt := h4.lt
  have hdl := h4.dlt
  have sl7 := slotF7 k
  have vl : (⟨⟨dE gF, k, []⟩, 0, []⟩ : Ps).last = 0 := rfl
  generalize (⟨⟨dE gF, k, []⟩, 0, []⟩ : Ps) = V at *
  obtain ⟨w5, d1, d2, d3, d4⟩ := box_u (P := Tryz.prog) (w := w4) (T := 69) (cs := plV (hd15 d v f) (fun _ => none) (fun _ => 0) (fun _ => 0))
  refine ⟨_, build_play15 _ _ _, _, w5, d1, ?_⟩
  have z4 := M4.size
  have M5 := M4.no d3
  have pl0 : Ply R w5 w4.heap.size w5.heap.size (hd15 d v f) (fun _ => none) (fun _ => 0) (fun _ => 0) (fun _ => []) := {
    hl := rfl
    ce := d2
    ow := fun j hj => Ow.nilG (elP hj)
    np := fun e => by have := hlt _ e; omega
    nr := fun j q hj e => by cases e
    dj := fun j j' q q' _ _ _ e => by cases e
    pb := by omega
    bz := Nat.le_refl _ }
  have lo4 : ∀ z, R z → w.heap.size ≤ z := fun z hz => by have := lo4 z hz; omega
  refine ⟨fun x W => ∃ (i : Nat) (R' : Nat → Prop) (ra : Nat → Option Addr) (rc rl : Nat → Nat) (rx : Nat → List Value), x = [.int .i64 i] ∧ i ≤ 3 ∧ Fo R' W f a v d (FN (newF (aF V 2)) i) ∧ St15 V (FN (newF (aF V 2)) i) i ∧ Ply R' W w4.heap.size w5.heap.size (hd15 d v f) ra rc rl rx ∧ (∀ j, j < 3 → rl j = i) ∧ rx 0 = iL (SN i) ∧ Mod No w W ∧ (∀ z, R' z → w.heap.size ≤ z), fun x _ => (3 - nI x 0).toNat,
    ⟨0, R, _, _, _, _, rfl, Nat.zero_le _, h4.nos d3, st0 V vl, pl0, fun _ _ => rfl, rfl, M5, lo4⟩, ?_⟩
  rintro x W ⟨i, R1, ra, rc, rl, rx, rfl, hi, h, st, pl, hl, hx, M, lo⟩
  refine ⟨_, rfl, cond_of (fun hb => ?_) (fun hb => ?_)⟩
  · have hb := of_decide_eq_true hb
    have hi3 : i < 3 := by omega
    have l0 := hl 0 (by omega)
    have l1 := hl 1 (by omega)
    have l2 := hl 2 (by omega)
    have eF : FN (newF (aF V 2)) (i + 1) = mkF (FN (newF (aF V 2)) i) i := rfl
    generalize FN (newF (aF V 2)) i = Fi at *
    have keepF : ∀ {W W' : World} {ra : Nat → Option Addr} {rc rl : Nat → Nat} {rx : Nat → List Value} {j : Nat}, j < 3 → Fo R1 W f a v d Fi → Ply R1 W w4.heap.size w5.heap.size (hd15 d v f) ra rc rl rx → Mod (fun x => x = w4.heap.size ∨ ∃ q, ra j = some q ∧ x = q.block) W W' → Fo R1 W' f a v d Fi := fun hj h pl m => h.keep m (fun z hz e => by
      rcases e with e | ⟨q, e, rfl⟩
      · exact pl.np (e ▸ hz)
      · exact pl.nr _ q hj e hz) fun z e => by
      rcases e with e | ⟨q, e, rfl⟩
      · omega
      · have := ((pl.ow _ hj).base e).1; omega
    have keepM : ∀ {W W' : World}, Mod No w W → Mod (fun x => x = w4.heap.size ∨ w5.heap.size ≤ x) W W' → Mod No w W' := fun h m => h.trans m fun x hx e => by omega
    -- the slots
    have ma : Mod No W (W.alloc (.cells ⟨[.int .i64 0]⟩ 3)) := (Mod.refl No W).alloc _
    have pa : AtU (W.alloc (.cells ⟨[.int .i64 0]⟩ 3)) W.heap.size 0 [.int .i64 0] := AtU.new
    have zW := pl.bz
    obtain ⟨q1, k1, w6, w7, r1, u1, pl7, m7, _, mm7⟩ := (pl.nos ma).app (fun z hz => (h.nos ma).lt z hz) (j := 0) (by omega) (v := .int .i64 0) rfl pa (by omega) (by omega)
    have h7 := keepF (by omega) (h.nos ma) (pl.nos ma) mm7
    refine ⟨_, rfl, _, _, _, pl.ld (j := 0) (by omega), _, _, _, _, builtI W 0, _, _, _, w6, r1, _, rfl, w7, u1, ?_⟩
    have M7 := keepM (M.no ma) m7
    -- the numbers
    have mb : Mod No w7 (w7.alloc (.cells ⟨[.int .i64 0]⟩ 2)) := (Mod.refl No w7).alloc _
    have pb : AtU (w7.alloc (.cells ⟨[.int .i64 0]⟩ 2)) w7.heap.size 0 [.int .i64 0] := AtU.new
    have z7 := pl7.bz
    have e11 : upN rl 0 (rl 0 + 1) 1 = rl 1 := rfl
    obtain ⟨q2, k2, w8, w9, r2, u2, pl9, m9, _, mm9⟩ := (pl7.nos mb).app (fun z hz => (h7.nos mb).lt z hz) (j := 1) (by omega) (v := .int .i64 0) rfl pb (by rw [e11]; omega) (by omega)
    have h9 := keepF (by omega) (h7.nos mb) (pl7.nos mb) mm9
    refine ⟨_, rfl, _, _, _, pl7.ld (j := 1) (by omega), _, _, _, _, builtI64 w7 0, _, _, _, w8, r2, _, rfl, w9, u2, ?_⟩
    have M9 := keepM (M7.no mb) m9
    -- the things
    have mc : Mod No w9 (w9.alloc (.cells ⟨[.pointer none]⟩ 188)) := (Mod.refl No w9).alloc _
    have pc : AtU (w9.alloc (.cells ⟨[.pointer none]⟩ 188)) w9.heap.size 0 [.pointer none] := AtU.new
    have z9 := pl9.bz
    have e12 : upN (upN rl 0 (rl 0 + 1)) 1 (upN rl 0 (rl 0 + 1) 1 + 1) 2 = rl 2 := rfl
    obtain ⟨q3, k3, w10, w11, r3, u3, pl11, m11, _, mm11⟩ := (pl9.nos mc).app (fun z hz => (h9.nos mc).lt z hz) (j := 2) (by omega) (v := .pointer none) rfl pc (by rw [e12]; omega) (by omega)
    have h11 := keepF (by omega) (h9.nos mc) (pl9.nos mc) mm11
    refine ⟨_, rfl, _, _, _, pl9.ld (j := 2) (by omega), _, _, _, _, built_thp w9, _, _, _, w10, r3, _, rfl, w11, u3, ?_⟩
    have M11 := keepM (M9.no mc) m11
    refine make15_c (S := SN i) hi3 h11 st pl11 (fun j hj => ?_) ?_ (SN_len i) (by omega) fun w12 R2 rx' m12 s12 h12 st' pl12 hx' => ⟨_, rfl, ff rfl ?_⟩
    · match j, hj with
      | 0, _ => exact congrArg (· + 1) l0
      | 1, _ => exact congrArg (· + 1) l1
      | 2, _ => exact congrArg (· + 1) l2
    · rw [upN_ne _ _ (by omega), upN_ne _ _ (by omega), upN_at, hx]; unfold iL; rw [List.map_append]; rfl
    · rw [wrap64 (x := (i : Int) + 1) (by omega) (by omega)]
      refine ⟨⟨i + 1, R2, _, _, _, rx', rfl, by omega, by rw [eF]; exact h12, by rw [eF]; exact st', pl12, fun j hj => ?_, by rw [hx', SN_snoc], ?_, fun z hz => ?_⟩, by simp [nI, nth]; omega⟩
      · match j, hj with
        | 0, _ => exact congrArg (· + 1) l0
        | 1, _ => exact congrArg (· + 1) l1
        | 2, _ => exact congrArg (· + 1) l2
      · exact M11.trans m12 fun z hz e => by
          rcases e with e | e
          · have := lo z e; omega
          · omega
      · rcases s12 z hz with e | e
        · exact lo z e
        · have := M11.size; omega
  · have hb := of_decide_eq_false hb
    have : i = 3 := by omega
    subst this
    exact hk W R1 f a v d w4.heap.size w5.heap.size ra rc rl rx V _ M h lo st sl7 pl hl hx (by omega)
end
end Go.Proofs.YtandmpcjjaabmaaGreat
end
section
open Go Go.Den Go.Proofs
namespace Go.Proofs.YtandmpcjjaabmaaGreat
def z300:Bk:=List.replicate 300 0
theorem z300_len:z300.length=300:=List.length_replicate
def hP:List Hd:=(hN 3).set 0 (useX true gF ((hN 3).getD 0 hZ) 3 true).1
theorem tkP0:takeTo gF (hN 3) noFz (findX true gF) (spB gF 0).1 (spB gF 0).2.1 (spB gF 0).2.2 gF.gs.toNat=some (0,3):=by decide +kernel
theorem tkP1:takeTo gF hP noFz (findX true gF) (spB gF 5).1 (spB gF 5).2.1 (spB gF 5).2.2 gF.gs.toNat=some (0,4):=by decide +kernel
theorem frP:needS 0 300<=(freeA ⟨⟨1,gF⟩,⟨⟨newSt 0,0,[]⟩,0,[]⟩,[],0,hN 3,noFz⟩ gF.gs.toNat).1:=by decide +kernel
theorem blkA_val {A:Az} {b j:Int} {hs:List Hd} (h1:A.s=⟨1,gF⟩) (h2:A.hs=hs) (h3:A.fz=noFz) (ht:takeTo gF hs noFz (findX true gF) (spB gF b).1 (spB gF b).2.1 (spB gF b).2.2 gF.gs.toNat=some (0,j)) :
  (blockA A b).2.1=2+j/\(blockA A b).2.2.2=0/\(blockA A b).1.hs=hs.set 0 (useX true gF (hs.getD 0 hZ) j true).1/\(blockA A b).1.fz=noFz/\(blockA A b).1.s=⟨1,gF⟩:=by
 obtain ⟨s,V,W,nx,hs',fz⟩:=A
 simp only at h1 h2 h3
 subst h1; subst h2; subst h3
 unfold blockA
 rw [show takeTo (⟨⟨1,gF⟩,V,W,nx,hs',noFz⟩:Az).s.geo (⟨⟨1,gF⟩,V,W,nx,hs',noFz⟩:Az).hs (⟨⟨1,gF⟩,V,W,nx,hs',noFz⟩:Az).fz (findX true (⟨⟨1,gF⟩,V,W,nx,hs',noFz⟩:Az).s.geo) (spB (⟨⟨1,gF⟩,V,W,nx,hs',noFz⟩:Az).s.geo b).1 (spB (⟨⟨1,gF⟩,V,W,nx,hs',noFz⟩:Az).s.geo b).2.1 (spB (⟨⟨1,gF⟩,V,W,nx,hs',noFz⟩:Az).s.geo b).2.2 (⟨⟨1,gF⟩,V,W,nx,hs',noFz⟩:Az).s.geo.gs.toNat=some (0,j) from ht]
 refine ⟨?_,rfl,rfl,rfl,rfl⟩
 show 2+((0:Nat):Int)*gF.gr+j=2+j
 simp
def i4:Nd:=endI (setP (setP (inoN 2) 0 5) 1 6) 300
theorem St15.wr {V0:Ps} {F:Fy} (st:St15 V0 F 3):needS 0 300<=(freeA F.A F.A.s.geo.gs.toNat).1/\(∀ j,j<2->okB (wrS F 2 (inoN 2) z300 j).F (wrS F 2 (inoN 2) z300 j).near/\(wrS F 2 (inoN 2) z300 j).near<=9223372036854775807)/\endI (wrS F 2 (inoN 2) z300 2).i 300=i4:=by
 obtain ⟨a1,a2,a3,a4,a5⟩:=blkA_val (b:=0) st.s st.hs st.fz tkP0
 have b1:(wrS F 2 (inoN 2) z300 1).F.A.s=⟨1,gF⟩:=a5
 have b2:(wrS F 2 (inoN 2) z300 1).F.A.hs=hP:=a3
 have b3:(wrS F 2 (inoN 2) z300 1).F.A.fz=noFz:=a4
 have b4:(wrS F 2 (inoN 2) z300 1).near=5:=a1
 obtain ⟨c1,c2,_⟩:=blkA_val (b:=5) b1 b2 b3 tkP1
 refine ⟨?_,fun j hj=>?_,?_⟩
 ·obtain ⟨⟨s,V,W,nx,hs,fz⟩,la,mi⟩:=F
  obtain ⟨h1,h2,h3,_⟩:=st
  simp only at h1 h2 h3
  subst h1; subst h2; subst h3
  exact frP
 ·match j,hj with
  | 0,_=>exact ⟨⟨a2,by show (gKind F.A.s.geo (blockA F.A 0).2.1).1=4; rw [a1,st.s]; decide⟩,by show (0:Int)<=_; omega⟩
  | 1,_=>exact ⟨⟨by rw [b4]; exact c2,by rw [b4,c1,b1]; decide⟩,by rw [b4]; omega⟩
 ·have e1:(wrS F 2 (inoN 2) z300 2).i=setP (setP (inoN 2) 0 (blockA F.A 0).2.1) 1 (blockA (wrS F 2 (inoN 2) z300 1).F.A (wrS F 2 (inoN 2) z300 1).near).2.1:=rfl
  rw [e1,b4,a1,c1]; rfl
theorem wrF_300 (F:Fy):wrF F 2 (inoN 2) z300=putF (wrS F 2 (inoN 2) z300 2).F 2 (endI (wrS F 2 (inoN 2) z300 2).i 300) (wrS F 2 (inoN 2) z300 2).af:=by
 unfold wrF
 rw [z300_len]; rfl
theorem putF_la (F:Fy) (k:Int) (i:Nd) (af:List Int):(putF F k i af).la k=(F.A.V.last:Int)+1:=by
 show (if k=k then (F.A.V.last:Int)+1 else F.la k)=_
 rw [if_pos rfl]
theorem putF_mi (F:Fy) (k:Int) (i:Nd) (af:List Int):(putF F k i af).mi k=F.mi k++[(F.A.V.last:Int)+1]:=by
 show (if k=k then F.mi k++[(F.A.V.last:Int)+1] else F.mi k)=_
 rw [if_pos rfl]
section
variable {w w':World} {R R':Nat->Prop} {f a v d p base:Nat} {F:Fy} {K:Value->World->Prop} {ra:Nat->Option Addr} {rc rl:Nat->Nat} {rx:Nat->List Value}
theorem Ply.get0 (h:Ply R w p base (hd15 d v f) ra rc rl rx) (hl:rl 0=3) (hx:rx 0=iL (SN 3)):∃ b o,Al (Instr.indexAt 64 (.slice (ra 0) (rl 0) (rc 0)) (.int .i64 0)) (.pointer (some ⟨b,o,none⟩))/\∀ {R':Nat->Prop} {W:World} {rx':Nat->List Value},Ply R' W p base (hd15 d v f) ra rc rl rx'->rx' 0=iL (SN 3)->Ru (Instr.loadAt 3 (.pointer (some ⟨b,o,none⟩))) W (.int .i64 2) W:=by
 have ho:=h.ow 0 (by omega)
 rw [hx] at ho
 rcases ho.rowU with e | ⟨b,o,e,hat⟩
 ·cases e
 refine ⟨b,o,fun W=>?_,fun {R' W rx'} h' hx'=>?_⟩
 ·have:=index_slice (P:=Tryz.prog) (T:=64) (k:=1) (a:=⟨b,o,none⟩) (n:=rl 0) (c:=rc 0) (kk:=.i64) (i:=0) elemN_ints (by omega) (by omega) W
  rw [add_none] at this
  rw [e]; exact this
 ·have ho':=h'.ow 0 (by omega)
  rw [hx'] at ho'
  rcases ho'.rowU with e' | ⟨b',o',e',hat'⟩
  ·cases e'
  ·rw [e] at e'; cases e'
   exact hat'.at.load (i:=0) sc_int rfl
set_option maxRecDepth 8000 in
theorem known15_c (hk:∀ w',Mod No w w'->K (.bool true) w'):Cal Tryz.prog F_leveelaw15_known #[] w K:=by
 apply C_leveelaw15_known
 unfold D_leveelaw15_known
 refine ⟨_,build_geo,begin15_c fun w1 R1 f a v d p base ra rc rl rx V0 F M1 h1 lo1 st sl7 pl hl hx zp=>⟨_,rfl,Share.dup (ff rfl ⟨_,rfl,_,pl.ldF,_,rfl,ff rfl ?_⟩)⟩⟩
 have l0:=hl 0 (by omega)
 obtain ⟨bb,oo,ix,gl⟩:=pl.get0 l0 hx
 have up:∀ {R2 R3:Nat->Prop} {w2:World},Sb R2 R3 w2->w.heap.size<=w2.heap.size->(∀ z,R2 z->w.heap.size<=z)->∀ z,R3 z->w.heap.size<=z:=fun h1 h2 h3 z hz=>(h1 z hz).elim (h3 z) fun e=>by omega
 have base':∀ {w2:World} {R2:Nat->Prop} {w3:World},Mod No w w2->Mod R2 w2 w3->(∀ z,R2 z->w.heap.size<=z)->Mod No w w3:=fun h1 h2 h3=>h1.trans h2 fun x hx e=>by have:=h3 x e; omega
 have md:Mod No w1 (Go.Den.drew w1):=(Mod.refl _ _).drew
 have pld:=pl.nos md
 obtain ⟨w3,u1,u2,u3,u4⟩:=make_z (w:=Go.Den.drew w1) (n:=300) (by omega)
 have pl3:=pld.nos u3
 have h3:=(h1.nos md).nos u3
 have M3:=(M1.no md).no u3
 obtain ⟨x1,x2,x3⟩:=st.wr
 have s2:slotV F.A.V F.A.s.geo 2=(inoN 2,0):=by
  rw [st.s]
  show slotV F.A.V gF 2=_
  rw [st.sl 2,if_pos (by omega)]
 have hla:=st.la
 have hml:=st.ml 2
 refine ⟨_,rfl,_,pld.ldF,_,rfl,_,_,_,pld.ld (j:=0) (by omega),_,ix,2,gl pld hx,_,_,_,w3,u1,pl3.ldF,pl3.ld (j:=0) (by omega),gl pl3 hx,?_⟩
 refine fWrite_c (k:=2) (i:=inoN 2) (xs:=z300) (by omega) h3 st.mu s2 (.inl rfl) z300_len (by omega) (by omega) (by omega) (.inr ⟨_,0,rfl,u2.at⟩) (fun q e=>?_) (fun m hm=>?_) (by show (0:Int)<300; omega) (by show (0:Int)<=0; omega) x1 x2 (by rw [show (300+255) / 256=2 from rfl]; show nOk (endI (wrS F 2 (inoN 2) z300 2).i 300)=true; rw [x3]; decide) (by omega) (by omega) (by rw [st.s]; decide) fun w4 R4 m4 s4 h4 hM haf hd=>⟨_,rfl,?_⟩
 ·cases e
  exact ⟨fun r=>by have r:R1 w1.heap.size:=r; have:=h1.lt _ r; omega,u2.lt⟩
 ·have hm:m<2:=hm
  match m,hm with
  | 0,_=>rfl
  | 1,_=>rfl
 have hM:MuF (wrS F 2 (inoN 2) z300 2).F:=hM
 have haf:∀ y∈(wrS F 2 (inoN 2) z300 2).af,1<=y/\y<=((wrS F 2 (inoN 2) z300 2).F.A.V.last:Int):=haf
 have hd:HdsAt (wrS F 2 (inoN 2) z300 2).F.A.V (wrS F 2 (inoN 2) z300 2).F.A.s.geo (wrS F 2 (inoN 2) z300 2).F.A.hs/\WFS (wrS F 2 (inoN 2) z300 2).F.A.V/\WF (wrS F 2 (inoN 2) z300 2).F.A.V.C.D:=hd
 obtain ⟨_,y2,_,_,_,_,_,y8,y9,_⟩:=wrS_in F 2 (i:=inoN 2) rfl z300 2
 rw [wrF_300,x3] at h4
 have gp:(gPlace (wrS F 2 (inoN 2) z300 2).F.A.s.geo 2).2.2=0:=by rw [y2,st.s]; decide
 have hbd:=badA_of haf
 have hsl:=setI_slot hd.1 hd.2 (k:=2) (i:=i4) (after:=(wrS F 2 (inoN 2) z300 2).af) rfl (by decide) gp hbd 2
 rw [if_pos rfl] at hsl
 have hmu:MuF (putF (wrS F 2 (inoN 2) z300 2).F 2 i4 (wrS F 2 (inoN 2) z300 2).af):=hM.put (A0:=(wrS F 2 (inoN 2) z300 2).F.A) rfl hd.1 rfl gp hbd
 have hgeo:(putF (wrS F 2 (inoN 2) z300 2).F 2 i4 (wrS F 2 (inoN 2) z300 2).af).A.s.geo=gF:=by
  show (wrS F 2 (inoN 2) z300 2).F.A.s.geo=gF
  rw [y2,st.s]
 have hsl:slotV (putF (wrS F 2 (inoN 2) z300 2).F 2 i4 (wrS F 2 (inoN 2) z300 2).af).A.V (putF (wrS F 2 (inoN 2) z300 2).F 2 i4 (wrS F 2 (inoN 2) z300 2).af).A.s.geo 2=(i4,0):=hsl
 have hla4:(putF (wrS F 2 (inoN 2) z300 2).F 2 i4 (wrS F 2 (inoN 2) z300 2).af).la 2=((wrS F 2 (inoN 2) z300 2).F.A.V.last:Int)+1:=putF_la _ _ _ _
 have hmi4:((putF (wrS F 2 (inoN 2) z300 2).F 2 i4 (wrS F 2 (inoN 2) z300 2).af).mi 2).length=(F.mi 2).length+3:=by
  rw [putF_mi,List.length_append,y8]; rfl
 have hla0:0<=((wrS F 2 (inoN 2) z300 2).F.A.V.last:Int):=by omega
 generalize putF (wrS F 2 (inoN 2) z300 2).F 2 i4 (wrS F 2 (inoN 2) z300 2).af=F4 at *
 generalize ((wrS F 2 (inoN 2) z300 2).F.A.V.last:Int)=la at *
 have ht:thF F4 2=0:=by unfold thF; rw [hsl]; decide
 have pl4:=pl3.mv m4 s4
 have M4:=base' M3 m4 lo1
 have lo4:=up s4 M3.size lo1
 have md4:Mod No w4 (Go.Den.drew w4):=(Mod.refl _ _).drew
 have pl4d:=pl4.nos md4
 refine ⟨_,rfl,_,pl4d.ldF,_,rfl,_,_,_,pl4d.ld (j:=0) (by omega),_,ix,2,gl pl4d hx,fRead1_c (i:=i4) (by omega) (h4.nos md4) ht (by rw [hsl]) rfl (by rw [hgeo]; decide) fun w5 R5 r5 c5 m5 s5 h5=>⟨_,_,_,_,rfl,?_⟩⟩
 have pl5:=pl4d.mv m5 s5
 have M5:=base' (M4.no md4) m5 lo4
 have lo5:=up s5 (M4.no md4).size lo4
 have md5:Mod No w5 (Go.Den.drew w5):=(Mod.refl _ _).drew
 have pl5d:=pl5.nos md5
 refine ⟨_,rfl,_,pl5d.ldF,_,rfl,_,_,_,pl5d.ld (j:=0) (by omega),_,ix,2,gl pl5d hx,fData_c (i:=i4) (by omega) (h5.nos md5) ht (by rw [hsl]) rfl rfl fun w6 R6 r6 c6 m6 s6 h6=>⟨_,_,_,_,rfl,?_⟩⟩
 have pl6:=pl5d.mv m6 s6
 have M6:=base' (M5.no md5) m6 lo5
 have lo6:=up s6 (M5.no md5).size lo5
 have md6:Mod No w6 (Go.Den.drew w6):=(Mod.refl _ _).drew
 have pl6d:=pl6.nos md6
 have h6d:=h6.nos md6
 refine Share.dup (tt rfl (tt rfl (tt rfl (tt (by decide) (tt rfl ⟨_,rfl,_,pl6d.ldF,_,rfl,_,_,_,pl6d.ld (j:=0) (by omega),_,ix,2,gl pl6d hx,fLast_c h6d ⟨_,rfl,?_⟩⟩)))))
 rw [hla4]
 refine tt (decide_eq_true (by omega)) ⟨_,rfl,_,pl6d.ldF,_,rfl,_,_,_,pl6d.ld (j:=0) (by omega),_,ix,2,gl pl6d hx,fChanges_c h6d (fun y hy=>(hmu 2 y hy).1) (by omega) fun w7 R7 a7 c7 m7 s7 h7 o7 n7=>⟨_,_,_,rfl,_,rfl,?_⟩⟩
 rw [decide_eq_true (show (((F4.mi 2).length:Nat):Int) > 0 by omega)]
 exact hk w7 (base' (M6.no md6) m7 lo6)
set_option maxRecDepth 8000 in
theorem FileNil_c {n o:Int} {a2:Option Addr} {l2 c2:Nat}:Cal Tryz.prog F_leveelaw15_FileNil #[.int .i64 n,.int .i64 o,.slice a2 l2 c2] w (fun v w'=>v=.bool true/\Mod No w w'):=by
 apply C_leveelaw15_FileNil
 unfold D_leveelaw15_FileNil
 apply C_file_New
 unfold D_file_New
 refine tt rfl ⟨_,rfl,gGetNil_c fun w2 m2=>⟨_,_,rfl,?_⟩⟩
 obtain ⟨w3,b1,b2,b3,b4⟩:=new_u (P:=Tryz.prog) (w:=w2) (T:=51) zero_ino
 obtain ⟨w4,c1,c2',c3,c4⟩:=b2.put (T:=51) (vs:=nV nZ) agg_ino rfl rfl (one_nV _)
 have M4:Mod No w w4:=(m2.no b3).own c3 m2.size
 refine ⟨_,w3,b1,w4,c1,_,build_ino0,gPutNil_c fun w5 m5=>⟨_,_,rfl,gWhereNil_c fun w6 m6=>⟨_,_,rfl,gReadNil_c fun w7 m7=>⟨_,_,_,_,rfl,_,build_geo,?_⟩⟩⟩⟩
 have M7:=((M4.no m5).no m6).no m7
 have z7:=M7.size
 refine begin15_c fun w8 R1 f a v d p base ra rc rl rx V0 F m8 h1 lo1 st sl7 pl hl hx zp=>⟨_,rfl,ff rfl ?_⟩
 have M8:=M7.no m8
 have lo1:∀ z,R1 z->w.heap.size<=z:=fun z hz=>by have:=lo1 z hz; omega
 have up:∀ {R2 R3:Nat->Prop} {w2:World},Sb R2 R3 w2->w.heap.size<=w2.heap.size->(∀ z,R2 z->w.heap.size<=z)->∀ z,R3 z->w.heap.size<=z:=fun h1 h2 h3 z hz=>(h1 z hz).elim (h3 z) fun e=>by omega
 have base':∀ {w2:World} {R2:Nat->Prop} {w3:World},Mod No w w2->Mod R2 w2 w3->(∀ z,R2 z->w.heap.size<=z)->Mod No w w3:=fun h1 h2 h3=>h1.trans h2 fun x hx e=>by have:=h3 x e; omega
 have hE:thF F 7=20:=by
  have:slotV F.A.V F.A.s.geo 7=(nZ,0):=by
   rw [st.s]
   show slotV F.A.V gF 7=_
   rw [st.sl 7,if_neg (by omega),sl7]
  unfold thF; rw [this]; decide
 refine ⟨_,rfl,_,pl.ldF,fWriteE_c (by omega) h1 (by rw [hE]; decide) fun w9 R9 m9 s9 h9=>⟨_,rfl,?_⟩⟩
 have pl9:=pl.mv m9 s9
 have M9:=base' M8 m9 lo1
 have lo9:=up s9 M8.size lo1
 refine ⟨_,rfl,_,pl9.ldF,fOwnedE_c (by omega) h9 (by rw [hE]; decide) fun w10 R10 m10 s10 h10=>⟨_,_,_,_,rfl,?_⟩⟩
 have M10:=base' M9 m10 lo9
 rw [hE]
 refine Share.dup (tt rfl ?_)
 apply C_file_Files_Alloc
 unfold D_file_Files_Alloc
 refine tt rfl ⟨_,rfl,tt rfl (tt rfl (tt rfl (tt rfl (tt rfl (gWriteNil_c fun w12 m12=>⟨_,rfl,tt rfl (gResizeNil_c fun w13 m13=>⟨_,rfl,tt rfl (gDropNil_c fun w14 m14=>⟨_,rfl,tt rfl ?_⟩)⟩)⟩)))))⟩
 apply C_file_Files_Last
 unfold D_file_Files_Last
 refine tt rfl ⟨_,rfl,tt rfl ?_⟩
 apply C_file_Files_Changes
 unfold D_file_Files_Changes
 refine tt rfl ⟨_,_,_,rfl,tt rfl (tt rfl (tt rfl ?_))⟩
 exact known15_c fun w17 m17=>⟨_,rfl,_,rfl,rfl,(((M10.no m12).no m13).no m14).no m17⟩
end
end Go.Proofs.YtandmpcjjaabmaaGreat
end
