/- Parts of the proof, in order: what the statement leans on. -/
import Derived.Test.YtelhlihjihklbaaGreatBe
section
open Go Go.Den Go.Proofs
namespace Go.Proofs.YtelhlihjihklbaaGreat
end Go.Proofs.YtelhlihjihklbaaGreat
namespace Go.Den
end Go.Den
namespace Go.Proofs.YtelhlihjihklbaaGreat
def gE (g:Gm):Gm:=if gOk g=true/\gSize g<=200 then g else gKn
def dE (g:Gm):St:=fmtSt (newSt (gSize (gE g)).toNat) (gE g)
def nE (g:Gm):Int:=nextTo (dE g) (gE g) (gSlots (gE g)).toNat+1
def aE (g:Gm) (hs:List Hd) (k:Nat):Az:=⟨⟨1,gE g⟩,⟨⟨dE g,k,[]⟩,0,[]⟩,[],nE g,hs,fun _=>false⟩
theorem gE_ok (g:Gm):gOk (gE g)=true/\gSize (gE g)<=200:=by
 unfold gE
 split
 ·rename_i h; exact h
 ·exact ⟨by decide,by decide⟩
theorem gE_sz (g:Gm):gSize (gE g)=2+(gE g).gs*(gE g).gr/\18<=gSize (gE g):=by
 have h:=(gE_ok g).1
 have e:gSize (gE g)=2+(gE g).gs*(gE g).gr:=by unfold gSize; rw [if_pos h]
 obtain ⟨h1,_,h3,_⟩:=gOk_iff.1 h
 have:1*16<=(gE g).gs*(gE g).gr:=Int.mul_le_mul h3 h1 (by omega) (by omega)
 exact ⟨e,by omega⟩
theorem bndN (k:Nat):Bnd (newSt k) 1:=fun v hv=>by
 have:=List.eq_of_mem_replicate hv
 subst this; simp
theorem build_g16 (w:World):(Instr.build 40 #[(0,.int .i64 16),(1,.int .i64 8),(2,.int .i64 2)]).run Tryz.prog w=.ok (.agg ⟨gV gKn⟩) w:=by kernel_rfl
section
variable {w wb w':World} {R R0 R':Nat->Prop} {N a v d:Nat} {A:Az} {hs:List Hd} {K:Value->World->Prop}
end
end Go.Proofs.YtelhlihjihklbaaGreat
end
section
open Go Go.Den Go.Proofs
namespace Go.Proofs.YtelhlihjihklbaaGreat
section
variable {D:St} {l:List (Int×Bk)} {b:Nat} {ys:Bk} {g:Gm} {n:Nat}
def InD (D:St) (l:List (Int×Bk)):Prop:=∀ x∈l,∃ j:Nat,x.1=j/\j<D.vs.length/\x.2.length=256
theorem wrAll_no (hl:D.left=-1) (hin:InD D l) (hno:∀ x∈l,x.1≠(b:Int)):atD (wrAll D l) b=atD D b:=by
 induction l generalizing D with
 | nil=>rfl
 | cons x l ih =>
  obtain ⟨j,h1,h2,h3⟩:=hin x List.mem_cons_self
  show atD (wrAll (wrSt D x.1 x.2) l) b=_
  have hi:InD (wrSt D x.1 x.2) l:=fun y hy=>by
   obtain ⟨j,k1,k2,k3⟩:=hin y (List.mem_cons_of_mem _ hy)
   exact ⟨j,k1,by rw [wrSt_len]; exact k2,k3⟩
  rw [ih (wrSt_run hl _ _) hi (fun y hy=>hno y (List.mem_cons_of_mem _ hy)),h1,atD_wrN h2 h3 hl,if_neg (fun e=>hno x List.mem_cons_self (by rw [h1,e]))]
theorem wrAll_yes (hl:D.left=-1) (hin:InD D l) (hx:∃ x∈l,x.1=(b:Int)) (hu:∀ x∈l,x.1=(b:Int)->x.2=ys):atD (wrAll D l) b=ys:=by
 induction l generalizing D with
 | nil=>obtain ⟨x,h,_⟩:=hx; cases h
 | cons x l ih =>
  obtain ⟨j,h1,h2,h3⟩:=hin x List.mem_cons_self
  show atD (wrAll (wrSt D x.1 x.2) l) b=_
  have hi:InD (wrSt D x.1 x.2) l:=fun y hy=>by
   obtain ⟨j,k1,k2,k3⟩:=hin y (List.mem_cons_of_mem _ hy)
   exact ⟨j,k1,by rw [wrSt_len]; exact k2,k3⟩
  by_cases h:∃ y∈l,y.1=(b:Int)
  ·exact ih (wrSt_run hl _ _) hi h fun y hy=>hu y (List.mem_cons_of_mem _ hy)
  ·have hxb:x.1=(b:Int):=by
    obtain ⟨y,hy,e⟩:=hx
    rcases List.mem_cons.1 hy with rfl | hy
    ·exact e
    ·exact absurd ⟨y,hy,e⟩ h
   rw [wrAll_no (wrSt_run hl _ _) hi (fun y hy e=>h ⟨y,hy,e⟩),h1,atD_wrN h2 h3 hl,if_pos (by omega)]
   exact hu x List.mem_cons_self hxb
theorem mem_volL {x:Int×Bk} {m:Nat}:x∈volL g m↔∃ k,k<m/\∃ i,i<volN g/\x=volX g k i:=by
 unfold volL volG
 simp only [List.mem_flatMap,List.mem_range,List.mem_map]
 constructor
 ·rintro ⟨k,hk,i,hi,e⟩; exact ⟨k,hk,i,hi,e.symm⟩
 ·rintro ⟨k,hk,i,hi,e⟩; exact ⟨k,hk,i,hi,e.symm⟩
theorem vol_inj (hg:gOk g=true) {k k' i i':Nat} (hi:i<volN g) (hi':i'<volN g) (e:2+(k:Int)*g.gr+i=2+(k':Int)*g.gr+i'):k=k'/\i=i':=by
 have hv:=(volN_b hg).1
 obtain ⟨h1,_,_,_,h5,h6,h7,h8,_⟩:=gOk_iff.1 hg
 have key:∀ {a c:Nat},a<c->(a:Int)*g.gr+g.gr<=(c:Int)*g.gr:=fun {a c} h=>by
  have:=Int.mul_le_mul_of_nonneg_right (show (a:Int)+1<=c by omega) (show 0<=g.gr by omega)
  rw [Int.add_mul,Int.one_mul] at this; exact this
 rcases Nat.lt_trichotomy k k' with h | h | h
 ·have:=key h; omega
 ·subst h; omega
 ·have:=key h; omega
theorem inD_vol (hg:gOk g=true) (hn:gSize g<=n):InD (fmt0 (newSt n)) (volL g g.gs.toNat):=fun x hx=>by
 obtain ⟨k,hk,i,hi,rfl⟩:=mem_volL.1 hx
 obtain ⟨h1,h2⟩:=volX_in hg (k:=k) (n:=n) (by omega) hi hn
 exact ⟨(volX g k i).1.toNat,by omega,by rw [fmt0_len]; simp [newSt]; omega,volB_len g k i⟩
theorem newRun:(newSt n).left=-1:=rfl
theorem at_new (hg:gOk g=true) (hn:gSize g<=n) {k i:Nat} (hk:(k:Int)<g.gs) (hi:i<volN g):atD (fmtSt (newSt n) g) (2+(k:Int)*g.gr+i).toNat=volB g k i:=by
 obtain ⟨h1,h2⟩:=volX_in hg (n:=n) hk hi hn
 have h1:2<=2+(k:Int)*g.gr+i:=h1
 have h2:2+(k:Int)*g.gr+i<n:=h2
 have hb:(((2+(k:Int)*g.gr+i).toNat:Nat):Int)=2+(k:Int)*g.gr+i:=by omega
 generalize (2+(k:Int)*g.gr+i).toNat=b at hb
 have h1r:=fmt1_run (newRun (n:=n)) g
 have hl1:1<(fmt1 (newSt n) g).vs.length:=by rw [fmt1_len]; simp [newSt]; omega
 unfold fmtSt
 rw [atD_fl (wrSt_run h1r _ _),show (1:Int)=((1:Nat):Int) from rfl,atD_wrN hl1 (supB_len _) h1r,if_neg (by omega)]
 unfold fmt1
 rw [atD_fl (wrAll_run (fmt0_run newRun) _)]
 refine wrAll_yes (fmt0_run newRun) (inD_vol hg hn) ⟨volX g k i,mem_volL.2 ⟨k,by omega,i,hi,rfl⟩,hb.symm⟩ fun x hx e=>?_
 obtain ⟨k',_,i',hi',rfl⟩:=mem_volL.1 hx
 have e:2+(k':Int)*g.gr+i'=b:=e
 have e2:2+(k':Int)*g.gr+i'=2+(k:Int)*g.gr+i:=e.trans hb
 obtain ⟨rfl,rfl⟩:=vol_inj hg hi' hi e2
 rfl
theorem at_sup (hn:18<=n):atD (fmtSt (newSt n) g) 1=supB ⟨1,g⟩:=by
 have h1r:=fmt1_run (newRun (n:=n)) g
 have hl1:1<(fmt1 (newSt n) g).vs.length:=by rw [fmt1_len]; simp [newSt]; omega
 unfold fmtSt
 rw [atD_fl (wrSt_run h1r _ _),show (1:Int)=((1:Nat):Int) from rfl,atD_wrN hl1 (supB_len _) h1r,if_pos rfl]
theorem at_zero (hg:gOk g=true) (hn:gSize g<=n) (h18:18<=n):atD (fmtSt (newSt n) g) 0=zeroB:=by
 have h1r:=fmt1_run (newRun (n:=n)) g
 have hl1:1<(fmt1 (newSt n) g).vs.length:=by rw [fmt1_len]; simp [newSt]; omega
 unfold fmtSt
 rw [atD_fl (wrSt_run h1r _ _),show (1:Int)=((1:Nat):Int) from rfl,atD_wrN hl1 (supB_len _) h1r,if_neg (by decide)]
 unfold fmt1
 rw [atD_fl (wrAll_run (fmt0_run newRun) _),wrAll_no (fmt0_run newRun) (inD_vol hg hn) fun x hx e=>by
  obtain ⟨k,hk,i,hi,rfl⟩:=mem_volL.1 hx
  have:=(volX_in hg (k:=k) (n:=n) (by omega) hi hn).1
  have e:(volX g k i).1=((0:Nat):Int):=e
  omega]
 unfold fmt0
 have hz:(wrSt (newSt n) 0 zeroB).left=-1:=wrSt_run newRun _ _
 have hl:1<(wrSt (newSt n) 0 zeroB).vs.length:=by rw [wrSt_len]; simp [newSt]; omega
 rw [atD_fl (wrSt_run hz _ _),show (1:Int)=((1:Nat):Int) from rfl,atD_wrN hl zeroB_len hz,if_neg (by decide),show (0:Int)=((0:Nat):Int) from rfl,atD_wrN (by simp [newSt]; omega) zeroB_len newRun,if_pos rfl]
theorem sFront_get {s:Sp}:(supB s).take 4=sMark/\(supB s).drop 4=toLe 8 s.gen.toNat++((supB s).drop 12)/\(supB s).drop 12=toLe 2 s.geo.gr.toNat++((supB s).drop 14)/\(supB s).drop 14=toLe 2 s.geo.no.toNat++((supB s).drop 16)/\(supB s).drop 16=toLe 2 s.geo.gs.toNat++((supB s).drop 18):=by
 have cut:∀ {a c:List UInt8} {m:Nat},a.length=m->(a++c).drop m=c:=fun {a c m} h=>by rw [List.drop_append,List.drop_eq_nil_of_le (by omega),List.nil_append,h,Nat.sub_self]; rfl
 have e:supB s=sMark++(toLe 8 s.gen.toNat++(toLe 2 s.geo.gr.toNat++(toLe 2 s.geo.no.toNat++(toLe 2 s.geo.gs.toNat++(List.replicate 234 0++toLe 4 (crc (sHead s))))))):=by
  unfold supB; rw [sHead,sFront]; simp only [List.append_assoc]
 have d4:(supB s).drop 4=toLe 8 s.gen.toNat++(toLe 2 s.geo.gr.toNat++(toLe 2 s.geo.no.toNat++(toLe 2 s.geo.gs.toNat++(List.replicate 234 0++toLe 4 (crc (sHead s)))))):=by rw [e]; exact cut rfl
 have d12:(supB s).drop 12=toLe 2 s.geo.gr.toNat++(toLe 2 s.geo.no.toNat++(toLe 2 s.geo.gs.toNat++(List.replicate 234 0++toLe 4 (crc (sHead s))))):=by rw [show 12=4+8 from rfl,<- List.drop_drop,d4]; exact cut (length_toLe _ _)
 have d14:(supB s).drop 14=toLe 2 s.geo.no.toNat++(toLe 2 s.geo.gs.toNat++(List.replicate 234 0++toLe 4 (crc (sHead s)))):=by rw [show 14=12+2 from rfl,<- List.drop_drop,d12]; exact cut (length_toLe _ _)
 have d16:(supB s).drop 16=toLe 2 s.geo.gs.toNat++(List.replicate 234 0++toLe 4 (crc (sHead s))):=by rw [show 16=14+2 from rfl,<- List.drop_drop,d14]; exact cut (length_toLe _ _)
 have d18:(supB s).drop 18=List.replicate 234 0++toLe 4 (crc (sHead s)):=by rw [show 18=16+2 from rfl,<- List.drop_drop,d16]; exact cut (length_toLe _ _)
 refine ⟨by rw [e]; rfl,by rw [d4,d12],by rw [d12,d14],by rw [d14,d16],by rw [d16,d18]⟩
theorem supG_supB {s:Sp} (hs:sOk s=true):supG (supB s)=(s,0):=by
 obtain ⟨⟨g1,g2⟩,hg⟩:=sOk_iff.1 hs
 obtain ⟨r1,r2,r3,r4,r5,r6,_⟩:=gOk_iff.1 hg
 obtain ⟨e1,e2,e3,e4,e5⟩:=sFront_get (s:=s)
 have tk:∀ {k m:Nat} {c:List UInt8},m<256 ^ k->leN ((toLe k m++c).take k)=m:=fun {k m c} h=>by
  rw [List.take_append_of_le_length (by rw [length_toLe]; exact Nat.le_refl _),List.take_of_length_le (by rw [length_toLe]; exact Nat.le_refl _)]
  exact leN_toLe _ _ h
 have hr:readS (supB s)=s:=by
  unfold readS
  rw [e2,tk (by omega),e3,tk (by omega),e4,tk (by omega),e5,tk (by omega),wrap64 (by omega) (by omega)]
  cases s with
  | mk a b =>
   cases b
   simp only at *
   simp only [Sp.mk.injEq,Gm.mk.injEq]
   omega
 have h252:(supB s).take 252=sHead s:=by unfold supB; rw [List.take_append_of_le_length (by rw [sHead_len]; exact Nat.le_refl _),List.take_of_length_le (by rw [sHead_len]; exact Nat.le_refl _)]
 have hc:leN ((supB s).drop 252)=crc ((supB s).take 252):=by
  rw [h252]
  unfold supB
  rw [List.drop_append,List.drop_eq_nil_of_le (by rw [sHead_len]; exact Nat.le_refl _),List.nil_append,sHead_len]
  exact leN_toLe _ _ (crc_lt _)
 have hz:=(sup_back (supB_len s) e1 hc (by rw [hr]; exact hs)).1 (by rw [hr])
 unfold supG
 rw [if_neg (by rw [supB_len]; exact fun e=>e rfl),if_neg (by rw [e1]; exact fun e=>e rfl),if_neg (by rw [hc]; exact fun e=>e rfl),hr,if_neg (by rw [hs]; decide),if_neg (by rw [hz]; decide)]
theorem supG_zero:(supG zeroB).2≠0:=by decide +kernel
theorem choose_new (hg:gOk g=true) (hn:gSize g<=n):supChoose zeroB (supB ⟨1,g⟩) n=(⟨1,g⟩,1,0):=by
 have hs:sOk (⟨1,g⟩:Sp)=true:=sOk_iff.2 ⟨⟨Int.le_refl 1,by show (1:Int)<=4611686018427387904; decide⟩,hg⟩
 have e0:supPick 0 zeroB n sZ=sZ:=by unfold supPick; rw [if_neg fun h=>supG_zero h.1]
 have eB:supBest zeroB (supB ⟨1,g⟩) n=⟨1,g⟩:=by
  unfold supBest
  rw [e0]
  unfold supPick
  rw [supG_supB hs,if_pos ⟨rfl,rfl,hn,by show (1:Int) > 0; decide⟩]
 have hne:(⟨1,g⟩:Sp)≠sZ:=fun e=>by
  have:(1:Int)=0:=congrArg Sp.gen e
  omega
 unfold supChoose
 rw [eB,if_neg hne]; rfl
theorem root_back:inoAt (overB zeroB 64 (inoB rootN)) 1=(rootN,0):=by decide +kernel
theorem hds_new (hg:gOk g=true) (hn:gSize g<=n) (k:Nat):HdsAt ⟨⟨fmtSt (newSt n) g,k,[]⟩,0,[]⟩ g ((List.range g.gs.toNat).map fun j:Nat=>hBase g (j:Int)):=by
 obtain ⟨_,_,g3,_⟩:=gOk_iff.1 hg
 have hv:0<volN g:=by unfold volN; omega
 refine ⟨hg,?_,by rw [List.length_map,List.length_range]; omega,fun j h hj=>?_⟩
 ·show gSize g<=((fmtSt (newSt n) g).vs.length:Int)
  rw [fmtSt_len]; simp [newSt]; omega
 ·rw [List.getElem?_map] at hj
  by_cases hjl:j<g.gs.toNat
  ·rw [List.getElem?_range hjl] at hj
   cases hj
   refine ⟨?_,hOk_base hg (by omega) (by omega),rfl,hBase_wf _ _⟩
   have:=at_new hg hn (k:=j) (i:=0) (by omega) hv
   rw [Int.natCast_zero,Int.add_zero] at this
   exact this
  ·rw [List.getElem?_eq_none (by simp; omega)] at hj; cases hj
theorem mnt_new (hg:gOk g=true) (hn:gSize g<=n) (h18:18<=n):mnt (fmtSt (newSt n) g)=(⟨1,g⟩,0):=by
 obtain ⟨q1,q2,g3,g4,g5,g6,g7,_⟩:=gOk_iff.1 hg
 have hlen:(fmtSt (newSt n) g).vs.length=n:=by rw [fmtSt_len]; simp [newSt]
 have rd:∀ {b:Nat},b<n->rdB (fmtSt (newSt n) g) (b:Int)=atD (fmtSt (newSt n) g) b:=fun {b} h=>(rd_at _ (by rw [hlen]; exact h)).2
 have hS:mntS (fmtSt (newSt n) g)=(⟨1,g⟩,1,0):=by
  unfold mntS
  rw [show (0:Int)=((0:Nat):Int) from rfl,show (1:Int)=((1:Nat):Int) from rfl,rd (by omega),rd (by omega),at_zero hg hn h18,at_sup h18,hlen]
  exact choose_new hg hn
 have hv:=(volN_b hg).1
 have hO:mntOk (fmtSt (newSt n) g) g=true:=by
  unfold mntOk
  rw [Bool.and_eq_true,List.all_eq_true]
  refine ⟨fun k hk=>?_,?_⟩
  ·have hk:=List.mem_range.1 hk
   obtain ⟨p1,p2,p3⟩:=head_pos hg (k:=k) (by omega)
   have e:headAt (fmtSt (newSt n) g) g k=(hBase g k,0):=by
    unfold headAt
    rw [p1,if_neg (fun e=>e rfl)]
    have:=at_new hg hn (k:=k) (i:=0) (by omega) (by omega)
    rw [Int.natCast_zero,Int.add_zero] at this
    have r:=rd (b:=(2+(k:Int)*g.gr).toNat) (by omega)
    rw [show (((2+(k:Int)*g.gr).toNat:Nat):Int)=2+(k:Int)*g.gr by omega,this] at r
    rw [r]
    exact hGet_grpB (hBase_wf _ _) (hOk_base hg (by omega) (by omega))
   unfold headOk
   rw [e]; exact decide_eq_true ⟨rfl,rfl⟩
  ·have hsl:gSlots g=g.gs*g.no:=by unfold gSlots; rw [if_pos hg]
   have hs4:1*4<=g.gs*g.no:=Int.mul_le_mul g3 g5 (by omega) (by omega)
   have e0:(1:Int) / g.no=0:=Int.ediv_eq_zero_of_lt (by omega) (by omega)
   have e1:(1:Int) % g.no=1:=Int.emod_eq_of_lt (by omega) (by omega)
   have ep:gPlace g 1=(3,1,0):=by
    unfold gPlace
    rw [if_pos hg,if_pos ⟨by decide,by omega⟩,e0,e1]
    have:(2:Int)+0*g.gr+1+1 / 4=3:=by rw [Int.zero_mul]; rfl
    rw [this]; rfl
   have:=at_new hg hn (k:=0) (i:=1) (by omega) (by omega)
   rw [show ((0:Nat):Int)*g.gr=0 from Int.zero_mul _] at this
   have this:atD (fmtSt (newSt n) g) 3=volB g 0 1:=this
   have r:=rd (b:=3) (by omega)
   rw [this] at r
   have e:slotAt (fmtSt (newSt n) g) g 1=(rootN,0):=by
    unfold slotAt
    rw [ep,if_neg (fun e=>e rfl)]
    show inoAt (rdB _ ((3:Nat):Int)) 1=_
    rw [r]
    exact root_back
   unfold rootOk
   rw [e]; exact decide_eq_true ⟨rfl,rfl⟩
 unfold mnt
 rw [hS,if_neg (fun e=>e rfl)]
 show (if mntOk (fmtSt (newSt n) g) g=true then _ else _)=_
 rw [if_pos hO]
end
def hsE (g:Gm):List Hd:=(List.range (gE g).gs.toNat).map fun j:Nat=>hBase (gE g) (j:Int)
theorem mnt_E (g:Gm):mnt (dE g)=(⟨1,gE g⟩,0):=by
 obtain ⟨h1,h2⟩:=gE_ok g
 obtain ⟨h3,h4⟩:=gE_sz g
 exact mnt_new h1 (by omega) (by omega)
theorem hds_E (g:Gm) (k:Nat):HdsAt ⟨⟨dE g,k,[]⟩,0,[]⟩ (gE g) (hsE g):=by
 obtain ⟨h1,h2⟩:=gE_ok g
 obtain ⟨h3,h4⟩:=gE_sz g
 exact hds_new h1 (by omega) k
end Go.Proofs.YtelhlihjihklbaaGreat
end
section
open Go Go.Den Go.Proofs
namespace Go.Proofs.YtelhlihjihklbaaGreat
abbrev Ab:=Int×Int×Bool
def abV (x:Ab):List Value:=[.int .i64 x.1,.int .i64 x.2.1,.bool x.2.2]
def rowB (L:List Ab):List Value:=(L.map abV).flatten
theorem abV_len (x:Ab):(abV x).length=3:=rfl
def abAt (L:List Ab) (i:Nat):Ab:=L.getD i (0,0,false)
def stepAb (A:Az) (x:Ab):Az:=if 0<=x.1/\x.1<=3 then (blockA A x.2.1).1 else if x.1=4\/x.1=5 then settleA (giveA A x.2.1 0).1 else if x.1=6 then (freezeA A x.2.1 x.2.2).1 else A
def openTo (A:Az) (acts:List Ab):Nat->Az
 | 0=>A
 | i+1=>stepAb (openTo A acts i) (abAt acts i)
def openA (g:Gm) (acts:List Ab) (k:Nat):Az:=openTo (aE g (hsE g) k) acts (min acts.length 80)
theorem blockA_s (A:Az) (b:Int):(blockA A b).1.s=A.s/\(blockA A b).1.V.last<=A.V.last+1/\(blockA A b).1.W=A.W/\(blockA A b).1.fz=A.fz:=by
 unfold blockA
 split
 ·exact ⟨rfl,setHV_last _ _ _ _,rfl,rfl⟩
 ·exact ⟨rfl,by simp only; omega,rfl,rfl⟩
theorem freezeA_s (A:Az) (k:Int) (on:Bool):(freezeA A k on).1.s=A.s/\(freezeA A k on).1.V=A.V/\(freezeA A k on).1.W=A.W:=by
 unfold freezeA
 split <;> exact ⟨rfl,rfl,rfl⟩
theorem giveA_W {A:Az} (h:A.W=[]) (b:Int):((giveA A b 0).1=A/\(giveA A b 0).2≠0)\/((giveA A b 0).1=wrkA A [(0,1,b)]/\(giveA A b 0).2=0/\(spB A.s.geo b).2.2=true/\takenA A b=true):=by
 unfold giveA laterA
 by_cases h1:(spB A.s.geo b).2.2=false
 ·rw [if_pos h1]; exact .inl ⟨rfl,by show (3:Int)≠0; decide⟩
 rw [if_neg h1,h]
 by_cases h2:takenA A b=true
 ·rw [h2]
  exact .inr ⟨rfl,rfl,by simpa using h1,rfl⟩
 ·have h2:takenA A b=false:=by simpa using h2
  rw [h2]; exact .inl ⟨rfl,by show (6:Int)≠0; decide⟩
theorem settle_give {A:Az} (h:A.W=[]) (b:Int):(settleA (giveA A b 0).1=A/\¬ ((spB A.s.geo b).2.2=true/\takenA A b=true))\/(settleA (giveA A b 0).1=actA (wrkA A []) (1,b)/\(spB A.s.geo b).2.2=true/\takenA A b=true):=by
 rcases giveA_W h b with ⟨e1,e2⟩ | ⟨e1,_,e3,e4⟩
 ·refine .inl ⟨?_,fun e=>e2 ?_⟩
  ·rw [e1]
   unfold settleA ripeA
   rw [h]
   show wrkA A []=A
   rw [<- h]; rfl
  ·unfold giveA laterA
   rw [if_neg (by rw [e.1]; decide),h,e.2]; rfl
 ·refine .inr ⟨?_,e3,e4⟩
  rw [e1]; rfl
theorem settle_s {A:Az} (h:A.W=[]) (b:Int):(settleA (giveA A b 0).1).s=A.s/\(settleA (giveA A b 0).1).V.last<=A.V.last+1/\(settleA (giveA A b 0).1).W=[]/\(settleA (giveA A b 0).1).fz=A.fz:=by
 rcases settle_give h b with ⟨e,_⟩ | ⟨e,_⟩
 ·rw [e]; exact ⟨rfl,by omega,h,rfl⟩
 ·rw [e]
  obtain ⟨h1,h2,h3,h4⟩:=actA_s (wrkA A []) (1,b)
  exact ⟨h1,h2,h3,h4⟩
theorem stepAb_s {A:Az} (h:A.W=[]) (x:Ab):(stepAb A x).s=A.s/\(stepAb A x).V.last<=A.V.last+1/\(stepAb A x).W=[]:=by
 unfold stepAb
 split
 ·obtain ⟨h1,h2,h3,_⟩:=blockA_s A x.2.1
  exact ⟨h1,h2,h3.trans h⟩
 split
 ·obtain ⟨h1,h2,h3,_⟩:=settle_s h x.2.1
  exact ⟨h1,h2,h3⟩
 split
 ·obtain ⟨h1,h2,h3⟩:=freezeA_s A x.2.1 x.2.2
  exact ⟨h1,by rw [h2]; omega,h3.trans h⟩
 ·exact ⟨rfl,by omega,h⟩
theorem openTo_s {A:Az} (h:A.W=[]) (acts:List Ab):∀ i,(openTo A acts i).s=A.s/\(openTo A acts i).V.last<=A.V.last+i/\(openTo A acts i).W=[]
 | 0=>⟨rfl,Nat.le_refl _,h⟩
 | i+1=>by
  obtain ⟨h1,h2,h3⟩:=openTo_s h acts i
  obtain ⟨k1,k2,k3⟩:=stepAb_s h3 (abAt acts i)
  exact ⟨k1.trans h1,by show (stepAb (openTo A acts i) (abAt acts i)).V.last<=_; omega,k3⟩
theorem elemN_abs:elemN Tryz.prog 41=some 3:=by kernel_rfl
section
variable {w w':World} {R R':Nat->Prop} {a v d:Nat} {A:Az} {K:Value->World->Prop}
theorem abRow {a1:Option Addr} {l1 c1 i:Nat} {acts:List Ab} (hr:Row w a1 (rowB acts)) (hl:acts.length=l1) (hi:i<l1) (h63:i<=1000):∃ q o,Al (Instr.indexAt 41 (.slice a1 l1 c1) (.int .i64 i)) (.pointer (some ⟨q,o,none⟩)) /\
  ∀ w',Mod No w w'->Ru (Instr.loadAt 3 (.pointer (some (Addr.add ⟨q,o,none⟩ 0)))) w' (.int .i64 (abAt acts i).1) w'/\Ru (Instr.loadAt 3 (.pointer (some (Addr.add ⟨q,o,none⟩ 1)))) w' (.int .i64 (abAt acts i).2.1) w'/\Ru (Instr.loadAt 4 (.pointer (some (Addr.add ⟨q,o,none⟩ 2)))) w' (.bool (abAt acts i).2.2) w':=by
 have hx:acts[i]?=some (abAt acts i):=by unfold abAt; rw [List.getD_eq_getElem?_getD,List.getElem?_eq_getElem (by omega)]; rfl
 have hlen:(rowB acts).length=acts.length*3:=flat_len' abV_len acts
 rcases hr with hr | ⟨b,o,rfl,hat⟩
 ·rw [hr] at hlen
  have hlen:0=acts.length*3:=hlen
  omega
 refine ⟨b,o+i*3,fun w'=>?_,fun w' m=>?_⟩
 ·have:=index_slice (P:=Tryz.prog) (T:=41) (k:=3) (a:=⟨b,o,none⟩) (n:=l1) (c:=c1) (kk:=.i64) (i:=i) elemN_abs (by omega) (by omega) w'
  rw [add_none,show o+(i:Int).toNat*3=o+i*3 by omega] at this
  exact this
 ·have hk:=hat.keep m id
  refine ⟨?_,?_,?_⟩
  ·rw [add_none,Nat.add_assoc]; exact hk.load (P:=Tryz.prog) (T:=3) (i:=i*3+0) sc_int (flat_cell abV_len hx rfl)
  ·rw [add_none,Nat.add_assoc]; exact hk.load (P:=Tryz.prog) (T:=3) (i:=i*3+1) sc_int (flat_cell abV_len hx rfl)
  ·rw [add_none,Nat.add_assoc]; exact hk.load (P:=Tryz.prog) (T:=4) (i:=i*3+2) sc_bl (flat_cell abV_len hx rfl)
set_option maxRecDepth 8000 in
set_option maxHeartbeats 1000000 in
theorem open31_c {g:Gm} {a1:Option Addr} {l1 c1:Nat} {acts:List Ab} (hr:Row w a1 (rowB acts)) (hl:acts.length=l1) (h63:∀ x∈acts,x.2.1<=9223372036854775807)
  (hk:∀ w' R a v d k,Mod No w w'->Ao R w' a v d (openA g acts k)->(∀ z,R z->w.heap.size<=z)->K (.pointer (some ⟨a,0,none⟩)) w') :
  Cal Tryz.prog F_leveelaw31_open #[.agg ⟨gV g⟩,.slice a1 l1 c1] w K:=by
 apply C_leveelaw31_open
 unfold D_leveelaw31_open
 obtain ⟨w1,b1,b2,b3,b4⟩:=box_u (P:=Tryz.prog) (w:=w) (T:=40) (cs:=gV g)
 obtain ⟨hok,h200⟩:=gE_ok g
 obtain ⟨hsz,h18⟩:=gE_sz g
 refine ⟨_,w1,b1,Share.cut (fun z w4=>Mod No w1 w4/\z=[.bool (decide (¬ (gOk g=true/\gSize g<=200)))]) ⟨_,b2.at.all agg_geo rfl,rgRight_c fun w2 m2=>⟨_,rfl,cond_of (fun h=>⟨m2,?_⟩) (fun h=>⟨_,(b2.keep m2 id).at.all agg_geo rfl,rgSize_c fun w3 m3=>⟨_,rfl,m2.no m3,?_⟩⟩)⟩⟩ ?_⟩
 ·rw [decide_eq_true (show ¬ (gOk g=true/\gSize g<=200) from fun e=>by rw [e.1] at h; cases h)]
 ·have h:gOk g=true:=by simpa using h
  congr 2
  exact decide_eq_decide.2 ⟨fun e x=>by omega,fun e=>by
   have:¬ gSize g<=200:=fun x=>e ⟨h,x⟩
   omega⟩
 rintro z w4 ⟨m4,rfl⟩
 refine ⟨_,rfl,Share.cut (fun z w6=>Mod No w w6/\AtU w6 w.heap.size 0 (gV (gE g))) ?_ ?_⟩
 ·refine cond_of (fun h=>⟨_,build_g16,?_⟩) (fun h=>?_)
  ·have h:=of_decide_eq_true h
   have e:gE g=gKn:=by unfold gE; rw [if_neg h]
   obtain ⟨w5,c1,c2,c3,c4⟩:=(b2.keep m4 id).put (T:=40) (vs:=gV gKn) agg_geo rfl rfl (one_gV _)
   rw [e]
   exact ⟨w5,c1,(b3.no m4).own c3 (Nat.le_refl _),c2⟩
  ·have h:=Classical.not_not.1 (of_decide_eq_false h)
   have e:gE g=g:=by unfold gE; rw [if_pos h]
   rw [e]
   exact ⟨b3.no m4,b2.keep m4 id⟩
 rintro z w6 ⟨m6,q6⟩
 refine ⟨_,q6.at.all agg_geo rfl,rgSize_c fun w7 m7=>⟨_,rfl,?_⟩⟩
 have hz6:=m6.size
 have hz7:=m7.size
 have hql:=q6.lt
 refine New_c (by omega) (by omega) (fun h=>by omega) fun k hk' _ _ w8 d sb mb m8 hD=>⟨_,_,rfl,_,((q6.keep m7 id).keep m8 id).at.all agg_geo rfl,?_⟩
 have hkn:(gSize (gE g)).toNat=k:=by omega
 have hz8:=m8.size
 have q8:=(q6.keep m7 id).keep m8 id
 have hfE:fmtE (newSt k) (gE g)=0:=by
  unfold fmtE
  rw [if_neg (by rw [hok]; decide),if_neg (by simp [newSt]; omega)]
 have eD:dE g=fmtSt (newSt k) (gE g):=by unfold dE; rw [hkn]
 have hlen:(dE g).vs.length=k:=by rw [eD,fmtSt_len]; simp [newSt]
 have hrun:(dE g).left=-1:=by rw [eD]; exact fmtSt_run rfl _
 have hbnd:Bnd (dE g) 1:=by rw [eD]; exact fmtSt_bnd rfl _
 refine vFormat_c (g:=gE g) hD rfl (bndN k) (fun h=>absurd hfE h) fun _ wa Na w11 ma Xa=>⟨_,rfl,?_⟩
 rw [<- eD] at Xa
 have hza:=ma.size
 have hXs:=Xa.mod.size
 obtain ⟨Ra,sba,mba,sca,La,a1',a2',a3',a4'⟩:=Xa
 have hRa:∀ x,Ra x->w7.heap.size<=x/\x<w11.heap.size:=fun x hx=>by
  have:=(a2' x hx).2
  rcases (a2' x hx).1 with e | e
  ·have e:w7.heap.size<=x/\x<w8.heap.size:=e
   omega
  ·omega
 have M8:Mod No w w8:=(m6.no m7).no m8
 have M11:Mod No w w11:=(M8.no ma).trans a3' fun x hx e=>by have e:w7.heap.size<=x/\x<w8.heap.size:=e; omega
 have hsm:Small (dE g):=BndS hbnd (by omega)
 have hdR:=a1'.rb
 have hm:=mnt_E g
 refine vMount_c (w0:=w) a1' hsm (fun x hx=>⟨by have:=hRa x hx; omega,a1'.lt x hx⟩) M11 hrun (fun h=>absurd (by rw [hm]) h) fun _ w13 N13 v X13=>⟨_,_,rfl,?_⟩
 rw [hm] at X13
 have X13:Vg w11 Ra N13 w13 v d ⟨1,gE g⟩ (dE g) (nE g):=X13
 have hz13:=X13.mod.size
 have M13:Mod No w w13:=M11.trans X13.mod fun x hx e=>by have:=hRa x e; omega
 refine ff rfl ?_
 obtain ⟨Rv,kc,hV,hlo⟩:=X13.vu
 refine aNew_c hV (hds_E g kc) fun w16 R16 a m16 s16 h16 ha=>⟨_,rfl,?_⟩
 have hlo16:∀ z,R16 z->w.heap.size<=z:=fun z hz=>by
  have hda:=hRa d hdR
  rcases s16 z hz with e | e
  ·rcases hlo z e with e | e | e
   ·have:=hRa z e; omega
   ·omega
   ·omega
  ·omega
 have M16:=M13.no m16
 have h16:Ao R16 w16 a v d (openTo (aE g (hsE g) kc) acts 0):=h16
 refine ⟨fun x W=>∃ (i:Nat) (y1 y2 y3:Value) (R':Nat->Prop),x=[.int .i64 i,y1,y2,y3]/\i<=min acts.length 80/\Ao R' W a v d (openTo (aE g (hsE g) kc) acts i)/\(∀ z,R' z->w.heap.size<=z)/\Mod No w W,fun x _=>(80-nI x 0).toNat,
  ⟨0,_,_,_,R16,rfl,Nat.zero_le _,h16,hlo16,M16⟩,?_⟩
 rintro x W ⟨i,y1,y2,y3,R',rfl,hi,h1,lo1,m1⟩
 refine Share.cut (fun z w13=>w13=W/\z=[.bool (decide (i<min acts.length 80))]) ⟨_,rfl,cond_of (fun hb=>⟨rfl,?_⟩) (fun hb=>⟨rfl,?_⟩)⟩ ?_
 ·have hb:=of_decide_eq_true hb
  congr 2
  exact decide_eq_decide.2 ⟨fun e=>by omega,fun e=>by omega⟩
 ·have hb:=of_decide_eq_false hb
  rw [decide_eq_false (show ¬ i<min acts.length 80 by omega)]
 rintro z w13 ⟨rfl,rfl⟩
 refine ⟨_,rfl,cond_of (fun hlt=>?_) (fun hlt=>?_)⟩
 ·have hlt:=of_decide_eq_true hlt
  obtain ⟨q,o,ix,ld⟩:=abRow (i:=i) (c1:=c1) hr hl (by omega) (by omega)
  have hin:abAt acts i∈acts:=by
   have:acts[i]?=some (abAt acts i):=by unfold abAt; rw [List.getD_eq_getElem?_getD,List.getElem?_eq_getElem (by omega)]; rfl
   exact List.mem_of_getElem? this
  have hb63:=h63 _ hin
  obtain ⟨s1,s2,s3⟩:=openTo_s (A:=aE g (hsE g) kc) rfl acts i
  have s2:(openTo (aE g (hsE g) kc) acts i).V.last<=0+i:=s2
  have eT:openTo (aE g (hsE g) kc) acts (i+1)=stepAb (openTo (aE g (hsE g) kc) acts i) (abAt acts i):=rfl
  generalize abAt acts i=y at *
  generalize openTo (aE g (hsE g) kc) acts i=A1 at *
  refine ⟨_,rfl,_,ix,_,(ld _ m1).1,Share.cut (fun z w16=>w16=w13/\z=[.bool (decide (0<=y.1/\y.1<=3))]) ?_ ?_⟩
  ·refine cond_of (fun e=>⟨rfl,?_⟩) (fun e=>Share.cut (fun z w16=>w16=w13/\z=[.bool (decide (0<=y.1/\y.1<=3))]) (cond_of (fun e2=>⟨rfl,?_⟩) (fun e2=>Share.cut (fun z w16=>w16=w13/\z=[.bool (decide (0<=y.1/\y.1<=3))]) (cond_of (fun e3=>⟨rfl,?_⟩) (fun e3=>⟨rfl,?_⟩)) ?_)) ?_)
   ·have e':y.1=0:=by simpa using e
    rw [e,decide_eq_true (show 0<=y.1/\y.1<=3 by omega)]
   ·have e':y.1=1:=by simpa using e2
    rw [e2,decide_eq_true (show 0<=y.1/\y.1<=3 by omega)]
   ·have e':y.1=2:=by simpa using e3
    rw [e3,decide_eq_true (show 0<=y.1/\y.1<=3 by omega)]
   ·have e:¬ y.1=0:=by simpa using e
    have e2:¬ y.1=1:=by simpa using e2
    have e3:¬ y.1=2:=by simpa using e3
    congr 2
    rw [Bool.eq_iff_iff,beq_iff_eq,decide_eq_true_iff]; omega
   ·rintro z w16 ⟨rfl,rfl⟩; exact ⟨rfl,rfl⟩
   ·rintro z w16 ⟨rfl,rfl⟩; exact ⟨rfl,rfl⟩
  rintro z w16 ⟨rfl,rfl⟩
  have base:∀ {w17:World} {R17:Nat->Prop},Mod R' w16 w17->Sb R' R17 w16->(∀ z,R17 z->w.heap.size<=z)/\Mod No w w17:=fun m s=>⟨fun z hz=>by
   rcases s z hz with e | e
   ·exact lo1 z e
   ·have:=m1.size; omega,m1.trans m fun x hx e=>by have:=lo1 x e; omega⟩
  refine ⟨_,rfl,Share.cut (fun z w24=>∃ (y4:Value) (R':Nat->Prop),z=[y4]/\Ao R' w24 a v d (stepAb A1 y)/\(∀ z,R' z->w.heap.size<=z)/\Mod No w w24) ?_ ?_⟩
  ·refine cond_of (fun hc=>⟨_,ix,_,(ld _ m1).2.1,?_⟩) (fun hc=>?_)
   ·have eS:stepAb A1 y=(blockA A1 y.2.1).1:=by unfold stepAb; rw [if_pos (of_decide_eq_true hc)]
    rw [eS]
    refine aBlock_c hb63 h1 (by omega) fun w17 R17 m17 s17 h17=>⟨_,_,_,rfl,?_⟩
    obtain ⟨k1,k2⟩:=base m17 s17
    exact ⟨_,R17,rfl,h17,k1,k2⟩
   have hc:=of_decide_eq_false hc
   refine Share.cut (fun z w18=>w18=w16/\z=[.bool (decide (y.1=4\/y.1=5))]) (cond_of (fun e=>⟨rfl,?_⟩) (fun e=>⟨rfl,?_⟩)) ?_
   ·have e':y.1=4:=by simpa using e
    rw [e,decide_eq_true (Or.inl e')]
   ·have e':¬ y.1=4:=by simpa using e
    congr 2
    rw [Bool.eq_iff_iff,beq_iff_eq,decide_eq_true_iff]; omega
   rintro z w18 ⟨rfl,rfl⟩
   refine ⟨_,rfl,Share.cut (fun z w23=>z=[]/\∃ (R':Nat->Prop),Ao R' w23 a v d (stepAb A1 y)/\(∀ z,R' z->w.heap.size<=z)/\Mod No w w23) (cond_of (fun he=>⟨_,ix,_,(ld _ m1).2.1,?_⟩) (fun he=>?_)) ?_⟩
   ·have he:=of_decide_eq_true he
    have eS:stepAb A1 y=settleA (giveA A1 y.2.1 0).1:=by unfold stepAb; rw [if_neg hc,if_pos he]
    rw [eS]
    refine aFreeB_c hb63 h1 (by rw [s3]; decide) fun w19 R19 m19 s19 h19=>⟨_,rfl,?_⟩
    have hWl:(giveA A1 y.2.1 0).1.W.length<=1/\(∀ x∈(giveA A1 y.2.1 0).1.W,x.2.2<=9223372036854775807)/\(giveA A1 y.2.1 0).1.V.last=A1.V.last:=by
     rcases giveA_W s3 y.2.1 with ⟨e1,_⟩ | ⟨e1,_⟩
     ·rw [e1,s3]; exact ⟨by decide,(fun x hx=>by cases hx),rfl⟩
     ·rw [e1]
      refine ⟨Nat.le_refl _,fun x hx=>?_,rfl⟩
      have:x=(0,1,y.2.1):=by simpa [wrkA] using hx
      rw [this]; exact hb63
    refine aSettle_c h19 (by omega) hWl.2.1 (by omega) fun w20 R20 m20 s20 h20=>⟨_,rfl,rfl,R20,h20,?_⟩
    exact base (Mod.sb m19 s19 m20) (s19.trans s20 m19.size)
   ·have he:=of_decide_eq_false he
    refine Share.cut (fun z w23=>z=[]/\∃ (R':Nat->Prop),Ao R' w23 a v d (stepAb A1 y)/\(∀ z,R' z->w.heap.size<=z)/\Mod No w w23) (cond_of (fun hf=>⟨_,ix,_,(ld _ m1.drew).2.1,_,ix,_,(ld _ m1.drew).2.2,?_⟩) (fun hf=>?_)) ?_
    ·have hf:y.1=6:=by simpa using hf
     have eS:stepAb A1 y=(freezeA A1 y.2.1 y.2.2).1:=by unfold stepAb; rw [if_neg hc,if_neg he,if_pos hf]
     rw [eS]
     refine aFreeze_c (h1.nos (Mod.refl _ _).drew) fun w21 R21 m21 s21 h21=>⟨_,rfl,rfl,R21,h21,?_⟩
     exact base ((((Mod.refl No w18).drew).mono fun _ _ e=>e.elim).trans m21 fun x _ e=>e) s21
    ·have hf:¬ y.1=6:=by simpa using hf
     have eS:stepAb A1 y=A1:=by unfold stepAb; rw [if_neg hc,if_neg he,if_neg hf]
     rw [eS]
     exact ⟨rfl,R',h1,lo1,m1⟩
    ·rintro z w22 ⟨rfl,hz⟩
     exact ⟨rfl,hz⟩
   ·rintro z w23 ⟨rfl,R'',k1,k2,k3⟩
    exact ⟨_,R'',rfl,k1,k2,k3⟩
  ·rintro z w24 ⟨y4,R'',rfl,k1,k2,k3⟩
   rw [wrap64 (x:=(i:Int)+1) (by omega) (by omega)]
   exact ⟨⟨i+1,_,_,_,R'',rfl,by omega,by rw [eT]; exact k1,k2,k3⟩,by simp [nI,nth]; omega⟩
 ·have hlt:=of_decide_eq_false hlt
  have:i=min acts.length 80:=by omega
  subst this
  exact hk w13 R' a v d kc m1 h1 lo1
end
end Go.Proofs.YtelhlihjihklbaaGreat
end
section
open Go Go.Den Go.Proofs
namespace Go.Proofs.YtelhlihjihklbaaGreat
def gK1:Gm:=⟨16,8,1⟩
def fF:Int->Bool:=fun _=>false
def hJ0:List Hd:=[hBase gK1 0]
def hJ1:List Hd:=hJ0.set 0 (useX true gK1 (hJ0.getD 0 hZ) 9 true).1
def bJ (hs:List Hd):Az:=⟨⟨1,gK1⟩,⟨⟨newSt 0,0,[]⟩,0,[]⟩,[],0,hs,fF⟩
theorem gE_1:gE gK1=gK1:=by decide
theorem hsE_1:hsE gK1=hJ0:=by unfold hsE; rw [gE_1]; rfl
theorem allJ0:allA (bJ hJ0)=[(5,13)]:=by decide +kernel
theorem allJ1:allA (bJ hJ1)=[(5,6),(12,6)]:=by decide +kernel
theorem scJ0:scoreL [(5,13)]=0:=by decide +kernel
theorem scJ1:scoreL [(5,6),(12,6)]=500:=by decide +kernel
theorem tkJ:takeTo gK1 hJ0 fF (findX true gK1) (spB gK1 10).1 (spB gK1 10).2.1 (spB gK1 10).2.2 gK1.gs.toNat=some (0,9):=by decide +kernel
theorem allJ {s:Sp} (e:s.geo=gK1) (V:Ps) (W:List Wt) (nx:Int) (hs:List Hd):allA ⟨s,V,W,nx,hs,fF⟩=allA (bJ hs) :=
 allA_congr (A:=bJ hs) e rfl (by show gOk gK1=true; decide) fun k j _ _ _=>by unfold takenA; rw [show (⟨s,V,W,nx,hs,fF⟩:Az).s.geo=(bJ hs).s.geo from e]; rfl
theorem build_g1 (w:World):(Instr.build 40 #[(0,.int .i64 16),(1,.int .i64 8),(2,.int .i64 1)]).run Tryz.prog w=.ok (.agg ⟨gV gK1⟩) w:=by kernel_rfl
section
variable {w:World} {K:Value->World->Prop}
set_option maxRecDepth 8000 in
theorem known31_c (hk:∀ w',Mod No w w'->K (.bool true) w'):Cal Tryz.prog F_leveelaw31_known #[] w K:=by
 apply C_leveelaw31_known
 unfold D_leveelaw31_known
 refine ⟨_,build_g1,open31_c (acts:=[]) (.inl rfl) rfl (fun x hx=>by cases hx) fun w1 R a v d k m1 h1 hlo=>⟨_,rfl,ff rfl ?_⟩⟩
 have eA:openA gK1 [] k=⟨⟨1,gK1⟩,⟨⟨dE gK1,k,[]⟩,0,[]⟩,[],nE gK1,hJ0,fF⟩:=by
  show aE gK1 (hsE gK1) k=_
  unfold aE
  rw [hsE_1,gE_1]; rfl
 rw [eA] at h1
 generalize nE gK1=nx at h1
 generalize dE gK1=D at h1
 have base:∀ {w2:World} {R2:Nat->Prop} {w3:World},Mod No w w2->Mod R2 w2 w3->(∀ z,R2 z->w.heap.size<=z)->Mod No w w3:=fun h1 h2 h3=>h1.trans h2 fun x hx e=>by have:=h3 x e; omega
 have up:∀ {R2 R3:Nat->Prop} {w2:World},Sb R2 R3 w2->w.heap.size<=w2.heap.size->(∀ z,R2 z->w.heap.size<=z)->∀ z,R3 z->w.heap.size<=z:=fun h1 h2 h3 z hz=>by
  rcases h1 z hz with e | e
  ·exact h3 z e
  ·omega
 have a0:allA ⟨⟨1,gK1⟩,⟨⟨D,k,[]⟩,0,[]⟩,[],nx,hJ0,fF⟩=[(5,13)]:=(allJ rfl _ _ _ _).trans allJ0
 refine planAll_c h1 fun w2 R2 p2 c2 m2 s2 h2 o2=>⟨_,_,_,rfl,score_c h2 fun w3 R3 m3 s3 h3=>⟨_,rfl,?_⟩⟩
 rw [a0] at o2 |-
 rw [scJ0]
 have M2:=base m1 m2 hlo
 have L2:=up s2 m1.size hlo
 have M3:=base M2 m3 L2
 have L3:=up s3 M2.size L2
 refine aBlock_c (by omega) h3 (by show 0+1<=1000000; omega) fun w4 R4 m4 s4 h4=>⟨_,_,_,rfl,?_⟩
 have e4:blockA ⟨⟨1,gK1⟩,⟨⟨D,k,[]⟩,0,[]⟩,[],nx,hJ0,fF⟩ 10=(sethA ⟨⟨1,gK1⟩,⟨⟨D,k,[]⟩,0,[]⟩,[],nx,hJ0,fF⟩ 0 (useX true gK1 (hJ0.getD 0 hZ) 9 true).1,11,1,0):=by
  unfold blockA
  rw [tkJ]; rfl
 rw [e4] at h4
 have M4:=base M3 m4 L3
 have L4:=up s4 M3.size L3
 obtain ⟨V4,hV4⟩:∃ V4,sethA ⟨⟨1,gK1⟩,⟨⟨D,k,[]⟩,0,[]⟩,[],nx,hJ0,fF⟩ 0 (useX true gK1 (hJ0.getD 0 hZ) 9 true).1=⟨⟨1,gK1⟩,V4,[],nx,hJ1,fF⟩:=⟨_,rfl⟩
 rw [hV4] at h4
 have a1:allA ⟨⟨1,gK1⟩,V4,[],nx,hJ1,fF⟩=[(5,6),(12,6)]:=(allJ rfl _ _ _ _).trans allJ1
 refine planAll_c h4 fun w5 R5 p5 c5 m5 s5 h5 o5=>⟨_,_,_,rfl,?_⟩
 rw [a1] at o5 |-
 have M5:=base M4 m5 L4
 have L5:=up s5 M4.size L4
 have n2:∀ q,p2=some q->¬ R2 q.block/\w1.heap.size<=q.block/\q.block<w2.heap.size:=fun q hq=>⟨o2.nr q hq,(o2.ow.base hq).1,(o2.ow.base hq).2⟩
 have z2:=m2.size
 have z3:=m3.size
 have z4:=m4.size
 have hx3:=o2.ow.keep m3 fun q hq=>(n2 q hq).1
 have n3:∀ q,p2=some q->¬ R3 q.block:=fun q hq e=>by
  have:=n2 q hq
  rcases s3 _ e with e | e
  ·exact this.1 e
  ·omega
 have n4:∀ q,p2=some q->¬ R4 q.block:=fun q hq e=>by
  have:=n2 q hq
  rcases s4 _ e with e | e
  ·exact n3 q hq e
  ·omega
 have hx5:=(hx3.keep m4 n3).keep m5 n4
 obtain ⟨g,rfl,_,hat,ix,_,ld1,ld2⟩:=runAt (i:=0) (x:=(5,13)) hx5 rfl
 obtain ⟨g',hg',_,hat',ix',_,_,ld4⟩:=runAt (i:=0) (x:=(5,6)) o5.ow rfl
 obtain ⟨g'',hg'',_,_,ix'',_,ld5,ld6⟩:=runAt (i:=1) (x:=(12,6)) o5.ow rfl
 subst hg'
 cases hg''
 refine Share.dup (tt rfl ⟨_,ix,_,ld1 _ hat.at,tt rfl ⟨_,ix,_,ld2 _ hat.at,tt rfl (tt rfl (tt rfl ⟨_,ix',_,ld4 _ hat'.at,tt rfl ⟨_,ix'',_,ld5 _ hat'.at,tt rfl ⟨_,ix'',_,ld6 _ hat'.at,tt rfl ?_⟩⟩⟩))⟩⟩)
 refine score_c h5 fun w6 R6 m6 s6 h6=>⟨_,rfl,_,rfl,?_⟩
 rw [a1,scJ1]
 exact hk w6 (base M5 m6 L5)
end
end Go.Proofs.YtelhlihjihklbaaGreat
end
section
open Go Go.Den Go.Proofs
namespace Go.Proofs.YtelhlihjihklbaaGreat
def frV (x:Fr):List Value:=[.int .i64 x.1,.bool x.2.1,.bool x.2.2]
theorem frV_len (x:Fr):(frV x).length=3:=rfl
theorem frV_one (x:Fr):∀ v∈frV x,v.oneCell'=true:=by intro v hv; simp [frV] at hv; rcases hv with rfl | rfl | rfl <;> rfl
def rowF (L:List Fr):List Value:=(L.map frV).flatten
theorem rowF_app (L M:List Fr):rowF (L++M)=rowF L++rowF M:=by simp [rowF]
theorem rowF_one (L:List Fr):∀ v∈rowF L,v.oneCell'=true:=flat_one frV_one L
theorem rowF_len (L:List Fr):(rowF L).length=L.length*3:=flat_len' frV_len L
theorem elemG_fr:elemG Tryz.prog 54 3 16:=elemG_of (by kernel_rfl)
theorem elemN_fr:elemN Tryz.prog 54=some 3:=by kernel_rfl
theorem elemG_rr:elemG Tryz.prog 43 2 16:=elemG_of (by kernel_rfl)
theorem elemN_rr:elemN Tryz.prog 43=some 2:=by kernel_rfl
theorem agg_rr:aggN Tryz.prog 49=some 2:=by kernel_rfl
theorem zero_rr:zeroC Tryz.prog 49=some (acV (0,0)):=by kernel_rfl
theorem build_rr0:Al (Instr.build 49 #[]) (.agg ⟨acV (0,0)⟩):=fun w=>by kernel_rfl
theorem build_rr (x y:Int):Al (Instr.build 49 #[(0,.int .i64 x),(1,.int .i64 y)]) (.agg ⟨acV (x,y)⟩):=fun w=>by kernel_rfl
theorem built_rr (w:World) (x:Int×Int):(Instr.buildSlice 43 1 #[(0,.agg ⟨acV x⟩)]).run Tryz.prog w=.ok (.slice (some ⟨w.heap.size,0,none⟩) 1 1) (w.alloc (.cells ⟨acV x⟩ 49)):=by kernel_rfl
theorem build_fr (x:Int) (y z:Bool):Al (Instr.build 147 #[(0,.int .i64 x),(1,.bool y),(2,.bool z)]) (.agg ⟨frV (x,y,z)⟩):=fun w=>by kernel_rfl
theorem built_fr (w:World) (x:Fr):(Instr.buildSlice 54 1 #[(0,.agg ⟨frV x⟩)]).run Tryz.prog w=.ok (.slice (some ⟨w.heap.size,0,none⟩) 1 1) (w.alloc (.cells ⟨frV x⟩ 147)):=by kernel_rfl
theorem two_rr:two Tryz.prog 49=true:=by kernel_rfl
theorem und_rr:Tryz.prog.underlying 49=some (.struct (Tryz.prog.fieldsOf 49)):=by kernel_rfl
theorem std_rr:Tryz.prog.stoodInHeld 49=false:=by kernel_rfl
theorem grd_rr:Tryz.prog.eqGuardType Tryz.prog.depth 49=false:=by kernel_rfl
theorem sameA_iff {x y:Int×Int}:sameA x y=true↔x=y:=by
 unfold sameA
 rw [Bool.and_eq_true,beq_iff_eq,beq_iff_eq]
 exact ⟨fun e=>Prod.ext e.1 e.2,fun e=>by subst e; exact ⟨rfl,rfl⟩⟩
theorem rfRuns_ok (F:List Fr):∀ i,(rfRuns F i).length<=i/\(0<i->(fAt F (i-1)).2.1=true->0<(rfRuns F i).length)/\∀ x∈rfRuns F i,1<=x.2/\x.2<=i
 | 0=>⟨Nat.le_refl _,fun h=>by omega,fun x hx=>by cases hx⟩
 | i+1=>by
  obtain ⟨h1,h2,h3⟩:=rfRuns_ok F i
  have e:rfRuns F (i+1)=if (fAt F i).2.1=false then rfRuns F i else if 0<i/\(fAt F (i-1)).2.1=true/\(fAt F i).2.2=false then incL (rfRuns F i) else rfRuns F i++[((fAt F i).1,1)]:=rfl
  rw [e,Nat.add_sub_cancel]
  split
  ·rename_i h
   exact ⟨by omega,(fun _ e=>by rw [h] at e; cases e),fun x hx=>by have:=h3 x hx; omega⟩
  split
  ·rename_i h4
   refine ⟨by rw [incL_len]; omega,fun _ _=>by rw [incL_len]; exact h2 h4.1 h4.2.1,fun x hx=>?_⟩
   obtain ⟨m,y,e⟩:=snoc_of (h2 h4.1 h4.2.1)
   rw [e,incL_snoc] at hx
   rw [e] at h3
   rcases List.mem_append.1 hx with hx | hx
   ·have:=h3 x (List.mem_append_left _ hx); omega
   ·have hx:x=(y.1,y.2+1):=by simpa using hx
    have:=h3 y (by simp)
    subst hx; simp only; omega
  ·refine ⟨by simp; omega,fun _ _=>by simp,fun x hx=>?_⟩
   rcases List.mem_append.1 hx with hx | hx
   ·have:=h3 x hx; omega
   ·have hx:x=((fAt F i).1,1):=by simpa using hx
    subst hx; simp only; omega
section
variable {w w':World} {R R':Nat->Prop} {a v d:Nat} {A:Az} {K:Value->World->Prop}
theorem rgRange_c {g:Gm} {k:Int} (hk:∀ w',Mod No w w'->K (.tuple #[.int .i64 (gRange g k).1,.int .i64 (gRange g k).2]) w'):Cal Tryz.prog F_leveeref03_Range #[.agg ⟨gV g⟩,.int .i64 k] w K:=by
 apply C_leveeref03_Range
 unfold D_leveeref03_Range
 obtain ⟨w1,b1,b2,b3,b4⟩:=box_u (P:=Tryz.prog) (w:=w) (T:=40) (cs:=gV g)
 refine ⟨_,w1,b1,Share.cut (fun z w3=>z=[.bool (decide ((gHead g k).2≠0))]/\Mod No w1 w3) ⟨_,b2.at.all agg_geo rfl,rgRight_c fun w2 m2=>⟨_,rfl,cond_of (fun h=>⟨?_,m2⟩) (fun h=>cond_of (fun h1=>⟨?_,m2⟩) (fun h1=>⟨_,(b2.keep m2 id).at.fld (v:=.int .i64 g.gs) sc_int rfl,?_,m2⟩))⟩⟩ ?_⟩
 ·have h:¬ gOk g=true:=by simpa using h
  have e:gHead g k=(0,1):=by unfold gHead; rw [if_neg h]
  rw [e]; rfl
 ·have h:gOk g=true:=by simpa using h
  have h1:=of_decide_eq_true h1
  have e:gHead g k=(0,3):=by unfold gHead; rw [if_pos h,if_neg (by omega)]
  rw [e]; rfl
 ·have h:gOk g=true:=by simpa using h
  have h1:=of_decide_eq_false h1
  by_cases h2:k<g.gs
  ·have e:gHead g k=(2+k*g.gr,0):=by unfold gHead; rw [if_pos h,if_pos ⟨by omega,h2⟩]
   rw [e,decide_eq_false (by omega)]; rfl
  ·have e:gHead g k=(0,3):=by unfold gHead; rw [if_pos h,if_neg (by omega)]
   rw [e,decide_eq_true (by omega)]; rfl
 rintro z w3 ⟨rfl,m3⟩
 refine ⟨_,rfl,cond_of (fun h=>?_) (fun h=>?_)⟩
 ·have h:=of_decide_eq_true h
  have e:gRange g k=(0,0):=by unfold gRange; rw [if_pos h]
  rw [e] at hk
  exact hk w3 (b3.no m3)
 ·have h:=Classical.not_not.1 (of_decide_eq_false h)
  obtain ⟨hg,k0,k1,_⟩:=gHead_ok h
  obtain ⟨j,rfl⟩:=Int.eq_ofNat_of_zero_le k0
  have e:=gRange_at hg k1
  obtain ⟨g1,g2,g3,g4,g5,g6,_⟩:=gOk_iff.1 hg
  have hp:=prodB (a:=(j:Int)) (b:=g.gr) (m:=16) (n:=128) (by omega) (by omega) (by omega) (by omega)
  have hm:((j:Int)+1)*g.gr=j*g.gr+g.gr:=by rw [Int.add_mul,Int.one_mul]
  rw [e] at hk
  have ht:=gTabs_eq hg
  have q:=(b2.keep m3 id).drew
  refine ⟨_,q.at.fld (v:=.int .i64 g.gr) sc_int rfl,_,q.at.fld (v:=.int .i64 g.no) sc_int rfl,_,q.at.fld (v:=.int .i64 g.gr) sc_int rfl,?_⟩
  rw [Int.tdiv_eq_ediv_of_nonneg (show 0<=g.no by omega),<- ht]
  rw [wrap64 (x:=(j:Int)*g.gr) (by omega) (by omega),wrap64 (x:=(j:Int)+1) (by omega) (by omega),hm,wrap64 (x:=2+(j:Int)*g.gr) (by omega) (by omega),wrap64 (x:=2+(j:Int)*g.gr+1) (by omega) (by omega),
   wrap64 (x:=gTabs g) (by omega) (by omega),wrap64 (x:=2+(j:Int)*g.gr+1+gTabs g) (by omega) (by omega),wrap64 (x:=(j:Int)*g.gr+g.gr) (by omega) (by omega),wrap64 (x:=2+((j:Int)*g.gr+g.gr)) (by omega) (by omega),<- Int.add_assoc 2]
  exact hk _ (b3.no m3).drew
set_option maxRecDepth 4000 in
theorem lFree_c {k:Int} (h:Ao R w a v d A) (hk:∀ w' R' p c,Mod R w w'->Sb R R' w->Ao R' w' a v d A->Ow Tryz.prog w' w.heap.size 54 3 p (freeR A k).length c (rowF (freeR A k))->(∀ q,p=some q->¬ R' q.block)->K (.slice p (freeR A k).length c) w') :
  Cal Tryz.prog F_leveelaw31_free #[.pointer (some ⟨a,0,none⟩),.int .i64 k] w K:=by
 apply C_leveelaw31_free
 unfold D_leveelaw31_free
 have hda:=h.dlt
 refine aVol_c h ⟨_,rfl,aGeo_c h fun w2 m2=>⟨_,rfl,rgRange_c fun w3 m3=>⟨_,_,rfl,?_⟩⟩⟩
 have hb:=gRange_b (g:=A.s.geo) (k:=k)
 have hn:(gRange A.s.geo k).2=(gRange A.s.geo k).1+(cntG A.s.geo k:Int):=by unfold cntG; omega
 have eR:freeR A k=rfFree A (gRange A.s.geo k).1 (cntG A.s.geo k):=rfl
 rw [eR] at hk
 rw [hn]
 have hb2:(cntG A.s.geo k:Int)<=128:=by omega
 generalize cntG A.s.geo k=n at *
 generalize (gRange A.s.geo k).1=f at *
 have m23:=m2.no m3
 refine ⟨fun x W=>∃ (i c:Nat) (p:Option Addr) (R':Nat->Prop),x=[.slice p (rfFree A f i).length c,.int .i64 (f+i)]/\i<=n/\Ao R' W a v d A/\Sb R R' w/\Mod R w W/\Ow Tryz.prog W w.heap.size 54 3 p (rfFree A f i).length c (rowF (rfFree A f i))/\(∀ q,p=some q->¬ R' q.block),fun x _=>(f+n-nI x 1).toNat,
  ⟨0,0,none,R,by rw [show f+((0:Nat):Int)=f by omega]; rfl,Nat.zero_le _,h.nos m23,Sb.refl _ _,m23.mono (fun _ _ e=>e.elim),Ow.nilG elemG_fr,fun _ e=>by cases e⟩,?_⟩
 rintro x W ⟨i,c,p,R',rfl,hi,h1,s1,m1,o1,hp⟩
 refine ⟨_,rfl,cond_of (fun hlt=>⟨_,_,_,rfl,?_⟩) (fun hlt=>?_)⟩
 ·have hlt:=of_decide_eq_true hlt
  have zW:=m1.size
  have hl:=rfFree_len A f i
  have e1:rfFree A f (i+1)=rfFree A f i++[(f+(i:Int),!takenA A (f+i),decide (i=0))]:=rfl
  refine aTaken_c (by omega) h1 fun w5 R5 m5 s5 h5=>⟨_,rfl,?_⟩
  have o5:=o1.keep m5 fun q hq=>hp q hq
  have hp5:∀ q,p=some q->¬ R5 q.block:=fun q hq e=>by
   rcases s5 _ e with e | e
   ·exact hp q hq e
   ·have:=(o1.base hq).2; omega
  have z5:=m5.size
  have hbe:(f+(i:Int)==f)=decide (i=0):=by
   rw [Bool.eq_iff_iff,beq_iff_eq,decide_eq_true_iff]; omega
  rw [hbe]
  obtain ⟨q,c',w8,run,o8,m8,hq⟩:=snocG (T:=54) (Te:=147) (ys:=frV (f+(i:Int),!takenA A (f+i),decide (i=0))) elemG_fr (by omega) o5 rfl (frV_one _) (by omega) (by omega) (by omega)
  refine ⟨_,build_fr _ _ _,_,_,_,_,built_fr _ _,_,_,_,w8,run,?_⟩
  rw [wrap64 (x:=f+(i:Int)+1) (by omega) (by omega)]
  refine ⟨⟨i+1,c',some q,R5,?_,by omega,?_,s1.trans s5 zW,?_,?_,fun q' hq'=>?_⟩,by simp [nI,nth]; omega⟩
  ·rw [e1,List.length_append,show f+((i+1:Nat):Int)=f+(i:Int)+1 by omega]; rfl
  ·refine h5.keep m8 (fun z hz e=>?_) fun z e=>?_
   ·obtain ⟨q',hq',rfl⟩:=e
    exact hp5 q' hq' hz
   ·obtain ⟨q',hq',rfl⟩:=e
    have:=(o5.base hq').1; omega
  ·refine (Mod.sb m1 s1 m5).trans m8 fun z hz e=>?_
   obtain ⟨q',hq',rfl⟩:=e
   have:=(o5.base hq').1; omega
  ·rw [e1,List.length_append,rowF_app]; exact o8
  ·cases hq'
   rcases hq with ⟨q',hq',e⟩ | e
   ·rw [e]; exact hp5 q' hq'
   ·intro hz; have:=h5.lt _ hz; omega
 ·have hlt:=of_decide_eq_false hlt
  have:i=n:=by omega
  subst this
  exact ⟨_,_,_,rfl,hk W R' p c m1 s1 h1 o1 hp⟩
theorem plFree_len (A:Az):∀ k,(plFree A k).length<=128*k
 | 0=>Nat.le_refl _
 | k+1=>by
  show (if A.fz k=true then plFree A k else plFree A k++freeR A k).length<=_
  have:=plFree_len A k
  split
  ·omega
  ·have hb:=gRange_b (g:=A.s.geo) (k:=k)
   have:(freeR A k).length=cntG A.s.geo k:=rfFree_len _ _ _
   have:cntG A.s.geo k=((gRange A.s.geo k).2-(gRange A.s.geo k).1).toNat:=rfl
   rw [List.length_append]; omega
theorem plFree_b {A:Az} (hg:gOk A.s.geo=true) {n:Nat} (hn:(n:Int)<=A.s.geo.gs):(plFree A n).length<=2048:=by
 obtain ⟨_,_,_,g4,_⟩:=gOk_iff.1 hg
 have:=plFree_len A n
 omega
theorem allR_b {A:Az} (hg:gOk A.s.geo=true):(allR A).length<=2048:=by
 obtain ⟨_,_,g3,_⟩:=gOk_iff.1 hg
 exact plFree_b hg (by omega)
set_option maxRecDepth 4000 in
theorem lAll_c (h:Ao R w a v d A) (hk:∀ w' R' p c,Mod R w w'->Sb R R' w->Ao R' w' a v d A->Ow Tryz.prog w' w.heap.size 54 3 p (allR A).length c (rowF (allR A))->(∀ q,p=some q->¬ R' q.block)->K (.slice p (allR A).length c) w') :
  Cal Tryz.prog F_leveelaw31_all #[.pointer (some ⟨a,0,none⟩)] w K:=by
 apply C_leveelaw31_all
 unfold D_leveelaw31_all
 have hg:=h.ok
 obtain ⟨_,_,g3,g4,_⟩:=gOk_iff.1 hg
 have hda:=h.dlt
 have eA:allR A=plFree A A.s.geo.gs.toNat:=rfl
 rw [eA] at hk
 obtain ⟨n,hn⟩:=Int.eq_ofNat_of_zero_le (show 0<=A.s.geo.gs by omega)
 have hb:∀ i,i<=n->(plFree A i).length<=2048:=fun i hi=>plFree_b hg (by omega)
 rw [hn,Int.toNat_natCast] at hk
 refine ⟨fun x W=>∃ (i c:Nat) (p:Option Addr) (R':Nat->Prop),x=[.slice p (plFree A i).length c,.int .i64 i]/\i<=n/\Ao R' W a v d A/\Sb R R' w/\Mod R w W/\Ow Tryz.prog W w.heap.size 54 3 p (plFree A i).length c (rowF (plFree A i))/\(∀ q,p=some q->¬ R' q.block),fun x _=>(n-nI x 1).toNat,
  ⟨0,0,none,R,rfl,Nat.zero_le _,h,Sb.refl _ _,Mod.refl _ _,Ow.nilG elemG_fr,fun _ e=>by cases e⟩,?_⟩
 rintro x W ⟨i,c,p,R',rfl,hi,h0,s1,m0,o0,hp⟩
 refine ⟨_,rfl,aVol_c h0 ⟨_,rfl,aGeo_c h0 fun w3 m3=>⟨_,rfl,A.s.geo.gs,field_ggs _,?_⟩⟩⟩
 rw [hn]
 have h1:=h0.nos m3
 have m1:=m0.no m3
 have o1:=o0.nos m3
 have z3:=m3.size
 refine cond_of (fun hlt=>?_) (fun hlt=>?_)
 ·have hlt:=of_decide_eq_true hlt
  have zW:=m1.size
  have b1:=hb i hi
  have b2:=hb (i+1) (by omega)
  refine aFrozen_c h1 ⟨_,rfl,?_⟩
  refine Share.cut (fun z w7=>∃ c' p' R',z=[.slice p' (plFree A (i+1)).length c']/\Ao R' w7 a v d A/\Sb R R' w/\Mod R w w7/\Ow Tryz.prog w7 w.heap.size 54 3 p' (plFree A (i+1)).length c' (rowF (plFree A (i+1)))/\(∀ q,p'=some q->¬ R' q.block)) ?_ ?_
  ·refine cond_of (fun hf=>⟨_,_,_,rfl,?_⟩) (fun hf=>?_)
   ·have hf:¬ A.fz i=true:=by simpa using hf
    have e1:plFree A (i+1)=plFree A i++freeR A i:=by
     show (if A.fz i=true then plFree A i else plFree A i++freeR A i)=_
     rw [if_neg hf]
    rw [e1] at b2 |-
    rw [List.length_append] at b2 |-
    refine lFree_c h1 fun w5 R5 p5 c5 m5 s5 h5 o5 hp5=>⟨_,_,_,rfl,?_⟩
    have z5:=m5.size
    have o1':=o1.keep m5 fun q hq=>hp q hq
    have hpp:∀ q,p=some q->¬ R5 q.block:=fun q hq e=>by
     rcases s5 _ e with e | e
     ·exact hp q hq e
     ·have:=(o1.base hq).2; omega
    obtain ⟨a',c',w6,run,o6,m6,hq6⟩:=o1'.appZ (ty:=54) (c2:=c5) elemG_fr (by omega) o5.rowU.row (rowF_len _) o5.h0 (rowF_one _) (by omega) (by omega) (by omega)
    refine ⟨a',_,c',w6,run,c',a',R5,rfl,?_,s1.trans (s5.up z3) m0.size,?_,?_,fun q hq=>?_⟩
    ·refine h5.keep m6 (fun z hz e=>?_) fun z e=>?_
     ·obtain ⟨q',hq',rfl⟩:=e
      exact hpp q' hq' hz
     ·obtain ⟨q',hq',rfl⟩:=e
      have:=(o1.base hq').1; omega
    ·refine (Mod.sb m0 s1 ((m3.mono fun _ _ e=>e.elim).trans m5 fun x _ e=>e)).trans m6 fun z hz e=>?_
     obtain ⟨q',hq',rfl⟩:=e
     have:=(o1.base hq').1; omega
    ·rw [rowF_app]; exact o6
    ·rcases hq6 q hq with ⟨q',hq',e⟩ | e
     ·rw [e]; exact hpp q' hq'
     ·intro hz; have:=h5.lt _ hz; omega
   ·have hf:A.fz i=true:=by simpa using hf
    have e1:plFree A (i+1)=plFree A i:=by
     show (if A.fz i=true then plFree A i else plFree A i++freeR A i)=_
     rw [if_pos hf]
    rw [e1]
    exact ⟨c,p,R',rfl,h1,s1,m1,o1,hp⟩
  ·rintro z w7 ⟨c',p',R6,rfl,k1,k2,k3,k4,k5⟩
   rw [wrap64 (x:=(i:Int)+1) (by omega) (by omega)]
   exact ⟨⟨i+1,c',p',R6,rfl,by omega,k1,k2,k3,k4,k5⟩,by simp [nI,nth]; omega⟩
 ·have hlt:=of_decide_eq_false hlt
  have:i=n:=by omega
  subst this
  exact ⟨_,_,_,rfl,hk w3 R' p c m1 s1 h1 o1 hp⟩
set_option maxRecDepth 4000 in
theorem lTaken_c {L:Rl} {p:Option Addr} {c b0:Nat} (o:Ow Tryz.prog w b0 45 2 p L.length c (rowC L)) (hn:L.length<=5000)
  (hk:∀ w' p' c',Mod No w w'->Ow Tryz.prog w' w.heap.size 43 2 p' L.length c' (rowC L)->K (.slice p' L.length c') w'):Cal Tryz.prog F_leveelaw31_taken #[.slice p L.length c] w K:=by
 apply C_leveelaw31_taken
 unfold D_leveelaw31_taken
 refine ⟨fun x W=>∃ (i c':Nat) (p':Option Addr),x=[.slice p' i c',.int .i64 i]/\i<=L.length/\Mod No w W/\Ow Tryz.prog W w.heap.size 43 2 p' i c' (rowC (L.take i)),fun x _=>(L.length-nI x 1).toNat,
  ⟨0,0,none,rfl,Nat.zero_le _,Mod.refl _ _,Ow.nilG elemG_rr⟩,?_⟩
 rintro x W ⟨i,c',p',rfl,hi,m,o1⟩
 have zW:=m.size
 refine ⟨_,rfl,cond_of (fun hlt=>?_) (fun hlt=>?_)⟩
 ·have hlt:i<L.length:=by have:=of_decide_eq_true hlt; omega
  have md:Mod No w (Go.Den.drew W):=m.drew
  obtain ⟨g,rfl,_,ix,_,ld⟩:=actAt (T:=45) (Te:=57) o rfl elemN_runs agg_run (by omega) (rAt_some hlt)
  have htk:L.take (i+1)=L.take i++[rAt L i]:=by
   rw [List.take_add_one,rAt_some hlt]; rfl
  obtain ⟨q,c8,w8,run,o8,m8,_⟩:=snocG (T:=43) (Te:=49) (ys:=acV (rAt L i)) elemG_rr (by omega) (o1.nos (Mod.refl _ _).drew) rfl (acV_one _) (by omega) (by omega) zW
  refine ⟨_,_,_,rfl,_,ix,_,ld _ 0 _ _ md sc_int rfl,_,ix,_,ld _ 1 _ _ md sc_int rfl,_,build_rr _ _,_,_,_,_,built_rr _ _,_,_,_,w8,run,?_⟩
  rw [wrap64 (x:=(i:Int)+1) (by omega) (by omega)]
  refine ⟨⟨i+1,c8,some q,rfl,by omega,md.trans m8 fun z hz e=>?_,by rw [htk,rowC_app]; exact o8⟩,by simp [nI,nth]; omega⟩
  obtain ⟨q',hq',rfl⟩:=e
  have:=(o1.base hq').1; omega
 ·have hlt:=of_decide_eq_false hlt
  have:i=L.length:=by omega
  subst this
  rw [List.take_length] at o1
  exact ⟨_,_,_,rfl,hk W p' c' m o1⟩
theorem frAt {F:List Fr} {p:Option Addr} {c b0 i:Nat} (h:Ow Tryz.prog w b0 54 3 p F.length c (rowF F)) (hn:F.length<=5000) (hi:i<F.length) :
  ∃ g,p=some ⟨g,0,none⟩/\Al (Instr.indexAt 54 (.slice p F.length c) (.int .i64 i)) (.pointer (some ⟨g,i*3,none⟩))/\∀ (w':World) (j:Nat) (v:Value) (Ti:TypeId),Mod No w w'->scal Tryz.prog Ti=true->(frV (fAt F i))[j]?=some v->Ru (Instr.loadAt Ti (.pointer (some (Addr.add ⟨g,i*3,none⟩ j)))) w' v w':=by
 obtain ⟨g,rfl,hg,hat⟩:=h.sm (by omega)
 refine ⟨g,rfl,fun w'=>?_,fun w' j v Ti m hTi hj=>?_⟩
 ·have:=index_slice (P:=Tryz.prog) (T:=54) (k:=3) (a:=⟨g,0,none⟩) (n:=F.length) (c:=c) (kk:=.i64) (i:=i) elemN_fr (by omega) (by omega) w'
  rw [add_none,show 0+(i:Int).toNat*3=i*3 by omega] at this
  exact this
 ·rw [add_none]
  have:=(hat.keep m id).at.load (P:=Tryz.prog) (T:=Ti) (i:=i*3+j) hTi (v:=v) (flat_cell frV_len (fAt_some hi) hj)
  rw [Nat.zero_add] at this
  exact this
set_option maxRecDepth 4000 in
theorem rRuns31_c {F:List Fr} {p:Option Addr} {c b0:Nat} (o:Ow Tryz.prog w b0 54 3 p F.length c (rowF F)) (hn:F.length<=5000)
  (hk:∀ w' p' c',Mod No w w'->Ow Tryz.prog w' w.heap.size 43 2 p' (runsR F).length c' (rowC (runsR F))->K (.slice p' (runsR F).length c') w'):Cal Tryz.prog F_leveeref31_Runs #[.slice p F.length c] w K:=by
 apply C_leveeref31_Runs
 unfold D_leveeref31_Runs
 have eF:runsR F=rfRuns F F.length:=rfl
 rw [eF] at hk
 refine ⟨fun x W=>∃ (i c':Nat) (p':Option Addr) (y:Value),x=[.slice p' (rfRuns F i).length c',.int .i64 i,y]/\i<=F.length/\Mod No w W/\Ow Tryz.prog W w.heap.size 43 2 p' (rfRuns F i).length c' (rowC (rfRuns F i)),fun x _=>(F.length-nI x 1).toNat,
  ⟨0,0,none,_,rfl,Nat.zero_le _,Mod.refl _ _,Ow.nilG elemG_rr⟩,?_⟩
 rintro x W ⟨i,c',p',y,rfl,hi,m,o1⟩
 have zW:=m.size
 obtain ⟨r1,r2,r3⟩:=rfRuns_ok F i
 refine ⟨_,rfl,cond_of (fun hlt=>?_) (fun hlt=>?_)⟩
 ·have hlt:i<F.length:=by have:=of_decide_eq_true hlt; omega
  obtain ⟨g,rfl,ix,ld⟩:=frAt o hn hlt
  have e0:rfRuns F (i+1)=if (fAt F i).2.1=false then rfRuns F i else if 0<i/\(fAt F (i-1)).2.1=true/\(fAt F i).2.2=false then incL (rfRuns F i) else rfRuns F i++[((fAt F i).1,1)]:=rfl
  refine Share.cut (fun z w7=>∃ c' p' y,z=[.slice p' (rfRuns F (i+1)).length c',y]/\Mod No w w7/\Ow Tryz.prog w7 w.heap.size 43 2 p' (rfRuns F (i+1)).length c' (rowC (rfRuns F (i+1)))) ⟨_,ix,_,ld W 1 _ _ m sc_bl rfl,cond_of (fun h0=>?_) (fun h0=>?_)⟩ ?_
  ·have h0:(fAt F i).2.1=false:=by simpa using h0
   rw [e0,if_pos h0]
   exact ⟨c',p',y,rfl,m,o1⟩
  ·have h0:¬ (fAt F i).2.1=false:=by simpa using h0
   rw [if_neg h0] at e0
   refine Share.cut (fun z w2=>w2=W/\z=[.bool (decide (0<i/\(fAt F (i-1)).2.1=true/\(fAt F i).2.2=false))]) (cond_of (fun h1=>?_) (fun h1=>⟨rfl,?_⟩)) ?_
   ·have h1:=of_decide_eq_true h1
    obtain ⟨g',hg',ix',ld'⟩:=frAt (i:=i-1) o hn (by omega)
    cases hg'
    rw [wrap64 (x:=(i:Int)-1) (by omega) (by omega),show (i:Int)-1=((i-1:Nat):Int) by omega]
    refine ⟨_,ix',_,ld' W 1 _ _ m sc_bl rfl,cond_of (fun h2=>⟨_,ix,_,ld W 2 _ _ m sc_bl rfl,rfl,?_⟩) (fun h2=>⟨rfl,?_⟩)⟩
    ·congr 2
     rw [Bool.eq_iff_iff,decide_eq_true_iff,Bool.not_eq_true']
     exact ⟨fun e=>⟨by omega,h2,e⟩,fun e=>e.2.2⟩
    ·rw [decide_eq_false fun e=>by rw [h2] at e; exact absurd e.2.1 (by decide)]
   ·have h1:=of_decide_eq_false h1
    rw [decide_eq_false fun e=>h1 (by omega)]
   rintro z w2 ⟨rfl,rfl⟩
   refine ⟨_,rfl,Share.cut (fun z w6=>∃ c' p',z=[.slice p' (rfRuns F (i+1)).length c']/\Mod No w w6/\Ow Tryz.prog w6 w.heap.size 43 2 p' (rfRuns F (i+1)).length c' (rowC (rfRuns F (i+1)))) (cond_of (fun hb=>?_) (fun hb=>?_)) ?_⟩
   ·have hb:=of_decide_eq_true hb
    have hne:=r2 hb.1 hb.2.1
    have hlx:(rfRuns F i)[(rfRuns F i).length-1]?=some (rAt (rfRuns F i) ((rfRuns F i).length-1)):=rAt_some (by omega)
    have e3:incL (rfRuns F i)=(rfRuns F i).set ((rfRuns F i).length-1) ((rAt (rfRuns F i) ((rfRuns F i).length-1)).1,(rAt (rfRuns F i) ((rfRuns F i).length-1)).2+1):=by unfold incL; rw [hlx]
    rw [e0,if_pos hb,e3]
    have hb2:=r3 _ (List.mem_of_getElem? hlx)
    generalize rAt (rfRuns F i) ((rfRuns F i).length-1)=u at *
    obtain ⟨g2,rfl,hg2,ix2,_,l2⟩:=actAt (T:=43) (Te:=49) o1 rfl elemN_rr agg_rr (by omega) hlx
    have hl1:(((rfRuns F i).length:Nat):Int)-1=(((rfRuns F i).length-1:Nat):Int):=by omega
    obtain ⟨w6,u1,u2,u3⟩:=o1.setK (P:=Tryz.prog) (T':=3) (i:=((rfRuns F i).length-1)*2+1) (v:=.int .i64 (u.2+1)) sc_int (by omega) rfl
    rw [rowC_set _ hlx] at u2
    refine ⟨_,_,_,rfl,?_⟩
    rw [wrap64 (x:=((rfRuns F i).length:Int)-1) (by omega) (by omega),hl1]
    refine ⟨_,ix2,_,l2 _ 1 _ _ (Mod.refl _ _) sc_int rfl,_,ix2,w6,?_,c',some ⟨g2,0,none⟩,?_,m.trans u3 fun z hz e=>by have e:z=g2:=e; omega,?_⟩
    ·rw [wrap64 (by omega) (by omega),add_none]; exact u1
    ·rw [List.length_set]
    ·rw [List.length_set]; exact u2
   ·have hb:=of_decide_eq_false hb
    rw [e0,if_neg hb]
    obtain ⟨q,c8,w8,run,o8,m8,_⟩:=snocG (T:=43) (Te:=49) (ys:=acV ((fAt F i).1,1)) elemG_rr (by omega) o1 rfl (acV_one _) (by omega) (by omega) zW
    refine ⟨_,_,_,rfl,_,ix,_,ld w2 0 _ _ m sc_int rfl,_,build_rr _ _,_,_,_,_,built_rr _ _,_,_,_,w8,run,c8,some q,?_,m.trans m8 fun z hz e=>?_,?_⟩
    ·rw [List.length_append]; rfl
    ·obtain ⟨q',hq',rfl⟩:=e
     have:=(o1.base hq').1; omega
    ·rw [List.length_append,rowC_app]; exact o8
   ·rintro z w6 ⟨c6,p6,rfl,k1,k2⟩
    exact ⟨c6,p6,_,rfl,k1,k2⟩
  ·rintro z w7 ⟨c7,p7,y7,rfl,k1,k2⟩
   rw [wrap64 (x:=(i:Int)+1) (by omega) (by omega)]
   exact ⟨⟨i+1,c7,p7,_,rfl,by omega,k1,k2⟩,by simp [nI,nth]; omega⟩
 ·have hlt:=of_decide_eq_false hlt
  have:i=F.length:=by omega
  subst this
  exact ⟨_,_,_,rfl,hk W p' c' m o1⟩
end
end Go.Proofs.YtelhlihjihklbaaGreat
end
section
open Go Go.Den Go.Proofs
namespace Go.Proofs.YtelhlihjihklbaaGreat
theorem rl_ext {L M:Rl} (hl:L.length=M.length) (h:∀ i,i<L.length->rAt L i=rAt M i):L=M:=by
 refine List.ext_getElem? fun i=>?_
 by_cases hi:i<L.length
 ·rw [rAt_some hi,rAt_some (by omega),h i hi]
 ·rw [List.getElem?_eq_none (by omega),List.getElem?_eq_none (by omega)]
section
variable {w w':World} {R R':Nat->Prop} {a v d:Nat} {A:Az} {K:Value->World->Prop}
set_option maxRecDepth 4000 in
theorem rSame31_c {L M:Rl} {p q:Option Addr} {c e b0 b1:Nat} (o:Ow Tryz.prog w b0 43 2 p L.length c (rowC L)) (u:Ow Tryz.prog w b1 43 2 q M.length e (rowC M)) (hn:L.length<=5000)
  (hk:∀ w',Mod No w w'->K (.bool (decide (L=M))) w'):Cal Tryz.prog F_leveeref31_Same #[.slice p L.length c,.slice q M.length e] w K:=by
 apply C_leveeref31_Same
 unfold D_leveeref31_Same
 rw [bneI]
 refine cond_of (fun h0=>?_) (fun h0=>?_)
 ·have h0:=of_decide_eq_true h0
  have e:decide (L=M)=false:=decide_eq_false fun e=>h0 (by rw [e])
  rw [e] at hk
  exact hk w (Mod.refl _ _)
 have h0:L.length=M.length:=by have:=Classical.not_not.1 (of_decide_eq_false h0); omega
 refine ⟨fun x W=>∃ i:Nat,x=[.int .i64 i]/\i<=L.length/\Mod No w W/\∀ j,j<i->rAt L j=rAt M j,fun x _=>(L.length-nI x 0).toNat,⟨0,rfl,Nat.zero_le _,Mod.refl _ _,fun j hj=>by omega⟩,?_⟩
 rintro x W ⟨i,rfl,hi,m,hj⟩
 refine ⟨_,rfl,cond_of (fun hlt=>?_) (fun hlt=>?_)⟩
 ·have hlt:i<L.length:=by have:=of_decide_eq_true hlt; omega
  have md:Mod No w (Go.Den.drew W):=m.drew
  obtain ⟨g,rfl,_,ix,ld,_⟩:=actAt (T:=43) (Te:=49) o rfl elemN_rr agg_rr (by omega) (rAt_some hlt)
  obtain ⟨g2,rfl,_,ix2,ld2,_⟩:=actAt (T:=43) (Te:=49) u rfl elemN_rr agg_rr (by omega) (rAt_some (l:=M) (i:=i) (by omega))
  refine ⟨_,ix,_,ld _ md,_,ix2,_,ld2 _ md,_,neq_act two_rr und_rr std_rr grd_rr _ _ _ _,cond_of (fun hb=>?_) (fun hb=>?_)⟩
  ·have hb:¬ rAt L i=rAt M i:=fun e=>by
    rw [sameA_iff.2 e] at hb; cases hb
   have e:decide (L=M)=false:=decide_eq_false fun e=>hb (by rw [e])
   rw [e] at hk
   exact hk _ md
  ·have hb:rAt L i=rAt M i:=sameA_iff.1 (by simpa using hb)
   rw [wrap64 (x:=(i:Int)+1) (by omega) (by omega)]
   refine ⟨⟨i+1,rfl,by omega,md,fun j h=>?_⟩,by simp [nI,nth]; omega⟩
   by_cases ej:j=i
   ·rw [ej]; exact hb
   ·exact hj j (by omega)
 ·have hlt:=of_decide_eq_false hlt
  have:i=L.length:=by omega
  subst this
  have e:decide (L=M)=true:=decide_eq_true (rl_ext h0 hj)
  rw [e] at hk
  exact hk W m
set_option maxRecDepth 4000 in
theorem rLong31_c {L:Rl} {p:Option Addr} {c b0:Nat} (o:Ow Tryz.prog w b0 43 2 p L.length c (rowC L)) (hn:L.length<=5000)
  (hk:∀ w',Mod No w w'->K (.agg ⟨acV (rfLong L L.length)⟩) w'):Cal Tryz.prog F_leveeref31_Longest #[.slice p L.length c] w K:=by
 apply C_leveeref31_Longest
 unfold D_leveeref31_Longest
 obtain ⟨w1,a1,a2,a3,a4⟩:=new_u (P:=Tryz.prog) (w:=w) (T:=49) zero_rr
 obtain ⟨w2,b1,b2,b3,b4⟩:=new_u (P:=Tryz.prog) (w:=w1) (T:=49) zero_rr
 obtain ⟨w3,c1,c2,c3,c4⟩:=b2.put (T:=49) (vs:=acV (0,0)) agg_rr rfl rfl (acV_one _)
 have z1:=a2.lt
 have p3:AtU w3 w.heap.size 0 (acV (0,0)):=(a2.keep b3 id).keep c3 (fun e=>by have e:w.heap.size=w1.heap.size:=e; omega)
 have m3:Mod No w w3:=(a3.no b3).own c3 (by omega)
 refine ⟨_,w1,a1,_,build_rr0,_,w2,b1,w3,c1,?_⟩
 refine ⟨fun x W=>∃ i:Nat,x=[.int .i64 i]/\i<=L.length/\Mod No w W/\AtU W w.heap.size 0 (acV (0,0))/\AtU W w1.heap.size 0 (acV (rfLong L i)),fun x _=>(L.length-nI x 0).toNat,
  ⟨0,rfl,Nat.zero_le _,m3,p3,c2⟩,?_⟩
 rintro x W ⟨i,rfl,hi,m,q4,q5⟩
 refine ⟨_,rfl,cond_of (fun hlt=>?_) (fun hlt=>?_)⟩
 ·have hlt:i<L.length:=by have:=of_decide_eq_true hlt; omega
  have md:Mod No w (Go.Den.drew W):=m.drew
  obtain ⟨g,rfl,_,ix,ld,lf⟩:=actAt (T:=43) (Te:=49) o rfl elemN_rr agg_rr (by omega) (rAt_some hlt)
  have e0:rfLong L (i+1)=if (rfLong L i).2<(rAt L i).2 then rAt L i else rfLong L i:=rfl
  refine ⟨_,ix,_,lf _ 1 _ _ md sc_int rfl,_,q5.drew.at.fld (v:=.int .i64 (rfLong L i).2) sc_int rfl,?_⟩
  refine Share.cut (fun z w6=>Mod No w w6/\AtU w6 w.heap.size 0 (acV (0,0))/\AtU w6 w1.heap.size 0 (acV (rfLong L (i+1)))) (cond_of (fun hb=>?_) (fun hb=>?_)) ?_
  ·rw [e0,if_pos (of_decide_eq_true hb)]
   obtain ⟨w9,y1,y2,y3,y4⟩:=q5.drew.put (T:=49) (vs:=acV (rAt L i)) agg_rr rfl rfl (acV_one _)
   exact ⟨_,ix,_,ld _ md,w9,y1,md.own y3 (by omega),q4.drew.keep y3 (fun e=>by have e:w.heap.size=w1.heap.size:=e; omega),y2⟩
  ·rw [e0,if_neg (of_decide_eq_false hb)]
   exact ⟨md,q4.drew,q5.drew⟩
  rintro z w6 ⟨k1,k2,k3⟩
  rw [wrap64 (x:=(i:Int)+1) (by omega) (by omega)]
  exact ⟨⟨i+1,rfl,by omega,k1,k2,k3⟩,by simp [nI,nth]; omega⟩
 ·have hlt:=of_decide_eq_false hlt
  have:i=L.length:=by omega
  subst this
  obtain ⟨w9,y1,y2,y3,y4⟩:=q4.put (T:=49) (vs:=acV (rfLong L L.length)) agg_rr rfl rfl (acV_one _)
  exact ⟨_,q5.at.all agg_rr rfl,w9,y1,_,y2.at.all agg_rr rfl,hk w9 (m.own y3 (Nat.le_refl _))⟩
set_option maxRecDepth 4000 in
theorem rBest31_c {L:Rl} {p:Option Addr} {c b0:Nat} {n:Int} (o:Ow Tryz.prog w b0 43 2 p L.length c (rowC L)) (hn:L.length<=5000)
  (hk:∀ w',Mod No w w'->K (.agg ⟨acV (rfBestL L n)⟩) w'):Cal Tryz.prog F_leveeref31_Best #[.slice p L.length c,.int .i64 n] w K:=by
 apply C_leveeref31_Best
 unfold D_leveeref31_Best
 obtain ⟨w1,a1,a2,a3,a4⟩:=new_u (P:=Tryz.prog) (w:=w) (T:=49) zero_rr
 obtain ⟨w2,b1,b2,b3,b4⟩:=new_u (P:=Tryz.prog) (w:=w1) (T:=49) zero_rr
 obtain ⟨w3,c1,c2,c3,c4⟩:=b2.put (T:=49) (vs:=acV (0,0)) agg_rr rfl rfl (acV_one _)
 have z1:=a2.lt
 have p3:AtU w3 w.heap.size 0 (acV (0,0)):=(a2.keep b3 id).keep c3 (fun e=>by have e:w.heap.size=w1.heap.size:=e; omega)
 have m3:Mod No w w3:=(a3.no b3).own c3 (by omega)
 refine ⟨_,w1,a1,_,build_rr0,_,w2,b1,w3,c1,?_⟩
 refine ⟨fun x W=>∃ (i:Nat) (y1 y2:Value),x=[.int .i64 i,y1,y2]/\i<=L.length/\(n<1->i=0)/\Mod No w W/\AtU W w.heap.size 0 (acV (0,0))/\AtU W w1.heap.size 0 (acV (rfBest L n i)),fun x _=>(L.length-nI x 0).toNat,
  ⟨0,_,_,rfl,Nat.zero_le _,fun _=>rfl,m3,p3,c2⟩,?_⟩
 rintro x W ⟨i,y1,y2,rfl,hi,hn1,m,q4,q5⟩
 refine Share.cut (fun z w5=>w5=W/\z=[.bool (decide (i<L.length/\1<=n))]) ⟨_,rfl,cond_of (fun h1=>⟨rfl,?_⟩) (fun h1=>⟨rfl,?_⟩)⟩ ?_
 ·have h1:=of_decide_eq_true h1
  congr 2
  exact decide_eq_decide.2 ⟨fun e=>⟨by omega,e⟩,fun e=>e.2⟩
 ·have h1:=of_decide_eq_false h1
  rw [decide_eq_false fun e=>h1 (by omega)]
 rintro z w5 ⟨rfl,rfl⟩
 refine ⟨_,rfl,cond_of (fun hlt=>?_) (fun hlt=>?_)⟩
 ·obtain ⟨hlt,h1n⟩:=of_decide_eq_true hlt
  have md:Mod No w (Go.Den.drew w5):=m.drew
  obtain ⟨g,rfl,_,ix,ld,lf⟩:=actAt (T:=43) (Te:=49) o rfl elemN_rr agg_rr (by omega) (rAt_some hlt)
  have e0:rfBest L n (i+1)=if n<=(rAt L i).2/\((rfBest L n i).2=0\/(rAt L i).2<(rfBest L n i).2) then rAt L i else rfBest L n i:=rfl
  refine Share.cut (fun z w6=>w6=Go.Den.drew w5/\z=[.bool (decide (n<=(rAt L i).2/\((rfBest L n i).2=0\/(rAt L i).2<(rfBest L n i).2)))]) ⟨_,rfl,_,ix,_,lf _ 1 _ _ md sc_int rfl,cond_of (fun h2=>⟨_,q5.drew.at.fld (v:=.int .i64 (rfBest L n i).2) sc_int rfl,cond_of (fun h3=>⟨rfl,?_⟩) (fun h3=>⟨_,ix,_,lf _ 1 _ _ md sc_int rfl,_,q5.drew.at.fld (v:=.int .i64 (rfBest L n i).2) sc_int rfl,rfl,?_⟩)⟩) (fun h2=>⟨rfl,?_⟩)⟩ ?_
  ·have h2:=of_decide_eq_true h2
   have h3:(rfBest L n i).2=0:=by simpa using h3
   rw [decide_eq_true (⟨by omega,.inl h3⟩:_/\(_\/_))]
  ·have h2:=of_decide_eq_true h2
   have h3:¬ (rfBest L n i).2=0:=by simpa using h3
   congr 2
   exact decide_eq_decide.2 ⟨fun e=>⟨by omega,.inr e⟩,fun e=>e.2.resolve_left h3⟩
  ·have h2:=of_decide_eq_false h2
   rw [decide_eq_false fun e=>h2 (by omega)]
  rintro z w6 ⟨rfl,rfl⟩
  refine ⟨_,rfl,Share.cut (fun z w6=>Mod No w w6/\AtU w6 w.heap.size 0 (acV (0,0))/\AtU w6 w1.heap.size 0 (acV (rfBest L n (i+1)))) (cond_of (fun hb=>?_) (fun hb=>?_)) ?_⟩
  ·rw [e0,if_pos (of_decide_eq_true hb)]
   obtain ⟨w9,y1,y2,y3,y4⟩:=q5.drew.put (T:=49) (vs:=acV (rAt L i)) agg_rr rfl rfl (acV_one _)
   exact ⟨_,rfl,_,ix,_,ld _ md,w9,y1,md.own y3 (by omega),q4.drew.keep y3 (fun e=>by have e:w.heap.size=w1.heap.size:=e; omega),y2⟩
  ·rw [e0,if_neg (of_decide_eq_false hb)]
   exact ⟨md,q4.drew,q5.drew⟩
  rintro z w6 ⟨k1,k2,k3⟩
  refine ⟨_,rfl,?_⟩
  rw [wrap64 (x:=(i:Int)+1) (by omega) (by omega)]
  exact ⟨⟨i+1,_,_,rfl,by omega,fun e=>by omega,k1,k2,k3⟩,by simp [nI,nth]; omega⟩
 ·have hlt:=of_decide_eq_false hlt
  have e:rfBest L n i=rfBestL L n:=by
   unfold rfBestL
   by_cases h1:1<=n
   ·rw [if_pos h1]
    have:i=L.length:=by
     refine Classical.byContradiction fun e=>hlt ⟨by omega,h1⟩
    rw [this]
   ·rw [if_neg h1,hn1 (by omega)]; rfl
  rw [e] at q5
  obtain ⟨w9,y1,y2,y3,y4⟩:=q4.put (T:=49) (vs:=acV (rfBestL L n)) agg_rr rfl rfl (acV_one _)
  exact ⟨_,q5.at.all agg_rr rfl,w9,y1,_,y2.at.all agg_rr rfl,hk w9 (m.own y3 (Nat.le_refl _))⟩
end
end Go.Proofs.YtelhlihjihklbaaGreat
end
section
open Go Go.Den Go.Proofs
namespace Go.Proofs.YtelhlihjihklbaaGreat
structure Ob (w0:World) (R:Nat->Prop) (w:World) (a v d:Nat) (A:Az):Prop where
 ao:Ao R w a v d A
 lo:∀ z,R z->w0.heap.size<=z
 md:Mod No w0 w
structure Kw (T:TypeId) (R:Nat->Prop) (w:World) (p:Option Addr) (L:Rl) (c:Nat):Prop where
 ow:Ow Tryz.prog w 0 T 2 p L.length c (rowC L)
 nr:∀ q,p=some q->¬ R q.block
structure Bw (R:Nat->Prop) (w:World) (q:Nat) (cs:List Value):Prop where
 at':AtU w q 0 cs
 nr:¬ R q
section
variable {w0 w w':World} {R R':Nat->Prop} {a v d q:Nat} {A A':Az} {T:TypeId} {p:Option Addr} {L:Rl} {c:Nat} {cs:List Value} {K:Value->World->Prop}
theorem Ob.no (h:Ob w0 R w a v d A) (m:Mod No w w'):Ob w0 R w' a v d A:=⟨h.ao.nos m,h.lo,h.md.no m⟩
theorem Ob.go (h:Ob w0 R w a v d A) (m:Mod R w w') (s:Sb R R' w) (k:Ao R' w' a v d A'):Ob w0 R' w' a v d A' :=
 ⟨k,fun z hz=>by
  rcases s z hz with e | e
  ·exact h.lo z e
  ·have:=h.md.size; omega,h.md.trans m fun x hx e=>by have:=h.lo x e; omega⟩
theorem Kw.no (h:Kw T R w p L c) (m:Mod No w w'):Kw T R w' p L c:=⟨h.ow.nos m,h.nr⟩
theorem Kw.go (h:Kw T R w p L c) (m:Mod R w w') (s:Sb R R' w):Kw T R' w' p L c :=
 ⟨h.ow.keep m h.nr,fun q hq e=>by
  rcases s _ e with e | e
  ·exact h.nr q hq e
  ·have:=(h.ow.base hq).2; omega⟩
theorem Bw.no (h:Bw R w q cs) (m:Mod No w w'):Bw R w' q cs:=⟨h.at'.keep m id,h.nr⟩
theorem Bw.go (h:Bw R w q cs) (m:Mod R w w') (s:Sb R R' w):Bw R' w' q cs :=
 ⟨h.at'.keep m h.nr,fun e=>by
  rcases s _ e with e | e
  ·exact h.nr e
  ·have:=h.at'.lt; omega⟩
theorem Ob.box {t:TypeId} {z cs:List Value} {n:Nat} (h:Ob w0 R w a v d A) (hz:zeroC Tryz.prog t=some z) (hT:aggN Tryz.prog t=some n) (hl:z.length=n) (hc:cs.length=n) (h1:∀ u∈cs,u.oneCell'=true) :
  ∃ q w1 w2,Ru (Instr.alloc t true (.tuple #[])) w (.pointer (some ⟨q,0,none⟩)) w1/\RuU (Instr.storeAt t (.pointer (some ⟨q,0,none⟩)) (.agg ⟨cs⟩)) w1 w2/\Ob w0 R w2 a v d A/\Bw R w2 q cs/\Mod No w w2:=by
 obtain ⟨w1,a1,a2,a3,a4⟩:=new_u (P:=Tryz.prog) (w:=w) (T:=t) hz
 obtain ⟨w2,b1,b2,b3,b4⟩:=a2.put (T:=t) (vs:=cs) hT hl hc h1
 have m:Mod No w w2:=a3.own b3 (Nat.le_refl _)
 exact ⟨_,w1,w2,a1,b1,h.no m,⟨b2,fun e=>by have:=h.ao.lt _ e; omega⟩,m⟩
theorem kwOf {b0:Nat} (h:Ow Tryz.prog w b0 T 2 p L.length c (rowC L)) (hb:∀ z,R z->z<b0):Kw T R w p L c:=⟨h.mono (Nat.zero_le _),fun q hq e=>by have:=hb _ e; have:=(h.base hq).1; omega⟩
theorem runsA_out {A:Az} {k:Int} (h:¬ (0<=k/\k<A.s.geo.gs)):runsA A k=[]:=by
 have e:gRange A.s.geo k=(0,0):=by
  unfold gRange
  rw [if_pos]
  intro e
  obtain ⟨_,h1,h2,_⟩:=gHead_ok e
  exact h ⟨h1,h2⟩
 unfold runsA cntG
 rw [e]; rfl
theorem freeR_len (A:Az) (k:Int):(freeR A k).length<=128:=by
 have hb:=gRange_b (g:=A.s.geo) (k:=k)
 have:(freeR A k).length=cntG A.s.geo k:=rfFree_len _ _ _
 have:cntG A.s.geo k=((gRange A.s.geo k).2-(gRange A.s.geo k).1).toNat:=rfl
 omega
set_option maxRecDepth 8000 in
theorem PlanRuns_c {g:Gm} {a1:Option Addr} {l1 c1:Nat} {acts:List Ab} {k n:Int} (hr:Row w a1 (rowB acts)) (hl:acts.length=l1) (h63:∀ x∈acts,x.2.1<=9223372036854775807) :
  Cal Tryz.prog F_leveelaw31_PlanRuns #[.agg ⟨gV g⟩,.slice a1 l1 c1,.int .i64 k,.int .i64 n] w (fun v w'=>v=.bool true/\Mod No w w'):=by
 apply C_leveelaw31_PlanRuns
 unfold D_leveelaw31_PlanRuns
 obtain ⟨w1,b1,b2,b3,b4⟩:=box_u (P:=Tryz.prog) (w:=w) (T:=40) (cs:=gV g)
 refine ⟨_,w1,b1,_,b2.at.all agg_geo rfl,open31_c (hr.nos b3) hl h63 fun w2 R a v d k0 m2 h2 lo2=>⟨_,rfl,ff rfl ?_⟩⟩
 have o2:Ob w R w2 a v d (openA g acts k0):=⟨h2,fun z hz=>by have:=lo2 z hz; have:=b3.size; omega,b3.no m2⟩
 clear h2 lo2 m2
 generalize openA g acts k0=A at *
 have hb:=allA_b (A:=A) o2.ao.ok
 have hp:∀ x∈allA A,1<=x.2/\x.2<=128:=plAll_pos
 refine Share.cut (fun z w5=>z=[.bool (decide (0<=k/\k<A.s.geo.gs))]/\Ob w R w5 a v d A) (cond_of (fun h0=>aVol_c o2.ao ⟨_,rfl,aGeo_c o2.ao fun w4 m4=>⟨_,rfl,A.s.geo.gs,field_ggs _,?_,o2.no m4⟩⟩) (fun h0=>⟨?_,o2⟩)) ?_
 ·have h0:=of_decide_eq_true h0
  congr 2
  exact decide_eq_decide.2 ⟨fun e=>⟨by omega,e⟩,fun e=>e.2⟩
 ·have h0:=of_decide_eq_false h0
  rw [decide_eq_false fun e=>h0 (by omega)]
 rintro z w5 ⟨rfl,o5⟩
 refine ⟨_,rfl,Share.cut (fun z w8=>∃ p c R',z=[.slice p (runsA A k).length c]/\Ob w R' w8 a v d A/\Kw 43 R' w8 p (runsA A k) c) (cond_of (fun h0=>?_) (fun h0=>?_)) ?_⟩
 ·refine lFree_c o5.ao fun w6 R6 p c m6 s6 h6 f6 _=>⟨_,_,_,rfl,?_⟩
  have o6:=o5.go m6 s6 h6
  have hfl:=freeR_len A k
  refine rRuns31_c f6 (by omega) fun w7 p7 c7 m7 r7=>⟨_,_,_,rfl,?_⟩
  rw [runsR_one] at r7 |-
  exact ⟨p7,c7,R6,rfl,o6.no m7,kwOf r7 o6.ao.lt⟩
 ·rw [runsA_out (of_decide_eq_false h0)]
  exact ⟨none,0,R,rfl,o5,⟨Ow.nilG elemG_rr,fun _ e=>by cases e⟩⟩
 clear o2 o5
 rintro z w8 ⟨p10,c10,R8,rfl,o8,r8⟩
 refine lAll_c o8.ao fun w9 R9 p c m9 s9 h9 f9 _=>⟨_,_,_,rfl,?_⟩
 have o9:=o8.go m9 s9 h9
 have r9:=r8.go m9 s9
 have hfl:=allR_b (A:=A) o9.ao.ok
 refine rRuns31_c f9 (by omega) fun w10 p37 c37 m10 f10=>⟨_,_,_,rfl,?_⟩
 rw [runsR_all] at f10 |-
 have o10:=o9.no m10
 have r10:=r9.no m10
 have l10:=kwOf f10 o9.ao.lt
 clear o8 o9 r8 r9 f9 f10 m9 s9 h9
 refine longest_c o10.ao fun w11 R11 m11 s11 h11=>⟨_,rfl,?_⟩
 have o11:=o10.go m11 s11 h11
 have r11:=r10.go m11 s11
 have l11:=l10.go m11 s11
 obtain ⟨q12,w12,w13,e1,e2,o13,x13,m13⟩:=o11.box (cs:=acV (longL (allA A))) zero_run agg_run rfl rfl (acV_one _)
 refine ⟨_,w12,e1,w13,e2,best_c o13.ao fun w14 R14 m14 s14 h14=>⟨_,rfl,?_⟩⟩
 have o14:=o13.go m14 s14 h14
 have r14:=(r11.no m13).go m14 s14
 have l14:=(l11.no m13).go m14 s14
 have x14:=x13.go m14 s14
 clear o10 o11 o13 r10 r11 l10 l11 x13
 obtain ⟨q13,w15,w16,e3,e4,o16,y16,m16⟩:=o14.box (cs:=acV (bestL (allA A) n)) zero_run agg_run rfl rfl (acV_one _)
 have l16:=l14.no m16
 refine ⟨_,w15,e3,w16,e4,rLong31_c l16.ow (by omega) fun w17 m17=>⟨_,rfl,?_⟩⟩
 obtain ⟨q14,w18,w19,e5,e6,o19,z19,m19⟩:=(o16.no m17).box (cs:=acV (rfLong (allA A) (allA A).length)) zero_rr agg_rr rfl rfl (acV_one _)
 have l19:=(l16.no m17).no m19
 refine ⟨_,w18,e5,w19,e6,rBest31_c l19.ow (by omega) fun w20 m20=>⟨_,rfl,?_⟩⟩
 obtain ⟨q15,w21,w22,e7,e8,o22,u22,m22⟩:=(o19.no m20).box (cs:=acV (rfBestL (allA A) n)) zero_rr agg_rr rfl rfl (acV_one _)
 have l22:=(l19.no m20).no m22
 have r22:=((((r14.no m16).no m17).no m19).no m20).no m22
 have x22:=((((x14.no m16).no m17).no m19).no m20).no m22
 have y22:=(((y16.no m17).no m19).no m20).no m22
 have z22:=(z19.no m20).no m22
 clear o14 o16 o19 l14 l16 l19 r14 x14 y16 z19
 refine ⟨_,w21,e7,w22,e8,Share.dup (aRuns_c o22.ao fun w23 R23 p50 c50 m23 s23 h23 f23 _=>⟨_,_,_,rfl,?_⟩)⟩
 have o23:=o22.go m23 s23 h23
 have hrl:=runsA_len A k
 refine lTaken_c f23 (by omega) fun w24 p51 c51 m24 f24=>⟨_,_,_,rfl,_,_,_,rfl,?_⟩
 have r24:=(r22.go m23 s23).no m24
 refine rSame31_c f24 r24.ow (by omega) fun w25 m25=>⟨_,rfl,tt (decide_eq_true rfl) ?_⟩
 have o25:=(o23.no m24).no m25
 have l25:=((l22.go m23 s23).no m24).no m25
 have x25:=((x22.go m23 s23).no m24).no m25
 have y25:=((y22.go m23 s23).no m24).no m25
 have z25:=((z22.go m23 s23).no m24).no m25
 have u25:=((u22.go m23 s23).no m24).no m25
 clear o22 o23 l22 r22 x22 y22 z22 u22 r24 f23 f24
 refine planAll_c o25.ao fun w26 R26 p56 c56 m26 s26 h26 f26=>⟨_,_,_,rfl,?_⟩
 have o26:=o25.go m26 s26 h26
 refine lTaken_c f26.ow (by omega) fun w27 p57 c57 m27 f27=>⟨_,_,_,rfl,?_⟩
 have l27:=(l25.go m26 s26).no m27
 refine rSame31_c f27 l27.ow (by omega) fun w28 m28=>⟨_,rfl,tt (decide_eq_true rfl) ?_⟩
 have o28:=(o26.no m27).no m28
 have x28:=((x25.go m26 s26).no m27).no m28
 have y28:=((y25.go m26 s26).no m27).no m28
 have z28:=((z25.go m26 s26).no m27).no m28
 have u28:=((u25.go m26 s26).no m27).no m28
 have eL:=longL_eq (l:=allA A) fun x hx=>(hp x hx).1
 have eB:=bestL_eq (l:=allA A) (n:=n)
 rw [<- eL] at z28
 rw [<- eB] at u28
 refine ⟨_,x28.at'.at.fld (v:=.int .i64 (longL (allA A)).1) sc_int rfl,_,z28.at'.at.fld (v:=.int .i64 (longL (allA A)).1) sc_int rfl,tt (by simp) ⟨_,x28.at'.at.fld (v:=.int .i64 (longL (allA A)).2) sc_int rfl,_,z28.at'.at.fld (v:=.int .i64 (longL (allA A)).2) sc_int rfl,tt (by simp)
  ⟨_,y28.at'.at.fld (v:=.int .i64 (bestL (allA A) n).1) sc_int rfl,_,u28.at'.at.fld (v:=.int .i64 (bestL (allA A) n).1) sc_int rfl,tt (by simp) ⟨_,y28.at'.at.fld (v:=.int .i64 (bestL (allA A) n).2) sc_int rfl,_,u28.at'.at.fld (v:=.int .i64 (bestL (allA A) n).2) sc_int rfl,tt (by simp) ?_⟩⟩⟩⟩
 exact known31_c fun w29 m29=>⟨_,rfl,_,rfl,rfl,o28.md.no m29⟩
end
end Go.Proofs.YtelhlihjihklbaaGreat
end
section
open Go Go.Den
namespace Go.Proofs.YtelhlihjihklbaaGreat
open Go.ChangeShapes Go.WideShapes Go.RowKit Go.Joins
section
variable {H:Type} {enc:TypeId×Value->H} {w:World} {base:Nat} {held:Bool}
theorem open_act7 {n:Nat} {cs:List Value} {y:DataW H×List MemPlace} (hl:cs.length=3) (h:DataW.trod enc Tryz.prog w base (fun _=>true) held n 141 cs=some y) :
  ∃ x:Ab,cs=abV x/\x.2.1<=9223372036854775807:=by
 match cs,hl with
 | [c0,c1,c2],_ =>
  obtain ⟨y0,y1,y2,n',hx,_,h0,h1,h2⟩:=trod_st3 Tryz.underlying141 h
  have k0:Tryz.prog.cellsOf 3=1:=by kernel_rfl
  have k1:Tryz.prog.cellsOf 4=1:=by kernel_rfl
  simp only [k0,k1] at h0 h1 h2
  have h0:DataW.trod enc Tryz.prog w base (fun _=>true) held n' 3 [c0]=some y0:=h0
  have h1:DataW.trod enc Tryz.prog w base (fun _=>true) held n' 3 [c1]=some y1:=h1
  have h2:DataW.trod enc Tryz.prog w base (fun _=>true) held n' 4 [c2]=some y2:=h2
  obtain ⟨m0,e0,_,u0⟩:=DataW.trod_int Tryz.underlying3 h0
  obtain ⟨m1,e1,_,u1⟩:=DataW.trod_int Tryz.underlying3 h1
  obtain ⟨b2,e2,_⟩:=DataW.trod_bool Tryz.underlying4 h2
  have e0:c0=.int .i64 m0:=by simpa using e0
  have e1:c1=.int .i64 m1:=by simpa using e1
  have e2:c2=.bool b2:=by simpa using e2
  subst e0 e1 e2
  exact ⟨(m0,m1,b2),rfl,(i64_bounds u1).2⟩
set_option maxRecDepth 100000 in
theorem open_acts7 {r:Reach} {b0:Nat} {v:Value} {d:DataW H} {ps:List MemPlace} (hval:Value.okWide Tryz.prog w r b0 41 v) (hd:DataW.Trod enc Tryz.prog w base (fun _=>true) held 41 v d ps) :
  ∃ a l c acts,v=.slice a l c/\acts.length=l/\Row w a (rowB acts)/\∀ x∈acts,x.2.1<=9223372036854775807:=by
 obtain ⟨fuel,hf⟩:=hd
 obtain ⟨a,l,c,rfl⟩:=okWide_slice Tryz.underlying41 hval
 rcases Go.Deep.open_slice Tryz.underlying41 hf with ⟨h1,h2⟩ | ⟨a',l',c',m,n,DD,Pl,h1,_,hlc,hm,hmm,hx,hel⟩
 ·simp [Value.cells] at h1
  obtain ⟨rfl,rfl,rfl⟩:=h1
  exact ⟨none,0,0,[],rfl,rfl,.inl rfl,fun x hx=>by cases hx⟩
 ·simp [Value.cells] at h1
  obtain ⟨rfl,rfl,rfl⟩:=h1
  rw [if_pos rfl] at hmm
  subst hmm
  have k3:Tryz.prog.cellsOf 141=3:=by kernel_rfl
  rw [k3] at hel
  by_cases h0:l=0
  ·exact ⟨some a',l,m,[],rfl,by simp [h0],.inl rfl,fun x hx=>by cases hx⟩
  obtain ⟨b,off,spot⟩:=a'
  have hspot:spot=none:=by
   obtain ⟨cs',hc,ht⟩:=hel 0 (by omega)
   obtain ⟨_,hcl,hcc⟩:=World.cells?_some hc
   obtain ⟨x,rfl,_⟩:=open_act7 hcl ht
   have h00:=hcc 0 (by omega)
   have:=World.cell?_spot (h00.trans rfl)
   simpa [Addr.add] using this
  subst hspot
  have each:∀ i∈List.range l,∃ x:Ab,(∀ (j:Nat) (v:Value),(abV x)[j]?=some v->w.cell? ⟨b,off+(i*3+j),none⟩=some v)/\x.2.1<=9223372036854775807:=by
   intro i hi
   have hi:=List.mem_range.1 hi
   obtain ⟨cs',hc,ht⟩:=hel i (by omega)
   obtain ⟨_,hcl,hcc⟩:=World.cells?_some hc
   obtain ⟨x,rfl,hb⟩:=open_act7 hcl ht
   refine ⟨x,fun j v hj=>?_,hb⟩
   have hj3:=(List.getElem?_eq_some_iff.1 hj).1
   have:=hcc j (by have:(abV x).length=3:=rfl; omega)
   rw [add_none,add_none,Nat.add_assoc] at this
   rw [this,hj]
  obtain ⟨ys,hyl,hys⟩:=list_choose3 (p:=fun (i:Nat) (x:Ab)=>(∀ (j:Nat) (v:Value),(abV x)[j]?=some v->w.cell? ⟨b,off+(i*3+j),none⟩=some v)/\x.2.1<=9223372036854775807) (List.range l) each
  rw [List.length_range] at hyl
  have hfl:(rowB ys).length=ys.length*3:=flat_len' abV_len ys
  refine ⟨some ⟨b,off,none⟩,l,m,ys,rfl,hyl,.inr ⟨b,off,rfl,At.of_cells (by rw [hfl]; omega) fun j hj=>?_⟩,fun x hx=>?_⟩
  ·have hj':j<l*3:=by rw [hfl,hyl] at hj; exact hj
   have hi:j / 3<l:=by omega
   have hyi:ys[j / 3]?=some ys[j / 3]:=by simp [hyl,hi]
   have hp:=(hys (j / 3) (j / 3) ys[j / 3] (by simp [hi]) hyi).1
   obtain ⟨u,hu⟩:∃ u,(abV ys[j / 3])[j % 3]?=some u:=⟨(abV ys[j / 3])[j % 3]'(by show j % 3<3; omega),List.getElem?_eq_getElem _⟩
   have h4:=flat_cell abV_len hyi hu
   have h5:=hp (j % 3) u hu
   rw [show j / 3*3+j % 3=j by omega] at h4 h5
   rw [h5]
   have h4:(rowB ys)[j]?=some u:=h4
   rw [List.getElem?_eq_getElem hj] at h4
   exact h4.symm
  ·obtain ⟨i,hi,e⟩:=List.getElem_of_mem hx
   exact (hys i i x (by rw [List.getElem?_range (by omega)]) (by rw [List.getElem?_eq_getElem hi,e])).2
end
end Go.Proofs.YtelhlihjihklbaaGreat
end
