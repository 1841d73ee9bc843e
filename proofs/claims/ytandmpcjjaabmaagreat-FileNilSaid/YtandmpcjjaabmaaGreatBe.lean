/- Parts of the proof, in order: what the statement leans on. -/
import Derived.Test.YtandmpcjjaabmaaGreatBd
section
open Go Go.Den Go.Proofs
namespace Go.Den
section
variable {P:Program} {w:World}
end
end Go.Den
namespace Go.Proofs.YtandmpcjjaabmaaGreat
section
variable {w0 w w':World} {R R':Nat->Prop} {rl:Nat->Nat} {sp c d mo mm:Nat} {ca oa:Nat->Nat} {Lo Lm:List (Int×Value)} {P V:Ps} {K:Value->World->Prop}
end
end Go.Proofs.YtandmpcjjaabmaaGreat
open Go Go.Den Go.Proofs
namespace Go.Proofs.YtandmpcjjaabmaaGreat
section
variable {w0 w w':World} {R R':Nat->Prop} {rl:Nat->Nat} {sp c d mo mm:Nat} {ca oa:Nat->Nat} {Lo Lm:List (Int×Value)} {P V:Ps} {K:Value->World->Prop}
end
end Go.Proofs.YtandmpcjjaabmaaGreat
open Go Go.Den Go.Proofs
namespace Go.Proofs.YtandmpcjjaabmaaGreat
section
variable {w0 w w':World} {R R':Nat->Prop} {rl:Nat->Nat} {sp c d mo mm:Nat} {ca oa:Nat->Nat} {Lo Lm:List (Int×Value)} {P V:Ps} {K:Value->World->Prop}
end
end Go.Proofs.YtandmpcjjaabmaaGreat
open Go Go.Den Go.Proofs
namespace Go.Den
end Go.Den
namespace Go.Proofs.YtandmpcjjaabmaaGreat
section
variable {w0 w w':World} {R R':Nat->Prop} {rl:Nat->Nat} {sp c d mo mm:Nat} {ca oa:Nat->Nat} {Lo Lm:List (Int×Value)} {P V:Ps} {K:Value->World->Prop}
theorem newX_C {C:Ca} {b f:Nat} {data:Bk} {after:List Int}:newX ⟨C,V.last,V.ons⟩ b f data after=newX V b f data after:=rfl
theorem patE_C {C:Ca} {n f:Int} {data:Bk} {after:List Int} (e:C.D=V.C.D):patE ⟨C,V.last,V.ons⟩ n f data after=patE V n f data after:=by
 unfold patE
 show (if errOf C.D n≠0 then (3:Int) else _)=_
 rw [e]; rfl
theorem patS_C {C:Ca} {n f:Int} {data:Bk} {after:List Int} (e:C.D=V.C.D):(patS ⟨C,V.last,V.ons⟩ n f data after).last=(patS V n f data after).last/\(patS ⟨C,V.last,V.ons⟩ n f data after).ons=(patS V n f data after).ons/\(patS V n f data after).C=V.C:=by
 unfold patS
 rw [patE_C e,newX_C]
 by_cases h:patE V n f data after=0
 ·rw [if_pos h,if_pos h]
  refine ⟨rfl,?_,(newO_C (V:=V)).1⟩
  show (newO ⟨C,V.last,V.ons⟩ _).ons.map _=(newO V _).ons.map _
  rw [newO_ons e]
 ·rw [if_neg h,if_neg h]; exact ⟨rfl,rfl,rfl⟩
theorem patN_C {C:Ca} {n f:Int} {data:Bk} {after:List Int} (e:C.D=V.C.D):patN ⟨C,V.last,V.ons⟩ n f data after=patN V n f data after:=by unfold patN; rw [patE_C e]
theorem qPatch_c {n frm:Int} {a3 a4:Option Addr} {l3 c3 l4 c4:Nat} {data:Bk} {after:List Int} (hP:Pz w0 R w sp d V) (hlast:V.last+1<=1000000) (hd:data.length=l3) (hrd:Row w a3 (u8L data)) (hdo:data≠[]->∀ q,a3=some q->¬ R q.block) (h63:l3<=9223372036854775807)
  (ha:after.length=l4) (ha6:l4<=1000000) (hra:Row w a4 (iL after)) (hao:after≠[]->∀ q,a4=some q->¬ R q.block)
  (hk:∀ w',Mod R w w'->Pz w0 (Gro R w w') w' sp d (patS V n frm data after)->K (.tuple #[.int .i64 (patN V n frm data after),.int .i64 (patE V n frm data after)]) w') :
  Cal Tryz.prog F_patch_Store_Patch #[.pointer (some ⟨sp,0,none⟩),.int .i64 n,.int .i64 frm,.slice a3 l3 c3,.slice a4 l4 c4] w K:=by
 obtain ⟨C,eD,eM,hP⟩:=hP
 refine pPatch_c (n:=n) (frm:=frm) hP hlast hd hrd hdo h63 ha ha6 hra hao fun w' C' M h e1 e2=>?_
 obtain ⟨p1,p2,p3⟩:=patS_C (V:=V) (C:=C) (n:=n) (f:=frm) (data:=data) (after:=after) eD
 rw [patN_C eD,patE_C eD]
 refine hk w' M ⟨C',?_,?_,?_⟩
 ·rw [p3,e1]; exact eD
 ·rw [p3,e2]; exact eM
 ·rw [<- p1,<- p2]; exact h
def safeV (V:Ps) (n:Int):Bool:=decide (1<=n/\n<=(V.last:Int))&&!V.opn n
theorem qSafe_c {n:Int} (hP:Pz w0 R w sp d V) (hk:K (.bool (safeV V n)) w):Cal Tryz.prog F_patch_Store_Safe #[.pointer (some ⟨sp,0,none⟩),.int .i64 n] w K:=by
 obtain ⟨C,eD,eM,hw,rl,c,mo,mm,ca,oa,Lo,Lm,h⟩:=hP
 apply C_patch_Store_Safe
 unfold D_patch_Store_Safe
 obtain ⟨p,hp,hpn,_⟩:=h.lookO n
 refine Share.cut (fun x w'=>w=w'/\x=[.bool (safeV V n)]) (tt rfl (given_c h ⟨_,rfl,cond_of (fun hb=>?_) (fun hb=>?_)⟩)) ?_
 ·refine ⟨_,rfl,_,h.lo',p,hp,rfl,?_⟩
  unfold safeV
  rw [show decide (1<=n/\n<=(V.last:Int))=true from hb,Bool.true_and]
  have:p.isNone=!V.opn n:=hpn
  rw [this]
 ·refine ⟨rfl,?_⟩
  unfold safeV
  rw [show decide (1<=n/\n<=(V.last:Int))=false from hb,Bool.false_and]
 ·rintro x w' ⟨rfl,rfl⟩
  exact ⟨_,rfl,hk⟩
end
end Go.Proofs.YtandmpcjjaabmaaGreat
open Go Go.Den Go.Proofs
namespace Go.Proofs.YtandmpcjjaabmaaGreat
theorem build_store (w:World) (p:Option Addr) (n:Int) (m1 m2:Option Nat):(Instr.build 239 #[(0,.pointer p),(1,.int .i64 n),(3,.map m1),(4,.map m2)]).run Tryz.prog w=.ok (.agg ⟨[.pointer p,.int .i64 n,.int .i64 0,.map m1,.map m2]⟩) w:=by kernel_rfl
theorem box_sto (w:World) (cs:List Value):(Instr.box 239 (.agg ⟨cs⟩)).run Tryz.prog w=.ok (.pointer (some ⟨w.heap.size,0,none⟩)) (w.alloc (.cells ⟨cs⟩ 239)):=rfl
def zeroV (k n:Nat):Ps:=⟨⟨newSt k,n,[]⟩,0,[]⟩
section
variable {w0 w w':World} {R R':Nat->Prop} {sp c d sb mb sc:Nat} {L:List (Int×Value)} {P V:Ps} {K:Value->World->Prop}
set_option maxRecDepth 100000 in
theorem qNew_c {D:St} {k:Nat} (hd:DiskIn w R d sb mb sc L D) (hsm:Small D) (hlo:∀ x,R x->w0.heap.size<=x/\x<w.heap.size) (hm:Mod No w0 w) (hrun:D.left=-1) (h1:1<=k) (h2:k<=4096) (hf:D.vs.length<=k)
  (hk:∀ w' sp,Mod No w w'->Pz w0 (Gro R w w') w' sp d ⟨⟨D,k,[]⟩,0,[]⟩->K (.tuple #[.pointer (some ⟨sp,0,none⟩),.int .i64 0]) w'):Cal Tryz.prog F_patch_Open #[.pointer (some ⟨d,0,none⟩),.int .i64 k] w K:=by
 classical
 apply C_patch_Open
 unfold D_patch_Open
 refine cNew_c (w0:=w0) hd hsm hlo hm (fun h=>by omega) fun k' hk' _ _ w2 c m2 x2=>⟨_,_,rfl,ff rfl ?_⟩
 have:k'=k:=by omega
 subst this
 have hx2:=x2
 obtain ⟨rl,m,sb',mb',sc',lc',la',L',mp',hC⟩:=x2
 refine Len_c hC.disk ⟨_,rfl,_,_,makeMap_run,_,_,makeMap_run,_,fun w=>build_store w _ _ _ _,_,_,box_sto _ _,?_⟩
 have m3:Mod No w2 (w2.alloc (.map #[] 0)):=(Mod.refl No w2).alloc _
 have p3:MapAt (w2.alloc (.map #[] 0)) w2.heap.size []:=MapAt.new
 have s3:(w2.alloc (.map #[] 0)).heap.size=w2.heap.size+1:=by simp
 generalize w2.alloc (.map #[] 0)=w3 at *
 have m4:Mod No w3 (w3.alloc (.map #[] 0)):=(Mod.refl No w3).alloc _
 have p4:MapAt (w3.alloc (.map #[] 0)) w3.heap.size []:=MapAt.new
 have s4:(w3.alloc (.map #[] 0)).heap.size=w3.heap.size+1:=by simp
 generalize w3.alloc (.map #[] 0)=w4 at *
 have m5:Mod No w4 (w4.alloc (.cells ⟨[.pointer (some ⟨c,0,none⟩),.int .i64 D.vs.length,.int .i64 0,.map (some w2.heap.size),.map (some w3.heap.size)]⟩ 239)):=(Mod.refl No w4).alloc _
 have a5:AtU (w4.alloc (.cells ⟨[.pointer (some ⟨c,0,none⟩),.int .i64 D.vs.length,.int .i64 0,.map (some w2.heap.size),.map (some w3.heap.size)]⟩ 239)) w4.heap.size 0 [.pointer (some ⟨c,0,none⟩),.int .i64 D.vs.length,.int .i64 0,.map (some w2.heap.size),.map (some w3.heap.size)]:=AtU.new
 have s5:(w4.alloc (.cells ⟨[.pointer (some ⟨c,0,none⟩),.int .i64 D.vs.length,.int .i64 0,.map (some w2.heap.size),.map (some w3.heap.size)]⟩ 239)).heap.size=w4.heap.size+1:=by simp
 generalize w4.alloc (.cells ⟨[.pointer (some ⟨c,0,none⟩),.int .i64 D.vs.length,.int .i64 0,.map (some w2.heap.size),.map (some w3.heap.size)]⟩ 239)=w5 at *
 have M5:Mod No w2 w5:=(m3.no m4).no m5
 have hz2:=m2.size
 have hw0:=hm.size
 have hG:∀ x,Gro R w w2 x->w0.heap.size<=x/\x<w2.heap.size:=fun x hx=>by
  rcases hx with hx | hx
  ·have:=hlo x hx; omega
  ·omega
 refine hk w5 w4.heap.size (m2.no M5) ⟨⟨D,k',[]⟩,rfl,rfl,?_,fun x=>if x=w4.heap.size then 2 else if x=w2.heap.size then 3 else if x=w3.heap.size then 4 else if Gro R w w2 x then 1 else 0,c,w2.heap.size,w3.heap.size,fun _=>0,fun _=>0,[],[],?_⟩
 ·exact {
   lne:=fun o ho=>(by cases ho)
   pin:=fun o ho=>(by cases ho)
   unp:=fun x hx=>(by cases hx)
   run:=hrun
   acc:=fun o ho=>(by cases ho)
   may:=fun o ho=>(by cases ho)
   cls:=fun o ho=>(by cases ho)
   afl:=fun x hx=>(by cases hx) }
 have e1:(fun x=>(if x=w4.heap.size then 2 else if x=w2.heap.size then 3 else if x=w3.heap.size then 4 else if Gro R w w2 x then 1 else 0)=1)=Gro R w w2:=by
  funext x
  apply propext
  constructor
  ·intro e
   by_cases h1:x=w4.heap.size
   ·rw [if_pos h1] at e; omega
   ·rw [if_neg h1] at e
    by_cases h2:x=w2.heap.size
    ·rw [if_pos h2] at e; omega
    ·rw [if_neg h2] at e
     by_cases h3:x=w3.heap.size
     ·rw [if_pos h3] at e; omega
     ·rw [if_neg h3] at e
      by_cases h4:Gro R w w2 x
      ·exact h4
      ·rw [if_neg h4] at e; omega
  ·intro hx
   have:=hG x hx
   rw [if_neg (by omega),if_neg (by omega),if_neg (by omega),if_pos hx]
 exact {
  cx:=by rw [e1]; exact hx2.nos M5
  cell:=a5
  mapO:=(p3.keep m4 id).keep m5 id
  mapM:=p4.keep m5 id
  rsp:=if_pos rfl
  rmo:=by rw [if_neg (by omega),if_pos rfl]
  rmm:=by rw [if_neg (by omega),if_neg (by omega),if_pos rfl]
  chs:=fun x hx=>(by cases hx)
  ons:=fun o ho=>(by cases ho)
  keysO:=fun p hp=>(by cases hp)
  keysM:=fun p hp=>(by cases hp)
  wf:={ full:=hf,onsN:=List.nodup_nil,onlt:=fun o ho=>(by cases ho),base:=fun o ho=>(by cases ho),llen:=fun o ho=>(by cases ho),ids:=List.nodup_nil,idr:=fun x hx=>(by cases hx),chb:=fun o ho=>(by cases ho),dat:=fun x hx=>(by cases hx),aft:=fun x hx=>(by cases hx),last:=Nat.zero_le _ }
  reg:=fun x hx=>by
   by_cases h4:Gro R w w2 x
   ·rcases h4 with h4 | h4
    ·exact .inl h4
    ·exact .inr (by omega)
   ·right
    by_cases h1:x=w4.heap.size
    ·omega
    ·by_cases h2:x=w2.heap.size
     ·omega
     ·by_cases h3:x=w3.heap.size
      ·omega
      ·rw [if_neg h1,if_neg h2,if_neg h3,if_neg h4] at hx; omega
  lo:=fun x hx=>by
   rcases hx with hx | hx
   ·have:=hlo x hx; omega
   ·omega
  mod:=((hm.no m2).no M5) }
theorem lit (w:World) (v:UInt8):Mod No w (w.alloc (.cells ⟨[.int .u8 (v.toNat:Int)]⟩ 5 (1,2)))/\Row (w.alloc (.cells ⟨[.int .u8 (v.toNat:Int)]⟩ 5 (1,2))) (some ⟨w.heap.size,0,none⟩) (u8L [v]) :=
 ⟨(Mod.refl No w).alloc _,.inr ⟨_,_,rfl,_,_,_,heap_new w _,by simp [u8L],by simp [u8L,u8]⟩⟩
def p0:Ps:=zeroV 8 8
def p1:Ps:=patS p0 5 0 [97] []
def p2:Ps:=patS p1 6 0 [98] [1]
def p3:Ps:=patS p2 5 1 [99] [2]
def p4:Ps:=wrV p3 5
def p5:Ps:=flV p4
def p6:Ps:=wrV p5 6
def p7:Ps:=flV p6
end
end Go.Proofs.YtandmpcjjaabmaaGreat
end
section
open Go Go.Den Go.Proofs
namespace Go.Proofs.YtandmpcjjaabmaaGreat
end Go.Proofs.YtandmpcjjaabmaaGreat
open Go Go.Den Go.Proofs
namespace Go.Proofs.YtandmpcjjaabmaaGreat
section
variable {w w' w0:World} {R:Nat->Prop} {sp d:Nat} {V:Ps} {K:Value->World->Prop}
theorem Pz.wf (h:Pz w0 R w sp d V):WFS V/\(∀ x∈V.all,∀ k∈x.after,k<(x.id:Int))/\(∀ o∈V.ons,o.l≠[])/\V.C.D.left=-1/\WF V.C.D:=by
 obtain ⟨C,eD,eM,hP⟩:=h
 have hwf:=hP.wf
 refine ⟨?_,hwf.1.afl,hwf.1.lne,?_,?_⟩
 ·exact WFS.cache (P:=⟨C,V.last,V.ons⟩) (C:=V.C) hwf.2.1 (by rw [eD]) eM.symm
 ·rw [<- eD]; exact hwf.1.run
 ·rw [<- eD]; exact hwf.2.2.2.1
end
end Go.Proofs.YtandmpcjjaabmaaGreat
open Go Go.Den Go.Proofs
namespace Go.Proofs.YtandmpcjjaabmaaGreat
section
variable {w w' w0:World} {R:Nat->Prop} {sp d:Nat} {V:Ps} {K:Value->World->Prop}
theorem Bnd_fl {D:St} (h:D.left=-1) {m:Nat} (hm:1<=m):Bnd (flSt D) m:=by
 intro v hv
 have e:flSt D=⟨D.vs.map fun v=>[lastV v],dec D.left⟩:=by unfold flSt; rw [if_neg (by omega)]
 rw [e] at hv
 obtain ⟨u,_,rfl⟩:=List.mem_map.1 hv
 exact hm
end
end Go.Proofs.YtandmpcjjaabmaaGreat
end
section
open Go Go.Den Go.Proofs
namespace Go.Proofs.YtandmpcjjaabmaaGreat
structure Mk where
 b:Nat
 after:List Nat
theorem opn_iff {V:Ps} {n:Int}:V.opn n=true↔∃ x∈V.all,(x.id:Int)=n:=by
 unfold Ps.opn
 rw [List.any_eq_true]
 constructor
 ·rintro ⟨x,hx,e⟩; exact ⟨x,hx,by simpa using e⟩
 ·rintro ⟨x,hx,e⟩; exact ⟨x,hx,by simpa using e⟩
end Go.Proofs.YtandmpcjjaabmaaGreat
end
section
open Go Go.Den Go.Proofs
namespace Go.Proofs.YtandmpcjjaabmaaGreat
section
variable {w w' w0:World} {R R':Nat->Prop} {sp d base lc:Nat} {la:Option Addr} {ms:List Mk} {V:Ps} {K:Value->World->Prop}
theorem flat_get {H:List (List Value)} (hH:∀ c∈H,c.length=3):∀ {k j:Nat} {c:List Value} {v:Value},H[k]?=some c->c[j]?=some v->H.flatten[k*3+j]?=some v:=by
 induction H with
 | nil=>intro k j c v h; simp at h
 | cons u r ih =>
  intro k j c v h hv
  have hu:=hH u (by simp)
  rw [List.flatten_cons]
  cases k with
  | zero =>
   simp at h; subst h
   rw [Nat.zero_mul,Nat.zero_add,List.getElem?_append_left (by have:=(List.getElem?_eq_some_iff.1 hv).1; omega)]; exact hv
  | succ k =>
   rw [List.getElem?_append_right (by omega)]
   have e:(k+1)*3+j-u.length=k*3+j:=by omega
   rw [e]; exact ih (fun c hc=>hH c (by simp [hc])) (by simpa using h) hv
end
end Go.Proofs.YtandmpcjjaabmaaGreat
end
section
open Go Go.Den Go.Proofs
namespace Go.Proofs.YtandmpcjjaabmaaGreat
section
variable {w w' w0:World} {R R':Nat->Prop} {sp d base lc:Nat} {la:Option Addr} {ms:List Mk} {V:Ps} {K:Value->World->Prop}
theorem bcell {p q:Prop} [Decidable p] [Decidable q] (h:p↔q):[Value.bool (decide p)]=[Value.bool (decide q)]:=by rw [decide_eq_decide.2 h]
theorem bcellF {q:Prop} [Decidable q] (h:¬ q):[Value.bool false]=[Value.bool (decide q)]:=by rw [decide_eq_false h]
theorem Pz.keep {S:Nat->Prop} (h:Pz w0 R w sp d V) (k:Mod S w w') (hs:∀ x,R x->¬ S x) (hw:∀ x,x<w0.heap.size->¬ S x):Pz w0 R w' sp d V:=by
 obtain ⟨C,e1,e2,hw',rl,c,mo,mm,ca,oa,Lo,Lm,h⟩:=h
 exact ⟨C,e1,e2,hw',rl,c,mo,mm,ca,oa,Lo,Lm,h.keepS k hs hw⟩
end
end Go.Proofs.YtandmpcjjaabmaaGreat
end
section
open Go Go.Den Go.Proofs
namespace Go.Proofs.YtandmpcjjaabmaaGreat
structure Rs where
 D:St
 base:List Bk
 l:List Ch
 last:Nat
section
variable {w0 w w':World} {R:Nat->Prop} {rl:Nat->Nat} {rp r vb vc bc lc:Nat} {hs:List (Nat×Nat)} {ba la:Option Addr} {H:List (Option Addr×Nat)} {S:Rs} {K:Value->World->Prop}
end
end Go.Proofs.YtandmpcjjaabmaaGreat
end
section
open Go Go.Den Go.Proofs
namespace Go.Proofs.YtandmpcjjaabmaaGreat
def rootN:Nd:=⟨2,1,0,1,[0,0,0,0,0,0,0,0]⟩
theorem rootN_wf:nWf rootN:=rfl
theorem rootN_ok:nOk rootN=true:=by decide
def volB (g:Gm) (k i:Nat):Bk:=if i=0 then grpB g (hBase g k) else if k=0/\i=1 then overB zeroB 64 (inoB rootN) else zeroB
def volX (g:Gm) (k i:Nat):Int×Bk:=(2+k*g.gr+i,volB g k i)
def volG (g:Gm) (k n:Nat):List (Int×Bk):=(List.range n).map (volX g k)
def volN (g:Gm):Nat:=1+(gTabs g).toNat
def volL (g:Gm) (n:Nat):List (Int×Bk):=(List.range n).flatMap fun k=>volG g k (volN g)
def wrAll (D:St) (l:List (Int×Bk)):St:=l.foldl (fun D x=>wrSt D x.1 x.2) D
def fmt0 (D:St):St:=flSt (wrSt (wrSt D 0 zeroB) 1 zeroB)
def fmt1 (D:St) (g:Gm):St:=flSt (wrAll (fmt0 D) (volL g g.gs.toNat))
def fmtSt (D:St) (g:Gm):St:=flSt (wrSt (fmt1 D g) 1 (supB ⟨1,g⟩))
def fmtE (D:St) (g:Gm):Int:=if gOk g=false then 1 else if (D.vs.length:Int)<gSize g then 4 else 0
theorem zeroB_len:zeroB.length=256:=List.length_replicate
theorem volB_len (g:Gm) (k i:Nat):(volB g k i).length=256:=by
 unfold volB
 split
 ·exact grpB_len (hBase_wf _ _)
 split
 ·rw [overB_len (by rw [inoB_len rootN_wf,zeroB_len]; omega),zeroB_len]
 ·exact zeroB_len
theorem volG_succ (g:Gm) (k n:Nat):volG g k (n+1)=volG g k n++[volX g k n]:=by
 unfold volG; rw [List.range_succ,List.map_append]; rfl
theorem volL_succ (g:Gm) (n:Nat):volL g (n+1)=volL g n++volG g n (volN g):=by
 unfold volL; rw [List.range_succ,List.flatMap_append]; simp
theorem wrAll_snoc (D:St) (l:List (Int×Bk)) (x:Int×Bk):wrAll D (l++[x])=wrSt (wrAll D l) x.1 x.2:=by
 unfold wrAll; rw [List.foldl_append]; rfl
theorem wrAll_app (D:St) (l m:List (Int×Bk)):wrAll D (l++m)=wrAll (wrAll D l) m:=List.foldl_append
theorem wrSt_len (D:St) (n:Int) (ys:Bk):(wrSt D n ys).vs.length=D.vs.length:=by
 unfold wrSt; split
 ·rfl
 ·simp
theorem wrSt_run {D:St} (h:D.left=-1) (n:Int) (ys:Bk):(wrSt D n ys).left=-1:=by
 unfold wrSt; split
 ·exact h
 ·show dec D.left=-1; rw [h]; rfl
theorem flSt_len (D:St):(flSt D).vs.length=D.vs.length:=by
 unfold flSt; split
 ·rfl
 ·simp
theorem flSt_run {D:St} (h:D.left=-1):(flSt D).left=-1:=by
 unfold flSt; split
 ·exact h
 ·show dec D.left=-1; rw [h]; rfl
theorem wrAll_len (D:St) (l:List (Int×Bk)):(wrAll D l).vs.length=D.vs.length:=by
 induction l generalizing D with
 | nil=>rfl
 | cons x l ih=>exact (ih _).trans (wrSt_len _ _ _)
theorem wrAll_run {D:St} (h:D.left=-1) (l:List (Int×Bk)):(wrAll D l).left=-1:=by
 induction l generalizing D with
 | nil=>exact h
 | cons x l ih=>exact ih (wrSt_run h _ _)
theorem Bnd_all {D:St} {m:Nat} (h:Bnd D m) (l:List (Int×Bk)):Bnd (wrAll D l) (m+l.length):=by
 induction l generalizing D m with
 | nil=>exact h
 | cons x l ih =>
  have:=ih (Bnd_wr h x.1 x.2)
  rw [List.length_cons]
  exact this.mono (by omega)
theorem volG_len (g:Gm) (k n:Nat):(volG g k n).length=n:=by simp [volG]
theorem volN_b {g:Gm} (h:gOk g=true):(volN g:Int)=1+g.no / 4/\volN g<=17:=by
 have e:gTabs g=g.no / 4:=by unfold gTabs; rw [if_pos h]
 obtain ⟨_,_,_,_,h5,h6,_⟩:=gOk_iff.1 h
 unfold volN
 rw [e]
 constructor <;> omega
theorem volL_len {g:Gm} (h:gOk g=true) (n:Nat):(volL g n).length<=17*n:=by
 induction n with
 | zero=>exact Nat.le_refl _
 | succ n ih =>
  have:=(volN_b h).2
  rw [volL_succ,List.length_append,volG_len]; omega
theorem volX_in {g:Gm} (h:gOk g=true) {k i n:Nat} (hk:(k:Int)<g.gs) (hi:i<volN g) (hn:gSize g<=n):2<=(volX g k i).1/\(volX g k i).1<n:=by
 have hv:=(volN_b h).1
 have e:gSize g=2+g.gs*g.gr:=by unfold gSize; rw [if_pos h]
 obtain ⟨h1,h2,h3,h4,h5,h6,h7,h8,h9⟩:=gOk_iff.1 h
 have hmul:((k:Int)+1)*g.gr<=g.gs*g.gr:=Int.mul_le_mul_of_nonneg_right (by omega) (by omega)
 have hp:0<=(k:Int)*g.gr:=Int.mul_nonneg (by omega) (by omega)
 have hs:((k:Int)+1)*g.gr=k*g.gr+g.gr:=by rw [Int.add_mul,Int.one_mul]
 show 2<=2+(k:Int)*g.gr+i/\2+(k:Int)*g.gr+i<n
 omega
theorem fmt0_run {D:St} (h:D.left=-1):(fmt0 D).left=-1:=flSt_run (wrSt_run (wrSt_run h _ _) _ _)
theorem fmt0_len (D:St):(fmt0 D).vs.length=D.vs.length:=by unfold fmt0; rw [flSt_len,wrSt_len,wrSt_len]
theorem fmt1_run {D:St} (h:D.left=-1) (g:Gm):(fmt1 D g).left=-1:=flSt_run (wrAll_run (fmt0_run h) _)
theorem fmt1_len (D:St) (g:Gm):(fmt1 D g).vs.length=D.vs.length:=by unfold fmt1; rw [flSt_len,wrAll_len,fmt0_len]
theorem fmtSt_run {D:St} (h:D.left=-1) (g:Gm):(fmtSt D g).left=-1:=flSt_run (wrSt_run (fmt1_run h g) _ _)
theorem fmtSt_len (D:St) (g:Gm):(fmtSt D g).vs.length=D.vs.length:=by unfold fmtSt; rw [flSt_len,wrSt_len,fmt1_len]
theorem fmt0_bnd {D:St} (h:D.left=-1):Bnd (fmt0 D) 1:=Bnd_fl (wrSt_run (wrSt_run h _ _) _ _) (Nat.le_refl _)
theorem fmt1_bnd {D:St} (h:D.left=-1) (g:Gm):Bnd (fmt1 D g) 1:=Bnd_fl (wrAll_run (fmt0_run h) _) (Nat.le_refl _)
theorem fmtSt_bnd {D:St} (h:D.left=-1) (g:Gm):Bnd (fmtSt D g) 1:=Bnd_fl (wrSt_run (fmt1_run h g) _ _) (Nat.le_refl _)
def headAt (D:St) (g:Gm) (k:Int):Hd×Int:=if (gHead g k).2≠0 then (hZ,(gHead g k).2) else hGet g (rdB D (gHead g k).1)
def slotAt (D:St) (g:Gm) (s:Int):Nd×Int:=if (gPlace g s).2.2≠0 then (nZ,(gPlace g s).2.2) else inoAt (rdB D (gPlace g s).1) (gPlace g s).2.1
theorem headAt_wf (D:St) (g:Gm) (k:Int):hWf (headAt D g k).1:=by unfold headAt; split; exact hZ_wf; exact hGet_wf _ _
theorem slotAt_wf (D:St) (g:Gm) (s:Int):nWf (slotAt D g s).1:=by unfold slotAt; split; exact nZ_wf; exact inoAt_wf _ _
def headOk (D:St) (g:Gm) (k:Nat):Bool:=decide ((headAt D g k).2=0/\(headAt D g k).1.no=k)
def rootOk (D:St) (g:Gm):Bool:=decide ((slotAt D g 1).2=0/\(slotAt D g 1).1.kind=2)
def mntOk (D:St) (g:Gm):Bool:=(List.range g.gs.toNat).all (headOk D g)&&rootOk D g
def mntS (D:St):Sp×Int×Int:=supChoose (rdB D 0) (rdB D 1) D.vs.length
def mnt (D:St):Sp×Int:=if (mntS D).2.2≠0 then (sZ,(mntS D).2.2) else if mntOk D (mntS D).1.geo=true then ((mntS D).1,0) else (sZ,8)
def nextTo (D:St) (g:Gm):Nat->Int
 | 0=>0
 | n+1=>if (slotAt D g n).1.id > nextTo D g n then (slotAt D g n).1.id else nextTo D g n
theorem nextTo_nn (D:St) (g:Gm):∀ n,0<=nextTo D g n
 | 0=>Int.le_refl _
 | n+1=>by
  have:=nextTo_nn D g n
  unfold nextTo
  split <;> omega
theorem inoG_id (xs:List UInt8):0<=(inoG xs).1.id/\(inoG xs).1.id<=4611686018427387904:=by
 unfold inoG
 split
 ·decide
 split
 ·rename_i h
  have:=nOk_b h.2.2
  exact ⟨this.2.2.2.2.2.2.1,this.2.2.2.2.2.2.2.1⟩
 ·decide
theorem nZ_id:0<=nZ.id/\nZ.id<=4611686018427387904:=by decide
theorem slotAt_id (D:St) (g:Gm) (s:Int):0<=(slotAt D g s).1.id/\(slotAt D g s).1.id<=4611686018427387904:=by
 unfold slotAt
 split
 ·exact nZ_id
 unfold inoAt
 split
 ·exact nZ_id
 ·exact inoG_id _
theorem nextTo_b (D:St) (g:Gm):∀ n,nextTo D g n<=4611686018427387904
 | 0=>by show (0:Int)<=_; decide
 | n+1=>by
  have:=nextTo_b D g n
  have:=(slotAt_id D g n).2
  unfold nextTo
  split <;> omega
theorem hOk_base {g:Gm} (h:gOk g=true) {k:Int} (h0:0<=k) (h1:k<g.gs):hOk g (hBase g k)=true:=by
 have hv:=volN_b h
 have hn:1+(gTabs g).toNat=volN g:=rfl
 obtain ⟨g1,g2,g3,g4,g5,g6,g7,g8,g9⟩:=gOk_iff.1 h
 refine hOk_iff.2 ⟨h,⟨h0,h1⟩,fun i hi=>⟨fun e=>?_,fun e=>?_⟩,fun i hi=>⟨fun e=>?_,fun e e2=>?_⟩⟩
 ·show bitB (baseB (1+(gTabs g).toNat)) i=true
  rw [hn,bitB_base (by omega),decide_eq_true_iff]; omega
 ·show bitB (baseB (1+(gTabs g).toNat)) i=false
  rw [hn,bitB_base (by omega),decide_eq_false_iff_not]; omega
 ·show bitB (baseS k) i=false
  rw [bitB_baseS,Bool.and_eq_false_iff,decide_eq_false_iff_not,decide_eq_false_iff_not]; omega
 ·show bitB (baseS k) i=true
  have e1:k=0:=e
  rw [bitB_baseS,decide_eq_true e1,decide_eq_true e2]; rfl
theorem wrE_in {D:St} {n:Int} {ys:Bk} (h0:0<=n) (h1:n<D.vs.length) (h:ys.length=256):wrE D n ys=0:=by
 have e:errOf D n=0:=by unfold errOf; rw [if_neg (by omega)]
 unfold wrE
 rw [e,if_neg (by decide),if_neg (by omega)]
end Go.Proofs.YtandmpcjjaabmaaGreat
end
section
open Go Go.Den Go.Proofs
namespace Go.Proofs.YtandmpcjjaabmaaGreat
def grMay (g:Gm) (h:Hd) (i f t:Int):Int:=if hOk g h=false then 1 else if i<f\/t<=i then 3 else 0
def useBk (g:Gm) (h:Hd) (i:Int) (on:Bool):Hd×Int :=
 if grMay g h i (1+gTabs g) g.gr≠0 then (hZ,grMay g h i (1+gTabs g) g.gr) else if bitB h.bs i.toNat=on then (hZ,6) else (⟨h.no,putB h.bs i.toNat on,h.ss⟩,0)
def slF (h:Hd):Int:=if h.no=0 then 2 else 0
def useSl (g:Gm) (h:Hd) (i:Int) (on:Bool):Hd×Int :=
 if grMay g h i (slF h) g.no≠0 then (hZ,grMay g h i (slF h) g.no) else if bitB h.ss i.toNat=on then (hZ,6) else (⟨h.no,h.bs,putB h.ss i.toNat on⟩,0)
theorem grMay_0 {g:Gm} {h:Hd} {i f t:Int} (e:grMay g h i f t=0):hOk g h=true/\f<=i/\i<t:=by
 unfold grMay at e
 split at e
 ·cases e
 ·rename_i h1
  split at e
  ·cases e
  ·rename_i h2
   exact ⟨by simpa using h1,by omega,by omega⟩
theorem useBk_wf {g:Gm} {h:Hd} (hw:hWf h) (i:Int) (on:Bool):hWf (useBk g h i on).1:=by
 unfold useBk
 split
 ·exact hZ_wf
 split
 ·exact hZ_wf
 ·exact ⟨by show (putB _ _ _).length=16; rw [putB_len]; exact hw.1,hw.2⟩
theorem useSl_wf {g:Gm} {h:Hd} (hw:hWf h) (i:Int) (on:Bool):hWf (useSl g h i on).1:=by
 unfold useSl
 split
 ·exact hZ_wf
 split
 ·exact hZ_wf
 ·exact ⟨hw.1,by show (putB _ _ _).length=8; rw [putB_len]; exact hw.2⟩
theorem gTabs_eq {g:Gm} (h:gOk g=true):gTabs g=g.no / 4:=by unfold gTabs; rw [if_pos h]
theorem useBk_ok {g:Gm} {h:Hd} {i:Int} {on:Bool} (hw:hWf h) (e:(useBk g h i on).2=0) :
  hOk g (useBk g h i on).1=true/\(useBk g h i on).1=⟨h.no,putB h.bs i.toNat on,h.ss⟩/\hOk g h=true/\bitB h.bs i.toNat≠on/\1+gTabs g<=i/\i<g.gr:=by
 unfold useBk at e |-
 split at e
 ·rename_i h1; exact absurd e h1
 rename_i h1
 have h1:=Classical.not_not.1 h1
 split at e
 ·cases e
 rename_i h2
 rw [if_neg (by rw [h1]; decide),if_neg h2]
 obtain ⟨k1,k2,k3⟩:=grMay_0 h1
 refine ⟨?_,rfl,k1,h2,k2,k3⟩
 obtain ⟨g1,g2,g3,g4⟩:=hOk_iff.1 k1
 have hT:=gTabs_eq g1
 obtain ⟨q1,q2,_⟩:=gOk_iff.1 g1
 have hi:i.toNat<8*h.bs.length:=by rw [hw.1]; omega
 refine hOk_iff.2 ⟨g1,g2,fun j hj=>⟨fun hjt=>?_,fun hjt=>?_⟩,g4⟩
 ·show bitB (putB h.bs i.toNat on) j=true
  rw [bitB_putB hi,if_neg (by omega)]; exact (g3 j hj).1 hjt
 ·show bitB (putB h.bs i.toNat on) j=false
  rw [bitB_putB hi,if_neg (by omega)]; exact (g3 j hj).2 hjt
theorem useSl_ok {g:Gm} {h:Hd} {i:Int} {on:Bool} (hw:hWf h) (e:(useSl g h i on).2=0) :
  hOk g (useSl g h i on).1=true/\(useSl g h i on).1=⟨h.no,h.bs,putB h.ss i.toNat on⟩/\hOk g h=true/\bitB h.ss i.toNat≠on/\slF h<=i/\i<g.no:=by
 unfold useSl at e |-
 split at e
 ·rename_i h1; exact absurd e h1
 rename_i h1
 have h1:=Classical.not_not.1 h1
 split at e
 ·cases e
 rename_i h2
 rw [if_neg (by rw [h1]; decide),if_neg h2]
 obtain ⟨k1,k2,k3⟩:=grMay_0 h1
 refine ⟨?_,rfl,k1,h2,k2,k3⟩
 obtain ⟨g1,g2,g3,g4⟩:=hOk_iff.1 k1
 obtain ⟨_,_,_,_,q5,q6,_⟩:=gOk_iff.1 g1
 have hf:0<=slF h:=by unfold slF; split <;> decide
 have hi:i.toNat<8*h.ss.length:=by rw [hw.2]; omega
 refine hOk_iff.2 ⟨g1,g2,g3,fun j hj=>⟨fun hjt=>?_,fun hn hjt=>?_⟩⟩
 ·show bitB (putB h.ss i.toNat on) j=false
  rw [bitB_putB hi,if_neg (by omega)]; exact (g4 j hj).1 hjt
 ·show bitB (putB h.ss i.toNat on) j=true
  have hn:h.no=0:=hn
  have:slF h=2:=by unfold slF; rw [if_pos hn]
  rw [bitB_putB hi,if_neg (by omega)]; exact (g4 j hj).2 hn hjt
def findBk (g:Gm) (h:Hd) (f:Int):Int:=if hOk g h=true then firstB h.bs g.gr f else -1
def findSl (g:Gm) (h:Hd) (f:Int):Int:=if hOk g h=true then firstB h.ss g.no f else -1
theorem findBk_use {g:Gm} {h:Hd} {f:Int} (hw:hWf h) (e:0<=findBk g h f):(useBk g h (findBk g h f) true).2=0/\findBk g h f<g.gr:=by
 unfold findBk at e |-
 by_cases ho:hOk g h=true
 ·rw [if_pos ho] at e |-
  obtain ⟨i,h1,h2,h3,h4⟩:=firstB_some e
  rw [h1]
  obtain ⟨g1,g2,g3,g4⟩:=hOk_iff.1 ho
  have hT:=gTabs_eq g1
  obtain ⟨q1,q2,_⟩:=gOk_iff.1 g1
  have hge:1+gTabs g<=(i:Int):=by
   refine Classical.byContradiction fun hn=>?_
   rw [(g3 i (by omega)).1 (by omega)] at h2; cases h2
  have hm:grMay g h i (1+gTabs g) g.gr=0:=by unfold grMay; rw [if_neg (by rw [ho]; decide),if_neg (by omega)]
  unfold useBk
  rw [hm,if_neg (by decide),Int.toNat_natCast,if_neg (by rw [h2]; decide)]
  exact ⟨rfl,h3⟩
 ·rw [if_neg ho] at e; omega
theorem findSl_use {g:Gm} {h:Hd} {f:Int} (hw:hWf h) (e:0<=findSl g h f):(useSl g h (findSl g h f) true).2=0/\findSl g h f<g.no:=by
 unfold findSl at e |-
 by_cases ho:hOk g h=true
 ·rw [if_pos ho] at e |-
  obtain ⟨i,h1,h2,h3,h4⟩:=firstB_some e
  rw [h1]
  obtain ⟨g1,g2,g3,g4⟩:=hOk_iff.1 ho
  obtain ⟨_,_,_,_,q5,q6,_⟩:=gOk_iff.1 g1
  have hge:slF h<=(i:Int):=by
   unfold slF
   split
   ·rename_i hn
    refine Classical.byContradiction fun hlt=>?_
    rw [(g4 i (by omega)).2 hn (by omega)] at h2; cases h2
   ·omega
  have hm:grMay g h i (slF h) g.no=0:=by unfold grMay; rw [if_neg (by rw [ho]; decide),if_neg (by omega)]
  unfold useSl
  rw [hm,if_neg (by decide),Int.toNat_natCast,if_neg (by rw [h2]; decide)]
  exact ⟨rfl,h3⟩
 ·rw [if_neg ho] at e; omega
theorem readH_grpB {g:Gm} {h:Hd} (hw:hWf h) (ho:hOk g h=true):readH (grpB g h)=h:=by
 obtain ⟨g1,g2,_⟩:=hOk_iff.1 ho
 obtain ⟨q1,q2,q3,q4,_⟩:=gOk_iff.1 g1
 have hfl:=gFront_len g h
 have e1:(grpB g h).drop 4=toLe 2 h.no.toNat++(toLe 2 (hFree g h).1.toNat++toLe 2 (hFree g h).2.toNat++List.replicate 6 0++h.bs++h.ss++List.replicate 216 0):=by
  unfold grpB gFront gMark
  simp only [List.append_assoc]; rfl
 have e16:(grpB g h).drop 16=h.bs++(h.ss++List.replicate 216 0):=by
  unfold grpB
  have hl16:(gFront g h++List.replicate 6 0).length=16:=by rw [List.length_append,hfl]; rfl
  rw [List.append_assoc,List.append_assoc,List.drop_append,List.drop_eq_nil_of_le (by rw [hl16]; exact Nat.le_refl _),List.nil_append,hl16]
  rfl
 have e32:(grpB g h).drop 32=h.ss++List.replicate 216 0:=by
  rw [show 32=16+16 by rfl,<- List.drop_drop,e16,List.drop_append,List.drop_eq_nil_of_le (by rw [hw.1]; exact Nat.le_refl _),hw.1,List.nil_append]; rfl
 unfold readH
 rw [e1,e16,e32,List.take_append_of_le_length (by rw [length_toLe]; exact Nat.le_refl _),List.take_of_length_le (by rw [length_toLe]; exact Nat.le_refl _),List.take_append_of_le_length (by rw [hw.1]; exact Nat.le_refl _),List.take_of_length_le (by rw [hw.1]; exact Nat.le_refl _),List.take_append_of_le_length (by rw [hw.2]; exact Nat.le_refl _),List.take_of_length_le (by rw [hw.2]; exact Nat.le_refl _)]
 have:leN (toLe 2 h.no.toNat)=h.no.toNat:=leN_toLe _ _ (by omega)
 rw [this]
 cases h
 simp only [Hd.mk.injEq,and_true]
 simp only at g2
 omega
theorem hGet_grpB {g:Gm} {h:Hd} (hw:hWf h) (ho:hOk g h=true):hGet g (grpB g h)=(h,0):=by
 have hr:=readH_grpB hw ho
 unfold hGet
 rw [if_neg (by rw [(hOk_iff.1 ho).1]; decide),if_neg (by rw [grpB_len hw]; decide),hr,if_pos ⟨ho,rfl⟩]
theorem grp_over {g:Gm} {h h':Hd} (hw:hWf h) (hw':hWf h'):overB (grpB g h) 0 ((grpB g h').take 64)=grpB g h':=by
 have cut:∀ {h:Hd},hWf h->(grpB g h).drop 64=List.replicate 192 0:=fun {h} hw=>by
  have:(gFront g h++List.replicate 6 0++h.bs++h.ss).length=40:=by
   rw [List.length_append,List.length_append,List.length_append,gFront_len,hw.1,hw.2,List.length_replicate]
  unfold grpB
  rw [List.drop_append,List.drop_eq_nil_of_le (by omega),List.nil_append,this]
  rfl
 have hl:((grpB g h').take 64).length=64:=by rw [List.length_take,grpB_len hw']; rfl
 unfold overB
 rw [hl,List.take_zero,List.nil_append,Nat.zero_add,cut hw,<- cut hw',List.take_append_drop]
end Go.Proofs.YtandmpcjjaabmaaGreat
end
section
open Go Go.Den Go.Proofs
namespace Go.Proofs.YtandmpcjjaabmaaGreat
def Dx (wb:World) (R0:Nat->Prop) (N:Nat) (w:World) (d:Nat) (D:St):Prop :=
 ∃ R sb mb sc L,DiskIn w R d sb mb sc L D/\(∀ x,R x->(R0 x\/wb.heap.size<=x)/\x<N)/\Mod R0 wb w/\N<=w.heap.size
section
variable {wb w w':World} {R0:Nat->Prop} {N d:Nat} {D:St} {K:Value->World->Prop}
theorem Dx.nos (h:Dx wb R0 N w d D) (m:Mod No w w'):Dx wb R0 N w' d D:=by
 obtain ⟨R,sb,mb,sc,L,h1,h2,h3,h4⟩:=h
 exact ⟨R,sb,mb,sc,L,h1.nos m,h2,h3.no m,Nat.le_trans h4 m.size⟩
theorem Dx.mod (h:Dx wb R0 N w d D):Mod R0 wb w:=by obtain ⟨_,_,_,_,_,_,_,h,_⟩:=h; exact h
theorem Dx.size (h:Dx wb R0 N w d D):N<=w.heap.size:=by obtain ⟨_,_,_,_,_,_,_,_,h⟩:=h; exact h
theorem Dx.start {R:Nat->Prop} {sb mb sc:Nat} {L:List (Int×Value)} (h:DiskIn w R d sb mb sc L D) (m:Mod No w wb):Dx wb R w.heap.size wb d D :=
 ⟨R,sb,mb,sc,L,h.nos m,fun x hx=>⟨.inl hx,h.lt x hx⟩,Mod.refl _ _,m.size⟩
theorem Dx.write (h:Dx wb R0 N w d D) (hs:∀ v∈D.vs,v.length<=999999) {n:Int} {a:Option Addr} {l c:Nat} {ys:List UInt8} (hl:ys.length=l) (hr:Row w a (u8L ys)) (hdis:∀ q,a=some q->N<=q.block)
  (hk:∀ w',Dx wb R0 w'.heap.size w' d (wrSt D n ys)->K (.int .i64 (wrE D n ys)) w'):Cal Tryz.prog F_disk_Disk_Write #[.pointer (some ⟨d,0,none⟩),.int .i64 n,.slice a l c] w K:=by
 obtain ⟨R,sb,mb,sc,L,h1,h2,h3,h4⟩:=h
 refine Write_c h1 hs hl hr (fun q hq hR=>?_) fun w' L' m hd'=>hk w' ⟨Gro R w w',sb,mb,sc,L',hd',fun x hx=>?_,h3.trans m fun x hx hR=>?_,Nat.le_refl _⟩
 ·have:=(h2 _ hR).2
  have:=hdis q hq
  omega
 ·rcases hx with hx | hx
  ·have h5:=h2 x hx; have:=m.size
   exact ⟨h5.1,by omega⟩
  ·have:=h3.size
   exact ⟨.inr (by omega),hx.2⟩
 ·exact ((h2 x hR).1).resolve_right (by omega)
theorem Dx.flush (h:Dx wb R0 N w d D) (hs:Small D) (hk:∀ w',Dx wb R0 w'.heap.size w' d (flSt D)->K (.int .i64 0) w'):Cal Tryz.prog F_disk_Disk_Flush #[.pointer (some ⟨d,0,none⟩)] w K:=by
 obtain ⟨R,sb,mb,sc,L,h1,h2,h3,h4⟩:=h
 refine Flush_c h1 hs fun w' L' m hd'=>hk w' ⟨R,sb,mb,sc,L',hd',fun x hx=>?_,h3.trans m fun x hx hR=>?_,Nat.le_refl _⟩
 ·have h5:=h2 x hx; have:=m.size
  exact ⟨h5.1,by omega⟩
 ·exact ((h2 x hR).1).resolve_right (by omega)
theorem Dx.len (h:Dx wb R0 N w d D) (hk:K (.int .i64 D.vs.length) w):Cal Tryz.prog F_disk_Disk_Len #[.pointer (some ⟨d,0,none⟩)] w K:=by
 obtain ⟨R,sb,mb,sc,L,h1,h2,h3,h4⟩:=h
 exact Len_c h1 hk
theorem build_root:Al (Instr.build 51 #[(0,.int .i64 2),(1,.int .i64 1),(3,.int .i64 1)]) (.agg ⟨nV rootN⟩):=fun w=>by kernel_rfl
theorem Bnd9 {m:Nat} (h:Bnd D m) (hm:m<=999999):∀ v∈D.vs,v.length<=999999:=fun v hv=>Nat.le_trans (h v hv) hm
theorem BndS {m:Nat} (h:Bnd D m) (hm:m<=999999):Small D:=fun v hv=>Nat.le_trans (h v hv) (by omega)
set_option maxRecDepth 8000 in
theorem each_c {R:Nat->Prop} {sb mb sc:Nat} {L:List (Int×Value)} {g:Gm} (h:DiskIn w R d sb mb sc L D) (hg:gOk g=true) (hn:gSize g<=D.vs.length) (hb:Bnd D 1)
  (hk:∀ w1 N w',Mod No w w1->w.heap.size<=N->Dx w1 R N w' d (wrAll D (volL g g.gs.toNat))->K (.int .i64 0) w') :
  Cal Tryz.prog F_vol_each #[.agg ⟨gV g⟩,.int .i64 0,.func (.func F_disk_Disk_Write) #[.pointer (some ⟨d,0,none⟩)] #[]] w K:=by
 apply C_vol_each
 unfold D_vol_each
 obtain ⟨w1,a1,a2,a3,a4⟩:=box_u (P:=Tryz.prog) (w:=w) (T:=39) (cs:=gV g)
 have hnR:¬ R w.heap.size:=fun e=>Nat.lt_irrefl _ (h.lt _ e)
 have hq:∀ {w2:World} {N:Nat} {D':St},Dx w1 R N w2 d D'->AtU w2 w.heap.size 0 (gV g):=fun x=>a2.keep x.mod hnR
 obtain ⟨g1,g2,g3,g4,g5,g6,g7,g8,g9⟩:=gOk_iff.1 hg
 have hvn:=volN_b hg
 have hlen:=h.wf.hi
 refine ⟨_,w1,a1,fun x w2=>∃ (k N:Nat) (y1 y2 y3:Value),(k:Int)<=g.gs/\x=[.int .i64 k,y1,y2,y3]/\w.heap.size<=N/\Dx w1 R N w2 d (wrAll D (volL g k)),fun x _=>(g.gs-nI x 0).toNat,
  ⟨0,_,undef,undef,undef,by omega,rfl,Nat.le_refl _,Dx.start h a3⟩,?_⟩
 rintro x w2 ⟨k,N,y1,y2,y3,hkg,rfl,hN,hx⟩
 refine ⟨_,rfl,_,(hq hx).at.fld sc_int rfl,cond_of (fun hl=>?_) (fun hl=>?_)⟩
 ·have hl:(k:Int)<g.gs:=of_decide_eq_true hl
  have eF:hFresh g k=(hBase g k,0):=by unfold hFresh; rw [if_pos ⟨hg,by omega,hl⟩]
  have eH:gHead g k=(2+k*g.gr,0):=by unfold gHead; rw [if_pos hg,if_pos ⟨by omega,hl⟩]
  refine ⟨_,(hq hx).at.all agg_geo rfl,fresh_c fun w3 m3=>⟨_,_,rfl,?_⟩⟩
  rw [eF]
  have x3:=hx.nos m3
  obtain ⟨w4,b1,b2,b3,b4⟩:=new_u (P:=Tryz.prog) (w:=w3) (T:=171) zero_head
  have x4:=x3.nos b3
  obtain ⟨w5,c1,c2,c3,c4⟩:=b2.put (T:=171) (vs:=hV (hBase g k)) agg_head rfl (hV_len (hBase_wf _ _)) (one_hV _)
  have m5:Mod No w3 w5:=b3.own c3 (Nat.le_refl _)
  have x5:=x3.nos m5
  refine ⟨_,w4,b1,w5,c1,_,(hq x5).at.all agg_geo rfl,_,c2.at.all agg_head (hV_len (hBase_wf _ _)),hPut_c (hBase_wf _ _) (fun e=>by rw [hOk_base hg (by omega) hl] at e; cases e) fun _ w6 q m6 hq6 h6=>⟨_,_,_,_,rfl,?_⟩⟩
  have x6:=x5.nos m6
  refine ⟨_,(hq x6).at.all agg_geo rfl,geoHead_c fun w7 m7=>⟨_,_,rfl,?_⟩⟩
  have x7:=x6.nos m7
  refine ⟨_,(hq x7).at.all agg_geo rfl,geoTabs_c fun w8 m8=>⟨_,rfl,?_⟩⟩
  have x8:=x7.nos m8
  rw [eH]
  have hNq:N<=q:=by have:=hx.size; have:=m3.size; have:=m5.size; omega
  have hrow:=((h6.keep m7 id).keep m8 id)
  have eT:IntKind.i64.wrap (1+gTabs g)=(volN g:Int):=by
   have e:gTabs g=g.no / 4:=by unfold gTabs; rw [if_pos hg]
   rw [wrap64 (by omega) (by omega),hvn.1,e]
  refine ⟨fun x w9=>∃ (i N':Nat) (a:Option Addr) (l c:Nat) (y:Value),i<=volN g/\x=[.slice a l c,.int .i64 i,y]/\w.heap.size<=N'/\Dx w1 R N' w9 d (wrAll (wrAll D (volL g k)) (volG g k i))/\(i=0->∃ q,a=some ⟨q,0,none⟩/\l=256/\c=256/\N'<=q/\AtU w9 q 0 (u8L (grpB g (hBase g k)))),
   fun x _=>(volN g-nI x 1).toNat,⟨0,N,_,_,_,_,by omega,rfl,hN,x8,fun _=>⟨q,rfl,rfl,rfl,hNq,hrow⟩⟩,?_⟩
  rintro x w9 ⟨i,N',a,l,c,y,hi,rfl,hN',x9,hi0⟩
  rw [eT]
  refine ⟨_,rfl,cond_of (fun hl2=>?_) (fun hl2=>?_)⟩
  ·have hl2:i<volN g:=by have:=of_decide_eq_true hl2; omega
   have hvx:=volX_in hg (n:=D.vs.length) hl hl2 hn
   refine Share.cut (fun z w11=>∃ q',z=[.slice (some ⟨q',0,none⟩) 256 256]/\N'<=q'/\AtU w11 q' 0 (u8L (if i=0 then grpB g (hBase g k) else zeroB))/\Mod No w9 w11) (cond_of (fun hp=>?_) (fun hp=>?_)) ?_
   ·have hp:0<i:=by have:=of_decide_eq_true hp; omega
    obtain ⟨w10,s1,s2,s3,s4⟩:=make_z (w:=w9) (n:=256) (by omega)
    exact ⟨_,_,_,w10,s1,_,rfl,x9.size,by rw [if_neg (by omega)]; exact s2,s3⟩
   ·have hp:i=0:=by have:=of_decide_eq_false hp; omega
    obtain ⟨q',e1,e2,e3,e4,e5⟩:=hi0 hp
    subst e1 e2 e3
    exact ⟨q',rfl,e4,by rw [if_pos hp]; exact e5,Mod.refl _ _⟩
   rintro z w11 ⟨q',rfl,hq',h11,m11⟩
   refine Share.cut (fun z w12=>z=[.bool (decide (k=0/\i=1))]/\w12=w11) ?_ ?_
   ·rw [beqI]
    refine cond_of (fun hp=>⟨?_,rfl⟩) (fun hp=>⟨?_,rfl⟩)
    ·have hp:k=0:=by have:=of_decide_eq_true hp; omega
     congr 2
     rw [beqI,Bool.eq_iff_iff,decide_eq_true_iff,decide_eq_true_iff]; omega
    ·have hp:¬ k=0:=by have:=of_decide_eq_false hp; omega
     rw [decide_eq_false (fun e=>hp e.1)]
   rintro z w12 ⟨rfl,rfl⟩
   refine ⟨_,rfl,?_⟩
   refine Share.cut (fun z w14=>∃ q',z=[.slice (some ⟨q',0,none⟩) 256 256]/\N'<=q'/\AtU w14 q' 0 (u8L (volB g k i))/\Mod No w9 w14) (cond_of (fun hp=>?_) (fun hp=>?_)) ?_
   ·have hp:=of_decide_eq_true hp
    refine ⟨_,_,_,rfl,_,build_root,?_⟩
    rw [if_neg (by omega)] at h11
    refine inoLay_c rootN_wf zeroB_len (.inr ⟨_,_,rfl,h11.at⟩) (by omega) (by decide) rootN_ok fun w13 q'' m13 hq'' h13=>⟨_,_,_,_,rfl,q'',rfl,?_,?_,m11.no m13⟩
    ·have:=x9.size; have:=m11.size; omega
    ·unfold volB
     rw [if_neg (by omega),if_pos hp]; exact h13
   ·have hp:=of_decide_eq_false hp
    refine ⟨q',rfl,hq',?_,m11⟩
    unfold volB
    by_cases h0:i=0
    ·rw [if_pos h0]; rw [if_pos h0] at h11; exact h11
    ·rw [if_neg h0,if_neg hp]; rw [if_neg h0] at h11; exact h11
   rintro z w14 ⟨q'',rfl,hq'',h14,m14⟩
   have x14:=x9.nos m14
   have e1:IntKind.i64.wrap (2+(k:Int)*g.gr+i)=(volX g k i).1:=by
    show _=2+(k:Int)*g.gr+i
    have:=hvx
    unfold volX at this
    simp only at this
    rw [wrap64 (by omega) (by omega)]
   refine ⟨_,_,_,rfl,?_⟩
   rw [e1]
   have hB:Bnd (wrAll (wrAll D (volL g k)) (volG g k i)) 999999:=by
    have h1:=Bnd_all (Bnd_all hb (volL g k)) (volG g k i)
    have h2:=volL_len hg k
    rw [volG_len] at h1
    exact h1.mono (by omega)
   have hvl:(wrAll (wrAll D (volL g k)) (volG g k i)).vs.length=D.vs.length:=by rw [wrAll_len,wrAll_len]
   refine ⟨_,_,_,rfl,?_⟩
   show Cal Tryz.prog F_disk_Disk_Write #[.pointer (some ⟨d,0,none⟩),.int .i64 (volX g k i).1,.slice (some ⟨q'',0,none⟩) 256 256] w14 _
   refine x14.write hB (volB_len g k i) (.inr ⟨_,_,rfl,h14.at⟩) (fun q3 e3=>by cases e3; exact hq'') fun w15 x15=>⟨_,rfl,ff ?_ ?_⟩
   ·rw [wrE_in (by omega) (by rw [hvl]; omega) (volB_len g k i)]; rfl
   have e2:wrSt (wrAll (wrAll D (volL g k)) (volG g k i)) (volX g k i).1 (volB g k i)=wrAll (wrAll D (volL g k)) (volG g k (i+1)):=by
    rw [volG_succ,wrAll_snoc]; rfl
   rw [e2] at x15
   rw [wrap64 (x:=(i:Int)+1) (by omega) (by omega)]
   exact ⟨⟨i+1,_,_,_,_,_,by omega,rfl,by have:=x9.size; have:=m14.size; have:=x15.size; have:=x15.mod.size; have:=a3.size; omega,x15,fun e=>by omega⟩,by simp [nI,nth]; omega⟩
  ·have hl2:i=volN g:=by have:=of_decide_eq_false hl2; omega
   subst hl2
   rw [wrap64 (x:=(k:Int)+1) (by omega) (by omega)]
   refine ⟨⟨k+1,N',_,_,_,by omega,rfl,hN',?_⟩,by simp [nI,nth]; omega⟩
   rw [volL_succ,wrAll_app]; exact x9
 ·have hl:(k:Int)=g.gs:=by have:=of_decide_eq_false hl; omega
  have e:g.gs.toNat=k:=by omega
  refine hk w1 N w2 a3 hN ?_
  rw [e]; exact hx
end
end Go.Proofs.YtandmpcjjaabmaaGreat
end
section
open Go Go.Den Go.Proofs
namespace Go.Proofs.YtandmpcjjaabmaaGreat
section
variable {wb w w':World} {R0:Nat->Prop} {N d:Nat} {D:St} {K:Value->World->Prop}
theorem Dx.comp {R':Nat->Prop} {w1:World} {N':Nat} {D':St} (h2:∀ x,R' x->R0 x\/wb.heap.size<=x) (hm:Mod R0 wb w) (m:Mod No w w1) (k:Dx w1 R' N' w' d D'):Dx wb R0 N' w' d D':=by
 obtain ⟨R,sb,mb,sc,L,k1,k2,k3,k4⟩:=k
 refine ⟨R,sb,mb,sc,L,k1,fun x hx=>⟨?_,(k2 x hx).2⟩,(hm.no m).trans k3 fun x hx e=>(h2 x e).resolve_right (by omega),k4⟩
 rcases (k2 x hx).1 with e | e
 ·exact h2 x e
 ·have:=hm.size; have:=m.size; exact .inr (by omega)
def wrZ (D:St):Nat->St
 | 0=>D
 | n+1=>wrSt (wrZ D n) n zeroB
theorem wrZ_bnd (hb:Bnd D 1):∀ n,Bnd (wrZ D n) (n+1)
 | 0=>hb
 | n+1=>Bnd_wr (wrZ_bnd hb n) _ _
theorem sOk_new {g:Gm} (h:gOk g=true):sOk ⟨1,g⟩=true:=sOk_iff.2 ⟨⟨Int.le_refl _,by show (1:Int)<=4611686018427387904; decide⟩,h⟩
set_option maxRecDepth 8000 in
theorem vFormat_c {R:Nat->Prop} {sb mb sc:Nat} {L:List (Int×Value)} {g:Gm} (h:DiskIn w R d sb mb sc L D) (hrun:D.left=-1) (hb:Bnd D 1)
  (hk0:fmtE D g≠0->∀ w',Mod No w w'->K (.int .i64 (fmtE D g)) w')
  (hk:fmtE D g=0->∀ w1 N w',Mod No w w1->Dx w1 R N w' d (fmtSt D g)->K (.int .i64 0) w') :
  Cal Tryz.prog F_vol_Format #[.pointer (some ⟨d,0,none⟩),.agg ⟨gV g⟩] w K:=by
 apply C_vol_Format
 unfold D_vol_Format
 obtain ⟨w1,a1,a2,a3,a4⟩:=box_u (P:=Tryz.prog) (w:=w) (T:=39) (cs:=gV g)
 have hnR:¬ R w.heap.size:=fun e=>Nat.lt_irrefl _ (h.lt _ e)
 have hq:∀ {w2:World} {N:Nat} {D':St},Dx w1 R N w2 d D'->AtU w2 w.heap.size 0 (gV g):=fun x=>a2.keep x.mod hnR
 refine ⟨_,w1,a1,ff rfl ⟨_,a2.at.all agg_geo rfl,geoRight_c fun w2 m2=>⟨_,rfl,cond_of (fun hg=>?_) (fun hg=>?_)⟩⟩⟩
 ·have e:fmtE D g=1:=by unfold fmtE; rw [if_pos (by simpa using hg)]
  have:=hk0 (by rw [e]; decide) w2 (a3.no m2)
  rwa [e] at this
 have hg:gOk g=true:=by simpa using hg
 have md:Mod No w1 (Go.Den.drew w2):=m2.drew
 have xd:Dx w1 R w.heap.size (Go.Den.drew w2) d D:=(Dx.start h a3).nos md
 refine ⟨_,(hq xd).at.all agg_geo rfl,xd.len ⟨_,rfl,(hq xd).at.all agg_geo rfl,geoSize_c fun w4 m4=>⟨_,rfl,cond_of (fun hl=>?_) (fun hl=>?_)⟩⟩⟩
 ·have hl:=of_decide_eq_true hl
  have e:fmtE D g=4:=by unfold fmtE; rw [if_neg (by rw [hg]; decide),if_pos hl]
  have:=hk0 (by rw [e]; decide) w4 (a3.no (md.no m4))
  rwa [e] at this
 have hl:=of_decide_eq_false hl
 have eE:fmtE D g=0:=by unfold fmtE; rw [if_neg (by rw [hg]; decide),if_neg hl]
 have x4:=xd.nos m4
 refine ⟨fun x w5=>∃ i N:Nat,i<=2/\x=[.int .i64 i]/\Dx w1 R N w5 d (wrZ D i),fun x _=>(2-nI x 0).toNat,⟨0,_,by omega,rfl,x4⟩,?_⟩
 rintro x w5 ⟨i,N,hi,rfl,x5⟩
 refine ⟨_,rfl,cond_of (fun hl2=>?_) (fun hl2=>?_)⟩
 ·have hl2:=of_decide_eq_true hl2
  obtain ⟨w6,s1,s2,s3,s4⟩:=make_z (w:=w5) (n:=256) (by omega)
  refine ⟨_,_,_,w6,s1,?_⟩
  refine (x5.nos s3).write (Bnd9 (wrZ_bnd hb i) (by omega)) zeroB_len (.inr ⟨_,_,rfl,s2.at⟩) (fun q e=>by cases e; exact x5.size) fun w7 x7=>⟨_,rfl,?_⟩
  rw [wrap64 (x:=(i:Int)+1) (by omega) (by omega)]
  exact ⟨⟨i+1,_,by omega,by simp,x7⟩,by simp [nI,nth]; omega⟩
 have hl2:=of_decide_eq_false hl2
 have hi2:i=2:=by omega
 subst hi2
 refine x5.flush (BndS (wrZ_bnd hb 2) (by omega)) fun w8 x8=>⟨_,rfl,?_⟩
 have x8:Dx w1 R w8.heap.size w8 d (fmt0 D):=x8
 refine ⟨_,(hq x8).at.all agg_geo rfl,?_⟩
 have hm8:=x8.mod
 obtain ⟨R8,sb8,mb8,sc8,L8,k1,k2,k3,k4⟩:=x8
 refine each_c k1 hg (by rw [fmt0_len]; omega) (fmt0_bnd hrun) fun w9 N9 w10 m9 hN9 x10=>⟨_,rfl,?_⟩
 have x10:=x10.comp (fun x hx=>(k2 x hx).1) hm8 m9
 have hB:Bnd (wrAll (fmt0 D) (volL g g.gs.toNat)) 999999:=by
  have h1:=Bnd_all (fmt0_bnd hrun) (volL g g.gs.toNat)
  have h2:=volL_len hg g.gs.toNat
  obtain ⟨_,_,_,g4,_⟩:=gOk_iff.1 hg
  exact h1.mono (by omega)
 refine x10.flush (BndS hB (by omega)) fun w11 x11=>⟨_,rfl,_,(hq x11).at.all agg_geo rfl,_,build_sup 1 g,?_⟩
 have x11:Dx w1 R w11.heap.size w11 d (fmt1 D g):=x11
 refine supPut_c (s:=⟨1,g⟩) (fun e=>by rw [sOk_new hg] at e; cases e) fun _ w12 q m12 hq12 h12=>⟨_,_,_,_,rfl,?_⟩
 refine (x11.nos m12).write (Bnd9 (fmt1_bnd hrun g) (by omega)) (supB_len _) (.inr ⟨_,_,rfl,h12.at⟩) (fun q' e=>by cases e; exact hq12) fun w13 x13=>⟨_,rfl,?_⟩
 refine x13.flush (BndS (Bnd_wr (fmt1_bnd hrun g) _ _) (by omega)) fun w14 x14=>⟨_,rfl,?_⟩
 exact hk eE w1 _ w14 a3 x14
end
end Go.Proofs.YtandmpcjjaabmaaGreat
end
section
open Go Go.Den Go.Proofs
namespace Go.Proofs.YtandmpcjjaabmaaGreat
theorem fldA2 {w:World} {T:TypeId} {b j i n:Nat} {cs vs:List Value} (h:At w b 0 cs) (hT:aggN Tryz.prog T=some n) (hj:j+i+n<=cs.length) (hv:(cs.drop (j+i)).take n=vs):Ru (Instr.loadAt T (.pointer (some (Addr.add (Addr.add ⟨b,0,none⟩ j) i)))) w (.agg ⟨vs⟩) w:=by
 have e:Addr.add (Addr.add ⟨b,0,none⟩ j) i=Addr.add ⟨b,0,none⟩ (j+i):=by
  rw [add_none,add_none,add_none,Nat.add_assoc]
 rw [e]
 exact h.fldA hT hj hv
def vV (s:Sp) (sp wk:Nat) (nx:Int):List Value:=sV s++[.pointer (some ⟨sp,0,none⟩),.pointer (some ⟨wk,0,none⟩),.int .i64 nx]
theorem sc_store:scal Tryz.prog 159=true:=by kernel_rfl
def Wc (w0:World) (R:Nat->Prop) (N:Nat) (w:World) (v d wk:Nat):Prop:=AtU w wk 0 [.slice none 0 0]/\¬ R wk/\wk≠v/\w0.heap.size<=wk/\wk<N/\d<=wk/\d<=v
theorem Wc.keep {S R R':Nat->Prop} {w0 w w':World} {N N' v d wk:Nat} (h:Wc w0 R N w v d wk) (m:Mod S w w') (hS:¬ S wk) (hR:¬ R' wk) (hN:N<=N'):Wc w0 R' N' w' v d wk :=
 ⟨h.1.keep m hS,hR,h.2.2.1,h.2.2.2.1,Nat.lt_of_lt_of_le h.2.2.2.2.1 hN,h.2.2.2.2.2⟩
def Vg (wb:World) (R0:Nat->Prop) (N:Nat) (w:World) (v d:Nat) (s:Sp) (D:St) (nx:Int):Prop :=
 ∃ R sp wk k w0,Pz w0 R w sp d ⟨⟨D,k,[]⟩,0,[]⟩/\AtU w v 0 (vV s sp wk nx)/\(¬ R v/\w0.heap.size<=v/\v<N/\(R0 v\/wb.heap.size<=v))/\(∀ x,R x->(R0 x\/wb.heap.size<=x)/\x<N)/\Mod R0 wb w/\(N<=w.heap.size/\wb.heap.size<=N/\w0.heap.size<=N/\Wc w0 R N w v d wk)
section
variable {w0 wb w w':World} {R R0:Nat->Prop} {N v d sp:Nat} {s:Sp} {D:St} {V:Ps} {nx:Int} {K:Value->World->Prop}
theorem qReadC_c {n:Int} (hP:Pz w0 R w sp d V) {b:Nat} (hb:n=b) (hlt:b<V.C.D.vs.length)
  (hk:∀ w1 w' g cc,Mod R w w1->Mod No w1 w'->Pz w0 (Gro R w w1) w' sp d V->w1.heap.size<=g->AtU w' g 0 (u8L (contV V b))->256<=cc->K (.tuple #[.slice (some ⟨g,0,none⟩) 256 cc,.int .i64 0]) w') :
  Cal Tryz.prog F_patch_Store_Read #[.pointer (some ⟨sp,0,none⟩),.int .i64 n] w K:=by
 obtain ⟨C,eD,eM,hP⟩:=hP
 have hwf:=hP.wf
 refine pRead_c hP (fun he w' m=>?_) fun b' hb' hlt' w1 w' a cc C' m1 m2 h e1 e2 hc o=>?_
 ·have he:errOf C.D n≠0:=he
  rw [eD,hb] at he
  exact absurd (rd_at V.C.D hlt).1 he
 ·have:b'=b:=by omega
  subst this
  obtain ⟨g,rfl,hg,hat⟩:=o.sm (by omega)
  rw [cont_view hwf.1 hwf.2.1 hwf.2.2.1,contV_C eD] at hat
  exact hk w1 w' g cc m1 m2 ⟨C',e1.trans eD,e2.trans eM,h⟩ hg hat o.cap.1
theorem Vg.nos (h:Vg wb R0 N w v d s D nx) (m:Mod No w w'):Vg wb R0 N w' v d s D nx:=by
 obtain ⟨R,sp,wk,k,w0,h1,h2,h3,h4,h5,h6,h7⟩:=h
 exact ⟨R,sp,wk,k,w0,h1.nos m,h2.keep m id,h3,h4,h5.no m,Nat.le_trans h6 m.size,h7.1,h7.2.1,h7.2.2.keep m id h7.2.2.2.1 (Nat.le_refl _)⟩
theorem Vg.up (h:Vg wb R0 N w v d s D nx):Vg wb R0 w.heap.size w v d s D nx:=by
 obtain ⟨R,sp,wk,k,w0,h1,h2,h3,h4,h5,h6,h7,h8,h9⟩:=h
 exact ⟨R,sp,wk,k,w0,h1,h2,⟨h3.1,h3.2.1,by omega,h3.2.2.2⟩,fun x hx=>⟨(h4 x hx).1,by have:=(h4 x hx).2; omega⟩,h5,Nat.le_refl _,by omega,by omega,h9.keep (Mod.refl No w) id h9.2.1 h6⟩
theorem Vg.put {q:Nat} (h:Vg wb R0 N w v d s D nx) (hq:N<=q) (m:Mod (fun x=>x=q) w w'):Vg wb R0 N w' v d s D nx:=by
 obtain ⟨R,sp,wk,k,w0,h1,h2,h3,h4,h5,h6,h7,h8,h9⟩:=h
 refine ⟨R,sp,wk,k,w0,h1.keep m (fun x hx e=>?_) (fun x hx e=>?_),h2.keep m (fun e=>?_),h3,h4,h5.trans m fun x hx e=>?_,Nat.le_trans h6 m.size,h7,h8,h9.keep m (fun e=>?_) h9.2.1 (Nat.le_refl _)⟩
 ·have:=(h4 x hx).2
  have e:x=q:=e
  omega
 ·have e:x=q:=e
  omega
 ·have:=h3.2.2.1
  have e:v=q:=e
  omega
 ·have e:x=q:=e
  omega
 ·have:=h9.2.2.2.2.1
  have e:wk=q:=e
  omega
theorem Vg.mod (h:Vg wb R0 N w v d s D nx):Mod R0 wb w:=by obtain ⟨_,_,_,_,_,_,_,_,_,h,_⟩:=h; exact h
theorem Vg.size (h:Vg wb R0 N w v d s D nx):N<=w.heap.size:=by obtain ⟨_,_,_,_,_,_,_,_,_,_,h,_⟩:=h; exact h
theorem Vg.at (h:Vg wb R0 N w v d s D nx):∃ sp wk,AtU w v 0 (vV s sp wk nx):=by obtain ⟨_,sp,wk,_,_,_,h,_⟩:=h; exact ⟨sp,wk,h⟩
theorem Vg.wf (h:Vg wb R0 N w v d s D nx):WF D:=by obtain ⟨_,_,_,_,_,h,_⟩:=h; exact h.wf.2.2.2.2
theorem Vg.geo (h:Vg wb R0 N w v d s D nx):Ru (Instr.loadAt 39 (.pointer (some (Addr.add (Addr.add ⟨v,0,none⟩ 0) 1)))) w (.agg ⟨gV s.geo⟩) w:=by
 obtain ⟨sp,wk,h⟩:=h.at
 exact fldA2 h.at agg_geo (by show 4<=7; omega) rfl
theorem Vg.next (h:Vg wb R0 N w v d s D nx):Ru (Instr.loadAt 2 (.pointer (some (Addr.add ⟨v,0,none⟩ 6)))) w (.int .i64 nx) w:=by
 obtain ⟨sp,wk,h⟩:=h.at
 exact h.at.fld sc_i64 rfl
theorem Vg.set (h:Vg wb R0 N w v d s D nx) (n:Int):∃ w',RuU (Instr.storeAt 2 (.pointer (some (Addr.add ⟨v,0,none⟩ 6))) (.int .i64 n)) w w'/\Vg wb R0 N w' v d s D n:=by
 obtain ⟨R,sp,wk,k,w0,h1,h2,h3,h4,h5,h6,h7,h8,h9⟩:=h
 obtain ⟨w',s1,s2,s3,s4⟩:=h2.putF (P:=Tryz.prog) (T:=2) (j:=6) (v:=.int .i64 n) sc_i64 (by show 6<7; omega) rfl
 refine ⟨w',s1,R,sp,wk,k,w0,h1.keep s3 (fun x hx e=>?_) (fun x hx e=>?_),s2,h3,h4,h5.trans s3 fun x hx e=>?_,by omega,h7,h8,h9.keep s3 (fun e=>h9.2.2.1 e) h9.2.1 (Nat.le_refl _)⟩
 ·have e:x=v:=e
  rw [e] at hx; exact h3.1 hx
 ·have e:x=v:=e
  have:=h3.2.1; omega
 ·have e:x=v:=e
  rw [e]
  exact h3.2.2.2.resolve_right (by omega)
theorem Vg.rd (h:Vg wb R0 N w v d s D nx) {n:Int} (h0:0<=n) (h1:n<D.vs.length)
  (hk:∀ w' g cc,Vg wb R0 w'.heap.size w' v d s D nx->Mod (fun x=>x<N) w w'->(∀ q w5 w6,N<=q->q<w.heap.size->Mod No w' w5->Mod (fun x=>x=q) w5 w6->Vg wb R0 w6.heap.size w6 v d s D nx)->AtU w' g 0 (u8L (rdB D n))->(rdB D n).length=256->256<=cc->K (.tuple #[.slice (some ⟨g,0,none⟩) 256 cc,.int .i64 0]) w') :
  ∃ p:Option Addr,Ru (Instr.loadAt 159 (.pointer (some (Addr.add ⟨v,0,none⟩ 4)))) w (.pointer p) w/\Cal Tryz.prog F_patch_Store_Read #[.pointer p,.int .i64 n] w K:=by
 have hwf:=h.wf
 obtain ⟨R,sp,wk,k,w0,a1,a2,a3,a4,a5,a6,a7,a8,a9⟩:=h
 refine ⟨_,a2.at.fld sc_store rfl,?_⟩
 obtain ⟨b,rfl⟩:=Int.eq_ofNat_of_zero_le h0
 have hb:b<D.vs.length:=by omega
 refine qReadC_c a1 rfl hb fun w1 w' g cc m1 m2 hP hg hat hcc=>?_
 have e1:rdB D b=atD D b:=(rd_at D hb).2
 have hz1:=m1.size
 have hz2:=m2.size
 have hz5:=a5.size
 have hv:v<w.heap.size:=by have:=a3.2.2.1; omega
 have hnv:¬ Gro R w w1 v:=by
  rintro (e | e)
  ·exact a3.1 e
  ·omega
 have hwk:¬ Gro R w w1 wk:=by
  rintro (e | e)
  ·exact a9.2.1 e
  ·have:=a9.2.2.2.2.1; omega
 have hR:∀ x,Gro R w w1 x->(R0 x\/wb.heap.size<=x)/\x<w1.heap.size:=fun x hx=>by
  rcases hx with hx | hx
  ·exact ⟨(a4 x hx).1,by have:=(a4 x hx).2; omega⟩
  ·exact ⟨.inr (by omega),by omega⟩
 have M:Mod R0 wb w':=(a5.trans m1 fun x hx e=>((a4 x e).1).resolve_right (by omega)).no m2
 have hV:=(a2.keep m1 a3.1).keep m2 id
 refine hk w' g cc ⟨_,sp,wk,k,w0,hP,hV,⟨hnv,a3.2.1,by omega,a3.2.2.2⟩,fun x hx=>⟨(hR x hx).1,by have:=(hR x hx).2; omega⟩,M,Nat.le_refl _,by omega,by omega,(a9.keep m1 a9.2.1 hwk (N':=w'.heap.size) (by omega)).keep m2 id hwk (Nat.le_refl _)⟩ ((m1.mono fun x _ e=>(a4 x e).2).no m2) (fun q w5 w6 hq1 hq2 m5 m6=>?_) ?_ ?_ hcc
 ·have hz3:=m5.size
  have hz4:=m6.size
  have hnq:∀ x,Gro R w w1 x->x≠q:=fun x hx e=>by
   subst e
   rcases hx with hx | hx
   ·have:=(a4 _ hx).2; omega
   ·omega
  refine ⟨_,sp,wk,k,w0,(hP.nos m5).keep m6 hnq (fun x hx e=>?_),(hV.keep m5 id).keep m6 (fun e=>?_),⟨hnv,a3.2.1,by omega,a3.2.2.2⟩,fun x hx=>⟨(hR x hx).1,by have:=(hR x hx).2; omega⟩,(M.no m5).trans m6 fun x hx e=>?_,Nat.le_refl _,by omega,by omega,(((a9.keep m1 a9.2.1 hwk (N':=w6.heap.size) (by omega)).keep m2 id hwk (Nat.le_refl _)).keep m5 id hwk (Nat.le_refl _)).keep m6 (fun e=>?_) hwk (Nat.le_refl _)⟩
  ·have e:x=q:=e
   omega
  ·have e:v=q:=e
   have:=a3.2.2.1; omega
  ·have e:x=q:=e
   omega
  ·have e:wk=q:=e
   have:=a9.2.2.2.2.1; omega
 ·rw [e1]; exact hat
 ·rw [e1]; unfold atD; rw [ver_at hb]; exact hwf.lastLen (List.getElem?_eq_getElem hb)
theorem gHead_in {g:Gm} {k b:Int} (h:gHead g k=(b,0)):0<=b/\b<gSize g:=by
 unfold gHead at h
 split at h
 ·rename_i hg
  split at h
  ·rename_i hk
   have e:gSize g=2+g.gs*g.gr:=by unfold gSize; rw [if_pos hg]
   obtain ⟨h1,_⟩:=gOk_iff.1 hg
   have hmul:(k+1)*g.gr<=g.gs*g.gr:=Int.mul_le_mul_of_nonneg_right (by omega) (by omega)
   have hp:0<=k*g.gr:=Int.mul_nonneg hk.1 (by omega)
   have hs:(k+1)*g.gr=k*g.gr+g.gr:=by rw [Int.add_mul,Int.one_mul]
   cases h
   omega
  ·cases h
 ·cases h
theorem vhd_c {k:Int} (h:Vg wb R0 N w v d s D nx) (hk:∀ w',Mod No w w'->K (.tuple #[.int .i64 (gHead s.geo k).1,.int .i64 (gHead s.geo k).2]) w'):Cal Tryz.prog F_vol_Vol_head #[.pointer (some ⟨v,0,none⟩),.int .i64 k] w K:=by
 apply C_vol_Vol_head
 unfold D_vol_Vol_head
 exact ff rfl ⟨_,rfl,_,h.geo,geoHead_c fun w' m=>⟨_,_,rfl,hk w' m⟩⟩
theorem vpl_c {k:Int} (h63:k<=9223372036854775807) (h:Vg wb R0 N w v d s D nx) (hk:∀ w',Mod No w w'->K (.tuple #[.int .i64 (gPlace s.geo k).1,.int .i64 (gPlace s.geo k).2.1,.int .i64 (gPlace s.geo k).2.2]) w'):Cal Tryz.prog F_vol_Vol_place #[.pointer (some ⟨v,0,none⟩),.int .i64 k] w K:=by
 apply C_vol_Vol_place
 unfold D_vol_Vol_place
 exact ff rfl ⟨_,rfl,_,h.geo,geoPlace_c h63 fun w' m=>⟨_,_,_,rfl,hk w' m⟩⟩
theorem vHead_c {k:Int} (h:Vg wb R0 N w v d s D nx) (hsz:gSize s.geo<=D.vs.length)
  (hk:∀ w',Vg wb R0 w'.heap.size w' v d s D nx->K (.tuple #[.agg ⟨hV (headAt D s.geo k).1⟩,.int .i64 (headAt D s.geo k).2]) w'):Cal Tryz.prog F_vol_Vol_Head #[.pointer (some ⟨v,0,none⟩),.int .i64 k] w K:=by
 apply C_vol_Vol_Head
 unfold D_vol_Vol_Head
 obtain ⟨w1,b1,b2,b3,b4⟩:=new_u (P:=Tryz.prog) (w:=w) (T:=171) zero_head
 have hN:=h.size
 have fin:∀ (w':World) (i:Hd) (e:Int),AtU w' w.heap.size 0 (hV hZ)->(∀ w6,Mod (fun x=>x=w.heap.size) w' w6->Vg wb R0 w6.heap.size w6 v d s D nx)->(i,e)=headAt D s.geo k->∃ w3:World,RuU (Instr.storeAt 171 (.pointer (some ⟨w.heap.size,0,none⟩)) (.agg ⟨hV i⟩)) w' w3/\∃ gR2:Array Value,Ru (Instr.loadAt 171 (.pointer (some ⟨w.heap.size,0,none⟩))) w3 (.agg gR2) w3/\K (.tuple #[.agg gR2,.int .i64 e]) w3:=fun w' i e hat hv he=>by
  have hw:hWf i:=by have:=headAt_wf D s.geo k; rw [<- he] at this; exact this
  obtain ⟨w3,c1,c2,c3,c4⟩:=hat.put (T:=171) (vs:=hV i) agg_head rfl (hV_len hw) (one_hV _)
  refine ⟨w3,c1,_,c2.at.all agg_head (hV_len hw),?_⟩
  have:=hk w3 (hv w3 c3)
  rw [<- he] at this
  exact this
 have h1:=h.nos b3
 refine ⟨_,w1,b1,vhd_c h1 fun w2 m2=>⟨_,_,rfl,?_⟩⟩
 have h2:=h1.nos m2
 rw [bneI]
 refine cond_of (fun he=>⟨_,build_head0,?_⟩) (fun he=>?_)
 ·have he:=of_decide_eq_true he
  exact fin w2 hZ _ (b2.keep m2 id) (fun w6 m6=>(h2.put hN m6).up) (by unfold headAt; rw [if_pos he])
 have he:=Classical.not_not.1 (of_decide_eq_false he)
 have hin:=gHead_in (g:=s.geo) (k:=k) (b:=(gHead s.geo k).1) (by rw [<- he])
 refine ⟨_,rfl,?_⟩
 have hs1:=b3.size
 have hs2:=m2.size
 refine h2.rd hin.1 (by omega) fun w4 g cc h4 m4 hput hat hl hcc=>⟨_,_,_,_,rfl,ff rfl ⟨_,rfl,_,h4.geo,?_⟩⟩
 refine headGet_c hl hcc (.inr ⟨_,_,rfl,hat.at⟩) (by omega) fun w6 m6=>⟨_,_,rfl,?_⟩
 exact fin w6 _ _ (((b2.keep m2 id).keep m4 (by show ¬ w.heap.size<N; omega)).keep m6 id) (fun w7 m7=>hput _ w6 w7 hN (by omega) m6 m7) (by unfold headAt; rw [if_neg (by rw [he]; decide)])
theorem vInode_c {k:Int} (h63:k<=9223372036854775807) (h:Vg wb R0 N w v d s D nx) (hsz:gSize s.geo<=D.vs.length)
  (hk:∀ w',Vg wb R0 w'.heap.size w' v d s D nx->K (.tuple #[.agg ⟨nV (slotAt D s.geo k).1⟩,.int .i64 (slotAt D s.geo k).2]) w'):Cal Tryz.prog F_vol_Vol_Inode #[.pointer (some ⟨v,0,none⟩),.int .i64 k] w K:=by
 apply C_vol_Vol_Inode
 unfold D_vol_Vol_Inode
 obtain ⟨w1,b1,b2,b3,b4⟩:=new_u (P:=Tryz.prog) (w:=w) (T:=51) zero_ino
 have hN:=h.size
 have fin:∀ (w':World) (i:Nd) (e:Int),AtU w' w.heap.size 0 (nV nZ)->(∀ w6,Mod (fun x=>x=w.heap.size) w' w6->Vg wb R0 w6.heap.size w6 v d s D nx)->(i,e)=slotAt D s.geo k->∃ w3:World,RuU (Instr.storeAt 51 (.pointer (some ⟨w.heap.size,0,none⟩)) (.agg ⟨nV i⟩)) w' w3/\∃ gR2:Array Value,Ru (Instr.loadAt 51 (.pointer (some ⟨w.heap.size,0,none⟩))) w3 (.agg gR2) w3/\K (.tuple #[.agg gR2,.int .i64 e]) w3:=fun w' i e hat hv he=>by
  have hw:nWf i:=by have:=slotAt_wf D s.geo k; rw [<- he] at this; exact this
  obtain ⟨w3,c1,c2,c3,c4⟩:=hat.put (T:=51) (vs:=nV i) agg_ino rfl (nV_len hw) (one_nV _)
  refine ⟨w3,c1,_,c2.at.all agg_ino (nV_len hw),?_⟩
  have:=hk w3 (hv w3 c3)
  rw [<- he] at this
  exact this
 have h1:=h.nos b3
 refine ⟨_,w1,b1,vpl_c h63 h1 fun w2 m2=>⟨_,_,_,rfl,?_⟩⟩
 have h2:=h1.nos m2
 rw [bneI]
 refine cond_of (fun he=>⟨_,build_ino0,?_⟩) (fun he=>?_)
 ·have he:=of_decide_eq_true he
  exact fin w2 nZ _ (b2.keep m2 id) (fun w6 m6=>(h2.put hN m6).up) (by unfold slotAt; rw [if_pos he])
 have he:=Classical.not_not.1 (of_decide_eq_false he)
 have hin:=gPlace_b (g:=s.geo) (s:=k) (b:=(gPlace s.geo k).1) (p:=(gPlace s.geo k).2.1) (by rw [<- he])
 refine ⟨_,rfl,?_⟩
 have hs1:=b3.size
 have hs2:=m2.size
 refine h2.rd (by omega) (by omega) fun w4 g cc h4 m4 hput hat hl hcc=>⟨_,_,_,_,rfl,ff rfl ?_⟩
 refine inoRead_c hl hcc (.inr ⟨_,_,rfl,hat.at⟩) (by omega) fun w6 m6=>⟨_,_,rfl,?_⟩
 exact fin w6 _ _ (((b2.keep m2 id).keep m4 (by show ¬ w.heap.size<N; omega)).keep m6 id) (fun w7 m7=>hput _ w6 w7 hN (by omega) m6 m7) (by unfold slotAt; rw [if_neg (by rw [he]; decide)])
end
end Go.Proofs.YtandmpcjjaabmaaGreat
end
section
open Go Go.Den Go.Proofs
namespace Go.Proofs.YtandmpcjjaabmaaGreat
section
variable {V:Ps} {g:Gm} {hs:List Hd}
theorem find_mapO (l:List On) (f:On->On) (hf:∀ o,(f o).b=o.b) (k:Int):(l.map f).find? (fun o=>(o.b:Int)==k)=(l.find? fun o=>(o.b:Int)==k).map f:=by
 rw [List.find?_map]
 congr 2
 funext o
 simp only [Function.comp]
 rw [hf]
theorem onOf_new (V:Ps) (b:Nat) (n:Int):onOf (newO V b) n=match onOf V n with | some o=>some o | none=>if (b:Int)=n then some ⟨b,contV V b,[]⟩ else none:=by
 unfold newO
 cases hb:onOf V b with
 | some o =>
  show onOf V n=_
  cases hn:onOf V n with
  | some o2=>rfl
  | none =>
   show none=_
   rw [if_neg fun e=>by rw [<- e,hb] at hn; cases hn]
 | none =>
  show (V.ons++[(⟨b,contV V b,[]⟩:On)]).find? (fun o=>(o.b:Int)==n)=_
  rw [List.find?_append]
  show (onOf V n).or _=_
  cases hn:onOf V n with
  | some o2=>rfl
  | none =>
   simp only [Option.none_or,List.find?_cons,List.find?_nil]
   by_cases e:(b:Int)=n
   ·rw [if_pos e]
    have:((b:Int)==n)=true:=by simpa using e
    rw [this]
   ·rw [if_neg e]
    have:((b:Int)==n)=false:=by simpa using e
    rw [this]
theorem contV_new (V:Ps) (b c:Nat):contV (newO V b) c=contV V c:=by
 have hC:=(newO_C (V:=V) (b:=b)).1
 have e:=onOf_new V b c
 unfold contV
 cases hc:onOf V c with
 | some o =>
  rw [hc] at e
  rw [e]
 | none =>
  rw [hc] at e
  simp only at e
  by_cases hb:(b:Int)=c
  ·rw [if_pos hb] at e
   rw [e]
   have hbc:b=c:=by omega
   subst hbc
   show withL (contV V b) []=_
   unfold contV
   rw [hc]; rfl
  ·rw [if_neg hb] at e
   rw [e]
   show atD (newO V b).C.D c=atD V.C.D c
   rw [hC]
theorem contV_add (V:Ps) (x:Ch) (c:Nat):contV (addX V x) c=if c=x.b then overB (contV V c) x.frm x.data else contV V c:=by
 rw [<- contV_new V x.b c]
 show contV (appO (newO V x.b) x) c=_
 have hon:∃ o,onOf (newO V x.b) x.b=some o:=by
  rw [onOf_new]
  cases onOf V x.b with
  | some o=>exact ⟨o,rfl⟩
  | none=>exact ⟨⟨x.b,contV V x.b,[]⟩,if_pos rfl⟩
 generalize newO V x.b=W at *
 have e:onOf (appO W x) c=(onOf W c).map (fun o=>if o.b=x.b then { o with l:=o.l++[x] } else o):=find_mapO W.ons _ (fun o=>by split <;> rfl) c
 show contV (appO W x) c=_
 unfold contV
 rw [e]
 cases hc:onOf W c with
 | none =>
  by_cases hcb:c=x.b
  ·obtain ⟨o,ho⟩:=hon
   rw [hcb,ho] at hc; cases hc
  ·rw [if_neg hcb]; rfl
 | some o =>
  have hob:=(onOf_some hc).2
  have hob:o.b=c:=by omega
  by_cases hcb:c=x.b
  ·rw [if_pos hcb]
   simp only [Option.map_some]
   rw [if_pos (by omega)]
   show withL o.base (o.l++[x])=_
   unfold withL
   rw [List.foldl_append]; rfl
  ·rw [if_neg hcb]
   simp only [Option.map_some]
   rw [if_neg (by omega)]
theorem contV_pat {n f:Int} {data:Bk} {after:List Int} (h:patE V n f data after=0) (c:Nat):contV (patS V n f data after) c=if c=n.toNat then overB (contV V c) f.toNat data else contV V c:=by
 have e:patS V n f data after=addX V (newX V n.toNat f.toNat data after):=by unfold patS; rw [if_pos h]
 rw [e,contV_add]; rfl
theorem patS_C0 (V:Ps) (n f:Int) (data:Bk) (after:List Int):(patS V n f data after).C=V.C:=(patS_C (V:=V) (C:=V.C) rfl).2.2
theorem patS_last {n f:Int} {data:Bk} {after:List Int} (h:patE V n f data after=0):(patS V n f data after).last=V.last+1:=by
 unfold patS; rw [if_pos h]; rfl
def HdsAt (V:Ps) (g:Gm) (hs:List Hd):Prop :=
 gOk g=true/\gSize g<=V.C.D.vs.length/\(hs.length:Int)=g.gs/\∀ (k:Nat) (h:Hd),hs[k]?=some h->contV V (2+k*g.gr).toNat=grpB g h/\hOk g h=true/\h.no=k/\hWf h
theorem head_pos {g:Gm} (hg:gOk g=true) {k:Nat} (hk:(k:Int)<g.gs):gHead g k=(2+k*g.gr,0)/\2<=2+(k:Int)*g.gr/\2+(k:Int)*g.gr<gSize g:=by
 have e:gHead g k=(2+k*g.gr,0):=by unfold gHead; rw [if_pos hg,if_pos ⟨by omega,hk⟩]
 obtain ⟨h1,_⟩:=gOk_iff.1 hg
 have hp:0<=(k:Int)*g.gr:=Int.mul_nonneg (by omega) (by omega)
 exact ⟨e,by omega,(gHead_in e).2⟩
theorem head_inj {g:Gm} (hg:gOk g=true) {j k:Nat} (h:(2+(j:Int)*g.gr).toNat=(2+(k:Int)*g.gr).toNat):j=k:=by
 obtain ⟨h1,_⟩:=gOk_iff.1 hg
 have hj:0<=(j:Int)*g.gr:=Int.mul_nonneg (by omega) (by omega)
 have hk:0<=(k:Int)*g.gr:=Int.mul_nonneg (by omega) (by omega)
 have e:(j:Int)*g.gr=k*g.gr:=by omega
 have:=Int.eq_of_mul_eq_mul_right (by omega) e
 omega
theorem HdsAt.lt (h:HdsAt V g hs) {k:Nat} {x:Hd} (hk:hs[k]?=some x):(k:Int)<g.gs:=by
 have:=(List.getElem?_eq_some_iff.1 hk).1
 have:=h.2.2.1
 omega
def setHB (g:Gm) (h:Hd):Bk:=(grpB g h).take 64
theorem setHB_len {g:Gm} {h:Hd} (hw:hWf h):(setHB g h).length=64:=by unfold setHB; rw [List.length_take,grpB_len hw]; rfl
def setHV (V:Ps) (g:Gm) (k:Nat) (h:Hd):Ps:=patS V (2+k*g.gr) 0 (setHB g h) []
theorem setH_E (hV:HdsAt V g hs) {k:Nat} (hk:(k:Int)<g.gs) {h:Hd} (hw:hWf h):patE V (2+k*g.gr) 0 (setHB g h) []=0:=by
 obtain ⟨_,p1,p2⟩:=head_pos hV.1 hk
 have:=hV.2.1
 have e:errOf V.C.D (2+k*g.gr)=0:=by unfold errOf; rw [if_neg (by omega)]
 unfold patE
 rw [e,if_neg (by decide),if_neg (by rw [setHB_len hw]; omega)]
 rfl
theorem HdsAt.set (hV:HdsAt V g hs) {k:Nat} (hk:(k:Int)<g.gs) {h:Hd} (hw:hWf h) (ho:hOk g h=true) (hn:h.no=k):HdsAt (setHV V g k h) g (hs.set k h):=by
 have hE:=setH_E hV hk (h:=h) hw
 obtain ⟨g1,g2,g3,g4⟩:=hV
 refine ⟨g1,by unfold setHV; rw [patS_C0]; exact g2,by simpa using g3,fun j x hj=>?_⟩
 unfold setHV
 rw [contV_pat hE]
 by_cases e:j=k
 ·subst e
  have hlt:j<hs.length:=by omega
  rw [List.getElem?_set_self hlt] at hj
  cases hj
  rw [if_pos rfl]
  obtain ⟨q1,q2,q3,q4⟩:=g4 j hs[j] (by simp [hlt])
  rw [q1]
  exact ⟨grp_over q4 hw,ho,hn,hw⟩
 ·rw [List.getElem?_set_ne (fun x=>e x.symm)] at hj
  rw [if_neg fun x=>e (head_inj g1 x)]
  exact g4 j x hj
end
def ringK (g:Gm) (s:Int) (i:Nat):Nat:=((s+i) % g.gs).toNat
def ringF (p:Int) (there:Bool) (i:Nat):Int:=if i=0/\there=true then p+1 else 0
def takeAt (g:Gm) (hs:List Hd) (fz:Int->Bool) (find:Hd->Int->Int) (s p:Int) (there:Bool) (i:Nat):Option (Nat×Int) :=
 if fz (ringK g s i)=true then none else
  match hs[ringK g s i]? with
  | some h=>if 0<=find h (ringF p there i) then some (ringK g s i,find h (ringF p there i)) else none
  | none=>none
def takeTo (g:Gm) (hs:List Hd) (fz:Int->Bool) (find:Hd->Int->Int) (s p:Int) (there:Bool):Nat->Option (Nat×Int)
 | 0=>none
 | n+1=>match takeTo g hs fz find s p there n with | some x=>some x | none=>takeAt g hs fz find s p there n
theorem ringK_lt {g:Gm} (hg:gOk g=true) (s:Int) (i:Nat):(ringK g s i:Int)<g.gs:=by
 obtain ⟨_,_,h3,_⟩:=gOk_iff.1 hg
 unfold ringK
 have h1:=Int.emod_nonneg (s+i) (show g.gs≠0 by omega)
 have h2:=Int.emod_lt_of_pos (s+i) (show 0<g.gs by omega)
 omega
end Go.Proofs.YtandmpcjjaabmaaGreat
end
section
open Go Go.Den Go.Proofs
namespace Go.Proofs.YtandmpcjjaabmaaGreat
theorem drop_app {α:Type} {a b:List α} {n:Nat} (h:a.length=n):(a++b).drop n=b:=by
 rw [List.drop_append,List.drop_eq_nil_of_le (by omega),List.nil_append,h,Nat.sub_self,List.drop_zero]
theorem take_app {α:Type} {a b:List α} {n:Nat} (h:a.length=n):(a++b).take n=a:=by
 rw [List.take_append_of_le_length (by omega),List.take_of_length_le (by omega)]
theorem nm_at {p:List Int} (hp:∀ a∈p,0<=a/\a<65536):∀ {k:Nat} {a:Int} {r:List UInt8},p[k]?=some a->(leN (((iNames p++r).drop (2*k)).take 2):Int)=a:=by
 induction p with
 | nil=>intro k a r h; simp at h
 | cons b q ih =>
  intro k a r h
  have e:iNames (b::q)++r=toLe 2 b.toNat++(iNames q++r):=by
   show (toLe 2 b.toNat++iNames q)++r=_
   rw [List.append_assoc]
  have hb:=hp b (by simp)
  rw [e]
  cases k with
  | zero =>
   have:b=a:=by simpa using h
   subst this
   rw [Nat.mul_zero,List.drop_zero,take_app (length_toLe _ _),leN_toLe _ _ (by omega)]
   omega
  | succ k =>
   have h:q[k]?=some a:=by simpa using h
   rw [show 2*(k+1)=2+2*k by omega,<- List.drop_drop,drop_app (length_toLe _ _)]
   exact ih (fun a ha=>hp a (by simp [ha])) h
theorem readN_inoB {i:Nd} (hw:nWf i) (ho:nOk i=true):readN (inoB i)=i:=by
 obtain ⟨b1,b2,b3,b4,b5,b6,b7,b8,hp⟩:=nOk_b ho
 have hall:∀ a∈i.p,0<=a/\a<65536:=fun a ha=>by have:=hp a ha; omega
 have l2:(toLe 2 i.links.toNat).length=2:=length_toLe _ _
 have l4:(toLe 4 i.size.toNat).length=4:=length_toLe _ _
 have l8:(toLe 8 i.id.toNat).length=8:=length_toLe _ _
 have e:inoB i=[UInt8.ofNat i.kind.toNat,0]++(toLe 2 i.links.toNat++(toLe 4 i.size.toNat++(toLe 8 i.id.toNat++(iNames i.p++List.replicate 32 0)))):=by
  unfold inoB iFront
  simp only [List.append_assoc]
 have d2:(inoB i).drop 2=toLe 2 i.links.toNat++(toLe 4 i.size.toNat++(toLe 8 i.id.toNat++(iNames i.p++List.replicate 32 0))):=by rw [e]; rfl
 have d4:(inoB i).drop 4=toLe 4 i.size.toNat++(toLe 8 i.id.toNat++(iNames i.p++List.replicate 32 0)):=by
  rw [show 4=2+2 by rfl,<- List.drop_drop,d2,drop_app l2]
 have d8:(inoB i).drop 8=toLe 8 i.id.toNat++(iNames i.p++List.replicate 32 0):=by
  rw [show 8=4+4 by rfl,<- List.drop_drop,d4,drop_app l4]
 have d16:(inoB i).drop 16=iNames i.p++List.replicate 32 0:=by
  rw [show 16=8+8 by rfl,<- List.drop_drop,d8,drop_app l8]
 have nm:∀ (k:Nat) (a:Int),i.p[k]?=some a->nmAt (inoB i) k=a:=fun k a h=>by
  have:=nm_at hall (r:=List.replicate 32 0) h
  unfold nmAt
  rw [<- d16,List.drop_drop] at this
  exact this
 have h0:((inoB i).getD 0 0).toNat=i.kind.toNat:=by
  rw [e]
  show (UInt8.ofNat i.kind.toNat).toNat=_
  rw [UInt8.toNat_ofNat']; omega
 have hw8:i.p.length=8:=hw
 cases i with
 | mk kind links size id p =>
  simp only at *
  match p,hw8 with
  | [a0,a1,a2,a3,a4,a5,a6,a7],_ =>
   unfold readN
   rw [h0,d2,d4,d8,take_app l2,take_app l4,take_app l8,leN_toLe _ _ (by omega),leN_toLe _ _ (by omega),leN_toLe _ _ (by omega),nmTo8,
    nm 0 a0 rfl,nm 1 a1 rfl,nm 2 a2 rfl,nm 3 a3 rfl,nm 4 a4 rfl,nm 5 a5 rfl,nm 6 a6 rfl,nm 7 a7 rfl,wrap64 (by omega) (by omega)]
   simp only [Nd.mk.injEq,and_true]
   omega
theorem inoG_inoB {i:Nd} (hw:nWf i) (ho:nOk i=true):inoG (inoB i)=(i,0):=by
 have hr:=readN_inoB hw ho
 have hl:=inoB_len hw
 rw [inoG_doc hl,hr,if_pos ⟨ho,rfl⟩]
theorem over_here {xs d:Bk} {f:Nat} (h:f+d.length<=xs.length):((overB xs f d).drop f).take d.length=d:=by
 unfold overB
 rw [List.append_assoc,drop_app (by simp; omega),take_app rfl]
theorem over_there {xs d:Bk} {f f' n:Nat} (h:f+d.length<=xs.length) (hd:f'+n<=f\/f+d.length<=f'):((overB xs f d).drop f').take n=(xs.drop f').take n:=by
 have hl:(xs.take f).length=f:=by simp; omega
 unfold overB
 rcases hd with hd | hd
 ·rw [List.append_assoc,List.drop_append,List.take_append_of_le_length (by simp; omega),List.drop_take,List.take_take,Nat.min_eq_left (by omega)]
 ·rw [List.drop_append,List.drop_eq_nil_of_le (by rw [List.length_append,hl]; exact hd),List.nil_append,List.drop_drop,List.length_append,hl,show f+d.length+(f'-(f+d.length))=f' by omega]
theorem inoAt_over {xs:Bk} (hl:xs.length=256) {p:Int} (h0:0<=p) (h4:p<4) {i:Nd} (hw:nWf i) (ho:nOk i=true) {q:Int} (q0:0<=q) (q4:q<4) :
  inoAt (overB xs (64*p.toNat) (inoB i)) q=if q=p then (i,0) else inoAt xs q:=by
 have hb:=inoB_len hw
 have hl':(overB xs (64*p.toNat) (inoB i)).length=256:=by unfold overB; simp; omega
 have ht:tabE 256 q=0:=by unfold tabE; rw [if_neg (by decide),if_neg (by omega)]
 unfold inoAt
 rw [hl',hl,ht,if_neg (show ¬ (0:Int)≠0 from fun e=>e rfl),if_neg (show ¬ (0:Int)≠0 from fun e=>e rfl)]
 by_cases e:q=p
 ·subst e
  rw [if_pos rfl]
  have:=over_here (xs:=xs) (d:=inoB i) (f:=64*q.toNat) (by omega)
  rw [hb] at this
  rw [this]; exact inoG_inoB hw ho
 ·rw [if_neg e,over_there (by omega) (by omega)]
def slotV (V:Ps) (g:Gm) (s:Int):Nd×Int:=if (gPlace g s).2.2≠0 then (nZ,(gPlace g s).2.2) else inoAt (contV V (gPlace g s).1.toNat) (gPlace g s).2.1
theorem gPlace_in {g:Gm} (hg:gOk g=true) {s:Int} (h0:0<=s) (h1:s<gSlots g):∃ k j p:Nat,gPlace g s=(2+k*g.gr+1+j,(p:Int),0)/\(k:Int)<g.gs/\(j:Int)<gTabs g/\p<4/\s=k*g.no+(4*j+p)/\(4*j+p:Int)<g.no:=by
 obtain ⟨s1,s2,s3,s4⟩:=slot_in hg h0 h1
 obtain ⟨_,_,_,_,g5,_,g7,_⟩:=gOk_iff.1 hg
 have hT:=gTabs_eq hg
 obtain ⟨k,hk⟩:=Int.eq_ofNat_of_zero_le s1
 obtain ⟨r,hr⟩:=Int.eq_ofNat_of_zero_le s3
 refine ⟨k,r / 4,r % 4,?_,by omega,by omega,by omega,?_,by omega⟩
 ·unfold gPlace
  rw [if_pos hg,if_pos ⟨h0,h1⟩,hk,hr]
  congr 1
 ·have:=Int.mul_ediv_add_emod s g.no
  rw [hk,hr] at this
  have e:g.no*(k:Int)=k*g.no:=Int.mul_comm _ _
  omega
theorem gPlace_out {g:Gm} (hg:gOk g=true) {s:Int} (h:¬ (0<=s/\s<gSlots g)):gPlace g s=(0,0,3):=by unfold gPlace; rw [if_pos hg,if_neg h]
theorem tab_head {g:Gm} (hg:gOk g=true) {k k' j:Nat} (hj:(j:Int)<gTabs g):(2+(k:Int)*g.gr+1+j).toNat≠(2+(k':Int)*g.gr).toNat:=by
 intro e
 obtain ⟨g1,_,_,_,_,_,_,g8,_⟩:=gOk_iff.1 hg
 have hT:=gTabs_eq hg
 have p1:0<=(k:Int)*g.gr:=Int.mul_nonneg (by omega) (by omega)
 have p2:0<=(k':Int)*g.gr:=Int.mul_nonneg (by omega) (by omega)
 have e:(k':Int)*g.gr=(1+j)+k*g.gr:=by omega
 have e2:((k':Int)*g.gr) % g.gr=((1+j:Int)+k*g.gr) % g.gr:=by rw [e]
 rw [Int.mul_emod_left,Int.add_mul_emod_self_right,Int.emod_eq_of_lt (by omega) (by omega)] at e2
 omega
theorem tab_inj {g:Gm} (hg:gOk g=true) {k k' j j':Nat} (hj:(j:Int)<gTabs g) (hj':(j':Int)<gTabs g) (e:(2+(k:Int)*g.gr+1+j).toNat=(2+(k':Int)*g.gr+1+j').toNat):k=k'/\j=j':=by
 obtain ⟨g1,_,_,_,_,_,_,g8,_⟩:=gOk_iff.1 hg
 have hT:=gTabs_eq hg
 have p1:0<=(k:Int)*g.gr:=Int.mul_nonneg (by omega) (by omega)
 have p2:0<=(k':Int)*g.gr:=Int.mul_nonneg (by omega) (by omega)
 have e:(j:Int)+k*g.gr=j'+k'*g.gr:=by omega
 have e2:((j:Int)+k*g.gr) % g.gr=((j':Int)+k'*g.gr) % g.gr:=by rw [e]
 rw [Int.add_mul_emod_self_right,Int.add_mul_emod_self_right,Int.emod_eq_of_lt (by omega) (by omega),Int.emod_eq_of_lt (by omega) (by omega)] at e2
 have e3:(k:Int)*g.gr=k'*g.gr:=by omega
 have:=Int.eq_of_mul_eq_mul_right (by omega) e3
 omega
theorem slotV_same {V V':Ps} {g:Gm} (hg:gOk g=true) (h:∀ k j:Nat,(j:Int)<gTabs g->contV V' (2+(k:Int)*g.gr+1+j).toNat=contV V (2+(k:Int)*g.gr+1+j).toNat) (s:Int):slotV V' g s=slotV V g s:=by
 unfold slotV
 by_cases hs:0<=s/\s<gSlots g
 ·obtain ⟨k,j,p,e,_,hj,_⟩:=gPlace_in hg hs.1 hs.2
  rw [e]
  simp only
  rw [h k j hj]
 ·rw [gPlace_out hg hs,if_pos (by decide),if_pos (by decide)]
theorem slotV_set {V:Ps} {g:Gm} (hg:gOk g=true) {n b p:Int} (hn:gPlace g n=(b,p,0)) (hl:(contV V b.toNat).length=256) {i:Nd} (hw:nWf i) (ho:nOk i=true) {after:List Int} (hE:patE V b (64*p) (inoB i) after=0) (s:Int) :
  slotV (patS V b (64*p) (inoB i) after) g s=if s=n then (i,0) else slotV V g s:=by
 obtain ⟨_,n0,n1,_,_,p0,p4⟩:=gPlace_b hn
 obtain ⟨k,j,q,e,hk,hj,hq,hs,hs2⟩:=gPlace_in hg n0 n1
 rw [hn] at e
 cases e
 have hp:(64*(q:Int)).toNat=64*((q:Int)).toNat:=by omega
 unfold slotV
 by_cases hr:0<=s/\s<gSlots g
 ·obtain ⟨k',j',q',e',hk',hj',hq',hs',hs2'⟩:=gPlace_in hg hr.1 hr.2
  rw [e']
  simp only
  rw [if_neg (show ¬ (0:Int)≠0 from fun e=>e rfl),if_neg (show ¬ (0:Int)≠0 from fun e=>e rfl),contV_pat hE,hp]
  by_cases c:(2+(k':Int)*g.gr+1+j').toNat=(2+(k:Int)*g.gr+1+j).toNat
  ·obtain ⟨rfl,rfl⟩:=tab_inj hg hj' hj c
   rw [if_pos rfl,inoAt_over hl (by omega) (by omega) hw ho (by omega) (by omega)]
   by_cases d:(q':Int)=q
   ·rw [if_pos d,if_pos (by omega)]
   ·rw [if_neg d,if_neg (by omega)]
  ·rw [if_neg c,if_neg]
   intro d
   subst d
   rw [hn] at e'
   injection e' with e1 e2
   exact c (by rw [e1])
 ·have d:¬ s=n:=fun d=>by subst d; exact hr ⟨n0,n1⟩
  rw [gPlace_out hg hr,if_neg d]; rfl
end Go.Proofs.YtandmpcjjaabmaaGreat
end
section
open Go Go.Den Go.Proofs
namespace Go.Proofs.YtandmpcjjaabmaaGreat
theorem andnot_nat8 {a b:Nat} (ha:a<256) (hb:b<256):IntKind.u8.wrap (bvAndNot 8 (a:Int) (b:Int))=((a &&& (255-b):Nat):Int):=by
 have:bvAndNot 8 (a:Int) (b:Int)=((a &&& (255-b):Nat):Int):=by
  show (((_:BitVec 8).toNat:Nat):Int)=_
  rw [BitVec.ofInt_natCast,BitVec.ofInt_natCast,BitVec.toNat_and,BitVec.toNat_not,BitVec.toNat_ofNat,BitVec.toNat_ofNat,Nat.mod_eq_of_lt ha,Nat.mod_eq_of_lt hb]
 have hlt:a &&& (255-b)<=a:=Nat.and_le_left
 rw [this,wrapU8]; omega
section
variable {w:World} {K:Value->World->Prop}
theorem bitSet_c {a:Option Addr} {l c i:Nat} {on:Bool} {xs:List UInt8} (hl:xs.length=l) (hr:Row w a (u8L xs)) (h63:l<=1048576) (hi:i<8*l)
  (hk:∀ w' q,Mod No w w'->w.heap.size<=q->AtU w' q 0 (u8L (putB xs i on))->K (.tuple #[.slice (some ⟨q,0,none⟩) l l,.int .i64 0]) w'):Cal Tryz.prog F_bits_Set #[.slice a l c,.int .i64 i,.bool on] w K:=by
 apply C_bits_Set
 unfold D_bits_Set
 apply C_bits_there
 unfold D_bits_there
 refine Share.dup (tt (decide_eq_true (by omega)) ⟨_,rfl,_,rfl,ff ?_ ?_⟩)
 ·rw [wrap64 (x:=8*(l:Int)) (by omega) (by omega),decide_eq_true (by omega)]; rfl
 have hi8:i / 8<xs.length:=by omega
 have d1:IntKind.i64.wrap (Int.tdiv (i:Int) 8)=((i / 8:Nat):Int):=by rw [Int.tdiv_eq_ediv_of_nonneg (by omega),wrap64 (by omega) (by omega)]; omega
 have d2:Int.tmod (i:Int) 8=((i % 8:Nat):Int):=by rw [Int.tmod_eq_emod_of_nonneg (by omega)]; omega
 rw [d1,d2]
 have hp8:=pow8 (k:=i % 8) (by omega)
 obtain ⟨w1,a1,a2,a3,a4⟩:=makeSlice_run (P:=Tryz.prog) (w:=w) (n:=l) elemZ_bytes (by omega) (by omega) (by omega)
 obtain ⟨w2,b1,b2,b3,b4⟩:=copy_run (P:=Tryz.prog) (T:=55) (T2:=55) (ty:=3) (n:=l) (n2:=l) (c:=l) (c2:=c) elemN_bytes a2 (by simp) (hr.nos a3) (by rw [length_u8L,hl]; omega) (one_u8L _)
 have e2:splice (List.replicate (l*1) (Value.int .u8 0)) 0 ((u8L xs).take (Nat.min l l*1))=u8L xs:=by
  unfold splice
  rw [List.take_zero,List.nil_append,List.take_of_length_le (by rw [length_u8L,hl]; simp),List.drop_eq_nil_of_le (by rw [length_u8L,hl]; simp),List.append_nil]
 rw [e2] at b2
 have ix:Al (Instr.indexAt 55 (.slice (some ⟨w.heap.size,0,none⟩) l l) (.int .i64 ((i / 8:Nat):Int))) (.pointer (some ⟨w.heap.size,i / 8,none⟩)):=by
  have:=index_slice (P:=Tryz.prog) (T:=55) (k:=1) (n:=l) (c:=l) (a:=⟨w.heap.size,0,none⟩) (kk:=.i64) (i:=((i / 8:Nat):Int)) elemN_bytes (by omega) (by omega)
  rw [add_none,show 0+((i / 8:Nat):Int).toNat*1=i / 8 by omega] at this
  exact this
 have n1:(xs.getD (i / 8) 0).toNat &&& (255-2 ^ (i % 8))<256:=Nat.lt_of_le_of_lt Nat.and_le_left (xs.getD (i / 8) 0).toNat_lt
 obtain ⟨w4,c1,c2,c3,c4⟩:=b2.drew.store (P:=Tryz.prog) (T:=5) (i:=i / 8) (v:=.int .u8 (((xs.getD (i / 8) 0).toNat &&& (255-2 ^ (i % 8)):Nat):Int)) (by kernel_rfl) (by rw [length_u8L]; omega) rfl
 rw [u8L_set _ _ _ n1] at c2
 have c2:AtU w4 w.heap.size 0 (u8L (clrB xs i)):=c2
 have M2:Mod No w w2:=a3.own b3 (Nat.le_refl _)
 have M4:Mod No w w4:=M2.drew.own c3 (Nat.le_refl _)
 have g0:xs.getD (i / 8) 0=xs[i / 8]:=by rw [List.getD_eq_getElem?_getD,List.getElem?_eq_getElem hi8]; rfl
 refine ⟨_,_,_,w1,a1,_,w2,b1,_,ix,((xs.getD (i / 8) 0).toNat:Int),?_,_,shl8 (by omega),_,ix,w4,?_,?_⟩
 ·have:=b2.at.drew.load (P:=Tryz.prog) (T:=5) (i:=i / 8) (by kernel_rfl) (u8L_get hi8)
  rw [Nat.zero_add] at this
  rw [g0]; exact this
 ·rw [one_shl (Nat.mod_lt _ (by omega)),andnot_nat8 (UInt8.toNat_lt _) hp8]
  rw [Nat.zero_add] at c1
  exact c1
 refine Share.cut (fun z w6=>AtU w6 w.heap.size 0 (u8L (putB xs i on))/\Mod No w w6) ?_ ?_
 ·cases on with
  | false=>exact ⟨c2,M4⟩
  | true =>
   have hc8:i / 8<(clrB xs i).length:=by rw [clrB_len]; exact hi8
   have n2:((clrB xs i).getD (i / 8) 0).toNat ||| 2 ^ (i % 8)<256:=Nat.or_lt_two_pow (n:=8) (UInt8.toNat_lt _) hp8
   obtain ⟨w5,d1,d2,d3,d4⟩:=c2.drew.store (P:=Tryz.prog) (T:=5) (i:=i / 8) (v:=.int .u8 ((((clrB xs i).getD (i / 8) 0).toNat ||| 2 ^ (i % 8):Nat):Int)) (by kernel_rfl) (by rw [length_u8L]; omega) rfl
   rw [u8L_set _ _ _ n2] at d2
   have g1:(clrB xs i).getD (i / 8) 0=(clrB xs i)[i / 8]:=by rw [List.getD_eq_getElem?_getD,List.getElem?_eq_getElem hc8]; rfl
   refine ⟨_,ix,(((clrB xs i).getD (i / 8) 0).toNat:Int),?_,_,shl8 (by omega),_,ix,w5,?_,d2,M4.drew.own d3 (Nat.le_refl _)⟩
   ·have:=c2.at.drew.load (P:=Tryz.prog) (T:=5) (i:=i / 8) (by kernel_rfl) (u8L_get hc8)
    rw [Nat.zero_add] at this
    rw [g1]; exact this
   ·rw [one_shl (Nat.mod_lt _ (by omega)),or_nat8 (UInt8.toNat_lt _) hp8]
    rw [Nat.zero_add] at d1
    exact d1
 ·rintro z w6 ⟨h1,h2⟩
  exact hk w6 _ h2 (Nat.le_refl _) h1
def fstB (xs:List UInt8) (i:Nat):Int:=match (List.range i).find? (clearB xs) with | some j=>j | none=>-1
theorem bitFirst_c {a:Option Addr} {l c:Nat} {n f:Int} {xs:List UInt8} (hl:xs.length=l) (hr:Row w a (u8L xs)) (h63:l<=1048576) (hk:∀ w',Mod No w w'->K (.int .i64 (firstB xs n f)) w'):Cal Tryz.prog F_bits_First #[.slice a l c,.int .i64 n,.int .i64 f] w K:=by
 apply C_bits_First
 unfold D_bits_First
 refine Share.cut (fun z w1=>w1=w/\z=[.bool (decide (f<0\/n<f))]) (cond_of (fun h=>⟨rfl,?_⟩) (fun h=>⟨rfl,?_⟩)) ?_
 ·rw [decide_eq_true (show f<0\/n<f from .inl (of_decide_eq_true h))]
 ·have h:=of_decide_eq_false h
  congr 2
  exact decide_eq_decide.2 ⟨.inr,fun e=>e.resolve_left h⟩
 rintro z w1 ⟨rfl,rfl⟩
 refine ⟨_,rfl,Share.cut (fun z w2=>w2=w1/\z=[.int .i64 (fromB n f)]) (cond_of (fun h=>⟨rfl,?_⟩) (fun h=>⟨rfl,?_⟩)) ?_⟩
 ·unfold fromB; rw [if_pos (of_decide_eq_true h)]
 ·unfold fromB; rw [if_neg (of_decide_eq_false h)]
 rintro z w2 ⟨rfl,rfl⟩
 apply C_bits_most
 unfold D_bits_most
 refine ⟨_,rfl,?_⟩
 rw [wrap64 (x:=8*(l:Int)) (by omega) (by omega)]
 have em:(if 8*(l:Int)<(if 0 > n then 0 else n) then 8*(l:Int) else (if 0 > n then 0 else n))=(upB xs n:Int):=by
  unfold upB; rw [hl]; split <;> split <;> omega
 rw [em]
 have hu:upB xs n<=8*l:=by unfold upB; omega
 generalize hm:upB xs n=m at *
 refine ⟨fun x w3=>∃ j:Nat,j<=m/\x=[.int .i64 (fstB xs j),.int .i64 j]/\(List.range j).find? (fun i=>clearB xs i&&decide (fromB n f<=i))=none/\Mod No w2 w3,fun x _=>(m-nI x 1).toNat,⟨0,by omega,rfl,rfl,Mod.refl _ _⟩,?_⟩
 rintro x w3 ⟨j,hj,rfl,hno,m3⟩
 refine ⟨_,rfl,cond_of (fun h=>?_) (fun h=>?_)⟩
 ·have h:=of_decide_eq_true h
  have hs:=find_range_succ (clearB xs) j
  have hs2:=find_range_succ (fun i=>clearB xs i&&decide (fromB n f<=i)) j
  rw [hno] at hs2
  have hs2:(List.range (j+1)).find? (fun i=>clearB xs i&&decide (fromB n f<=i))=if (clearB xs j&&decide (fromB n f<=j))=true then some j else none:=hs2
  refine Share.cut (fun z w5=>z=[.int .i64 (fstB xs (j+1))]/\(List.range (j+1)).find? (fun i=>clearB xs i&&decide (fromB n f<=i))=none/\Mod No w2 w5) ?_ ?_
  ·refine bitGet_c (xs:=xs) hl (hr.nos m3) h63 (by omega) fun w5 m5=>⟨_,rfl,cond_of (fun h2=>⟨?_,?_,m3.no m5⟩) (fun h2=>⟨_,rfl,cond_of (fun h3=>?_) (fun h3=>⟨_,rfl,?_⟩)⟩)⟩
   ·have hc:clearB xs j=false:=by unfold clearB; rw [h2]; rfl
    unfold fstB
    rw [hs,hc]
    cases (List.range j).find? (clearB xs) <;> rfl
   ·have hc:clearB xs j=false:=by unfold clearB; rw [h2]; rfl
    rw [hs2,hc]; rfl
   ·have h3:=of_decide_eq_true h3
    have hc:clearB xs j=true:=by unfold clearB; rw [h2]; rfl
    have hc2:(clearB xs j&&decide (fromB n f<=j))=true:=by rw [hc,decide_eq_true (by omega)]; rfl
    rw [if_pos hc2] at hs2
    have e:firstB xs n f=j:=by
     unfold firstB
     rw [hm,find_range_mono hs2 (by omega)]
    rw [<- e]
    exact hk _ (m3.no m5)
   ·have h3:=of_decide_eq_false h3
    have hc:clearB xs j=true:=by unfold clearB; rw [h2]; rfl
    have hc2:(clearB xs j&&decide (fromB n f<=j))=false:=by rw [hc,decide_eq_false (by omega)]; rfl
    rw [hc2] at hs2
    rw [hc] at hs
    refine Share.cut (fun z w6=>w6=w5/\z=[.int .i64 (fstB xs (j+1))]) (cond_of (fun h4=>⟨rfl,?_⟩) (fun h4=>⟨rfl,?_⟩)) ?_
    ·have h4:=of_decide_eq_true h4
     unfold fstB at h4 |-
     rw [hs]
     cases hf:(List.range j).find? (clearB xs) with
     | none=>rfl
     | some i=>rw [hf] at h4; simp only at h4; omega
    ·have h4:=of_decide_eq_false h4
     unfold fstB at h4 |-
     rw [hs]
     cases hf:(List.range j).find? (clearB xs) with
     | none=>rw [hf] at h4; simp only at h4; omega
     | some i=>rfl
    ·rintro z w6 ⟨rfl,rfl⟩
     exact ⟨rfl,hs2,m3.no m5⟩
  ·rintro z w5 ⟨rfl,h1,h2⟩
   rw [wrap64 (x:=(j:Int)+1) (by omega) (by omega)]
   exact ⟨⟨j+1,by omega,rfl,h1,h2⟩,by simp [nI,nth]; omega⟩
 ·have h:=of_decide_eq_false h
  have:j=m:=by omega
  subst this
  refine ⟨_,rfl,?_⟩
  have e:firstB xs n f=fstB xs j:=by
   unfold firstB fstB
   rw [hm,hno]
   cases (List.range j).find? (clearB xs) <;> rfl
  rw [<- e]
  exact hk _ m3
end
end Go.Proofs.YtandmpcjjaabmaaGreat
end
section
open Go Go.Den Go.Proofs
namespace Go.Proofs.YtandmpcjjaabmaaGreat
theorem gTabs_b {g:Gm}:0<=gTabs g/\gTabs g<=16:=by
 unfold gTabs
 split
 ·rename_i h
  obtain ⟨_,_,_,_,h5,h6,_⟩:=gOk_iff.1 h
  omega
 ·omega
section
variable {w:World} {K:Value->World->Prop}
theorem grMay_c {g:Gm} {h:Hd} {i f t:Int} (hw:hWf h) (hk:∀ w',Mod No w w'->K (.int .i64 (grMay g h i f t)) w') :
  Cal Tryz.prog F_group_may #[.agg ⟨gV g⟩,.agg ⟨hV h⟩,.int .i64 i,.int .i64 f,.int .i64 t] w K:=by
 apply C_group_may
 unfold D_group_may
 obtain ⟨w1,a1,a2,a3,a4⟩:=box_u (P:=Tryz.prog) (w:=w) (T:=39) (cs:=gV g)
 obtain ⟨w2,b1,b2,b3,b4⟩:=box_u (P:=Tryz.prog) (w:=w1) (T:=171) (cs:=hV h)
 have m2:=a3.no b3
 refine ⟨_,w1,a1,_,w2,b1,_,(a2.at.keep b3 id).all agg_geo rfl,_,b2.at.all agg_head (hV_len hw),hRight_c hw fun w3 m3=>⟨_,rfl,cond_of (fun ho=>?_) (fun ho=>?_)⟩⟩
 ·have e:grMay g h i f t=1:=by unfold grMay; rw [if_pos (by simpa using ho)]
  rw [<- e]; exact hk _ (m2.no m3)
 have ho:hOk g h=true:=by simpa using ho
 refine Share.cut (fun z w4=>w4=w3/\z=[.bool (decide (i<f\/t<=i))]) (cond_of (fun hb=>⟨rfl,?_⟩) (fun hb=>⟨rfl,?_⟩)) ?_
 ·rw [decide_eq_true (show i<f\/t<=i from .inl (of_decide_eq_true hb))]
 ·have hb:=of_decide_eq_false hb
  congr 2
  exact decide_eq_decide.2 ⟨.inr,fun e=>e.resolve_left hb⟩
 rintro z w4 ⟨rfl,rfl⟩
 refine ⟨_,rfl,cond_of (fun hb=>?_) (fun hb=>?_)⟩
 ·have e:grMay g h i f t=3:=by unfold grMay; rw [if_neg (by rw [ho]; decide),if_pos (of_decide_eq_true hb)]
  rw [<- e]; exact hk _ (m2.no m3)
 ·have e:grMay g h i f t=0:=by unfold grMay; rw [if_neg (by rw [ho]; decide),if_neg (of_decide_eq_false hb)]
  rw [<- e]; exact hk _ (m2.no m3)
theorem grUse_c {b o l c i:Nat} {on:Bool} {cs:List Value} {xs:List UInt8} (hl:xs.length=l) (hat:AtU w b 0 cs) (hx:(cs.drop o).take l=u8L xs) (hol:o+l<=cs.length) (h63:l<=1048576) (hi:i<8*l)
  (hk:∀ w',Mod (fun x=>x=b) w w'->AtU w' b 0 (if bitB xs i=on then cs else splice cs o (u8L (putB xs i on)))->K (.int .i64 (if bitB xs i=on then 6 else 0)) w') :
  Cal Tryz.prog F_group_use #[.slice (some ⟨b,o,none⟩) l c,.int .i64 i,.bool on] w K:=by
 apply C_group_use
 unfold D_group_use
 have hr:Row w (some ⟨b,o,none⟩) (u8L xs):=.inr ⟨b,o,rfl,by
  have:=hat.at.sub (i:=o) (m:=l) (by omega)
  rw [Nat.zero_add,hx] at this; exact this⟩
 refine bitGet_c hl hr h63 (by omega) fun w1 m1=>⟨_,rfl,cond_of (fun h=>?_) (fun h=>?_)⟩
 ·have h:bitB xs i=on:=by simpa using h
  rw [if_pos h,if_pos h] at hk
  exact hk w1 (m1.mono fun _ _ e=>e.elim) (hat.keep m1 id)
 ·have h:¬ bitB xs i=on:=by simpa using h
  rw [if_neg h,if_neg h] at hk
  refine bitSet_c hl (hr.nos m1) h63 hi fun w2 q m2 hq hat2=>⟨_,_,_,_,rfl,?_⟩
  obtain ⟨w3,p1,p2,p3,p4⟩:=copy_in (P:=Tryz.prog) (T:=55) (T2:=55) (ty:=3) (o:=0) (i:=o) (n:=l) (c:=c) (n2:=l) (c2:=l) (a2:=some ⟨q,0,none⟩) elemN_bytes ((hat.keep m1 id).keep m2 id) (by omega) (.inr ⟨q,0,rfl,hat2.at⟩) (by rw [length_u8L,putB_len,hl]; omega) (one_u8L _)
  rw [Nat.zero_add] at p1
  rw [List.take_of_length_le (by rw [length_u8L,putB_len,hl]; simp)] at p2
  exact ⟨_,w3,p1,hk w3 (((m1.no m2).mono fun _ _ e=>e.elim).trans p3 fun _ _ e=>e) p2⟩
theorem hV_dropb {h:Hd} (hw:hWf h):((hV h).drop 1).take 16=u8L h.bs:=by
 unfold hV
 rw [List.drop_succ_cons,List.drop_zero,List.take_append_of_le_length (by rw [length_u8L,hw.1]; omega),List.take_of_length_le (by rw [length_u8L,hw.1]; omega)]
theorem hV_drops {h:Hd} (hw:hWf h):((hV h).drop 17).take 8=u8L h.ss:=by
 unfold hV
 rw [show 17=16+1 from rfl,List.drop_succ_cons,List.drop_append,List.drop_eq_nil_of_le (by rw [length_u8L,hw.1]; omega),length_u8L,hw.1,Nat.sub_self,List.drop_zero,List.nil_append,List.take_of_length_le (by rw [length_u8L,hw.2]; omega)]
theorem useBk_c {g:Gm} {h:Hd} {i:Int} {on:Bool} (hw:hWf h) (hk:∀ w',Mod No w w'->K (.tuple #[.agg ⟨hV (useBk g h i on).1⟩,.int .i64 (useBk g h i on).2]) w') :
  Cal Tryz.prog F_group_UseBlock #[.agg ⟨gV g⟩,.agg ⟨hV h⟩,.int .i64 i,.bool on] w K:=by
 apply C_group_UseBlock
 unfold D_group_UseBlock
 obtain ⟨w1,a1,a2,a3,a4⟩:=box_u (P:=Tryz.prog) (w:=w) (T:=39) (cs:=gV g)
 obtain ⟨w2,b1,b2,b3,b4⟩:=box_u (P:=Tryz.prog) (w:=w1) (T:=171) (cs:=hV h)
 obtain ⟨w3,c1,c2,c3,c4⟩:=new_u (P:=Tryz.prog) (w:=w2) (T:=171) zero_head
 have m2:=a3.no b3
 have m3:=(m2.no c3).drew
 have q1:AtU (Go.Den.drew w3) w.heap.size 0 (gV g):=((a2.keep b3 id).keep c3 id).drew
 have q2:AtU (Go.Den.drew w3) w1.heap.size 0 (hV h):=(b2.keep c3 id).drew
 have q3:AtU (Go.Den.drew w3) w2.heap.size 0 (hV hZ):=c2.drew
 have z1:=a3.size
 have z2:=b3.size
 have n12:w1.heap.size<w2.heap.size:=b2.lt
 refine ⟨_,w1,a1,_,w2,b1,_,w3,c1,_,q1.at.all agg_geo rfl,_,q2.at.all agg_head (hV_len hw),_,q1.at.all agg_geo rfl,_,q1.at.fld sc_int rfl,geoTabs_c fun w4 m4=>⟨_,rfl,(q1.keep m4 id).at.all agg_geo rfl,(q2.keep m4 id).at.all agg_head (hV_len hw),(q1.keep m4 id).at.fld sc_int rfl,?_⟩⟩
 have htb:=gTabs_b (g:=g)
 rw [wrap64 (x:=1+gTabs g) (by omega) (by omega)]
 refine grMay_c hw fun w5 m5=>⟨_,rfl,?_⟩
 have m45:=m4.no m5
 have p2:=q2.keep m45 id
 have p3:=q3.keep m45 id
 have M5:=m3.no m45
 refine Share.cut (fun z w7=>∃ e h',z=[.int .i64 e]/\Mod No w w7/\AtU w7 w1.heap.size 0 (hV h')/\AtU w7 w2.heap.size 0 (hV hZ)/\hWf h'/\useBk g h i on=if e≠0 then (hZ,e) else (h',0)) ?_ ?_
 ·rw [beqI]
  refine cond_of (fun he=>?_) (fun he=>?_)
  ·have he:=of_decide_eq_true he
   obtain ⟨ho,f1,f2⟩:=grMay_0 he
   obtain ⟨g1,_⟩:=hOk_iff.1 ho
   obtain ⟨_,gr2,_⟩:=gOk_iff.1 g1
   obtain ⟨j,rfl⟩:=Int.eq_ofNat_of_zero_le (show 0<=i by omega)
   have ad1:Addr.add ⟨w1.heap.size,0,none⟩ 1=⟨w1.heap.size,1,none⟩:=by rw [add_none]
   rw [ad1]
   refine ⟨_,_,_,sliceA_all arr16,?_⟩
   refine grUse_c (o:=1) (l:=16) (xs:=h.bs) hw.1 p2 (hV_dropb hw) (by rw [hV_len hw]; omega) (by omega) (by omega) fun w6 m6 h6=>⟨_,rfl,?_⟩
   have hU:useBk g h j on=if bitB h.bs j=on then (hZ,6) else (⟨h.no,putB h.bs j on,h.ss⟩,0):=by
    unfold useBk; rw [if_neg (by rw [he]; decide)]; rfl
   rw [hU]
   by_cases hb:bitB h.bs j=on
   ·rw [if_pos hb] at h6 |-
    exact ⟨_,h,rfl,M5.own m6 (by omega),h6,p3.keep m6 (fun e=>by have e:w2.heap.size=w1.heap.size:=e; omega),hw,by rw [if_pos hb]; rfl⟩
   ·rw [if_neg hb] at h6 |-
    rw [splice_b hw (by rw [putB_len]; exact hw.1)] at h6
    exact ⟨_,_,rfl,M5.own m6 (by omega),h6,p3.keep m6 (fun e=>by have e:w2.heap.size=w1.heap.size:=e; omega),⟨by show (putB _ _ _).length=16; rw [putB_len]; exact hw.1,hw.2⟩,by rw [if_neg hb]; rfl⟩
  ·have he:=of_decide_eq_false he
   exact ⟨_,h,rfl,M5,p2,p3,hw,by unfold useBk; rw [if_pos he,if_pos he]⟩
 rintro z w7 ⟨e,h',rfl,m7,x2,x3,hw',hU⟩
 refine ⟨_,rfl,?_⟩
 rw [bneI]
 refine cond_of (fun he=>⟨_,build_head0,?_⟩) (fun he=>?_)
 ·have he:=of_decide_eq_true he
  rw [if_pos he] at hU
  rw [hU] at hk
  obtain ⟨w8,y1,y2,y3,y4⟩:=x3.put (T:=171) (vs:=hV hZ) agg_head (hV_len hZ_wf) (hV_len hZ_wf) (one_hV _)
  exact ⟨w8,y1,_,y2.at.all agg_head (hV_len hZ_wf),hk w8 (m7.own y3 (by omega))⟩
 ·have he:=of_decide_eq_false he
  rw [if_neg he] at hU
  rw [hU] at hk
  obtain ⟨w8,y1,y2,y3,y4⟩:=x3.put (T:=171) (vs:=hV h') agg_head (hV_len hZ_wf) (hV_len hw') (one_hV _)
  exact ⟨_,x2.at.all agg_head (hV_len hw'),w8,y1,_,y2.at.all agg_head (hV_len hw'),hk w8 (m7.own y3 (by omega))⟩
theorem useSl_c {g:Gm} {h:Hd} {i:Int} {on:Bool} (hw:hWf h) (hk:∀ w',Mod No w w'->K (.tuple #[.agg ⟨hV (useSl g h i on).1⟩,.int .i64 (useSl g h i on).2]) w') :
  Cal Tryz.prog F_group_UseSlot #[.agg ⟨gV g⟩,.agg ⟨hV h⟩,.int .i64 i,.bool on] w K:=by
 apply C_group_UseSlot
 unfold D_group_UseSlot
 obtain ⟨w1,a1,a2,a3,a4⟩:=box_u (P:=Tryz.prog) (w:=w) (T:=39) (cs:=gV g)
 obtain ⟨w2,b1,b2,b3,b4⟩:=box_u (P:=Tryz.prog) (w:=w1) (T:=171) (cs:=hV h)
 obtain ⟨w3,c1,c2,c3,c4⟩:=new_u (P:=Tryz.prog) (w:=w2) (T:=171) zero_head
 have m3:=(a3.no b3).no c3
 have q1:AtU w3 w.heap.size 0 (gV g):=(a2.keep b3 id).keep c3 id
 have q2:AtU w3 w1.heap.size 0 (hV h):=b2.keep c3 id
 have q3:AtU w3 w2.heap.size 0 (hV hZ):=c2
 have z1:=a3.size
 have z2:=b3.size
 have n12:w1.heap.size<w2.heap.size:=b2.lt
 refine ⟨_,w1,a1,_,w2,b1,_,w3,c1,_,q2.at.fld sc_int rfl,Share.cut (fun z w4=>w4=w3/\z=[.int .i64 (slF h)]) ?_ ?_⟩
 ·rw [beqI]
  refine cond_of (fun he=>⟨rfl,?_⟩) (fun he=>⟨rfl,?_⟩)
  ·unfold slF; rw [if_pos (of_decide_eq_true he)]
  ·unfold slF; rw [if_neg (of_decide_eq_false he)]
 rintro z w4 ⟨rfl,rfl⟩
 refine ⟨_,q1.at.all agg_geo rfl,_,q2.at.all agg_head (hV_len hw),_,rfl,_,q1.at.fld sc_int rfl,?_⟩
 refine grMay_c hw fun w5 m5=>⟨_,rfl,?_⟩
 have p2:=q2.keep m5 id
 have p3:=q3.keep m5 id
 have M5:=m3.no m5
 refine Share.cut (fun z w7=>∃ e h',z=[.int .i64 e]/\Mod No w w7/\AtU w7 w1.heap.size 0 (hV h')/\AtU w7 w2.heap.size 0 (hV hZ)/\hWf h'/\useSl g h i on=if e≠0 then (hZ,e) else (h',0)) ?_ ?_
 ·rw [beqI]
  refine cond_of (fun he=>?_) (fun he=>?_)
  ·have he:=of_decide_eq_true he
   obtain ⟨ho,f1,f2⟩:=grMay_0 he
   obtain ⟨g1,_⟩:=hOk_iff.1 ho
   obtain ⟨_,_,_,_,gn1,gn2,_⟩:=gOk_iff.1 g1
   have hf:0<=slF h:=by unfold slF; split <;> decide
   obtain ⟨j,rfl⟩:=Int.eq_ofNat_of_zero_le (show 0<=i by omega)
   have ad1:Addr.add ⟨w1.heap.size,0,none⟩ 17=⟨w1.heap.size,17,none⟩:=by rw [add_none]
   rw [ad1]
   refine ⟨_,_,_,sliceA_all arr8,?_⟩
   refine grUse_c (o:=17) (l:=8) (xs:=h.ss) hw.2 p2 (hV_drops hw) (by rw [hV_len hw]; omega) (by omega) (by omega) fun w6 m6 h6=>⟨_,rfl,?_⟩
   have hU:useSl g h j on=if bitB h.ss j=on then (hZ,6) else (⟨h.no,h.bs,putB h.ss j on⟩,0):=by
    unfold useSl; rw [if_neg (by rw [he]; decide)]; rfl
   rw [hU]
   by_cases hb:bitB h.ss j=on
   ·rw [if_pos hb] at h6 |-
    exact ⟨_,h,rfl,M5.own m6 (by omega),h6,p3.keep m6 (fun e=>by have e:w2.heap.size=w1.heap.size:=e; omega),hw,by rw [if_pos hb]; rfl⟩
   ·rw [if_neg hb] at h6 |-
    rw [splice_s hw (by rw [putB_len]; exact hw.2)] at h6
    exact ⟨_,_,rfl,M5.own m6 (by omega),h6,p3.keep m6 (fun e=>by have e:w2.heap.size=w1.heap.size:=e; omega),⟨hw.1,by show (putB _ _ _).length=8; rw [putB_len]; exact hw.2⟩,by rw [if_neg hb]; rfl⟩
  ·have he:=of_decide_eq_false he
   exact ⟨_,h,rfl,M5,p2,p3,hw,by unfold useSl; rw [if_pos he,if_pos he]⟩
 rintro z w7 ⟨e,h',rfl,m7,x2,x3,hw',hU⟩
 refine ⟨_,rfl,?_⟩
 rw [bneI]
 refine cond_of (fun he=>⟨_,build_head0,?_⟩) (fun he=>?_)
 ·have he:=of_decide_eq_true he
  rw [if_pos he] at hU
  rw [hU] at hk
  obtain ⟨w8,y1,y2,y3,y4⟩:=x3.put (T:=171) (vs:=hV hZ) agg_head (hV_len hZ_wf) (hV_len hZ_wf) (one_hV _)
  exact ⟨w8,y1,_,y2.at.all agg_head (hV_len hZ_wf),hk w8 (m7.own y3 (by omega))⟩
 ·have he:=of_decide_eq_false he
  rw [if_neg he] at hU
  rw [hU] at hk
  obtain ⟨w8,y1,y2,y3,y4⟩:=x3.put (T:=171) (vs:=hV h') agg_head (hV_len hZ_wf) (hV_len hw') (one_hV _)
  exact ⟨_,x2.at.all agg_head (hV_len hw'),w8,y1,_,y2.at.all agg_head (hV_len hw'),hk w8 (m7.own y3 (by omega))⟩
theorem findBk_c {g:Gm} {h:Hd} {f:Int} (hw:hWf h) (hk:∀ w',Mod No w w'->K (.int .i64 (findBk g h f)) w') :
  Cal Tryz.prog F_group_FindBlock #[.agg ⟨gV g⟩,.agg ⟨hV h⟩,.int .i64 f] w K:=by
 apply C_group_FindBlock
 unfold D_group_FindBlock
 obtain ⟨w1,a1,a2,a3,a4⟩:=box_u (P:=Tryz.prog) (w:=w) (T:=39) (cs:=gV g)
 obtain ⟨w2,b1,b2,b3,b4⟩:=box_u (P:=Tryz.prog) (w:=w1) (T:=171) (cs:=hV h)
 have m2:=a3.no b3
 have q1:=a2.keep b3 id
 refine ⟨_,w1,a1,_,w2,b1,_,q1.at.all agg_geo rfl,_,b2.at.all agg_head (hV_len hw),hRight_c hw fun w3 m3=>⟨_,rfl,cond_of (fun ho=>?_) (fun ho=>?_)⟩⟩
 ·have e:findBk g h f=-1:=by unfold findBk; rw [if_neg (by simpa using ho)]
  rw [<- e]; exact hk _ (m2.no m3)
 have e:findBk g h f=firstB h.bs g.gr f:=by unfold findBk; rw [if_pos (by simpa using ho)]
 have ad1:Addr.add ⟨w1.heap.size,0,none⟩ 1=⟨w1.heap.size,1,none⟩:=by rw [add_none]
 rw [ad1]
 have hb:=(b2.keep m3 id).drew.at.sub (i:=1) (m:=16) (by rw [hV_len hw]; omega)
 rw [hV_dropb hw] at hb
 refine ⟨_,_,_,sliceA_all arr16,_,(q1.keep m3 id).drew.at.fld sc_int rfl,bitFirst_c (xs:=h.bs) hw.1 (.inr ⟨_,_,rfl,hb⟩) (by omega) fun w4 m4=>⟨_,rfl,?_⟩⟩
 rw [<- e]; exact hk _ ((m2.no m3).drew.no m4)
theorem findSl_c {g:Gm} {h:Hd} {f:Int} (hw:hWf h) (hk:∀ w',Mod No w w'->K (.int .i64 (findSl g h f)) w') :
  Cal Tryz.prog F_group_FindSlot #[.agg ⟨gV g⟩,.agg ⟨hV h⟩,.int .i64 f] w K:=by
 apply C_group_FindSlot
 unfold D_group_FindSlot
 obtain ⟨w1,a1,a2,a3,a4⟩:=box_u (P:=Tryz.prog) (w:=w) (T:=39) (cs:=gV g)
 obtain ⟨w2,b1,b2,b3,b4⟩:=box_u (P:=Tryz.prog) (w:=w1) (T:=171) (cs:=hV h)
 have m2:=a3.no b3
 have q1:=a2.keep b3 id
 refine ⟨_,w1,a1,_,w2,b1,_,q1.at.all agg_geo rfl,_,b2.at.all agg_head (hV_len hw),hRight_c hw fun w3 m3=>⟨_,rfl,cond_of (fun ho=>?_) (fun ho=>?_)⟩⟩
 ·have e:findSl g h f=-1:=by unfold findSl; rw [if_neg (by simpa using ho)]
  rw [<- e]; exact hk _ (m2.no m3)
 have e:findSl g h f=firstB h.ss g.no f:=by unfold findSl; rw [if_pos (by simpa using ho)]
 have ad1:Addr.add ⟨w1.heap.size,0,none⟩ 17=⟨w1.heap.size,17,none⟩:=by rw [add_none]
 rw [ad1]
 have hb:=(b2.keep m3 id).drew.at.sub (i:=17) (m:=8) (by rw [hV_len hw]; omega)
 rw [hV_drops hw] at hb
 refine ⟨_,_,_,sliceA_all arr8,_,(q1.keep m3 id).drew.at.fld sc_int rfl,bitFirst_c (xs:=h.ss) hw.2 (.inr ⟨_,_,rfl,hb⟩) (by omega) fun w4 m4=>⟨_,rfl,?_⟩⟩
 rw [<- e]; exact hk _ ((m2.no m3).drew.no m4)
end
end Go.Proofs.YtandmpcjjaabmaaGreat
end
section
namespace Go.Proofs.YtandmpcjjaabmaaGreat.bulks
theorem append {H:Type} (l r:List (DataW H)):Rows.uptoBulkAll (l++r)=Rows.uptoBulkAll l+Rows.uptoBulkAll r:=by
 induction l with
 | nil=>simp [Rows.uptoBulkAll]
 | cons x l ih=>simp only [List.cons_append,Rows.uptoBulkAll,ih]; omega
end Go.Proofs.YtandmpcjjaabmaaGreat.bulks
end
section
open Go Go.Den
namespace Go.Den
open Go.RowKit Go.ChangeShapes Go.WideShapes
section
variable {H:Type} {enc:TypeId×Value->H} {P:Program}
theorem trodAll_below (hl:laidOutB P=true) {W W':World} (hb:Below W.heap.size W W'):∀ {ts:List TypeId} {vs:List Value} {ds:List (DataW H)} {ps:List MemPlace},
  (ts.all fun t=>P.readableRec t&&decide (t<P.types.size))=true->DataW.TrodAll enc P W 0 (fun _=>true) true ts vs ds ps->(∀ x∈ps,x.block<W.heap.size) ->
  DataW.TrodAll enc P W' 0 (fun b=>decide (b<W.heap.size)) true ts vs ds ps
 | [],[],[],_,_,h,_=>h
 | [],[],_::_,_,_,h,_=>h.elim
 | [],_::_,_,_,_,h,_=>h.elim
 | _::_,[],_,_,_,h,_=>h.elim
 | _::_,_::_,[],_,_,h,_=>h.elim
 | t::ts,v::vs,d::ds,ps,hr,h,hlt=>by
  simp only [List.all_cons,Bool.and_eq_true,decide_eq_true_eq] at hr
  obtain ⟨p,q,h1,h2,rfl⟩:=h
  exact ⟨p,q,Below.trod hl hr.1.1 hr.1.2 h1 hb (fun x hx=>hlt x (List.mem_append_left _ hx)),trodAll_below hl hb hr.2 h2 (fun x hx=>hlt x (List.mem_append_right _ hx)),rfl⟩
theorem law_post {f:Func} {s:ChangeSpec} {apart handsOn:Bool} {W W':World} {args:Array Value} {ds gs:List (DataW H)} {before:List MemPlace} {tb:TypeId} (hl:laidOutB P=true)
  (hW:DataW.Whole enc P f.params.toList s.vars apart W args.toList ds gs before) (hv:s.vars=[]) (hr:(f.params.toList.all fun t=>P.readableRec t&&decide (t<P.types.size))=true)
  (hrt:f.resultTypes=#[tb]) (htb:P.underlying tb=some .bool) (hs:s.fn H ds={ results:=[.lit (.bool true)],args:=ds }) (hb:Below W.heap.size W W') :
  s.post enc P f apart true handsOn false W args (.bool true) W':=by
 have hlt:∀ p∈before,p.block<W.heap.size:=fun p hp=>hW.lt p hp
 have hW0:=hW
 obtain ⟨p,q,hA,hV,he,_,_⟩:=hW
 rw [hv] at hV
 have hgs:gs=[]/\q=[]:=by
  cases gs with
  | nil=>exact ⟨rfl,hV⟩
  | cons a r=>exact hV.elim
 obtain ⟨rfl,rfl⟩:=hgs
 rw [List.append_nil] at he
 subst he
 refine ⟨ds,[],before,[],before,[],hW0,?_,?_,?_,World.keptBut_mono (fun x hx=>⟨hx,.inr (.inl hx)⟩) (hb.frame (·∈before)),fun h=>Bool.noConfusion h⟩
 ·rw [hrt,List.append_nil,hs]
  exact ⟨[],[],shut_bool htb true,rfl,rfl⟩
 ·rw [List.append_nil,hs]
  exact trodAll_below hl hb hr hA hlt
 ·rw [hv,List.append_nil,hs]; rfl
end
end Go.Den
end
section
open Go Go.Den
namespace Go.Proofs.YtandmpcjjaabmaaGreat
open Go.ChangeShapes Go.WideShapes Go.ChangeAt Go.RowKit
theorem own_none:ownKnob Tryz.prog.godebug=none:=by kernel_rfl
theorem laid_out:laidOutB Tryz.prog=true:=by kernel_rfl
theorem cal_calls {f:FuncId} {args:Array Value} {w:World} {K:Value->World->Prop} {R:Ending->World->Prop} (h:Cal Tryz.prog f args w K) (hk:∀ v w',K v w'->R (.returned v) w'):Calls Tryz.prog f args w R :=
 h.2.mono fun e w' he=>by cases e <;> first | exact hk _ _ he | exact he.elim
end Go.Proofs.YtandmpcjjaabmaaGreat
end
section
open Go Go.Den Go.Proofs
namespace Go.Den
section
variable {P:Program} {w w':World}
end
end Go.Den
namespace Go.Proofs.YtandmpcjjaabmaaGreat
section
variable {w w':World}
end
abbrev Wt:=Int×Int×Int
def wtV (x:Wt):List Value:=[.int .i64 x.1,.int .i64 x.2.1,.int .i64 x.2.2]
def rowW (L:List Wt):List Value:=(L.map wtV).flatten
theorem elemG_waits:elemG Tryz.prog 243 3 24:=elemG_of (by kernel_rfl)
structure WkIn (T:TypeId) (Z:Nat->Prop) (w:World) (q:Nat) (L:List Wt) (la:Option Addr) (lc:Nat):Prop where
 cell:AtU w q 0 [.slice la L.length lc]
 row:Ow Tryz.prog w 0 T 3 la L.length lc (rowW L)
 nq:∀ a,la=some a->a.block≠q/\¬ Z a.block
 nz:¬ Z q
def Wk (T:TypeId) (Z:Nat->Prop) (w:World) (q:Nat) (L:List Wt):Prop:=∃ la lc,WkIn T Z w q L la lc
section
variable {w w' w0:World} {R:Nat->Prop} {sp d:Nat} {V:Ps} {K:Value->World->Prop} {T:TypeId} {Z Z':Nat->Prop} {q lc:Nat} {L:List Wt} {la:Option Addr}
theorem WkIn.keep {S:Nat->Prop} (h:WkIn T Z w q L la lc) (m:Mod S w w') (hS:∀ x,S x->Z x) (hZ:∀ x,x<w.heap.size->Z' x->Z x):WkIn T Z' w' q L la lc where
 cell:=h.cell.keep m fun e=>h.nz (hS _ e)
 row:=h.row.keep m fun a ha e=>(h.nq a ha).2 (hS _ e)
 nq a ha:=⟨(h.nq a ha).1,fun e=>(h.nq a ha).2 (hZ _ (h.row.base ha).2 e)⟩
 nz e:=h.nz (hZ _ h.cell.lt e)
theorem Wk.keep {S:Nat->Prop} (h:Wk T Z w q L) (m:Mod S w w') (hS:∀ x,S x->Z x) (hZ:∀ x,x<w.heap.size->Z' x->Z x):Wk T Z' w' q L:=by
 obtain ⟨la,lc,h⟩:=h; exact ⟨la,lc,h.keep m hS hZ⟩
end
end Go.Proofs.YtandmpcjjaabmaaGreat
end
section
open Go Go.Den Go.Proofs
namespace Go.Proofs.YtandmpcjjaabmaaGreat
def two (P : Program) (T : TypeId) : Bool :=
  match (P.fieldsOf T).toList with
  | [f, g] => f.name != "_" && g.name != "_" && f.type == 3 && f.offset == 0 && g.type == 3 && g.offset == 1
  | _ => false
section
variable {w w' w0:World} {R:Nat->Prop} {sp d:Nat} {V:Ps} {K:Value->World->Prop} {T:TypeId} {Z Z':Nat->Prop} {q lc:Nat} {L:List Wt} {la:Option Addr}
end
end Go.Proofs.YtandmpcjjaabmaaGreat
end
section
open Go Go.Den Go.Proofs
namespace Go.Proofs.YtandmpcjjaabmaaGreat
def Sb (R R':Nat->Prop) (w:World):Prop:=∀ z,R' z->R z\/w.heap.size<=z
theorem Sb.refl (R:Nat->Prop) (w:World):Sb R R w:=fun _ h=>.inl h
theorem Sb.trans {R R' R'':Nat->Prop} {w w':World} (h:Sb R R' w) (k:Sb R' R'' w') (hz:w.heap.size<=w'.heap.size):Sb R R'' w:=fun z hx=>by
 rcases k z hx with h1 | h1
 ·exact h z h1
 ·exact .inr (by omega)
theorem Sb.gro {R:Nat->Prop} {w w1:World}:Sb R (Gro R w w1) w:=fun _ h=>by
 rcases h with h | h
 ·exact .inl h
 ·exact .inr (by omega)
theorem Sb.up {R R':Nat->Prop} {w w':World} (k:Sb R R' w') (hz:w.heap.size<=w'.heap.size):Sb R R' w:=fun z h=>(k z h).imp id fun e=>by omega
theorem Mod.sb {R R':Nat->Prop} {a b c:World} (h:Mod R a b) (s:Sb R R' a) (k:Mod R' b c):Mod R a c:=h.trans k fun x hx e=>(s x e).resolve_right (by omega)
theorem Pz.dlo {w0 w:World} {R:Nat->Prop} {sp d:Nat} {V:Ps} (h:Pz w0 R w sp d V):w0.heap.size<=d:=by
 obtain ⟨C,_,_,_,rl,c,mo,mm,ca,oa,Lo,Lm,h⟩:=h
 have hl:=h.lo d
 obtain ⟨rl2,m,sb,mb,sc,lc,la,L,mp,hC⟩:=h.cx
 have e4:rl2 d=4:=hC.disk.rb
 have e1:rl d=1:=hC.reg d (by omega)
 exact (hl (h.reg d (by omega))).1
structure VuS (w0:World) (Rs Rw:Nat->Prop) (w:World) (v d sp wk:Nat) (s:Sp) (V:Ps) (W:List Wt) (nx:Int):Prop where
 st:Pz w0 Rs w sp d V
 cell:AtU w v 0 (vV s sp wk nx)
 wrk:Wk 243 (fun x=>x<w.heap.size/\¬ Rw x) w wk W
 dj:∀ z,Rs z->¬ Rw z
 nv:¬ Rs v/\¬ Rw v
 lo:∀ z,Rw z\/z=v->d<=z/\z<w.heap.size
def Vu (R:Nat->Prop) (w:World) (v d:Nat) (s:Sp) (V:Ps) (W:List Wt) (nx:Int):Prop :=
 ∃ w0 Rs Rw sp wk,VuS w0 Rs Rw w v d sp wk s V W nx/\(∀ z,Rs z\/Rw z\/z=v->R z)/\∀ z,R z->z<w.heap.size
section
variable {w0 w w':World} {R R':Nat->Prop} {v d:Nat} {s:Sp} {V:Ps} {W:List Wt} {nx:Int} {K:Value->World->Prop}
theorem Vu.lt (h:Vu R w v d s V W nx):∀ z,R z->z<w.heap.size:=by obtain ⟨_,_,_,_,_,_,_,h⟩:=h; exact h
theorem Vu.vIn (h:Vu R w v d s V W nx):R v:=by obtain ⟨_,_,_,_,_,_,h,_⟩:=h; exact h v (.inr (.inr rfl))
theorem Vu.wf (h:Vu R w v d s V W nx):WFS V/\WF V.C.D:=by obtain ⟨_,_,_,_,_,h,_⟩:=h; exact ⟨h.st.wf.1,h.st.wf.2.2.2.2⟩
theorem Vu.dlo (h:Vu R w v d s V W nx):d<=v:=by obtain ⟨_,_,_,_,_,h,_⟩:=h; exact (h.lo v (.inr rfl)).1
theorem Vu.keep {S:Nat->Prop} (h:Vu R w v d s V W nx) (m:Mod S w w') (hS:∀ z,R z->¬ S z) (hd:∀ z,S z->d<=z):Vu R w' v d s V W nx:=by
 obtain ⟨w0,Rs,Rw,sp,wk,h,h1,h2⟩:=h
 have hz:=m.size
 have hd0:=h.st.dlo
 have hrw:∀ x,x<w.heap.size->Rw x->¬ S x:=fun x _ e=>hS x (h1 x (.inr (.inl e)))
 refine ⟨w0,Rs,Rw,sp,wk,⟨h.st.keep m (fun x hx=>hS x (h1 x (.inl hx))) fun x hx e=>by have:=hd x e; omega,h.cell.keep m (hS v (h1 v (.inr (.inr rfl)))),?_,h.dj,h.nv,fun z hz=>?_⟩,h1,fun z hz=>?_⟩
 ·refine h.wrk.keep (S:=fun x=>S x/\x<w.heap.size) (m.mono fun x hx e=>⟨e,hx⟩) (fun x e=>⟨e.2,fun r=>hrw x e.2 r e.1⟩) fun x hx e=>⟨hx,e.2⟩
 ·have:=h.lo z hz
  omega
 ·have:=h2 z hz
  omega
theorem Vu.nos (h:Vu R w v d s V W nx) (m:Mod No w w'):Vu R w' v d s V W nx:=h.keep m (fun _ _ e=>e) fun _ e=>e.elim
theorem Vu.op (h:Vu R w v d s V W nx):∃ (w0:World) (Rs Z:Nat->Prop) (sp wk:Nat),Pz w0 Rs w sp d V/\Wk 243 Z w wk W/\(∀ x,Z x->x<w.heap.size)/\AtU w v 0 (vV s sp wk nx)/\(∀ z,Rs z->R z) /\
  (∀ w1 w' V',Mod Rs w w1->Mod No w1 w'->Pz w0 (Gro Rs w w1) w' sp d V'->Mod R w w'/\Vu (Gro R w w1) w' v d s V' W nx) /\
  (∀ w' (Z':Nat->Prop) W',Mod (fun z=>z=wk) w w'->(∀ x,Z x->Z' x)->Wk 243 Z' w' wk W'->Mod R w w'/\Vu (fun z=>R z\/(w.heap.size<=z/\z<w'.heap.size/\¬ Z' z)) w' v d s V W' nx):=by
 obtain ⟨w0,Rs,Rw,sp,wk,h,h1,h2⟩:=h
 have hd0:=h.st.dlo
 have hlo:=h.st.lo
 have hw:=h.wrk
 have hRwk:Rw wk:=by
  obtain ⟨la,lc,hw⟩:=hw
  exact Classical.byContradiction fun e=>hw.nz ⟨hw.cell.lt,e⟩
 refine ⟨w0,Rs,_,sp,wk,h.st,h.wrk,fun x e=>e.1,h.cell,fun z hz=>h1 z (.inl hz),fun w1 w' V' m1 m2 hP=>?_,fun w' Z' W' m hZ hW=>?_⟩
 ·have m:=m1.no m2
  have z1:=m1.size
  have z2:=m2.size
  refine ⟨m.mono fun x _ e=>h1 x (.inl e),w0,Gro Rs w w1,Rw,sp,wk,⟨hP,h.cell.keep m h.nv.1,?_,fun z hz e=>?_,⟨fun e=>?_,h.nv.2⟩,fun z hz=>?_⟩,fun z hz=>?_,fun z hz=>?_⟩
  ·refine h.wrk.keep m (fun x e=>⟨(hlo x e).2,h.dj x e⟩) fun x hx e=>⟨hx,e.2⟩
  ·rcases hz with hz | hz
   ·exact h.dj z hz e
   ·have:=(h.lo z (.inl e)).2; omega
  ·rcases e with e | e
   ·exact h.nv.1 e
   ·have:=(h.lo v (.inr rfl)).2; omega
  ·have:=h.lo z hz; omega
  ·rcases hz with (hz | hz) | hz
   ·exact .inl (h1 z (.inl hz))
   ·exact .inr hz
   ·exact .inl (h1 z (.inr hz))
  ·rcases hz with hz | hz
   ·have:=h2 z hz; omega
   ·omega
 ·have z1:=m.size
  have hwkl:=(h.lo wk (.inl hRwk)).2
  have e1:¬ v=wk:=fun e=>h.nv.2 (e ▸ hRwk)
  refine ⟨m.mono fun x _ e=>by have e:x=wk:=e; rw [e]; exact h1 wk (.inr (.inl hRwk)),w0,Rs,fun z=>Rw z\/(w.heap.size<=z/\z<w'.heap.size/\¬ Z' z),sp,wk,⟨h.st.keep m (fun x hx e=>?_) (fun x hx e=>?_),h.cell.keep m e1,?_,fun z hz e=>?_,⟨h.nv.1,fun e=>?_⟩,fun z hz=>?_⟩,fun z hz=>?_,fun z hz=>?_⟩
  ·have e:x=wk:=e
   rw [e] at hx; exact h.dj wk hx hRwk
  ·have e:x=wk:=e
   have:=(h.lo wk (.inl hRwk)).1; omega
  ·refine hW.keep (S:=No) (Mod.refl _ _) (fun _ e=>e.elim) fun x hx e=>?_
   by_cases hx2:x<w.heap.size
   ·exact hZ x ⟨hx2,fun r=>e.2 (.inl r)⟩
   ·exact Classical.byContradiction fun r=>e.2 (.inr ⟨by omega,hx,r⟩)
  ·rcases e with e | e
   ·exact h.dj z hz e
   ·have:=(hlo z hz).2; omega
  ·rcases e with e | e
   ·exact h.nv.2 e
   ·have:=(h.lo v (.inr rfl)).2; omega
  ·rcases hz with (hz | hz) | hz
   ·have:=h.lo z (.inl hz); omega
   ·have:=(h.lo wk (.inl hRwk)).1; omega
   ·have:=h.lo z (.inr hz); omega
  ·rcases hz with hz | (hz | hz) | hz
   ·exact .inl (h1 z (.inl hz))
   ·exact .inl (h1 z (.inr (.inl hz)))
   ·exact .inr hz
   ·exact .inl (h1 z (.inr (.inr hz)))
  ·rcases hz with hz | hz
   ·have:=h2 z hz; omega
   ·omega
theorem Vu.at (h:Vu R w v d s V W nx):∃ sp wk,AtU w v 0 (vV s sp wk nx):=by obtain ⟨_,_,_,sp,wk,h,_⟩:=h; exact ⟨sp,wk,h.cell⟩
theorem Vu.geo (h:Vu R w v d s V W nx):Ru (Instr.loadAt 39 (.pointer (some (Addr.add (Addr.add ⟨v,0,none⟩ 0) 1)))) w (.agg ⟨gV s.geo⟩) w:=by
 obtain ⟨sp,wk,h⟩:=h.at
 exact fldA2 h.at agg_geo (by show 4<=7; omega) rfl
theorem wGeo_c (h:Vu R w v d s V W nx) (hk:∀ w',Mod No w w'->K (.agg ⟨gV s.geo⟩) w'):Cal Tryz.prog F_vol_Vol_Geo #[.pointer (some ⟨v,0,none⟩)] w K:=by
 apply C_vol_Vol_Geo
 unfold D_vol_Vol_Geo
 obtain ⟨w1,b1,b2,b3,b4⟩:=new_u (P:=Tryz.prog) (w:=w) (T:=39) zero_geo
 obtain ⟨w2,c1,c2,c3,c4⟩:=b2.put (T:=39) (vs:=gV s.geo) agg_geo rfl rfl (one_gV _)
 exact ⟨_,w1,b1,ff rfl ⟨_,rfl,_,(h.nos b3).geo,w2,c1,_,c2.at.all agg_geo rfl,hk w2 (b3.own c3 (Nat.le_refl _))⟩⟩
theorem whd_c {k:Int} (h:Vu R w v d s V W nx) (hk:∀ w',Mod No w w'->K (.tuple #[.int .i64 (gHead s.geo k).1,.int .i64 (gHead s.geo k).2]) w'):Cal Tryz.prog F_vol_Vol_head #[.pointer (some ⟨v,0,none⟩),.int .i64 k] w K:=by
 apply C_vol_Vol_head
 unfold D_vol_Vol_head
 exact ff rfl ⟨_,rfl,_,h.geo,geoHead_c fun w' m=>⟨_,_,rfl,hk w' m⟩⟩
theorem Vu.rd (h:Vu R w v d s V W nx) {n:Int} (h0:0<=n) (h1:n<V.C.D.vs.length)
  (hk:∀ w' R' g cc,Mod R w w'->Sb R R' w->Vu R' w' v d s V W nx->w.heap.size<=g->¬ R' g->AtU w' g 0 (u8L (contV V n.toNat))->(contV V n.toNat).length=256->256<=cc->K (.tuple #[.slice (some ⟨g,0,none⟩) 256 cc,.int .i64 0]) w') :
  ∃ p:Option Addr,Ru (Instr.loadAt 159 (.pointer (some (Addr.add ⟨v,0,none⟩ 4)))) w (.pointer p) w/\Cal Tryz.prog F_patch_Store_Read #[.pointer p,.int .i64 n] w K:=by
 have hwf:=h.wf
 have hlt:=h.lt
 obtain ⟨w0,Rs,Z,sp,wk,a1,a2,a3,a4,a5,a6,a7⟩:=h.op
 refine ⟨_,a4.at.fld sc_store rfl,?_⟩
 obtain ⟨b,rfl⟩:=Int.eq_ofNat_of_zero_le h0
 have hb:b<V.C.D.vs.length:=by omega
 refine qReadC_c a1 rfl hb fun w1 w' g cc m1 m2 hP hg hat hcc=>?_
 obtain ⟨M,hV⟩:=a6 w1 w' V m1 m2 hP
 have z1:=m1.size
 refine hk w' _ g cc M Sb.gro hV (by omega) (fun e=>?_) hat (cont_len hwf.1 hwf.2 hb) hcc
 rcases e with e | e
 ·have:=hlt g e; omega
 ·omega
def hdOf (g:Gm) (hs:List Hd) (k:Int):Hd×Int:=if (gHead g k).2≠0 then (hZ,(gHead g k).2) else (hs.getD k.toNat hZ,0)
theorem gHead_ok {g:Gm} {k:Int} (h:(gHead g k).2=0):gOk g=true/\0<=k/\k<g.gs/\(gHead g k).1=2+k*g.gr:=by
 unfold gHead at h |-
 split at h
 ·rename_i hg
  split at h
  ·rename_i hk
   rw [if_pos hg,if_pos hk]; exact ⟨hg,hk.1,hk.2,rfl⟩
  ·cases h
 ·cases h
variable {hs:List Hd}
theorem HdsAt.get (h:HdsAt V s.geo hs) {k:Int} (h0:0<=k) (h1:k<s.geo.gs):∃ x,hs[k.toNat]?=some x/\contV V (2+k*s.geo.gr).toNat=grpB s.geo x/\hOk s.geo x=true/\x.no=k/\hWf x:=by
 have hl:=h.2.2.1
 have hlt:k.toNat<hs.length:=by omega
 refine ⟨hs[k.toNat],by simp [hlt],?_⟩
 have:=h.2.2.2 k.toNat hs[k.toNat] (by simp [hlt])
 rw [show ((k.toNat:Nat):Int)=k by omega] at this
 exact this
theorem wHead_c {k:Int} (h:Vu R w v d s V W nx) (hH:HdsAt V s.geo hs)
  (hk:∀ w' R',Mod R w w'->Sb R R' w->Vu R' w' v d s V W nx->hWf (hdOf s.geo hs k).1->(k<0\/s.geo.gs<=k->Mod No w w')->K (.tuple #[.agg ⟨hV (hdOf s.geo hs k).1⟩,.int .i64 (hdOf s.geo hs k).2]) w'):Cal Tryz.prog F_vol_Vol_Head #[.pointer (some ⟨v,0,none⟩),.int .i64 k] w K:=by
 apply C_vol_Vol_Head
 unfold D_vol_Vol_Head
 obtain ⟨w1,b1,b2,b3,b4⟩:=new_u (P:=Tryz.prog) (w:=w) (T:=171) zero_head
 have hdv:=h.dlo
 have hvl:=h.lt v h.vIn
 have h1:=h.nos b3
 refine ⟨_,w1,b1,whd_c h1 fun w2 m2=>⟨_,_,rfl,?_⟩⟩
 have h2:=h1.nos m2
 have m02:=b3.no m2
 rw [bneI]
 refine cond_of (fun he=>⟨_,build_head0,?_⟩) (fun he=>?_)
 ·have he:=of_decide_eq_true he
  obtain ⟨w3,c1,c2,c3,c4⟩:=(b2.keep m2 id).put (T:=171) (vs:=hV hZ) agg_head rfl (hV_len hZ_wf) (one_hV _)
  refine ⟨w3,c1,_,c2.at.all agg_head (hV_len hZ_wf),?_⟩
  have e:hdOf s.geo hs k=(hZ,(gHead s.geo k).2):=by unfold hdOf; rw [if_pos he]
  rw [e] at hk
  have m3:Mod No w w3:=m02.own c3 (Nat.le_refl _)
  exact hk w3 R (m3.mono fun _ _ e=>e.elim) (Sb.refl _ _) (h.nos m3) hZ_wf fun _=>m3
 have he:=Classical.not_not.1 (of_decide_eq_false he)
 obtain ⟨hg,k0,k1,kb⟩:=gHead_ok he
 obtain ⟨x,hx,hx1,hx2,hx3,hx4⟩:=hH.get k0 k1
 have e:hdOf s.geo hs k=(x,0):=by unfold hdOf; rw [if_neg (by rw [he]; decide),List.getD_eq_getElem?_getD,hx]; rfl
 rw [e] at hk
 have hin:=gHead_in (g:=s.geo) (k:=k) (b:=(gHead s.geo k).1) (by rw [<- he])
 have hsz:=hH.2.1
 refine ⟨_,rfl,?_⟩
 have hs1:=b3.size
 have hs2:=m2.size
 refine h2.rd hin.1 (by omega) fun w4 R4 g cc m4 s4 h4 hg1 hg2 hat hl hcc=>⟨_,_,_,_,rfl,ff rfl ⟨_,rfl,_,h4.geo,?_⟩⟩
 rw [kb,hx1] at hat hl
 have q2:=(b2.keep m2 id).keep m4 (fun e=>by have:=h.lt _ e; omega)
 refine headGet_c hl hcc (.inr ⟨_,_,rfl,hat.at⟩) (by omega) fun w6 m6=>⟨_,_,rfl,?_⟩
 rw [hGet_grpB hx4 hx2]
 obtain ⟨w7,c1,c2,c3,c4⟩:=(q2.keep m6 id).put (T:=171) (vs:=hV x) agg_head rfl (hV_len hx4) (one_hV _)
 have hnR:¬ R4 w.heap.size:=fun e=>by
  rcases s4 _ e with e | e
  ·have:=h.lt _ e; omega
  ·have:=b2.lt; omega
 have M6:Mod R w w6:=((m02.mono fun _ _ e=>e.elim).trans m4 fun x _ e=>e).no m6
 refine ⟨w7,c1,_,c2.at.all agg_head (hV_len hx4),?_⟩
 refine hk w7 R4 (M6.trans c3 fun x hx e=>by have e:x=w.heap.size:=e; omega) (s4.up (by omega)) ((h4.nos m6).keep c3 (fun z hz e=>by have e:z=w.heap.size:=e; rw [e] at hz; exact hnR hz) fun z e=>by have e:z=w.heap.size:=e; omega) hx4 fun hbad=>by omega
theorem wSet_c {k:Int} {x:Hd} (h:Vu R w v d s V W nx) (hH:HdsAt V s.geo hs) (k0:0<=k) (k1:k<s.geo.gs) (hw:hWf x) (ho:hOk s.geo x=true) (hn:x.no=k) (hlast:V.last+1<=1000000)
  (hk:∀ w' R',Mod R w w'->Sb R R' w->Vu R' w' v d s (setHV V s.geo k.toNat x) W nx->HdsAt (setHV V s.geo k.toNat x) s.geo (hs.set k.toNat x)->(setHV V s.geo k.toNat x).last=V.last+1->K (.tuple #[.int .i64 ((V.last:Int)+1),.int .i64 0]) w') :
  Cal Tryz.prog F_vol_Vol_SetHead #[.pointer (some ⟨v,0,none⟩),.int .i64 k,.agg ⟨hV x⟩,.slice none 0 0] w K:=by
 apply C_vol_Vol_SetHead
 unfold D_vol_Vol_SetHead
 obtain ⟨j,rfl⟩:=Int.eq_ofNat_of_zero_le k0
 obtain ⟨w1,b1,b2,b3,b4⟩:=box_u (P:=Tryz.prog) (w:=w) (T:=171) (cs:=hV x)
 have hg:=hH.1
 obtain ⟨p1,p2,p3⟩:=head_pos hg k1
 refine ⟨_,w1,b1,whd_c (h.nos b3) fun w2 m2=>⟨_,_,rfl,?_⟩⟩
 rw [p1]
 have m02:=(b3.no m2).drew
 have h2:=h.nos m02
 have q2:AtU (Go.Den.drew w2) w.heap.size 0 (hV x):=(b2.keep m2 id).drew
 refine ff rfl ⟨_,rfl,_,h2.geo,_,q2.at.all agg_head (hV_len hw),hPut_c hw (fun e=>by rw [ho] at e; cases e) fun _ w3 q m3 hq hat=>⟨_,_,_,_,rfl,?_⟩⟩
 have q3:=q2.keep m3 id
 refine Share.cut (fun z w4=>w4=w3/\z=[.bool false]) (ff rfl ⟨_,q3.at.fld sc_int rfl,rfl,?_⟩) ?_
 ·rw [hn,bneI,decide_eq_false (by simp)]
 rintro z w4 ⟨rfl,rfl⟩
 have m04:=(m02.no m3).drew
 have h4:=h.nos m04
 have hlt:=h.lt
 obtain ⟨w0,Rs,Z,sp,wk,a1,a2,a3,a4,a5,a6,a7⟩:=h4.op
 refine ⟨_,rfl,ff rfl ⟨_,rfl,_,a4.at.fld sc_store rfl,_,_,_,slice_h elemN_bytes (by omega) (by omega),?_⟩⟩
 have hE:=setH_E (V:=V) hH k1 hw
 have hN:patN V (2+(j:Int)*s.geo.gr) 0 (setHB s.geo x) []=(V.last:Int)+1:=by unfold patN; rw [if_pos hE]; omega
 have hz4:=m04.size
 have hR:Row (Go.Den.drew w4) (some ⟨q,0,none⟩) (u8L (setHB s.geo x)):=.inr ⟨q,0,rfl,by
  have:=hat.at.drew.sub (i:=0) (m:=64) (by rw [length_u8L,grpB_len hw]; omega)
  rw [List.drop_zero,<- u8L_take] at this; exact this⟩
 refine qPatch_c (data:=setHB s.geo x) (after:=[]) a1 hlast (setHB_len hw) hR (fun _ q' e=>by
  cases e
  intro e
  have h1:=hlt q (a5 q e)
  have:=m02.size
  omega) (by omega) rfl (by omega) (.inl rfl) (fun e=>absurd rfl e) fun w5 m5 hP=>⟨_,_,rfl,?_⟩
 rw [hE,hN]
 obtain ⟨M,hV⟩:=a6 w5 w5 _ m5 (Mod.refl _ _) hP
 refine hk w5 _ ((m04.mono fun _ _ e=>e.elim).trans M fun x _ e=>e) (Sb.gro.up hz4) hV (hH.set k1 hw ho hn) (patS_last hE)
end
end Go.Proofs.YtandmpcjjaabmaaGreat
end
section
open Go Go.Den Go.Proofs
namespace Go.Proofs.YtandmpcjjaabmaaGreat
def gKind (g:Gm) (b:Int):Int×Int :=
 if b<0\/gSize g<=b then (0,-1) else if b<2 then (1,-1) else if (b-2) % g.gr=0 then (2,(b-2) / g.gr) else if (b-2) % g.gr<=gTabs g then (3,(b-2) / g.gr) else (4,(b-2) / g.gr)
def gOf (g:Gm) (n:Int):Int:=if n<0\/gSlots g<=n then -1 else n / g.no
theorem gSize_in {g:Gm} {b:Int} (h:0<=b) (h1:b<gSize g):gOk g=true/\b<2+g.gs*g.gr:=by
 unfold gSize at h1
 split at h1
 ·rename_i h2; exact ⟨h2,h1⟩
 ·omega
theorem gSlots_in {g:Gm} {b:Int} (h:0<=b) (h1:b<gSlots g):gOk g=true/\b<g.gs*g.no:=by
 unfold gSlots at h1
 split at h1
 ·rename_i h2; exact ⟨h2,h1⟩
 ·omega
section
variable {w:World} {K:Value->World->Prop}
theorem geoKind_c {g:Gm} {b:Int} (hk:∀ w',Mod No w w'->K (.tuple #[.int .i64 (gKind g b).1,.int .i64 (gKind g b).2]) w'):Cal Tryz.prog F_geo_Kind #[.agg ⟨gV g⟩,.int .i64 b] w K:=by
 apply C_geo_Kind
 unfold D_geo_Kind
 obtain ⟨w1,a1,a2,a3,a4⟩:=box_u (P:=Tryz.prog) (w:=w) (T:=39) (cs:=gV g)
 refine ⟨_,w1,a1,Share.cut (fun z w3=>Mod No w1 w3/\z=[.bool (decide (b<0\/gSize g<=b))]) (cond_of (fun h=>⟨Mod.refl _ _,?_⟩) (fun h=>⟨_,a2.at.all agg_geo rfl,geoSize_c fun w2 m2=>⟨_,rfl,m2,?_⟩⟩)) ?_⟩
 ·rw [decide_eq_true (show b<0\/gSize g<=b from .inl (of_decide_eq_true h))]
 ·have h:=of_decide_eq_false h
  congr 2
  exact decide_eq_decide.2 ⟨.inr,fun e=>e.resolve_left h⟩
 rintro z w3 ⟨m3,rfl⟩
 have M:=a3.no m3
 have hq:=a2.at.keep m3 id
 refine ⟨_,rfl,cond_of (fun h=>?_) (fun h=>cond_of (fun h2=>?_) (fun h2=>?_))⟩
 ·have e:gKind g b=(0,-1):=by unfold gKind; rw [if_pos (of_decide_eq_true h)]
  rw [e] at hk; exact hk _ M
 ·have e:gKind g b=(1,-1):=by unfold gKind; rw [if_neg (of_decide_eq_false h),if_pos (of_decide_eq_true h2)]
  rw [e] at hk; exact hk _ M
 have h:=of_decide_eq_false h
 have h2:=of_decide_eq_false h2
 obtain ⟨hg,hb⟩:=gSize_in (g:=g) (b:=b) (by omega) (by omega)
 obtain ⟨g1,g2,g3,g4,_⟩:=gOk_iff.1 hg
 have hp:=prodB (a:=g.gs) (b:=g.gr) (m:=16) (n:=128) (by omega) (by omega) (by omega) (by omega)
 rw [wrap64 (x:=b-2) (by omega) (by omega)]
 refine ⟨_,hq.drew.fld sc_int rfl,_,quoR (by omega) (by omega) (by omega),_,hq.drew.fld sc_int rfl,_,remR (by omega) (by omega) (by omega),?_⟩
 rw [beqI]
 refine cond_of (fun h3=>?_) (fun h3=>⟨_,hq.drew.all agg_geo rfl,geoTabs_c fun w4 m4=>⟨_,rfl,cond_of (fun h4=>?_) (fun h4=>?_)⟩⟩)
 ·have e:gKind g b=(2,(b-2) / g.gr):=by unfold gKind; rw [if_neg h,if_neg h2,if_pos (of_decide_eq_true h3)]
  rw [e] at hk; exact hk _ M.drew
 ·have e:gKind g b=(3,(b-2) / g.gr):=by unfold gKind; rw [if_neg h,if_neg h2,if_neg (of_decide_eq_false h3),if_pos (of_decide_eq_true h4)]
  rw [e] at hk; exact hk _ (M.drew.no m4)
 ·have e:gKind g b=(4,(b-2) / g.gr):=by unfold gKind; rw [if_neg h,if_neg h2,if_neg (of_decide_eq_false h3),if_neg (of_decide_eq_false h4)]
  rw [e] at hk; exact hk _ (M.drew.no m4)
theorem geoOf_c {g:Gm} {n:Int} (h63:n<=9223372036854775807) (hk:∀ w',Mod No w w'->K (.int .i64 (gOf g n)) w'):Cal Tryz.prog F_geo_Of #[.agg ⟨gV g⟩,.int .i64 n] w K:=by
 apply C_geo_Of
 unfold D_geo_Of
 obtain ⟨w1,a1,a2,a3,a4⟩:=box_u (P:=Tryz.prog) (w:=w) (T:=39) (cs:=gV g)
 refine ⟨_,w1,a1,Share.cut (fun z w3=>Mod No w1 w3/\z=[.bool (decide (n<0\/gSlots g<=n))]) (cond_of (fun h=>⟨Mod.refl _ _,?_⟩) (fun h=>⟨_,a2.at.all agg_geo rfl,geoSlots_c fun w2 m2=>⟨_,rfl,m2,?_⟩⟩)) ?_⟩
 ·rw [decide_eq_true (show n<0\/gSlots g<=n from .inl (of_decide_eq_true h))]
 ·have h:=of_decide_eq_false h
  congr 2
  exact decide_eq_decide.2 ⟨.inr,fun e=>e.resolve_left h⟩
 rintro z w3 ⟨m3,rfl⟩
 have M:=a3.no m3
 have hq:=a2.at.keep m3 id
 refine ⟨_,rfl,cond_of (fun h=>?_) (fun h=>?_)⟩
 ·have e:gOf g n=-1:=by unfold gOf; rw [if_pos (of_decide_eq_true h)]
  rw [e] at hk; exact hk _ M
 have h:=of_decide_eq_false h
 obtain ⟨hg,hb⟩:=gSlots_in (g:=g) (b:=n) (by omega) (by omega)
 obtain ⟨_,_,_,_,g5,g6,_⟩:=gOk_iff.1 hg
 have e:gOf g n=n / g.no:=by unfold gOf; rw [if_neg h]
 rw [e] at hk
 exact ⟨_,hq.fld sc_int rfl,_,quoR (by omega) (by omega) h63,hk _ M⟩
theorem gHead_b {g:Gm} {k:Int}:0<=(gHead g k).1/\(gHead g k).1<=4096:=by
 unfold gHead
 split
 ·rename_i hg
  obtain ⟨g1,g2,g3,g4,_⟩:=gOk_iff.1 hg
  split
  ·have hp:=prodB (a:=k) (b:=g.gr) (m:=16) (n:=128) (by omega) (by omega) (by omega) (by omega)
   show 0<=2+k*g.gr/\2+k*g.gr<=4096
   omega
  ·exact ⟨Int.le_refl 0,by decide⟩
 ·exact ⟨Int.le_refl 0,by decide⟩
end
end Go.Proofs.YtandmpcjjaabmaaGreat
end
section
open Go Go.Den Go.Proofs
namespace Go.Proofs.YtandmpcjjaabmaaGreat
structure Az where
 s:Sp
 V:Ps
 W:List Wt
 nx:Int
 hs:List Hd
 fz:Int->Bool
def Ao (R:Nat->Prop) (w:World) (a v d:Nat) (A:Az):Prop :=
 ∃ Rv fm L,Vu Rv w v d A.s A.V A.W A.nx/\AtU w a 0 [.pointer (some ⟨v,0,none⟩),.map (some fm)]/\MapAt w fm L/\(∀ k,(lookupL L k).getD (.bool false)=.bool (A.fz k))/\(¬ Rv a/\¬ Rv fm/\a≠fm/\d<=a/\d<=fm)/\(∀ z,Rv z\/z=a\/z=fm->R z)/\(∀ z,R z->z<w.heap.size)/\HdsAt A.V A.s.geo A.hs
theorem mapFz:mapZ Tryz.prog 174=some (.bool false):=by kernel_rfl
theorem sc_pvol:scal Tryz.prog 41=true:=by kernel_rfl
theorem sc_fz:scal Tryz.prog 174=true:=by kernel_rfl
section
variable {w w':World} {R R':Nat->Prop} {a v d:Nat} {A:Az} {K:Value->World->Prop}
theorem Ao.lt (h:Ao R w a v d A):∀ z,R z->z<w.heap.size:=by obtain ⟨_,_,_,_,_,_,_,_,_,h,_⟩:=h; exact h
theorem Ao.hd (h:Ao R w a v d A):HdsAt A.V A.s.geo A.hs:=by obtain ⟨_,_,_,_,_,_,_,_,_,_,h⟩:=h; exact h
theorem Ao.ok (h:Ao R w a v d A):gOk A.s.geo=true:=h.hd.1
theorem Ao.at (h:Ao R w a v d A):∃ fm,AtU w a 0 [.pointer (some ⟨v,0,none⟩),.map (some fm)]:=by obtain ⟨_,fm,_,_,h,_⟩:=h; exact ⟨fm,h⟩
theorem Ao.dlt (h:Ao R w a v d A):d<=a/\a<w.heap.size/\R a:=by obtain ⟨_,fm,_,_,h,_,_,h2,h3,h4,_⟩:=h; exact ⟨h2.2.2.2.1,h4 a (h3 a (.inr (.inl rfl))),h3 a (.inr (.inl rfl))⟩
theorem Ao.wf (h:Ao R w a v d A):WFS A.V/\WF A.V.C.D:=by obtain ⟨_,_,_,h,_⟩:=h; exact h.wf
theorem Ao.pv (h:Ao R w a v d A):Ru (Instr.loadAt 41 (.pointer (some (Addr.add ⟨a,0,none⟩ 0)))) w (.pointer (some ⟨v,0,none⟩)) w:=by
 obtain ⟨fm,h⟩:=h.at
 exact h.at.fld sc_pvol rfl
theorem Ao.keep {S:Nat->Prop} (h:Ao R w a v d A) (m:Mod S w w') (hS:∀ z,R z->¬ S z) (hd:∀ z,S z->d<=z):Ao R w' a v d A:=by
 obtain ⟨Rv,fm,L,h1,h2,h3,h4,h5,h6,h7,h8⟩:=h
 exact ⟨Rv,fm,L,h1.keep m (fun z hz=>hS z (h6 z (.inl hz))) hd,h2.keep m (hS a (h6 a (.inr (.inl rfl)))),h3.keep m (hS fm (h6 fm (.inr (.inr rfl)))),h4,h5,h6,fun z hz=>Nat.lt_of_lt_of_le (h7 z hz) m.size,h8⟩
theorem Ao.nos (h:Ao R w a v d A) (m:Mod No w w'):Ao R w' a v d A:=h.keep m (fun _ _ e=>e) fun _ e=>e.elim
theorem Ao.own {q:Nat} (h:Ao R w a v d A) (m:Mod (fun x=>x=q) w w') (hq:¬ R q) (h0:d<=q):Ao R w' a v d A :=
 h.keep m (fun z hz e=>by have e:z=q:=e; rw [e] at hz; exact hq hz) fun z e=>by have e:z=q:=e; omega
theorem Ao.vol (h:Ao R w a v d A):∃ Rv,Vu Rv w v d A.s A.V A.W A.nx/\(∀ z,Rv z->R z)/\∀ (w':World) (Rv':Nat->Prop) (V':Ps) (W':List Wt) (nx':Int) (hs':List Hd),Mod Rv w w'->Sb Rv Rv' w->Vu Rv' w' v d A.s V' W' nx'->HdsAt V' A.s.geo hs' ->
  Mod R w w'/\Sb R (fun z=>R z\/Rv' z) w/\Ao (fun z=>R z\/Rv' z) w' a v d ⟨A.s,V',W',nx',hs',A.fz⟩:=by
 obtain ⟨Rv,fm,L,h1,h2,h3,h4,h5,h6,h7,h8⟩:=h
 refine ⟨Rv,h1,fun z hz=>h6 z (.inl hz),fun w' Rv' V' W' nx' hs' m sb hv hh=>⟨m.mono fun x _ e=>h6 x (.inl e),fun z hz=>?_,Rv',fm,L,hv,h2.keep m h5.1,h3.keep m h5.2.1,h4,⟨fun e=>?_,fun e=>?_,h5.2.2⟩,fun z hz=>?_,fun z hz=>?_,hh⟩⟩
 ·rcases hz with hz | hz
  ·exact .inl hz
  ·exact (sb z hz).imp (fun e=>h6 z (.inl e)) id
 ·rcases sb a e with e | e
  ·exact h5.1 e
  ·have:=h2.lt; omega
 ·rcases sb fm e with e | e
  ·exact h5.2.1 e
  ·have:=h3.lt; omega
 ·rcases hz with hz | hz
  ·exact .inr hz
  ·exact .inl (h6 z (.inr hz))
 ·rcases hz with hz | hz
  ·have:=h7 z hz; have:=m.size; omega
  ·exact hv.lt z hz
theorem aGeo_c (h:Ao R w a v d A) (hk:∀ w',Mod No w w'->K (.agg ⟨gV A.s.geo⟩) w'):Cal Tryz.prog F_vol_Vol_Geo #[.pointer (some ⟨v,0,none⟩)] w K:=by
 obtain ⟨Rv,hv,_⟩:=h.vol
 exact wGeo_c hv hk
theorem aHead_c {k:Int} (h:Ao R w a v d A)
  (hk:∀ w' R',Mod R w w'->Sb R R' w->Ao R' w' a v d A->hWf (hdOf A.s.geo A.hs k).1->K (.tuple #[.agg ⟨hV (hdOf A.s.geo A.hs k).1⟩,.int .i64 (hdOf A.s.geo A.hs k).2]) w'):Cal Tryz.prog F_vol_Vol_Head #[.pointer (some ⟨v,0,none⟩),.int .i64 k] w K:=by
 obtain ⟨Rv,hv,_,hc⟩:=h.vol
 refine wHead_c hv h.hd fun w' R' m sb hv' hw _=>?_
 obtain ⟨x1,x2,x3⟩:=hc w' R' A.V A.W A.nx A.hs m sb hv' h.hd
 exact hk w' _ x1 x2 x3 hw
def sethA (A:Az) (k:Nat) (x:Hd):Az:=⟨A.s,setHV A.V A.s.geo k x,A.W,A.nx,A.hs.set k x,A.fz⟩
theorem aSet_c {k:Int} {x:Hd} (h:Ao R w a v d A) (k0:0<=k) (k1:k<A.s.geo.gs) (hw:hWf x) (ho:hOk A.s.geo x=true) (hn:x.no=k) (hlast:A.V.last+1<=1000000)
  (hk:∀ w' R',Mod R w w'->Sb R R' w->Ao R' w' a v d (sethA A k.toNat x)->(sethA A k.toNat x).V.last=A.V.last+1->K (.tuple #[.int .i64 ((A.V.last:Int)+1),.int .i64 0]) w') :
  Cal Tryz.prog F_vol_Vol_SetHead #[.pointer (some ⟨v,0,none⟩),.int .i64 k,.agg ⟨hV x⟩,.slice none 0 0] w K:=by
 obtain ⟨Rv,hv,_,hc⟩:=h.vol
 refine wSet_c hv h.hd k0 k1 hw ho hn hlast fun w' R' m sb hv' hh hl=>?_
 obtain ⟨x1,x2,x3⟩:=hc w' R' _ A.W A.nx _ m sb hv' hh
 exact hk w' _ x1 x2 x3 hl
def spB (g:Gm) (b:Int):Int×Int×Bool:=if (gKind g b).1≠4 then (0,0,false) else ((gKind g b).2,b-(gHead g (gKind g b).2).1,true)
def spS (g:Gm) (n:Int):Int×Int×Bool:=if gOf g n<0 then (0,0,false) else (gOf g n,n % g.no,true)
def pV (x:Int×Int):List Value:=[.int .i64 x.1,.int .i64 x.2]
theorem one_pV (x:Int×Int):∀ u∈pV x,u.oneCell'=true:=by intro u hu; simp [pV] at hu; rcases hu with rfl | rfl <;> rfl
theorem agg_spot:aggN Tryz.prog 195=some 2:=by kernel_rfl
theorem zero_spot:zeroC Tryz.prog 195=some (pV (0,0)):=by kernel_rfl
theorem field_gno (g:Gm):Al (Instr.field 39 (.agg ⟨gV g⟩) 1) (.int .i64 g.no):=fun w=>by kernel_rfl
theorem field_ggs (g:Gm):Al (Instr.field 39 (.agg ⟨gV g⟩) 2) (.int .i64 g.gs):=fun w=>by kernel_rfl
theorem build_spot0:Al (Instr.build 195 #[]) (.agg ⟨pV (0,0)⟩):=fun w=>by kernel_rfl
theorem build_spot (x y:Int):Al (Instr.build 195 #[(0,.int .i64 x),(1,.int .i64 y)]) (.agg ⟨pV (x,y)⟩):=fun w=>by kernel_rfl
theorem gKind_4 {g:Gm} {b:Int} (h:(gKind g b).1=4):gOk g=true/\2<=b/\b<gSize g/\0<=(gKind g b).2/\(gKind g b).2<g.gs/\1+gTabs g<=b-(2+(gKind g b).2*g.gr)/\b-(2+(gKind g b).2*g.gr)<g.gr:=by
 unfold gKind at h |-
 split at h
 ·cases h
 rename_i h1
 split at h
 ·cases h
 rename_i h2
 split at h
 ·cases h
 rename_i h3
 split at h
 ·cases h
 rename_i h4
 rw [if_neg h1,if_neg h2,if_neg h3,if_neg h4]
 obtain ⟨hg,hb⟩:=gSize_in (g:=g) (b:=b) (by omega) (by omega)
 obtain ⟨g1,g2,g3,g4,_⟩:=gOk_iff.1 hg
 have hd:=Int.mul_ediv_add_emod (b-2) g.gr
 have hm:=Int.emod_nonneg (b-2) (show g.gr≠0 by omega)
 have hl:=Int.emod_lt_of_pos (b-2) (show 0<g.gr by omega)
 have hq:0<=(b-2) / g.gr:=Int.ediv_nonneg (by omega) (by omega)
 have hq2:(b-2) / g.gr<g.gs:=Int.ediv_lt_of_lt_mul (by omega) (by rw [Int.mul_comm] at *; omega)
 rw [Int.mul_comm] at hd
 refine ⟨hg,by omega,by omega,hq,hq2,?_,?_⟩
 ·show 1+gTabs g<=b-(2+(b-2) / g.gr*g.gr)
  omega
 ·show b-(2+(b-2) / g.gr*g.gr)<g.gr
  omega
theorem aBlk_c {b:Int} (h63:b<=9223372036854775807) (h:Ao R w a v d A) (hk:∀ w',Mod No w w'->K (.tuple #[.agg ⟨pV ((spB A.s.geo b).1,(spB A.s.geo b).2.1)⟩,.bool (spB A.s.geo b).2.2]) w') :
  Cal Tryz.prog F_alloc_Alloc_block #[.pointer (some ⟨a,0,none⟩),.int .i64 b] w K:=by
 apply C_alloc_Alloc_block
 unfold D_alloc_Alloc_block
 obtain ⟨w1,c1,c2,c3,c4⟩:=new_u (P:=Tryz.prog) (w:=w) (T:=195) zero_spot
 have h1:=h.nos c3
 refine ⟨_,w1,c1,_,rfl,_,h1.pv,aGeo_c h1 fun w2 m2=>⟨_,rfl,geoKind_c fun w3 m3=>⟨_,_,rfl,?_⟩⟩⟩
 have q3:=(c2.keep m2 id).keep m3 id
 have h3:=(h1.nos m2).nos m3
 have M3:=(c3.no m2).no m3
 rw [bneI]
 refine cond_of (fun he=>⟨_,build_spot0,?_⟩) (fun he=>⟨_,rfl,_,h3.pv,aGeo_c h3 fun w5 m5=>⟨_,rfl,geoHead_c fun w6 m6=>⟨_,_,rfl,?_⟩⟩⟩)
 ·have e:spB A.s.geo b=(0,0,false):=by unfold spB; rw [if_pos (of_decide_eq_true he)]
  rw [e] at hk
  obtain ⟨w4,y1,y2,y3,y4⟩:=q3.put (T:=195) (vs:=pV (0,0)) agg_spot rfl rfl (one_pV _)
  exact ⟨w4,y1,_,y2.at.all agg_spot rfl,hk w4 (M3.own y3 (Nat.le_refl _))⟩
 ·have he:=Classical.not_not.1 (of_decide_eq_false he)
  have e:spB A.s.geo b=((gKind A.s.geo b).2,b-(gHead A.s.geo (gKind A.s.geo b).2).1,true):=by unfold spB; rw [if_neg (by omega)]
  rw [e] at hk
  obtain ⟨_,k1,k2,_⟩:=gKind_4 he
  have hb:=gHead_b (g:=A.s.geo) (k:=(gKind A.s.geo b).2)
  have hs:=gSize_b (g:=A.s.geo)
  rw [wrap64 (x:=b-(gHead A.s.geo (gKind A.s.geo b).2).1) (by omega) (by omega)]
  obtain ⟨w7,y1,y2,y3,y4⟩:=((q3.keep m5 id).keep m6 id).put (T:=195) (vs:=pV ((gKind A.s.geo b).2,b-(gHead A.s.geo (gKind A.s.geo b).2).1)) agg_spot rfl rfl (one_pV _)
  exact ⟨_,build_spot _ _,w7,y1,_,y2.at.all agg_spot rfl,hk w7 (((M3.no m5).no m6).own y3 (Nat.le_refl _))⟩
theorem gOf_in {g:Gm} {n:Int} (h:0<=gOf g n):gOk g=true/\0<=n/\n<gSlots g/\gOf g n=n / g.no:=by
 unfold gOf at h |-
 split at h
 ·omega
 ·rename_i h1
  rw [if_neg h1]
  exact ⟨(gSlots_in (g:=g) (b:=n) (by omega) (by omega)).1,by omega,by omega,rfl⟩
theorem aSlt_c {n:Int} (h63:n<=9223372036854775807) (h:Ao R w a v d A) (hk:∀ w',Mod No w w'->K (.tuple #[.agg ⟨pV ((spS A.s.geo n).1,(spS A.s.geo n).2.1)⟩,.bool (spS A.s.geo n).2.2]) w') :
  Cal Tryz.prog F_alloc_Alloc_slot #[.pointer (some ⟨a,0,none⟩),.int .i64 n] w K:=by
 apply C_alloc_Alloc_slot
 unfold D_alloc_Alloc_slot
 obtain ⟨w1,c1,c2,c3,c4⟩:=new_u (P:=Tryz.prog) (w:=w) (T:=195) zero_spot
 have h1:=h.nos c3
 refine ⟨_,w1,c1,_,rfl,_,h1.pv,aGeo_c h1 fun w2 m2=>⟨_,rfl,geoOf_c h63 fun w3 m3=>⟨_,rfl,?_⟩⟩⟩
 have q3:=(c2.keep m2 id).keep m3 id
 have h3:=(h1.nos m2).nos m3
 have M3:=(c3.no m2).no m3
 refine cond_of (fun he=>⟨_,build_spot0,?_⟩) (fun he=>⟨_,rfl,_,h3.pv,aGeo_c h3 fun w5 m5=>⟨_,rfl,A.s.geo.no,field_gno _,?_⟩⟩)
 ·have e:spS A.s.geo n=(0,0,false):=by unfold spS; rw [if_pos (of_decide_eq_true he)]
  rw [e] at hk
  obtain ⟨w4,y1,y2,y3,y4⟩:=q3.put (T:=195) (vs:=pV (0,0)) agg_spot rfl rfl (one_pV _)
  exact ⟨w4,y1,_,y2.at.all agg_spot rfl,hk w4 (M3.own y3 (Nat.le_refl _))⟩
 ·have he:=of_decide_eq_false he
  have e:spS A.s.geo n=(gOf A.s.geo n,n % A.s.geo.no,true):=by unfold spS; rw [if_neg he]
  rw [e] at hk
  obtain ⟨hg,k1,k2,_⟩:=gOf_in (g:=A.s.geo) (n:=n) (by omega)
  obtain ⟨_,_,_,_,g5,_⟩:=gOk_iff.1 hg
  refine ⟨_,remR k1 (by omega) h63,_,build_spot _ _,?_⟩
  obtain ⟨w6,y1,y2,y3,y4⟩:=(q3.keep m5 id).put (T:=195) (vs:=pV (gOf A.s.geo n,n % A.s.geo.no)) agg_spot rfl rfl (one_pV _)
  exact ⟨w6,y1,_,y2.at.all agg_spot rfl,hk w6 ((M3.no m5).own y3 (Nat.le_refl _))⟩
def xV (kd:Bool):List Value:=if kd=true then [.func (.func F_group_FindBlock) #[] #[],.func (.func F_group_UseBlock) #[] #[]] else [.func (.func F_group_FindSlot) #[] #[],.func (.func F_group_UseSlot) #[] #[]]
def useX (kd:Bool) (g:Gm) (h:Hd) (i:Int) (on:Bool):Hd×Int:=if kd=true then useBk g h i on else useSl g h i on
def findX (kd:Bool) (g:Gm) (h:Hd) (f:Int):Int:=if kd=true then findBk g h f else findSl g h f
theorem one_xV (kd:Bool):∀ u∈xV kd,u.oneCell'=true:=by cases kd <;> (intro u hu; simp [xV] at hu; rcases hu with rfl | rfl <;> rfl)
theorem len_xV (kd:Bool):(xV kd).length=2:=by cases kd <;> rfl
theorem agg_heads:aggN Tryz.prog 271=some 2:=by kernel_rfl
theorem zero_heads:zeroC Tryz.prog 271=some [.nilFunc,.nilFunc]:=by kernel_rfl
theorem aBlocks_c (hk:∀ w',Mod No w w'->K (.agg ⟨xV true⟩) w'):Cal Tryz.prog F_alloc_blocks #[] w K:=by
 apply C_alloc_blocks
 unfold D_alloc_blocks
 obtain ⟨w1,c1,c2,c3,c4⟩:=new_u (P:=Tryz.prog) (w:=w) (T:=271) zero_heads
 obtain ⟨w2,y1,y2,y3,y4⟩:=c2.put (T:=271) (vs:=xV true) agg_heads rfl rfl (one_xV _)
 exact ⟨_,w1,c1,_,fun w=>by kernel_rfl,w2,y1,_,y2.at.all agg_heads rfl,hk w2 (c3.own y3 (Nat.le_refl _))⟩
theorem aSlots_c (hk:∀ w',Mod No w w'->K (.agg ⟨xV false⟩) w'):Cal Tryz.prog F_alloc_slots #[] w K:=by
 apply C_alloc_slots
 unfold D_alloc_slots
 obtain ⟨w1,c1,c2,c3,c4⟩:=new_u (P:=Tryz.prog) (w:=w) (T:=271) zero_heads
 obtain ⟨w2,y1,y2,y3,y4⟩:=c2.put (T:=271) (vs:=xV false) agg_heads rfl rfl (one_xV _)
 exact ⟨_,w1,c1,_,fun w=>by kernel_rfl,w2,y1,_,y2.at.all agg_heads rfl,hk w2 (c3.own y3 (Nat.le_refl _))⟩
theorem useX_c {kd:Bool} {g:Gm} {h:Hd} {i:Int} {on:Bool} (hw:hWf h) (hk:∀ w',Mod No w w'->K (.tuple #[.agg ⟨hV (useX kd g h i on).1⟩,.int .i64 (useX kd g h i on).2]) w') {f:Value} (hf:(xV kd)[1]?=some f) :
  Dyn Tryz.prog f #[.agg ⟨gV g⟩,.agg ⟨hV h⟩,.int .i64 i,.bool on] w K:=by
 cases kd with
 | true=>cases hf; exact ⟨_,_,_,rfl,useBk_c hw hk⟩
 | false=>cases hf; exact ⟨_,_,_,rfl,useSl_c hw hk⟩
theorem findX_c {kd:Bool} {g:Gm} {h:Hd} {p:Int} (hw:hWf h) (hk:∀ w',Mod No w w'->K (.int .i64 (findX kd g h p)) w') {f:Value} (hf:(xV kd)[0]?=some f) :
  Dyn Tryz.prog f #[.agg ⟨gV g⟩,.agg ⟨hV h⟩,.int .i64 p] w K:=by
 cases kd with
 | true=>cases hf; exact ⟨_,_,_,rfl,findBk_c hw hk⟩
 | false=>cases hf; exact ⟨_,_,_,rfl,findSl_c hw hk⟩
theorem useX_wf {kd:Bool} {g:Gm} {h:Hd} (hw:hWf h) (i:Int) (on:Bool):hWf (useX kd g h i on).1:=by
 cases kd
 ·exact useSl_wf hw i on
 ·exact useBk_wf hw i on
theorem useX_ok {kd:Bool} {g:Gm} {h:Hd} {i:Int} {on:Bool} (hw:hWf h) (e:(useX kd g h i on).2=0):hOk g (useX kd g h i on).1=true/\(useX kd g h i on).1.no=h.no:=by
 cases kd
 ·obtain ⟨h1,h2,_⟩:=useSl_ok (on:=on) (i:=i) hw e
  exact ⟨h1,by show (useSl g h i on).1.no=_; rw [h2]⟩
 ·obtain ⟨h1,h2,_⟩:=useBk_ok (on:=on) (i:=i) hw e
  exact ⟨h1,by show (useBk g h i on).1.no=_; rw [h2]⟩
end
end Go.Proofs.YtandmpcjjaabmaaGreat
end
section
open Go Go.Den Go.Proofs
namespace Go.Proofs.YtandmpcjjaabmaaGreat
def turnA (kd:Bool) (A:Az) (k:Nat) (i:Int) (on:Bool):Az×Int×Int :=
 if (useX kd A.s.geo (A.hs.getD k hZ) i on).2≠0 then (A,0,(useX kd A.s.geo (A.hs.getD k hZ) i on).2) else (sethA A k (useX kd A.s.geo (A.hs.getD k hZ) i on).1,(A.V.last:Int)+1,0)
section
variable {w w':World} {R R':Nat->Prop} {a v d:Nat} {A:Az} {K:Value->World->Prop}
theorem sc_use:scal Tryz.prog 269=true:=by kernel_rfl
theorem sc_find:scal Tryz.prog 268=true:=by kernel_rfl
theorem Ao.hdOf (h:Ao R w a v d A) {k:Nat} (hk:(k:Int)<A.s.geo.gs):∃ x,hdOf A.s.geo A.hs k=(x,0)/\A.hs.getD k hZ=x/\hOk A.s.geo x=true/\x.no=k/\hWf x:=by
 obtain ⟨x,h1,h2,h3,h4,h5⟩:=h.hd.get (k:=(k:Int)) (by omega) hk
 obtain ⟨p1,_⟩:=head_pos h.ok hk
 have e:A.hs.getD k hZ=x:=by rw [List.getD_eq_getElem?_getD,show A.hs[k]?=some x from h1]; rfl
 exact ⟨x,by unfold Go.Proofs.YtandmpcjjaabmaaGreat.hdOf; rw [if_neg (by rw [p1]; exact fun e=>e rfl)]; exact congrArg (·,0) e,e,h3,h4,h5⟩
set_option maxRecDepth 4000 in
theorem turn_c {kd:Bool} {k:Nat} {i:Int} {on:Bool} (h:Ao R w a v d A) (hk0:(k:Int)<A.s.geo.gs) (hlast:A.V.last+1<=1000000)
  (hk:∀ w' R',Mod R w w'->Sb R R' w->Ao R' w' a v d (turnA kd A k i on).1->K (.tuple #[.int .i64 (turnA kd A k i on).2.1,.int .i64 (turnA kd A k i on).2.2]) w') :
  Cal Tryz.prog F_alloc_Alloc_turn #[.pointer (some ⟨a,0,none⟩),.agg ⟨pV (k,i)⟩,.agg ⟨xV kd⟩,.bool on] w K:=by
 obtain ⟨x,hx1,hx2,hx3,hx4,hx5⟩:=h.hdOf hk0
 obtain ⟨f1,hf1⟩:∃ f,(xV kd)[1]?=some f:=by cases kd <;> exact ⟨_,rfl⟩
 apply C_alloc_Alloc_turn
 unfold D_alloc_Alloc_turn
 obtain ⟨w1,a1,a2,a3,a4⟩:=box_u (P:=Tryz.prog) (w:=w) (T:=195) (cs:=pV (k,i))
 obtain ⟨w2,b1,b2,b3,b4⟩:=box_u (P:=Tryz.prog) (w:=w1) (T:=271) (cs:=xV kd)
 have m2:=(a3.no b3).drew
 have h2:=h.nos m2
 have q1:AtU (Go.Den.drew w2) w.heap.size 0 (pV (k,i)):=(a2.keep b3 id).drew
 have q2:AtU (Go.Den.drew w2) w1.heap.size 0 (xV kd):=b2.drew
 have n1:¬ R w.heap.size:=fun e=>by have:=h.lt _ e; omega
 have n2:¬ R w1.heap.size:=fun e=>by have:=h.lt _ e; omega
 have zd:(Go.Den.drew w2).heap.size=w2.heap.size:=rfl
 have hda:=h.dlt
 refine ⟨_,w1,a1,_,w2,b1,_,rfl,_,h2.pv,_,q1.at.fld (v:=.int .i64 (k:Int)) sc_int rfl,?pA,?pB⟩
 case' pA =>
  refine aHead_c h2 fun w3 R3 m3 s3 h3 _=>?_
  rw [hx1]
  have z3:=m3.size
  obtain ⟨w4,c1,c2,c3,c4⟩:=new_u (P:=Tryz.prog) (w:=w3) (T:=171) zero_head
  obtain ⟨w5,e1,e2,e3,e4⟩:=c2.put (T:=171) (vs:=hV x) agg_head rfl (hV_len hx5) (one_hV _)
  have hn:¬ R3 w3.heap.size:=fun e=>by have:=h3.lt _ e; omega
  have T1:Mod R w w5:=((m2.mono fun _ _ e=>e.elim).trans (m3.no (c3.own e3 (Nat.le_refl _))) fun x _ e=>e)
  have T2:Sb R R3 w2:=s3
  have T3:Ao R3 w5 a v d A:=(h3.nos c3).own e3 hn (by omega)
  have q14:=(q1.keep m3 n1).keep c3 id
  have T5:AtU w5 w.heap.size 0 (pV (k,i)):=q14.keep e3 (fun e=>by have e:w.heap.size=w3.heap.size:=e; omega)
  have T6:AtU w5 w1.heap.size 0 (xV kd):=((q2.keep m3 n2).keep c3 id).keep e3 (fun e=>by have e:w1.heap.size=w3.heap.size:=e; omega)
  refine ⟨_,_,rfl,_,w4,c1,(h3.nos c3).pv,q14.at.fld sc_int rfl,w5,e1,?_⟩
  have T7:w2.heap.size<=w3.heap.size/\w3.heap.size<w5.heap.size:=⟨by omega,e2.lt⟩
  generalize w3.heap.size=q at *
 case' pB =>
  obtain ⟨w4,c1,c2,c3,c4⟩:=new_u (P:=Tryz.prog) (w:=Go.Den.drew w2) (T:=171) zero_head
  refine ⟨_,w4,c1,(h2.nos c3).pv,(q1.keep c3 id).at.fld sc_int rfl,aHead_c (h2.nos c3) fun w3 R3 m3 s3 h3 _=>?_⟩
  rw [hx1]
  have z3:=m3.size
  have hnR:¬ R w2.heap.size:=fun e=>by have:=h.lt _ e; omega
  obtain ⟨w5,e1,e2,e3,e4⟩:=(c2.keep m3 hnR).put (T:=171) (vs:=hV x) agg_head rfl (hV_len hx5) (one_hV _)
  have hn:¬ R3 w2.heap.size:=fun e=>by
   rcases s3 _ e with e | e
   ·exact hnR e
   ·omega
  have T1:Mod R w w5:=(((m2.no c3).mono fun _ _ e=>e.elim).trans m3 fun x _ e=>e).trans e3 fun x hx e=>by have e:x=w2.heap.size:=e; omega
  have T2:Sb R R3 w2:=s3.up (by omega)
  have T3:Ao R3 w5 a v d A:=h3.own e3 hn (by omega)
  have T5:AtU w5 w.heap.size 0 (pV (k,i)):=((q1.keep c3 id).keep m3 n1).keep e3 (fun e=>by have e:w.heap.size=w2.heap.size:=e; omega)
  have T6:AtU w5 w1.heap.size 0 (xV kd):=((q2.keep c3 id).keep m3 n2).keep e3 (fun e=>by have e:w1.heap.size=w2.heap.size:=e; omega)
  refine ⟨_,_,rfl,w5,e1,?_⟩
  have T7:w2.heap.size<=w2.heap.size/\w2.heap.size<w5.heap.size:=⟨Nat.le_refl _,e2.lt⟩
  obtain ⟨q,hq⟩:∃ q,q=w2.heap.size:=⟨_,rfl⟩
  have e2:AtU w5 q 0 (hV x):=hq ▸ e2
  have hn:¬ R3 q:=hq ▸ hn
  have T7:w2.heap.size<=q/\q<w5.heap.size:=hq ▸ T7
  rw [zd,<- hq]
 all_goals
  have p1:w.heap.size<w2.heap.size/\w1.heap.size<w2.heap.size/\w.heap.size<w1.heap.size:=⟨by have:=b2.lt; omega,b2.lt,by omega⟩
  have hz5:=T1.size
  have r1:¬ R3 w.heap.size:=fun e=>by
   rcases T2 _ e with e | e
   ·exact n1 e
   ·omega
  have r2:¬ R3 w1.heap.size:=fun e=>by
   rcases T2 _ e with e | e
   ·exact n2 e
   ·omega
  refine Share.cut (fun z w9=>∃ e h',z=[.int .i64 e]/\Mod R w w9/\Ao R3 w9 a v d A/\AtU w9 q 0 (hV h')/\AtU w9 w.heap.size 0 (pV (k,i))/\e=(useX kd A.s.geo x i on).2/\h'=(useX kd A.s.geo x i on).1) ?_ ?_
  ·refine tt rfl ⟨f1,T6.drew.at.fld sc_use hf1,_,rfl,_,(T3.nos (Mod.refl _ _).drew).pv,_,e2.drew.at.all agg_head (hV_len hx5),_,T5.drew.at.fld (v:=.int .i64 i) sc_int rfl,aGeo_c (T3.nos (Mod.refl _ _).drew) fun w6 m6=>⟨_,rfl,(T6.keep (S:=No) ((Mod.refl _ _).drew.no m6) id).at.fld sc_use hf1,(e2.keep (S:=No) ((Mod.refl _ _).drew.no m6) id).at.all agg_head (hV_len hx5),(T5.keep (S:=No) ((Mod.refl _ _).drew.no m6) id).at.fld (v:=.int .i64 i) sc_int rfl,?_⟩⟩
   refine useX_c hx5 (fun w7 m7=>⟨_,_,rfl,?_⟩) hf1
   have M7:Mod No w5 w7:=((Mod.refl No w5).drew.no m6).no m7
   obtain ⟨w8,y1,y2,y3,y4⟩:=(e2.keep M7 id).put (T:=171) (vs:=hV (useX kd A.s.geo x i on).1) agg_head (hV_len hx5) (hV_len (useX_wf hx5 i on)) (one_hV _)
   exact ⟨w8,y1,_,_,rfl,(T1.no M7).trans y3 fun z hz e=>by have e:z=q:=e; omega,(T3.nos M7).own y3 hn (by omega),y2,(T5.keep M7 id).keep y3 (fun e=>by have e:w.heap.size=q:=e; omega),rfl,rfl⟩
  rintro z w9 ⟨e,h',rfl,U1,U2,U3,U4,rfl,rfl⟩
  refine ⟨_,rfl,?_⟩
  rw [bneI]
  have hT:=fun (y:Az×Int×Int) (hy:turnA kd A k i on=y)=>hy ▸ hk
  unfold turnA at hk
  rw [hx2] at hk
  refine cond_of (fun he=>?_) (fun he=>?_)
  ·have he:=of_decide_eq_true he
   rw [if_pos he] at hk
   exact hk w9 R3 U1 (T2.up (by omega)) U2
  ·have he':=Classical.not_not.1 (of_decide_eq_false he)
   rw [if_neg (of_decide_eq_false he)] at hk
   obtain ⟨o1,o2⟩:=useX_ok hx5 he'
   refine ⟨_,rfl,_,(U2.nos (Mod.refl _ _).drew).pv,_,U4.drew.at.fld (v:=.int .i64 (k:Int)) sc_int rfl,_,U3.drew.at.all agg_head (hV_len (useX_wf hx5 i on)),?_⟩
   refine aSet_c (U2.nos (Mod.refl _ _).drew) (by omega) hk0 (useX_wf hx5 i on) o1 (by rw [o2]; exact hx4) hlast fun w10 R10 m10 s10 h10 _=>⟨_,_,rfl,?_⟩
   rw [show ((k:Nat):Int).toNat=k by omega] at h10
   have hzU:=U1.size
   exact hk w10 R10 ((U1.drew).trans m10 fun z hz e=>(T2 z e).resolve_right (by omega)) ((T2.trans s10 (by show w2.heap.size<=w9.heap.size; have:=U3.lt; omega)).up (by omega)) h10
end
end Go.Proofs.YtandmpcjjaabmaaGreat
end
section
open Go Go.Den Go.Proofs
namespace Go.Proofs.YtandmpcjjaabmaaGreat
theorem sc_palloc:scal Tryz.prog 73=true:=by kernel_rfl
theorem sc_bl:scal Tryz.prog 4=true:=by kernel_rfl
section
variable {w w':World} {R R':Nat->Prop} {a v d:Nat} {A:Az} {K:Value->World->Prop}
theorem ring_c {s p : Int} {t : Bool} {q : Option Addr} (hk : ∀ w', Mod No w w' → w'.heap.size = w.heap.size + 3 → AtU w' w.heap.size 0 [.pointer q] → AtU w' (w.heap.size + 1) 0 (pV (s, p)) → AtU w' (w.heap.size + 2) 0 [.bool t] →
      K (.func (.func F_alloc_Alloc_ring_1) #[] #[.pointer (some ⟨w.heap.size, 0, none⟩), .pointer (some ⟨w.heap.size + 1, 0, none⟩), .pointer (some ⟨w.heap.size + 2, 0, none⟩)]) w') :
    Cal Tryz.prog F_alloc_Alloc_ring #[.pointer q, .agg ⟨pV (s, p)⟩, .bool t] w K := by
  apply C_alloc_Alloc_ring
  unfold D_alloc_Alloc_ring
  obtain ⟨w1, a1, a2, a3, a4⟩ := box_v (P := Tryz.prog) (w := w) (T := 73) (v := .pointer q) rfl
  obtain ⟨w2, b1, b2, b3, b4⟩ := box_u (P := Tryz.prog) (w := w1) (T := 195) (cs := pV (s, p))
  obtain ⟨w3, c1, c2, c3, c4⟩ := box_v (P := Tryz.prog) (w := w2) (T := 4) (v := .bool t) rfl
  rw [a4] at b1 b2 b4
  rw [b4] at c1 c2 c4
  exact ⟨_, w1, a1, _, w2, b1, _, w3, c1, hk w3 ((a3.no b3).no c3) c4 ((a2.keep b3 id).keep c3 id) (b2.keep c3 id) c2⟩
theorem ring1_c {l q3 q4 q5 n:Nat} {s p:Int} {t:Bool} (hn:A.s.geo.gs=n) (hg:gOk A.s.geo=true) (hs:0<=s/\s<A.s.geo.gs) (hp:0<=p/\p<=100000) (J:Nat->World->Prop) (E:World->Prop) (hJ0:J 0 w)
  (hcell:∀ i W,J i W->∃ R',Ao R' W a v d A/\AtU W q3 0 [.pointer (some ⟨a,0,none⟩)]/\AtU W q4 0 (pV (s,p))/\AtU W q5 0 [.bool t])
  (hno:∀ i W W',J i W->Mod No W W'->J i W')
  (hfz:∀ i W,i<n->J i W->A.fz (ringK A.s.geo s i)=true->J (i+1) W)
  (hst:∀ i W K,i<n->J i W->A.fz (ringK A.s.geo s i)=false->(∀ W',J (i+1) W'->K (.bool true) W')->(∀ W',E W'->K (.bool false) W')->Yld Tryz.prog l #[.int .i64 (ringK A.s.geo s i:Int),.int .i64 (ringF p t i)] W K)
  (hk:∀ W,J n W\/E W->K (.tuple #[]) W) :
  Cal Tryz.prog F_alloc_Alloc_ring_1 (#[.func (.yield l) #[] #[]]++#[.pointer (some ⟨q3,0,none⟩),.pointer (some ⟨q4,0,none⟩),.pointer (some ⟨q5,0,none⟩)]) w K:=by
 refine C_alloc_Alloc_ring_1 _ _ _ _ w K ?_
 unfold D_alloc_Alloc_ring_1
 obtain ⟨R0,h0,c3,c4,c5⟩:=hcell 0 w hJ0
 obtain ⟨_,_,g3,g4,_⟩:=gOk_iff.1 hg
 refine ⟨_,c3.at.one sc_palloc,_,rfl,_,h0.pv,aGeo_c h0 fun w1 m1=>⟨_,rfl,_,field_ggs _,?_⟩⟩
 refine ⟨fun x W=>∃ (i:Nat) (y0 y2 y3:Value),x=[y0,.int .i64 i,y2,y3]/\i<=n/\J i W,fun x _=>(n-nI x 1).toNat,⟨0,_,_,_,rfl,Nat.zero_le _,hno 0 _ _ hJ0 m1⟩,?_⟩
 rintro x W ⟨i,y0,y2,y3,rfl,hi,hJ⟩
 obtain ⟨R1,h1,d3,d4,d5⟩:=hcell i W hJ
 refine ⟨_,rfl,cond_of (fun hb=>?_) (fun hb=>hk W (.inl ?_))⟩
 ·have hb:=of_decide_eq_true hb
  have hin:i<n:=by omega
  have hrk:(s+i) % A.s.geo.gs=(ringK A.s.geo s i:Int):=by
   unfold ringK
   have:=Int.emod_nonneg (s+i) (show A.s.geo.gs≠0 by omega)
   omega
  refine ⟨_,d4.at.fld (v:=.int .i64 s) sc_int rfl,(ringK A.s.geo s i:Int),?_,?_⟩
  ·rw [wrap64 (x:=s+i) (by omega) (by omega),<- hrk]
   exact remR (by omega) (by omega) (by omega)
  refine Share.cut (fun z W'=>W'=W/\z=[.bool (decide (i=0)&&t)]) ?_ ?_
  ·rw [beqI]
   refine cond_of (fun h=>⟨_,d5.at.one sc_bl,rfl,?_⟩) (fun h=>⟨rfl,?_⟩)
   ·have h:=of_decide_eq_true h
    rw [decide_eq_true (by omega),Bool.true_and]
   ·have h:=of_decide_eq_false h
    rw [decide_eq_false (by omega),Bool.false_and]
  rintro z W' ⟨rfl,rfl⟩
  refine ⟨_,rfl,Share.cut (fun z W''=>W''=W'/\z=[.int .i64 (ringF p t i)]) (cond_of (fun h=>⟨_,d4.at.fld (v:=.int .i64 p) sc_int rfl,rfl,?_⟩) (fun h=>⟨rfl,?_⟩)) ?_⟩
  ·simp only [Bool.and_eq_true,decide_eq_true_eq] at h
   rw [wrap64 (by omega) (by omega)]; unfold ringF; rw [if_pos h]
  ·have h':¬ (i=0/\t=true):=fun e=>by rw [decide_eq_true e.1,e.2] at h; cases h
   unfold ringF; rw [if_neg h']
  rintro z W'' ⟨rfl,rfl⟩
  refine Share.cut (fun z W'=>(z=[.bool false]/\J (i+1) W')\/(z=[.bool true]/\E W')) ?_ ?_
  ·have h1':=h1
   obtain ⟨Rv,fm,L,_,k2,k3,k4,_⟩:=h1'
   have hl:=lookup_run (P:=Tryz.prog) (k:=(ringK A.s.geo s i:Int)) mapFz k3
   rw [k4] at hl
   refine ⟨_,d3.at.one sc_palloc,_,rfl,_,k2.at.fld sc_fz rfl,_,hl,cond_of (fun h=>⟨_,rfl,.yield l,#[],#[],rfl,rfl,rfl,?_⟩) (fun h=>.inl ⟨rfl,hfz i _ hin hJ (by simpa using h)⟩)⟩
   exact hst i _ _ hin hJ (by simpa using h) (fun W' hJ'=>⟨true,rfl,.inl ⟨rfl,hJ'⟩⟩) fun W' hE=>⟨false,rfl,.inr ⟨rfl,hE⟩⟩
  ·rintro z W' (⟨rfl,hJ'⟩ | ⟨rfl,hE⟩)
   ·refine ⟨_,rfl,ff rfl ?_⟩
    rw [wrap64 (x:=(i:Int)+1) (by omega) (by omega)]
    exact ⟨⟨i+1,_,_,_,rfl,by omega,hJ'⟩,by simp [nI,nth]; omega⟩
   ·exact ⟨_,rfl,tt rfl (hk W' (.inr hE))⟩
 ·have hb:=of_decide_eq_false hb
  have:i=n:=by omega
  rw [<- this]; exact hJ
def freeA (A:Az):Nat->Int×Int
 | 0=>(0,0)
 | i+1=>if A.fz (i:Int)=true then freeA A i else ((freeA A i).1+(hFree A.s.geo (A.hs.getD i hZ)).1,(freeA A i).2+(hFree A.s.geo (A.hs.getD i hZ)).2)
theorem freeA_b (A:Az):∀ i:Nat,0<=(freeA A i).1/\(freeA A i).1<=128*i/\0<=(freeA A i).2/\(freeA A i).2<=64*i
 | 0=>by simp [freeA]
 | i+1=>by
  have h:=freeA_b A i
  have hb:=hFree_b (g:=A.s.geo) (h:=A.hs.getD i hZ)
  unfold freeA
  split
  ·omega
  ·simp only; omega
theorem Mod.putObj (w:World) (k:Nat) (o:Obj):Mod (fun x=>x=k) w (w.putObj k o):=(Mod.refl (fun x=>x=k) w).put (.inr rfl) o
theorem putObj_at {w:World} {k:Nat} {o o':Obj} (h:w.heap[k]?=some o'):(w.putObj k o).heap[k]?=some o:=heap_put_same (lt_of_heap h)
theorem zero_int:zeroC Tryz.prog 3=some [.int .i64 0]:=by kernel_rfl
set_option maxRecDepth 4000 in
theorem aFree_c (h:Ao R w a v d A) (hk:∀ w' R',Mod R w w'->Sb R R' w->Ao R' w' a v d A->K (.tuple #[.int .i64 (freeA A A.s.geo.gs.toNat).1,.int .i64 (freeA A A.s.geo.gs.toNat).2]) w') :
  Cal Tryz.prog F_alloc_Alloc_Free #[.pointer (some ⟨a,0,none⟩)] w K:=by
 have hg:=h.ok
 obtain ⟨_,_,g3,g4,_⟩:=gOk_iff.1 hg
 obtain ⟨n,hn⟩:=Int.eq_ofNat_of_zero_le (show 0<=A.s.geo.gs by omega)
 rw [hn,Int.toNat_natCast] at hk
 apply C_alloc_Alloc_Free
 unfold D_alloc_Alloc_Free
 obtain ⟨w1,a1,a2,a3,a4⟩:=box_v (P:=Tryz.prog) (w:=w) (T:=73) (v:=.pointer (some ⟨a,0,none⟩)) rfl
 obtain ⟨w2,b1,b2,b3,b4⟩:=new_u (P:=Tryz.prog) (w:=w1) (T:=3) zero_int
 obtain ⟨w3,c1,c2,c3,c4⟩:=new_u (P:=Tryz.prog) (w:=w2) (T:=3) zero_int
 obtain ⟨w4,e1,e2,e3,e4⟩:=(b2.keep c3 id).put1 (P:=Tryz.prog) (T:=3) (v:=.int .i64 0) sc_int rfl
 have ne1:¬ w2.heap.size=w1.heap.size:=by have:=b2.lt; omega
 obtain ⟨w5,f1,f2,f3,f4⟩:=(c2.keep e3 ne1).put1 (P:=Tryz.prog) (T:=3) (v:=.int .i64 0) sc_int rfl
 have p4:=e2.keep f3 (fun e=>ne1 e.symm)
 have s12:=b2.lt
 have s23:=c2.lt
 have s1:=a2.lt
 have p1:AtU w5 w.heap.size 0 [.pointer (some ⟨a,0,none⟩)]:=(((a2.keep b3 id).keep c3 id).keep e3 (fun e=>by have e:w.heap.size=w1.heap.size:=e; omega)).keep f3 (fun e=>by have e:w.heap.size=w2.heap.size:=e; omega)
 have m3:Mod No w w3:=(a3.no b3).no c3
 have m5:Mod No w w5:=(m3.own e3 (by omega)).own f3 (by omega)
 have s5:w5.heap.size=w.heap.size+3:=by omega
 have h5:=h.nos m5
 refine ⟨_,w1,a1,_,w2,b1,_,w3,c1,w4,e1,w5,f1,_,p1.at.one sc_palloc,ff rfl ⟨_,p1.at.one sc_palloc,_,build_spot0,?_⟩⟩
 rw [show w1.heap.size=w.heap.size+1 by omega,show w2.heap.size=w.heap.size+2 by omega] at *
 refine ring_c (s:=0) (p:=0) (t:=false) fun w6 m6 s6 x3 x4 x5=>⟨_,rfl,?_⟩
 have h6:=h5.nos m6
 have M6:Mod No w w6:=m5.no m6
 have p16:=p1.keep m6 id
 have p46:=p4.keep m6 id
 have p56:=f2.keep m6 id
 rw [s5] at x3 x4 x5 |-
 intro r0 hs hp hy
 obtain ⟨hd0,hl0,mW,sW⟩:((w6.alloc (.deferred (some []))).alloc (.loop r0)).heap[w6.heap.size]?=some (.deferred (some []))/\((w6.alloc (.deferred (some []))).alloc (.loop r0)).heap[w6.heap.size+1]?=some (.loop r0)/\Mod No w6 ((w6.alloc (.deferred (some []))).alloc (.loop r0))/\((w6.alloc (.deferred (some []))).alloc (.loop r0)).heap.size=w6.heap.size+2:=by
  refine ⟨?_,?_,((Mod.refl No w6).alloc _).alloc _,by simp⟩
  ·rw [heap_old (by simp)]; exact heap_new _ _
  ·have:=heap_new (w6.alloc (.deferred (some []))) (.loop r0)
   rw [World.size_alloc] at this; exact this
 generalize (w6.alloc (.deferred (some []))).alloc (.loop r0)=W2 at *
 have hnR:∀ R',Sb R R' W2->∀ q,w.heap.size<=q->q<W2.heap.size->¬ R' q:=fun R' hs q h1 h2 e=>by
  rcases hs q e with e | e
  ·have:=h.lt q e; omega
  ·omega
 have hda:=h.dlt
 refine ring1_c (A:=A) (n:=n) (w:=W2) hn hg (by omega) (by omega) (fun i W=>∃ R',Ao R' W a v d A/\Sb R R' W2/\Mod R w W/\W2.heap.size<=W.heap.size/\AtU W w.heap.size 0 [.pointer (some ⟨a,0,none⟩)]/\AtU W (w.heap.size+1) 0 [.int .i64 (freeA A i).1]/\AtU W (w.heap.size+2) 0 [.int .i64 (freeA A i).2] /\
   (AtU W (w.heap.size+3) 0 [.pointer (some ⟨a,0,none⟩)]/\AtU W (w.heap.size+3+1) 0 (pV (0,0))/\AtU W (w.heap.size+3+2) 0 [.bool false])/\W.heap[w6.heap.size]?=some (.deferred (some []))/\W.heap[w6.heap.size+1]?=some (.loop r0)) (fun _=>False)
  ⟨R,h6.nos mW,Sb.refl _ _,(M6.no mW).mono (fun _ _ e=>e.elim),Nat.le_refl _,p16.keep mW id,p46.keep mW id,p56.keep mW id,⟨x3.keep mW id,x4.keep mW id,x5.keep mW id⟩,hd0,hl0⟩
  (fun i W ⟨R',j1,j2,j3,j4,j5,j6,j7,j8,j9,j10⟩=>⟨R',j1,j8.1,j8.2.1,j8.2.2⟩)
  (fun i W W' ⟨R',j1,j2,j3,j4,j5,j6,j7,j8,j9,j10⟩ m=>⟨R',j1.nos m,j2,j3.no m,Nat.le_trans j4 m.size,j5.keep m id,j6.keep m id,j7.keep m id,⟨j8.1.keep m id,j8.2.1.keep m id,j8.2.2.keep m id⟩,m.keep j9 id,m.keep j10 id⟩) ?_ ?_ ?_
 ·rintro i W hi ⟨R',j1,j2,j3,j4,j5,j6,j7,j8⟩ hf
  have e:ringK A.s.geo 0 i=i:=by
   unfold ringK
   rw [Int.zero_add,Int.emod_eq_of_lt (by omega) (by omega)]; omega
  rw [e] at hf
  have e1:freeA A (i+1)=freeA A i:=by rw [freeA,if_pos hf]
  rw [<- e1] at j6 j7
  exact ⟨R',j1,j2,j3,j4,j5,j6,j7,j8⟩
 ·rintro i W K' hi ⟨R',j1,j2,j3,j4,j5,j6,j7,⟨j8,j9,j10⟩,j11,j12⟩ hf hT _
  have e:ringK A.s.geo 0 i=i:=by
   unfold ringK
   rw [Int.zero_add,Int.emod_eq_of_lt (by omega) (by omega)]; omega
  rw [e] at hf |-
  have e1:freeA A (i+1)=((freeA A i).1+(hFree A.s.geo (A.hs.getD i hZ)).1,(freeA A i).2+(hFree A.s.geo (A.hs.getD i hZ)).2):=by rw [freeA,if_neg (by rw [hf]; decide)]
  refine hy [.int .i64 (i:Int),.int .i64 (ringF 0 false i)] W K' rfl j12 ?_
  refine ⟨_,rfl,j12,?_⟩
  have ml:=Mod.putObj W (w6.heap.size+1) (.loop { r0 with state:=.busy })
  have hlb:=putObj_at (o:=.loop { r0 with state:=.busy }) j12
  have nl:¬ R' (w6.heap.size+1):=hnR R' j2 _ (by omega) (by omega)
  have k1:=j1.own ml nl (by omega)
  have zl:=ml.size
  generalize W.putObj (w6.heap.size+1) (.loop { r0 with state:=.busy })=W3 at *
  have hi':(i:Int)<A.s.geo.gs:=by omega
  obtain ⟨x,hx1,hx2,hx3,hx4,hx5⟩:=k1.hdOf hi'
  rw [hx2] at e1
  have k5:AtU W3 w.heap.size 0 [.pointer (some ⟨a,0,none⟩)]:=j5.keep ml (fun e=>by have e:w.heap.size=w6.heap.size+1:=e; omega)
  refine ⟨_,k5.at.one sc_palloc,_,rfl,_,k1.pv,aHead_c k1 fun w9 R9 m9 s9 k9 _=>?_⟩
  rw [hx1]
  have z9:=m9.size
  obtain ⟨w10,y1,y2,y3,y4⟩:=new_u (P:=Tryz.prog) (w:=w9) (T:=171) zero_head
  obtain ⟨w11,u1,u2,u3,u4⟩:=y2.put (T:=171) (vs:=hV x) agg_head rfl (hV_len hx5) (one_hV _)
  have m11:Mod No w9 w11:=y3.own u3 (Nat.le_refl _)
  have m11d:=m11.drew
  have M11:Mod R' W3 (Go.Den.drew w11):=m9.no m11d
  have k11:=k9.nos m11d
  have k5':=k5.keep M11 (hnR R' j2 _ (by omega) (by omega))
  refine ⟨_,_,rfl,_,w10,y1,w11,u1,_,k5'.at.one sc_palloc,_,rfl,_,k11.pv,_,u2.drew.at.all agg_head (hV_len hx5),aGeo_c k11 fun w12 m12=>⟨_,rfl,(u2.drew.keep m12 id).at.all agg_head (hV_len hx5),hFree_c hx5 fun w13 m13=>⟨_,_,rfl,?_⟩⟩⟩
  have M13:Mod R' W3 (Go.Den.drew w13):=(M11.no (m12.no m13)).drew
  have k13:=k9.nos (m11d.no ((m12.no m13).drew))
  have z13:=M13.size
  have far:∀ q,w.heap.size<=q->q<W2.heap.size->¬ R' q:=fun q h1 h2=>hnR R' j2 q h1 h2
  have nel:∀ q,q<w6.heap.size+1->¬ (fun x=>x=w6.heap.size+1) q:=fun q hq e=>by have e:q=w6.heap.size+1:=e; omega
  have t6:=(j6.keep ml (nel _ (by omega))).keep M13 (far _ (by omega) (by omega))
  have t7:=(j7.keep ml (nel _ (by omega))).keep M13 (far _ (by omega) (by omega))
  obtain ⟨w14,v1,v2,v3,v4⟩:=t6.put1 (P:=Tryz.prog) (T:=3) (v:=.int .i64 (freeA A (i+1)).1) sc_int rfl
  have t7':=t7.keep v3 (fun e=>by have e:w.heap.size+2=w.heap.size+1:=e; omega)
  obtain ⟨w15,r1,r2,r3,r4⟩:=t7'.put1 (P:=Tryz.prog) (T:=3) (v:=.int .i64 (freeA A (i+1)).2) sc_int rfl
  have hfb:=freeA_b A i
  have hhb:=hFree_b (g:=A.s.geo) (h:=x)
  refine ⟨_,t6.at.one sc_int,_,t7.at.one sc_int,w14,?_,t7'.at.one sc_int,w15,?_,?_⟩
  ·rw [wrap64 (by omega) (by omega)]; rw [e1] at v1; exact v1
  ·rw [wrap64 (by omega) (by omega)]; rw [e1] at r1; exact r1
  have S9:Sb R R9 W2:=j2.trans s9 (by omega)
  have n1:¬ R9 (w.heap.size+1):=hnR R9 S9 _ (by omega) (by omega)
  have n2:¬ R9 (w.heap.size+2):=hnR R9 S9 _ (by omega) (by omega)
  have n3:¬ R9 (w6.heap.size+1):=hnR R9 S9 _ (by omega) (by omega)
  have k15:=(k13.own v3 n1 (by omega)).own r3 n2 (by omega)
  -- all other blocks
  have oth:∀ q,w.heap.size<=q->q<w6.heap.size+1->¬ q=w.heap.size+1->¬ q=w.heap.size+2->∀ {o},W.heap[q]?=some o->w15.heap[q]?=some o:=fun q h1 h2 h3 h4 o ho=>r3.keep (v3.keep (M13.keep (ml.keep ho (nel q h2)) (far q h1 (by omega))) h3) h4
  have othA:∀ q cs,w.heap.size<=q->q<w6.heap.size+1->¬ q=w.heap.size+1->¬ q=w.heap.size+2->AtU W q 0 cs->AtU w15 q 0 cs:=fun q cs h1 h2 h3 h4 ho=>(((ho.keep ml (nel q h2)).keep M13 (far q h1 (by omega))).keep v3 h3).keep r3 h4
  have hl15:w15.heap[w6.heap.size+1]?=some (.loop { r0 with state:=.busy }):=r3.keep (v3.keep (M13.keep hlb (far _ (by omega) (by omega))) (by show ¬ w6.heap.size+1=w.heap.size+1; omega)) (by show ¬ w6.heap.size+1=w.heap.size+2; omega)
  refine ⟨hl15,?_⟩
  have er:({ r0 with state:=LoopState.ready,pending:=none }:Loop)=r0:=by cases r0; simp only at hs hp; subst hs; subst hp; rfl
  show K' (.bool true) (w15.putObj (w6.heap.size+1) (.loop { r0 with state:=LoopState.ready,pending:=none }))
  rw [er]
  have mf:=Mod.putObj w15 (w6.heap.size+1) (.loop r0)
  have zf:=mf.size
  refine hT _ ⟨R9,k15.own mf n3 (by omega),S9,?_,by omega,(othA _ _ (by omega) (by omega) (by omega) (by omega) j5).keep mf (nel _ (by omega)),(v2.keep r3 (by show ¬ w.heap.size+1=w.heap.size+2; omega)).keep mf (nel _ (by omega)),r2.keep mf (nel _ (by omega)),⟨(othA _ _ (by omega) (by omega) (by omega) (by omega) j8).keep mf (nel _ (by omega)),(othA _ _ (by omega) (by omega) (by omega) (by omega) j9).keep mf (nel _ (by omega)),(othA _ _ (by omega) (by omega) (by omega) (by omega) j10).keep mf (nel _ (by omega))⟩,mf.keep (oth _ (by omega) (by omega) (by omega) (by omega) j11) (nel _ (by omega)),putObj_at hl15⟩
  have own:∀ {b c:World} {q:Nat},Mod R w b->Mod (fun x=>x=q) b c->w.heap.size<=q->Mod R w c:=fun hb hc hq=>hb.trans hc fun z hz e=>by have e:z=_:=e; omega
  have c1:Mod R w W3:=own j3 ml (by omega)
  have c2:Mod R w (Go.Den.drew w13):=c1.trans M13 fun z hz e=>(j2 z e).resolve_right (by omega)
  exact own (own (own c2 v3 (by omega)) r3 (by omega)) mf (by omega)
 ·rintro W (⟨R',j1,j2,j3,j4,j5,j6,j7,⟨j8,j9,j10⟩,j11,j12⟩ | e)
  ·refine ⟨.ready,none,?_,by simp,?_⟩
   ·have er:({ r0 with state:=LoopState.ready,pending:=none }:Loop)=r0:=by cases r0; simp only at hs hp; subst hs; subst hp; rfl
    rw [er]; exact j12
   ·have ml:=Mod.putObj W (w6.heap.size+1) (.loop { r0 with state:=.exhausted,pending:=none })
    have nl:¬ R' (w6.heap.size+1):=hnR R' j2 _ (by omega) (by omega)
    have nel:∀ q,q<w6.heap.size+1->¬ (fun x=>x=w6.heap.size+1) q:=fun q hq e=>by have e:q=w6.heap.size+1:=e; omega
    show ∃ n45:Int,_
    have k1:=j1.own ml nl (by omega)
    have k6:=j6.keep ml (nel _ (by omega))
    have k7:=j7.keep ml (nel _ (by omega))
    have k11:=ml.keep j11 (nel _ (by omega))
    have own:∀ {b c:World} {q:Nat},Mod R w b->Mod (fun x=>x=q) b c->w.heap.size<=q->Mod R w c:=fun hb hc hq=>hb.trans hc fun z hz e=>by have e:z=_:=e; omega
    have c1:=own j3 ml (by omega)
    have zl:=ml.size
    generalize W.putObj (w6.heap.size+1) (.loop { r0 with state:=.exhausted,pending:=none })=W3 at *
    refine ⟨_,k6.drew.at.one sc_int,_,k7.drew.at.one sc_int,k11,?_⟩
    have md:=Mod.putObj (Go.Den.drew W3) w6.heap.size (.deferred none)
    exact hk _ R' (own c1.drew md (by omega)) (j2.up (by omega)) ((k1.nos (Mod.refl _ _).drew).own md (hnR R' j2 _ (by omega) (by omega)) (by omega))
  ·exact e.elim
end
end Go.Proofs.YtandmpcjjaabmaaGreat
end
section
open Go Go.Den Go.Proofs
namespace Go.Proofs.YtandmpcjjaabmaaGreat
theorem takeTo_mono {g : Gm} {hs : List Hd} {fz : Int → Bool} {find : Hd → Int → Int} {s p : Int} {t : Bool} {i : Nat} {x : Nat × Int} (h : takeTo g hs fz find s p t i = some x) : ∀ {n : Nat}, i ≤ n → takeTo g hs fz find s p t n = some x
  | 0, hn => by have : i = 0 := by omega
                subst this; exact h
  | n + 1, hn => by
    by_cases e : i = n + 1
    · rw [← e]; exact h
    · have := takeTo_mono h (n := n) (by omega)
      show (match takeTo g hs fz find s p t n with | some x => some x | none => takeAt g hs fz find s p t n) = _
      rw [this]
def takeA (kd:Bool) (A:Az) (s p:Int) (t:Bool):Az×(Int×Int)×Int×Int :=
 match takeTo A.s.geo A.hs A.fz (findX kd A.s.geo) s p t A.s.geo.gs.toNat with
 | some x=>((turnA kd A x.1 x.2 true).1,((x.1:Int),x.2),(turnA kd A x.1 x.2 true).2.1,(turnA kd A x.1 x.2 true).2.2)
 | none=>(A,(0,0),0,26)
theorem zero_i64:zeroC Tryz.prog 2=some [.int .i64 0]:=by kernel_rfl
theorem zero_errno:zeroC Tryz.prog 24=some [.int .i64 0]:=by kernel_rfl
theorem sc_errno:scal Tryz.prog 24=true:=by kernel_rfl
section
variable {w w':World} {R R':Nat->Prop} {a v d:Nat} {A:Az} {K:Value->World->Prop}
set_option maxRecDepth 4000 in
theorem take_c {kd t:Bool} {s p:Int} (h:Ao R w a v d A) (hs:0<=s/\s<A.s.geo.gs) (hp:0<=p/\p<=100000) (hlast:A.V.last+1<=1000000)
  (hk:∀ w' R',Mod R w w'->Sb R R' w->Ao R' w' a v d (takeA kd A s p t).1->K (.tuple #[.agg ⟨pV (takeA kd A s p t).2.1⟩,.int .i64 (takeA kd A s p t).2.2.1,.int .i64 (takeA kd A s p t).2.2.2]) w') :
  Cal Tryz.prog F_alloc_Alloc_take #[.pointer (some ⟨a,0,none⟩),.agg ⟨pV (s,p)⟩,.bool t,.agg ⟨xV kd⟩] w K:=by
 have hg:=h.ok
 obtain ⟨_,_,g3,g4,_⟩:=gOk_iff.1 hg
 obtain ⟨n,hn⟩:=Int.eq_ofNat_of_zero_le (show 0<=A.s.geo.gs by omega)
 have hnn:A.s.geo.gs.toNat=n:=by omega
 obtain ⟨f0,hf0⟩:∃ f,(xV kd)[0]?=some f:=by cases kd <;> exact ⟨_,rfl⟩
 apply C_alloc_Alloc_take
 unfold D_alloc_Alloc_take
 obtain ⟨w1,a1,a2,a3,a4⟩:=box_v (P:=Tryz.prog) (w:=w) (T:=73) (v:=.pointer (some ⟨a,0,none⟩)) rfl
 obtain ⟨w2,b1,b2,b3,b4⟩:=box_u (P:=Tryz.prog) (w:=w1) (T:=195) (cs:=pV (s,p))
 obtain ⟨w3,c1,c2,c3,c4⟩:=box_u (P:=Tryz.prog) (w:=w2) (T:=271) (cs:=xV kd)
 obtain ⟨w4,d1,d2,d3,d4⟩:=new_u (P:=Tryz.prog) (w:=w3) (T:=195) zero_spot
 obtain ⟨w5,e1,e2,e3,e4⟩:=new_u (P:=Tryz.prog) (w:=w4) (T:=2) zero_i64
 obtain ⟨w6,f1,f2,f3,f4⟩:=new_u (P:=Tryz.prog) (w:=w5) (T:=24) zero_errno
 have z1:w1.heap.size=w.heap.size+1:=a4
 have z2:w2.heap.size=w.heap.size+2:=by omega
 have z3:w3.heap.size=w.heap.size+3:=by omega
 have z4:w4.heap.size=w.heap.size+4:=by omega
 have z5:w5.heap.size=w.heap.size+5:=by omega
 have z6:w6.heap.size=w.heap.size+6:=by omega
 have p1:AtU w6 w.heap.size 0 [.pointer (some ⟨a,0,none⟩)]:=((((a2.keep b3 id).keep c3 id).keep d3 id).keep e3 id).keep f3 id
 have p2:AtU w6 (w.heap.size+1) 0 (pV (s,p)):=z1 ▸ (((b2.keep c3 id).keep d3 id).keep e3 id).keep f3 id
 have p3:AtU w6 (w.heap.size+2) 0 (xV kd):=z2 ▸ ((c2.keep d3 id).keep e3 id).keep f3 id
 have p4:AtU w6 (w.heap.size+3) 0 (pV (0,0)):=z3 ▸ (d2.keep e3 id).keep f3 id
 have p5:AtU w6 (w.heap.size+4) 0 [.int .i64 0]:=z4 ▸ e2.keep f3 id
 have p6:AtU w6 (w.heap.size+5) 0 [.int .i64 0]:=z5 ▸ f2
 have m6:Mod No w w6:=((((a3.no b3).no c3).no d3).no e3).no f3
 have h6:=h.nos m6
 rw [z1] at b1
 rw [z2] at c1
 rw [z3] at d1
 rw [z4] at e1
 rw [z5] at f1
 refine ⟨_,w1,a1,_,w2,b1,_,w3,c1,_,w4,d1,_,w5,e1,_,w6,f1,_,p1.at.one sc_palloc,_,p2.at.all agg_spot rfl,?_⟩
 refine ring_c (s:=s) (p:=p) (t:=t) fun w7 m7 s7 x3 x4 x5=>⟨_,rfl,?_⟩
 have M7:Mod No w w7:=m6.no m7
 have h7:=h.nos M7
 have p1:=p1.keep m7 id
 have p3:=p3.keep m7 id
 have p4:=p4.keep m7 id
 have p5:=p5.keep m7 id
 have p6:=p6.keep m7 id
 rw [z6] at x3 x4 x5 s7 |-
 clear p2 a1 b1 c1 d1 e1 f1 a2 b2 c2 d2 e2 f2 a3 b3 c3 d3 e3 f3 a4 b4 c4 d4 e4 f4 m6 h6
 intro r0 hs0 hp0 hy
 obtain ⟨hd0,hl0,mW,sW⟩:((w7.alloc (.deferred (some []))).alloc (.loop r0)).heap[w7.heap.size]?=some (.deferred (some []))/\((w7.alloc (.deferred (some []))).alloc (.loop r0)).heap[w7.heap.size+1]?=some (.loop r0)/\Mod No w7 ((w7.alloc (.deferred (some []))).alloc (.loop r0))/\((w7.alloc (.deferred (some []))).alloc (.loop r0)).heap.size=w7.heap.size+2:=by
  refine ⟨?_,?_,((Mod.refl No w7).alloc _).alloc _,by simp⟩
  ·rw [heap_old (by simp)]; exact heap_new _ _
  ·have:=heap_new (w7.alloc (.deferred (some []))) (.loop r0)
   rw [World.size_alloc] at this; exact this
 generalize (w7.alloc (.deferred (some []))).alloc (.loop r0)=W2 at *
 have hnR:∀ R',Sb R R' W2->∀ q,w.heap.size<=q->q<W2.heap.size->¬ R' q:=fun R' hs q h1 h2 e=>by
  rcases hs q e with e | e
  ·have:=h.lt q e; omega
  ·omega
 have hda:=h.dlt
 have own:∀ {b c:World} {q:Nat},Mod R w b->Mod (fun x=>x=q) b c->w.heap.size<=q->Mod R w c:=fun hb hc hq=>hb.trans hc fun z hz e=>by have e:z=_:=e; omega
 have er:({ r0 with state:=LoopState.ready,pending:=none }:Loop)=r0:=by cases r0; simp only at hs0 hp0; subst hs0; subst hp0; rfl
 have nel:∀ q,q<w7.heap.size+1->¬ (fun x=>x=w7.heap.size+1) q:=fun q hq e=>by have e:q=w7.heap.size+1:=e; omega
 refine ring1_c (A:=A) (n:=n) (w:=W2) hn hg hs hp (fun i W=>takeTo A.s.geo A.hs A.fz (findX kd A.s.geo) s p t i=none/\∃ R',Ao R' W a v d A/\Sb R R' W2/\Mod R w W/\W2.heap.size<=W.heap.size/\(AtU W w.heap.size 0 [.pointer (some ⟨a,0,none⟩)]/\AtU W (w.heap.size+2) 0 (xV kd)/\AtU W (w.heap.size+3) 0 (pV (0,0))/\AtU W (w.heap.size+4) 0 [.int .i64 0]/\AtU W (w.heap.size+5) 0 [.int .i64 0]) /\
   (AtU W (w.heap.size+6) 0 [.pointer (some ⟨a,0,none⟩)]/\AtU W (w.heap.size+6+1) 0 (pV (s,p))/\AtU W (w.heap.size+6+2) 0 [.bool t])/\W.heap[w7.heap.size]?=some (.deferred (some []))/\W.heap[w7.heap.size+1]?=some (.loop r0))
  (fun W=>∃ k j,takeTo A.s.geo A.hs A.fz (findX kd A.s.geo) s p t n=some (k,j)/\∃ R',Ao R' W a v d (turnA kd A k j true).1/\Sb R R' W2/\Mod R w W/\W2.heap.size<=W.heap.size/\AtU W (w.heap.size+3) 0 (pV (k,j))/\AtU W (w.heap.size+4) 0 [.int .i64 (turnA kd A k j true).2.1]/\AtU W (w.heap.size+5) 0 [.int .i64 (turnA kd A k j true).2.2]/\W.heap[w7.heap.size]?=some (.deferred (some []))/\W.heap[w7.heap.size+1]?=some (.loop { r0 with state:=.done,pending:=some .ret }))
  ⟨rfl,R,h7.nos mW,Sb.refl _ _,(M7.no mW).mono (fun _ _ e=>e.elim),Nat.le_refl _,⟨p1.keep mW id,p3.keep mW id,p4.keep mW id,p5.keep mW id,p6.keep mW id⟩,⟨x3.keep mW id,x4.keep mW id,x5.keep mW id⟩,hd0,hl0⟩
  (fun i W ⟨_,R',j1,j2,j3,j4,j5,j8,j9,j10⟩=>⟨R',j1,j8.1,j8.2.1,j8.2.2⟩)
  (fun i W W' ⟨j0,R',j1,j2,j3,j4,⟨k1,k2,k3,k4,k5⟩,j8,j9,j10⟩ m=>⟨j0,R',j1.nos m,j2,j3.no m,Nat.le_trans j4 m.size,⟨k1.keep m id,k2.keep m id,k3.keep m id,k4.keep m id,k5.keep m id⟩,⟨j8.1.keep m id,j8.2.1.keep m id,j8.2.2.keep m id⟩,m.keep j9 id,m.keep j10 id⟩) ?_ ?_ ?_
 ·rintro i W hi ⟨j0,jr⟩ hf
  refine ⟨?_,jr⟩
  show (match takeTo A.s.geo A.hs A.fz (findX kd A.s.geo) s p t i with | some x=>some x | none=>takeAt A.s.geo A.hs A.fz (findX kd A.s.geo) s p t i)=none
  rw [j0]
  show takeAt A.s.geo A.hs A.fz (findX kd A.s.geo) s p t i=none
  unfold takeAt; rw [if_pos hf]
 ·rintro i W K' hi ⟨j0,R',j1,j2,j3,j4,⟨k1,k2,k3,k4,k5⟩,⟨j8,j9,j10⟩,j11,j12⟩ hf hT hF
  have hkl:=ringK_lt hg s i
  obtain ⟨x,hx1,hx2,hx3,hx4,hx5⟩:=j1.hdOf hkl
  have hxs:A.hs[ringK A.s.geo s i]?=some x:=by
   obtain ⟨y,hy1,_⟩:=j1.hd.get (k:=(ringK A.s.geo s i:Int)) (by omega) hkl
   have hy1:A.hs[ringK A.s.geo s i]?=some y:=hy1
   rw [List.getD_eq_getElem?_getD,hy1] at hx2
   rw [hy1]; exact congrArg some hx2
  have hto:takeTo A.s.geo A.hs A.fz (findX kd A.s.geo) s p t (i+1)=if 0<=findX kd A.s.geo x (ringF p t i) then some (ringK A.s.geo s i,findX kd A.s.geo x (ringF p t i)) else none:=by
   show (match takeTo A.s.geo A.hs A.fz (findX kd A.s.geo) s p t i with | some x=>some x | none=>takeAt A.s.geo A.hs A.fz (findX kd A.s.geo) s p t i)=_
   rw [j0]
   show takeAt A.s.geo A.hs A.fz (findX kd A.s.geo) s p t i=_
   unfold takeAt; rw [if_neg (by rw [hf]; decide),hxs]
  generalize ringF p t i=fr at *
  generalize ringK A.s.geo s i=k at *
  refine hy [.int .i64 (k:Int),.int .i64 fr] W K' rfl j12 ?_
  refine ⟨_,rfl,_,rfl,j12,?_⟩
  have ml:=Mod.putObj W (w7.heap.size+1) (.loop { r0 with state:=.busy })
  have hlb:=putObj_at (o:=.loop { r0 with state:=.busy }) j12
  have far:∀ R',Sb R R' W2->∀ q,w.heap.size<=q->q<W2.heap.size->¬ R' q:=hnR
  have nl:¬ R' (w7.heap.size+1):=hnR R' j2 _ (by omega) (by omega)
  have t1:=j1.own ml nl (by omega)
  have zl:=ml.size
  have c1:Mod R w _:=own j3 ml (by omega)
  have y1:=k1.keep ml (nel _ (by omega))
  have y2:=k2.keep ml (nel _ (by omega))
  have y3:=k3.keep ml (nel _ (by omega))
  have y4:=k4.keep ml (nel _ (by omega))
  have y5:=k5.keep ml (nel _ (by omega))
  have y8:=j8.keep ml (nel _ (by omega))
  have y9:=j9.keep ml (nel _ (by omega))
  have y10:=j10.keep ml (nel _ (by omega))
  have y11:=ml.keep j11 (nel _ (by omega))
  generalize W.putObj (w7.heap.size+1) (.loop { r0 with state:=.busy })=W3 at *
  refine ⟨_,y1.at.one sc_palloc,_,rfl,_,t1.pv,aHead_c t1 fun w9 R9 m9 s9 k9 _=>?_⟩
  rw [hx1]
  have z9:=m9.size
  have S9:Sb R R9 W2:=j2.trans s9 (by omega)
  obtain ⟨w10,b1,b2,b3,b4⟩:=new_u (P:=Tryz.prog) (w:=w9) (T:=171) zero_head
  obtain ⟨w11,u1,u2,u3,u4⟩:=b2.put (T:=171) (vs:=hV x) agg_head rfl (hV_len hx5) (one_hV _)
  have m11:Mod No w9 (Go.Den.drew w11):=(b3.own u3 (Nat.le_refl _)).drew
  have M11:Mod R' W3 (Go.Den.drew w11):=m9.no m11
  have k11:=k9.nos m11
  have f1:=y1.keep M11 (hnR R' j2 _ (by omega) (by omega))
  have f2:=y2.keep M11 (hnR R' j2 _ (by omega) (by omega))
  refine ⟨_,_,rfl,_,w10,b1,w11,u1,ff rfl ⟨f0,f2.at.fld sc_find hf0,_,f1.at.one sc_palloc,_,rfl,_,k11.pv,_,u2.drew.at.all agg_head (hV_len hx5),aGeo_c k11 fun w16 m16=>⟨_,rfl,(f2.keep m16 id).at.fld sc_find hf0,(u2.drew.keep m16 id).at.all agg_head (hV_len hx5),findX_c hx5 (fun w17 m17=>⟨_,rfl,?_⟩) hf0⟩⟩⟩
  have M17:Mod R' W3 w17:=(M11.no m16).no m17
  have k17:=(k11.nos m16).nos m17
  have z17:=M17.size
  have C17:Mod R w w17:=c1.trans M17 fun z hz e=>(j2 z e).resolve_right (by omega)
  have g1:=y1.keep M17 (hnR R' j2 _ (by omega) (by omega))
  have g2:=y2.keep M17 (hnR R' j2 _ (by omega) (by omega))
  have g3:=y3.keep M17 (hnR R' j2 _ (by omega) (by omega))
  have g4:=y4.keep M17 (hnR R' j2 _ (by omega) (by omega))
  have g5:=y5.keep M17 (hnR R' j2 _ (by omega) (by omega))
  have g8:=y8.keep M17 (hnR R' j2 _ (by omega) (by omega))
  have g9:=y9.keep M17 (hnR R' j2 _ (by omega) (by omega))
  have g10:=y10.keep M17 (hnR R' j2 _ (by omega) (by omega))
  have g11:=M17.keep y11 (hnR R' j2 _ (by omega) (by omega))
  have gl:=M17.keep hlb (hnR R' j2 _ (by omega) (by omega))
  refine cond_of (fun hb=>?_) (fun hb=>?_)
  ·have hb:=of_decide_eq_true hb
   rw [if_pos (by omega)] at hto
   have hto:=takeTo_mono hto (n:=n) (by omega)
   refine ⟨_,g1.at.one sc_palloc,_,build_spot _ _,_,g2.at.all agg_heads (len_xV kd),?_⟩
   refine turn_c k17 hkl hlast fun w18 R18 m18 s18 k18=>⟨_,_,rfl,_,build_spot _ _,?_⟩
   have z18:=m18.size
   have S18:Sb R R18 W2:=S9.trans s18 (by omega)
   have C18:Mod R w w18:=C17.trans m18 fun z hz e=>(S9 z e).resolve_right (by omega)
   have l3:=g3.keep m18 (hnR R9 S9 _ (by omega) (by omega))
   have l4:=g4.keep m18 (hnR R9 S9 _ (by omega) (by omega))
   have l5:=g5.keep m18 (hnR R9 S9 _ (by omega) (by omega))
   have l11:=m18.keep g11 (hnR R9 S9 _ (by omega) (by omega))
   have ll:=m18.keep gl (hnR R9 S9 _ (by omega) (by omega))
   obtain ⟨w19,v1,v2,v3,v4⟩:=l3.put (T:=195) (vs:=pV ((k:Int),findX kd A.s.geo x fr)) agg_spot rfl rfl (one_pV _)
   obtain ⟨w20,r1,r2,r3,r4⟩:=(l4.keep v3 (by show ¬ w.heap.size+4=w.heap.size+3; omega)).put1 (P:=Tryz.prog) (T:=2) (v:=.int .i64 (turnA kd A k (findX kd A.s.geo x fr) true).2.1) sc_i64 rfl
   obtain ⟨w21,o1,o2,o3,o4⟩:=((l5.keep v3 (by show ¬ w.heap.size+5=w.heap.size+3; omega)).keep r3 (by show ¬ w.heap.size+5=w.heap.size+4; omega)).put1 (P:=Tryz.prog) (T:=24) (v:=.int .i64 (turnA kd A k (findX kd A.s.geo x fr) true).2.2) sc_errno rfl
   refine ⟨w19,v1,w20,r1,w21,o1,?_,?_⟩
   ·exact o3.keep (r3.keep (v3.keep ll (by show ¬ w7.heap.size+1=w.heap.size+3; omega)) (by show ¬ w7.heap.size+1=w.heap.size+4; omega)) (by show ¬ w7.heap.size+1=w.heap.size+5; omega)
   show K' (.bool false) (w21.putObj (w7.heap.size+1) (.loop { r0 with state:=.done,pending:=some .ret }))
   have hl21:=o3.keep (r3.keep (v3.keep ll (by show ¬ w7.heap.size+1=w.heap.size+3; omega)) (by show ¬ w7.heap.size+1=w.heap.size+4; omega)) (by show ¬ w7.heap.size+1=w.heap.size+5; omega)
   have mf:=Mod.putObj w21 (w7.heap.size+1) (.loop { r0 with state:=.done,pending:=some .ret })
   have zf:=mf.size
   have nR:=fun q h1 h2=>hnR R18 S18 q h1 h2
   refine hF _ ⟨k,_,hto,R18,(((k18.own v3 (nR _ (by omega) (by omega)) (by omega)).own r3 (nR _ (by omega) (by omega)) (by omega)).own o3 (nR _ (by omega) (by omega)) (by omega)).own mf (nR _ (by omega) (by omega)) (by omega),S18,own (own (own (own C18 v3 (by omega)) r3 (by omega)) o3 (by omega)) mf (by omega),by omega,?_,?_,?_,?_,putObj_at hl21⟩
   ·exact ((v2.keep r3 (by show ¬ w.heap.size+3=w.heap.size+4; omega)).keep o3 (by show ¬ w.heap.size+3=w.heap.size+5; omega)).keep mf (nel _ (by omega))
   ·exact (r2.keep o3 (by show ¬ w.heap.size+4=w.heap.size+5; omega)).keep mf (nel _ (by omega))
   ·exact o2.keep mf (nel _ (by omega))
   ·exact mf.keep (o3.keep (r3.keep (v3.keep l11 (by show ¬ w7.heap.size=w.heap.size+3; omega)) (by show ¬ w7.heap.size=w.heap.size+4; omega)) (by show ¬ w7.heap.size=w.heap.size+5; omega)) (nel _ (by omega))
  ·have hb:=of_decide_eq_false hb
   rw [if_neg (by omega)] at hto
   refine ⟨gl,?_⟩
   show K' (.bool true) (w17.putObj (w7.heap.size+1) (.loop { r0 with state:=LoopState.ready,pending:=none }))
   rw [er]
   have mf:=Mod.putObj w17 (w7.heap.size+1) (.loop r0)
   have zf:=mf.size
   refine hT _ ⟨hto,R9,k17.own mf (hnR R9 S9 _ (by omega) (by omega)) (by omega),S9,own C17 mf (by omega),by omega,⟨g1.keep mf (nel _ (by omega)),g2.keep mf (nel _ (by omega)),g3.keep mf (nel _ (by omega)),g4.keep mf (nel _ (by omega)),g5.keep mf (nel _ (by omega))⟩,⟨g8.keep mf (nel _ (by omega)),g9.keep mf (nel _ (by omega)),g10.keep mf (nel _ (by omega))⟩,mf.keep g11 (nel _ (by omega)),putObj_at gl⟩
 ·have tk:=hk
  unfold takeA at tk
  rw [hnn] at tk
  rintro W (⟨j0,R',j1,j2,j3,j4,⟨k1,k2,k3,k4,k5⟩,_,j11,j12⟩ | ⟨k,j,j0,R',j1,j2,j3,j4,k3,k4,k5,j11,j12⟩)
  ·refine ⟨.ready,none,by rw [er]; exact j12,by simp,?_⟩
   have ml:=Mod.putObj W (w7.heap.size+1) (.loop { r0 with state:=.exhausted,pending:=none })
   have t1:=j1.own ml (hnR R' j2 _ (by omega) (by omega)) (by omega)
   have c1:=own j3 ml (by omega)
   have zl:=ml.size
   have y3:=k3.keep ml (nel _ (by omega))
   have y4:=k4.keep ml (nel _ (by omega))
   have y5:=k5.keep ml (nel _ (by omega))
   have y11:=ml.keep j11 (nel _ (by omega))
   show ∃ g63:Array Value,_
   generalize W.putObj (w7.heap.size+1) (.loop { r0 with state:=.exhausted,pending:=none })=W3 at *
   obtain ⟨w19,v1,v2,v3,v4⟩:=y3.put (T:=195) (vs:=pV (0,0)) agg_spot rfl rfl (one_pV _)
   obtain ⟨w20,r1,r2,r3,r4⟩:=(y4.keep v3 (by show ¬ w.heap.size+4=w.heap.size+3; omega)).put1 (P:=Tryz.prog) (T:=2) (v:=.int .i64 0) sc_i64 rfl
   obtain ⟨w21,o1,o2,o3,o4⟩:=((y5.keep v3 (by show ¬ w.heap.size+5=w.heap.size+3; omega)).keep r3 (by show ¬ w.heap.size+5=w.heap.size+4; omega)).put1 (P:=Tryz.prog) (T:=24) (v:=.int .i64 26) sc_errno rfl
   have mf:=Mod.putObj w21 w7.heap.size (.deferred none)
   have nd:∀ q,q<w7.heap.size->¬ (fun x=>x=w7.heap.size) q:=fun q hq e=>by have e:q=w7.heap.size:=e; omega
   refine ⟨_,build_spot0,w19,v1,w20,r1,w21,o1,?_,_,(((v2.keep r3 ?_).keep o3 ?_).keep mf (nd _ (by omega))).at.all agg_spot rfl,_,((r2.keep o3 ?_).keep mf (nd _ (by omega))).at.one sc_i64,_,(o2.keep mf (nd _ (by omega))).at.one sc_errno,?_⟩
   ·exact o3.keep (r3.keep (v3.keep y11 (by show ¬ w7.heap.size=w.heap.size+3; omega)) (by show ¬ w7.heap.size=w.heap.size+4; omega)) (by show ¬ w7.heap.size=w.heap.size+5; omega)
   ·show ¬ w.heap.size+3=w.heap.size+4; omega
   ·show ¬ w.heap.size+3=w.heap.size+5; omega
   ·show ¬ w.heap.size+4=w.heap.size+5; omega
   rw [j0] at tk
   have nR:=fun q h1 h2=>hnR R' j2 q h1 h2
   exact tk _ R' (own (own (own (own c1 v3 (by omega)) r3 (by omega)) o3 (by omega)) mf (by omega)) (j2.up (by omega)) ((((t1.own v3 (nR _ (by omega) (by omega)) (by omega)).own r3 (nR _ (by omega) (by omega)) (by omega)).own o3 (nR _ (by omega) (by omega)) (by omega)).own mf (nR _ (by omega) (by omega)) (by omega))
  ·refine ⟨.done,some .ret,j12,by simp,?_⟩
   have ml:=Mod.putObj W (w7.heap.size+1) (.loop { r0 with state:=.exhausted,pending:=some .ret })
   have t1:=j1.own ml (hnR R' j2 _ (by omega) (by omega)) (by omega)
   have c1:=own j3 ml (by omega)
   have zl:=ml.size
   have y3:=k3.keep ml (nel _ (by omega))
   have y4:=k4.keep ml (nel _ (by omega))
   have y5:=k5.keep ml (nel _ (by omega))
   have y11:=ml.keep j11 (nel _ (by omega))
   show (World.heap _)[_]?=_/\_
   generalize W.putObj (w7.heap.size+1) (.loop { r0 with state:=.exhausted,pending:=some .ret })=W3 at *
   have mf:=Mod.putObj W3 w7.heap.size (.deferred none)
   have nd:∀ q,q<w7.heap.size->¬ (fun x=>x=w7.heap.size) q:=fun q hq e=>by have e:q=w7.heap.size:=e; omega
   refine ⟨y11,_,(y3.keep mf (nd _ (by omega))).at.all agg_spot rfl,_,(y4.keep mf (nd _ (by omega))).at.one sc_i64,_,(y5.keep mf (nd _ (by omega))).at.one sc_errno,?_⟩
   rw [j0] at tk
   exact tk _ R' (own c1 mf (by omega)) (j2.up (by omega)) (t1.own mf (hnR R' j2 _ (by omega) (by omega)) (by omega))
end
end Go.Proofs.YtandmpcjjaabmaaGreat
end
section
open Go Go.Den Go.Proofs
namespace Go.Proofs.YtandmpcjjaabmaaGreat
theorem spB_in {g:Gm} (hg:gOk g=true) (b:Int):0<=(spB g b).1/\(spB g b).1<g.gs/\0<=(spB g b).2.1/\(spB g b).2.1<128:=by
 obtain ⟨_,g2,g3,_⟩:=gOk_iff.1 hg
 unfold spB
 by_cases h:(gKind g b).1=4
 ·rw [if_neg (by omega)]
  obtain ⟨_,_,_,h3,h4,h5,h6⟩:=gKind_4 h
  have ht:=gTabs_b (g:=g)
  have e:(gHead g (gKind g b).2).1=2+(gKind g b).2*g.gr:=by unfold gHead; rw [if_pos hg,if_pos ⟨h3,h4⟩]
  refine ⟨h3,h4,?_,?_⟩ <;> (simp only; rw [e]; omega)
 ·rw [if_pos h]; exact ⟨Int.le_refl _,by show (0:Int)<_; omega,Int.le_refl _,by decide⟩
theorem spS_in {g:Gm} (hg:gOk g=true) (n:Int):0<=(spS g n).1/\(spS g n).1<g.gs/\0<=(spS g n).2.1/\(spS g n).2.1<128:=by
 obtain ⟨_,_,g3,_,g5,g6,_⟩:=gOk_iff.1 hg
 unfold spS
 by_cases h:gOf g n<0
 ·rw [if_pos h]; exact ⟨Int.le_refl _,by show (0:Int)<_; omega,Int.le_refl _,by decide⟩
 ·rw [if_neg h]
  obtain ⟨_,h0,h1,e⟩:=gOf_in (g:=g) (n:=n) (by omega)
  have hi:=slot_in hg h0 h1
  rw [e]
  exact ⟨hi.1,hi.2.1,hi.2.2.1,by show n % g.no<128; omega⟩
section
variable {w w':World} {R R':Nat->Prop} {a v d:Nat} {A:Az} {K:Value->World->Prop}
theorem Ao.hds (h:Ao R w a v d A) {k:Nat} {x:Hd} (hx:A.hs[k]?=some x):(k:Int)<A.s.geo.gs/\A.hs.getD k hZ=x/\hOk A.s.geo x=true/\x.no=k/\hWf x:=by
 obtain ⟨_,h2,h3,h4⟩:=h.hd.2.2.2 k x hx
 exact ⟨h.hd.lt hx,by rw [List.getD_eq_getElem?_getD,hx]; rfl,h2,h3,h4⟩
theorem findX_use {kd:Bool} {g:Gm} {h:Hd} {f:Int} (hw:hWf h) (e:0<=findX kd g h f):(useX kd g h (findX kd g h f) true).2=0/\findX kd g h f<128:=by
 cases kd with
 | true =>
  obtain ⟨h1,h2⟩:=findBk_use (g:=g) hw e
  refine ⟨h1,?_⟩
  have e:0<=findBk g h f:=e
  show findBk g h f<128
  by_cases ho:hOk g h=true
  ·obtain ⟨g1,_⟩:=hOk_iff.1 ho
   obtain ⟨_,g2,_⟩:=gOk_iff.1 g1
   omega
  ·unfold findBk at e; rw [if_neg ho] at e; omega
 | false =>
  obtain ⟨h1,h2⟩:=findSl_use (g:=g) hw e
  refine ⟨h1,?_⟩
  have e:0<=findSl g h f:=e
  show findSl g h f<128
  by_cases ho:hOk g h=true
  ·obtain ⟨g1,_⟩:=hOk_iff.1 ho
   obtain ⟨_,_,_,_,_,g2,_⟩:=gOk_iff.1 g1
   omega
  ·unfold findSl at e; rw [if_neg ho] at e; omega
theorem take_in (h:Ao R w a v d A) {kd t:Bool} {s p:Int} {k:Nat} {j:Int}:∀ {n:Nat},takeTo A.s.geo A.hs A.fz (findX kd A.s.geo) s p t n=some (k,j)->(k:Int)<A.s.geo.gs/\0<=j/\j<128/\A.fz k=false/\(useX kd A.s.geo (A.hs.getD k hZ) j true).2=0
 | 0,e=>by cases e
 | n+1,e=>by
  have e:(match takeTo A.s.geo A.hs A.fz (findX kd A.s.geo) s p t n with | some x=>some x | none=>takeAt A.s.geo A.hs A.fz (findX kd A.s.geo) s p t n)=some (k,j):=e
  cases ht:takeTo A.s.geo A.hs A.fz (findX kd A.s.geo) s p t n with
  | some x =>
   rw [ht] at e
   have e:x=(k,j):=by simpa using e
   rw [e] at ht
   exact take_in h ht
  | none =>
   rw [ht] at e
   have e:takeAt A.s.geo A.hs A.fz (findX kd A.s.geo) s p t n=some (k,j):=e
   unfold takeAt at e
   by_cases hf:A.fz (ringK A.s.geo s n)=true
   ·rw [if_pos hf] at e; cases e
   ·rw [if_neg hf] at e
    cases hx:A.hs[ringK A.s.geo s n]? with
    | none=>rw [hx] at e; cases e
    | some x =>
     rw [hx] at e
     simp only at e
     obtain ⟨h1,h2,h3,h4,h5⟩:=h.hds hx
     by_cases h0:0<=findX kd A.s.geo x (ringF p t n)
     ·rw [if_pos h0] at e
      cases e
      obtain ⟨u1,u2⟩:=findX_use h5 h0
      exact ⟨h1,h0,u2,by simpa using hf,by rw [h2]; exact u1⟩
     ·rw [if_neg h0] at e; cases e
def blockA (A:Az) (b:Int):Az×Int×Int×Int :=
 match takeTo A.s.geo A.hs A.fz (findX true A.s.geo) (spB A.s.geo b).1 (spB A.s.geo b).2.1 (spB A.s.geo b).2.2 A.s.geo.gs.toNat with
 | some x=>(sethA A x.1 (useX true A.s.geo (A.hs.getD x.1 hZ) x.2 true).1,2+x.1*A.s.geo.gr+x.2,(A.V.last:Int)+1,0)
 | none=>(A,0,0,26)
def slotA (A:Az) (n:Int):Az×Int×Int×Int :=
 match takeTo A.s.geo A.hs A.fz (findX false A.s.geo) (spS A.s.geo n).1 (spS A.s.geo n).2.1 (spS A.s.geo n).2.2 A.s.geo.gs.toNat with
 | some x=>(sethA A x.1 (useX false A.s.geo (A.hs.getD x.1 hZ) x.2 true).1,x.1*A.s.geo.no+x.2,(A.V.last:Int)+1,0)
 | none=>(A,0,0,26)
theorem takeA_eq (h:Ao R w a v d A) (kd t:Bool) (s p:Int):takeA kd A s p t=match takeTo A.s.geo A.hs A.fz (findX kd A.s.geo) s p t A.s.geo.gs.toNat with
 | some x=>(sethA A x.1 (useX kd A.s.geo (A.hs.getD x.1 hZ) x.2 true).1,((x.1:Int),x.2),(A.V.last:Int)+1,0)
 | none=>(A,(0,0),0,26):=by
 unfold takeA
 cases ht:takeTo A.s.geo A.hs A.fz (findX kd A.s.geo) s p t A.s.geo.gs.toNat with
 | none=>rfl
 | some x =>
  obtain ⟨_,_,_,_,e⟩:=take_in h (k:=x.1) (j:=x.2) ht
  simp only
  unfold turnA
  rw [if_neg (by rw [e]; exact fun e=>e rfl)]
theorem aBlock_c {b:Int} (h63:b<=9223372036854775807) (h:Ao R w a v d A) (hlast:A.V.last+1<=1000000)
  (hk:∀ w' R',Mod R w w'->Sb R R' w->Ao R' w' a v d (blockA A b).1->K (.tuple #[.int .i64 (blockA A b).2.1,.int .i64 (blockA A b).2.2.1,.int .i64 (blockA A b).2.2.2]) w') :
  Cal Tryz.prog F_alloc_Alloc_Block #[.pointer (some ⟨a,0,none⟩),.int .i64 b] w K:=by
 apply C_alloc_Alloc_Block
 unfold D_alloc_Alloc_Block
 have hg:=h.ok
 obtain ⟨s1,s2,s3,s4⟩:=spB_in hg b
 have hda:=h.dlt
 refine ff rfl (aBlk_c h63 h fun w1 m1=>⟨_,_,rfl,?_⟩)
 obtain ⟨w2,b1,b2,b3,b4⟩:=new_u (P:=Tryz.prog) (w:=w1) (T:=195) zero_spot
 obtain ⟨w3,c1,c2,c3,c4⟩:=b2.put (T:=195) (vs:=pV ((spB A.s.geo b).1,(spB A.s.geo b).2.1)) agg_spot rfl rfl (one_pV _)
 have z1:=m1.size
 have M3:Mod No w (Go.Den.drew w3):=(m1.no (b3.own c3 (Nat.le_refl _))).drew
 refine ⟨_,w2,b1,w3,c1,_,c2.drew.at.all agg_spot rfl,aBlocks_c fun w4 m4=>⟨_,rfl,(c2.drew.keep m4 id).at.all agg_spot rfl,?_⟩⟩
 have M4:=M3.no m4
 have q4:=c2.drew.keep m4 id
 have zq:=c2.drew.lt
 have z4:=m4.size
 have hq:w1.heap.size<w4.heap.size:=q4.lt
 refine take_c (h.nos M4) ⟨s1,s2⟩ ⟨s3,by omega⟩ hlast fun w5 R5 m5 s5 h5=>⟨_,_,_,rfl,?_⟩
 have nR:¬ R w1.heap.size:=fun e=>by have:=h.lt _ e; omega
 have nR5:¬ R5 w1.heap.size:=fun e=>by
  rcases s5 _ e with e | e
  ·exact nR e
  ·omega
 have M5:Mod R w w5:=(M4.mono fun _ _ e=>e.elim).trans m5 fun x _ e=>e
 have S5:Sb R R5 w:=s5.up (M4.size)
 have hT:=takeA_eq h true (spB A.s.geo b).2.2 (spB A.s.geo b).1 (spB A.s.geo b).2.1
 have z5:=m5.size
 obtain ⟨w6,e1,e2,e3,e4⟩:=(q4.keep m5 nR).put (T:=195) (vs:=pV (takeA true A (spB A.s.geo b).1 (spB A.s.geo b).2.1 (spB A.s.geo b).2.2).2.1) agg_spot rfl rfl (one_pV _)
 have h6:=h5.own e3 nR5 (by omega)
 have M6:Mod R w w6:=M5.trans e3 fun z hz e=>by have e:z=w1.heap.size:=e; omega
 refine ⟨w6,e1,?_⟩
 unfold blockA at hk
 rw [hT] at h6 e2 |-
 cases ht:takeTo A.s.geo A.hs A.fz (findX true A.s.geo) (spB A.s.geo b).1 (spB A.s.geo b).2.1 (spB A.s.geo b).2.2 A.s.geo.gs.toNat with
 | none =>
  rw [ht] at hk h6
  exact tt rfl (hk w6 R5 M6 S5 h6)
 | some x =>
  rw [ht] at hk h6 e2
  obtain ⟨i1,i2,i3,_,_⟩:=take_in h (k:=x.1) (j:=x.2) ht
  obtain ⟨p1,p2,p3⟩:=head_pos hg i1
  have hsz:=gSize_b (g:=A.s.geo)
  refine ff rfl ⟨_,rfl,_,(h6.nos (Mod.refl _ _).drew).pv,_,e2.drew.at.fld (v:=.int .i64 (x.1:Int)) sc_int rfl,aGeo_c (h6.nos (Mod.refl _ _).drew) fun w7 m7=>⟨_,rfl,(e2.drew.keep m7 id).at.fld (v:=.int .i64 (x.1:Int)) sc_int rfl,geoHead_c fun w8 m8=>⟨_,_,rfl,_,((e2.drew.keep m7 id).keep m8 id).at.fld (v:=.int .i64 x.2) sc_int rfl,?_⟩⟩⟩
  have eg:gHead (sethA A x.1 (useX true A.s.geo (A.hs.getD x.1 hZ) x.2 true).1).s.geo x.1=(2+x.1*A.s.geo.gr,0):=p1
  rw [eg,wrap64 (x:=2+(x.1:Int)*A.s.geo.gr+x.2) (by omega) (by omega)]
  have m68:Mod No w6 w8:=((Mod.refl No w6).drew.no m7).no m8
  exact hk w8 R5 (M6.no m68) S5 (h6.nos m68)
theorem aSlot_c {n:Int} (h63:n<=9223372036854775807) (h:Ao R w a v d A) (hlast:A.V.last+1<=1000000)
  (hk:∀ w' R',Mod R w w'->Sb R R' w->Ao R' w' a v d (slotA A n).1->K (.tuple #[.int .i64 (slotA A n).2.1,.int .i64 (slotA A n).2.2.1,.int .i64 (slotA A n).2.2.2]) w') :
  Cal Tryz.prog F_alloc_Alloc_Slot #[.pointer (some ⟨a,0,none⟩),.int .i64 n] w K:=by
 apply C_alloc_Alloc_Slot
 unfold D_alloc_Alloc_Slot
 have hg:=h.ok
 obtain ⟨s1,s2,s3,s4⟩:=spS_in hg n
 have hda:=h.dlt
 refine ff rfl (aSlt_c h63 h fun w1 m1=>⟨_,_,rfl,?_⟩)
 obtain ⟨w2,b1,b2,b3,b4⟩:=new_u (P:=Tryz.prog) (w:=w1) (T:=195) zero_spot
 obtain ⟨w3,c1,c2,c3,c4⟩:=b2.put (T:=195) (vs:=pV ((spS A.s.geo n).1,(spS A.s.geo n).2.1)) agg_spot rfl rfl (one_pV _)
 have z1:=m1.size
 have M3:Mod No w (Go.Den.drew w3):=(m1.no (b3.own c3 (Nat.le_refl _))).drew
 refine ⟨_,w2,b1,w3,c1,_,c2.drew.at.all agg_spot rfl,aSlots_c fun w4 m4=>⟨_,rfl,(c2.drew.keep m4 id).at.all agg_spot rfl,?_⟩⟩
 have M4:=M3.no m4
 have q4:=c2.drew.keep m4 id
 have zq:=c2.drew.lt
 have z4:=m4.size
 have hq:w1.heap.size<w4.heap.size:=q4.lt
 refine take_c (h.nos M4) ⟨s1,s2⟩ ⟨s3,by omega⟩ hlast fun w5 R5 m5 s5 h5=>⟨_,_,_,rfl,?_⟩
 have nR:¬ R w1.heap.size:=fun e=>by have:=h.lt _ e; omega
 have nR5:¬ R5 w1.heap.size:=fun e=>by
  rcases s5 _ e with e | e
  ·exact nR e
  ·omega
 have M5:Mod R w w5:=(M4.mono fun _ _ e=>e.elim).trans m5 fun x _ e=>e
 have S5:Sb R R5 w:=s5.up (M4.size)
 have hT:=takeA_eq h false (spS A.s.geo n).2.2 (spS A.s.geo n).1 (spS A.s.geo n).2.1
 have z5:=m5.size
 obtain ⟨w6,e1,e2,e3,e4⟩:=(q4.keep m5 nR).put (T:=195) (vs:=pV (takeA false A (spS A.s.geo n).1 (spS A.s.geo n).2.1 (spS A.s.geo n).2.2).2.1) agg_spot rfl rfl (one_pV _)
 have h6:=h5.own e3 nR5 (by omega)
 have M6:Mod R w w6:=M5.trans e3 fun z hz e=>by have e:z=w1.heap.size:=e; omega
 refine ⟨w6,e1,?_⟩
 unfold slotA at hk
 rw [hT] at h6 e2 |-
 cases ht:takeTo A.s.geo A.hs A.fz (findX false A.s.geo) (spS A.s.geo n).1 (spS A.s.geo n).2.1 (spS A.s.geo n).2.2 A.s.geo.gs.toNat with
 | none =>
  rw [ht] at hk h6
  exact tt rfl (hk w6 R5 M6 S5 h6)
 | some x =>
  rw [ht] at hk h6 e2
  obtain ⟨i1,i2,i3,_,_⟩:=take_in h (k:=x.1) (j:=x.2) ht
  obtain ⟨_,_,g3,g4,g5,g6,_⟩:=gOk_iff.1 hg
  have hp:=prodB (a:=(x.1:Int)) (b:=A.s.geo.no) (m:=16) (n:=64) (by omega) (by omega) (by omega) (by omega)
  have q6:=e2.drew
  refine ff rfl ⟨_,q6.at.fld (v:=.int .i64 (x.1:Int)) sc_int rfl,_,rfl,_,(h6.nos (Mod.refl _ _).drew).pv,_,q6.at.fld (v:=.int .i64 x.2) sc_int rfl,aGeo_c (h6.nos (Mod.refl _ _).drew) fun w7 m7=>⟨_,rfl,(q6.keep m7 id).at.fld (v:=.int .i64 (x.1:Int)) sc_int rfl,(q6.keep m7 id).at.fld (v:=.int .i64 x.2) sc_int rfl,_,field_gno _,?_⟩⟩
  have eg:(sethA A x.1 (useX false A.s.geo (A.hs.getD x.1 hZ) x.2 true).1).s.geo.no=A.s.geo.no:=rfl
  rw [eg,wrap64 (x:=(x.1:Int)*A.s.geo.no) (by omega) (by omega),wrap64 (x:=(x.1:Int)*A.s.geo.no+x.2) (by omega) (by omega)]
  have m68:Mod No w6 w7:=(Mod.refl No w6).drew.no m7
  exact hk w7 R5 (M6.no m68) S5 (h6.nos m68)
end
end Go.Proofs.YtandmpcjjaabmaaGreat
end
section
open Go Go.Den Go.Proofs
namespace Go.Proofs.YtandmpcjjaabmaaGreat
theorem choose_ok {xs ys:List UInt8} {n:Int} (h:(supChoose xs ys n).2.2=0):sOk (supChoose xs ys n).1=true/\gSize (supChoose xs ys n).1.geo<=n:=by
 have pick:∀ (i:Int) (zs:List UInt8) (b:Sp),(sOk b=true/\gSize b.geo<=n)\/b=sZ->(sOk (supPick i zs n b)=true/\gSize (supPick i zs n b).geo<=n)\/supPick i zs n b=sZ:=by
  intro i zs b hb
  unfold supPick
  split
  ·rename_i h
   exact .inl ⟨(supG_ok h.1).1,h.2.2.1⟩
  ·exact hb
 have hb:=pick 1 ys _ (pick 0 xs sZ (.inr rfl))
 unfold supChoose at *
 by_cases e:supBest xs ys n=sZ
 ·rw [if_pos e] at h; cases h
 ·rw [if_neg e]
  exact hb.resolve_right e
theorem mnt_ok {D:St} (h:(mntS D).2.2=0):gOk (mntS D).1.geo=true/\gSize (mntS D).1.geo<=D.vs.length/\1<=(mntS D).1.gen:=by
 have:=choose_ok h
 exact ⟨(sOk_iff.1 this.1).2,this.2,(sOk_iff.1 this.1).1.1⟩
theorem mnt_no {D:St} (h:(mntS D).2.2=0) (h2:mntOk D (mntS D).1.geo=false):mnt D=(sZ,8):=by
 unfold mnt
 rw [if_neg (by omega),if_neg (by rw [h2]; decide)]
theorem mnt_yes {D:St} (h:(mntS D).2.2=0) (h2:mntOk D (mntS D).1.geo=true):mnt D=((mntS D).1,0):=by
 unfold mnt
 rw [if_neg (by omega),if_pos h2]
theorem build_work:Al (Instr.build 245 #[]) (.agg ⟨[.slice none 0 0]⟩):=fun w=>by kernel_rfl
theorem build_vol (s:Sp) (sp wk:Nat):Al (Instr.build 167 #[(0,.agg ⟨sV s⟩),(1,.pointer (some ⟨sp,0,none⟩)),(2,.pointer (some ⟨wk,0,none⟩)),(3,.int .i64 0)]) (.agg ⟨vV s sp wk 0⟩):=fun w=>by kernel_rfl
section
variable {w0 wb w w':World} {R R0:Nat->Prop} {N v d sb mb sc:Nat} {L:List (Int×Value)} {s:Sp} {D:St} {V:Ps} {nx:Int} {K:Value->World->Prop}
theorem ReadC_c (h:DiskIn w R d sb mb sc L D) (hs:Small D) {n:Int} (hk:∀ w' a c,Mod No w w'->Fresh w w' a (rdB D n)->(rdB D n).length<=c->K (.tuple #[.slice a (rdB D n).length c,.int .i64 (errOf D n)]) w'):Cal Tryz.prog F_disk_Disk_Read #[.pointer (some ⟨d,0,none⟩),.int .i64 n] w K:=by
 apply C_disk_Disk_Read
 unfold D_disk_Disk_Read
 refine may_c h ⟨_,rfl,?_⟩
 rcases err_cases (D:=D) n with ⟨he,_⟩ | ⟨he,i,v,rfl,hv,hver⟩
 ·have hb:rdB D n=[]:=by unfold rdB; rw [if_neg (by omega)]
  refine tt (by rw [he]; rfl) ?_
  have:=hk w none 0 (Mod.refl _ _) (.inl ⟨rfl,hb⟩) (by rw [hb]; exact Nat.le_refl _)
  rw [hb] at this; exact this
 ·have hb:rdB D i=lastV v:=by unfold rdB; rw [if_pos he,hver]
  have hll:=h.wf.lastLen hv
  refine ff (by rw [he]; rfl) (last_c h hv (hs v (List.mem_of_getElem? hv)) fun w2 m2=>⟨_,rfl,_,_,alloc_block w2,_,store_new agg_block (by rw [length_u8L,List.length_replicate]) (by simp [hll]) (one_u8L _),_,_,_,slice_block _,?_⟩)
  have:=hk (w2.alloc (.cells ⟨u8L (lastV v)⟩ 224)) (some ⟨w2.heap.size,0,none⟩) 256 (m2.alloc _) (.inr ⟨w2.heap.size,rfl,m2.size,by rw [hb]; exact AtU.new⟩) (by rw [hb,hll]; exact Nat.le_refl _)
  rw [hb,hll,he] at this; exact this
theorem diskV (h:Pz w0 R w v d V):∃ R4 sb mb sc L,DiskIn w R4 d sb mb sc L V.C.D/\Small V.C.D:=by
 obtain ⟨C,eD,eM,hw,rl,c,mo,mm,ca,oa,Lo,Lm,h⟩:=h
 obtain ⟨rl2,m,sb,mb,sc,lc,la,L,mp,hC⟩:=h.cx
 have hD:Ps.C (⟨C,V.last,V.ons⟩:Ps)=C:=rfl
 have hd:=hC.disk
 have hs:=hC.wf.small
 rw [hD,eD] at hd hs
 exact ⟨_,sb,mb,sc,L,hd,hs⟩
theorem Vg.comp {R':Nat->Prop} {w1:World} (h2:∀ x,R' x->R0 x\/wb.heap.size<=x) (hm:Mod R0 wb w1) (k:Vg w1 R' N w' v d s D nx):Vg wb R0 N w' v d s D nx:=by
 obtain ⟨R,sp,wk,k,w0,h1,hv,h3,h4,h5,h6,h7,h8,h9⟩:=k
 have hz:=hm.size
 refine ⟨R,sp,wk,k,w0,h1,hv,⟨h3.1,h3.2.1,h3.2.2.1,?_⟩,fun x hx=>⟨?_,(h4 x hx).2⟩,hm.trans h5 fun x hx e=>(h2 x e).resolve_right (by omega),h6,by omega,h8,h9⟩
 ·rcases h3.2.2.2 with e | e
  ·exact h2 v e
  ·exact .inr (by omega)
 ·rcases (h4 x hx).1 with e | e
  ·exact h2 x e
  ·exact .inr (by omega)
theorem rdB_le (h:WF D) (n:Int):(rdB D n).length<=256:=by
 rcases err_cases (D:=D) n with ⟨he,_⟩ | ⟨he,i,v,rfl,hv,hver⟩
 ·unfold rdB; rw [if_neg (by omega)]; simp
 ·unfold rdB; rw [if_pos he,hver,h.lastLen hv]; exact Nat.le_refl _
set_option maxRecDepth 8000 in
theorem vMount_c (h:DiskIn w R d sb mb sc L D) (hsm:Small D) (hlo:∀ x,R x->w0.heap.size<=x/\x<w.heap.size) (hm0:Mod No w0 w) (hrun:D.left=-1)
  (hk0:(mnt D).2≠0->∀ w',Mod R w w'->K (.tuple #[.pointer none,.int .i64 (mnt D).2]) w')
  (hk:(mnt D).2=0->∀ w' N v,Vg w R N w' v d (mnt D).1 D (nextTo D (mnt D).1.geo (gSlots (mnt D).1.geo).toNat+1)->K (.tuple #[.pointer (some ⟨v,0,none⟩),.int .i64 0]) w') :
  Cal Tryz.prog F_vol_Mount #[.pointer (some ⟨d,0,none⟩)] w K:=by
 have hlen:=h.wf.lo
 have hhi:=h.wf.hi
 have hwf:=h.wf
 apply C_vol_Mount
 unfold D_vol_Mount
 refine Len_c h ⟨_,rfl,?_⟩
 have e1:(if (1:Int) > (D.vs.length:Int) then (1:Int) else (D.vs.length:Int))=(D.vs.length:Int):=by rw [if_neg (by omega)]
 rw [e1]
 refine qNew_c h hsm hlo hm0 hrun hlen hhi (Nat.le_refl _) fun w2 sp m2 P2=>⟨_,_,rfl,ff rfl ?_⟩
 obtain ⟨R4,sb4,mb4,sc4,L4,hd2,hs2⟩:=diskV P2
 refine ReadC_c hd2 hs2 (n:=0) fun w3 a3 c3 m3 f3 hc3=>⟨_,_,_,_,rfl,?_⟩
 refine ReadC_c (hd2.nos m3) hs2 (n:=1) fun w4 a4 c4 m4 f4 hc4=>⟨_,_,_,_,rfl,?_⟩
 have M24:Mod No w2 w4:=m3.no m4
 refine Len_c (hd2.nos M24) ⟨_,rfl,?_⟩
 have l3:=rdB_le hwf 0
 have l4:=rdB_le hwf 1
 refine supChoose_c (xs:=rdB D 0) (ys:=rdB D 1) rfl hc3 (f3.nos m4).row (by show (rdB D 0).length<=_; omega) rfl hc4 f4.row (by show (rdB D 1).length<=_; omega) fun w6 m6=>⟨_,_,_,rfl,?_⟩
 have M26:=M24.no m6
 show ∃ q10:Addr,_
 obtain ⟨w7,b1,b2,b3,b4⟩:=new_u (P:=Tryz.prog) (w:=w6) (T:=158) zero_sup
 obtain ⟨w8,c1,c2,c3',c4'⟩:=b2.put (T:=158) (vs:=sV (mntS D).1) agg_sup rfl rfl (one_sV _)
 have m8:Mod No w6 w8:=b3.own c3' (Nat.le_refl _)
 refine ⟨_,w7,b1,w8,c1,?_⟩
 rw [bneI]
 refine cond_of (fun he=>?_) (fun he=>?_)
 ·have he:(mntS D).2.2≠0:=of_decide_eq_true he
  have e:mnt D=(sZ,(mntS D).2.2):=by unfold mnt; rw [if_pos he]
  have:=hk0 (by rw [e]; exact he) w8 (((m2.no M26).no m8).mono fun _ _ h=>h.elim)
  rw [e] at this
  exact this
 have he:(mntS D).2.2=0:=Classical.not_not.1 (of_decide_eq_false he)
 obtain ⟨hg,hsz,hgen⟩:=mnt_ok he
 have m8d:Mod No w6 (Go.Den.drew w8):=m8.drew
 refine ⟨_,c2.drew.at.all agg_sup rfl,?_⟩
 apply C_push_New
 unfold D_push_New
 obtain ⟨w9,p1,p2,p3,p4⟩:=box_u (P:=Tryz.prog) (w:=Go.Den.drew w8) (T:=245) (cs:=[.slice none 0 0])
 have q9:AtU w9 w6.heap.size 0 (sV (mntS D).1):=c2.drew.keep p3 id
 refine ⟨_,build_work,_,w9,p1,_,rfl,q9.at.all agg_sup rfl,_,build_vol _ _ _,?_⟩
 obtain ⟨w10,v1,v2,v3,v4⟩:=box_u (P:=Tryz.prog) (w:=w9) (T:=167) (cs:=vV (mntS D).1 sp (Go.Den.drew w8).heap.size 0)
 refine ⟨_,w10,v1,?_⟩
 have M69:Mod No w6 w9:=m8d.no p3
 have M29:Mod No w2 w9:=M26.no M69
 have M210:Mod No w2 w10:=M29.no v3
 have hz2:=m2.size
 have hz6:=M26.size
 have hz9:=M29.size
 have hz69:=M69.size
 have hz0:=hm0.size
 have hlt6:=c2.lt
 have hz8:w8.heap.size<=w9.heap.size:=p3.size
 have hG:∀ x,Gro R w w2 x->x<w2.heap.size:=fun x hx=>by
  rcases hx with hx | hx
  ·have:=(hlo x hx).2; omega
  ·omega
 have X10:Vg w9 (Gro R w w2) w10.heap.size w10 w9.heap.size d (mntS D).1 D 0 :=
  ⟨Gro R w w2,sp,_,_,w0,P2.nos M210,v2,⟨fun e=>by have:=hG _ e; omega,by omega,by omega,.inr (Nat.le_refl _)⟩,fun x hx=>⟨.inl hx,by have:=hG _ hx; omega⟩,v3.mono fun _ _ h=>h.elim,Nat.le_refl _,by omega,by omega,p2.keep v3 id,fun e=>by have:=hG _ e; have:(Go.Den.drew w8).heap.size=w8.heap.size:=rfl; omega,(by have:=p2.lt; omega),(by show _<=w8.heap.size; omega),(by have:=p2.lt; omega),(by show d<=w8.heap.size; have:=(hlo d h.rb).2; omega),(by have:=(hlo d h.rb).2; omega)⟩
 have hq:∀ {w':World} {N:Nat} {nx:Int},Vg w9 (Gro R w w2) N w' w9.heap.size d (mntS D).1 D nx->AtU w' w6.heap.size 0 (sV (mntS D).1):=fun X=>q9.keep X.mod fun e=>by have:=hG _ e; omega
 have back:∀ x,Gro R w w2 x->R x\/w.heap.size<=x:=fun x hx=>by
  rcases hx with hx | hx
  ·exact .inl hx
  ·exact .inr hx.1
 have bm:Mod R w w9:=(m2.no M29).mono fun _ _ h=>h.elim
 have hno:∀ {w':World} {N:Nat} {nx:Int},Vg w9 (Gro R w w2) N w' w9.heap.size d (mntS D).1 D nx->mntOk D (mntS D).1.geo=false->∀ w'',Mod No w' w''->K (.tuple #[.pointer none,.int .i64 8]) w'':=fun X hf w'' m=>by
  have e:=mnt_no he hf
  have:=hk0 (by rw [e]; decide) w'' ((X.comp back bm).mod.no m)
  rw [e] at this
  exact this
 obtain ⟨g1,g2,g3,g4,g5,g6,g7,g8,g9⟩:=gOk_iff.1 hg
 refine ⟨_,(hq X10).at.fld2 sc_int rfl,?_⟩
 refine ⟨fun x w11=>∃ (k N:Nat) (y:Value),(k:Int)<=(mntS D).1.geo.gs/\x=[.int .i64 k,y]/\Vg w9 (Gro R w w2) N w11 w9.heap.size d (mntS D).1 D 0/\∀ j,j<k->headOk D (mntS D).1.geo j=true,fun x _=>((mntS D).1.geo.gs-nI x 0).toNat,
  ⟨0,_,undef,by omega,rfl,X10,fun j hj=>by omega⟩,?_⟩
 rintro x w11 ⟨k,N,y,hk2,rfl,X11,hh⟩
 refine ⟨_,rfl,cond_of (fun hl=>?_) (fun hl=>?_)⟩
 ·have hl:(k:Int)<(mntS D).1.geo.gs:=of_decide_eq_true hl
  refine vHead_c X11 hsz fun w12 X12=>⟨_,_,rfl,?_⟩
  obtain ⟨w13,s1,s2,s3,s4⟩:=new_u (P:=Tryz.prog) (w:=w12) (T:=171) zero_head
  have hwd:=headAt_wf D (mntS D).1.geo k
  obtain ⟨w14,t1,t2,t3,t4⟩:=s2.put (T:=171) (vs:=hV (headAt D (mntS D).1.geo k).1) agg_head rfl (hV_len hwd) (one_hV _)
  have m14:Mod No w12 w14:=s3.own t3 (Nat.le_refl _)
  refine ⟨_,w13,s1,w14,t1,?_⟩
  refine Share.cut (fun z w15=>z=[.bool (!headOk D (mntS D).1.geo k)]/\w15=w14) ?_ ?_
  ·rw [bneI]
   refine cond_of (fun hp=>⟨?_,rfl⟩) (fun hp=>⟨_,t2.at.fld (v:=.int .i64 (headAt D (mntS D).1.geo k).1.no) sc_int rfl,?_,rfl⟩)
   ·have hp:=of_decide_eq_true hp
    have:headOk D (mntS D).1.geo k=false:=by unfold headOk; rw [decide_eq_false fun e=>hp e.1]
    rw [this]; rfl
   ·have hp:=Classical.not_not.1 (of_decide_eq_false hp)
    rw [bneI]
    congr 2
    unfold headOk
    by_cases e:(headAt D (mntS D).1.geo k).1.no=k
    ·rw [decide_eq_false (fun x=>x e),decide_eq_true ⟨hp,e⟩]; rfl
    ·rw [decide_eq_true e,decide_eq_false fun x=>e x.2]; rfl
  rintro z w15 ⟨rfl,rfl⟩
  refine ⟨_,rfl,cond_of (fun hp=>?_) (fun hp=>?_)⟩
  ·refine hno X12 ?_ w15 m14
   unfold mntOk
   rw [Bool.and_eq_false_iff]
   left
   rw [List.all_eq_false]
   exact ⟨k,List.mem_range.2 (by omega),by simpa using hp⟩
  ·have hp:headOk D (mntS D).1.geo k=true:=by simpa using hp
   rw [wrap64 (x:=(k:Int)+1) (by omega) (by omega)]
   exact ⟨⟨k+1,_,_,by omega,rfl,X12.nos m14,fun j hj=>by
    by_cases e:j=k
    ·rw [e]; exact hp
    ·exact hh j (by omega)⟩,by simp [nI,nth]; omega⟩
 have hl:(k:Int)=(mntS D).1.geo.gs:=by have:=of_decide_eq_false hl; omega
 refine vInode_c (by omega) X11 hsz fun w16 X16=>⟨_,_,rfl,?_⟩
 obtain ⟨w17,s1,s2,s3,s4⟩:=new_u (P:=Tryz.prog) (w:=w16) (T:=51) zero_ino
 have hwd:=slotAt_wf D (mntS D).1.geo 1
 obtain ⟨w18,t1,t2,t3,t4⟩:=s2.put (T:=51) (vs:=nV (slotAt D (mntS D).1.geo 1).1) agg_ino rfl (nV_len hwd) (one_nV _)
 have m18:Mod No w16 w18:=s3.own t3 (Nat.le_refl _)
 refine ⟨_,w17,s1,w18,t1,?_⟩
 refine Share.cut (fun z w19=>z=[.bool (!rootOk D (mntS D).1.geo)]/\w19=w18) ?_ ?_
 ·rw [bneI]
  refine cond_of (fun hp=>⟨?_,rfl⟩) (fun hp=>⟨_,t2.at.fld (v:=.int .i64 (slotAt D (mntS D).1.geo 1).1.kind) sc_int rfl,?_,rfl⟩)
  ·have hp:=of_decide_eq_true hp
   have:rootOk D (mntS D).1.geo=false:=by unfold rootOk; rw [decide_eq_false fun e=>hp e.1]
   rw [this]; rfl
  ·have hp:=Classical.not_not.1 (of_decide_eq_false hp)
   rw [bneI]
   congr 2
   unfold rootOk
   by_cases e:(slotAt D (mntS D).1.geo 1).1.kind=2
   ·rw [decide_eq_false (fun x=>x e),decide_eq_true ⟨hp,e⟩]; rfl
   ·rw [decide_eq_true e,decide_eq_false fun x=>e x.2]; rfl
 rintro z w19 ⟨rfl,rfl⟩
 refine ⟨_,rfl,cond_of (fun hp=>?_) (fun hp=>?_)⟩
 ·refine hno X16 ?_ w19 m18
  unfold mntOk
  rw [Bool.and_eq_false_iff]
  right
  simpa using hp
 have hp:rootOk D (mntS D).1.geo=true:=by simpa using hp
 have hok:mntOk D (mntS D).1.geo=true:=by
  unfold mntOk
  rw [hp,Bool.and_true,List.all_eq_true]
  intro j hj
  exact hh j (by have:=List.mem_range.1 hj; omega)
 have eM:=mnt_yes he hok
 have X19:=X16.nos m18
 refine ⟨_,(hq X19).at.fldA agg_geo (by show 4<=4; omega) rfl,geoSlots_c fun w20 m20=>⟨_,rfl,?_⟩⟩
 have hsl:=gSlots_b (g:=(mntS D).1.geo)
 refine ⟨fun x w21=>∃ n N:Nat,(n:Int)<=gSlots (mntS D).1.geo/\x=[.int .i64 n]/\Vg w9 (Gro R w w2) N w21 w9.heap.size d (mntS D).1 D (nextTo D (mntS D).1.geo n),fun x _=>(gSlots (mntS D).1.geo-nI x 0).toNat,
  ⟨0,_,by omega,rfl,X19.nos m20⟩,?_⟩
 rintro x w21 ⟨n,N,hn,rfl,X21⟩
 refine ⟨_,rfl,cond_of (fun hl2=>?_) (fun hl2=>?_)⟩
 ·have hl2:(n:Int)<gSlots (mntS D).1.geo:=of_decide_eq_true hl2
  refine vInode_c (by omega) X21 hsz fun w22 X22=>⟨_,_,rfl,?_⟩
  obtain ⟨w23,s1,s2,s3,s4⟩:=new_u (P:=Tryz.prog) (w:=w22) (T:=51) zero_ino
  have hwd:=slotAt_wf D (mntS D).1.geo n
  obtain ⟨w24,t1,t2,t3,t4⟩:=s2.put (T:=51) (vs:=nV (slotAt D (mntS D).1.geo n).1) agg_ino rfl (nV_len hwd) (one_nV _)
  have m24:Mod No w22 w24:=s3.own t3 (Nat.le_refl _)
  have X24:=(X22.nos m24).nos (Mod.refl No w24).drew
  obtain ⟨w25,u1,u2⟩:=X24.set (if (slotAt D (mntS D).1.geo n).1.id > nextTo D (mntS D).1.geo n then (slotAt D (mntS D).1.geo n).1.id else nextTo D (mntS D).1.geo n)
  refine ⟨_,w23,s1,w24,t1,_,rfl,_,X24.next,_,t2.drew.at.fld (v:=.int .i64 (slotAt D (mntS D).1.geo n).1.id) sc_i64 rfl,_,rfl,w25,u1,?_⟩
  rw [wrap64 (x:=(n:Int)+1) (by omega) (by omega)]
  exact ⟨⟨n+1,_,by omega,rfl,u2⟩,by simp [nI,nth]; omega⟩
 have hl2:(n:Int)=gSlots (mntS D).1.geo:=by have:=of_decide_eq_false hl2; omega
 have hnb:=nextTo_b D (mntS D).1.geo n
 have hnn:=nextTo_nn D (mntS D).1.geo n
 obtain ⟨w26,u1,u2⟩:=X21.set (nextTo D (mntS D).1.geo n+1)
 refine ⟨_,rfl,_,X21.next,_,rfl,w26,?_,?_⟩
 ·rw [wrap64 (by omega) (by omega)]; exact u1
 have:=hk (by rw [eM]) w26 N w9.heap.size
 rw [eM] at this
 refine this ?_
 show Vg w R N w26 w9.heap.size d (mntS D).1 D (nextTo D (mntS D).1.geo (gSlots (mntS D).1.geo).toNat+1)
 rw [<- hl2,Int.toNat_natCast]
 exact u2.comp back bm
end
end Go.Proofs.YtandmpcjjaabmaaGreat
end
section
open Go Go.Den Go.Proofs
namespace Go.Proofs.YtandmpcjjaabmaaGreat
def gKn:Gm:=⟨16,8,2⟩
end Go.Proofs.YtandmpcjjaabmaaGreat
end
section
open Go Go.Den Go.Proofs
namespace Go.Proofs.YtandmpcjjaabmaaGreat
theorem build_alloc (w:World) (p:Option Addr) (m:Option Nat):(Instr.build 176 #[(0,.pointer p),(1,.map m)]).run Tryz.prog w=.ok (.agg ⟨[.pointer p,.map m]⟩) w:=by kernel_rfl
section
variable {w wb w':World} {R R0 R':Nat->Prop} {N a v d:Nat} {A:Az} {s:Sp} {D:St} {V:Ps} {W:List Wt} {nx:Int} {hs:List Hd} {K:Value->World->Prop}
theorem Vg.vu (h:Vg wb R0 N w v d s D nx):∃ R k,Vu R w v d s ⟨⟨D,k,[]⟩,0,[]⟩ [] nx/\∀ z,R z->R0 z\/wb.heap.size<=z\/d<=z:=by
 obtain ⟨R1,sp,wk,k,w0,h1,h2,h3,h4,h5,h6,h7,h8,c1,c2,c3,c4,c5,c6,c7⟩:=h
 have z2:=h2.lt
 refine ⟨fun z=>R1 z\/z=wk\/z=v,k,⟨w0,R1,fun z=>z=wk,sp,wk,⟨h1,h2,⟨none,0,⟨c1,Ow.nilG elemG_waits,(fun _ e=>by cases e),fun e=>e.2 rfl⟩⟩,fun z hz e=>c2 (e ▸ hz),⟨h3.1,fun e=>c3 e.symm⟩,fun z hz=>?_⟩,fun z hz=>hz,fun z hz=>?_⟩,fun z hz=>?_⟩
 ·rcases hz with rfl | rfl
  ·exact ⟨c6,by omega⟩
  ·exact ⟨c7,z2⟩
 ·rcases hz with hz | rfl | rfl
  ·have:=(h4 z hz).2; omega
  ·omega
  ·exact z2
 ·rcases hz with hz | rfl | rfl
  ·exact (h4 z hz).1.imp id .inl
  ·exact .inr (.inr c6)
  ·exact .inr (.inr c7)
theorem aNew_c (h:Vu R w v d s V W nx) (hH:HdsAt V s.geo hs) (hk:∀ w' R' a,Mod No w w'->Sb R R' w->Ao R' w' a v d ⟨s,V,W,nx,hs,fun _=>false⟩->w.heap.size<=a->K (.pointer (some ⟨a,0,none⟩)) w') :
  Cal Tryz.prog F_alloc_New #[.pointer (some ⟨v,0,none⟩)] w K:=by
 apply C_alloc_New
 unfold D_alloc_New
 have hdl:=h.dlo
 have hvl:=h.lt v h.vIn
 have m1:Mod No w (w.alloc (.map #[] 0)):=(Mod.refl No w).alloc _
 have p1:MapAt (w.alloc (.map #[] 0)) w.heap.size []:=MapAt.new
 have s1:(w.alloc (.map #[] 0)).heap.size=w.heap.size+1:=by simp
 refine ff rfl ⟨_,_,makeMap_run,_,fun w=>build_alloc w _ _,?_⟩
 generalize w.alloc (.map #[] 0)=w1 at *
 obtain ⟨w2,c1,c2,c3,c4⟩:=box_u (P:=Tryz.prog) (w:=w1) (T:=176) (cs:=[.pointer (some ⟨v,0,none⟩),.map (some w.heap.size)])
 refine ⟨_,w2,c1,hk w2 (fun z=>R z\/z=w1.heap.size\/z=w.heap.size) _ (m1.no c3) (fun z hz=>?_) ⟨R,w.heap.size,[],h.nos (m1.no c3),c2,p1.keep c3 id,fun k=>rfl,⟨fun e=>?_,fun e=>?_,by omega,by omega,by omega⟩,fun z hz=>hz,fun z hz=>?_,hH⟩ (by omega)⟩
 ·rcases hz with hz | rfl | rfl
  ·exact .inl hz
  ·exact .inr (by omega)
  ·exact .inr (Nat.le_refl _)
 ·have:=h.lt _ e; omega
 ·have:=h.lt _ e; omega
 ·rcases hz with hz | rfl | rfl
  ·have:=h.lt _ hz; omega
  ·omega
  ·omega
theorem aVol_c (h:Ao R w a v d A) (hk:K (.pointer (some ⟨v,0,none⟩)) w):Cal Tryz.prog F_alloc_Alloc_Vol #[.pointer (some ⟨a,0,none⟩)] w K:=by
 apply C_alloc_Alloc_Vol
 unfold D_alloc_Alloc_Vol
 exact ff rfl ⟨_,rfl,_,h.pv,hk⟩
-- of none
end
end Go.Proofs.YtandmpcjjaabmaaGreat
end
section
open Go Go.Den Go.Proofs
namespace Go.Proofs.YtandmpcjjaabmaaGreat
section
variable {w w':World} {R R':Nat->Prop} {a v d:Nat} {A:Az} {K:Value->World->Prop}
theorem aStore_c {sp wk:Nat} (h:AtU w v 0 (vV A.s sp wk A.nx)) (hk:K (.pointer (some ⟨sp,0,none⟩)) w):Cal Tryz.prog F_vol_Vol_Store #[.pointer (some ⟨v,0,none⟩)] w K:=by
 apply C_vol_Vol_Store
 unfold D_vol_Vol_Store
 exact ff rfl ⟨_,rfl,_,h.at.fld sc_store rfl,hk⟩
end
end Go.Proofs.YtandmpcjjaabmaaGreat
end
section
open Go Go.Den Go.Proofs
namespace Go.Proofs.YtandmpcjjaabmaaGreat
theorem slotV_wf (V:Ps) (g:Gm) (s:Int):nWf (slotV V g s).1:=by unfold slotV; split; exact nZ_wf; exact inoAt_wf _ _
section
variable {w w':World} {R R':Nat->Prop} {a v d:Nat} {A:Az} {s:Sp} {V:Ps} {W:List Wt} {nx:Int} {K:Value->World->Prop}
theorem wPlace_c {k:Int} (h63:k<=9223372036854775807) (h:Vu R w v d s V W nx) (hk:∀ w',Mod No w w'->K (.tuple #[.int .i64 (gPlace s.geo k).1,.int .i64 (gPlace s.geo k).2.1,.int .i64 (gPlace s.geo k).2.2]) w'):Cal Tryz.prog F_vol_Vol_place #[.pointer (some ⟨v,0,none⟩),.int .i64 k] w K:=by
 apply C_vol_Vol_place
 unfold D_vol_Vol_place
 exact ff rfl ⟨_,rfl,_,h.geo,geoPlace_c h63 fun w' m=>⟨_,_,_,rfl,hk w' m⟩⟩
theorem wInode_c {k:Int} (h63:k<=9223372036854775807) (h:Vu R w v d s V W nx) (hsz:gSize s.geo<=V.C.D.vs.length)
  (hk:∀ w' R',Mod R w w'->Sb R R' w->Vu R' w' v d s V W nx->K (.tuple #[.agg ⟨nV (slotV V s.geo k).1⟩,.int .i64 (slotV V s.geo k).2]) w'):Cal Tryz.prog F_vol_Vol_Inode #[.pointer (some ⟨v,0,none⟩),.int .i64 k] w K:=by
 apply C_vol_Vol_Inode
 unfold D_vol_Vol_Inode
 obtain ⟨w1,b1,b2,b3,b4⟩:=new_u (P:=Tryz.prog) (w:=w) (T:=51) zero_ino
 have hlt:=h.lt
 have hdv:=h.dlo
 have hvl:=hlt v h.vIn
 have n1:¬ R w.heap.size:=fun e=>by have:=hlt _ e; omega
 have fin:∀ (w':World) (R':Nat->Prop) (i:Nd) (e:Int),AtU w' w.heap.size 0 (nV nZ)->Mod R w w'->Sb R R' w->¬ R' w.heap.size->Vu R' w' v d s V W nx->(i,e)=slotV V s.geo k->∃ w3:World,RuU (Instr.storeAt 51 (.pointer (some ⟨w.heap.size,0,none⟩)) (.agg ⟨nV i⟩)) w' w3/\∃ gR2:Array Value,Ru (Instr.loadAt 51 (.pointer (some ⟨w.heap.size,0,none⟩))) w3 (.agg gR2) w3/\K (.tuple #[.agg gR2,.int .i64 e]) w3:=fun w' R' i e hat m s' nr hv he=>by
  have hw:nWf i:=by have:=slotV_wf V s.geo k; rw [<- he] at this; exact this
  obtain ⟨w3,c1,c2,c3,c4⟩:=hat.put (T:=51) (vs:=nV i) agg_ino rfl (nV_len hw) (one_nV _)
  refine ⟨w3,c1,_,c2.at.all agg_ino (nV_len hw),?_⟩
  have:=hk w3 R' (m.trans c3 fun x hx e=>by have e:x=w.heap.size:=e; omega) s' (hv.keep c3 (fun z hz e=>by have e:z=w.heap.size:=e; rw [e] at hz; exact nr hz) fun z e=>by have e:z=w.heap.size:=e; omega)
  rw [<- he] at this
  exact this
 have h1:=h.nos b3
 refine ⟨_,w1,b1,wPlace_c h63 h1 fun w2 m2=>⟨_,_,_,rfl,?_⟩⟩
 have h2:=h1.nos m2
 have m02:=b3.no m2
 rw [bneI]
 refine cond_of (fun he=>⟨_,build_ino0,?_⟩) (fun he=>?_)
 ·have he:=of_decide_eq_true he
  exact fin w2 R nZ _ (b2.keep m2 id) (m02.mono fun _ _ e=>e.elim) (Sb.refl _ _) n1 h2 (by unfold slotV; rw [if_pos he])
 have he:=Classical.not_not.1 (of_decide_eq_false he)
 have hin:=gPlace_b (g:=s.geo) (s:=k) (b:=(gPlace s.geo k).1) (p:=(gPlace s.geo k).2.1) (by rw [<- he])
 have z2:=m02.size
 have zl:=(b2.keep m2 id).lt
 refine ⟨_,rfl,?_⟩
 refine h2.rd (by omega) (by omega) fun w4 R4 g cc m4 s4 h4 hg1 hg2 hat hl hcc=>⟨_,_,_,_,rfl,ff rfl ?_⟩
 refine inoRead_c hl hcc (.inr ⟨_,_,rfl,hat.at⟩) (by omega) fun w6 m6=>⟨_,_,rfl,?_⟩
 refine fin w6 R4 _ _ (((b2.keep m2 id).keep m4 n1).keep m6 id) (((m02.mono fun _ _ e=>e.elim).trans m4 fun x _ e=>e).no m6) (s4.up z2) (fun e=>?_) (h4.nos m6) (by unfold slotV; rw [if_neg (by rw [he]; decide)])
 rcases s4 _ e with e | e
 ·exact n1 e
 ·omega
theorem aInode_c {k:Int} (h63:k<=9223372036854775807) (h:Ao R w a v d A) (hk:∀ w' R',Mod R w w'->Sb R R' w->Ao R' w' a v d A->K (.tuple #[.agg ⟨nV (slotV A.V A.s.geo k).1⟩,.int .i64 (slotV A.V A.s.geo k).2]) w'):Cal Tryz.prog F_vol_Vol_Inode #[.pointer (some ⟨v,0,none⟩),.int .i64 k] w K:=by
 have hd:=h.hd
 obtain ⟨Rv,hv,_,hc⟩:=h.vol
 refine wInode_c h63 hv hd.2.1 fun w' R' m s hv'=>?_
 obtain ⟨c1,c2,c3⟩:=hc w' R' A.V A.W A.nx A.hs m s hv' hd
 exact hk w' _ c1 c2 c3
end
end Go.Proofs.YtandmpcjjaabmaaGreat
end
section
open Go Go.Den Go.Proofs
namespace Go.Proofs.YtandmpcjjaabmaaGreat
-- the document's
abbrev Fr:=Int×Bool×Bool
end Go.Proofs.YtandmpcjjaabmaaGreat
end
section
open Go Go.Den Go.Proofs
namespace Go.Proofs.YtandmpcjjaabmaaGreat
theorem pat_all {V:Ps} {n f:Int} {data:Bk} {after:List Int} (h:patE V n f data after=0) {y:Ch}:y∈(patS V n f data after).all↔y=newX V n.toNat f.toNat data after\/y∈V.all:=by
 have e:patS V n f data after=addX V (newX V n.toNat f.toNat data after):=by unfold patS; rw [if_pos h]
 rw [e]
 generalize hx:newX V n.toNat f.toNat data after=x
 have hall:(newO V x.b).all=V.all:=all_newO
 obtain ⟨o,ho,hob⟩:=newO_on (V:=V) (b:=x.b)
 rw [<- hall]
 show y∈((newO V x.b).ons.map fun o=>if o.b=x.b then { o with l:=o.l++[x] } else o).flatMap (·.l)↔_
 unfold Ps.all
 simp only [List.mem_flatMap,List.mem_map]
 constructor
 ·rintro ⟨_,⟨p,hp,rfl⟩,hy⟩
  by_cases c:p.b=x.b
  ·rw [if_pos c] at hy
   rcases List.mem_append.1 hy with hy | hy
   ·exact .inr ⟨p,hp,hy⟩
   ·exact .inl (by simpa using hy)
  ·rw [if_neg c] at hy
   exact .inr ⟨p,hp,hy⟩
 ·rintro (rfl | ⟨p,hp,hy⟩)
  ·exact ⟨_,⟨o,ho,rfl⟩,by rw [if_pos hob]; simp⟩
  ·refine ⟨_,⟨p,hp,rfl⟩,?_⟩
   split
   ·exact List.mem_append_left _ hy
   ·exact hy
theorem HdsAt.same {V V':Ps} {g:Gm} {hs:List Hd} (h:HdsAt V g hs) (hl:V'.C.D.vs.length=V.C.D.vs.length) (hc:∀ k:Nat,(k:Int)<g.gs->contV V' (2+k*g.gr).toNat=contV V (2+k*g.gr).toNat):HdsAt V' g hs :=
 ⟨h.1,by rw [hl]; exact h.2.1,h.2.2.1,fun k x hx=>by
  rw [hc k (h.lt hx)]; exact h.2.2.2 k x hx⟩
end Go.Proofs.YtandmpcjjaabmaaGreat
end
section
open Go Go.Den Go.Proofs
namespace Go.Proofs.YtandmpcjjaabmaaGreat
def vA (A:Az) (V:Ps):Az:=⟨A.s,V,A.W,A.nx,A.hs,A.fz⟩
theorem data_at {g:Gm} {b:Int} (h:(gKind g b).1=4):∃ (k:Nat) (j:Int),b=2+k*g.gr+j/\(k:Int)<g.gs/\1+gTabs g<=j/\j<g.gr:=by
 obtain ⟨_,_,_,h3,h4,h5,h6⟩:=gKind_4 h
 obtain ⟨k,hk⟩:=Int.eq_ofNat_of_zero_le h3
 rw [hk] at h4 h5 h6
 exact ⟨k,_,by omega,h4,h5,h6⟩
theorem head_ne {g:Gm} (hg:gOk g=true) {k k':Nat} {j:Int} (h1:1+gTabs g<=j) (h2:j<g.gr):(2+(k':Int)*g.gr).toNat≠(2+k*g.gr+j).toNat:=by
 intro e
 obtain ⟨g1,_⟩:=gOk_iff.1 hg
 have ht:=gTabs_b (g:=g)
 have p1:0<=(k:Int)*g.gr:=Int.mul_nonneg (by omega) (by omega)
 have p2:0<=(k':Int)*g.gr:=Int.mul_nonneg (by omega) (by omega)
 have e:(k':Int)*g.gr=j+k*g.gr:=by omega
 have e2:((k':Int)*g.gr) % g.gr=(j+k*g.gr) % g.gr:=by rw [e]
 rw [Int.mul_emod_left,Int.add_mul_emod_self_right,Int.emod_eq_of_lt (by omega) h2] at e2
 omega
section
variable {w w':World} {R R':Nat->Prop} {a v d:Nat} {A:Az} {K:Value->World->Prop}
theorem Ao.sto (h:Ao R w a v d A):∃ (w0:World) (Rs:Nat->Prop) (sp wk:Nat),Pz w0 Rs w sp d A.V/\AtU w v 0 (vV A.s sp wk A.nx)/\(∀ z,Rs z->R z) /\
  ∀ w' V',Mod Rs w w'->Pz w0 (Gro Rs w w') w' sp d V'->HdsAt V' A.s.geo A.hs->Mod R w w'/\∃ R',Sb R R' w/\Ao R' w' a v d (vA A V'):=by
 obtain ⟨Rv,hv,hRv,hc⟩:=h.vol
 obtain ⟨w0,Rs,Z,sp,wk,a1,a2,a3,a4,a5,a6,a7⟩:=hv.op
 refine ⟨w0,Rs,sp,wk,a1,a4,fun z hz=>hRv z (a5 z hz),fun w' V' m hP hH=>?_⟩
 obtain ⟨M,hV⟩:=a6 w' w' V' m (Mod.refl _ _) hP
 obtain ⟨c1,c2,c3⟩:=hc w' _ V' A.W A.nx A.hs M Sb.gro hV hH
 exact ⟨c1,_,c2,c3⟩
theorem aData_c {b:Int} (h:Ao R w a v d A) (hb:(gKind A.s.geo b).1=4) (hk:∀ w',Mod No w w'->K (.int .i64 0) w'):Cal Tryz.prog F_vol_Vol_data #[.pointer (some ⟨v,0,none⟩),.int .i64 b] w K:=by
 apply C_vol_Vol_data
 unfold D_vol_Vol_data
 obtain ⟨Rv,hv,_⟩:=h.vol
 refine ff rfl ⟨_,rfl,_,hv.geo,geoKind_c fun w1 m1=>⟨_,_,rfl,ff ?_ (hk w1 m1)⟩⟩
 rw [bneI,hb]; rfl
end
end Go.Proofs.YtandmpcjjaabmaaGreat
end
section
open Go Go.Den Go.Proofs
namespace Go.Proofs.YtandmpcjjaabmaaGreat
def setIA (A:Az) (k:Int) (i:Nd) (after:List Int):Az:=vA A (patS A.V (gPlace A.s.geo k).1 (64*(gPlace A.s.geo k).2.1) (inoB i) after)
def setDA (A:Az) (b from':Int) (data:Bk) (after:List Int):Az:=vA A (patS A.V b from' data after)
theorem opn_pat {V:Ps} (n f:Int) (data:Bk) (after:List Int) {x:Int} (h:V.opn x=true):(patS V n f data after).opn x=true:=by
 by_cases e:patE V n f data after=0
 ·obtain ⟨c,hc,hx⟩:=opn_iff.1 h
  exact opn_iff.2 ⟨c,(pat_all e).2 (.inr hc),hx⟩
 ·unfold patS; rw [if_neg e]; exact h
theorem opn_new {V:Ps} {n f:Int} {data:Bk} {after:List Int} (e:patE V n f data after=0):(patS V n f data after).opn ((V.last:Int)+1)=true :=
 opn_iff.2 ⟨newX V n.toNat f.toNat data after,(pat_all e).2 (.inl rfl),by show ((V.last+1:Nat):Int)=_; omega⟩
theorem opn_safe {V:Ps} {x:Int} (h:V.opn x=true):safeV V x=false:=by unfold safeV; rw [h]; simp
theorem patE_fit {V:Ps} {b f:Int} {data:Bk} {after:List Int} (h0:0<=b) (h1:b<V.C.D.vs.length) (hd:data.length≠0) (f0:0<=f) (f1:f+data.length<=256) (ha:badA V after=false):patE V b f data after=0:=by
 have e:errOf V.C.D b=0:=by unfold errOf; rw [if_neg (by omega)]
 unfold patE
 rw [e,if_neg (by decide),if_neg (by omega),ha]; rfl
section
variable {w w':World} {R R':Nat->Prop} {a v d:Nat} {A:Az} {K:Value->World->Prop}
theorem setI_E (h:HdsAt A.V A.s.geo A.hs) {k:Int} {i:Nd} {after:List Int} (hw:nWf i) (hp:(gPlace A.s.geo k).2.2=0) (hb:badA A.V after=false):patE A.V (gPlace A.s.geo k).1 (64*(gPlace A.s.geo k).2.1) (inoB i) after=0:=by
 obtain ⟨_,_,_,b1,b2,p1,p2⟩:=gPlace_b (g:=A.s.geo) (s:=k) (b:=(gPlace A.s.geo k).1) (p:=(gPlace A.s.geo k).2.1) (by rw [<- hp])
 have hl:=inoB_len hw
 exact patE_fit (by omega) (by have:=h.2.1; omega) (by omega) (by omega) (by omega) hb
theorem setI_H (h:HdsAt A.V A.s.geo A.hs) {k:Int} {i:Nd} {after:List Int} (hw:nWf i) (hp:(gPlace A.s.geo k).2.2=0) (hb:badA A.V after=false):HdsAt (setIA A k i after).V A.s.geo A.hs:=by
 have hE:=setI_E (k:=k) (i:=i) h hw hp hb
 obtain ⟨_,n0,n1,_⟩:=gPlace_b (g:=A.s.geo) (s:=k) (b:=(gPlace A.s.geo k).1) (p:=(gPlace A.s.geo k).2.1) (by rw [<- hp])
 obtain ⟨k',j,q,e,hk,hj,_⟩:=gPlace_in h.1 n0 n1
 refine h.same (by show (patS _ _ _ _ _).C.D.vs.length=_; rw [patS_C0]) fun x _=>?_
 show contV (patS _ _ _ _ _) _=_
 rw [contV_pat hE,if_neg]
 rw [e]
 exact fun z=>tab_head h.1 hj z.symm
theorem setI_slot (h:HdsAt A.V A.s.geo A.hs) (hwf:WFS A.V/\WF A.V.C.D) {k:Int} {i:Nd} {after:List Int} (hw:nWf i) (ho:nOk i=true) (hp:(gPlace A.s.geo k).2.2=0) (hb:badA A.V after=false) (s:Int) :
  slotV (setIA A k i after).V A.s.geo s=if s=k then (i,0) else slotV A.V A.s.geo s:=by
 have hE:=setI_E (k:=k) (i:=i) h hw hp hb
 obtain ⟨_,n0,n1,b1,b2,_⟩:=gPlace_b (g:=A.s.geo) (s:=k) (b:=(gPlace A.s.geo k).1) (p:=(gPlace A.s.geo k).2.1) (by rw [<- hp])
 exact slotV_set h.1 (by rw [<- hp]) (cont_len hwf.1 hwf.2 (by have:=h.2.1; omega)) hw ho hE s
theorem setD_E (h:HdsAt A.V A.s.geo A.hs) {b f:Int} {data:Bk} {after:List Int} (hb:(gKind A.s.geo b).1=4) (hd:data.length≠0) (f0:0<=f) (f1:f+data.length<=256) (ha:badA A.V after=false):patE A.V b f data after=0:=by
 obtain ⟨_,b1,b2,_⟩:=gKind_4 hb
 exact patE_fit (by omega) (by have:=h.2.1; omega) hd f0 f1 ha
theorem setD_H (h:HdsAt A.V A.s.geo A.hs) {b f:Int} {data:Bk} {after:List Int} (hb:(gKind A.s.geo b).1=4) (hE:patE A.V b f data after=0):HdsAt (setDA A b f data after).V A.s.geo A.hs:=by
 obtain ⟨k,j,hbb,hk,h1,h2⟩:=data_at hb
 refine h.same (by show (patS _ _ _ _ _).C.D.vs.length=_; rw [patS_C0]) fun x _=>?_
 show contV (patS _ _ _ _ _) _=_
 rw [contV_pat hE,if_neg]
 rw [hbb]
 exact head_ne h.1 h1 h2
theorem aSetIno_c {k:Int} {i:Nd} {a4:Option Addr} {l4 c4:Nat} {after:List Int} (h63:k<=9223372036854775807) (h:Ao R w a v d A) (hw:nWf i) (ho:nOk i=true) (hp:(gPlace A.s.geo k).2.2=0) (hlast:A.V.last+1<=1000000)
  (hal:after.length=l4) (ha6:l4<=1000000) (hb:badA A.V after=false) (hra:Row w a4 (iL after)) (hao:after≠[]->∀ q,a4=some q->¬ R q.block)
  (hk:∀ w' R',Mod R w w'->Sb R R' w->Ao R' w' a v d (setIA A k i after)->K (.tuple #[.int .i64 ((A.V.last:Int)+1),.int .i64 0]) w') :
  Cal Tryz.prog F_vol_Vol_SetInode #[.pointer (some ⟨v,0,none⟩),.int .i64 k,.agg ⟨nV i⟩,.slice a4 l4 c4] w K:=by
 apply C_vol_Vol_SetInode
 unfold D_vol_Vol_SetInode
 obtain ⟨w1,b1,b2,b3,b4⟩:=box_u (P:=Tryz.prog) (w:=w) (T:=51) (cs:=nV i)
 have h1:=h.nos b3
 obtain ⟨Rv,hv,_⟩:=h1.vol
 have hE:=setI_E (k:=k) (i:=i) h.hd hw hp hb
 obtain ⟨_,n0,n1,_,_,p1,p2⟩:=gPlace_b (g:=A.s.geo) (s:=k) (b:=(gPlace A.s.geo k).1) (p:=(gPlace A.s.geo k).2.1) (by rw [<- hp])
 refine ⟨_,w1,b1,wPlace_c h63 hv fun w2 m2=>⟨_,_,_,rfl,?_⟩⟩
 rw [hp]
 refine ff rfl ⟨_,(b2.keep m2 id).at.all agg_ino (nV_len hw),inoPut_c hw (fun e=>by rw [ho] at e; cases e) fun _ w3 q m3 hq hat=>⟨_,_,_,_,rfl,ff rfl ?_⟩⟩
 have h3:=(h1.nos m2).nos m3
 have M3:=(b3.no m2).no m3
 have z1:=b3.size
 have z2:=m2.size
 obtain ⟨w0,Rs,sp,wk,a1,a2,a3,a4'⟩:=h3.sto
 have hlt:=h.lt
 rw [wrap64 (x:=(gPlace A.s.geo k).2.1*64) (by omega) (by omega),Int.mul_comm]
 have hN:patN A.V (gPlace A.s.geo k).1 (64*(gPlace A.s.geo k).2.1) (inoB i) after=(A.V.last:Int)+1:=by unfold patN; rw [if_pos hE]; omega
 refine ⟨_,rfl,_,a2.at.fld sc_store rfl,qPatch_c (data:=inoB i) (after:=after) a1 hlast (inoB_len hw) (.inr ⟨q,0,rfl,hat.at⟩) (fun _ q' e=>by cases e; exact fun e=>by have:=hlt q (a3 q e); omega) (by omega) hal ha6 (hra.nos M3) (fun e q e' r=>hao e q e' (a3 _ r)) fun w4 m4 hP=>⟨_,_,rfl,?_⟩⟩
 rw [hE,hN]
 obtain ⟨M,R',s,hA⟩:=a4' w4 _ m4 hP (setI_H h.hd hw hp hb)
 exact hk w4 R' ((M3.mono fun _ _ e=>e.elim).trans M fun x _ e=>e) (s.up M3.size) hA
theorem aSetDat_c {b f:Int} {data:Bk} {a3 a4:Option Addr} {l3 c3 l4 c4:Nat} {after:List Int} (h:Ao R w a v d A) (hb:(gKind A.s.geo b).1=4) (hlast:A.V.last+1<=1000000)
  (hd:data.length=l3) (hl0:l3≠0) (f0:0<=f) (f1:f+l3<=256) (hrd:Row w a3 (u8L data)) (hdo:∀ q,a3=some q->¬ R q.block)
  (hal:after.length=l4) (ha6:l4<=1000000) (ha:badA A.V after=false) (hra:Row w a4 (iL after)) (hao:after≠[]->∀ q,a4=some q->¬ R q.block)
  (hk:∀ w' R',Mod R w w'->Sb R R' w->Ao R' w' a v d (setDA A b f data after)->K (.tuple #[.int .i64 ((A.V.last:Int)+1),.int .i64 0]) w') :
  Cal Tryz.prog F_vol_Vol_SetData #[.pointer (some ⟨v,0,none⟩),.int .i64 b,.int .i64 f,.slice a3 l3 c3,.slice a4 l4 c4] w K:=by
 apply C_vol_Vol_SetData
 unfold D_vol_Vol_SetData
 refine aData_c h hb fun w1 m1=>⟨_,rfl,ff rfl ?_⟩
 have h1:=h.nos m1
 have hE:=setD_E (f:=f) (data:=data) h.hd hb (by omega) f0 (by omega) ha
 have hN:patN A.V b f data after=(A.V.last:Int)+1:=by unfold patN; rw [if_pos hE]; omega
 obtain ⟨w0,Rs,sp,wk,a1,a2,a3,a4'⟩:=h1.sto
 refine ⟨_,rfl,_,a2.at.fld sc_store rfl,qPatch_c (data:=data) (after:=after) a1 hlast hd (hrd.nos m1) (fun _ q e r=>hdo q e (a3 _ r)) (by omega) hal ha6 (hra.nos m1) (fun e q e' r=>hao e q e' (a3 _ r)) fun w2 m2 hP=>⟨_,_,rfl,?_⟩⟩
 rw [hE,hN]
 obtain ⟨M,R',s,hA⟩:=a4' w2 _ m2 hP (setD_H h.hd hb hE)
 exact hk w2 R' ((m1.mono fun _ _ e=>e.elim).trans M fun x _ e=>e) (s.up m1.size) hA
theorem aGetDat_c {b:Int} (h:Ao R w a v d A) (hb:(gKind A.s.geo b).1=4)
  (hk:∀ w' R' g cc,Mod R w w'->Sb R R' w->Ao R' w' a v d A->w.heap.size<=g->¬ R' g->AtU w' g 0 (u8L (contV A.V b.toNat))->(contV A.V b.toNat).length=256->256<=cc->K (.tuple #[.slice (some ⟨g,0,none⟩) 256 cc,.int .i64 0]) w') :
  Cal Tryz.prog F_vol_Vol_Data #[.pointer (some ⟨v,0,none⟩),.int .i64 b] w K:=by
 apply C_vol_Vol_Data
 unfold D_vol_Vol_Data
 obtain ⟨_,b1,b2,_⟩:=gKind_4 hb
 refine aData_c h hb fun w1 m1=>⟨_,rfl,ff rfl ⟨_,rfl,?_⟩⟩
 have h1:=h.nos m1
 have hh:=h.hd
 have hlt:=h.lt
 have z1:=m1.size
 obtain ⟨Rv,hv,hRv,hc⟩:=h1.vol
 refine hv.rd (by omega) (by have:=hh.2.1; omega) fun w2 R2 g cc m2 s2 h2 hg hg2 hat hl hcc=>⟨_,_,_,_,rfl,?_⟩
 obtain ⟨c1,c2,c3⟩:=hc w2 R2 A.V A.W A.nx A.hs m2 s2 h2 hh
 refine hk w2 _ g cc ((m1.mono fun _ _ e=>e.elim).trans c1 fun x _ e=>e) (c2.up z1) c3 (by omega) (fun e=>?_) hat hl hcc
 rcases e with e | e
 ·have:=hlt g e; omega
 ·exact hg2 e
end
end Go.Proofs.YtandmpcjjaabmaaGreat
end
section
open Go Go.Den Go.Proofs
namespace Go.Proofs.YtandmpcjjaabmaaGreat
structure Fy where
 A:Az
 la:Int->Int
 mi:Int->List Int
def FiB (rb:Int->Option Addr) (f fl fm z:Nat):Prop:=z=f\/z=fl\/z=fm\/∃ k q,rb k=some q/\z=q.block
structure FoI (R:Nat->Prop) (w:World) (f a v d:Nat) (F:Fy) (Ra:Nat->Prop) (fl fm:Nat) (Ll Lm:List (Int×Value)) (rb:Int->Option Addr) (rc:Int->Nat):Prop where
 ao:Ao Ra w a v d F.A
 cl:AtU w f 0 [.pointer (some ⟨a,0,none⟩),.pointer (some ⟨v,0,none⟩),.map (some fl),.map (some fm)]
 ml:MapAt w fl Ll
 hl:∀ k,(lookupL Ll k).getD (.int .i64 0)=.int .i64 (F.la k)
 mm:MapAt w fm Lm
 hm:∀ k,(lookupL Lm k).getD (.slice none 0 0)=.slice (rb k) (F.mi k).length (rc k)
 ow:∀ k,Ow Tryz.prog w d 65 1 (rb k) (F.mi k).length (rc k) (iL (F.mi k))
 inj:∀ k k' q q',rb k=some q->rb k'=some q'->q.block=q'.block->k=k'
 ob:∀ z,FiB rb f fl fm z->¬ Ra z/\d<=z
 df:f≠fl/\f≠fm/\fl≠fm/\∀ k q,rb k=some q->q.block≠f/\q.block≠fl/\q.block≠fm
 rg:∀ z,Ra z\/FiB rb f fl fm z->R z
 lt:∀ z,R z->z<w.heap.size
def Fo (R:Nat->Prop) (w:World) (f a v d:Nat) (F:Fy):Prop:=∃ Ra fl fm Ll Lm rb rc,FoI R w f a v d F Ra fl fm Ll Lm rb rc
theorem mapLa:mapZ Tryz.prog 108=some (.int .i64 0):=by kernel_rfl
theorem mapMi:mapZ Tryz.prog 109=some (.slice none 0 0):=by kernel_rfl
theorem sc_la:scal Tryz.prog 108=true:=by kernel_rfl
theorem sc_mi:scal Tryz.prog 109=true:=by kernel_rfl
theorem nil_64s:Al (eqS .eql 65 (.tmp 3) (.const (.slice none 0 0)) (.slice none 0 0) (.slice none 0 0)) (.bool true):=fun _=>by kernel_rfl
theorem some_64s (a:Addr) (l c:Nat):Al (eqS .eql 65 (.tmp 3) (.const (.slice none 0 0)) (.slice (some a) l c) (.slice none 0 0)) (.bool false):=fun _=>by kernel_rfl
theorem built640 (w:World):(Instr.buildSlice 65 0 #[]).run Tryz.prog w=.ok (.slice (some ⟨w.heap.size,0,none⟩) 0 0) (w.alloc (.cells #[] 2)):=by kernel_rfl
section
variable {w w':World} {R R' Ra:Nat->Prop} {f a v d fl fm:Nat} {F:Fy} {Ll Lm:List (Int×Value)} {rb:Int->Option Addr} {rc:Int->Nat} {K:Value->World->Prop}
theorem FoI.keep {S:Nat->Prop} (h:FoI R w f a v d F Ra fl fm Ll Lm rb rc) (m:Mod S w w') (hS:∀ z,R z->¬ S z) (hd:∀ z,S z->d<=z):FoI R w' f a v d F Ra fl fm Ll Lm rb rc where
 ao:=h.ao.keep m (fun z hz=>hS z (h.rg z (.inl hz))) hd
 cl:=h.cl.keep m (hS f (h.rg f (.inr (.inl rfl))))
 ml:=h.ml.keep m (hS fl (h.rg fl (.inr (.inr (.inl rfl)))))
 hl:=h.hl
 mm:=h.mm.keep m (hS fm (h.rg fm (.inr (.inr (.inr (.inl rfl))))))
 hm:=h.hm
 ow:=fun k=>(h.ow k).keep m fun q e=>hS _ (h.rg _ (.inr (.inr (.inr (.inr ⟨k,q,e,rfl⟩)))))
 inj:=h.inj
 ob:=h.ob
 df:=h.df
 rg:=h.rg
 lt:=fun z hz=>Nat.lt_of_lt_of_le (h.lt z hz) m.size
theorem Fo.keep {S:Nat->Prop} (h:Fo R w f a v d F) (m:Mod S w w') (hS:∀ z,R z->¬ S z) (hd:∀ z,S z->d<=z):Fo R w' f a v d F:=by
 obtain ⟨Ra,fl,fm,Ll,Lm,rb,rc,h⟩:=h
 exact ⟨Ra,fl,fm,Ll,Lm,rb,rc,h.keep m hS hd⟩
theorem FoI.nos (h:FoI R w f a v d F Ra fl fm Ll Lm rb rc) (m:Mod No w w'):FoI R w' f a v d F Ra fl fm Ll Lm rb rc:=h.keep m (fun _ _ e=>e) fun _ e=>e.elim
theorem Fo.nos (h:Fo R w f a v d F) (m:Mod No w w'):Fo R w' f a v d F:=h.keep m (fun _ _ e=>e) fun _ e=>e.elim
theorem Fo.lt (h:Fo R w f a v d F):∀ z,R z->z<w.heap.size:=by obtain ⟨_,_,_,_,_,_,_,h⟩:=h; exact h.lt
theorem Fo.dlt (h:Fo R w f a v d F):d<=f/\f<w.heap.size/\R f:=by
 obtain ⟨_,_,_,_,_,_,_,h⟩:=h
 exact ⟨(h.ob f (.inl rfl)).2,h.cl.lt,h.rg f (.inr (.inl rfl))⟩
theorem Fo.own {q:Nat} (h:Fo R w f a v d F) (m:Mod (fun x=>x=q) w w') (hq:¬ R q) (h0:d<=q):Fo R w' f a v d F :=
 h.keep m (fun z hz e=>by have e:z=q:=e; rw [e] at hz; exact hq hz) fun z e=>by have e:z=q:=e; omega
theorem Fo.pv (h:Fo R w f a v d F):Ru (Instr.loadAt 41 (.pointer (some (Addr.add ⟨f,0,none⟩ 1)))) w (.pointer (some ⟨v,0,none⟩)) w:=by
 obtain ⟨_,_,_,_,_,_,_,h⟩:=h
 exact h.cl.at.fld sc_pvol rfl
theorem Fo.pa (h:Fo R w f a v d F):Ru (Instr.loadAt 73 (.pointer (some (Addr.add ⟨f,0,none⟩ 0)))) w (.pointer (some ⟨a,0,none⟩)) w:=by
 obtain ⟨_,_,_,_,_,_,_,h⟩:=h
 exact h.cl.at.fld sc_palloc rfl
theorem FoI.alc (h:FoI R w f a v d F Ra fl fm Ll Lm rb rc) {Ra':Nat->Prop} {A':Az} (m:Mod Ra w w') (s:Sb Ra Ra' w) (hA:Ao Ra' w' a v d A') :
  Mod R w w'/\Sb R (fun z=>R z\/Ra' z) w/\FoI (fun z=>R z\/Ra' z) w' f a v d ⟨A',F.la,F.mi⟩ Ra' fl fm Ll Lm rb rc:=by
 have no:∀ z,FiB rb f fl fm z->z<w.heap.size/\¬ Ra z:=fun z hz=>⟨h.lt z (h.rg z (.inr hz)),(h.ob z hz).1⟩
 refine ⟨m.mono fun x _ e=>h.rg x (.inl e),fun z hz=>hz.elim .inl fun e=>(s z e).imp (fun e=>h.rg z (.inl e)) id,?_⟩
 exact {
  ao:=hA
  cl:=h.cl.keep m (no f (.inl rfl)).2
  ml:=h.ml.keep m (no fl (.inr (.inl rfl))).2
  hl:=h.hl
  mm:=h.mm.keep m (no fm (.inr (.inr (.inl rfl)))).2
  hm:=h.hm
  ow:=fun k=>(h.ow k).keep m fun q e=>(no _ (.inr (.inr (.inr ⟨k,q,e,rfl⟩)))).2
  inj:=h.inj
  ob:=fun z hz=>⟨fun e=>(s z e).elim (no z hz).2 fun e=>by have:=(no z hz).1; omega,(h.ob z hz).2⟩
  df:=h.df
  rg:=fun z hz=>hz.elim .inr fun e=>.inl (h.rg z (.inr e))
  lt:=fun z hz=>hz.elim (fun e=>Nat.lt_of_lt_of_le (h.lt z e) m.size) fun e=>hA.lt z e }
theorem Fo.alc (h:Fo R w f a v d F):∃ Ra,Ao Ra w a v d F.A/\(∀ z,Ra z->R z)/\∀ (w':World) (Ra':Nat->Prop) (A':Az),Mod Ra w w'->Sb Ra Ra' w->Ao Ra' w' a v d A' ->
  Mod R w w'/\Sb R (fun z=>R z\/Ra' z) w/\Fo (fun z=>R z\/Ra' z) w' f a v d ⟨A',F.la,F.mi⟩:=by
 obtain ⟨Ra,fl,fm,Ll,Lm,rb,rc,h⟩:=h
 refine ⟨Ra,h.ao,fun z hz=>h.rg z (.inl hz),fun w' Ra' A' m s hA=>?_⟩
 obtain ⟨c1,c2,c3⟩:=h.alc m s hA
 exact ⟨c1,c2,_,_,_,_,_,_,_,c3⟩
def miF (F:Fy) (k:Int) (xs:List Int):Fy:=⟨F.A,F.la,fun n=>if n=k then xs else F.mi n⟩
theorem FoI.row {k:Int} {b:Option Addr} {c':Nat} {xs:List Int} (h:FoI R w f a v d F Ra fl fm Ll Lm rb rc) (m:Mod (fun x=>∃ q,rb k=some q/\x=q.block) w w') (o:Ow Tryz.prog w' d 65 1 b xs.length c' (iL xs))
  (hq:∀ q,b=some q->(∃ q',rb k=some q'/\q.block=q'.block)\/w.heap.size<=q.block) :
  ∃ w4,RuU (Instr.mapUpdate 109 (.map (some fm)) (.int .i64 k) (.slice b xs.length c')) w' w4/\Mod R w w4/\Sb R (fun z=>R z\/∃ q,b=some q/\z=q.block) w/\Fo (fun z=>R z\/∃ q,b=some q/\z=q.block) w4 f a v d (miF F k xs):=by
 have hR:∀ z,FiB rb f fl fm z->R z:=fun z hz=>h.rg z (.inr hz)
 have ok:∀ z,(z=f\/z=fl\/z=fm)->¬ ∃ q,rb k=some q/\z=q.block:=by
  rintro z hz ⟨q,e,rfl⟩
  obtain ⟨d1,d2,d3⟩:=h.df.2.2.2 k q e
  rcases hz with hz | hz | hz
  ·exact d1 hz
  ·exact d2 hz
  ·exact d3 hz
 obtain ⟨w4,u1,u2,u3,u4⟩:=update_run (P:=Tryz.prog) (k:=k) (v:=.slice b xs.length c') mapMi (h.mm.keep m (ok fm (.inr (.inr rfl))))
 have M:Mod R w w4:=(m.mono fun x _ e=>by obtain ⟨q,e,rfl⟩:=e; exact hR _ (.inr (.inr (.inr ⟨k,q,e,rfl⟩)))).trans u3 fun x _ e=>by have e:x=fm:=e; rw [e]; exact hR fm (.inr (.inr (.inl rfl)))
 have nq:∀ q,b=some q->q.block≠f/\q.block≠fl/\q.block≠fm/\¬ Ra q.block/\d<=q.block:=by
  intro q e
  rcases hq q e with ⟨q',e',e2⟩ | e2
  ·rw [e2]
   obtain ⟨d1,d2,d3⟩:=h.df.2.2.2 k q' e'
   have:=h.ob q'.block (.inr (.inr (.inr ⟨k,q',e',rfl⟩)))
   exact ⟨d1,d2,d3,this⟩
  ·have hl:=fun z hz=>h.lt z (hR z hz)
   have x1:=hl f (.inl rfl)
   have x2:=hl fl (.inr (.inl rfl))
   have x3:=hl fm (.inr (.inr (.inl rfl)))
   have x4:=(h.ob f (.inl rfl)).2
   exact ⟨by omega,by omega,by omega,fun r=>by have:=h.lt _ (h.rg _ (.inl r)); omega,by omega⟩
 have nm:∀ q,b=some q->q.block≠fm:=fun q e=>(nq q e).2.2.1
 have other:∀ n q,n≠k->rb n=some q->∀ q',b=some q'->q.block≠q'.block:=by
  intro n q hn e q' e' hb
  rcases hq q' e' with ⟨q2,e2,e3⟩ | e2
  ·exact hn (h.inj n k q q2 e e2 (by omega))
  ·have:=h.lt _ (hR _ (.inr (.inr (.inr ⟨n,q,e,rfl⟩)))); omega
 have ao:=h.ao
 refine ⟨w4,u1,M,fun z hz=>?_,Ra,fl,fm,Ll,putL k (.slice b xs.length c') Lm,fun n=>if n=k then b else rb n,fun n=>if n=k then c' else rc n,?_⟩
 ·rcases hz with hz | ⟨q,e,rfl⟩
  ·exact .inl hz
  ·rcases hq q e with ⟨q',e',e2⟩ | e2
   ·rw [e2]; exact .inl (hR q'.block (.inr (.inr (.inr ⟨k,q',e',rfl⟩))))
   ·exact .inr e2
 have nR:∀ z,Ra z->¬ (∃ q,rb k=some q/\z=q.block)/\z≠fm:=fun z hz=>by
  refine ⟨?_,fun e=>(h.ob fm (.inr (.inr (.inl rfl)))).1 (e ▸ hz)⟩
  rintro ⟨q,e,rfl⟩
  exact (h.ob _ (.inr (.inr (.inr ⟨k,q,e,rfl⟩)))).1 hz
 have fib:∀ z,FiB (fun n=>if n=k then b else rb n) f fl fm z->FiB rb f fl fm z\/∃ q,b=some q/\z=q.block:=by
  rintro z (e | e | e | ⟨n,q,e,rfl⟩)
  ·exact .inl (.inl e)
  ·exact .inl (.inr (.inl e))
  ·exact .inl (.inr (.inr (.inl e)))
  ·have e:(if n=k then b else rb n)=some q:=e
   split at e
   ·exact .inr ⟨q,e,rfl⟩
   ·exact .inl (.inr (.inr (.inr ⟨n,q,e,rfl⟩)))
 exact {
  ao:=(ao.keep m (fun z hz=>(nR z hz).1) fun z e=>by obtain ⟨q,e,rfl⟩:=e; exact (h.ob _ (.inr (.inr (.inr ⟨k,q,e,rfl⟩)))).2).keep u3 (fun z hz=>(nR z hz).2) fun z e=>by have e:z=fm:=e; rw [e]; exact (h.ob fm (.inr (.inr (.inl rfl)))).2
  cl:=(h.cl.keep m (ok f (.inl rfl))).keep u3 h.df.2.1
  ml:=(h.ml.keep m (ok fl (.inr (.inl rfl)))).keep u3 h.df.2.2.1
  hl:=h.hl
  mm:=u2
  hm:=fun n=>by
   rw [look_put]
   show (if k=n then some (Value.slice b xs.length c') else lookupL Lm n).getD (.slice none 0 0)=Value.slice (if n=k then b else rb n) (if n=k then xs else F.mi n).length (if n=k then c' else rc n)
   by_cases e:n=k
   ·rw [if_pos e.symm,if_pos e,if_pos e,if_pos e]; rfl
   ·rw [if_neg (Ne.symm e),if_neg e,if_neg e,if_neg e]; exact h.hm n
  ow:=fun n=>by
   show Ow Tryz.prog w4 d _ 1 (if n=k then b else rb n) (if n=k then xs else F.mi n).length (if n=k then c' else rc n) (iL (if n=k then xs else F.mi n))
   by_cases e:n=k
   ·rw [if_pos e,if_pos e,if_pos e]; exact o.keep u3 nm
   ·rw [if_neg e,if_neg e,if_neg e]
    refine ((h.ow n).keep m fun q eq=>?_).keep u3 fun q eq=>(h.df.2.2.2 n q eq).2.2
    rintro ⟨q',e',hb⟩
    exact e (h.inj n k q q' eq e' hb)
  inj:=fun n n' q q' e e' hb=>by
   have e:(if n=k then b else rb n)=some q:=e
   have e':(if n'=k then b else rb n')=some q':=e'
   by_cases hn:n=k
   ·by_cases hn':n'=k
    ·rw [hn,hn']
    ·rw [if_pos hn] at e
     rw [if_neg hn'] at e'
     exact absurd hb.symm (other n' q' hn' e' q e)
   ·by_cases hn':n'=k
    ·rw [if_neg hn] at e
     rw [if_pos hn'] at e'
     exact absurd hb (other n q hn e q' e')
    ·rw [if_neg hn] at e
     rw [if_neg hn'] at e'
     exact h.inj n n' q q' e e' hb
  ob:=fun z hz=>by
   rcases fib z hz with e | ⟨q,e,rfl⟩
   ·exact h.ob z e
   ·exact (nq q e).2.2.2
  df:=⟨h.df.1,h.df.2.1,h.df.2.2.1,fun n q e=>by
   have e:(if n=k then b else rb n)=some q:=e
   split at e
   ·exact ⟨(nq q e).1,(nq q e).2.1,(nq q e).2.2.1⟩
   ·exact h.df.2.2.2 n q e⟩
  rg:=fun z hz=>by
   rcases hz with hz | hz
   ·exact .inl (h.rg z (.inl hz))
   ·exact (fib z hz).imp (hR z) id
  lt:=fun z hz=>by
   have z1:=m.size
   rcases hz with hz | ⟨q,e,rfl⟩
   ·have:=h.lt z hz; omega
   ·have:=(o.base e).2; omega }
end
end Go.Proofs.YtandmpcjjaabmaaGreat
end
section
open Go Go.Den Go.Proofs
namespace Go.Proofs.YtandmpcjjaabmaaGreat
def MuF (F:Fy):Prop:=∀ k,∀ x∈F.mi k,F.A.V.opn x=true/\1<=x/\x<=(F.A.V.last:Int)
section
variable {w w':World} {R R' Ra:Nat->Prop} {f a v d fl fm:Nat} {F:Fy} {Ll Lm:List (Int×Value)} {rb:Int->Option Addr} {rc:Int->Nat} {K:Value->World->Prop}
theorem Del0_c {a:Option Addr} {l c:Nat} {xs:List Int} {v:Value} {p:Int->Bool} (hl:xs.length=l) (h63:l<=1000000000) (hr:Row w a (iL xs)) (ht:Tells v w No p xs) (hp:∀ x∈xs,p x=false)
  (hk:∀ w',Mod No w w'->K (.slice a l c) w'):Cal Tryz.prog F_slices_DeleteFunc_int64 #[.slice a l c,v] w K:=by
 apply C_slices_DeleteFunc_int64
 unfold D_slices_DeleteFunc_int64
 refine IndexFunc64_c hl (by omega) hr ht fun w1 m1=>⟨_,rfl,?_⟩
 rcases idxF_cases p xs 0 with ⟨e,_⟩ | ⟨i0,x0,_,hx0,hp0,_⟩
 ·rw [e]; exact tt rfl (hk w1 m1)
 ·have:=hp x0 (List.mem_of_getElem? hx0)
  rw [hp0] at this; cases this
theorem Clone64_c {a:Option Addr} {l c:Nat} {xs:List Int} (hr:Row w a (iL xs)) (hl:xs.length=l) (h0:a=none->l=0/\c=0) (h63:l<=1000000000)
  (hk:∀ w' a' c',Ow Tryz.prog w' w.heap.size 65 1 a' l c' (iL xs)->Mod No w w'->K (.slice a' l c') w'):Cal Tryz.prog F_slices_Clone_int64 #[.slice a l c] w K:=by
 apply C_slices_Clone_int64
 unfold D_slices_Clone_int64
 cases a with
 | none =>
  obtain ⟨rfl,rfl⟩:=h0 rfl
  have hx:xs=[]:=List.eq_nil_of_length_eq_zero hl
  subst hx
  exact ⟨_,nil_64s,tt rfl (hk w none 0 (Ow.nil elemZ_64) (Mod.refl _ _))⟩
 | some q =>
  refine ⟨_,some_64s _ _ _,ff rfl ⟨_,_,_,_,built640 w,?_⟩⟩
  have m1:Mod No w (w.alloc (.cells #[] 2)):=(Mod.refl No w).alloc _
  have hu:Tryz.prog.underlying 65=some (.slice 2):=by kernel_rfl
  obtain ⟨a',c',w2,h2,o2,m2⟩:=(own_empty (w:=w) (k:=1) hu).append (ty:=65) elemZ_64 (by omega) (a2:=some q) (m:=l) (c2:=c) (ys:=iL xs) (hr.nos m1) (by simp [hl]) (fun e=>by cases e) (one_iL xs) (by omega) (by omega) (by simp)
  rw [Nat.zero_add,List.nil_append] at *
  exact ⟨_,_,_,w2,h2,hk w2 a' c' o2 (m1.up m2 (Nat.le_refl _))⟩
theorem fReal_c {a:Option Addr} {l c:Nat} {xs:List Int} (hr:Row w a (iL xs)) (hl:xs.length=l) (h0:a=none->l=0/\c=0) (h63:l<=1000000) (hx:∀ x∈xs,1<=x)
  (hk:∀ w' a' c',Ow Tryz.prog w' w.heap.size 65 1 a' l c' (iL xs)->Mod No w w'->K (.slice a' l c') w'):Cal Tryz.prog F_file_real #[.slice a l c] w K:=by
 apply C_file_real
 unfold D_file_real
 refine Clone64_c hr hl h0 (by omega) fun w1 a1 c1 o1 m1=>⟨_,_,_,rfl,Del0_c (p:=fun x=>x==0) hl (by omega) o1.rowU.row (fun w2 m2 x hx K hK=>⟨_,_,_,rfl,C_file_real_1 _ _ _ (hK w2 (Mod.refl _ _))⟩) (fun x h=>?_) fun w2 m2=>⟨_,_,_,rfl,hk w2 a1 c1 (o1.nos m2) (m1.no m2)⟩⟩
 have:=hx x h
 simp; omega
theorem FoI.open' {k:Int} (h:FoI R w f a v d F Ra fl fm Ll Lm rb rc) (hm:∀ x∈F.mi k,F.A.V.opn x=true) (hl:(F.mi k).length<=1000000) (hk:∀ w',Mod No w w'->K (.slice (rb k) (F.mi k).length (rc k)) w') :
  Cal Tryz.prog F_file_Files_open #[.pointer (some ⟨f,0,none⟩),.int .i64 k] w K:=by
 apply C_file_Files_open
 unfold D_file_Files_open
 have M:Mod No w (Go.Den.drew w):=(Mod.refl _ _).drew
 have h1:=h.nos M
 obtain ⟨w0,Rs,sp,wk,a1,a2,_⟩:=h1.ao.sto
 have lk:∀ {u:World},MapAt u fm Lm->Ru (Instr.lookup 109 (.map (some fm)) (.int .i64 k) false) u (.slice (rb k) (F.mi k).length (rc k)) u:=fun hu=>by
  have:=lookup_run (P:=Tryz.prog) (k:=k) mapMi hu
  rw [h.hm k] at this
  exact this
 refine ⟨_,rfl,_,h1.cl.at.fld sc_mi rfl,_,_,_,lk h1.mm,_,rfl,_,h1.cl.at.fld sc_pvol rfl,aStore_c a2 ⟨_,rfl,h1.cl.at.fld sc_mi rfl,lk h1.mm,?_⟩⟩
 refine Del0_c (p:=safeV F.A.V) rfl (by omega) (h1.ow k).rowU.row (fun w2 m2 x hx K hK=>⟨_,_,_,rfl,qSafe_c (a1.nos m2) (hK w2 (Mod.refl _ _))⟩) (fun x hx=>opn_safe (hm x hx)) fun w2 m2=>⟨_,_,_,rfl,hk w2 (M.no m2)⟩
theorem fNote_c {k x0:Int} (h:Fo R w f a v d F) (hm:∀ x∈F.mi k,F.A.V.opn x=true) (hl:(F.mi k).length<=1000000) (hk:∀ w' R',Mod R w w'->Sb R R' w->Fo R' w' f a v d (miF F k (F.mi k++[x0]))->K (.tuple #[]) w') :
  Cal Tryz.prog F_file_Files_note #[.pointer (some ⟨f,0,none⟩),.int .i64 k,.int .i64 x0] w K:=by
 apply C_file_Files_note
 unfold D_file_Files_note
 obtain ⟨Ra,fl,fm,Ll,Lm,rb,rc,h⟩:=h
 have M:Mod No w (Go.Den.drew w):=(Mod.refl _ _).drew
 have h1:=h.nos M
 have hd:∀ {u:World},Mod No w u->d<=u.heap.size:=fun m=>by have:=(h.ob f (.inl rfl)).2; have:=h.cl.lt; have:=m.size; omega
 have step:∀ (u:World),Mod No w u->∀ g:Nat,AtU u g 0 [.int .i64 x0]->g<u.heap.size->∃ (a16:Option Addr) (l16 c16:Nat),∃ w3:World,Ru (Builtin.append_ #[65,65] 65 #[.slice (rb k) (F.mi k).length (rc k),.slice (some ⟨g,0,none⟩) 1 1]) u (.slice a16 l16 c16) w3/\Ru (Instr.loadAt 109 (.pointer (some (Addr.add ⟨f,0,none⟩ 3)))) w3 (.map (some fm)) w3/\∃ w4:World,RuU (Instr.mapUpdate 109 (.map (some fm)) (.int .i64 k) (.slice a16 l16 c16)) w3 w4/\K (.tuple #[]) w4:=by
  intro u mu g hg hgl
  have hu:=h.nos mu
  obtain ⟨q,c',w3,r1,r2,r3,r4⟩:=(hu.ow k).app (ty:=65) (m:=1) (c2:=1) (ad:=⟨g,0,none⟩) (ys:=[.int .i64 x0]) elemZ_64 (by omega) (.inr ⟨_,_,rfl,hg.at⟩) rfl (by omega) (by simp; rfl) (by omega) (by omega) (hd mu)
  have e:iL (F.mi k)++[Value.int .i64 x0]=iL (F.mi k++[x0]):=by simp [iL]; rfl
  have e2:(F.mi k).length+1=(F.mi k++[x0]).length:=by simp
  rw [e,e2] at r2
  rw [e2] at r1
  obtain ⟨w4,u1,u2,u3,u4⟩:=hu.row (k:=k) r3 r2 fun q' e=>by cases e; exact r4
  refine ⟨_,_,_,w3,r1,(hu.cl.keep r3 (fun ⟨q',e,e2⟩=>(h.df.2.2.2 k q' e).1 e2.symm)).at.fld sc_mi rfl,w4,u1,hk w4 _ ?_ (u3.up mu.size) u4⟩
  exact (mu.mono fun _ _ e=>e.elim).trans u2 fun _ _ e=>e
 refine ⟨_,rfl,_,h1.cl.at.fld sc_mi rfl,?_,?_⟩
 ·refine h1.open' hm hl fun w1 m1=>⟨_,_,_,rfl,(h1.nos m1).cl.at.fld sc_mi rfl,?_⟩
  have ma:Mod No w1 (w1.alloc (.cells ⟨[.int .i64 x0]⟩ 2)):=(Mod.refl No w1).alloc _
  exact ⟨_,_,_,_,builtI64 w1 x0,((h1.nos m1).nos ma).cl.at.fld sc_mi rfl,step _ ((M.no m1).no ma) _ AtU.new (by simp)⟩
 ·have ma:Mod No (Go.Den.drew w) ((Go.Den.drew w).alloc (.cells ⟨[.int .i64 x0]⟩ 2)):=(Mod.refl No _).alloc _
  have h2:=h1.nos ma
  refine ⟨_,_,_,_,builtI64 _ x0,h2.cl.at.fld sc_mi rfl,h2.open' hm hl fun w1 m1=>⟨_,_,_,rfl,(h2.nos m1).cl.at.fld sc_mi rfl,step _ ((M.no ma).no m1) _ (AtU.new.keep m1 id) ?_⟩⟩
  exact ((AtU.new (w:=Go.Den.drew w)).keep m1 id).lt
theorem fChanges_c {k:Int} (h:Fo R w f a v d F) (hm:∀ x∈F.mi k,F.A.V.opn x=true) (hl:(F.mi k).length<=1000000)
  (hk:∀ w' R' a' c',Mod R w w'->Sb R R' w->Fo R' w' f a v d F->Ow Tryz.prog w' w.heap.size 65 1 a' (F.mi k).length c' (iL (F.mi k))->(∀ q,a'=some q->¬ R' q.block)->K (.slice a' (F.mi k).length c') w') :
  Cal Tryz.prog F_file_Files_Changes #[.pointer (some ⟨f,0,none⟩),.int .i64 k] w K:=by
 apply C_file_Files_Changes
 unfold D_file_Files_Changes
 have hF:=h
 have hlt:=h.lt
 obtain ⟨Ra,fl,fm,Ll,Lm,rb,rc,h⟩:=h
 have M:Mod No w (Go.Den.drew w):=(Mod.refl _ _).drew
 have h1:=h.nos M
 refine ff rfl ⟨_,rfl,_,h1.cl.at.fld sc_mi rfl,h1.open' hm hl fun w1 m1=>⟨_,_,_,rfl,?_⟩⟩
 have h2:=h1.nos m1
 obtain ⟨w2,u1,u2,u3,u4⟩:=h2.row (k:=k) (w':=w1) (b:=rb k) (c':=rc k) (xs:=F.mi k) (Mod.refl _ _) (h2.ow k) fun q e=>.inl ⟨q,e,rfl⟩
 have eF:miF F k (F.mi k)=F:=by
  show (⟨F.A,F.la,fun n=>if n=k then F.mi k else F.mi n⟩:Fy)=F
  have:(fun n=>if n=k then F.mi k else F.mi n)=F.mi:=funext fun n=>by split; rename_i e; rw [e]; rfl
  rw [this]
 rw [eF] at u4
 have M2:Mod No w w1:=M.no m1
 have z2:=M2.size
 have u4':=u4
 obtain ⟨Ra',fl',fm',Ll',Lm',rb',rc',h3⟩:=u4
 have lk:Ru (Instr.lookup 109 (.map (some fm')) (.int .i64 k) false) w2 (.slice (rb' k) (F.mi k).length (rc' k)) w2:=by
  have:=lookup_run (P:=Tryz.prog) (k:=k) mapMi h3.mm
  rw [h3.hm k] at this
  exact this
 refine ⟨h2.cl.at.fld sc_mi rfl,w2,u1,_,rfl,_,h3.cl.at.fld sc_mi rfl,_,_,_,lk,Clone64_c (h3.ow k).rowU.row rfl (fun e=>by have:=h3.ow k; rw [e] at this; exact this.zero) (by omega) fun w3 a' c' o m3=>⟨_,_,_,rfl,?_⟩⟩
 have z3:=u2.size
 refine hk w3 _ a' c' (((M2.mono fun _ _ e=>e.elim).trans u2 fun _ _ e=>e).no m3) (u3.up z2) (u4'.nos m3) (o.mono (by omega)) fun q e r=>?_
 have:=(o.base e).1
 have:=u4'.lt _ r
 omega
end
end Go.Proofs.YtandmpcjjaabmaaGreat
end
section
open Go Go.Den Go.Proofs
namespace Go.Proofs.YtandmpcjjaabmaaGreat
def putF (F:Fy) (k:Int) (i:Nd) (after:List Int):Fy:=⟨setIA F.A k i after,fun n=>if n=k then (F.A.V.last:Int)+1 else F.la n,fun n=>if n=k then F.mi k++[(F.A.V.last:Int)+1] else F.mi n⟩
def setF (F:Fy) (k b f:Int) (data:Bk) (after:List Int):Fy:=⟨setDA F.A b f data after,F.la,fun n=>if n=k then F.mi k++[(F.A.V.last:Int)+1] else F.mi n⟩
theorem badA_of {V:Ps} {xs:List Int} (h:∀ x∈xs,1<=x/\x<=(V.last:Int)):badA V xs=false:=by
 unfold badA
 rw [List.any_eq_false]
 intro x hx
 have:=h x hx
 rw [decide_eq_true this]; decide
section
variable {w w':World} {R R' Ra:Nat->Prop} {f a v d fl fm:Nat} {F:Fy} {Ll Lm:List (Int×Value)} {rb:Int->Option Addr} {rc:Int->Nat} {K:Value->World->Prop}
theorem Fo.la1 {k x:Int} (h:Fo R w f a v d F):∃ fl,Ru (Instr.loadAt 108 (.pointer (some (Addr.add ⟨f,0,none⟩ 2)))) w (.map (some fl)) w/\∃ w4,RuU (Instr.mapUpdate 108 (.map (some fl)) (.int .i64 k) (.int .i64 x)) w w4/\Mod R w w4/\Fo R w4 f a v d ⟨F.A,fun n=>if n=k then x else F.la n,F.mi⟩:=by
 obtain ⟨Ra,fl,fm,Ll,Lm,rb,rc,h⟩:=h
 obtain ⟨w4,u1,u2,u3,u4⟩:=update_run (P:=Tryz.prog) (k:=k) (v:=.int .i64 x) mapLa h.ml
 have hfl:=h.ob fl (.inr (.inl rfl))
 refine ⟨fl,h.cl.at.fld sc_la rfl,w4,u1,u3.mono fun z _ e=>by have e:z=fl:=e; rw [e]; exact h.rg fl (.inr (.inr (.inl rfl))),Ra,fl,fm,putL k (.int .i64 x) Ll,Lm,rb,rc,?_⟩
 exact {
  ao:=h.ao.keep u3 (fun z hz e=>by have e:z=fl:=e; rw [e] at hz; exact hfl.1 hz) fun z e=>by have e:z=fl:=e; rw [e]; exact hfl.2
  cl:=h.cl.keep u3 h.df.1
  ml:=u2
  hl:=fun n=>by
   rw [look_put]
   show (if k=n then some (Value.int .i64 x) else lookupL Ll n).getD (.int .i64 0)=.int .i64 (if n=k then x else F.la n)
   by_cases e:n=k
   ·rw [if_pos e.symm,if_pos e]; rfl
   ·rw [if_neg (Ne.symm e),if_neg e]; exact h.hl n
  mm:=h.mm.keep u3 fun e=>h.df.2.2.1 e.symm
  hm:=h.hm
  ow:=fun n=>(h.ow n).keep u3 fun q e=>(h.df.2.2.2 n q e).2.1
  inj:=h.inj
  ob:=h.ob
  df:=h.df
  rg:=h.rg
  lt:=fun z hz=>by rw [u4]; exact h.lt z hz }
theorem fPut_c {k:Int} {i:Nd} {a4:Option Addr} {l4 c4:Nat} {after:List Int} (h63:k<=9223372036854775807) (h:Fo R w f a v d F) (hM:MuF F) (hw:nWf i) (ho:nOk i=true) (hp:(gPlace F.A.s.geo k).2.2=0) (hlast:F.A.V.last+1<=1000000) (hml:(F.mi k).length<=1000000)
  (hal:after.length=l4) (h0:a4=none->l4=0/\c4=0) (ha6:l4<=1000000) (hb:∀ x∈after,1<=x/\x<=(F.A.V.last:Int)) (hra:Row w a4 (iL after))
  (hk:∀ w' R',Mod R w w'->Sb R R' w->Fo R' w' f a v d (putF F k i after)->K (.tuple #[.int .i64 ((F.A.V.last:Int)+1),.int .i64 0]) w') :
  Cal Tryz.prog F_file_Files_Put #[.pointer (some ⟨f,0,none⟩),.int .i64 k,.agg ⟨nV i⟩,.slice a4 l4 c4] w K:=by
 apply C_file_Files_Put
 unfold D_file_Files_Put
 obtain ⟨w1,b1,b2,b3,b4⟩:=box_u (P:=Tryz.prog) (w:=w) (T:=51) (cs:=nV i)
 have M1:Mod No w (Go.Den.drew w1):=b3.drew
 have h1:=h.nos M1
 have q1:=b2.drew
 refine ⟨_,w1,b1,ff rfl ⟨_,rfl,_,h1.pv,_,q1.at.all agg_ino (nV_len hw),fReal_c (hra.nos M1) hal h0 ha6 (fun x hx=>(hb x hx).1) fun w2 a' c' o2 m2=>⟨_,_,_,rfl,(h1.nos m2).pv,(q1.keep m2 id).at.all agg_ino (nV_len hw),?_⟩⟩⟩
 have h2:=h1.nos m2
 obtain ⟨Ra,hA,hRa,hc⟩:=h2.alc
 have hlt:=h1.lt
 have hbad:=badA_of (V:=F.A.V) (xs:=after) hb
 have M2:=M1.no m2
 refine aSetIno_c h63 hA hw ho hp hlast hal ha6 hbad o2.rowU.row (fun _ q e r=>by have:=(o2.base e).1; have:=hlt _ (hRa _ r); omega) fun w3 R3 m3 s3 h3=>⟨_,_,rfl,?_⟩
 obtain ⟨c1,c2,c3⟩:=hc w3 R3 _ m3 s3 h3
 have S3:=c2.up M2.size
 have MM:Mod R w w3:=(M2.mono fun _ _ e=>e.elim).trans c1 fun _ _ e=>e
 have hE:=setI_E (k:=k) (i:=i) hA.hd hw hp hbad
 refine Share.dup (tt rfl ?_)
 obtain ⟨fl,l1,w4,l2,l3,l4⟩:=c3.la1 (k:=k) (x:=(F.A.V.last:Int)+1)
 refine ⟨_,rfl,_,l1,w4,l2,fNote_c l4 (fun x hx=>opn_pat _ _ _ _ ((hM k x hx).1)) hml fun w5 R5 m5 s5 h5=>⟨rfl,hk w5 R5 ?_ ?_ h5⟩⟩
 ·exact Mod.sb (Mod.sb MM S3 l3) S3 (Mod.sb (Mod.refl _ _) (Sb.refl _ _) m5)
 ·have:=MM.size
  have:=l3.size
  exact S3.trans (s5.up (Nat.le_refl _)) (by omega)
theorem fSet_c {k b f0:Int} {data:Bk} {a3 a4:Option Addr} {l3 c3 l4 c4:Nat} {after:List Int} (h:Fo R w f a v d F) (hM:MuF F) (hb:(gKind F.A.s.geo b).1=4) (hlast:F.A.V.last+1<=1000000) (hml:(F.mi k).length<=1000000)
  (hd:data.length=l3) (hl0:l3≠0) (f00:0<=f0) (f1:f0+l3<=256) (hrd:Row w a3 (u8L data)) (hdo:∀ q,a3=some q->¬ R q.block)
  (hal:after.length=l4) (ha6:l4<=1000000) (ha:∀ x∈after,1<=x/\x<=(F.A.V.last:Int)) (hra:Row w a4 (iL after)) (hao:after≠[]->∀ q,a4=some q->¬ R q.block)
  (hk:∀ w' R',Mod R w w'->Sb R R' w->Fo R' w' f a v d (setF F k b f0 data after)->K (.tuple #[.int .i64 ((F.A.V.last:Int)+1),.int .i64 0]) w') :
  Cal Tryz.prog F_file_Files_set #[.pointer (some ⟨f,0,none⟩),.int .i64 k,.int .i64 b,.int .i64 f0,.slice a3 l3 c3,.slice a4 l4 c4] w K:=by
 apply C_file_Files_set
 unfold D_file_Files_set
 obtain ⟨Ra,hA,hRa,hc⟩:=h.alc
 refine ⟨_,rfl,_,h.pv,aSetDat_c hA hb hlast hd hl0 f00 f1 hrd (fun q e r=>hdo q e (hRa _ r)) hal ha6 (badA_of ha) hra (fun e q e' r=>hao e q e' (hRa _ r)) fun w3 R3 m3 s3 h3=>⟨_,_,rfl,Share.dup (tt rfl ?_)⟩⟩
 obtain ⟨c1,c2,c3⟩:=hc w3 R3 _ m3 s3 h3
 refine fNote_c c3 (fun x hx=>opn_pat _ _ _ _ ((hM k x hx).1)) hml fun w5 R5 m5 s5 h5=>⟨rfl,hk w5 R5 (Mod.sb c1 c2 m5) (c2.trans s5 c1.size) h5⟩
theorem fGet_c {k:Int} (h63:k<=9223372036854775807) (h:Fo R w f a v d F) (hk:∀ w' R',Mod R w w'->Sb R R' w->Fo R' w' f a v d F->K (.tuple #[.agg ⟨nV (slotV F.A.V F.A.s.geo k).1⟩,.int .i64 (slotV F.A.V F.A.s.geo k).2]) w') :
  Cal Tryz.prog F_file_Files_Get #[.pointer (some ⟨f,0,none⟩),.int .i64 k] w K:=by
 apply C_file_Files_Get
 unfold D_file_Files_Get
 obtain ⟨w1,b1,b2,b3,b4⟩:=new_u (P:=Tryz.prog) (w:=w) (T:=51) zero_ino
 have h1:=h.nos b3
 have hlt:=h.lt
 have hd:=h.dlt
 obtain ⟨Ra,hA,hRa,hc⟩:=h1.alc
 refine ⟨_,w1,b1,ff rfl ⟨_,rfl,_,h1.pv,aInode_c h63 hA fun w2 R2 m2 s2 h2=>⟨_,_,rfl,?_⟩⟩⟩
 obtain ⟨c1,c2,c3⟩:=hc w2 R2 _ m2 s2 h2
 have n1:¬ R w.heap.size:=fun e=>by have:=hlt _ e; omega
 have n2:¬ (R w.heap.size\/R2 w.heap.size):=fun e=>by
  rcases c2 _ e with e | e
  ·exact n1 e
  ·omega
 obtain ⟨w3,d1,d2,d3,d4⟩:=(b2.keep c1 n1).put (T:=51) (vs:=nV (slotV F.A.V F.A.s.geo k).1) agg_ino rfl (nV_len (slotV_wf _ _ _)) (one_nV _)
 refine ⟨w3,d1,_,d2.at.all agg_ino (nV_len (slotV_wf _ _ _)),hk w3 _ ?_ (c2.up b3.size) (c3.own d3 n2 (by omega))⟩
 exact ((b3.mono fun _ _ e=>e.elim).trans c1 fun _ _ e=>e).trans d3 fun x hx e=>by have e:x=w.heap.size:=e; omega
def thF (F:Fy) (k:Int):Int:=if (slotV F.A.V F.A.s.geo k).2≠0 then (slotV F.A.V F.A.s.geo k).2 else if (slotV F.A.V F.A.s.geo k).1.kind=0 then 20 else 0
theorem fThing_c {k:Int} (h63:k<=9223372036854775807) (h:Fo R w f a v d F) (hk:∀ w' R',Mod R w w'->Sb R R' w->Fo R' w' f a v d F->K (.tuple #[.agg ⟨nV (slotV F.A.V F.A.s.geo k).1⟩,.int .i64 (thF F k)]) w') :
  Cal Tryz.prog F_file_Files_thing #[.pointer (some ⟨f,0,none⟩),.int .i64 k] w K:=by
 apply C_file_Files_thing
 unfold D_file_Files_thing
 obtain ⟨w1,b1,b2,b3,b4⟩:=new_u (P:=Tryz.prog) (w:=w) (T:=51) zero_ino
 have h1:=h.nos b3
 have hlt:=h.lt
 have hd:=h.dlt
 have hwf:=slotV_wf F.A.V F.A.s.geo k
 have hln:=nV_len hwf
 refine ⟨_,w1,b1,fGet_c h63 h1 fun w2 R2 m2 s2 h2=>⟨_,_,rfl,?_⟩⟩
 have n1:¬ R w.heap.size:=fun e=>by have:=hlt _ e; omega
 have n2:¬ R2 w.heap.size:=fun e=>by
  rcases s2 _ e with e | e
  ·exact n1 e
  ·omega
 have z2:=m2.size
 obtain ⟨w3,d1,d2,d3,d4⟩:=new_u (P:=Tryz.prog) (w:=w2) (T:=51) zero_ino
 obtain ⟨w4,e1,e2,e3,e4⟩:=d2.put (T:=51) (vs:=nV (slotV F.A.V F.A.s.geo k).1) agg_ino rfl hln (one_nV _)
 have M4:Mod No w2 w4:=d3.own e3 (Nat.le_refl _)
 have h4:=h2.nos M4
 have q4:=((b2.keep m2 n1).keep M4 id)
 have MM:Mod R w w4:=((b3.mono fun _ _ e=>e.elim).trans m2 fun _ _ e=>e).no M4
 have S4:=s2.up b3.size
 refine ⟨_,w3,d1,w4,e1,Share.cut (fun z w5=>w4=w5/\z=[.bool (decide ((slotV F.A.V F.A.s.geo k).2=0/\(slotV F.A.V F.A.s.geo k).1.kind=0))]) ?_ ?_⟩
 ·rw [beqI]
  refine cond_of (fun he=>⟨_,e2.at.fld (v:=.int .i64 (slotV F.A.V F.A.s.geo k).1.kind) sc_int rfl,rfl,?_⟩) (fun he=>⟨rfl,?_⟩)
  ·have he:=of_decide_eq_true he
   rw [beqI]
   exact bcell ⟨fun e=>⟨he,e⟩,And.right⟩
  ·have he:=of_decide_eq_false he
   exact bcellF fun e=>he e.1
 rintro z w5 ⟨rfl,rfl⟩
 have fin:∀ e:Int,e=thF F k->∃ g21:Array Value,Ru (Instr.loadAt 51 (.pointer (some ⟨w2.heap.size,0,none⟩))) w4 (.agg g21) w4/\∃ n7:Int,nth [Value.int .i64 e] 0=.int .i64 n7/\∃ w7:World,RuU (Instr.storeAt 51 (.pointer (some ⟨w.heap.size,0,none⟩)) (.agg g21)) w4 w7/\∃ gR4:Array Value,Ru (Instr.loadAt 51 (.pointer (some ⟨w.heap.size,0,none⟩))) w7 (.agg gR4) w7/\K (.tuple #[.agg gR4,.int .i64 n7]) w7:=fun e he=>by
  obtain ⟨w7,g1,g2,g3,g4⟩:=q4.put (T:=51) (vs:=nV (slotV F.A.V F.A.s.geo k).1) agg_ino rfl hln (one_nV _)
  refine ⟨_,e2.at.all agg_ino hln,_,rfl,w7,g1,_,g2.at.all agg_ino hln,?_⟩
  rw [he]
  exact hk w7 R2 (MM.trans g3 fun x hx e=>by have e:x=w.heap.size:=e; omega) S4 (h4.own g3 n2 (by omega))
 refine ⟨_,rfl,Share.dup (cond_of (fun hb=>fin _ ?_) (fun hb=>fin _ ?_))⟩
 ·have hb:=of_decide_eq_true hb
  unfold thF; rw [if_neg (by rw [hb.1]; decide),if_pos hb.2]
 ·have hb:=of_decide_eq_false hb
  unfold thF
  split
  ·rfl
  ·rename_i x
   have x:(slotV F.A.V F.A.s.geo k).2=0:=Classical.not_not.1 x
   rw [if_neg fun y=>hb ⟨x,y⟩,x]
end
end Go.Proofs.YtandmpcjjaabmaaGreat
end
